/- Arithmetic that the VCs come to. Sets of places: what two sets come to. Sets of places: ranks, lists, parts. The document's sets of places: words, places, lists. The document's sets of places: ranks, what two come to, parts. Sparse vectors: which are right. Sparse vectors: without some items. Sparse vectors: the document's functions. Sparse vectors: the document's Put; Over. Two sparse vectors: the program's answers are the document's. In plain words. The document's values of a vector at places. A vector without a value: Drop of both. Dense vectors: which are right; new ones; copies. -/
import Derived.Test.YtahpfomabgfmkaaKK
namespace Go.Proofs.Ytahpfomabgfmkaa
section
theorem ar_tdiv {a b : Int} {K : Int → Prop} (ha : 0 ≤ a) (hb : 0 < b) (h : a ≤ 9223372036854775807) (hK : K (a / b)) : ∃ z', Ar .i64 (a.tdiv b) z' ∧ K z' := by
  refine ⟨a / b, Or.inl ⟨?_, (Int.tdiv_eq_ediv_of_nonneg ha).symm⟩, hK⟩
  rw [Int.tdiv_eq_ediv_of_nonneg ha]
  have h1 : 0 ≤ a / b := Int.ediv_nonneg ha (by omega)
  have h2 : a / b ≤ a := Int.ediv_le_self b ha
  exact ⟨by omega, by omega⟩

section
variable {P : Program} {M : Nat} {ks : List Nat} {y : Yv} {e : Env} {H : List Blk} {g : Option Nat}

variable {K : Ex → Env → List Blk → Option Nat → Prop}
end
end
section
open Go.RowKit
attribute [local irreducible] FS FO IT HS

theorem frz_tab {n : Nat} {ws : List Nat} (h : ws.length = n) : frzK 4 [.arr 1 (uw ws)] (.osl 0 1 0 n) fun y => y = U ws := by
  refine ⟨rfl, by rw [U_len]; omega, ?_⟩
  subst h
  rw [frz_U rfl]

section
variable (a b : List Nat) (ha : Wd a) (hb : Wd b) (hla : a.length ≤ 1000000) (hlb : b.length ≤ 1000000)
include ha hb hla hlb

end
end
section
open Go.RowKit
attribute [local irreducible] FS FO IT HS

def I (l : List Nat) : SV := .slc 1 (ints l)
end
section
open Go.RowKit
attribute [local irreducible] FS FO IT HS

theorem ints_at {l : List Nat} {k : Nat} {x : List SV} (h : (ints l)[k]? = some x) : x = [.int .i64 ((l.getD k 0 : Nat) : Int)] := by
  obtain ⟨v, hv, rfl⟩ := ints_get' h
  rw [List.getD_eq_getElem?_getD, hv]; rfl
/-- Numbers of Go. -/
def Zb (l : List Int) : Prop := ∀ x ∈ l, -9223372036854775808 ≤ x ∧ x ≤ 9223372036854775807
theorem Zb.at {l : List Int} (h : Zb l) (k : Nat) : -9223372036854775808 ≤ l.getD k 0 ∧ l.getD k 0 ≤ 9223372036854775807 := by
  rw [List.getD_eq_getElem?_getD]
  cases hv : l[k]? with
  | none => simp
  | some v => exact h v (List.mem_of_getElem? hv)
def ir_fretworkref03_words : IR :=
(.seq (.reg (⟨(some 2), .mv (.c (.int .i64 0)), none⟩ :: [])) (.seq (.seq (.reg (⟨(some 3), .mv (.t 0), none⟩ ::⟨(some 4), .bin .gtr (.t 3) (.c (.int .i64 4096)), none⟩ :: [])) (.cond (.t 4) (.reg (⟨(some 0), .mv (.c (.int .i64 4096)), none⟩ :: [])) .skip)) (.seq (.seq (.reg (⟨(some 5), .mv (.t 0), none⟩ ::⟨(some 6), .bin .lss (.t 5) (.c (.int .i64 1)), none⟩ :: [])) (.cond (.t 6) (.seq (.reg (⟨(some 2), .mv (.c (.int .i64 0)), none⟩ :: [])) .ret) .skip)) (.seq (.reg (⟨(some 7), .mv (.t 0), none⟩ ::⟨(some 8), .bin .add (.t 7) (.c (.int .i64 63)), none⟩ ::⟨(some 9), .bin .quo (.t 8) (.c (.int .i64 64)), none⟩ ::⟨(some 2), .mv (.t 9), none⟩ :: [])) .ret))))
theorem cd_fretworkref03_words : Code1 Try.prog 116 10 ir_fretworkref03_words [.t 2] := ⟨Try.call116, _, _, Try.func116, rfl, by kernel_rfl, by kernel_rfl, by kernel_rfl, by kernel_rfl⟩

theorem fs_rwords (n : Int) (h0 : -9223372036854775808 ≤ n) (h1 : n ≤ 9223372036854775807) : FS Try.prog 116 [.int .i64 n] (.int .i64 (wordsI n)) := by
  refine fs_of_cvc mixed cd_fretworkref03_words (by simp) ?_
  repeat' (conv => whnf); first
    | ((refine fun x hx => ?_); (obtain ⟨v, hv, rfl⟩ := U_get hx))
    | ((refine fun x hx => ?_); (obtain rfl := zs_at hx; clear hx))
    | ((refine fun x hx => ?_); (obtain rfl := ints_at hx; clear hx))
    | ((refine And.intro rfl (And.intro (by simp only [U_len, tab_len, List.length_set]; omega) ?_)))
    | ((refine ar_tdiv (by omega) (by omega) (by omega) ?_))
    | (refine Br.tt ?_)
    | (refine Br.ff ?_)
    | (refine Br.dec (fun h => ?_) (fun h => ?_)) <;> try (exfalso; omega)
    | (refine Br.neg ?_)
    | (refine Br.mk (fun h => ?_) (fun h => ?_))
    | (refine And.intro rfl ?_)
    | (refine And.intro (by omega) ?_)
    | (refine ⟨_, Or.inl ⟨⟨by omega, by omega⟩, rfl⟩, ?_⟩)
    | (refine And.intro (by simp only [lens_all, U_len, tab_len, ints_len, zs_len]; first | done | omega) ?_)
    | (refine And.intro (Nat.le_refl _) ?_)
    | fail
  all_goals (show SV.int .i64 _ = SV.int .i64 _; unfold wordsI; congr 1; omega)

def ir_fretworkref03_New : IR :=
(.seq (.reg (⟨(some 2), .mv (.c (.nils)), none⟩ :: [])) (.seq (.reg (⟨(some 3), .mv (.t 0), none⟩ ::⟨(some 4), .call (.c (.fn 116 [])) [(.t 3)], none⟩ ::⟨(some 5), .mk 1 8 [.int .u64 0] (.t 4) (.t 4), none⟩ ::⟨(some 2), .mv (.t 5), none⟩ :: [])) .ret))
theorem cd_fretworkref03_New : Code1 Try.prog 79 6 ir_fretworkref03_New [.t 2] := ⟨Try.call79, _, _, Try.func79, rfl, by kernel_rfl, by kernel_rfl, by kernel_rfl, by kernel_rfl⟩

theorem fo_rNew (n : Int) (h0 : -9223372036854775808 ≤ n) (h1 : n ≤ 9223372036854775807) : FO Try.prog 79 [.int .i64 n] (.osl 0 1 0 (wordsI n)) [.arr 1 (uw (List.replicate (wordsI n) 0))] := by
  refine fo_of_cvc mixed cd_fretworkref03_New (by simp) ?_
  have hw : wordsI n ≤ 64 := by unfold wordsI; omega
  refine Or.inl ⟨rfl, _, fs_rwords n h0 h1, ?_⟩
  refine ⟨by omega, Int.le_refl _, by omega, by omega, rfl, ?_⟩
  refine Or.inl ⟨[0], rfl, ?_, by simp, rfl, rfl⟩
  show [some (Blk.arr 1 (List.replicate (wordsI n : Int).toNat [.int .u64 0]))] = _
  simp [uw]
def zeroW (n : Int) : List Nat := List.replicate (wordsI n) 0
theorem zeroW_len (n : Int) : (zeroW n).length = wordsI n := by simp [zeroW]
theorem fs_rNew (n : Int) (h0 : -9223372036854775808 ≤ n) (h1 : n ≤ 9223372036854775807) : FS Try.prog 79 [.int .i64 n] (U (zeroW n)) := fs_of_fo (fo_rNew n h0 h1) (frz_tab (zeroW_len n))
theorem rem_nn {i : Int} (h0 : 0 ≤ i) : i.tmod 64 = i % 64 := Int.tmod_eq_emod_of_nonneg h0

def ir_fretworkref03_Has : IR :=
(.seq (.reg (⟨(some 4), .mv (.c (.bool false)), none⟩ :: [])) (.seq (.reg (⟨(some 5), .mv (.t 1), none⟩ ::⟨(some 6), .bin .geq (.t 5) (.c (.int .i64 0)), none⟩ ::⟨(some 7), .mv (.t 6), none⟩ ::⟨(some 8), .mv (.t 1), some (7, true)⟩ ::⟨(some 9), .bin .quo (.t 8) (.c (.int .i64 64)), some (7, true)⟩ ::⟨(some 10), .mv (.t 0), some (7, true)⟩ ::⟨(some 11), .ln (.t 10), some (7, true)⟩ ::⟨(some 12), .bin .lss (.t 9) (.t 11), some (7, true)⟩ ::⟨(some 13), .pick (.t 7) (.t 12) (.c (.bool false)), none⟩ ::⟨(some 14), .mv (.t 13), none⟩ ::⟨(some 15), .mv (.t 0), some (14, true)⟩ ::⟨(some 16), .mv (.t 1), some (14, true)⟩ ::⟨(some 17), .bin .quo (.t 16) (.c (.int .i64 64)), some (14, true)⟩ ::⟨(some 18), .ia 1 (.t 15) (.t 17), some (14, true)⟩ ::⟨(some 19), .ld 1 false (.t 18), some (14, true)⟩ ::⟨(some 20), .mv (.t 1), some (14, true)⟩ ::⟨(some 21), .bin .rem (.t 20) (.c (.int .i64 64)), some (14, true)⟩ ::⟨(some 22), .cv .u64 (.t 21), some (14, true)⟩ ::⟨(some 23), .bin .shr (.t 19) (.t 22), some (14, true)⟩ ::⟨(some 24), .bin .and (.t 23) (.c (.int .u64 1)), some (14, true)⟩ ::⟨(some 25), .bin .eql (.t 24) (.c (.int .u64 1)), some (14, true)⟩ ::⟨(some 26), .pick (.t 14) (.t 25) (.c (.bool false)), none⟩ ::⟨(some 4), .mv (.t 26), none⟩ :: [])) .ret))
theorem cd_fretworkref03_Has : Code1 Try.prog 68 27 ir_fretworkref03_Has [.t 4] := ⟨Try.call68, _, _, Try.func68, rfl, by kernel_rfl, by kernel_rfl, by kernel_rfl, by kernel_rfl⟩

theorem fs_rHas (ws : List Nat) (hw : Wd ws) (_hl : ws.length ≤ 1000000) (i : Int) (h1 : i ≤ 9223372036854775807) : FS Try.prog 68 [U ws, .int .i64 i] (.bool (hasI ws i)) := by
  refine fs_of_cvc mixed cd_fretworkref03_Has (by simp) ?_
  repeat' (conv => whnf); first
    | ((refine fun x hx => ?_); (obtain ⟨v, hv, rfl⟩ := U_get hx))
    | ((refine fun x hx => ?_); (obtain rfl := zs_at hx; clear hx))
    | ((refine fun x hx => ?_); (obtain rfl := ints_at hx; clear hx))
    | ((refine And.intro rfl (And.intro (by simp only [U_len, tab_len, List.length_set]; omega) ?_)))
    | ((refine ar_tdiv (by omega) (by omega) (by omega) ?_))
    | (refine Br.tt ?_)
    | (refine Br.ff ?_)
    | (refine Br.dec (fun h => ?_) (fun h => ?_)) <;> try (exfalso; omega)
    | (refine Br.neg ?_)
    | (refine Br.mk (fun h => ?_) (fun h => ?_))
    | (refine And.intro rfl ?_)
    | (refine And.intro (by omega) ?_)
    | (refine ⟨_, Or.inl ⟨⟨by omega, by omega⟩, rfl⟩, ?_⟩)
    | (refine And.intro (by simp only [lens_all, U_len, tab_len, ints_len, zs_len]; first | done | omega) ?_)
    | (refine And.intro (Nat.le_refl _) ?_)
    | fail
  · rename_i h0
    have e := rem_nn h0
    have e2 : i.toNat % 64 < 64 := Nat.mod_lt _ (by omega)
    have hvw := hw v (List.mem_of_getElem? hv)
    repeat' (conv => whnf); first
      | ((refine fun x hx => ?_); (obtain ⟨v, hv, rfl⟩ := U_get hx))
      | ((refine fun x hx => ?_); (obtain rfl := zs_at hx; clear hx))
      | ((refine fun x hx => ?_); (obtain rfl := ints_at hx; clear hx))
      | ((refine And.intro rfl (And.intro (by simp only [U_len, tab_len, List.length_set]; omega) ?_)))
      | ((refine ar_tdiv (by omega) (by omega) (by omega) ?_))
      | (refine Br.tt ?_)
      | (refine Br.ff ?_)
      | (refine Br.dec (fun h => ?_) (fun h => ?_)) <;> try (exfalso; omega)
      | (refine Br.neg ?_)
      | (refine Br.mk (fun h => ?_) (fun h => ?_))
      | (refine And.intro rfl ?_)
      | (refine And.intro (by omega) ?_)
      | (refine ⟨_, Or.inl ⟨⟨by omega, by omega⟩, rfl⟩, ?_⟩)
      | (refine And.intro (by simp only [lens_all, U_len, tab_len, ints_len, zs_len]; first | done | omega) ?_)
      | (refine And.intro (Nat.le_refl _) ?_)
      | fail
    show SV.bool (decide (bAnd .u64 ((v : Int) / 2 ^ (min (i.tmod 64).toNat IntKind.u64.bits)) 1 = 1)) = _
    have e3 : (v : Int) / 2 ^ (min (i.tmod 64).toNat IntKind.u64.bits) = ((v / 2 ^ (i.toNat % 64) : Nat) : Int) := by
      rw [bits_u64, show min (i.tmod 64).toNat 64 = i.toNat % 64 by omega]; simp
    have hd : v / 2 ^ (i.toNat % 64) < 18446744073709551616 := Nat.lt_of_le_of_lt (Nat.div_le_self _ _) hvw
    have e4 := bAnd_u64 (x := v / 2 ^ (i.toNat % 64)) (y := 1) hd (by omega)
    rw [e3, show bAnd .u64 ((v / 2 ^ (i.toNat % 64) : Nat) : Int) 1 = bAnd .u64 ((v / 2 ^ (i.toNat % 64) : Nat) : Int) ((1 : Nat) : Int) from rfl, e4, hasI_of h0 hv, Nat.testBit_eq_decide_div_mod_eq, show v / 2 ^ (i.toNat % 64) &&& 1 = v / 2 ^ (i.toNat % 64) % 2 from and_mask _ 1]
    congr 1
    rw [Bool.eq_iff_iff, decide_eq_true_iff, decide_eq_true_iff]
    omega
  · show SV.bool false = _
    rename_i h0
    rw [U_len] at h
    rw [hasI_out (by simp [inW]; intro; omega)]
  · show SV.bool false = _
    rw [hasI_out (by simp [inW]; omega)]

def ir_fretworkref03_set : IR :=
(.seq (.reg (⟨(some 6), .mv (.c (.nils)), none⟩ :: [])) (.seq (.reg (⟨(some 7), .mv (.c (.nils)), none⟩ :: [])) (.seq (.reg (⟨(some 9), .mv (.t 7), none⟩ ::⟨(some 10), .mv (.t 0), none⟩ ::⟨(some 11), .ap 1 8 (.t 9) (.t 10), none⟩ ::⟨(some 7), .mv (.t 11), none⟩ :: [])) (.seq (.seq (.reg (⟨(some 12), .mv (.t 1), none⟩ ::⟨(some 13), .bin .lss (.t 12) (.c (.int .i64 0)), none⟩ ::⟨(some 14), .mv (.t 13), none⟩ ::⟨(some 15), .mv (.t 1), some (14, false)⟩ ::⟨(some 16), .bin .quo (.t 15) (.c (.int .i64 64)), some (14, false)⟩ ::⟨(some 17), .mv (.t 0), some (14, false)⟩ ::⟨(some 18), .ln (.t 17), some (14, false)⟩ ::⟨(some 19), .bin .geq (.t 16) (.t 18), some (14, false)⟩ ::⟨(some 20), .pick (.t 14) (.c (.bool true)) (.t 19), none⟩ :: [])) (.cond (.t 20) (.seq (.reg (⟨(some 21), .mv (.t 7), none⟩ ::⟨(some 6), .mv (.t 21), none⟩ :: [])) .ret) .skip)) (.seq (.reg (⟨(some 22), .mv (.t 1), none⟩ ::⟨(some 23), .bin .rem (.t 22) (.c (.int .i64 64)), none⟩ ::⟨(some 24), .cv .u64 (.t 23), none⟩ ::⟨(some 25), .bin .shl (.c (.int .u64 1)) (.t 24), none⟩ ::⟨(some 8), .mv (.t 25), none⟩ :: [])) (.seq (.seq (.reg (⟨(some 26), .mv (.t 2), none⟩ :: [])) (.cond (.t 26) (.reg (⟨(some 27), .mv (.t 7), none⟩ ::⟨(some 28), .mv (.t 1), none⟩ ::⟨(some 29), .bin .quo (.t 28) (.c (.int .i64 64)), none⟩ ::⟨(some 30), .mv (.t 7), none⟩ ::⟨(some 31), .mv (.t 1), none⟩ ::⟨(some 32), .bin .quo (.t 31) (.c (.int .i64 64)), none⟩ ::⟨(some 33), .ia 1 (.t 30) (.t 32), none⟩ ::⟨(some 34), .ld 1 false (.t 33), none⟩ ::⟨(some 35), .mv (.t 8), none⟩ ::⟨(some 36), .bin .or (.t 34) (.t 35), none⟩ ::⟨(some 37), .ia 1 (.t 27) (.t 29), none⟩ ::⟨none, .st 1 (.t 37) (.t 36), none⟩ :: [])) (.reg (⟨(some 38), .mv (.t 7), none⟩ ::⟨(some 39), .mv (.t 1), none⟩ ::⟨(some 40), .bin .quo (.t 39) (.c (.int .i64 64)), none⟩ ::⟨(some 41), .mv (.t 7), none⟩ ::⟨(some 42), .mv (.t 1), none⟩ ::⟨(some 43), .bin .quo (.t 42) (.c (.int .i64 64)), none⟩ ::⟨(some 44), .ia 1 (.t 41) (.t 43), none⟩ ::⟨(some 45), .ld 1 false (.t 44), none⟩ ::⟨(some 46), .mv (.t 8), none⟩ ::⟨(some 47), .bin .andNot (.t 45) (.t 46), none⟩ ::⟨(some 48), .ia 1 (.t 38) (.t 40), none⟩ ::⟨none, .st 1 (.t 48) (.t 47), none⟩ :: [])))) (.seq (.reg (⟨(some 49), .mv (.t 7), none⟩ ::⟨(some 6), .mv (.t 49), none⟩ :: [])) .ret)))))))
theorem cd_fretworkref03_set : Code1 Try.prog 123 50 ir_fretworkref03_set [.t 6] := ⟨Try.call123, _, _, Try.func123, rfl, by kernel_rfl, by kernel_rfl, by kernel_rfl, by kernel_rfl⟩

def ir_fretworkref03_Put : IR :=
(.seq (.reg (⟨(some 4), .mv (.c (.nils)), none⟩ :: [])) (.seq (.reg (⟨(some 5), .mv (.t 0), none⟩ ::⟨(some 6), .mv (.t 1), none⟩ ::⟨(some 7), .call (.c (.fn 123 [])) [(.t 5), (.t 6), (.c (.bool true))], none⟩ ::⟨(some 4), .mv (.t 7), none⟩ :: [])) .ret))
theorem cd_fretworkref03_Put : Code1 Try.prog 88 8 ir_fretworkref03_Put [.t 4] := ⟨Try.call88, _, _, Try.func88, rfl, by kernel_rfl, by kernel_rfl, by kernel_rfl, by kernel_rfl⟩

theorem fs_rset (ws : List Nat) (hw : Wd ws) (hl : ws.length ≤ 1000000) (i : Int) (h1 : i ≤ 9223372036854775807) (b : Bool) : FS Try.prog 123 [U ws, .int .i64 i, .bool b] (U (turn ws i (if b then (· ||| ·) else natAndNot))) := by
  refine fs_of_cvc mixed cd_fretworkref03_set (by simp) ?_
  have hlen := U_len ws
  repeat' (conv => whnf); first
    | ((refine And.intro (scal ws) ?_))
    | ((refine fun x hx => ?_); (obtain ⟨v, hv, rfl⟩ := U_get hx))
    | ((refine fun x hx => ?_); (obtain rfl := zs_at hx; clear hx))
    | ((refine fun x hx => ?_); (obtain rfl := ints_at hx; clear hx))
    | ((refine And.intro rfl (And.intro (by simp only [U_len]; omega) ?_)))
    | ((refine ar_tdiv (by omega) (by omega) (by omega) ?_))
    | (refine Br.tt ?_)
    | (refine Br.ff ?_)
    | (refine Br.dec (fun h => ?_) (fun h => ?_)) <;> try (exfalso; omega)
    | (refine Br.neg ?_)
    | (refine Br.mk (fun h => ?_) (fun h => ?_))
    | (refine And.intro rfl ?_)
    | (refine And.intro (by omega) ?_)
    | (refine ⟨_, Or.inl ⟨⟨by omega, by omega⟩, rfl⟩, ?_⟩)
    | (refine And.intro (by simp only [lens_all, U_len, tab_len, ints_len, zs_len]; first | done | omega) ?_)
    | (refine And.intro (Nat.le_refl _) ?_)
    | fail
  · show SV.slc 1 (List.take (uw ws).length (List.drop 0 (uw ws))) = _
    rw [hlen, frz_U rfl, turn, if_neg (by simp [inW]; omega)]; rfl
  · show SV.slc 1 (List.take (uw ws).length (List.drop 0 (uw ws))) = _
    rw [hlen, frz_U rfl, turn, if_neg (by simp [inW]; intro; omega)]; rfl
  · rename_i h0
    have h0' : 0 ≤ i := by omega
    have e := rem_nn h0'
    have e2 : i.toNat % 64 < 64 := Nat.mod_lt _ (by omega)
    have hp := pow_lt64 e2
    have hpos : 0 < 2 ^ (i.toNat % 64) := Nat.pow_pos (by omega)
    have e3 : (1 : Int) * 2 ^ (min (i.tmod 64).toNat IntKind.u64.bits) = ((2 ^ (i.toNat % 64) : Nat) : Int) := by
      rw [bits_u64, show min (i.tmod 64).toNat 64 = i.toNat % 64 by omega]; simp
    have hin : inW ws i = true := by simp [inW]; omega
    repeat' (conv => whnf); first
      | ((refine ⟨_, uw_at (by omega), ?_⟩))
      | ((refine fun x hx => ?_); (obtain ⟨v, hv, rfl⟩ := U_get hx))
      | ((refine fun x hx => ?_); (obtain rfl := zs_at hx; clear hx))
      | ((refine fun x hx => ?_); (obtain rfl := ints_at hx; clear hx))
      | ((refine And.intro rfl (And.intro (by simp only [U_len, List.length_set]; omega) ?_)))
      | ((refine ar_tdiv (by omega) (by omega) (by omega) ?_))
      | (refine Br.tt ?_)
      | (refine Br.ff ?_)
      | (refine Br.dec (fun h => ?_) (fun h => ?_)) <;> try (exfalso; omega)
      | (refine Br.neg ?_)
      | (refine Br.mk (fun h => ?_) (fun h => ?_))
      | (refine And.intro rfl ?_)
      | (refine And.intro (by omega) ?_)
      | (refine ⟨_, Or.inl ⟨⟨by omega, by omega⟩, rfl⟩, ?_⟩)
      | (refine And.intro (by simp only [lens_all, U_len, tab_len, ints_len, zs_len]; first | done | omega) ?_)
      | (refine And.intro (Nat.le_refl _) ?_)
      | fail
    · subst h
      show SV.slc 1 (List.take (uw ws).length (List.drop 0 ((uw ws).set (0 + (i / 64).toNat) [SV.int .u64 (bOr .u64 ((ws.getD (0 + (i / 64).toNat) 0 : Nat) : Int) (1 * 2 ^ (min (i.tmod 64).toNat IntKind.u64.bits)))]))) = _
      rw [e3, bOr_u64 (getD_lt hw _) hp, uw_set, hlen, frz_U (by simp), turn, if_pos hin, Nat.zero_add]
      rfl
    · subst h
      show SV.slc 1 (List.take (uw ws).length (List.drop 0 ((uw ws).set (0 + (i / 64).toNat) [SV.int .u64 (bAndNot .u64 ((ws.getD (0 + (i / 64).toNat) 0 : Nat) : Int) (1 * 2 ^ (min (i.tmod 64).toNat IntKind.u64.bits)))]))) = _
      rw [e3, bAndNot_u64 (getD_lt hw _) hp, uw_set, hlen, frz_U (by simp), turn, if_pos hin, Nat.zero_add]
      rfl
theorem fs_rPut (ws : List Nat) (hw : Wd ws) (hl : ws.length ≤ 1000000) (i : Int) (h1 : i ≤ 9223372036854775807) : FS Try.prog 88 [U ws, .int .i64 i] (U (put1 ws i)) := by
  refine fs_of_cvc mixed cd_fretworkref03_Put (by simp) ?_
  refine Or.inl ⟨rfl, _, fs_rset ws hw hl i h1 true, ?_⟩
  exact rfl

def ir_fretworkref03_List : IR :=
(.seq (.reg (⟨(some 2), .mv (.c (.nils)), none⟩ :: [])) (.seq (.reg (⟨(some 3), .mv (.c (.nils)), none⟩ :: [])) (.seq (.seq (.reg (⟨(some 4), .mv (.c (.int .i64 0)), none⟩ :: [])) (.block 0 (.loop (.seq (.seq (.reg (⟨(some 5), .mv (.t 4), none⟩ ::⟨(some 6), .mv (.t 0), none⟩ ::⟨(some 7), .ln (.t 6), none⟩ ::⟨(some 8), .bin .mul (.c (.int .i64 64)) (.t 7), none⟩ ::⟨(some 9), .bin .lss (.t 5) (.t 8), none⟩ :: [])) (.cond (.t 9) .skip (.exit 0))) (.seq (.block 1 (.seq (.reg (⟨(some 12), .mv (.t 0), none⟩ ::⟨(some 13), .mv (.t 4), none⟩ ::⟨(some 14), .call (.c (.fn 68 [])) [(.t 12), (.t 13)], none⟩ :: [])) (.cond (.t 14) (.reg (⟨(some 15), .mv (.t 3), none⟩ ::⟨(some 16), .mv (.t 4), none⟩ ::⟨(some 17), .bsl 1 1 [.int .i64 0] [(0, (.t 16))], none⟩ ::⟨(some 18), .ap 1 8 (.t 15) (.t 17), none⟩ ::⟨(some 3), .mv (.t 18), none⟩ :: [])) .skip))) (.reg (⟨(some 10), .mv (.t 4), none⟩ ::⟨(some 11), .bin .add (.t 10) (.c (.int .i64 1)), none⟩ ::⟨(some 4), .mv (.t 11), none⟩ :: []))))))) (.seq (.reg (⟨(some 19), .mv (.t 3), none⟩ ::⟨(some 2), .mv (.t 19), none⟩ :: [])) .ret))))
theorem cd_fretworkref03_List : Code1 Try.prog 72 20 ir_fretworkref03_List [.t 2] := ⟨Try.call72, _, _, Try.func72, rfl, by kernel_rfl, by kernel_rfl, by kernel_rfl, by kernel_rfl⟩

theorem fs_rList (ws : List Nat) (hw : Wd ws) (hl : ws.length ≤ 1000000) : FS Try.prog 72 [U ws] (I (bits ws)) := by
  refine fs_of_cvc mixed cd_fretworkref03_List (by simp) ?_
  repeat' (conv => whnf); first
    | ((refine fun x hx => ?_); (obtain ⟨v, hv, rfl⟩ := U_get hx))
    | ((refine fun x hx => ?_); (obtain rfl := zs_at hx; clear hx))
    | ((refine fun x hx => ?_); (obtain rfl := ints_at hx; clear hx))
    | ((refine And.intro rfl (And.intro (by simp only [U_len, tab_len, List.length_set]; omega) ?_)))
    | ((refine ar_tdiv (by omega) (by omega) (by omega) ?_))
    | (refine Br.tt ?_)
    | (refine Br.ff ?_)
    | (refine Br.dec (fun h => ?_) (fun h => ?_)) <;> try (exfalso; omega)
    | (refine Br.neg ?_)
    | (refine Br.mk (fun h => ?_) (fun h => ?_))
    | (refine And.intro rfl ?_)
    | (refine And.intro (by omega) ?_)
    | (refine ⟨_, Or.inl ⟨⟨by omega, by omega⟩, rfl⟩, ?_⟩)
    | (refine And.intro (by simp only [lens_all, U_len, tab_len, ints_len, zs_len]; first | done | omega) ?_)
    | (refine And.intro (Nat.le_refl _) ?_)
    | fail
  refine ⟨Nat, fun k => k ≤ 64 * ws.length, fun k => [(0, U ws), (3, .osl 0 1 0 ((List.range k).filter (hasN ws)).length), (4, .int .i64 (k : Int))], fun k => [.arr 1 (ints ((List.range k).filter (hasN ws)))], fun _ => none, fun k => 64 * ws.length - k, ⟨0, by omega, ⟨rfl, ⟨by simp, rfl, rfl⟩, rfl, trivial⟩, ⟨rfl, trivial⟩, rfl⟩, fun k hk => ?_⟩
  have hk' : k ≤ 64 * ws.length := hk
  have hlen := U_len ws
  have hfl := List.length_filter_le (hasN ws) (List.range k)
  rw [List.length_range] at hfl
  have next : (List.range (k + 1)).filter (hasN ws) = (List.range k).filter (hasN ws) ++ (if hasN ws k then [k] else []) := by
    rw [List.range_succ, List.filter_append]; simp [List.filter_cons]
  obtain ⟨b, hb⟩ : ∃ b, hasN ws k = b := ⟨_, rfl⟩
  have hH : k < 9223372036854775807 → FS Try.prog 68 [U ws, .int .i64 (k : Int)] (.bool b) := fun h => by
    have := fs_rHas ws hw hl k (by omega)
    rwa [show hasI ws k = b by rw [← hb]; simp [hasI]] at this
  rw [hb] at next
  repeat' (conv => whnf); first
    | ((refine Or.inl ⟨rfl, _, hH (by omega), ?_⟩))
    | ((refine And.intro (Or.inl (Nat.zero_le _)) ?_))
    | ((refine And.intro (by intro y hy; simp at hy; subst hy; rfl) ?_))
    | ((refine fun x hx => ?_); (obtain ⟨v, hv, rfl⟩ := U_get hx))
    | ((refine fun x hx => ?_); (obtain rfl := zs_at hx; clear hx))
    | ((refine fun x hx => ?_); (obtain rfl := ints_at hx; clear hx))
    | ((refine And.intro rfl (And.intro (by simp only [U_len]; omega) ?_)))
    | ((refine ar_tdiv (by omega) (by omega) (by omega) ?_))
    | (refine Br.tt ?_)
    | (refine Br.ff ?_)
    | (refine Br.dec (fun h => ?_) (fun h => ?_)) <;> try (exfalso; omega)
    | (refine Br.neg ?_)
    | (refine Br.mk (fun h => ?_) (fun h => ?_))
    | (refine And.intro rfl ?_)
    | (refine And.intro (by omega) ?_)
    | (refine ⟨_, Or.inl ⟨⟨by omega, by omega⟩, rfl⟩, ?_⟩)
    | (refine And.intro (by simp only [lens_all, U_len, ints_len]; first | done | omega) ?_)
    | (refine And.intro (Nat.le_refl _) ?_)
    | fail
  · subst h
    rw [if_pos rfl] at next
    refine ⟨k + 1, (show k + 1 ≤ 64 * ws.length by omega), (show 64 * ws.length - (k + 1) < 64 * ws.length - k by omega), ⟨rfl, ?_, rfl, trivial⟩, ⟨?_, trivial⟩, rfl⟩
    · show SV.osl 0 1 0 (((List.range k).filter (hasN ws)).length + 1) = SV.osl 0 1 0 ((List.range (k + 1)).filter (hasN ws)).length
      rw [next, List.length_append]; rfl
    · show Blk.arr 1 (ints ((List.range k).filter (hasN ws)) ++ [[SV.int .i64 (k : Int)]]) = Blk.arr 1 (ints ((List.range (k + 1)).filter (hasN ws)))
      rw [next]; simp [ints]
  · subst h
    rw [if_neg (by simp), List.append_nil] at next
    refine ⟨k + 1, (show k + 1 ≤ 64 * ws.length by omega), (show 64 * ws.length - (k + 1) < 64 * ws.length - k by omega), ⟨rfl, ?_, rfl, trivial⟩, ⟨?_, trivial⟩, rfl⟩
    · show SV.osl 0 1 0 ((List.range k).filter (hasN ws)).length = SV.osl 0 1 0 ((List.range (k + 1)).filter (hasN ws)).length
      rw [next]
    · show Blk.arr 1 (ints ((List.range k).filter (hasN ws))) = Blk.arr 1 (ints ((List.range (k + 1)).filter (hasN ws)))
      rw [next]
  · have hkl : k = 64 * ws.length := by omega
    show SV.slc 1 _ = I (bits ws)
    rw [List.drop_zero, bits_eq hw, ← hkl, List.take_of_length_le (by rw [ints_len]; omega)]
    rfl

def ir_fretworkref03_Of : IR :=
(.seq (.reg (⟨(some 4), .mv (.c (.nils)), none⟩ :: [])) (.seq (.reg (⟨(some 7), .mv (.t 0), none⟩ ::⟨(some 8), .call (.c (.fn 79 [])) [(.t 7)], none⟩ ::⟨(some 5), .mv (.t 8), none⟩ :: [])) (.seq (.seq (.reg (⟨(some 6), .mv (.c (.int .i64 0)), none⟩ :: [])) (.block 0 (.loop (.seq (.seq (.reg (⟨(some 9), .mv (.t 6), none⟩ ::⟨(some 10), .mv (.t 1), none⟩ ::⟨(some 11), .ln (.t 10), none⟩ ::⟨(some 12), .bin .lss (.t 9) (.t 11), none⟩ :: [])) (.cond (.t 12) .skip (.exit 0))) (.seq (.block 1 (.seq (.reg (⟨(some 15), .mv (.t 1), none⟩ ::⟨(some 16), .mv (.t 6), none⟩ ::⟨(some 17), .ia 1 (.t 15) (.t 16), none⟩ ::⟨(some 18), .ld 1 false (.t 17), none⟩ ::⟨(some 19), .bin .geq (.t 18) (.c (.int .i64 0)), none⟩ ::⟨(some 20), .mv (.t 19), none⟩ ::⟨(some 21), .mv (.t 1), some (20, true)⟩ ::⟨(some 22), .mv (.t 6), some (20, true)⟩ ::⟨(some 23), .ia 1 (.t 21) (.t 22), some (20, true)⟩ ::⟨(some 24), .ld 1 false (.t 23), some (20, true)⟩ ::⟨(some 25), .mv (.t 0), some (20, true)⟩ ::⟨(some 26), .bin .lss (.t 24) (.t 25), some (20, true)⟩ ::⟨(some 27), .pick (.t 20) (.t 26) (.c (.bool false)), none⟩ ::⟨(some 28), .mv (.t 27), none⟩ ::⟨(some 29), .mv (.t 1), some (28, true)⟩ ::⟨(some 30), .mv (.t 6), some (28, true)⟩ ::⟨(some 31), .ia 1 (.t 29) (.t 30), some (28, true)⟩ ::⟨(some 32), .ld 1 false (.t 31), some (28, true)⟩ ::⟨(some 33), .bin .lss (.t 32) (.c (.int .i64 4096)), some (28, true)⟩ ::⟨(some 34), .pick (.t 28) (.t 33) (.c (.bool false)), none⟩ :: [])) (.cond (.t 34) (.reg (⟨(some 35), .mv (.t 5), none⟩ ::⟨(some 36), .mv (.t 1), none⟩ ::⟨(some 37), .mv (.t 6), none⟩ ::⟨(some 38), .ia 1 (.t 36) (.t 37), none⟩ ::⟨(some 39), .ld 1 false (.t 38), none⟩ ::⟨(some 40), .call (.c (.fn 88 [])) [(.t 35), (.t 39)], none⟩ ::⟨(some 5), .mv (.t 40), none⟩ :: [])) .skip))) (.reg (⟨(some 13), .mv (.t 6), none⟩ ::⟨(some 14), .bin .add (.t 13) (.c (.int .i64 1)), none⟩ ::⟨(some 6), .mv (.t 14), none⟩ :: []))))))) (.seq (.reg (⟨(some 41), .mv (.t 5), none⟩ ::⟨(some 4), .mv (.t 41), none⟩ :: [])) .ret))))
theorem cd_fretworkref03_Of : Code1 Try.prog 77 42 ir_fretworkref03_Of [.t 4] := ⟨Try.call77, _, _, Try.func77, rfl, by kernel_rfl, by kernel_rfl, by kernel_rfl, by kernel_rfl⟩

theorem ofN_eq (n : Int) (l : List Int) : ofN n l = puts (fun i => if 0 ≤ i ∧ i < n ∧ i < 4096 then some i else none) (zeroW n) l := by
  have : ∀ (l : List Int) (ws : List Nat), ws.length = wordsI n → puts (fun i => if i < n then some i else none) ws l = puts (fun i => if 0 ≤ i ∧ i < n ∧ i < 4096 then some i else none) ws l := by
    intro l
    induction l with
    | nil => intro ws _; rfl
    | cons x l ih =>
      intro ws hws
      simp only [puts, List.foldl_cons]
      by_cases h : x < n
      · by_cases h' : 0 ≤ x ∧ x < n ∧ x < 4096
        · rw [if_pos h, if_pos h']
          exact ih _ (by rw [put1_len]; exact hws)
        · rw [if_pos h, if_neg h']
          have : put1 ws x = ws := by
            rw [put1, turn, if_neg]
            have : wordsI n ≤ 64 := by unfold wordsI; omega
            simp only [inW, Bool.and_eq_true, decide_eq_true_eq, hws]
            omega
          simp only [this]
          exact ih ws hws
      · rw [if_neg h, if_neg (by omega)]
        exact ih ws hws
  exact this l _ (by simp)
theorem fs_rOf (n : Int) (h0 : -9223372036854775808 ≤ n) (h1 : n ≤ 9223372036854775807) (l : List Int) (hl : l.length ≤ 1000000000) (hlb : ∀ x ∈ l, -9223372036854775808 ≤ x ∧ x ≤ 9223372036854775807) : FS Try.prog 77 [.int .i64 n, Z l] (U (ofN n l)) := by
  rw [ofN_eq]
  generalize hp : (fun i => if 0 ≤ i ∧ i < n ∧ i < 4096 then some i else none) = p
  refine fs_of_cvc mixed cd_fretworkref03_Of (by simp) ?_
  have hwl : wordsI n ≤ 64 := by unfold wordsI; omega
  have hzl := zs_len l
  repeat' (conv => whnf); first
    | ((refine Or.inl ⟨rfl, _, fs_rNew n h0 h1, ?_⟩))
    | ((refine fun x hx => ?_); (obtain ⟨v, hv, rfl⟩ := U_get hx))
    | ((refine fun x hx => ?_); (obtain rfl := zs_at hx; clear hx))
    | ((refine fun x hx => ?_); (obtain rfl := ints_at hx; clear hx))
    | ((refine And.intro rfl (And.intro (by simp only [U_len, tab_len, List.length_set]; omega) ?_)))
    | ((refine ar_tdiv (by omega) (by omega) (by omega) ?_))
    | (refine Br.tt ?_)
    | (refine Br.ff ?_)
    | (refine Br.dec (fun h => ?_) (fun h => ?_)) <;> try (exfalso; omega)
    | (refine Br.neg ?_)
    | (refine Br.mk (fun h => ?_) (fun h => ?_))
    | (refine And.intro rfl ?_)
    | (refine And.intro (by omega) ?_)
    | (refine ⟨_, Or.inl ⟨⟨by omega, by omega⟩, rfl⟩, ?_⟩)
    | (refine And.intro (by simp only [lens_all, U_len, tab_len, ints_len, zs_len]; first | done | omega) ?_)
    | (refine And.intro (Nat.le_refl _) ?_)
    | fail
  refine ⟨Nat, fun k => k ≤ l.length, fun k => [(0, .int .i64 n), (1, Z l), (5, U (puts p (zeroW n) (l.take k))), (6, .int .i64 (k : Int))], fun k => [], fun _ => none, fun k => l.length - k, ⟨0, by omega, ⟨rfl, rfl, rfl, rfl, trivial⟩, trivial, rfl⟩, fun k hk => ?_⟩
  have hk' : k ≤ l.length := hk
  have hwd : Wd (puts p (zeroW n) (l.take k)) := puts_wd _ _ _ (wd_zero _)
  have hb := Zb.at hlb ((k : Int).toNat)
  have hlen : (puts p (zeroW n) (l.take k)).length = wordsI n := by rw [puts_len, zeroW_len]
  have next : k < l.length → puts p (zeroW n) (l.take (k + 1)) = match p (l.getD k 0) with | some j => put1 (puts p (zeroW n) (l.take k)) j | none => puts p (zeroW n) (l.take k) := fun h => puts_take p _ (getD_get 0 h)
  repeat' (conv => whnf); first
    | ((refine Or.inl ⟨rfl, _, fs_rPut _ hwd (by omega) _ (by omega), ?_⟩))
    | ((refine fun x hx => ?_); (obtain ⟨v, hv, rfl⟩ := U_get hx))
    | ((refine fun x hx => ?_); (obtain rfl := zs_at hx; clear hx))
    | ((refine fun x hx => ?_); (obtain rfl := ints_at hx; clear hx))
    | ((refine And.intro rfl (And.intro (by simp only [U_len, tab_len, List.length_set]; omega) ?_)))
    | ((refine ar_tdiv (by omega) (by omega) (by omega) ?_))
    | (refine Br.tt ?_)
    | (refine Br.ff ?_)
    | (refine Br.dec (fun h => ?_) (fun h => ?_)) <;> try (exfalso; omega)
    | (refine Br.neg ?_)
    | (refine Br.mk (fun h => ?_) (fun h => ?_))
    | (refine And.intro rfl ?_)
    | (refine And.intro (by omega) ?_)
    | (refine ⟨_, Or.inl ⟨⟨by omega, by omega⟩, rfl⟩, ?_⟩)
    | (refine And.intro (by simp only [lens_all, U_len, tab_len, ints_len, zs_len]; first | done | omega) ?_)
    | (refine And.intro (Nat.le_refl _) ?_)
    | fail
  · refine ⟨k + 1, (show k + 1 ≤ l.length by omega), (show l.length - (k + 1) < l.length - k by omega), ⟨rfl, rfl, ?_, rfl, trivial⟩, trivial, rfl⟩
    show U (put1 (puts p (zeroW n) (l.take k)) (l.getD k 0)) = U (puts p (zeroW n) (l.take (k + 1)))
    rw [next (by omega), show p (l.getD k 0) = some (l.getD k 0) by rw [← hp]; exact if_pos ⟨by assumption, by assumption, by assumption⟩]
  rotate_right
  · have hkl : k = l.length := by omega
    show U (puts p (zeroW n) (l.take k)) = _
    rw [hkl, List.take_length]; rfl
  all_goals
    refine ⟨k + 1, (show k + 1 ≤ l.length by omega), (show l.length - (k + 1) < l.length - k by omega), ⟨rfl, rfl, ?_, rfl, trivial⟩, trivial, rfl⟩
    show U (puts p (zeroW n) (l.take k)) = U (puts p (zeroW n) (l.take (k + 1)))
    rw [next (by omega), show p (l.getD k 0) = none by rw [← hp]; exact if_neg (fun hh => h (by first | exact hh.1 | exact hh.2.1 | exact hh.2.2))]

/-- Are two lists the same? -/
def ir_fretworkref03_Same : IR :=
(.seq
 (.reg (⟨(some 4), .mv (.c (.bool false)), none⟩ ::
   []))
 (.seq
  (.seq
   (.reg (⟨(some 6), .mv (.t 0), none⟩ ::
     ⟨(some 7), .ln (.t 6), none⟩ ::
     ⟨(some 8), .mv (.t 1), none⟩ ::
     ⟨(some 9), .ln (.t 8), none⟩ ::
     ⟨(some 10), .bin .neq (.t 7) (.t 9), none⟩ ::
     []))
   (.cond (.t 10)
    (.seq
     (.reg (⟨(some 4), .mv (.c (.bool false)), none⟩ ::
       []))
     .ret)
    .skip))
  (.seq
   (.seq
    (.reg (⟨(some 5), .mv (.c (.int .i64 0)), none⟩ ::
      []))
    (.block 0
     (.loop
      (.seq
       (.seq
        (.reg (⟨(some 11), .mv (.t 5), none⟩ ::
          ⟨(some 12), .mv (.t 0), none⟩ ::
          ⟨(some 13), .ln (.t 12), none⟩ ::
          ⟨(some 14), .bin .lss (.t 11) (.t 13), none⟩ ::
          []))
        (.cond (.t 14)
         .skip
         (.exit 0)))
       (.seq
        (.block 1
         (.seq
          (.draw (⟨(some 17), .mv (.t 0), none⟩ ::
            ⟨(some 18), .mv (.t 5), none⟩ ::
            ⟨(some 19), .ia 1 (.t 17) (.t 18), none⟩ ::
            ⟨(some 20), .ld 1 false (.t 19), none⟩ ::
            ⟨(some 21), .mv (.t 1), none⟩ ::
            ⟨(some 22), .mv (.t 5), none⟩ ::
            ⟨(some 23), .ia 1 (.t 21) (.t 22), none⟩ ::
            ⟨(some 24), .ld 1 false (.t 23), none⟩ ::
            [])
           (⟨(some 25), .bin .neq (.t 20) (.t 24), none⟩ ::
            []))
          (.cond (.t 25)
           (.seq
            (.reg (⟨(some 4), .mv (.c (.bool false)), none⟩ ::
              []))
            .ret)
           .skip)))
        (.reg (⟨(some 15), .mv (.t 5), none⟩ ::
          ⟨(some 16), .bin .add (.t 15) (.c (.int .i64 1)), none⟩ ::
          ⟨(some 5), .mv (.t 16), none⟩ ::
          [])))))))
   (.seq
    (.reg (⟨(some 4), .mv (.c (.bool true)), none⟩ ::
      []))
    .ret))))
theorem cd_fretworkref03_Same : Code1 Try.prog 73 26 ir_fretworkref03_Same [.t 4] := ⟨Try.call73, _, _, Try.func73, rfl, by kernel_rfl, by kernel_rfl, by kernel_rfl, by kernel_rfl⟩

theorem fs_Same (a b : List Nat) (hla : a.length ≤ 1000000000) : FS Try.prog 73 [U a, U b] (.bool (decide (a = b))) := by
  refine fs_of_cvc mixed cd_fretworkref03_Same (by simp) ?_
  have ha := U_len a
  have hb := U_len b
  repeat' (conv => whnf); first
    | ((refine fun x hx => ?_); (obtain ⟨v, hv, rfl⟩ := U_get hx))
    | ((refine fun x hx => ?_); (obtain rfl := zs_at hx; clear hx))
    | ((refine fun x hx => ?_); (obtain rfl := ints_at hx; clear hx))
    | ((refine And.intro rfl (And.intro (by simp only [U_len, tab_len, List.length_set]; omega) ?_)))
    | ((refine ar_tdiv (by omega) (by omega) (by omega) ?_))
    | (refine Br.tt ?_)
    | (refine Br.ff ?_)
    | (refine Br.dec (fun h => ?_) (fun h => ?_)) <;> try (exfalso; omega)
    | (refine Br.neg ?_)
    | (refine Br.mk (fun h => ?_) (fun h => ?_))
    | (refine And.intro rfl ?_)
    | (refine And.intro (by omega) ?_)
    | (refine ⟨_, Or.inl ⟨⟨by omega, by omega⟩, rfl⟩, ?_⟩)
    | (refine And.intro (by simp only [lens_all, U_len, tab_len, ints_len, zs_len]; first | done | omega) ?_)
    | (refine And.intro (Nat.le_refl _) ?_)
    | fail
  · show SV.bool false = _
    rw [decide_eq_false]; intro e; subst e; omega
  refine ⟨Nat, fun k => k ≤ a.length ∧ a.take k = b.take k, fun k => [(0, U a), (1, U b), (5, .int .i64 (k : Int))], fun k => [], fun _ => none, fun k => a.length - k, ⟨0, ⟨by omega, rfl⟩, ⟨rfl, rfl, rfl, trivial⟩, trivial, rfl⟩, fun k hk => ?_⟩
  have hk' : k ≤ a.length := hk.1
  have hlen : a.length = b.length := by omega
  repeat' (conv => whnf); first
    | ((refine fun x hx => ?_); (obtain rfl := U_at hx; clear hx))
    | ((refine fun x hx => ?_); (obtain ⟨v, hv, rfl⟩ := U_get hx))
    | ((refine fun x hx => ?_); (obtain rfl := zs_at hx; clear hx))
    | ((refine fun x hx => ?_); (obtain rfl := ints_at hx; clear hx))
    | ((refine And.intro rfl (And.intro (by simp only [U_len, tab_len, List.length_set]; omega) ?_)))
    | ((refine ar_tdiv (by omega) (by omega) (by omega) ?_))
    | (refine Br.tt ?_)
    | (refine Br.ff ?_)
    | (refine Br.dec (fun h => ?_) (fun h => ?_)) <;> try (exfalso; omega)
    | (refine Br.neg ?_)
    | (refine Br.mk (fun h => ?_) (fun h => ?_))
    | (refine And.intro rfl ?_)
    | (refine And.intro (by omega) ?_)
    | (refine ⟨_, Or.inl ⟨⟨by omega, by omega⟩, rfl⟩, ?_⟩)
    | (refine And.intro (by simp only [lens_all, U_len, tab_len, ints_len, zs_len]; first | done | omega) ?_)
    | (refine And.intro (Nat.le_refl _) ?_)
    | fail
  · show SV.bool false = _
    rw [decide_eq_false]
    rintro rfl
    refine h ?_
    rfl
  · refine ⟨k + 1, ⟨(show k + 1 ≤ a.length by omega), take_more hk.2 (show a[k]? = b[k]? from by rw [getD_get 0 (show k < a.length by omega), getD_get 0 (show k < b.length by omega)]; exact congrArg some (Int.ofNat.inj (Classical.not_not.1 h)))⟩, (show a.length - (k + 1) < a.length - k by omega), ⟨rfl, rfl, rfl, trivial⟩, trivial, rfl⟩
  · have hkl : k = a.length := by omega
    show SV.bool true = _
    rw [decide_eq_true]
    have := hk.2
    rwa [hkl, List.take_length, hlen, List.take_length] at this
end
section
open Go.RowKit
attribute [local irreducible] FS FO IT HS

theorem sorted_last {l : List Nat} (h : l.Pairwise (· < ·)) {n : Int} : (∀ b ∈ l, (b : Int) < n) ↔ l.length = 0 ∨ ((l.getD (l.length - 1) 0 : Nat) : Int) < n := by
  constructor
  · intro hh
    by_cases h0 : l.length = 0
    · exact .inl h0
    · refine .inr (hh _ ?_)
      exact List.mem_of_getElem? (getD_get 0 (show l.length - 1 < l.length by omega))
  · rintro (h0 | h0) b hb
    · rw [List.length_eq_zero_iff.1 h0] at hb; simp at hb
    · obtain ⟨i, hi, rfl⟩ := List.getElem_of_mem hb
      by_cases e : i = l.length - 1
      · subst e
        rw [List.getD_eq_getElem?_getD, List.getElem?_eq_getElem hi] at h0
        exact h0
      · have := List.pairwise_iff_getElem.1 h i (l.length - 1) hi (by omega) (by omega)
        rw [List.getD_eq_getElem?_getD, List.getElem?_eq_getElem (by omega)] at h0
        have h0' : ((l[l.length - 1] : Nat) : Int) < n := h0
        omega

def ir_fretworkref03_Right : IR :=
(.seq (.reg (⟨(some 4), .mv (.c (.bool false)), none⟩ :: [])) (.seq (.seq (.reg (⟨(some 6), .mv (.t 1), none⟩ ::⟨(some 7), .bin .lss (.t 6) (.c (.int .i64 0)), none⟩ ::⟨(some 8), .mv (.t 7), none⟩ ::⟨(some 9), .mv (.t 1), some (8, false)⟩ ::⟨(some 10), .bin .gtr (.t 9) (.c (.int .i64 4096)), some (8, false)⟩ ::⟨(some 11), .pick (.t 8) (.c (.bool true)) (.t 10), none⟩ ::⟨(some 12), .mv (.t 11), none⟩ ::⟨(some 13), .mv (.t 0), some (12, false)⟩ ::⟨(some 14), .ln (.t 13), some (12, false)⟩ ::⟨(some 15), .mv (.t 1), some (12, false)⟩ ::⟨(some 16), .call (.c (.fn 116 [])) [(.t 15)], some (12, false)⟩ ::⟨(some 17), .bin .neq (.t 14) (.t 16), some (12, false)⟩ ::⟨(some 18), .pick (.t 12) (.c (.bool true)) (.t 17), none⟩ :: [])) (.cond (.t 18) (.seq (.reg (⟨(some 4), .mv (.c (.bool false)), none⟩ :: [])) .ret) .skip)) (.seq (.reg (⟨(some 19), .mv (.t 0), none⟩ ::⟨(some 20), .call (.c (.fn 72 [])) [(.t 19)], none⟩ ::⟨(some 5), .mv (.t 20), none⟩ :: [])) (.seq (.reg (⟨(some 21), .mv (.t 5), none⟩ ::⟨(some 22), .ln (.t 21), none⟩ ::⟨(some 23), .bin .eql (.t 22) (.c (.int .i64 0)), none⟩ ::⟨(some 24), .mv (.t 23), none⟩ ::⟨(some 25), .mv (.t 5), some (24, false)⟩ ::⟨(some 26), .mv (.t 5), some (24, false)⟩ ::⟨(some 27), .ln (.t 26), some (24, false)⟩ ::⟨(some 28), .bin .sub (.t 27) (.c (.int .i64 1)), some (24, false)⟩ ::⟨(some 29), .ia 1 (.t 25) (.t 28), some (24, false)⟩ ::⟨(some 30), .ld 1 false (.t 29), some (24, false)⟩ ::⟨(some 31), .mv (.t 1), some (24, false)⟩ ::⟨(some 32), .bin .lss (.t 30) (.t 31), some (24, false)⟩ ::⟨(some 33), .pick (.t 24) (.c (.bool true)) (.t 32), none⟩ ::⟨(some 4), .mv (.t 33), none⟩ :: [])) .ret))))
theorem cd_fretworkref03_Right : Code1 Try.prog 67 34 ir_fretworkref03_Right [.t 4] := ⟨Try.call67, _, _, Try.func67, rfl, by kernel_rfl, by kernel_rfl, by kernel_rfl, by kernel_rfl⟩

theorem fs_rRight (ws : List Nat) (hw : Wd ws) (hl : ws.length ≤ 1000000) (n : Int) (h0 : -9223372036854775808 ≤ n) (h1 : n ≤ 9223372036854775807) : FS Try.prog 67 [U ws, .int .i64 n] (.bool (rightB ws n)) := by
  refine fs_of_cvc mixed cd_fretworkref03_Right (by simp) ?_
  have hul := U_len ws
  have hil := ints_len (bits ws)
  have hbl := bits_len ws hw
  have hiff := (nextI_neg (ws := ws) (n := n)).trans (sorted_last (bits_sorted hw))
  repeat' (conv => whnf); first
    | ((refine Or.inl ⟨rfl, _, fs_rwords n h0 h1, ?_⟩))
    | ((refine Or.inl ⟨rfl, _, fs_rList ws hw hl, ?_⟩))
    | ((refine fun x hx => ?_); (obtain rfl := U_at hx; clear hx))
    | ((refine fun x hx => ?_); (obtain rfl := zs_at hx; clear hx))
    | ((refine fun x hx => ?_); (obtain rfl := ints_at hx; clear hx))
    | ((refine And.intro rfl (And.intro (by simp only [U_len, tab_len, List.length_set]; omega) ?_)))
    | ((refine ar_tdiv (by omega) (by omega) (by omega) ?_))
    | (refine Br.tt ?_)
    | (refine Br.ff ?_)
    | (refine Br.dec (fun h => ?_) (fun h => ?_)) <;> try (exfalso; omega)
    | (refine Br.neg ?_)
    | (refine Br.mk (fun h => ?_) (fun h => ?_))
    | (refine And.intro rfl ?_)
    | (refine And.intro (by omega) ?_)
    | (refine ⟨_, Or.inl ⟨⟨by omega, by omega⟩, rfl⟩, ?_⟩)
    | (refine And.intro (by simp only [lens_all, U_len, tab_len, ints_len, zs_len]; first | done | omega) ?_)
    | (refine And.intro (Nat.le_refl _) ?_)
    | fail
  · show SV.bool false = _
    simp [rightB, show ¬ 0 ≤ n by omega]
  · show SV.bool false = _
    simp [rightB, show ¬ n ≤ 4096 by omega]
  · show SV.bool false = _
    simp [rightB, show ¬ (ws.length : Int) = wordsI n by omega]
  · show SV.bool true = _
    simp [rightB, show 0 ≤ n by omega, show n ≤ 4096 by omega, show (ws.length : Int) = wordsI n by omega, hiff.2 (.inl (by omega))]
  · have e : (bits ws).getD (((ints (bits ws)).length : Int) - 1).toNat 0 = (bits ws).getD ((bits ws).length - 1) 0 := by rw [hil]; congr 1; omega
    show SV.bool (decide (((bits ws).getD (((ints (bits ws)).length : Int) - 1).toNat 0 : Int) < n)) = _
    rw [e]
    simp only [rightB, show 0 ≤ n by omega, show n ≤ 4096 by omega, show (ws.length : Int) = wordsI n by omega, decide_true, Bool.true_and]
    congr 1
    rw [Bool.eq_iff_iff, decide_eq_true_iff, decide_eq_true_iff, hiff]
    exact ⟨.inr, fun hh => hh.resolve_left (by omega)⟩
end
section
open Go.RowKit
attribute [local irreducible] FS FO IT HS

theorem Ib.at {l : List (Int × Int)} (h : Ib l) {k : Nat} {y : Int × Int} (hk : l[k]? = some y) : I64 y.1 ∧ I64 y.2 := h y (List.mem_of_getElem? hk)
end
section
open Go.RowKit
attribute [local irreducible] FS FO IT HS

theorem rest_le (p : Int × Int → Bool) (l : List (Int × Int)) : (rest p l).length ≤ l.length := List.length_filter_le _ _
end
section
open Go.RowKit
attribute [local irreducible] FS FO IT HS

def ir_fretworkref09_Right : IR :=
(.seq (.reg (⟨(some 1), .bx (.t 0), none⟩ ::⟨(some 2), .mv (.c (.bool false)), none⟩ :: [])) (.seq (.seq (.reg (⟨(some 4), .fa 0 (.t 1), none⟩ ::⟨(some 5), .ld 1 false (.t 4), none⟩ ::⟨(some 6), .bin .lss (.t 5) (.c (.int .i64 0)), none⟩ ::⟨(some 7), .mv (.t 6), none⟩ ::⟨(some 8), .fa 0 (.t 1), some (7, false)⟩ ::⟨(some 9), .ld 1 false (.t 8), some (7, false)⟩ ::⟨(some 10), .bin .gtr (.t 9) (.c (.int .i64 4096)), some (7, false)⟩ ::⟨(some 11), .pick (.t 7) (.c (.bool true)) (.t 10), none⟩ :: [])) (.cond (.t 11) (.seq (.reg (⟨(some 2), .mv (.c (.bool false)), none⟩ :: [])) .ret) .skip)) (.seq (.seq (.reg (⟨(some 3), .mv (.c (.int .i64 0)), none⟩ :: [])) (.block 0 (.loop (.seq (.seq (.reg (⟨(some 12), .mv (.t 3), none⟩ ::⟨(some 13), .fa 1 (.t 1), none⟩ ::⟨(some 14), .ld 1 false (.t 13), none⟩ ::⟨(some 15), .ln (.t 14), none⟩ ::⟨(some 16), .bin .lss (.t 12) (.t 15), none⟩ :: [])) (.cond (.t 16) .skip (.exit 0))) (.seq (.block 1 (.seq (.draw (⟨(some 19), .fa 1 (.t 1), none⟩ ::⟨(some 20), .ld 1 false (.t 19), none⟩ ::⟨(some 21), .mv (.t 3), none⟩ ::⟨(some 22), .ia 2 (.t 20) (.t 21), none⟩ ::⟨(some 23), .fa 0 (.t 22), none⟩ ::⟨(some 24), .ld 1 false (.t 23), none⟩ ::⟨(some 25), .bin .lss (.t 24) (.c (.int .i64 0)), none⟩ ::⟨(some 26), .mv (.t 25), none⟩ ::⟨(some 27), .fa 1 (.t 1), some (26, false)⟩ ::⟨(some 28), .ld 1 false (.t 27), some (26, false)⟩ ::⟨(some 29), .mv (.t 3), some (26, false)⟩ ::⟨(some 30), .ia 2 (.t 28) (.t 29), some (26, false)⟩ ::⟨(some 31), .fa 0 (.t 30), some (26, false)⟩ ::⟨(some 32), .ld 1 false (.t 31), some (26, false)⟩ ::⟨(some 33), .fa 0 (.t 1), some (26, false)⟩ ::⟨(some 34), .ld 1 false (.t 33), some (26, false)⟩ ::⟨(some 35), .bin .geq (.t 32) (.t 34), some (26, false)⟩ ::⟨(some 36), .pick (.t 26) (.c (.bool true)) (.t 35), none⟩ ::⟨(some 37), .mv (.t 36), none⟩ ::⟨(some 38), .mv (.t 3), some (37, false)⟩ ::⟨(some 39), .bin .gtr (.t 38) (.c (.int .i64 0)), some (37, false)⟩ ::⟨(some 40), .mv (.t 39), some (37, false)⟩ ::⟨(some 41), .fa 1 (.t 1), some (40, true)⟩ ::⟨(some 42), .ld 1 false (.t 41), some (40, true)⟩ ::⟨(some 43), .mv (.t 3), some (40, true)⟩ ::⟨(some 44), .ia 2 (.t 42) (.t 43), some (40, true)⟩ ::⟨(some 45), .fa 0 (.t 44), some (40, true)⟩ ::⟨(some 46), .ld 1 false (.t 45), some (40, true)⟩ ::⟨(some 47), .fa 1 (.t 1), some (40, true)⟩ ::⟨(some 48), .ld 1 false (.t 47), some (40, true)⟩ ::⟨(some 49), .mv (.t 3), some (40, true)⟩ ::⟨(some 50), .bin .sub (.t 49) (.c (.int .i64 1)), some (40, true)⟩ ::⟨(some 51), .ia 2 (.t 48) (.t 50), some (40, true)⟩ ::⟨(some 52), .fa 0 (.t 51), some (40, true)⟩ ::⟨(some 53), .ld 1 false (.t 52), some (40, true)⟩ :: []) (⟨(some 54), .bin .leq (.t 46) (.t 53), some (40, true)⟩ ::⟨(some 55), .pick (.t 40) (.t 54) (.c (.bool false)), some (37, false)⟩ ::⟨(some 56), .pick (.t 37) (.c (.bool true)) (.t 55), none⟩ :: [])) (.cond (.t 56) (.seq (.reg (⟨(some 2), .mv (.c (.bool false)), none⟩ :: [])) .ret) .skip))) (.reg (⟨(some 17), .mv (.t 3), none⟩ ::⟨(some 18), .bin .add (.t 17) (.c (.int .i64 1)), none⟩ ::⟨(some 3), .mv (.t 18), none⟩ :: []))))))) (.seq (.reg (⟨(some 2), .mv (.c (.bool true)), none⟩ :: [])) .ret))))
theorem cd_fretworkref09_Right : Code1 Try.prog 55 57 ir_fretworkref09_Right [.t 2] := ⟨Try.call55, _, _, Try.func55, rfl, by kernel_rfl, by kernel_rfl, by kernel_rfl, by kernel_rfl⟩

set_option maxHeartbeats 2000000 in
theorem fs_r9Right (n : Int) (l : List (Int × Int)) (hl : l.length ≤ 1000000000) : FS Try.prog 55 [VC n l] (.bool (isV n l)) := by
  refine fs_of_cvc mixed cd_fretworkref09_Right (by simp) ?_
  have hb := badAt_ups n l (-1) 0
  repeat' (conv => whnf); first
    | ((refine Br.beq (by rfl) ?_))
    | ((refine Br.bne (by rfl) ?_))
    | (refine Br.tt ?_)
    | (refine Br.ff ?_)
    | (refine Br.dec (fun h => ?_) (fun h => ?_)) <;> try (exfalso; omega)
    | (refine Br.neg ?_)
    | (refine Br.mk (fun h => ?_) (fun h => ?_))
    | (refine And.intro rfl ?_)
    | (refine And.intro (by omega) ?_)
    | (refine ⟨_, Or.inl ⟨⟨by omega, by omega⟩, rfl⟩, ?_⟩)
    | (refine And.intro (by simp only [lens_all, its_len]; first | done | omega) ?_)
    | (refine And.intro (Nat.le_refl _) ?_)
    | fail
  · show SV.bool false = SV.bool _
    have : isV n l = false := by unfold isV; rw [decide_eq_false (show ¬ 0 ≤ n by omega)]; rfl
    rw [this]
  · show SV.bool false = SV.bool _
    have : isV n l = false := by unfold isV; rw [decide_eq_false (show ¬ n ≤ 4096 by omega), Bool.and_false]; rfl
    rw [this]
  · have e : isV n l = ups n (-1) l := by
      have a1 : decide (0 ≤ n) = true := decide_eq_true (by omega)
      have a2 : decide (n ≤ 4096) = true := decide_eq_true (by omega)
      unfold isV; rw [a1, a2]; rfl
    rw [e]
    refine ⟨Nat, fun k => k ≤ l.length ∧ badAt n (lst (-1) l k) (l.drop k) k = badAt n (-1) l 0 ∧ (0 < k → 0 ≤ lst (-1) l k), fun k => [(1, .ptr 0 0 0 0), (3, .int .i64 (k : Int))], fun k => [.vars [.int .i64 n, IL l]], fun _ => none, fun k => l.length - k, ⟨0, ⟨by omega, rfl, by omega⟩, ⟨rfl, rfl, trivial⟩, ⟨⟨rfl, rfl, trivial⟩, trivial⟩, rfl⟩, fun k hk => ?_⟩
    obtain ⟨hk1, hk2, hk3⟩ := hk
    have hlen := its_len l
    have fin : ∀ (y : Int × Int), l[k]? = some y → (decide (y.1 ≤ lst (-1) l k) || decide (n ≤ y.1)) = true → ups n (-1) l = false := fun y hy hw => by
      rw [badAt_step n (-1) l k y hy, if_pos hw] at hk2
      rw [← hk2] at hb
      have : decide (0 ≤ (k : Int)) = true := decide_eq_true (by omega)
      rw [this] at hb
      cases h : ups n (-1) l
      · rfl
      · rw [h] at hb; cases hb
    have more : ∀ (y : Int × Int), l[k]? = some y → (decide (y.1 ≤ lst (-1) l k) || decide (n ≤ y.1)) = false → badAt n (lst (-1) l (k + 1)) (l.drop (k + 1)) (k + 1) = badAt n (-1) l 0 := fun y hy hw => by
      rw [badAt_step n (-1) l k y hy, if_neg (by rw [hw]; simp)] at hk2
      exact hk2
    have last : ∀ (y : Int × Int), l[k]? = some y → lst (-1) l (k + 1) = y.1 := fun y hy => by simp [lst, List.getD_eq_getElem?_getD, hy]
    cases k with
    | zero =>
      have el : lst (-1) l 0 = -1 := rfl
      rw [el] at fin more
      repeat' (conv => whnf); first
        | ((refine its_go (i := 0) (by omega) ?_))
        | ((refine Br.beq (by rfl) ?_))
        | ((refine Br.bne (by rfl) ?_))
        | (refine Br.tt ?_)
        | (refine Br.ff ?_)
        | (refine Br.dec (fun h => ?_) (fun h => ?_)) <;> try (exfalso; omega)
        | (refine Br.neg ?_)
        | (refine Br.mk (fun h => ?_) (fun h => ?_))
        | (refine And.intro rfl ?_)
        | (refine And.intro (by omega) ?_)
        | (refine ⟨_, Or.inl ⟨⟨by omega, by omega⟩, rfl⟩, ?_⟩)
        | (refine And.intro (by simp only [lens_all, its_len]; first | done | omega) ?_)
        | (refine And.intro (Nat.le_refl _) ?_)
        | fail
      all_goals first
        | (show SV.bool false = SV.bool _
           rw [fin _ (getD_some (by omega)) (by rw [Bool.or_eq_true, decide_eq_true_eq, decide_eq_true_eq]; omega)])
        | (refine ⟨1, ⟨by omega, more _ (getD_some (by omega)) (by rw [Bool.or_eq_false_iff, decide_eq_false_iff_not, decide_eq_false_iff_not]; omega), fun _ => by rw [last _ (getD_some (by omega))]; omega⟩, (show l.length - 1 < l.length - 0 by omega), ⟨rfl, rfl, trivial⟩, ⟨⟨rfl, rfl, trivial⟩, trivial⟩, rfl⟩)
        | (show SV.bool true = SV.bool _
           rw [List.drop_eq_nil_of_le (by omega)] at hk2
           rw [← hk2] at hb
           have hb' : false = !ups n (-1) l := hb
           cases hu : ups n (-1) l
           · rw [hu] at hb'; cases hb'
           · rfl)
    | succ k =>
      have el : lst (-1) l (k + 1) = (l.getD k (0, 0)).1 := rfl
      rw [el] at fin more hk3
      repeat' (conv => whnf); first
        | ((refine its_go (i := k + 1) (by omega) ?_))
        | ((refine its_go (i := k) (by omega) ?_))
        | ((refine Br.beq (by rfl) ?_))
        | ((refine Br.bne (by rfl) ?_))
        | (refine Br.tt ?_)
        | (refine Br.ff ?_)
        | (refine Br.dec (fun h => ?_) (fun h => ?_)) <;> try (exfalso; omega)
        | (refine Br.neg ?_)
        | (refine Br.mk (fun h => ?_) (fun h => ?_))
        | (refine And.intro rfl ?_)
        | (refine And.intro (by omega) ?_)
        | (refine ⟨_, Or.inl ⟨⟨by omega, by omega⟩, rfl⟩, ?_⟩)
        | (refine And.intro (by simp only [lens_all, its_len]; first | done | omega) ?_)
        | (refine And.intro (Nat.le_refl _) ?_)
        | fail
      all_goals first
        | (show SV.bool false = SV.bool _
           rw [fin _ (getD_some (by omega)) (by rw [Bool.or_eq_true, decide_eq_true_eq, decide_eq_true_eq]; omega)])
        | (refine ⟨k + 1 + 1, ⟨by omega, more _ (getD_some (by omega)) (by rw [Bool.or_eq_false_iff, decide_eq_false_iff_not, decide_eq_false_iff_not]; omega), fun _ => by rw [last _ (getD_some (by omega))]; omega⟩, (show l.length - (k + 1 + 1) < l.length - (k + 1) by omega), ⟨rfl, rfl, trivial⟩, ⟨⟨rfl, rfl, trivial⟩, trivial⟩, rfl⟩)
        | (show SV.bool true = SV.bool _
           rw [List.drop_eq_nil_of_le (by omega)] at hk2
           rw [← hk2] at hb
           have hb' : false = !ups n (-1) l := hb
           cases hu : ups n (-1) l
           · rw [hu] at hb'; cases hb'
           · rfl)

def ir_fretworkref09_Sure : IR :=
(.seq (.reg (⟨(some 1), .bx (.t 0), none⟩ ::⟨(some 2), .al [.int .i64 0, .nils], none⟩ :: [])) (.seq (.seq (.reg (⟨(some 3), .ld 2 true (.t 1), none⟩ ::⟨(some 4), .call (.c (.fn 55 [])) [(.t 3)], none⟩ :: [])) (.cond (.t 4) (.seq (.reg (⟨(some 5), .ld 2 true (.t 1), none⟩ ::⟨none, .st 2 (.t 2) (.t 5), none⟩ :: [])) .ret) .skip)) (.seq (.reg (⟨(some 6), .bld [.int .i64 0, .nils] [], none⟩ ::⟨none, .st 2 (.t 2) (.t 6), none⟩ :: [])) .ret)))
theorem cd_fretworkref09_Sure : Code1 Try.prog 76 7 ir_fretworkref09_Sure [.c 2 true 2] := ⟨Try.call76, _, _, Try.func76, rfl, by kernel_rfl, by kernel_rfl, by kernel_rfl, by kernel_rfl⟩

theorem fs_r9Sure (n : Int) (l : List (Int × Int)) (hl : l.length ≤ 1000000000) : FS Try.prog 76 [VC n l] (VC (sn n l) (sl n l)) := by
  refine fs_of_cvc mixed cd_fretworkref09_Sure (by simp) ?_
  obtain ⟨b, hb⟩ : ∃ b, isV n l = b := ⟨_, rfl⟩
  have c := fs_r9Right n l hl
  rw [hb] at c
  unfold sn sl
  rw [hb]
  repeat' (conv => whnf); first
    | ((refine Or.inl ⟨by rfl, _, c, ?_⟩))
    | ((refine Br.beq (by rfl) ?_))
    | ((refine Br.bne (by rfl) ?_))
    | (refine Br.tt ?_)
    | (refine Br.ff ?_)
    | (refine Br.dec (fun h => ?_) (fun h => ?_)) <;> try (exfalso; omega)
    | (refine Br.neg ?_)
    | (refine Br.mk (fun h => ?_) (fun h => ?_))
    | (refine And.intro rfl ?_)
    | (refine And.intro (by omega) ?_)
    | (refine ⟨_, Or.inl ⟨⟨by omega, by omega⟩, rfl⟩, ?_⟩)
    | (refine And.intro (by simp only [lens_all]; first | done | omega) ?_)
    | (refine And.intro (Nat.le_refl _) ?_)
    | fail
  · subst h; exact rfl
  · subst h; exact ⟨rfl, rfl, trivial⟩
end
section
open Go.RowKit
attribute [local irreducible] FS FO IT HS

theorem foldl_more {α : Type} {f : α → Int × Int → α} {z : α} {l : List (Int × Int)} {k : Nat} (h : k < l.length) : (l.take (k + 1)).foldl f z = f ((l.take k).foldl f z) (l.getD k (0, 0)) := by
  rw [vtake_more h, List.foldl_append]; rfl

def ir_fretworkref09_Put : IR :=
(.seq (.reg (⟨(some 3), .bx (.t 0), none⟩ ::⟨(some 6), .al [.int .i64 0, .nils], none⟩ :: [])) (.seq (.reg (⟨(some 10), .ld 2 true (.t 3), none⟩ ::⟨(some 11), .call (.c (.fn 76 [])) [(.t 10)], none⟩ ::⟨none, .st 2 (.t 3) (.t 11), none⟩ :: [])) (.seq (.reg (⟨(some 12), .fa 0 (.t 3), none⟩ ::⟨(some 13), .ld 1 false (.t 12), none⟩ ::⟨(some 14), .bld [.int .i64 0, .nils] [(0, 1, (.t 13))], none⟩ ::⟨(some 7), .al [.int .i64 0, .nils], none⟩ ::⟨none, .st 2 (.t 7) (.t 14), none⟩ :: [])) (.seq (.reg (⟨(some 15), .mv (.t 1), none⟩ ::⟨(some 16), .bin .lss (.t 15) (.c (.int .i64 0)), none⟩ ::⟨(some 17), .mv (.t 16), none⟩ ::⟨(some 18), .mv (.t 1), some (17, false)⟩ ::⟨(some 19), .fa 0 (.t 3), some (17, false)⟩ ::⟨(some 20), .ld 1 false (.t 19), some (17, false)⟩ ::⟨(some 21), .bin .geq (.t 18) (.t 20), some (17, false)⟩ ::⟨(some 22), .pick (.t 17) (.c (.bool true)) (.t 21), none⟩ ::⟨(some 8), .mv (.t 22), none⟩ :: [])) (.seq (.seq (.reg (⟨(some 9), .mv (.c (.int .i64 0)), none⟩ :: [])) (.block 0 (.loop (.seq (.seq (.reg (⟨(some 23), .mv (.t 9), none⟩ ::⟨(some 24), .fa 1 (.t 3), none⟩ ::⟨(some 25), .ld 1 false (.t 24), none⟩ ::⟨(some 26), .ln (.t 25), none⟩ ::⟨(some 27), .bin .lss (.t 23) (.t 26), none⟩ :: [])) (.cond (.t 27) .skip (.exit 0))) (.seq (.block 1 (.seq (.seq (.reg (⟨(some 30), .mv (.t 8), none⟩ ::⟨(some 31), .un .not (.t 30), none⟩ ::⟨(some 32), .mv (.t 31), none⟩ ::⟨(some 33), .fa 1 (.t 3), some (32, true)⟩ ::⟨(some 34), .ld 1 false (.t 33), some (32, true)⟩ ::⟨(some 35), .mv (.t 9), some (32, true)⟩ ::⟨(some 36), .ia 2 (.t 34) (.t 35), some (32, true)⟩ ::⟨(some 37), .fa 0 (.t 36), some (32, true)⟩ ::⟨(some 38), .ld 1 false (.t 37), some (32, true)⟩ ::⟨(some 39), .mv (.t 1), some (32, true)⟩ ::⟨(some 40), .bin .geq (.t 38) (.t 39), some (32, true)⟩ ::⟨(some 41), .pick (.t 32) (.t 40) (.c (.bool false)), none⟩ :: [])) (.cond (.t 41) (.seq (.reg (⟨(some 42), .fa 1 (.t 7), none⟩ ::⟨(some 43), .ld 1 false (.t 42), none⟩ ::⟨(some 44), .mv (.t 1), none⟩ ::⟨(some 45), .mv (.t 2), none⟩ ::⟨(some 46), .bld [.int .i64 0, .int .i64 0] [(0, 1, (.t 44)), (1, 1, (.t 45))], none⟩ ::⟨(some 47), .bsl 1 2 [.int .i64 0, .int .i64 0] [(0, (.t 46))], none⟩ ::⟨(some 48), .ap 2 16 (.t 43) (.t 47), none⟩ ::⟨(some 49), .fa 1 (.t 7), none⟩ ::⟨none, .st 1 (.t 49) (.t 48), none⟩ :: [])) (.reg (⟨(some 8), .mv (.c (.bool true)), none⟩ :: []))) .skip)) (.seq (.reg (⟨(some 50), .fa 1 (.t 3), none⟩ ::⟨(some 51), .ld 1 false (.t 50), none⟩ ::⟨(some 52), .mv (.t 9), none⟩ ::⟨(some 53), .ia 2 (.t 51) (.t 52), none⟩ ::⟨(some 54), .fa 0 (.t 53), none⟩ ::⟨(some 55), .ld 1 false (.t 54), none⟩ ::⟨(some 56), .mv (.t 1), none⟩ ::⟨(some 57), .bin .neq (.t 55) (.t 56), none⟩ :: [])) (.cond (.t 57) (.draw (⟨(some 58), .fa 1 (.t 7), none⟩ ::⟨(some 59), .ld 1 false (.t 58), none⟩ ::⟨(some 60), .fa 1 (.t 3), none⟩ ::⟨(some 61), .ld 1 false (.t 60), none⟩ ::⟨(some 62), .mv (.t 9), none⟩ ::⟨(some 63), .ia 2 (.t 61) (.t 62), none⟩ ::⟨(some 64), .ld 2 true (.t 63), none⟩ ::⟨(some 65), .bsl 1 2 [.int .i64 0, .int .i64 0] [(0, (.t 64))], none⟩ :: []) (⟨(some 66), .ap 2 16 (.t 59) (.t 65), none⟩ ::⟨(some 67), .fa 1 (.t 7), none⟩ ::⟨none, .st 1 (.t 67) (.t 66), none⟩ :: [])) .skip)))) (.reg (⟨(some 28), .mv (.t 9), none⟩ ::⟨(some 29), .bin .add (.t 28) (.c (.int .i64 1)), none⟩ ::⟨(some 9), .mv (.t 29), none⟩ :: []))))))) (.seq (.seq (.reg (⟨(some 68), .mv (.t 8), none⟩ ::⟨(some 69), .un .not (.t 68), none⟩ :: [])) (.cond (.t 69) (.reg (⟨(some 70), .fa 1 (.t 7), none⟩ ::⟨(some 71), .ld 1 false (.t 70), none⟩ ::⟨(some 72), .mv (.t 1), none⟩ ::⟨(some 73), .mv (.t 2), none⟩ ::⟨(some 74), .bld [.int .i64 0, .int .i64 0] [(0, 1, (.t 72)), (1, 1, (.t 73))], none⟩ ::⟨(some 75), .bsl 1 2 [.int .i64 0, .int .i64 0] [(0, (.t 74))], none⟩ ::⟨(some 76), .ap 2 16 (.t 71) (.t 75), none⟩ ::⟨(some 77), .fa 1 (.t 7), none⟩ ::⟨none, .st 1 (.t 77) (.t 76), none⟩ :: [])) .skip)) (.seq (.reg (⟨(some 78), .ld 2 true (.t 7), none⟩ ::⟨none, .st 2 (.t 6) (.t 78), none⟩ :: [])) .ret)))))))
theorem cd_fretworkref09_Put : Code1 Try.prog 56 79 ir_fretworkref09_Put [.c 2 true 6] := ⟨Try.call56, _, _, Try.func56, rfl, by kernel_rfl, by kernel_rfl, by kernel_rfl, by kernel_rfl⟩

set_option maxHeartbeats 4000000 in
theorem fs_r9Put (n : Int) (l : List (Int × Int)) (p v : Int) (hl : l.length ≤ 900000000) : FS Try.prog 56 [VC n l, .int .i64 p, .int .i64 v] (VC (sn n l) (putR (sn n l) (sl n l) p v)) := by
  refine fs_of_cvc mixed cd_fretworkref09_Put (by simp) ?_
  have c1 := fs_r9Sure n l (by omega)
  have s1 := sl_len n l
  generalize sn n l = N1 at *
  generalize sl n l = a at *
  have hal := its_len a
  obtain ⟨d0, hd0⟩ : ∃ d0, (decide (p < 0) || decide (N1 ≤ p)) = d0 := ⟨_, rfl⟩
  have hd1 : p < 0 → true = d0 := fun h => by rw [← hd0, decide_eq_true h]; rfl
  have hd2 : ¬ p < 0 → decide (N1 ≤ p) = d0 := fun h => by rw [← hd0, decide_eq_false h]; rfl
  obtain ⟨t, ht⟩ : ∃ t, putR N1 a p v = t := ⟨_, rfl⟩
  rw [ht]
  unfold putR at ht
  rw [hd0] at ht
  repeat' (conv => whnf); first
    | ((refine Or.inl ⟨by rfl, _, c1, ?_⟩))
    | ((refine Br.beq (by rfl) ?_))
    | ((refine Br.bne (by rfl) ?_))
    | ((refine And.intro (Or.inl (Nat.zero_le _)) ?_))
    | ((refine And.intro (by intro y hy; simp at hy; subst hy; rfl) ?_))
    | (refine Br.tt ?_)
    | (refine Br.ff ?_)
    | (refine Br.dec (fun h => ?_) (fun h => ?_)) <;> try (exfalso; omega)
    | (refine Br.neg ?_)
    | (refine Br.mk (fun h => ?_) (fun h => ?_))
    | (refine And.intro rfl ?_)
    | (refine And.intro (by omega) ?_)
    | (refine ⟨_, Or.inl ⟨⟨by omega, by omega⟩, rfl⟩, ?_⟩)
    | (refine And.intro (by simp only [lens_all]; first | done | omega) ?_)
    | (refine And.intro (Nat.le_refl _) ?_)
    | fail
  all_goals
    refine ⟨Nat × List (Int × Int) × Bool, fun ⟨k, o, d⟩ => k ≤ a.length ∧ (a.take k).foldl (pStep p v) ([], d0) = (o, d) ∧ o.length ≤ k + d.toNat, fun ⟨k, o, d⟩ => [(1, .int .i64 p), (2, .int .i64 v), (3, .ptr 0 0 0 0), (6, .ptr 1 0 0 0), (7, .ptr 2 0 0 0), (8, .bool d), (9, .int .i64 (k : Int))], fun ⟨k, o, d⟩ => [.vars [.int .i64 N1, IL a], .vars [.int .i64 0, .nils], .vars [.int .i64 N1, .osl 3 2 0 o.length], .arr 2 (its o)], fun _ => none, fun ⟨k, o, d⟩ => a.length - k,
      ⟨(0, [], d0), ⟨Nat.zero_le _, rfl, Nat.zero_le _⟩, ⟨rfl, rfl, rfl, rfl, rfl, ?_, rfl, trivial⟩, ⟨⟨rfl, rfl, trivial⟩, ⟨rfl, rfl, trivial⟩, ⟨rfl, ⟨Nat.le_refl _, rfl, rfl⟩, trivial⟩, rfl, trivial⟩, rfl⟩, fun ⟨k, o, d⟩ hk => ?_⟩
    · first
        | exact congrArg SV.bool (hd1 (by omega))
        | exact congrArg SV.bool (hd2 (by omega))
    obtain ⟨hk1, hk2, hk3⟩ := hk
    have hol := its_len o
    by_cases hka : k < a.length
    · have hst := foldl_more (f := pStep p v) (z := ([], d0)) hka
      rw [hk2] at hst
      cases d
      · have hk3 : o.length ≤ k + 0 := hk3
        repeat' (conv => whnf); first
          | ((refine its_go (i := k) (by omega) ?_))
          | ((refine Br.beq (by rfl) ?_))
          | ((refine Br.bne (by rfl) ?_))
          | ((refine And.intro (Or.inl (Nat.zero_le _)) ?_))
          | ((refine And.intro (by intro y hy; simp at hy; subst hy; rfl) ?_))
          | (refine Br.tt ?_)
          | (refine Br.ff ?_)
          | (refine Br.dec (fun h => ?_) (fun h => ?_)) <;> try (exfalso; omega)
          | (refine Br.neg ?_)
          | (refine Br.mk (fun h => ?_) (fun h => ?_))
          | (refine And.intro rfl ?_)
          | (refine And.intro (by omega) ?_)
          | (refine ⟨_, Or.inl ⟨⟨by omega, by omega⟩, rfl⟩, ?_⟩)
          | (refine And.intro (by simp only [lens_all, its_len]; first | done | omega) ?_)
          | (refine And.intro (Nat.le_refl _) ?_)
          | fail
        · refine ⟨(k + 1, o ++ [(p, v)] ++ [a.getD k (0, 0)], true), ⟨by omega, hst.trans (pStep_a (by assumption) h), (show (o ++ [(p, v)] ++ [a.getD k (0, 0)]).length ≤ k + 1 + 1 by simp; omega)⟩, (show a.length - (k + 1) < a.length - k by omega), ⟨rfl, rfl, rfl, rfl, rfl, rfl, rfl, trivial⟩, ⟨⟨rfl, rfl, trivial⟩, ⟨rfl, rfl, trivial⟩, ⟨rfl, ?_, trivial⟩, ?_, trivial⟩, rfl⟩
          · exact congrArg (SV.osl 3 2 0) (by simp)
          · refine congrArg (Blk.arr 2) ?_; rw [its_append, its_append]; rfl
        · refine ⟨(k + 1, o ++ [(p, v)], true), ⟨by omega, hst.trans (pStep_b (by omega)), (show (o ++ [(p, v)]).length ≤ k + 1 + 1 by simp; omega)⟩, (show a.length - (k + 1) < a.length - k by omega), ⟨rfl, rfl, rfl, rfl, rfl, rfl, rfl, trivial⟩, ⟨⟨rfl, rfl, trivial⟩, ⟨rfl, rfl, trivial⟩, ⟨rfl, ?_, trivial⟩, ?_, trivial⟩, rfl⟩
          · exact congrArg (SV.osl 3 2 0) (by simp)
          · refine congrArg (Blk.arr 2) ?_; rw [its_append]; rfl
        · refine ⟨(k + 1, o ++ [a.getD k (0, 0)], false), ⟨by omega, hst.trans (pStep_c (by omega)), (show (o ++ [a.getD k (0, 0)]).length ≤ k + 1 + 0 by simp; omega)⟩, (show a.length - (k + 1) < a.length - k by omega), ⟨rfl, rfl, rfl, rfl, rfl, rfl, rfl, trivial⟩, ⟨⟨rfl, rfl, trivial⟩, ⟨rfl, rfl, trivial⟩, ⟨rfl, ?_, trivial⟩, ?_, trivial⟩, rfl⟩
          · exact congrArg (SV.osl 3 2 0) (by simp)
          · refine congrArg (Blk.arr 2) ?_; rw [its_append]; rfl
      · have hk3 : o.length ≤ k + 1 := hk3
        repeat' (conv => whnf); first
          | ((refine its_go (i := k) (by omega) ?_))
          | ((refine Br.beq (by rfl) ?_))
          | ((refine Br.bne (by rfl) ?_))
          | ((refine And.intro (Or.inl (Nat.zero_le _)) ?_))
          | ((refine And.intro (by intro y hy; simp at hy; subst hy; rfl) ?_))
          | (refine Br.tt ?_)
          | (refine Br.ff ?_)
          | (refine Br.dec (fun h => ?_) (fun h => ?_)) <;> try (exfalso; omega)
          | (refine Br.neg ?_)
          | (refine Br.mk (fun h => ?_) (fun h => ?_))
          | (refine And.intro rfl ?_)
          | (refine And.intro (by omega) ?_)
          | (refine ⟨_, Or.inl ⟨⟨by omega, by omega⟩, rfl⟩, ?_⟩)
          | (refine And.intro (by simp only [lens_all]; first | done | omega) ?_)
          | (refine And.intro (Nat.le_refl _) ?_)
          | fail
        · refine ⟨(k + 1, o ++ [a.getD k (0, 0)], true), ⟨by omega, hst.trans (pStep_d h), (show (o ++ [a.getD k (0, 0)]).length ≤ k + 1 + 1 by simp; omega)⟩, (show a.length - (k + 1) < a.length - k by omega), ⟨rfl, rfl, rfl, rfl, rfl, rfl, rfl, trivial⟩, ⟨⟨rfl, rfl, trivial⟩, ⟨rfl, rfl, trivial⟩, ⟨rfl, ?_, trivial⟩, ?_, trivial⟩, rfl⟩
          · exact congrArg (SV.osl 3 2 0) (by simp)
          · refine congrArg (Blk.arr 2) ?_; rw [its_append]; rfl
        · refine ⟨(k + 1, o, true), ⟨by omega, hst.trans (pStep_e (by omega)), (show o.length ≤ k + 1 + 1 by omega)⟩, (show a.length - (k + 1) < a.length - k by omega), ⟨rfl, rfl, rfl, rfl, rfl, rfl, rfl, trivial⟩, ⟨⟨rfl, rfl, trivial⟩, ⟨rfl, rfl, trivial⟩, ⟨rfl, ?_, trivial⟩, ?_, trivial⟩, rfl⟩
          · exact rfl
          · exact rfl
    · have hkn : a.take k = a := List.take_of_length_le (by omega)
      rw [hkn] at hk2
      rw [hk2] at ht
      cases d
      · have hk3 : o.length ≤ k + 0 := hk3
        have ht' : o ++ [(p, v)] = t := ht
        subst ht'
        repeat' (conv => whnf); first
          | ((refine Br.beq (by rfl) ?_))
          | ((refine Br.bne (by rfl) ?_))
          | ((refine And.intro (Or.inl (Nat.zero_le _)) ?_))
          | ((refine And.intro (by intro y hy; simp at hy; subst hy; rfl) ?_))
          | (refine Br.tt ?_)
          | (refine Br.ff ?_)
          | (refine Br.dec (fun h => ?_) (fun h => ?_)) <;> try (exfalso; omega)
          | (refine Br.neg ?_)
          | (refine Br.mk (fun h => ?_) (fun h => ?_))
          | (refine And.intro rfl ?_)
          | (refine And.intro (by omega) ?_)
          | (refine ⟨_, Or.inl ⟨⟨by omega, by omega⟩, rfl⟩, ?_⟩)
          | (refine And.intro (by simp only [lens_all, its_len]; first | done | omega) ?_)
          | (refine And.intro (Nat.le_refl _) ?_)
          | fail
        conv => whnf
        have e1 : its o ++ [[SV.int .i64 p, SV.int .i64 v]] = its (o ++ [(p, v)]) := by rw [its_append]; rfl
        have e2 : o.length + 1 = (o ++ [(p, v)]).length := by simp
        show SV.agg [.int .i64 N1, .slc 2 (List.take (o.length + 1) (List.drop 0 (its o ++ [[SV.int .i64 p, SV.int .i64 v]])))] = _
        rw [e1, e2, frz_its]
        rfl
      · have hk3 : o.length ≤ k + 1 := hk3
        have ht' : o = t := ht
        subst ht'
        repeat' (conv => whnf); first
          | ((refine Br.beq (by rfl) ?_))
          | ((refine Br.bne (by rfl) ?_))
          | ((refine And.intro (Or.inl (Nat.zero_le _)) ?_))
          | ((refine And.intro (by intro y hy; simp at hy; subst hy; rfl) ?_))
          | (refine Br.tt ?_)
          | (refine Br.ff ?_)
          | (refine Br.dec (fun h => ?_) (fun h => ?_)) <;> try (exfalso; omega)
          | (refine Br.neg ?_)
          | (refine Br.mk (fun h => ?_) (fun h => ?_))
          | (refine And.intro rfl ?_)
          | (refine And.intro (by omega) ?_)
          | (refine ⟨_, Or.inl ⟨⟨by omega, by omega⟩, rfl⟩, ?_⟩)
          | (refine And.intro (by simp only [lens_all]; first | done | omega) ?_)
          | (refine And.intro (Nat.le_refl _) ?_)
          | fail
        conv => whnf
        rw [frz_its]
        rfl
end
section
open Go.RowKit
attribute [local irreducible] FS FO IT HS

theorem OkV.at {n : Int} {l : List (Int × Int)} (h : OkV n l) {k v : Int} (hk : gt l k = some v) : 0 ≤ k ∧ k < n := h.lo _ (gt_mem hk)

section
variable {n : Int} {a b : List (Int × Int)} (ha : OkV n a) (hb : OkV n b)
include ha hb

end

/-! ### What is put -/
end
section
open Go.RowKit
attribute [local irreducible] FS FO IT HS

def ir_fretworkref09_Get : IR :=
(.seq (.reg (⟨(some 2), .bx (.t 0), none⟩ ::⟨(some 4), .mv (.c (.int .i64 0)), none⟩ ::⟨(some 5), .mv (.c (.bool false)), none⟩ :: [])) (.seq (.reg (⟨(some 7), .ld 2 true (.t 2), none⟩ ::⟨(some 8), .call (.c (.fn 76 [])) [(.t 7)], none⟩ ::⟨none, .st 2 (.t 2) (.t 8), none⟩ :: [])) (.seq (.seq (.reg (⟨(some 6), .mv (.c (.int .i64 0)), none⟩ :: [])) (.block 0 (.loop (.seq (.seq (.reg (⟨(some 9), .mv (.t 6), none⟩ ::⟨(some 10), .fa 1 (.t 2), none⟩ ::⟨(some 11), .ld 1 false (.t 10), none⟩ ::⟨(some 12), .ln (.t 11), none⟩ ::⟨(some 13), .bin .lss (.t 9) (.t 12), none⟩ :: [])) (.cond (.t 13) .skip (.exit 0))) (.seq (.block 1 (.seq (.reg (⟨(some 16), .fa 1 (.t 2), none⟩ ::⟨(some 17), .ld 1 false (.t 16), none⟩ ::⟨(some 18), .mv (.t 6), none⟩ ::⟨(some 19), .ia 2 (.t 17) (.t 18), none⟩ ::⟨(some 20), .fa 0 (.t 19), none⟩ ::⟨(some 21), .ld 1 false (.t 20), none⟩ ::⟨(some 22), .mv (.t 1), none⟩ ::⟨(some 23), .bin .eql (.t 21) (.t 22), none⟩ :: [])) (.cond (.t 23) (.seq (.reg (⟨(some 24), .fa 1 (.t 2), none⟩ ::⟨(some 25), .ld 1 false (.t 24), none⟩ ::⟨(some 26), .mv (.t 6), none⟩ ::⟨(some 27), .ia 2 (.t 25) (.t 26), none⟩ ::⟨(some 28), .fa 1 (.t 27), none⟩ ::⟨(some 29), .ld 1 false (.t 28), none⟩ ::⟨(some 4), .mv (.t 29), none⟩ ::⟨(some 5), .mv (.c (.bool true)), none⟩ :: [])) .ret) .skip))) (.reg (⟨(some 14), .mv (.t 6), none⟩ ::⟨(some 15), .bin .add (.t 14) (.c (.int .i64 1)), none⟩ ::⟨(some 6), .mv (.t 15), none⟩ :: []))))))) (.seq (.reg (⟨(some 4), .mv (.c (.int .i64 0)), none⟩ ::⟨(some 5), .mv (.c (.bool false)), none⟩ :: [])) .ret))))
theorem cd_fretworkref09_Get : Code1 Try.prog 53 30 ir_fretworkref09_Get [.t 4, .t 5] := ⟨Try.call53, _, _, Try.func53, rfl, by kernel_rfl, by kernel_rfl, by kernel_rfl, by kernel_rfl⟩

set_option maxHeartbeats 4000000 in
theorem fs_r9Get (n : Int) (l : List (Int × Int)) (p : Int) (hl : l.length ≤ 400000000) : FS Try.prog 53 [VC n l, .int .i64 p] (.tup [.int .i64 ((gt (sl n l) p).getD 0), .bool (gt (sl n l) p).isSome]) := by
  refine fs_of_cvc mixed cd_fretworkref09_Get (by simp) ?_
  have c1 := fs_r9Sure n l (by omega)
  have s1 := sl_len n l
  generalize sn n l = N1 at *
  generalize sl n l = a at *
  have hal := its_len a
  obtain ⟨g, hg⟩ : ∃ g, gt a p = g := ⟨_, rfl⟩
  rw [hg]
  repeat' (conv => whnf); first
    | ((refine Or.inl ⟨by rfl, _, c1, ?_⟩))
    | ((refine Br.beq (by rfl) ?_))
    | ((refine Br.bne (by rfl) ?_))
    | (refine Br.tt ?_)
    | (refine Br.ff ?_)
    | (refine Br.dec (fun h => ?_) (fun h => ?_)) <;> try (exfalso; omega)
    | (refine Br.neg ?_)
    | (refine Br.mk (fun h => ?_) (fun h => ?_))
    | (refine And.intro rfl ?_)
    | (refine And.intro (by omega) ?_)
    | (refine ⟨_, Or.inl ⟨⟨by omega, by omega⟩, rfl⟩, ?_⟩)
    | (refine And.intro (by simp only [lens_all]; first | done | omega) ?_)
    | (refine And.intro (Nat.le_refl _) ?_)
    | fail
  refine ⟨Nat, fun j => j ≤ a.length ∧ gt a p = gt (a.drop j) p, fun j => [(1, .int .i64 p), (2, .ptr 0 0 0 0), (6, .int .i64 (j : Int))], fun j => [.vars [.int .i64 N1, IL a]], fun _ => none, fun j => a.length - j,
    ⟨0, ⟨Nat.zero_le _, rfl⟩, ⟨rfl, rfl, rfl, trivial⟩, ⟨⟨rfl, rfl, trivial⟩, trivial⟩, rfl⟩, fun j hj => ?_⟩
  obtain ⟨hj1, hj2⟩ := hj
  by_cases hja : j < a.length
  · obtain ⟨x, hx⟩ : ∃ x, a.getD j (0, 0) = x := ⟨_, rfl⟩
    have hd : a.drop j = x :: a.drop (j + 1) := by
      rw [List.drop_eq_getElem_cons hja, ← hx]; simp [hja]
    rw [hd, gt_cons] at hj2
    repeat' (conv => whnf); first
      | ((refine its_go' (i := j) (by omega) hx ?_))
      | ((refine Br.beq (by rfl) ?_))
      | ((refine Br.bne (by rfl) ?_))
      | (refine Br.tt ?_)
      | (refine Br.ff ?_)
      | (refine Br.dec (fun h => ?_) (fun h => ?_)) <;> try (exfalso; omega)
      | (refine Br.neg ?_)
      | (refine Br.mk (fun h => ?_) (fun h => ?_))
      | (refine And.intro rfl ?_)
      | (refine And.intro (by omega) ?_)
      | (refine ⟨_, Or.inl ⟨⟨by omega, by omega⟩, rfl⟩, ?_⟩)
      | (refine And.intro (by simp only [lens_all, its_len]; first | done | omega) ?_)
      | (refine And.intro (Nat.le_refl _) ?_)
      | fail
    · rw [if_pos h, hg] at hj2
      subst hj2
      exact rfl
    · rw [if_neg h] at hj2
      exact ⟨j + 1, ⟨by omega, hj2⟩, (show a.length - (j + 1) < a.length - j by omega), ⟨rfl, rfl, rfl, trivial⟩, ⟨⟨rfl, rfl, trivial⟩, trivial⟩, rfl⟩
  · rw [List.drop_eq_nil_of_le (by omega), gt_nil, hg] at hj2
    subst hj2
    repeat' (conv => whnf); first
      | ((refine Br.beq (by rfl) ?_))
      | ((refine Br.bne (by rfl) ?_))
      | (refine Br.tt ?_)
      | (refine Br.ff ?_)
      | (refine Br.dec (fun h => ?_) (fun h => ?_)) <;> try (exfalso; omega)
      | (refine Br.neg ?_)
      | (refine Br.mk (fun h => ?_) (fun h => ?_))
      | (refine And.intro rfl ?_)
      | (refine And.intro (by omega) ?_)
      | (refine ⟨_, Or.inl ⟨⟨by omega, by omega⟩, rfl⟩, ?_⟩)
      | (refine And.intro (by simp only [lens_all, its_len]; first | done | omega) ?_)
      | (refine And.intro (Nat.le_refl _) ?_)
      | fail
    exact rfl
end
section
open Go.RowKit
attribute [local irreducible] FS FO IT HS

def ir_fretworkref09_Drop : IR :=
(.seq (.reg (⟨(some 2), .bx (.t 0), none⟩ ::⟨(some 4), .al [.int .i64 0, .nils], none⟩ :: [])) (.seq (.reg (⟨(some 7), .ld 2 true (.t 2), none⟩ ::⟨(some 8), .call (.c (.fn 76 [])) [(.t 7)], none⟩ ::⟨none, .st 2 (.t 2) (.t 8), none⟩ :: [])) (.seq (.reg (⟨(some 9), .fa 0 (.t 2), none⟩ ::⟨(some 10), .ld 1 false (.t 9), none⟩ ::⟨(some 11), .bld [.int .i64 0, .nils] [(0, 1, (.t 10))], none⟩ ::⟨(some 5), .al [.int .i64 0, .nils], none⟩ ::⟨none, .st 2 (.t 5) (.t 11), none⟩ :: [])) (.seq (.seq (.reg (⟨(some 6), .mv (.c (.int .i64 0)), none⟩ :: [])) (.block 0 (.loop (.seq (.seq (.reg (⟨(some 12), .mv (.t 6), none⟩ ::⟨(some 13), .fa 1 (.t 2), none⟩ ::⟨(some 14), .ld 1 false (.t 13), none⟩ ::⟨(some 15), .ln (.t 14), none⟩ ::⟨(some 16), .bin .lss (.t 12) (.t 15), none⟩ :: [])) (.cond (.t 16) .skip (.exit 0))) (.seq (.block 1 (.seq (.reg (⟨(some 19), .fa 1 (.t 2), none⟩ ::⟨(some 20), .ld 1 false (.t 19), none⟩ ::⟨(some 21), .mv (.t 6), none⟩ ::⟨(some 22), .ia 2 (.t 20) (.t 21), none⟩ ::⟨(some 23), .fa 0 (.t 22), none⟩ ::⟨(some 24), .ld 1 false (.t 23), none⟩ ::⟨(some 25), .mv (.t 1), none⟩ ::⟨(some 26), .bin .neq (.t 24) (.t 25), none⟩ :: [])) (.cond (.t 26) (.draw (⟨(some 27), .fa 1 (.t 5), none⟩ ::⟨(some 28), .ld 1 false (.t 27), none⟩ ::⟨(some 29), .fa 1 (.t 2), none⟩ ::⟨(some 30), .ld 1 false (.t 29), none⟩ ::⟨(some 31), .mv (.t 6), none⟩ ::⟨(some 32), .ia 2 (.t 30) (.t 31), none⟩ ::⟨(some 33), .ld 2 true (.t 32), none⟩ ::⟨(some 34), .bsl 1 2 [.int .i64 0, .int .i64 0] [(0, (.t 33))], none⟩ :: []) (⟨(some 35), .ap 2 16 (.t 28) (.t 34), none⟩ ::⟨(some 36), .fa 1 (.t 5), none⟩ ::⟨none, .st 1 (.t 36) (.t 35), none⟩ :: [])) .skip))) (.reg (⟨(some 17), .mv (.t 6), none⟩ ::⟨(some 18), .bin .add (.t 17) (.c (.int .i64 1)), none⟩ ::⟨(some 6), .mv (.t 18), none⟩ :: []))))))) (.seq (.reg (⟨(some 37), .ld 2 true (.t 5), none⟩ ::⟨none, .st 2 (.t 4) (.t 37), none⟩ :: [])) .ret)))))
theorem cd_fretworkref09_Drop : Code1 Try.prog 57 38 ir_fretworkref09_Drop [.c 2 true 4] := ⟨Try.call57, _, _, Try.func57, rfl, by kernel_rfl, by kernel_rfl, by kernel_rfl, by kernel_rfl⟩

set_option maxHeartbeats 4000000 in
theorem fs_r9Drop (n : Int) (l : List (Int × Int)) (p : Int) (hl : l.length ≤ 400000000) : FS Try.prog 57 [VC n l, .int .i64 p] (VC (sn n l) (rest (fun x => decide (x.1 = p)) (sl n l))) := by
  refine fs_of_cvc mixed cd_fretworkref09_Drop (by simp) ?_
  have c1 := fs_r9Sure n l (by omega)
  have s1 := sl_len n l
  generalize sn n l = N1 at *
  generalize sl n l = a at *
  have hal := its_len a
  repeat' (conv => whnf); first
    | ((refine Or.inl ⟨by rfl, _, c1, ?_⟩))
    | ((refine Br.beq (by rfl) ?_))
    | ((refine Br.bne (by rfl) ?_))
    | ((refine And.intro (Or.inl (Nat.zero_le _)) ?_))
    | ((refine And.intro (by intro y hy; simp at hy; subst hy; rfl) ?_))
    | (refine Br.tt ?_)
    | (refine Br.ff ?_)
    | (refine Br.dec (fun h => ?_) (fun h => ?_)) <;> try (exfalso; omega)
    | (refine Br.neg ?_)
    | (refine Br.mk (fun h => ?_) (fun h => ?_))
    | (refine And.intro rfl ?_)
    | (refine And.intro (by omega) ?_)
    | (refine ⟨_, Or.inl ⟨⟨by omega, by omega⟩, rfl⟩, ?_⟩)
    | (refine And.intro (by simp only [lens_all]; first | done | omega) ?_)
    | (refine And.intro (Nat.le_refl _) ?_)
    | fail
  refine ⟨Nat, fun j => j ≤ a.length, fun j => [(1, .int .i64 p), (2, .ptr 0 0 0 0), (4, .ptr 1 0 0 0), (5, .ptr 2 0 0 0), (6, .int .i64 (j : Int))], fun j => [.vars [.int .i64 N1, IL a], .vars [.int .i64 0, .nils], .vars [.int .i64 N1, .osl 3 2 0 (rest (fun x => decide (x.1 = p)) (a.take j)).length], .arr 2 (its (rest (fun x => decide (x.1 = p)) (a.take j)))], fun _ => none, fun j => a.length - j,
    ⟨0, Nat.zero_le _, ⟨rfl, rfl, rfl, rfl, rfl, trivial⟩, ⟨⟨rfl, rfl, trivial⟩, ⟨rfl, rfl, trivial⟩, ⟨rfl, ⟨Nat.le_refl _, rfl, rfl⟩, trivial⟩, rfl, trivial⟩, rfl⟩, fun j hj => ?_⟩
  have hj : j ≤ a.length := hj
  by_cases hja : j < a.length
  · obtain ⟨x, hx⟩ : ∃ x, a.getD j (0, 0) = x := ⟨_, rfl⟩
    have hst := rest_take (p := fun x => decide (x.1 = p)) (show a[j]? = some x by rw [← hx]; simp [hja])
    have hfl := rest_le (fun x => decide (x.1 = p)) (a.take j)
    have htl : (a.take j).length ≤ a.length := by simp; omega
    repeat' (conv => whnf); first
      | ((refine its_go' (i := j) (by omega) hx ?_))
      | ((refine Br.beq (by rfl) ?_))
      | ((refine Br.bne (by rfl) ?_))
      | ((refine And.intro (Or.inl (Nat.zero_le _)) ?_))
      | ((refine And.intro (by intro y hy; simp at hy; subst hy; rfl) ?_))
      | (refine Br.tt ?_)
      | (refine Br.ff ?_)
      | (refine Br.dec (fun h => ?_) (fun h => ?_)) <;> try (exfalso; omega)
      | (refine Br.neg ?_)
      | (refine Br.mk (fun h => ?_) (fun h => ?_))
      | (refine And.intro rfl ?_)
      | (refine And.intro (by omega) ?_)
      | (refine ⟨_, Or.inl ⟨⟨by omega, by omega⟩, rfl⟩, ?_⟩)
      | (refine And.intro (by simp only [lens_all, its_len]; first | done | omega) ?_)
      | (refine And.intro (Nat.le_refl _) ?_)
      | fail
    · rw [if_neg (by simpa using h)] at hst
      refine ⟨j + 1, (show j + 1 ≤ a.length by omega), (show a.length - (j + 1) < a.length - j by omega), ⟨rfl, rfl, rfl, rfl, rfl, trivial⟩, ⟨⟨rfl, rfl, trivial⟩, ⟨rfl, rfl, trivial⟩, ⟨rfl, ?_, trivial⟩, ?_, trivial⟩, rfl⟩
      · refine congrArg (SV.osl 3 2 0) ?_
        rw [hst]; simp
      · refine congrArg (Blk.arr 2) ?_
        rw [hst, its_append]; rfl
    · have hxp : x.1 = p := by omega
      rw [if_pos (by simpa using hxp), List.append_nil] at hst
      refine ⟨j + 1, (show j + 1 ≤ a.length by omega), (show a.length - (j + 1) < a.length - j by omega), ⟨rfl, rfl, rfl, rfl, rfl, trivial⟩, ⟨⟨rfl, rfl, trivial⟩, ⟨rfl, rfl, trivial⟩, ⟨rfl, ?_, trivial⟩, ?_, trivial⟩, rfl⟩
      · rw [hst]; exact rfl
      · rw [hst]; exact rfl
  · obtain rfl : j = a.length := by omega
    repeat' (conv => whnf); first
      | ((refine Br.beq (by rfl) ?_))
      | ((refine Br.bne (by rfl) ?_))
      | ((refine And.intro (Or.inl (Nat.zero_le _)) ?_))
      | ((refine And.intro (by intro y hy; simp at hy; subst hy; rfl) ?_))
      | (refine Br.tt ?_)
      | (refine Br.ff ?_)
      | (refine Br.dec (fun h => ?_) (fun h => ?_)) <;> try (exfalso; omega)
      | (refine Br.neg ?_)
      | (refine Br.mk (fun h => ?_) (fun h => ?_))
      | (refine And.intro rfl ?_)
      | (refine And.intro (by omega) ?_)
      | (refine ⟨_, Or.inl ⟨⟨by omega, by omega⟩, rfl⟩, ?_⟩)
      | (refine And.intro (by simp only [lens_all, its_len]; first | done | omega) ?_)
      | (refine And.intro (Nat.le_refl _) ?_)
      | fail
    conv => whnf
    have e1 : a.take a.length = a := List.take_length
    rw [frz_its, e1]
    rfl
end
section
open Go.RowKit
attribute [local irreducible] FS FO IT HS

def ir_fretworkref07_SameVals : IR :=
(.seq (.reg (⟨(some 4), .mv (.c (.bool false)), none⟩ :: [])) (.seq (.seq (.reg (⟨(some 6), .mv (.t 0), none⟩ ::⟨(some 7), .ln (.t 6), none⟩ ::⟨(some 8), .mv (.t 1), none⟩ ::⟨(some 9), .ln (.t 8), none⟩ ::⟨(some 10), .bin .neq (.t 7) (.t 9), none⟩ :: [])) (.cond (.t 10) (.seq (.reg (⟨(some 4), .mv (.c (.bool false)), none⟩ :: [])) .ret) .skip)) (.seq (.seq (.reg (⟨(some 5), .mv (.c (.int .i64 0)), none⟩ :: [])) (.block 0 (.loop (.seq (.seq (.reg (⟨(some 11), .mv (.t 5), none⟩ ::⟨(some 12), .mv (.t 0), none⟩ ::⟨(some 13), .ln (.t 12), none⟩ ::⟨(some 14), .bin .lss (.t 11) (.t 13), none⟩ :: [])) (.cond (.t 14) .skip (.exit 0))) (.seq (.block 1 (.seq (.draw (⟨(some 17), .mv (.t 0), none⟩ ::⟨(some 18), .mv (.t 5), none⟩ ::⟨(some 19), .ia 1 (.t 17) (.t 18), none⟩ ::⟨(some 20), .ld 1 false (.t 19), none⟩ ::⟨(some 21), .mv (.t 1), none⟩ ::⟨(some 22), .mv (.t 5), none⟩ ::⟨(some 23), .ia 1 (.t 21) (.t 22), none⟩ ::⟨(some 24), .ld 1 false (.t 23), none⟩ :: []) (⟨(some 25), .bin .neq (.t 20) (.t 24), none⟩ :: [])) (.cond (.t 25) (.seq (.reg (⟨(some 4), .mv (.c (.bool false)), none⟩ :: [])) .ret) .skip))) (.reg (⟨(some 15), .mv (.t 5), none⟩ ::⟨(some 16), .bin .add (.t 15) (.c (.int .i64 1)), none⟩ ::⟨(some 5), .mv (.t 16), none⟩ :: []))))))) (.seq (.reg (⟨(some 4), .mv (.c (.bool true)), none⟩ :: [])) .ret))))
theorem cd_fretworkref07_SameVals : Code1 Try.prog 74 26 ir_fretworkref07_SameVals [.t 4] := ⟨Try.call74, _, _, Try.func74, rfl, by kernel_rfl, by kernel_rfl, by kernel_rfl, by kernel_rfl⟩

theorem fs_SameVals (a b : List Int) (hla : a.length ≤ 1000000000) : FS Try.prog 74 [Z a, Z b] (.bool (decide (a = b))) := by
  refine fs_of_cvc mixed cd_fretworkref07_SameVals (by simp) ?_
  have ha := zs_len a
  have hb := zs_len b
  repeat' (conv => whnf); first
    | ((refine Br.beq (by rfl) ?_))
    | ((refine Br.bne (by rfl) ?_))
    | ((refine And.intro (Or.inl (Nat.zero_le _)) ?_))
    | ((refine And.intro (show _ ≤ _ from Nat.le_of_ble_eq_true rfl) ?_))
    | (refine Br.tt ?_)
    | (refine Br.ff ?_)
    | (refine Br.dec (fun h => ?_) (fun h => ?_)) <;> try (exfalso; omega)
    | (refine Br.neg ?_)
    | (refine Br.mk (fun h => ?_) (fun h => ?_))
    | (refine And.intro rfl ?_)
    | (refine And.intro (by omega) ?_)
    | (refine ⟨_, Or.inl ⟨⟨by omega, by omega⟩, rfl⟩, ?_⟩)
    | (refine And.intro (by simp only [lens_all, U_len, zs_len]; first | done | omega) ?_)
    | (refine And.intro (Nat.le_refl _) ?_)
    | fail
  · show SV.bool false = _
    rw [decide_eq_false]; intro e; subst e; omega
  refine ⟨Nat, fun k => k ≤ a.length ∧ a.take k = b.take k, fun k => [(0, Z a), (1, Z b), (5, .int .i64 (k : Int))], fun k => [], fun _ => none, fun k => a.length - k, ⟨0, ⟨by omega, rfl⟩, ⟨rfl, rfl, rfl, trivial⟩, trivial, rfl⟩, fun k hk => ?_⟩
  have hk' : k ≤ a.length := hk.1
  have hlen : a.length = b.length := by omega
  repeat' (conv => whnf); first
    | ((refine fun x hx => ?_); (obtain rfl := zs_at hx; clear hx))
    | ((refine Br.beq (by rfl) ?_))
    | ((refine Br.bne (by rfl) ?_))
    | ((refine And.intro (Or.inl (Nat.zero_le _)) ?_))
    | ((refine And.intro (show _ ≤ _ from Nat.le_of_ble_eq_true rfl) ?_))
    | (refine Br.tt ?_)
    | (refine Br.ff ?_)
    | (refine Br.dec (fun h => ?_) (fun h => ?_)) <;> try (exfalso; omega)
    | (refine Br.neg ?_)
    | (refine Br.mk (fun h => ?_) (fun h => ?_))
    | (refine And.intro rfl ?_)
    | (refine And.intro (by omega) ?_)
    | (refine ⟨_, Or.inl ⟨⟨by omega, by omega⟩, rfl⟩, ?_⟩)
    | (refine And.intro (by simp only [lens_all, U_len, zs_len]; first | done | omega) ?_)
    | (refine And.intro (Nat.le_refl _) ?_)
    | fail
  · show SV.bool false = _
    rw [decide_eq_false]
    rintro rfl
    refine h ?_
    rfl
  · refine ⟨k + 1, ⟨(show k + 1 ≤ a.length by omega), take_more hk.2 (show a[k]? = b[k]? from by rw [getD_get 0 (show k < a.length by omega), getD_get 0 (show k < b.length by omega)]; exact congrArg some (Classical.not_not.1 h))⟩, (show a.length - (k + 1) < a.length - k by omega), ⟨rfl, rfl, rfl, trivial⟩, trivial, rfl⟩
  · have hkl : k = a.length := by omega
    show SV.bool true = _
    rw [decide_eq_true]
    have := hk.2
    rwa [hkl, List.take_length, hlen, List.take_length] at this

def ir_fretworkref10_Same : IR :=
(.seq (.reg (⟨(some 2), .bx (.t 0), none⟩ ::⟨(some 3), .bx (.t 1), none⟩ ::⟨(some 4), .mv (.c (.bool false)), none⟩ :: [])) (.seq (.reg (⟨(some 5), .fa 0 (.t 2), none⟩ ::⟨(some 6), .ld 1 false (.t 5), none⟩ ::⟨(some 7), .fa 0 (.t 3), none⟩ ::⟨(some 8), .ld 1 false (.t 7), none⟩ ::⟨(some 9), .bin .eql (.t 6) (.t 8), none⟩ ::⟨(some 10), .mv (.t 9), none⟩ ::⟨(some 11), .fa 1 (.t 2), some (10, true)⟩ ::⟨(some 12), .ld 1 false (.t 11), some (10, true)⟩ ::⟨(some 13), .fa 1 (.t 3), some (10, true)⟩ ::⟨(some 14), .ld 1 false (.t 13), some (10, true)⟩ ::⟨(some 15), .call (.c (.fn 73 [])) [(.t 12), (.t 14)], some (10, true)⟩ ::⟨(some 16), .pick (.t 10) (.t 15) (.c (.bool false)), none⟩ ::⟨(some 17), .mv (.t 16), none⟩ ::⟨(some 18), .fa 2 (.t 2), some (17, true)⟩ ::⟨(some 19), .ld 1 false (.t 18), some (17, true)⟩ ::⟨(some 20), .fa 2 (.t 3), some (17, true)⟩ ::⟨(some 21), .ld 1 false (.t 20), some (17, true)⟩ ::⟨(some 22), .call (.c (.fn 74 [])) [(.t 19), (.t 21)], some (17, true)⟩ ::⟨(some 23), .pick (.t 17) (.t 22) (.c (.bool false)), none⟩ ::⟨(some 4), .mv (.t 23), none⟩ :: [])) .ret))
theorem cd_fretworkref10_Same : Code1 Try.prog 22 24 ir_fretworkref10_Same [.t 4] := ⟨Try.call22, _, _, Try.func22, rfl, by kernel_rfl, by kernel_rfl, by kernel_rfl, by kernel_rfl⟩

theorem fs_r10Same (n : Int) (f : List Nat) (v : List Int) (m : Int) (g : List Nat) (u : List Int) (hf : f.length ≤ 1000000000) (hv : v.length ≤ 1000000000) : FS Try.prog 22 [DV n f v, DV m g u] (.bool (decide (n = m) && (decide (f = g) && decide (v = u)))) := by
  refine fs_of_cvc mixed cd_fretworkref10_Same (by simp) ?_
  repeat' (conv => whnf); first
    | ((refine Or.inl ⟨by rfl, _, fs_Same f g hf, ?_⟩))
    | ((refine Or.inl ⟨by rfl, _, fs_SameVals v u hv, ?_⟩))
    | ((refine Br.beq (by rfl) ?_))
    | ((refine Br.bne (by rfl) ?_))
    | ((refine And.intro (Or.inl (Nat.zero_le _)) ?_))
    | ((refine And.intro (show _ ≤ _ from Nat.le_of_ble_eq_true rfl) ?_))
    | (refine Br.tt ?_)
    | (refine Br.ff ?_)
    | (refine Br.dec (fun h => ?_) (fun h => ?_)) <;> try (exfalso; omega)
    | (refine Br.neg ?_)
    | (refine Br.mk (fun h => ?_) (fun h => ?_))
    | (refine And.intro rfl ?_)
    | (refine And.intro (by omega) ?_)
    | (refine ⟨_, Or.inl ⟨⟨by omega, by omega⟩, rfl⟩, ?_⟩)
    | (refine And.intro (by simp only [lens_all, U_len, zs_len]; first | done | omega) ?_)
    | (refine And.intro (Nat.le_refl _) ?_)
    | fail
  all_goals (show SV.bool _ = SV.bool _; simp [*])
end
end Go.Proofs.Ytahpfomabgfmkaa
