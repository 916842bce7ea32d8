/- The document's sets of places: words, places, lists. The document's sets of places: ranks, what two come to, parts. -/
import Derived.Test.YtlbmjnammgffiaaF1
namespace Go.Proofs.Ytlbmjnammgffiaa
section
open Go.RowKit
attribute [local irreducible] FS FO IT HS

theorem zs_at {l : List Int} {k : Nat} {x : List SV} (h : (zs l)[k]? = some x) : x = [.int .i64 (l.getD k 0)] := by
  obtain ⟨v, hv, rfl⟩ := zs_get h
  rw [List.getD_eq_getElem?_getD, hv]; rfl
theorem U_at {l : List Nat} {k : Nat} {x : List SV} (h : (uw l)[k]? = some x) : x = [.int .u64 ((l.getD k 0 : Nat) : Int)] := by
  obtain ⟨v, hv, rfl⟩ := U_get h
  rw [List.getD_eq_getElem?_getD, hv]; rfl
theorem ints_at {l : List Nat} {k : Nat} {x : List SV} (h : (ints l)[k]? = some x) : x = [.int .i64 ((l.getD k 0 : Nat) : Int)] := by
  obtain ⟨v, hv, rfl⟩ := ints_get' h
  rw [List.getD_eq_getElem?_getD, hv]; rfl
/-- Numbers of Go. -/
def Zb (l : List Int) : Prop := ∀ x ∈ l, -9223372036854775808 ≤ x ∧ x ≤ 9223372036854775807
theorem Zb.at {l : List Int} (h : Zb l) (k : Nat) : -9223372036854775808 ≤ l.getD k 0 ∧ l.getD k 0 ≤ 9223372036854775807 := by
  rw [List.getD_eq_getElem?_getD]
  cases hv : l[k]? with
  | none => simp
  | some v => exact h v (List.mem_of_getElem? hv)
theorem getD_get {α : Type} {l : List α} {k : Nat} (z : α) (h : k < l.length) : l[k]? = some (l.getD k z) := by
  rw [List.getD_eq_getElem?_getD, List.getElem?_eq_getElem h]; rfl

def ir_fretworkref03_words : IR :=
(.seq (.reg (⟨(some 2), .mv (.c (.int .i64 0)), none⟩ :: [])) (.seq (.seq (.reg (⟨(some 3), .mv (.t 0), none⟩ ::⟨(some 4), .bin .gtr (.t 3) (.c (.int .i64 4096)), none⟩ :: [])) (.cond (.t 4) (.reg (⟨(some 0), .mv (.c (.int .i64 4096)), none⟩ :: [])) .skip)) (.seq (.seq (.reg (⟨(some 5), .mv (.t 0), none⟩ ::⟨(some 6), .bin .lss (.t 5) (.c (.int .i64 1)), none⟩ :: [])) (.cond (.t 6) (.seq (.reg (⟨(some 2), .mv (.c (.int .i64 0)), none⟩ :: [])) .ret) .skip)) (.seq (.reg (⟨(some 7), .mv (.t 0), none⟩ ::⟨(some 8), .bin .add (.t 7) (.c (.int .i64 63)), none⟩ ::⟨(some 9), .bin .quo (.t 8) (.c (.int .i64 64)), none⟩ ::⟨(some 2), .mv (.t 9), none⟩ :: [])) .ret))))
theorem cd_fretworkref03_words : Code1 Try.prog 75 10 ir_fretworkref03_words [.t 2] := ⟨Try.call75, _, _, Try.func75, rfl, by kernel_rfl, by kernel_rfl, by kernel_rfl, by kernel_rfl⟩

theorem fs_rwords (n : Int) (h0 : -9223372036854775808 ≤ n) (h1 : n ≤ 9223372036854775807) : FS Try.prog 75 [.int .i64 n] (.int .i64 (wordsI n)) := by
  refine fs_of_cvc mixed cd_fretworkref03_words (by simp) ?_
  repeat' (conv => whnf); first
    | ((refine fun x hx => ?_); (obtain ⟨v, hv, rfl⟩ := U_get hx))
    | ((refine fun x hx => ?_); (obtain rfl := zs_at hx; clear hx))
    | ((refine fun x hx => ?_); (obtain rfl := ints_at hx; clear hx))
    | ((refine And.intro rfl (And.intro (by simp only [U_len, tab_len, List.length_set]; omega) ?_)))
    | ((refine ar_tdiv (by omega) (by omega) (by omega) ?_))
    | (refine Br.tt ?_)
    | (refine Br.ff ?_)
    | (refine Br.dec (fun h => ?_) (fun h => ?_)) <;> try (exfalso; omega)
    | (refine Br.neg ?_)
    | (refine Br.mk (fun h => ?_) (fun h => ?_))
    | (refine And.intro rfl ?_)
    | (refine And.intro (by omega) ?_)
    | (refine ⟨_, Or.inl ⟨⟨by omega, by omega⟩, rfl⟩, ?_⟩)
    | (refine And.intro (by simp only [lens_all, U_len, tab_len, ints_len, zs_len]; first | done | omega) ?_)
    | (refine And.intro (Nat.le_refl _) ?_)
    | fail
  all_goals (show SV.int .i64 _ = SV.int .i64 _; unfold wordsI; congr 1; omega)

def ir_fretworkref03_New : IR :=
(.seq (.reg (⟨(some 2), .mv (.c (.nils)), none⟩ :: [])) (.seq (.reg (⟨(some 3), .mv (.t 0), none⟩ ::⟨(some 4), .call (.c (.fn 75 [])) [(.t 3)], none⟩ ::⟨(some 5), .mk 1 8 [.int .u64 0] (.t 4) (.t 4), none⟩ ::⟨(some 2), .mv (.t 5), none⟩ :: [])) .ret))
theorem cd_fretworkref03_New : Code1 Try.prog 48 6 ir_fretworkref03_New [.t 2] := ⟨Try.call48, _, _, Try.func48, rfl, by kernel_rfl, by kernel_rfl, by kernel_rfl, by kernel_rfl⟩

theorem fo_rNew (n : Int) (h0 : -9223372036854775808 ≤ n) (h1 : n ≤ 9223372036854775807) : FO Try.prog 48 [.int .i64 n] (.osl 0 1 0 (wordsI n)) [.arr 1 (uw (List.replicate (wordsI n) 0))] := by
  refine fo_of_cvc mixed cd_fretworkref03_New (by simp) ?_
  have hw : wordsI n ≤ 64 := by unfold wordsI; omega
  refine Or.inl ⟨rfl, _, fs_rwords n h0 h1, ?_⟩
  refine ⟨by omega, Int.le_refl _, by omega, by omega, rfl, ?_⟩
  refine Or.inl ⟨[0], rfl, ?_, by simp, rfl, rfl⟩
  show [some (Blk.arr 1 (List.replicate (wordsI n : Int).toNat [.int .u64 0]))] = _
  simp [uw]
def zeroW (n : Int) : List Nat := List.replicate (wordsI n) 0
theorem zeroW_len (n : Int) : (zeroW n).length = wordsI n := by simp [zeroW]
theorem fs_rNew (n : Int) (h0 : -9223372036854775808 ≤ n) (h1 : n ≤ 9223372036854775807) : FS Try.prog 48 [.int .i64 n] (U (zeroW n)) := fs_of_fo (fo_rNew n h0 h1) (frz_tab (zeroW_len n))
theorem rem_nn {i : Int} (h0 : 0 ≤ i) : i.tmod 64 = i % 64 := Int.tmod_eq_emod_of_nonneg h0

def ir_fretworkref03_Has : IR :=
(.seq (.reg (⟨(some 4), .mv (.c (.bool false)), none⟩ :: [])) (.seq (.reg (⟨(some 5), .mv (.t 1), none⟩ ::⟨(some 6), .bin .geq (.t 5) (.c (.int .i64 0)), none⟩ ::⟨(some 7), .mv (.t 6), none⟩ ::⟨(some 8), .mv (.t 1), some (7, true)⟩ ::⟨(some 9), .bin .quo (.t 8) (.c (.int .i64 64)), some (7, true)⟩ ::⟨(some 10), .mv (.t 0), some (7, true)⟩ ::⟨(some 11), .ln (.t 10), some (7, true)⟩ ::⟨(some 12), .bin .lss (.t 9) (.t 11), some (7, true)⟩ ::⟨(some 13), .pick (.t 7) (.t 12) (.c (.bool false)), none⟩ ::⟨(some 14), .mv (.t 13), none⟩ ::⟨(some 15), .mv (.t 0), some (14, true)⟩ ::⟨(some 16), .mv (.t 1), some (14, true)⟩ ::⟨(some 17), .bin .quo (.t 16) (.c (.int .i64 64)), some (14, true)⟩ ::⟨(some 18), .ia 1 (.t 15) (.t 17), some (14, true)⟩ ::⟨(some 19), .ld 1 false (.t 18), some (14, true)⟩ ::⟨(some 20), .mv (.t 1), some (14, true)⟩ ::⟨(some 21), .bin .rem (.t 20) (.c (.int .i64 64)), some (14, true)⟩ ::⟨(some 22), .cv .u64 (.t 21), some (14, true)⟩ ::⟨(some 23), .bin .shr (.t 19) (.t 22), some (14, true)⟩ ::⟨(some 24), .bin .and (.t 23) (.c (.int .u64 1)), some (14, true)⟩ ::⟨(some 25), .bin .eql (.t 24) (.c (.int .u64 1)), some (14, true)⟩ ::⟨(some 26), .pick (.t 14) (.t 25) (.c (.bool false)), none⟩ ::⟨(some 4), .mv (.t 26), none⟩ :: [])) .ret))
theorem cd_fretworkref03_Has : Code1 Try.prog 32 27 ir_fretworkref03_Has [.t 4] := ⟨Try.call32, _, _, Try.func32, rfl, by kernel_rfl, by kernel_rfl, by kernel_rfl, by kernel_rfl⟩

theorem fs_rHas (ws : List Nat) (hw : Wd ws) (_hl : ws.length ≤ 1000000) (i : Int) (h1 : i ≤ 9223372036854775807) : FS Try.prog 32 [U ws, .int .i64 i] (.bool (hasI ws i)) := by
  refine fs_of_cvc mixed cd_fretworkref03_Has (by simp) ?_
  repeat' (conv => whnf); first
    | ((refine fun x hx => ?_); (obtain ⟨v, hv, rfl⟩ := U_get hx))
    | ((refine fun x hx => ?_); (obtain rfl := zs_at hx; clear hx))
    | ((refine fun x hx => ?_); (obtain rfl := ints_at hx; clear hx))
    | ((refine And.intro rfl (And.intro (by simp only [U_len, tab_len, List.length_set]; omega) ?_)))
    | ((refine ar_tdiv (by omega) (by omega) (by omega) ?_))
    | (refine Br.tt ?_)
    | (refine Br.ff ?_)
    | (refine Br.dec (fun h => ?_) (fun h => ?_)) <;> try (exfalso; omega)
    | (refine Br.neg ?_)
    | (refine Br.mk (fun h => ?_) (fun h => ?_))
    | (refine And.intro rfl ?_)
    | (refine And.intro (by omega) ?_)
    | (refine ⟨_, Or.inl ⟨⟨by omega, by omega⟩, rfl⟩, ?_⟩)
    | (refine And.intro (by simp only [lens_all, U_len, tab_len, ints_len, zs_len]; first | done | omega) ?_)
    | (refine And.intro (Nat.le_refl _) ?_)
    | fail
  · rename_i h0
    have e := rem_nn h0
    have e2 : i.toNat % 64 < 64 := Nat.mod_lt _ (by omega)
    have hvw := hw v (List.mem_of_getElem? hv)
    repeat' (conv => whnf); first
      | ((refine fun x hx => ?_); (obtain ⟨v, hv, rfl⟩ := U_get hx))
      | ((refine fun x hx => ?_); (obtain rfl := zs_at hx; clear hx))
      | ((refine fun x hx => ?_); (obtain rfl := ints_at hx; clear hx))
      | ((refine And.intro rfl (And.intro (by simp only [U_len, tab_len, List.length_set]; omega) ?_)))
      | ((refine ar_tdiv (by omega) (by omega) (by omega) ?_))
      | (refine Br.tt ?_)
      | (refine Br.ff ?_)
      | (refine Br.dec (fun h => ?_) (fun h => ?_)) <;> try (exfalso; omega)
      | (refine Br.neg ?_)
      | (refine Br.mk (fun h => ?_) (fun h => ?_))
      | (refine And.intro rfl ?_)
      | (refine And.intro (by omega) ?_)
      | (refine ⟨_, Or.inl ⟨⟨by omega, by omega⟩, rfl⟩, ?_⟩)
      | (refine And.intro (by simp only [lens_all, U_len, tab_len, ints_len, zs_len]; first | done | omega) ?_)
      | (refine And.intro (Nat.le_refl _) ?_)
      | fail
    show SV.bool (decide (bAnd .u64 ((v : Int) / 2 ^ (min (i.tmod 64).toNat IntKind.u64.bits)) 1 = 1)) = _
    have e3 : (v : Int) / 2 ^ (min (i.tmod 64).toNat IntKind.u64.bits) = ((v / 2 ^ (i.toNat % 64) : Nat) : Int) := by
      rw [bits_u64, show min (i.tmod 64).toNat 64 = i.toNat % 64 by omega]; simp
    have hd : v / 2 ^ (i.toNat % 64) < 18446744073709551616 := Nat.lt_of_le_of_lt (Nat.div_le_self _ _) hvw
    have e4 := bAnd_u64 (x := v / 2 ^ (i.toNat % 64)) (y := 1) hd (by omega)
    rw [e3, show bAnd .u64 ((v / 2 ^ (i.toNat % 64) : Nat) : Int) 1 = bAnd .u64 ((v / 2 ^ (i.toNat % 64) : Nat) : Int) ((1 : Nat) : Int) from rfl, e4, hasI_of h0 hv, Nat.testBit_eq_decide_div_mod_eq, show v / 2 ^ (i.toNat % 64) &&& 1 = v / 2 ^ (i.toNat % 64) % 2 from and_mask _ 1]
    congr 1
    rw [Bool.eq_iff_iff, decide_eq_true_iff, decide_eq_true_iff]
    omega
  · show SV.bool false = _
    rename_i h0
    rw [U_len] at h
    rw [hasI_out (by simp [inW]; intro; omega)]
  · show SV.bool false = _
    rw [hasI_out (by simp [inW]; omega)]

def ir_fretworkref03_set : IR :=
(.seq (.reg (⟨(some 6), .mv (.c (.nils)), none⟩ :: [])) (.seq (.reg (⟨(some 7), .mv (.c (.nils)), none⟩ :: [])) (.seq (.reg (⟨(some 9), .mv (.t 7), none⟩ ::⟨(some 10), .mv (.t 0), none⟩ ::⟨(some 11), .ap 1 8 (.t 9) (.t 10), none⟩ ::⟨(some 7), .mv (.t 11), none⟩ :: [])) (.seq (.seq (.reg (⟨(some 12), .mv (.t 1), none⟩ ::⟨(some 13), .bin .lss (.t 12) (.c (.int .i64 0)), none⟩ ::⟨(some 14), .mv (.t 13), none⟩ ::⟨(some 15), .mv (.t 1), some (14, false)⟩ ::⟨(some 16), .bin .quo (.t 15) (.c (.int .i64 64)), some (14, false)⟩ ::⟨(some 17), .mv (.t 0), some (14, false)⟩ ::⟨(some 18), .ln (.t 17), some (14, false)⟩ ::⟨(some 19), .bin .geq (.t 16) (.t 18), some (14, false)⟩ ::⟨(some 20), .pick (.t 14) (.c (.bool true)) (.t 19), none⟩ :: [])) (.cond (.t 20) (.seq (.reg (⟨(some 21), .mv (.t 7), none⟩ ::⟨(some 6), .mv (.t 21), none⟩ :: [])) .ret) .skip)) (.seq (.reg (⟨(some 22), .mv (.t 1), none⟩ ::⟨(some 23), .bin .rem (.t 22) (.c (.int .i64 64)), none⟩ ::⟨(some 24), .cv .u64 (.t 23), none⟩ ::⟨(some 25), .bin .shl (.c (.int .u64 1)) (.t 24), none⟩ ::⟨(some 8), .mv (.t 25), none⟩ :: [])) (.seq (.seq (.reg (⟨(some 26), .mv (.t 2), none⟩ :: [])) (.cond (.t 26) (.reg (⟨(some 27), .mv (.t 7), none⟩ ::⟨(some 28), .mv (.t 1), none⟩ ::⟨(some 29), .bin .quo (.t 28) (.c (.int .i64 64)), none⟩ ::⟨(some 30), .mv (.t 7), none⟩ ::⟨(some 31), .mv (.t 1), none⟩ ::⟨(some 32), .bin .quo (.t 31) (.c (.int .i64 64)), none⟩ ::⟨(some 33), .ia 1 (.t 30) (.t 32), none⟩ ::⟨(some 34), .ld 1 false (.t 33), none⟩ ::⟨(some 35), .mv (.t 8), none⟩ ::⟨(some 36), .bin .or (.t 34) (.t 35), none⟩ ::⟨(some 37), .ia 1 (.t 27) (.t 29), none⟩ ::⟨none, .st 1 (.t 37) (.t 36), none⟩ :: [])) (.reg (⟨(some 38), .mv (.t 7), none⟩ ::⟨(some 39), .mv (.t 1), none⟩ ::⟨(some 40), .bin .quo (.t 39) (.c (.int .i64 64)), none⟩ ::⟨(some 41), .mv (.t 7), none⟩ ::⟨(some 42), .mv (.t 1), none⟩ ::⟨(some 43), .bin .quo (.t 42) (.c (.int .i64 64)), none⟩ ::⟨(some 44), .ia 1 (.t 41) (.t 43), none⟩ ::⟨(some 45), .ld 1 false (.t 44), none⟩ ::⟨(some 46), .mv (.t 8), none⟩ ::⟨(some 47), .bin .andNot (.t 45) (.t 46), none⟩ ::⟨(some 48), .ia 1 (.t 38) (.t 40), none⟩ ::⟨none, .st 1 (.t 48) (.t 47), none⟩ :: [])))) (.seq (.reg (⟨(some 49), .mv (.t 7), none⟩ ::⟨(some 6), .mv (.t 49), none⟩ :: [])) .ret)))))))
theorem cd_fretworkref03_set : Code1 Try.prog 100 50 ir_fretworkref03_set [.t 6] := ⟨Try.call100, _, _, Try.func100, rfl, by kernel_rfl, by kernel_rfl, by kernel_rfl, by kernel_rfl⟩

def ir_fretworkref03_Put : IR :=
(.seq (.reg (⟨(some 4), .mv (.c (.nils)), none⟩ :: [])) (.seq (.reg (⟨(some 5), .mv (.t 0), none⟩ ::⟨(some 6), .mv (.t 1), none⟩ ::⟨(some 7), .call (.c (.fn 100 [])) [(.t 5), (.t 6), (.c (.bool true))], none⟩ ::⟨(some 4), .mv (.t 7), none⟩ :: [])) .ret))
theorem cd_fretworkref03_Put : Code1 Try.prog 74 8 ir_fretworkref03_Put [.t 4] := ⟨Try.call74, _, _, Try.func74, rfl, by kernel_rfl, by kernel_rfl, by kernel_rfl, by kernel_rfl⟩

theorem fs_rset (ws : List Nat) (hw : Wd ws) (hl : ws.length ≤ 1000000) (i : Int) (h1 : i ≤ 9223372036854775807) (b : Bool) : FS Try.prog 100 [U ws, .int .i64 i, .bool b] (U (turn ws i (if b then (· ||| ·) else natAndNot))) := by
  refine fs_of_cvc mixed cd_fretworkref03_set (by simp) ?_
  have hlen := U_len ws
  repeat' (conv => whnf); first
    | ((refine And.intro (scal ws) ?_))
    | ((refine fun x hx => ?_); (obtain ⟨v, hv, rfl⟩ := U_get hx))
    | ((refine fun x hx => ?_); (obtain rfl := zs_at hx; clear hx))
    | ((refine fun x hx => ?_); (obtain rfl := ints_at hx; clear hx))
    | ((refine And.intro rfl (And.intro (by simp only [U_len]; omega) ?_)))
    | ((refine ar_tdiv (by omega) (by omega) (by omega) ?_))
    | (refine Br.tt ?_)
    | (refine Br.ff ?_)
    | (refine Br.dec (fun h => ?_) (fun h => ?_)) <;> try (exfalso; omega)
    | (refine Br.neg ?_)
    | (refine Br.mk (fun h => ?_) (fun h => ?_))
    | (refine And.intro rfl ?_)
    | (refine And.intro (by omega) ?_)
    | (refine ⟨_, Or.inl ⟨⟨by omega, by omega⟩, rfl⟩, ?_⟩)
    | (refine And.intro (by simp only [lens_all, U_len, tab_len, ints_len, zs_len]; first | done | omega) ?_)
    | (refine And.intro (Nat.le_refl _) ?_)
    | fail
  · show SV.slc 1 (List.take (uw ws).length (List.drop 0 (uw ws))) = _
    rw [hlen, frz_U rfl, turn, if_neg (by simp [inW]; omega)]; rfl
  · show SV.slc 1 (List.take (uw ws).length (List.drop 0 (uw ws))) = _
    rw [hlen, frz_U rfl, turn, if_neg (by simp [inW]; intro; omega)]; rfl
  · rename_i h0
    have h0' : 0 ≤ i := by omega
    have e := rem_nn h0'
    have e2 : i.toNat % 64 < 64 := Nat.mod_lt _ (by omega)
    have hp := pow_lt64 e2
    have hpos : 0 < 2 ^ (i.toNat % 64) := Nat.pow_pos (by omega)
    have e3 : (1 : Int) * 2 ^ (min (i.tmod 64).toNat IntKind.u64.bits) = ((2 ^ (i.toNat % 64) : Nat) : Int) := by
      rw [bits_u64, show min (i.tmod 64).toNat 64 = i.toNat % 64 by omega]; simp
    have hin : inW ws i = true := by simp [inW]; omega
    repeat' (conv => whnf); first
      | ((refine ⟨_, uw_at (by omega), ?_⟩))
      | ((refine fun x hx => ?_); (obtain ⟨v, hv, rfl⟩ := U_get hx))
      | ((refine fun x hx => ?_); (obtain rfl := zs_at hx; clear hx))
      | ((refine fun x hx => ?_); (obtain rfl := ints_at hx; clear hx))
      | ((refine And.intro rfl (And.intro (by simp only [U_len, List.length_set]; omega) ?_)))
      | ((refine ar_tdiv (by omega) (by omega) (by omega) ?_))
      | (refine Br.tt ?_)
      | (refine Br.ff ?_)
      | (refine Br.dec (fun h => ?_) (fun h => ?_)) <;> try (exfalso; omega)
      | (refine Br.neg ?_)
      | (refine Br.mk (fun h => ?_) (fun h => ?_))
      | (refine And.intro rfl ?_)
      | (refine And.intro (by omega) ?_)
      | (refine ⟨_, Or.inl ⟨⟨by omega, by omega⟩, rfl⟩, ?_⟩)
      | (refine And.intro (by simp only [lens_all, U_len, tab_len, ints_len, zs_len]; first | done | omega) ?_)
      | (refine And.intro (Nat.le_refl _) ?_)
      | fail
    · subst h
      show SV.slc 1 (List.take (uw ws).length (List.drop 0 ((uw ws).set (0 + (i / 64).toNat) [SV.int .u64 (bOr .u64 ((ws.getD (0 + (i / 64).toNat) 0 : Nat) : Int) (1 * 2 ^ (min (i.tmod 64).toNat IntKind.u64.bits)))]))) = _
      rw [e3, bOr_u64 (getD_lt hw _) hp, uw_set, hlen, frz_U (by simp), turn, if_pos hin, Nat.zero_add]
      rfl
    · subst h
      show SV.slc 1 (List.take (uw ws).length (List.drop 0 ((uw ws).set (0 + (i / 64).toNat) [SV.int .u64 (bAndNot .u64 ((ws.getD (0 + (i / 64).toNat) 0 : Nat) : Int) (1 * 2 ^ (min (i.tmod 64).toNat IntKind.u64.bits)))]))) = _
      rw [e3, bAndNot_u64 (getD_lt hw _) hp, uw_set, hlen, frz_U (by simp), turn, if_pos hin, Nat.zero_add]
      rfl
theorem fs_rPut (ws : List Nat) (hw : Wd ws) (hl : ws.length ≤ 1000000) (i : Int) (h1 : i ≤ 9223372036854775807) : FS Try.prog 74 [U ws, .int .i64 i] (U (put1 ws i)) := by
  refine fs_of_cvc mixed cd_fretworkref03_Put (by simp) ?_
  refine Or.inl ⟨rfl, _, fs_rset ws hw hl i h1 true, ?_⟩
  exact rfl

def ir_fretworkref03_List : IR :=
(.seq (.reg (⟨(some 2), .mv (.c (.nils)), none⟩ :: [])) (.seq (.reg (⟨(some 3), .mv (.c (.nils)), none⟩ :: [])) (.seq (.seq (.reg (⟨(some 4), .mv (.c (.int .i64 0)), none⟩ :: [])) (.block 0 (.loop (.seq (.seq (.reg (⟨(some 5), .mv (.t 4), none⟩ ::⟨(some 6), .mv (.t 0), none⟩ ::⟨(some 7), .ln (.t 6), none⟩ ::⟨(some 8), .bin .mul (.c (.int .i64 64)) (.t 7), none⟩ ::⟨(some 9), .bin .lss (.t 5) (.t 8), none⟩ :: [])) (.cond (.t 9) .skip (.exit 0))) (.seq (.block 1 (.seq (.reg (⟨(some 12), .mv (.t 0), none⟩ ::⟨(some 13), .mv (.t 4), none⟩ ::⟨(some 14), .call (.c (.fn 32 [])) [(.t 12), (.t 13)], none⟩ :: [])) (.cond (.t 14) (.reg (⟨(some 15), .mv (.t 3), none⟩ ::⟨(some 16), .mv (.t 4), none⟩ ::⟨(some 17), .bsl 1 1 [.int .i64 0] [(0, (.t 16))], none⟩ ::⟨(some 18), .ap 1 8 (.t 15) (.t 17), none⟩ ::⟨(some 3), .mv (.t 18), none⟩ :: [])) .skip))) (.reg (⟨(some 10), .mv (.t 4), none⟩ ::⟨(some 11), .bin .add (.t 10) (.c (.int .i64 1)), none⟩ ::⟨(some 4), .mv (.t 11), none⟩ :: []))))))) (.seq (.reg (⟨(some 19), .mv (.t 3), none⟩ ::⟨(some 2), .mv (.t 19), none⟩ :: [])) .ret))))
theorem cd_fretworkref03_List : Code1 Try.prog 66 20 ir_fretworkref03_List [.t 2] := ⟨Try.call66, _, _, Try.func66, rfl, by kernel_rfl, by kernel_rfl, by kernel_rfl, by kernel_rfl⟩

theorem fs_rList (ws : List Nat) (hw : Wd ws) (hl : ws.length ≤ 1000000) : FS Try.prog 66 [U ws] (I (bits ws)) := by
  refine fs_of_cvc mixed cd_fretworkref03_List (by simp) ?_
  repeat' (conv => whnf); first
    | ((refine fun x hx => ?_); (obtain ⟨v, hv, rfl⟩ := U_get hx))
    | ((refine fun x hx => ?_); (obtain rfl := zs_at hx; clear hx))
    | ((refine fun x hx => ?_); (obtain rfl := ints_at hx; clear hx))
    | ((refine And.intro rfl (And.intro (by simp only [U_len, tab_len, List.length_set]; omega) ?_)))
    | ((refine ar_tdiv (by omega) (by omega) (by omega) ?_))
    | (refine Br.tt ?_)
    | (refine Br.ff ?_)
    | (refine Br.dec (fun h => ?_) (fun h => ?_)) <;> try (exfalso; omega)
    | (refine Br.neg ?_)
    | (refine Br.mk (fun h => ?_) (fun h => ?_))
    | (refine And.intro rfl ?_)
    | (refine And.intro (by omega) ?_)
    | (refine ⟨_, Or.inl ⟨⟨by omega, by omega⟩, rfl⟩, ?_⟩)
    | (refine And.intro (by simp only [lens_all, U_len, tab_len, ints_len, zs_len]; first | done | omega) ?_)
    | (refine And.intro (Nat.le_refl _) ?_)
    | fail
  refine ⟨Nat, fun k => k ≤ 64 * ws.length, fun k => [(0, U ws), (3, .osl 0 1 0 ((List.range k).filter (hasN ws)).length), (4, .int .i64 (k : Int))], fun k => [.arr 1 (ints ((List.range k).filter (hasN ws)))], fun _ => none, fun k => 64 * ws.length - k, ⟨0, by omega, ⟨rfl, ⟨by simp, rfl, rfl⟩, rfl, trivial⟩, ⟨rfl, trivial⟩, rfl⟩, fun k hk => ?_⟩
  have hk' : k ≤ 64 * ws.length := hk
  have hlen := U_len ws
  have hfl := List.length_filter_le (hasN ws) (List.range k)
  rw [List.length_range] at hfl
  have next : (List.range (k + 1)).filter (hasN ws) = (List.range k).filter (hasN ws) ++ (if hasN ws k then [k] else []) := by
    rw [List.range_succ, List.filter_append]; simp [List.filter_cons]
  obtain ⟨b, hb⟩ : ∃ b, hasN ws k = b := ⟨_, rfl⟩
  have hH : k < 9223372036854775807 → FS Try.prog 32 [U ws, .int .i64 (k : Int)] (.bool b) := fun h => by
    have := fs_rHas ws hw hl k (by omega)
    rwa [show hasI ws k = b by rw [← hb]; simp [hasI]] at this
  rw [hb] at next
  repeat' (conv => whnf); first
    | ((refine Or.inl ⟨rfl, _, hH (by omega), ?_⟩))
    | ((refine And.intro (Or.inl (Nat.zero_le _)) ?_))
    | ((refine And.intro (by intro y hy; simp at hy; subst hy; rfl) ?_))
    | ((refine fun x hx => ?_); (obtain ⟨v, hv, rfl⟩ := U_get hx))
    | ((refine fun x hx => ?_); (obtain rfl := zs_at hx; clear hx))
    | ((refine fun x hx => ?_); (obtain rfl := ints_at hx; clear hx))
    | ((refine And.intro rfl (And.intro (by simp only [U_len]; omega) ?_)))
    | ((refine ar_tdiv (by omega) (by omega) (by omega) ?_))
    | (refine Br.tt ?_)
    | (refine Br.ff ?_)
    | (refine Br.dec (fun h => ?_) (fun h => ?_)) <;> try (exfalso; omega)
    | (refine Br.neg ?_)
    | (refine Br.mk (fun h => ?_) (fun h => ?_))
    | (refine And.intro rfl ?_)
    | (refine And.intro (by omega) ?_)
    | (refine ⟨_, Or.inl ⟨⟨by omega, by omega⟩, rfl⟩, ?_⟩)
    | (refine And.intro (by simp only [lens_all, U_len, ints_len]; first | done | omega) ?_)
    | (refine And.intro (Nat.le_refl _) ?_)
    | fail
  · subst h
    rw [if_pos rfl] at next
    refine ⟨k + 1, (show k + 1 ≤ 64 * ws.length by omega), (show 64 * ws.length - (k + 1) < 64 * ws.length - k by omega), ⟨rfl, ?_, rfl, trivial⟩, ⟨?_, trivial⟩, rfl⟩
    · show SV.osl 0 1 0 (((List.range k).filter (hasN ws)).length + 1) = SV.osl 0 1 0 ((List.range (k + 1)).filter (hasN ws)).length
      rw [next, List.length_append]; rfl
    · show Blk.arr 1 (ints ((List.range k).filter (hasN ws)) ++ [[SV.int .i64 (k : Int)]]) = Blk.arr 1 (ints ((List.range (k + 1)).filter (hasN ws)))
      rw [next]; simp [ints]
  · subst h
    rw [if_neg (by simp), List.append_nil] at next
    refine ⟨k + 1, (show k + 1 ≤ 64 * ws.length by omega), (show 64 * ws.length - (k + 1) < 64 * ws.length - k by omega), ⟨rfl, ?_, rfl, trivial⟩, ⟨?_, trivial⟩, rfl⟩
    · show SV.osl 0 1 0 ((List.range k).filter (hasN ws)).length = SV.osl 0 1 0 ((List.range (k + 1)).filter (hasN ws)).length
      rw [next]
    · show Blk.arr 1 (ints ((List.range k).filter (hasN ws))) = Blk.arr 1 (ints ((List.range (k + 1)).filter (hasN ws)))
      rw [next]
  · have hkl : k = 64 * ws.length := by omega
    show SV.slc 1 _ = I (bits ws)
    rw [List.drop_zero, bits_eq hw, ← hkl, List.take_of_length_le (by rw [ints_len]; omega)]
    rfl

def ir_fretworkref03_Of : IR :=
(.seq (.reg (⟨(some 4), .mv (.c (.nils)), none⟩ :: [])) (.seq (.reg (⟨(some 7), .mv (.t 0), none⟩ ::⟨(some 8), .call (.c (.fn 48 [])) [(.t 7)], none⟩ ::⟨(some 5), .mv (.t 8), none⟩ :: [])) (.seq (.seq (.reg (⟨(some 6), .mv (.c (.int .i64 0)), none⟩ :: [])) (.block 0 (.loop (.seq (.seq (.reg (⟨(some 9), .mv (.t 6), none⟩ ::⟨(some 10), .mv (.t 1), none⟩ ::⟨(some 11), .ln (.t 10), none⟩ ::⟨(some 12), .bin .lss (.t 9) (.t 11), none⟩ :: [])) (.cond (.t 12) .skip (.exit 0))) (.seq (.block 1 (.seq (.reg (⟨(some 15), .mv (.t 1), none⟩ ::⟨(some 16), .mv (.t 6), none⟩ ::⟨(some 17), .ia 1 (.t 15) (.t 16), none⟩ ::⟨(some 18), .ld 1 false (.t 17), none⟩ ::⟨(some 19), .bin .geq (.t 18) (.c (.int .i64 0)), none⟩ ::⟨(some 20), .mv (.t 19), none⟩ ::⟨(some 21), .mv (.t 1), some (20, true)⟩ ::⟨(some 22), .mv (.t 6), some (20, true)⟩ ::⟨(some 23), .ia 1 (.t 21) (.t 22), some (20, true)⟩ ::⟨(some 24), .ld 1 false (.t 23), some (20, true)⟩ ::⟨(some 25), .mv (.t 0), some (20, true)⟩ ::⟨(some 26), .bin .lss (.t 24) (.t 25), some (20, true)⟩ ::⟨(some 27), .pick (.t 20) (.t 26) (.c (.bool false)), none⟩ ::⟨(some 28), .mv (.t 27), none⟩ ::⟨(some 29), .mv (.t 1), some (28, true)⟩ ::⟨(some 30), .mv (.t 6), some (28, true)⟩ ::⟨(some 31), .ia 1 (.t 29) (.t 30), some (28, true)⟩ ::⟨(some 32), .ld 1 false (.t 31), some (28, true)⟩ ::⟨(some 33), .bin .lss (.t 32) (.c (.int .i64 4096)), some (28, true)⟩ ::⟨(some 34), .pick (.t 28) (.t 33) (.c (.bool false)), none⟩ :: [])) (.cond (.t 34) (.reg (⟨(some 35), .mv (.t 5), none⟩ ::⟨(some 36), .mv (.t 1), none⟩ ::⟨(some 37), .mv (.t 6), none⟩ ::⟨(some 38), .ia 1 (.t 36) (.t 37), none⟩ ::⟨(some 39), .ld 1 false (.t 38), none⟩ ::⟨(some 40), .call (.c (.fn 74 [])) [(.t 35), (.t 39)], none⟩ ::⟨(some 5), .mv (.t 40), none⟩ :: [])) .skip))) (.reg (⟨(some 13), .mv (.t 6), none⟩ ::⟨(some 14), .bin .add (.t 13) (.c (.int .i64 1)), none⟩ ::⟨(some 6), .mv (.t 14), none⟩ :: []))))))) (.seq (.reg (⟨(some 41), .mv (.t 5), none⟩ ::⟨(some 4), .mv (.t 41), none⟩ :: [])) .ret))))
theorem cd_fretworkref03_Of : Code1 Try.prog 44 42 ir_fretworkref03_Of [.t 4] := ⟨Try.call44, _, _, Try.func44, rfl, by kernel_rfl, by kernel_rfl, by kernel_rfl, by kernel_rfl⟩

theorem ofN_eq (n : Int) (l : List Int) : ofN n l = puts (fun i => if 0 ≤ i ∧ i < n ∧ i < 4096 then some i else none) (zeroW n) l := by
  have : ∀ (l : List Int) (ws : List Nat), ws.length = wordsI n → puts (fun i => if i < n then some i else none) ws l = puts (fun i => if 0 ≤ i ∧ i < n ∧ i < 4096 then some i else none) ws l := by
    intro l
    induction l with
    | nil => intro ws _; rfl
    | cons x l ih =>
      intro ws hws
      simp only [puts, List.foldl_cons]
      by_cases h : x < n
      · by_cases h' : 0 ≤ x ∧ x < n ∧ x < 4096
        · rw [if_pos h, if_pos h']
          exact ih _ (by rw [put1_len]; exact hws)
        · rw [if_pos h, if_neg h']
          have : put1 ws x = ws := by
            rw [put1, turn, if_neg]
            have : wordsI n ≤ 64 := by unfold wordsI; omega
            simp only [inW, Bool.and_eq_true, decide_eq_true_eq, hws]
            omega
          simp only [this]
          exact ih ws hws
      · rw [if_neg h, if_neg (by omega)]
        exact ih ws hws
  exact this l _ (by simp)
theorem fs_rOf (n : Int) (h0 : -9223372036854775808 ≤ n) (h1 : n ≤ 9223372036854775807) (l : List Int) (hl : l.length ≤ 1000000000) (hlb : ∀ x ∈ l, -9223372036854775808 ≤ x ∧ x ≤ 9223372036854775807) : FS Try.prog 44 [.int .i64 n, Z l] (U (ofN n l)) := by
  rw [ofN_eq]
  generalize hp : (fun i => if 0 ≤ i ∧ i < n ∧ i < 4096 then some i else none) = p
  refine fs_of_cvc mixed cd_fretworkref03_Of (by simp) ?_
  have hwl : wordsI n ≤ 64 := by unfold wordsI; omega
  have hzl := zs_len l
  repeat' (conv => whnf); first
    | ((refine Or.inl ⟨rfl, _, fs_rNew n h0 h1, ?_⟩))
    | ((refine fun x hx => ?_); (obtain ⟨v, hv, rfl⟩ := U_get hx))
    | ((refine fun x hx => ?_); (obtain rfl := zs_at hx; clear hx))
    | ((refine fun x hx => ?_); (obtain rfl := ints_at hx; clear hx))
    | ((refine And.intro rfl (And.intro (by simp only [U_len, tab_len, List.length_set]; omega) ?_)))
    | ((refine ar_tdiv (by omega) (by omega) (by omega) ?_))
    | (refine Br.tt ?_)
    | (refine Br.ff ?_)
    | (refine Br.dec (fun h => ?_) (fun h => ?_)) <;> try (exfalso; omega)
    | (refine Br.neg ?_)
    | (refine Br.mk (fun h => ?_) (fun h => ?_))
    | (refine And.intro rfl ?_)
    | (refine And.intro (by omega) ?_)
    | (refine ⟨_, Or.inl ⟨⟨by omega, by omega⟩, rfl⟩, ?_⟩)
    | (refine And.intro (by simp only [lens_all, U_len, tab_len, ints_len, zs_len]; first | done | omega) ?_)
    | (refine And.intro (Nat.le_refl _) ?_)
    | fail
  refine ⟨Nat, fun k => k ≤ l.length, fun k => [(0, .int .i64 n), (1, Z l), (5, U (puts p (zeroW n) (l.take k))), (6, .int .i64 (k : Int))], fun k => [], fun _ => none, fun k => l.length - k, ⟨0, by omega, ⟨rfl, rfl, rfl, rfl, trivial⟩, trivial, rfl⟩, fun k hk => ?_⟩
  have hk' : k ≤ l.length := hk
  have hwd : Wd (puts p (zeroW n) (l.take k)) := puts_wd _ _ _ (wd_zero _)
  have hb := Zb.at hlb ((k : Int).toNat)
  have hlen : (puts p (zeroW n) (l.take k)).length = wordsI n := by rw [puts_len, zeroW_len]
  have next : k < l.length → puts p (zeroW n) (l.take (k + 1)) = match p (l.getD k 0) with | some j => put1 (puts p (zeroW n) (l.take k)) j | none => puts p (zeroW n) (l.take k) := fun h => puts_take p _ (getD_get 0 h)
  repeat' (conv => whnf); first
    | ((refine Or.inl ⟨rfl, _, fs_rPut _ hwd (by omega) _ (by omega), ?_⟩))
    | ((refine fun x hx => ?_); (obtain ⟨v, hv, rfl⟩ := U_get hx))
    | ((refine fun x hx => ?_); (obtain rfl := zs_at hx; clear hx))
    | ((refine fun x hx => ?_); (obtain rfl := ints_at hx; clear hx))
    | ((refine And.intro rfl (And.intro (by simp only [U_len, tab_len, List.length_set]; omega) ?_)))
    | ((refine ar_tdiv (by omega) (by omega) (by omega) ?_))
    | (refine Br.tt ?_)
    | (refine Br.ff ?_)
    | (refine Br.dec (fun h => ?_) (fun h => ?_)) <;> try (exfalso; omega)
    | (refine Br.neg ?_)
    | (refine Br.mk (fun h => ?_) (fun h => ?_))
    | (refine And.intro rfl ?_)
    | (refine And.intro (by omega) ?_)
    | (refine ⟨_, Or.inl ⟨⟨by omega, by omega⟩, rfl⟩, ?_⟩)
    | (refine And.intro (by simp only [lens_all, U_len, tab_len, ints_len, zs_len]; first | done | omega) ?_)
    | (refine And.intro (Nat.le_refl _) ?_)
    | fail
  · refine ⟨k + 1, (show k + 1 ≤ l.length by omega), (show l.length - (k + 1) < l.length - k by omega), ⟨rfl, rfl, ?_, rfl, trivial⟩, trivial, rfl⟩
    show U (put1 (puts p (zeroW n) (l.take k)) (l.getD k 0)) = U (puts p (zeroW n) (l.take (k + 1)))
    rw [next (by omega), show p (l.getD k 0) = some (l.getD k 0) by rw [← hp]; exact if_pos ⟨by assumption, by assumption, by assumption⟩]
  rotate_right
  · have hkl : k = l.length := by omega
    show U (puts p (zeroW n) (l.take k)) = _
    rw [hkl, List.take_length]; rfl
  all_goals
    refine ⟨k + 1, (show k + 1 ≤ l.length by omega), (show l.length - (k + 1) < l.length - k by omega), ⟨rfl, rfl, ?_, rfl, trivial⟩, trivial, rfl⟩
    show U (puts p (zeroW n) (l.take k)) = U (puts p (zeroW n) (l.take (k + 1)))
    rw [next (by omega), show p (l.getD k 0) = none by rw [← hp]; exact if_neg (fun hh => h (by first | exact hh.1 | exact hh.2.1 | exact hh.2.2))]

theorem take_more {α : Type} {a b : List α} {k : Nat} (h : a.take k = b.take k) (he : a[k]? = b[k]?) : a.take (k + 1) = b.take (k + 1) := by
  rw [List.take_add_one, List.take_add_one, h, he]
end
section
open Go.RowKit
attribute [local irreducible] FS FO IT HS

theorem nextI_neg {ws : List Nat} {n : Int} : nextI ws n < 0 ↔ ∀ b ∈ bits ws, (b : Int) < n := by
  unfold nextI
  cases h : (bits ws).find? (fun (b : Nat) => decide (n ≤ (b : Int))) with
  | none =>
    rw [List.find?_eq_none] at h
    simp only [decide_eq_true_eq] at h
    show (-1 : Int) < 0 ↔ _
    refine ⟨fun _ b hb => ?_, fun _ => by omega⟩
    have := h b hb; omega
  | some b =>
    have h1 := List.mem_of_find?_eq_some h
    have h2 := List.find?_some h
    simp only [decide_eq_true_eq] at h2
    show (b : Int) < 0 ↔ _
    refine ⟨fun hh => by omega, fun hh => ?_⟩
    have := hh b h1; omega

/-- A set of so many places. -/
def rightB (ws : List Nat) (n : Int) : Bool := decide (0 ≤ n) && (decide (n ≤ 4096) && (decide ((ws.length : Int) = wordsI n) && decide (nextI ws n < 0)))
theorem sorted_last {l : List Nat} (h : l.Pairwise (· < ·)) {n : Int} : (∀ b ∈ l, (b : Int) < n) ↔ l.length = 0 ∨ ((l.getD (l.length - 1) 0 : Nat) : Int) < n := by
  constructor
  · intro hh
    by_cases h0 : l.length = 0
    · exact .inl h0
    · refine .inr (hh _ ?_)
      exact List.mem_of_getElem? (getD_get 0 (show l.length - 1 < l.length by omega))
  · rintro (h0 | h0) b hb
    · rw [List.length_eq_zero_iff.1 h0] at hb; simp at hb
    · obtain ⟨i, hi, rfl⟩ := List.getElem_of_mem hb
      by_cases e : i = l.length - 1
      · subst e
        rw [List.getD_eq_getElem?_getD, List.getElem?_eq_getElem hi] at h0
        exact h0
      · have := List.pairwise_iff_getElem.1 h i (l.length - 1) hi (by omega) (by omega)
        rw [List.getD_eq_getElem?_getD, List.getElem?_eq_getElem (by omega)] at h0
        have h0' : ((l[l.length - 1] : Nat) : Int) < n := h0
        omega

def ir_fretworkref03_Right : IR :=
(.seq (.reg (⟨(some 4), .mv (.c (.bool false)), none⟩ :: [])) (.seq (.seq (.reg (⟨(some 6), .mv (.t 1), none⟩ ::⟨(some 7), .bin .lss (.t 6) (.c (.int .i64 0)), none⟩ ::⟨(some 8), .mv (.t 7), none⟩ ::⟨(some 9), .mv (.t 1), some (8, false)⟩ ::⟨(some 10), .bin .gtr (.t 9) (.c (.int .i64 4096)), some (8, false)⟩ ::⟨(some 11), .pick (.t 8) (.c (.bool true)) (.t 10), none⟩ ::⟨(some 12), .mv (.t 11), none⟩ ::⟨(some 13), .mv (.t 0), some (12, false)⟩ ::⟨(some 14), .ln (.t 13), some (12, false)⟩ ::⟨(some 15), .mv (.t 1), some (12, false)⟩ ::⟨(some 16), .call (.c (.fn 75 [])) [(.t 15)], some (12, false)⟩ ::⟨(some 17), .bin .neq (.t 14) (.t 16), some (12, false)⟩ ::⟨(some 18), .pick (.t 12) (.c (.bool true)) (.t 17), none⟩ :: [])) (.cond (.t 18) (.seq (.reg (⟨(some 4), .mv (.c (.bool false)), none⟩ :: [])) .ret) .skip)) (.seq (.reg (⟨(some 19), .mv (.t 0), none⟩ ::⟨(some 20), .call (.c (.fn 66 [])) [(.t 19)], none⟩ ::⟨(some 5), .mv (.t 20), none⟩ :: [])) (.seq (.reg (⟨(some 21), .mv (.t 5), none⟩ ::⟨(some 22), .ln (.t 21), none⟩ ::⟨(some 23), .bin .eql (.t 22) (.c (.int .i64 0)), none⟩ ::⟨(some 24), .mv (.t 23), none⟩ ::⟨(some 25), .mv (.t 5), some (24, false)⟩ ::⟨(some 26), .mv (.t 5), some (24, false)⟩ ::⟨(some 27), .ln (.t 26), some (24, false)⟩ ::⟨(some 28), .bin .sub (.t 27) (.c (.int .i64 1)), some (24, false)⟩ ::⟨(some 29), .ia 1 (.t 25) (.t 28), some (24, false)⟩ ::⟨(some 30), .ld 1 false (.t 29), some (24, false)⟩ ::⟨(some 31), .mv (.t 1), some (24, false)⟩ ::⟨(some 32), .bin .lss (.t 30) (.t 31), some (24, false)⟩ ::⟨(some 33), .pick (.t 24) (.c (.bool true)) (.t 32), none⟩ ::⟨(some 4), .mv (.t 33), none⟩ :: [])) .ret))))
theorem cd_fretworkref03_Right : Code1 Try.prog 98 34 ir_fretworkref03_Right [.t 4] := ⟨Try.call98, _, _, Try.func98, rfl, by kernel_rfl, by kernel_rfl, by kernel_rfl, by kernel_rfl⟩

theorem fs_rRight (ws : List Nat) (hw : Wd ws) (hl : ws.length ≤ 1000000) (n : Int) (h0 : -9223372036854775808 ≤ n) (h1 : n ≤ 9223372036854775807) : FS Try.prog 98 [U ws, .int .i64 n] (.bool (rightB ws n)) := by
  refine fs_of_cvc mixed cd_fretworkref03_Right (by simp) ?_
  have hul := U_len ws
  have hil := ints_len (bits ws)
  have hbl := bits_len ws hw
  have hiff := (nextI_neg (ws := ws) (n := n)).trans (sorted_last (bits_sorted hw))
  repeat' (conv => whnf); first
    | ((refine Or.inl ⟨rfl, _, fs_rwords n h0 h1, ?_⟩))
    | ((refine Or.inl ⟨rfl, _, fs_rList ws hw hl, ?_⟩))
    | ((refine fun x hx => ?_); (obtain rfl := U_at hx; clear hx))
    | ((refine fun x hx => ?_); (obtain rfl := zs_at hx; clear hx))
    | ((refine fun x hx => ?_); (obtain rfl := ints_at hx; clear hx))
    | ((refine And.intro rfl (And.intro (by simp only [U_len, tab_len, List.length_set]; omega) ?_)))
    | ((refine ar_tdiv (by omega) (by omega) (by omega) ?_))
    | (refine Br.tt ?_)
    | (refine Br.ff ?_)
    | (refine Br.dec (fun h => ?_) (fun h => ?_)) <;> try (exfalso; omega)
    | (refine Br.neg ?_)
    | (refine Br.mk (fun h => ?_) (fun h => ?_))
    | (refine And.intro rfl ?_)
    | (refine And.intro (by omega) ?_)
    | (refine ⟨_, Or.inl ⟨⟨by omega, by omega⟩, rfl⟩, ?_⟩)
    | (refine And.intro (by simp only [lens_all, U_len, tab_len, ints_len, zs_len]; first | done | omega) ?_)
    | (refine And.intro (Nat.le_refl _) ?_)
    | fail
  · show SV.bool false = _
    simp [rightB, show ¬ 0 ≤ n by omega]
  · show SV.bool false = _
    simp [rightB, show ¬ n ≤ 4096 by omega]
  · show SV.bool false = _
    simp [rightB, show ¬ (ws.length : Int) = wordsI n by omega]
  · show SV.bool true = _
    simp [rightB, show 0 ≤ n by omega, show n ≤ 4096 by omega, show (ws.length : Int) = wordsI n by omega, hiff.2 (.inl (by omega))]
  · have e : (bits ws).getD (((ints (bits ws)).length : Int) - 1).toNat 0 = (bits ws).getD ((bits ws).length - 1) 0 := by rw [hil]; congr 1; omega
    show SV.bool (decide (((bits ws).getD (((ints (bits ws)).length : Int) - 1).toNat 0 : Int) < n)) = _
    rw [e]
    simp only [rightB, show 0 ≤ n by omega, show n ≤ 4096 by omega, show (ws.length : Int) = wordsI n by omega, decide_true, Bool.true_and]
    congr 1
    rw [Bool.eq_iff_iff, decide_eq_true_iff, decide_eq_true_iff, hiff]
    exact ⟨.inr, fun hh => hh.resolve_left (by omega)⟩
end
end Go.Proofs.Ytlbmjnammgffiaa
