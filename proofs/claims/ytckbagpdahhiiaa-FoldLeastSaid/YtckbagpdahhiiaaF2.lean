/- The document's sets of places: words, places, lists. The document's sets of places: ranks, what two come to, parts. -/
import Derived.Test.YtckbagpdahhiiaaF1
namespace Go.Proofs.Ytckbagpdahhiiaa
section
open Go.RowKit
attribute [local irreducible] FS FO IT HS

theorem zs_at {l : List Int} {k : Nat} {x : List SV} (h : (zs l)[k]? = some x) : x = [.int .i64 (l.getD k 0)] := by
  obtain ⟨v, hv, rfl⟩ := zs_get h
  rw [List.getD_eq_getElem?_getD, hv]; rfl
theorem U_at {l : List Nat} {k : Nat} {x : List SV} (h : (uw l)[k]? = some x) : x = [.int .u64 ((l.getD k 0 : Nat) : Int)] := by
  obtain ⟨v, hv, rfl⟩ := U_get h
  rw [List.getD_eq_getElem?_getD, hv]; rfl
theorem ints_at {l : List Nat} {k : Nat} {x : List SV} (h : (ints l)[k]? = some x) : x = [.int .i64 ((l.getD k 0 : Nat) : Int)] := by
  obtain ⟨v, hv, rfl⟩ := ints_get' h
  rw [List.getD_eq_getElem?_getD, hv]; rfl
theorem getD_get {α : Type} {l : List α} {k : Nat} (z : α) (h : k < l.length) : l[k]? = some (l.getD k z) := by
  rw [List.getD_eq_getElem?_getD, List.getElem?_eq_getElem h]; rfl

def ir_fretworkref03_words : IR :=
(.seq (.reg (⟨(some 2), .mv (.c (.int .i64 0)), none⟩ :: [])) (.seq (.seq (.reg (⟨(some 3), .mv (.t 0), none⟩ ::⟨(some 4), .bin .gtr (.t 3) (.c (.int .i64 4096)), none⟩ :: [])) (.cond (.t 4) (.reg (⟨(some 0), .mv (.c (.int .i64 4096)), none⟩ :: [])) .skip)) (.seq (.seq (.reg (⟨(some 5), .mv (.t 0), none⟩ ::⟨(some 6), .bin .lss (.t 5) (.c (.int .i64 1)), none⟩ :: [])) (.cond (.t 6) (.seq (.reg (⟨(some 2), .mv (.c (.int .i64 0)), none⟩ :: [])) .ret) .skip)) (.seq (.reg (⟨(some 7), .mv (.t 0), none⟩ ::⟨(some 8), .bin .add (.t 7) (.c (.int .i64 63)), none⟩ ::⟨(some 9), .bin .quo (.t 8) (.c (.int .i64 64)), none⟩ ::⟨(some 2), .mv (.t 9), none⟩ :: [])) .ret))))
theorem cd_fretworkref03_words : Code1 Try.prog 118 10 ir_fretworkref03_words [.t 2] := ⟨Try.call118, _, _, Try.func118, rfl, by kernel_rfl, by kernel_rfl, by kernel_rfl, by kernel_rfl⟩

theorem fs_rwords (n : Int) (h0 : -9223372036854775808 ≤ n) (h1 : n ≤ 9223372036854775807) : FS Try.prog 118 [.int .i64 n] (.int .i64 (wordsI n)) := by
  refine fs_of_cvc mixed cd_fretworkref03_words (by simp) ?_
  repeat' (conv => whnf); first
    | ((refine fun x hx => ?_); (obtain ⟨v, hv, rfl⟩ := U_get hx))
    | ((refine fun x hx => ?_); (obtain rfl := zs_at hx; clear hx))
    | ((refine fun x hx => ?_); (obtain rfl := ints_at hx; clear hx))
    | ((refine And.intro rfl (And.intro (by simp only [U_len, tab_len, List.length_set]; omega) ?_)))
    | ((refine ar_tdiv (by omega) (by omega) (by omega) ?_))
    | (refine Br.tt ?_)
    | (refine Br.ff ?_)
    | (refine Br.dec (fun h => ?_) (fun h => ?_)) <;> try (exfalso; omega)
    | (refine Br.neg ?_)
    | (refine Br.mk (fun h => ?_) (fun h => ?_))
    | (refine And.intro rfl ?_)
    | (refine And.intro (by omega) ?_)
    | (refine ⟨_, Or.inl ⟨⟨by omega, by omega⟩, rfl⟩, ?_⟩)
    | (refine And.intro (by simp only [lens_all, U_len, tab_len, ints_len, zs_len]; first | done | omega) ?_)
    | (refine And.intro (Nat.le_refl _) ?_)
    | fail
  all_goals (show SV.int .i64 _ = SV.int .i64 _; unfold wordsI; congr 1; omega)

def ir_fretworkref03_New : IR :=
(.seq (.reg (⟨(some 2), .mv (.c (.nils)), none⟩ :: [])) (.seq (.reg (⟨(some 3), .mv (.t 0), none⟩ ::⟨(some 4), .call (.c (.fn 118 [])) [(.t 3)], none⟩ ::⟨(some 5), .mk 1 8 [.int .u64 0] (.t 4) (.t 4), none⟩ ::⟨(some 2), .mv (.t 5), none⟩ :: [])) .ret))
theorem cd_fretworkref03_New : Code1 Try.prog 94 6 ir_fretworkref03_New [.t 2] := ⟨Try.call94, _, _, Try.func94, rfl, by kernel_rfl, by kernel_rfl, by kernel_rfl, by kernel_rfl⟩

theorem fo_rNew (n : Int) (h0 : -9223372036854775808 ≤ n) (h1 : n ≤ 9223372036854775807) : FO Try.prog 94 [.int .i64 n] (.osl 0 1 0 (wordsI n)) [.arr 1 (uw (List.replicate (wordsI n) 0))] := by
  refine fo_of_cvc mixed cd_fretworkref03_New (by simp) ?_
  have hw : wordsI n ≤ 64 := by unfold wordsI; omega
  refine Or.inl ⟨rfl, _, fs_rwords n h0 h1, ?_⟩
  refine ⟨by omega, Int.le_refl _, by omega, by omega, rfl, ?_⟩
  refine Or.inl ⟨[0], rfl, ?_, by simp, rfl, rfl⟩
  show [some (Blk.arr 1 (List.replicate (wordsI n : Int).toNat [.int .u64 0]))] = _
  simp [uw]
def zeroW (n : Int) : List Nat := List.replicate (wordsI n) 0
theorem zeroW_len (n : Int) : (zeroW n).length = wordsI n := by simp [zeroW]
theorem fs_rNew (n : Int) (h0 : -9223372036854775808 ≤ n) (h1 : n ≤ 9223372036854775807) : FS Try.prog 94 [.int .i64 n] (U (zeroW n)) := fs_of_fo (fo_rNew n h0 h1) (frz_tab (zeroW_len n))

theorem rem_nn {i : Int} (h0 : 0 ≤ i) : i.tmod 64 = i % 64 := Int.tmod_eq_emod_of_nonneg h0

def ir_fretworkref03_Has : IR :=
(.seq (.reg (⟨(some 4), .mv (.c (.bool false)), none⟩ :: [])) (.seq (.reg (⟨(some 5), .mv (.t 1), none⟩ ::⟨(some 6), .bin .geq (.t 5) (.c (.int .i64 0)), none⟩ ::⟨(some 7), .mv (.t 6), none⟩ ::⟨(some 8), .mv (.t 1), some (7, true)⟩ ::⟨(some 9), .bin .quo (.t 8) (.c (.int .i64 64)), some (7, true)⟩ ::⟨(some 10), .mv (.t 0), some (7, true)⟩ ::⟨(some 11), .ln (.t 10), some (7, true)⟩ ::⟨(some 12), .bin .lss (.t 9) (.t 11), some (7, true)⟩ ::⟨(some 13), .pick (.t 7) (.t 12) (.c (.bool false)), none⟩ ::⟨(some 14), .mv (.t 13), none⟩ ::⟨(some 15), .mv (.t 0), some (14, true)⟩ ::⟨(some 16), .mv (.t 1), some (14, true)⟩ ::⟨(some 17), .bin .quo (.t 16) (.c (.int .i64 64)), some (14, true)⟩ ::⟨(some 18), .ia 1 (.t 15) (.t 17), some (14, true)⟩ ::⟨(some 19), .ld 1 false (.t 18), some (14, true)⟩ ::⟨(some 20), .mv (.t 1), some (14, true)⟩ ::⟨(some 21), .bin .rem (.t 20) (.c (.int .i64 64)), some (14, true)⟩ ::⟨(some 22), .cv .u64 (.t 21), some (14, true)⟩ ::⟨(some 23), .bin .shr (.t 19) (.t 22), some (14, true)⟩ ::⟨(some 24), .bin .and (.t 23) (.c (.int .u64 1)), some (14, true)⟩ ::⟨(some 25), .bin .eql (.t 24) (.c (.int .u64 1)), some (14, true)⟩ ::⟨(some 26), .pick (.t 14) (.t 25) (.c (.bool false)), none⟩ ::⟨(some 4), .mv (.t 26), none⟩ :: [])) .ret))
theorem cd_fretworkref03_Has : Code1 Try.prog 76 27 ir_fretworkref03_Has [.t 4] := ⟨Try.call76, _, _, Try.func76, rfl, by kernel_rfl, by kernel_rfl, by kernel_rfl, by kernel_rfl⟩

theorem fs_rHas (ws : List Nat) (hw : Wd ws) (_hl : ws.length ≤ 1000000) (i : Int) (h1 : i ≤ 9223372036854775807) : FS Try.prog 76 [U ws, .int .i64 i] (.bool (hasI ws i)) := by
  refine fs_of_cvc mixed cd_fretworkref03_Has (by simp) ?_
  repeat' (conv => whnf); first
    | ((refine fun x hx => ?_); (obtain ⟨v, hv, rfl⟩ := U_get hx))
    | ((refine fun x hx => ?_); (obtain rfl := zs_at hx; clear hx))
    | ((refine fun x hx => ?_); (obtain rfl := ints_at hx; clear hx))
    | ((refine And.intro rfl (And.intro (by simp only [U_len, tab_len, List.length_set]; omega) ?_)))
    | ((refine ar_tdiv (by omega) (by omega) (by omega) ?_))
    | (refine Br.tt ?_)
    | (refine Br.ff ?_)
    | (refine Br.dec (fun h => ?_) (fun h => ?_)) <;> try (exfalso; omega)
    | (refine Br.neg ?_)
    | (refine Br.mk (fun h => ?_) (fun h => ?_))
    | (refine And.intro rfl ?_)
    | (refine And.intro (by omega) ?_)
    | (refine ⟨_, Or.inl ⟨⟨by omega, by omega⟩, rfl⟩, ?_⟩)
    | (refine And.intro (by simp only [lens_all, U_len, tab_len, ints_len, zs_len]; first | done | omega) ?_)
    | (refine And.intro (Nat.le_refl _) ?_)
    | fail
  · rename_i h0
    have e := rem_nn h0
    have e2 : i.toNat % 64 < 64 := Nat.mod_lt _ (by omega)
    have hvw := hw v (List.mem_of_getElem? hv)
    repeat' (conv => whnf); first
      | ((refine fun x hx => ?_); (obtain ⟨v, hv, rfl⟩ := U_get hx))
      | ((refine fun x hx => ?_); (obtain rfl := zs_at hx; clear hx))
      | ((refine fun x hx => ?_); (obtain rfl := ints_at hx; clear hx))
      | ((refine And.intro rfl (And.intro (by simp only [U_len, tab_len, List.length_set]; omega) ?_)))
      | ((refine ar_tdiv (by omega) (by omega) (by omega) ?_))
      | (refine Br.tt ?_)
      | (refine Br.ff ?_)
      | (refine Br.dec (fun h => ?_) (fun h => ?_)) <;> try (exfalso; omega)
      | (refine Br.neg ?_)
      | (refine Br.mk (fun h => ?_) (fun h => ?_))
      | (refine And.intro rfl ?_)
      | (refine And.intro (by omega) ?_)
      | (refine ⟨_, Or.inl ⟨⟨by omega, by omega⟩, rfl⟩, ?_⟩)
      | (refine And.intro (by simp only [lens_all, U_len, tab_len, ints_len, zs_len]; first | done | omega) ?_)
      | (refine And.intro (Nat.le_refl _) ?_)
      | fail
    show SV.bool (decide (bAnd .u64 ((v : Int) / 2 ^ (min (i.tmod 64).toNat IntKind.u64.bits)) 1 = 1)) = _
    have e3 : (v : Int) / 2 ^ (min (i.tmod 64).toNat IntKind.u64.bits) = ((v / 2 ^ (i.toNat % 64) : Nat) : Int) := by
      rw [bits_u64, show min (i.tmod 64).toNat 64 = i.toNat % 64 by omega]; simp
    have hd : v / 2 ^ (i.toNat % 64) < 18446744073709551616 := Nat.lt_of_le_of_lt (Nat.div_le_self _ _) hvw
    have e4 := bAnd_u64 (x := v / 2 ^ (i.toNat % 64)) (y := 1) hd (by omega)
    rw [e3, show bAnd .u64 ((v / 2 ^ (i.toNat % 64) : Nat) : Int) 1 = bAnd .u64 ((v / 2 ^ (i.toNat % 64) : Nat) : Int) ((1 : Nat) : Int) from rfl, e4, hasI_of h0 hv, Nat.testBit_eq_decide_div_mod_eq, show v / 2 ^ (i.toNat % 64) &&& 1 = v / 2 ^ (i.toNat % 64) % 2 from and_mask _ 1]
    congr 1
    rw [Bool.eq_iff_iff, decide_eq_true_iff, decide_eq_true_iff]
    omega
  · show SV.bool false = _
    rename_i h0
    rw [U_len] at h
    rw [hasI_out (by simp [inW]; intro; omega)]
  · show SV.bool false = _
    rw [hasI_out (by simp [inW]; omega)]

def ir_fretworkref03_set : IR :=
(.seq (.reg (⟨(some 6), .mv (.c (.nils)), none⟩ :: [])) (.seq (.reg (⟨(some 7), .mv (.c (.nils)), none⟩ :: [])) (.seq (.reg (⟨(some 9), .mv (.t 7), none⟩ ::⟨(some 10), .mv (.t 0), none⟩ ::⟨(some 11), .ap 1 8 (.t 9) (.t 10), none⟩ ::⟨(some 7), .mv (.t 11), none⟩ :: [])) (.seq (.seq (.reg (⟨(some 12), .mv (.t 1), none⟩ ::⟨(some 13), .bin .lss (.t 12) (.c (.int .i64 0)), none⟩ ::⟨(some 14), .mv (.t 13), none⟩ ::⟨(some 15), .mv (.t 1), some (14, false)⟩ ::⟨(some 16), .bin .quo (.t 15) (.c (.int .i64 64)), some (14, false)⟩ ::⟨(some 17), .mv (.t 0), some (14, false)⟩ ::⟨(some 18), .ln (.t 17), some (14, false)⟩ ::⟨(some 19), .bin .geq (.t 16) (.t 18), some (14, false)⟩ ::⟨(some 20), .pick (.t 14) (.c (.bool true)) (.t 19), none⟩ :: [])) (.cond (.t 20) (.seq (.reg (⟨(some 21), .mv (.t 7), none⟩ ::⟨(some 6), .mv (.t 21), none⟩ :: [])) .ret) .skip)) (.seq (.reg (⟨(some 22), .mv (.t 1), none⟩ ::⟨(some 23), .bin .rem (.t 22) (.c (.int .i64 64)), none⟩ ::⟨(some 24), .cv .u64 (.t 23), none⟩ ::⟨(some 25), .bin .shl (.c (.int .u64 1)) (.t 24), none⟩ ::⟨(some 8), .mv (.t 25), none⟩ :: [])) (.seq (.seq (.reg (⟨(some 26), .mv (.t 2), none⟩ :: [])) (.cond (.t 26) (.reg (⟨(some 27), .mv (.t 7), none⟩ ::⟨(some 28), .mv (.t 1), none⟩ ::⟨(some 29), .bin .quo (.t 28) (.c (.int .i64 64)), none⟩ ::⟨(some 30), .mv (.t 7), none⟩ ::⟨(some 31), .mv (.t 1), none⟩ ::⟨(some 32), .bin .quo (.t 31) (.c (.int .i64 64)), none⟩ ::⟨(some 33), .ia 1 (.t 30) (.t 32), none⟩ ::⟨(some 34), .ld 1 false (.t 33), none⟩ ::⟨(some 35), .mv (.t 8), none⟩ ::⟨(some 36), .bin .or (.t 34) (.t 35), none⟩ ::⟨(some 37), .ia 1 (.t 27) (.t 29), none⟩ ::⟨none, .st 1 (.t 37) (.t 36), none⟩ :: [])) (.reg (⟨(some 38), .mv (.t 7), none⟩ ::⟨(some 39), .mv (.t 1), none⟩ ::⟨(some 40), .bin .quo (.t 39) (.c (.int .i64 64)), none⟩ ::⟨(some 41), .mv (.t 7), none⟩ ::⟨(some 42), .mv (.t 1), none⟩ ::⟨(some 43), .bin .quo (.t 42) (.c (.int .i64 64)), none⟩ ::⟨(some 44), .ia 1 (.t 41) (.t 43), none⟩ ::⟨(some 45), .ld 1 false (.t 44), none⟩ ::⟨(some 46), .mv (.t 8), none⟩ ::⟨(some 47), .bin .andNot (.t 45) (.t 46), none⟩ ::⟨(some 48), .ia 1 (.t 38) (.t 40), none⟩ ::⟨none, .st 1 (.t 48) (.t 47), none⟩ :: [])))) (.seq (.reg (⟨(some 49), .mv (.t 7), none⟩ ::⟨(some 6), .mv (.t 49), none⟩ :: [])) .ret)))))))
theorem cd_fretworkref03_set : Code1 Try.prog 119 50 ir_fretworkref03_set [.t 6] := ⟨Try.call119, _, _, Try.func119, rfl, by kernel_rfl, by kernel_rfl, by kernel_rfl, by kernel_rfl⟩

def ir_fretworkref03_Put : IR :=
(.seq (.reg (⟨(some 4), .mv (.c (.nils)), none⟩ :: [])) (.seq (.reg (⟨(some 5), .mv (.t 0), none⟩ ::⟨(some 6), .mv (.t 1), none⟩ ::⟨(some 7), .call (.c (.fn 119 [])) [(.t 5), (.t 6), (.c (.bool true))], none⟩ ::⟨(some 4), .mv (.t 7), none⟩ :: [])) .ret))
theorem cd_fretworkref03_Put : Code1 Try.prog 95 8 ir_fretworkref03_Put [.t 4] := ⟨Try.call95, _, _, Try.func95, rfl, by kernel_rfl, by kernel_rfl, by kernel_rfl, by kernel_rfl⟩

theorem fs_rset (ws : List Nat) (hw : Wd ws) (hl : ws.length ≤ 1000000) (i : Int) (h1 : i ≤ 9223372036854775807) (b : Bool) : FS Try.prog 119 [U ws, .int .i64 i, .bool b] (U (turn ws i (if b then (· ||| ·) else natAndNot))) := by
  refine fs_of_cvc mixed cd_fretworkref03_set (by simp) ?_
  have hlen := U_len ws
  repeat' (conv => whnf); first
    | ((refine And.intro (scal ws) ?_))
    | ((refine fun x hx => ?_); (obtain ⟨v, hv, rfl⟩ := U_get hx))
    | ((refine fun x hx => ?_); (obtain rfl := zs_at hx; clear hx))
    | ((refine fun x hx => ?_); (obtain rfl := ints_at hx; clear hx))
    | ((refine And.intro rfl (And.intro (by simp only [U_len]; omega) ?_)))
    | ((refine ar_tdiv (by omega) (by omega) (by omega) ?_))
    | (refine Br.tt ?_)
    | (refine Br.ff ?_)
    | (refine Br.dec (fun h => ?_) (fun h => ?_)) <;> try (exfalso; omega)
    | (refine Br.neg ?_)
    | (refine Br.mk (fun h => ?_) (fun h => ?_))
    | (refine And.intro rfl ?_)
    | (refine And.intro (by omega) ?_)
    | (refine ⟨_, Or.inl ⟨⟨by omega, by omega⟩, rfl⟩, ?_⟩)
    | (refine And.intro (by simp only [lens_all, U_len, tab_len, ints_len, zs_len]; first | done | omega) ?_)
    | (refine And.intro (Nat.le_refl _) ?_)
    | fail
  · show SV.slc 1 (List.take (uw ws).length (List.drop 0 (uw ws))) = _
    rw [hlen, frz_U rfl, turn, if_neg (by simp [inW]; omega)]; rfl
  · show SV.slc 1 (List.take (uw ws).length (List.drop 0 (uw ws))) = _
    rw [hlen, frz_U rfl, turn, if_neg (by simp [inW]; intro; omega)]; rfl
  · rename_i h0
    have h0' : 0 ≤ i := by omega
    have e := rem_nn h0'
    have e2 : i.toNat % 64 < 64 := Nat.mod_lt _ (by omega)
    have hp := pow_lt64 e2
    have hpos : 0 < 2 ^ (i.toNat % 64) := Nat.pow_pos (by omega)
    have e3 : (1 : Int) * 2 ^ (min (i.tmod 64).toNat IntKind.u64.bits) = ((2 ^ (i.toNat % 64) : Nat) : Int) := by
      rw [bits_u64, show min (i.tmod 64).toNat 64 = i.toNat % 64 by omega]; simp
    have hin : inW ws i = true := by simp [inW]; omega
    repeat' (conv => whnf); first
      | ((refine ⟨_, uw_at (by omega), ?_⟩))
      | ((refine fun x hx => ?_); (obtain ⟨v, hv, rfl⟩ := U_get hx))
      | ((refine fun x hx => ?_); (obtain rfl := zs_at hx; clear hx))
      | ((refine fun x hx => ?_); (obtain rfl := ints_at hx; clear hx))
      | ((refine And.intro rfl (And.intro (by simp only [U_len, List.length_set]; omega) ?_)))
      | ((refine ar_tdiv (by omega) (by omega) (by omega) ?_))
      | (refine Br.tt ?_)
      | (refine Br.ff ?_)
      | (refine Br.dec (fun h => ?_) (fun h => ?_)) <;> try (exfalso; omega)
      | (refine Br.neg ?_)
      | (refine Br.mk (fun h => ?_) (fun h => ?_))
      | (refine And.intro rfl ?_)
      | (refine And.intro (by omega) ?_)
      | (refine ⟨_, Or.inl ⟨⟨by omega, by omega⟩, rfl⟩, ?_⟩)
      | (refine And.intro (by simp only [lens_all, U_len, tab_len, ints_len, zs_len]; first | done | omega) ?_)
      | (refine And.intro (Nat.le_refl _) ?_)
      | fail
    · subst h
      show SV.slc 1 (List.take (uw ws).length (List.drop 0 ((uw ws).set (0 + (i / 64).toNat) [SV.int .u64 (bOr .u64 ((ws.getD (0 + (i / 64).toNat) 0 : Nat) : Int) (1 * 2 ^ (min (i.tmod 64).toNat IntKind.u64.bits)))]))) = _
      rw [e3, bOr_u64 (getD_lt hw _) hp, uw_set, hlen, frz_U (by simp), turn, if_pos hin, Nat.zero_add]
      rfl
    · subst h
      show SV.slc 1 (List.take (uw ws).length (List.drop 0 ((uw ws).set (0 + (i / 64).toNat) [SV.int .u64 (bAndNot .u64 ((ws.getD (0 + (i / 64).toNat) 0 : Nat) : Int) (1 * 2 ^ (min (i.tmod 64).toNat IntKind.u64.bits)))]))) = _
      rw [e3, bAndNot_u64 (getD_lt hw _) hp, uw_set, hlen, frz_U (by simp), turn, if_pos hin, Nat.zero_add]
      rfl
theorem fs_rPut (ws : List Nat) (hw : Wd ws) (hl : ws.length ≤ 1000000) (i : Int) (h1 : i ≤ 9223372036854775807) : FS Try.prog 95 [U ws, .int .i64 i] (U (put1 ws i)) := by
  refine fs_of_cvc mixed cd_fretworkref03_Put (by simp) ?_
  refine Or.inl ⟨rfl, _, fs_rset ws hw hl i h1 true, ?_⟩
  exact rfl

def ir_fretworkref03_List : IR :=
(.seq (.reg (⟨(some 2), .mv (.c (.nils)), none⟩ :: [])) (.seq (.reg (⟨(some 3), .mv (.c (.nils)), none⟩ :: [])) (.seq (.seq (.reg (⟨(some 4), .mv (.c (.int .i64 0)), none⟩ :: [])) (.block 0 (.loop (.seq (.seq (.reg (⟨(some 5), .mv (.t 4), none⟩ ::⟨(some 6), .mv (.t 0), none⟩ ::⟨(some 7), .ln (.t 6), none⟩ ::⟨(some 8), .bin .mul (.c (.int .i64 64)) (.t 7), none⟩ ::⟨(some 9), .bin .lss (.t 5) (.t 8), none⟩ :: [])) (.cond (.t 9) .skip (.exit 0))) (.seq (.block 1 (.seq (.reg (⟨(some 12), .mv (.t 0), none⟩ ::⟨(some 13), .mv (.t 4), none⟩ ::⟨(some 14), .call (.c (.fn 76 [])) [(.t 12), (.t 13)], none⟩ :: [])) (.cond (.t 14) (.reg (⟨(some 15), .mv (.t 3), none⟩ ::⟨(some 16), .mv (.t 4), none⟩ ::⟨(some 17), .bsl 1 1 [.int .i64 0] [(0, (.t 16))], none⟩ ::⟨(some 18), .ap 1 8 (.t 15) (.t 17), none⟩ ::⟨(some 3), .mv (.t 18), none⟩ :: [])) .skip))) (.reg (⟨(some 10), .mv (.t 4), none⟩ ::⟨(some 11), .bin .add (.t 10) (.c (.int .i64 1)), none⟩ ::⟨(some 4), .mv (.t 11), none⟩ :: []))))))) (.seq (.reg (⟨(some 19), .mv (.t 3), none⟩ ::⟨(some 2), .mv (.t 19), none⟩ :: [])) .ret))))
theorem cd_fretworkref03_List : Code1 Try.prog 51 20 ir_fretworkref03_List [.t 2] := ⟨Try.call51, _, _, Try.func51, rfl, by kernel_rfl, by kernel_rfl, by kernel_rfl, by kernel_rfl⟩

theorem fs_rList (ws : List Nat) (hw : Wd ws) (hl : ws.length ≤ 1000000) : FS Try.prog 51 [U ws] (I (bits ws)) := by
  refine fs_of_cvc mixed cd_fretworkref03_List (by simp) ?_
  repeat' (conv => whnf); first
    | ((refine fun x hx => ?_); (obtain ⟨v, hv, rfl⟩ := U_get hx))
    | ((refine fun x hx => ?_); (obtain rfl := zs_at hx; clear hx))
    | ((refine fun x hx => ?_); (obtain rfl := ints_at hx; clear hx))
    | ((refine And.intro rfl (And.intro (by simp only [U_len, tab_len, List.length_set]; omega) ?_)))
    | ((refine ar_tdiv (by omega) (by omega) (by omega) ?_))
    | (refine Br.tt ?_)
    | (refine Br.ff ?_)
    | (refine Br.dec (fun h => ?_) (fun h => ?_)) <;> try (exfalso; omega)
    | (refine Br.neg ?_)
    | (refine Br.mk (fun h => ?_) (fun h => ?_))
    | (refine And.intro rfl ?_)
    | (refine And.intro (by omega) ?_)
    | (refine ⟨_, Or.inl ⟨⟨by omega, by omega⟩, rfl⟩, ?_⟩)
    | (refine And.intro (by simp only [lens_all, U_len, tab_len, ints_len, zs_len]; first | done | omega) ?_)
    | (refine And.intro (Nat.le_refl _) ?_)
    | fail
  refine ⟨Nat, fun k => k ≤ 64 * ws.length, fun k => [(0, U ws), (3, .osl 0 1 0 ((List.range k).filter (hasN ws)).length), (4, .int .i64 (k : Int))], fun k => [.arr 1 (ints ((List.range k).filter (hasN ws)))], fun _ => none, fun k => 64 * ws.length - k, ⟨0, by omega, ⟨rfl, ⟨by simp, rfl, rfl⟩, rfl, trivial⟩, ⟨rfl, trivial⟩, rfl⟩, fun k hk => ?_⟩
  have hk' : k ≤ 64 * ws.length := hk
  have hlen := U_len ws
  have hfl := List.length_filter_le (hasN ws) (List.range k)
  rw [List.length_range] at hfl
  have next : (List.range (k + 1)).filter (hasN ws) = (List.range k).filter (hasN ws) ++ (if hasN ws k then [k] else []) := by
    rw [List.range_succ, List.filter_append]; simp [List.filter_cons]
  obtain ⟨b, hb⟩ : ∃ b, hasN ws k = b := ⟨_, rfl⟩
  have hH : k < 9223372036854775807 → FS Try.prog 76 [U ws, .int .i64 (k : Int)] (.bool b) := fun h => by
    have := fs_rHas ws hw hl k (by omega)
    rwa [show hasI ws k = b by rw [← hb]; simp [hasI]] at this
  rw [hb] at next
  repeat' (conv => whnf); first
    | ((refine Or.inl ⟨rfl, _, hH (by omega), ?_⟩))
    | ((refine And.intro (Or.inl (Nat.zero_le _)) ?_))
    | ((refine And.intro (by intro y hy; simp at hy; subst hy; rfl) ?_))
    | ((refine fun x hx => ?_); (obtain ⟨v, hv, rfl⟩ := U_get hx))
    | ((refine fun x hx => ?_); (obtain rfl := zs_at hx; clear hx))
    | ((refine fun x hx => ?_); (obtain rfl := ints_at hx; clear hx))
    | ((refine And.intro rfl (And.intro (by simp only [U_len]; omega) ?_)))
    | ((refine ar_tdiv (by omega) (by omega) (by omega) ?_))
    | (refine Br.tt ?_)
    | (refine Br.ff ?_)
    | (refine Br.dec (fun h => ?_) (fun h => ?_)) <;> try (exfalso; omega)
    | (refine Br.neg ?_)
    | (refine Br.mk (fun h => ?_) (fun h => ?_))
    | (refine And.intro rfl ?_)
    | (refine And.intro (by omega) ?_)
    | (refine ⟨_, Or.inl ⟨⟨by omega, by omega⟩, rfl⟩, ?_⟩)
    | (refine And.intro (by simp only [lens_all, U_len, ints_len]; first | done | omega) ?_)
    | (refine And.intro (Nat.le_refl _) ?_)
    | fail
  · subst h
    rw [if_pos rfl] at next
    refine ⟨k + 1, (show k + 1 ≤ 64 * ws.length by omega), (show 64 * ws.length - (k + 1) < 64 * ws.length - k by omega), ⟨rfl, ?_, rfl, trivial⟩, ⟨?_, trivial⟩, rfl⟩
    · show SV.osl 0 1 0 (((List.range k).filter (hasN ws)).length + 1) = SV.osl 0 1 0 ((List.range (k + 1)).filter (hasN ws)).length
      rw [next, List.length_append]; rfl
    · show Blk.arr 1 (ints ((List.range k).filter (hasN ws)) ++ [[SV.int .i64 (k : Int)]]) = Blk.arr 1 (ints ((List.range (k + 1)).filter (hasN ws)))
      rw [next]; simp [ints]
  · subst h
    rw [if_neg (by simp), List.append_nil] at next
    refine ⟨k + 1, (show k + 1 ≤ 64 * ws.length by omega), (show 64 * ws.length - (k + 1) < 64 * ws.length - k by omega), ⟨rfl, ?_, rfl, trivial⟩, ⟨?_, trivial⟩, rfl⟩
    · show SV.osl 0 1 0 ((List.range k).filter (hasN ws)).length = SV.osl 0 1 0 ((List.range (k + 1)).filter (hasN ws)).length
      rw [next]
    · show Blk.arr 1 (ints ((List.range k).filter (hasN ws))) = Blk.arr 1 (ints ((List.range (k + 1)).filter (hasN ws)))
      rw [next]
  · have hkl : k = 64 * ws.length := by omega
    show SV.slc 1 _ = I (bits ws)
    rw [List.drop_zero, bits_eq hw, ← hkl, List.take_of_length_le (by rw [ints_len]; omega)]
    rfl
end
section
open Go.RowKit
attribute [local irreducible] FS FO IT HS

theorem put1_out {ws : List Nat} {j : Int} (h : j < 0 ∨ 64 * (ws.length : Int) ≤ j) : put1 ws j = ws := by
  rw [put1, turn, if_neg]
  simp only [inW, Bool.and_eq_true, decide_eq_true_eq]
  omega
theorem puts_same {len : Nat} (p p' : Int → Option Int) (h : ∀ i, p i = p' i ∨ ∃ j, p i = some j ∧ p' i = none ∧ (j < 0 ∨ 64 * (len : Int) ≤ j)) : ∀ (l : List Int) (ws : List Nat), ws.length = len → puts p ws l = puts p' ws l
  | [], _, _ => rfl
  | x :: l, ws, hl => by
    have e : (match p x with | some j => put1 ws j | none => ws) = (match p' x with | some j => put1 ws j | none => ws) := by
      rcases h x with h | ⟨j, h1, h2, h3⟩
      · rw [h]
      · rw [h1, h2]; exact put1_out (by rw [hl]; exact h3)
    have hl' : (match p x with | some j => put1 ws j | none => ws).length = len := by split <;> simp [put1_len, hl]
    have := puts_same p p' h l _ hl'
    show puts p (match p x with | some j => put1 ws j | none => ws) l = puts p' (match p' x with | some j => put1 ws j | none => ws) l
    rw [this, e]

def ir_fretworkref03_Part : IR :=
(.seq (.reg (⟨(some 6), .mv (.c (.nils)), none⟩ :: [])) (.seq (.reg (⟨(some 10), .mv (.t 1), none⟩ ::⟨(some 11), .mm true [(.t 10), (.c (.int .i64 0))], none⟩ ::⟨(some 1), .mv (.t 11), none⟩ :: [])) (.seq (.seq (.reg (⟨(some 12), .mv (.t 2), none⟩ ::⟨(some 13), .mv (.t 1), none⟩ ::⟨(some 14), .bin .leq (.t 12) (.t 13), none⟩ :: [])) (.cond (.t 14) (.seq (.reg (⟨(some 6), .mv (.c (.nils)), none⟩ :: [])) .ret) .skip)) (.seq (.reg (⟨(some 15), .mv (.t 2), none⟩ ::⟨(some 16), .mv (.t 1), none⟩ ::⟨(some 17), .bin .sub (.t 15) (.t 16), none⟩ ::⟨(some 18), .call (.c (.fn 94 [])) [(.t 17)], none⟩ ::⟨(some 7), .mv (.t 18), none⟩ :: [])) (.seq (.reg (⟨(some 19), .mv (.t 0), none⟩ ::⟨(some 20), .call (.c (.fn 51 [])) [(.t 19)], none⟩ ::⟨(some 8), .mv (.t 20), none⟩ :: [])) (.seq (.seq (.reg (⟨(some 9), .mv (.c (.int .i64 0)), none⟩ :: [])) (.block 0 (.loop (.seq (.seq (.reg (⟨(some 21), .mv (.t 9), none⟩ ::⟨(some 22), .mv (.t 8), none⟩ ::⟨(some 23), .ln (.t 22), none⟩ ::⟨(some 24), .bin .lss (.t 21) (.t 23), none⟩ :: [])) (.cond (.t 24) .skip (.exit 0))) (.seq (.block 1 (.seq (.reg (⟨(some 27), .mv (.t 8), none⟩ ::⟨(some 28), .mv (.t 9), none⟩ ::⟨(some 29), .ia 1 (.t 27) (.t 28), none⟩ ::⟨(some 30), .ld 1 false (.t 29), none⟩ ::⟨(some 31), .mv (.t 1), none⟩ ::⟨(some 32), .bin .geq (.t 30) (.t 31), none⟩ ::⟨(some 33), .mv (.t 32), none⟩ ::⟨(some 34), .mv (.t 8), some (33, true)⟩ ::⟨(some 35), .mv (.t 9), some (33, true)⟩ ::⟨(some 36), .ia 1 (.t 34) (.t 35), some (33, true)⟩ ::⟨(some 37), .ld 1 false (.t 36), some (33, true)⟩ ::⟨(some 38), .mv (.t 2), some (33, true)⟩ ::⟨(some 39), .bin .lss (.t 37) (.t 38), some (33, true)⟩ ::⟨(some 40), .pick (.t 33) (.t 39) (.c (.bool false)), none⟩ ::⟨(some 41), .mv (.t 40), none⟩ ::⟨(some 42), .mv (.t 8), some (41, true)⟩ ::⟨(some 43), .mv (.t 9), some (41, true)⟩ ::⟨(some 44), .ia 1 (.t 42) (.t 43), some (41, true)⟩ ::⟨(some 45), .ld 1 false (.t 44), some (41, true)⟩ ::⟨(some 46), .mv (.t 1), some (41, true)⟩ ::⟨(some 47), .bin .sub (.t 45) (.t 46), some (41, true)⟩ ::⟨(some 48), .bin .lss (.t 47) (.c (.int .i64 4096)), some (41, true)⟩ ::⟨(some 49), .pick (.t 41) (.t 48) (.c (.bool false)), none⟩ :: [])) (.cond (.t 49) (.reg (⟨(some 50), .mv (.t 7), none⟩ ::⟨(some 51), .mv (.t 8), none⟩ ::⟨(some 52), .mv (.t 9), none⟩ ::⟨(some 53), .ia 1 (.t 51) (.t 52), none⟩ ::⟨(some 54), .ld 1 false (.t 53), none⟩ ::⟨(some 55), .mv (.t 1), none⟩ ::⟨(some 56), .bin .sub (.t 54) (.t 55), none⟩ ::⟨(some 57), .call (.c (.fn 95 [])) [(.t 50), (.t 56)], none⟩ ::⟨(some 7), .mv (.t 57), none⟩ :: [])) .skip))) (.reg (⟨(some 25), .mv (.t 9), none⟩ ::⟨(some 26), .bin .add (.t 25) (.c (.int .i64 1)), none⟩ ::⟨(some 9), .mv (.t 26), none⟩ :: []))))))) (.seq (.reg (⟨(some 58), .mv (.t 7), none⟩ ::⟨(some 6), .mv (.t 58), none⟩ :: [])) .ret)))))))
theorem cd_fretworkref03_Part : Code1 Try.prog 52 59 ir_fretworkref03_Part [.t 6] := ⟨Try.call52, _, _, Try.func52, rfl, by kernel_rfl, by kernel_rfl, by kernel_rfl, by kernel_rfl⟩

theorem fs_rPart (ws : List Nat) (hw : Wd ws) (hl : ws.length ≤ 1000000) (a b : Int) (ha0 : -9223372036854775808 ≤ a) (ha1 : a ≤ 9223372036854775807) (hb0 : -9223372036854775808 ≤ b) (hb1 : b ≤ 9223372036854775807) :
    FS Try.prog 52 [U ws, .int .i64 a, .int .i64 b] (if b ≤ max a 0 then .nils else U (partN ws (max a 0) b)) := by
  refine fs_of_cvc mixed cd_fretworkref03_Part (by simp) ?_
  repeat' (conv => whnf); first
    | ((refine fun x hx => ?_); (obtain rfl := U_at hx; clear hx))
    | ((refine fun x hx => ?_); (obtain rfl := zs_at hx; clear hx))
    | ((refine fun x hx => ?_); (obtain rfl := ints_at hx; clear hx))
    | ((refine And.intro rfl (And.intro (by simp only [U_len, tab_len, List.length_set]; omega) ?_)))
    | ((refine ar_tdiv (by omega) (by omega) (by omega) ?_))
    | (refine Br.tt ?_)
    | (refine Br.ff ?_)
    | (refine Br.dec (fun h => ?_) (fun h => ?_)) <;> try (exfalso; omega)
    | (refine Br.neg ?_)
    | (refine Br.mk (fun h => ?_) (fun h => ?_))
    | (refine And.intro rfl ?_)
    | (refine And.intro (by omega) ?_)
    | (refine ⟨_, Or.inl ⟨⟨by omega, by omega⟩, rfl⟩, ?_⟩)
    | (refine And.intro (by simp only [lens_all, U_len, tab_len, ints_len, zs_len]; first | done | omega) ?_)
    | (refine And.intro (Nat.le_refl _) ?_)
    | fail
  · show leV 0 .nils (if b ≤ max a 0 then .nils else U (partN ws (max a 0) b))
    rw [if_pos h]; rfl
  rw [if_neg h]
  generalize hc : max a 0 = c at h ⊢
  have hc0 : 0 ≤ c := by omega
  have hcb : c < b := by omega
  generalize hn : wordsI (b - c) = n
  have hwl : n ≤ 64 := by rw [← hn]; unfold wordsI; omega
  have hbl := bits_len ws hw
  have hil := ints_len (bits ws)
  repeat' (conv => whnf); first
    | ((refine Or.inl ⟨rfl, _, fs_rNew (b - c) (by omega) (by omega), ?_⟩))
    | ((refine Or.inl ⟨rfl, _, fs_rList ws hw hl, ?_⟩))
    | ((refine fun x hx => ?_); (obtain rfl := U_at hx; clear hx))
    | ((refine fun x hx => ?_); (obtain rfl := zs_at hx; clear hx))
    | ((refine fun x hx => ?_); (obtain rfl := ints_at hx; clear hx))
    | ((refine And.intro rfl (And.intro (by simp only [U_len, tab_len, List.length_set]; omega) ?_)))
    | ((refine ar_tdiv (by omega) (by omega) (by omega) ?_))
    | (refine Br.tt ?_)
    | (refine Br.ff ?_)
    | (refine Br.dec (fun h => ?_) (fun h => ?_)) <;> try (exfalso; omega)
    | (refine Br.neg ?_)
    | (refine Br.mk (fun h => ?_) (fun h => ?_))
    | (refine And.intro rfl ?_)
    | (refine And.intro (by omega) ?_)
    | (refine ⟨_, Or.inl ⟨⟨by omega, by omega⟩, rfl⟩, ?_⟩)
    | (refine And.intro (by simp only [lens_all, U_len, tab_len, ints_len, zs_len]; first | done | omega) ?_)
    | (refine And.intro (Nat.le_refl _) ?_)
    | fail
  generalize hp : (fun i => if c ≤ i ∧ i < b ∧ i - c < 4096 then some (i - c) else none) = p
  have hpart : partN ws c b = puts p (zeroW (b - c)) ((bits ws).map fun (i : Nat) => (i : Int)) := by
    rw [partN]
    refine puts_same (len := n) _ _ (fun i => ?_) _ _ (by simp [hn])
    rw [← hp]
    by_cases h1 : c ≤ i ∧ i < b
    · by_cases h2 : i - c < 4096
      · left; simp only; rw [if_pos h1, if_pos ⟨h1.1, h1.2, h2⟩]
      · right; exact ⟨i - c, if_pos h1, if_neg (by omega), by omega⟩
    · left; simp only; rw [if_neg h1, if_neg (by omega)]
  rw [hpart]
  generalize hL : ((bits ws).map fun (i : Nat) => (i : Int)) = L
  have hLl : L.length = (bits ws).length := by rw [← hL]; simp
  have hLg : ∀ k, L.getD k 0 = (((bits ws).getD k 0 : Nat) : Int) := fun k => by
    rw [← hL, List.getD_eq_getElem?_getD, List.getElem?_map, List.getD_eq_getElem?_getD]
    cases (bits ws)[k]? <;> rfl
  refine ⟨Nat, fun k => k ≤ L.length, fun k => [(1, .int .i64 c), (2, .int .i64 b), (7, U (puts p (zeroW (b - c)) (L.take k))), (8, I (bits ws)), (9, .int .i64 (k : Int))], fun k => [], fun _ => none, fun k => L.length - k, ⟨0, by omega, ⟨rfl, rfl, rfl, rfl, rfl, trivial⟩, trivial, rfl⟩, fun k hk => ?_⟩
  have hk' : k ≤ L.length := hk
  have hwd : Wd (puts p (zeroW (b - c)) (L.take k)) := puts_wd _ _ _ (wd_zero _)
  have hlen : (puts p (zeroW (b - c)) (L.take k)).length = n := by rw [puts_len, zeroW_len, hn]
  have next : k < L.length → puts p (zeroW (b - c)) (L.take (k + 1)) = match p (L.getD k 0) with | some j => put1 (puts p (zeroW (b - c)) (L.take k)) j | none => puts p (zeroW (b - c)) (L.take k) := fun h => puts_take p _ (getD_get 0 h)
  have hbd : k < (bits ws).length → (bits ws).getD ((k : Int).toNat) 0 < 64 * ws.length := fun h => ((bits_mem hw).1 (List.mem_of_getElem? (getD_get 0 (show ((k : Int).toNat) < (bits ws).length from h)))).1
  rw [hLg] at next
  by_cases hkL : k < (bits ws).length
  · have hbd := hbd hkL
    repeat' (conv => whnf); first
      | ((refine Or.inl ⟨rfl, _, fs_rPut _ hwd (by omega) _ (by omega), ?_⟩))
      | ((refine fun x hx => ?_); (obtain rfl := U_at hx; clear hx))
      | ((refine fun x hx => ?_); (obtain rfl := zs_at hx; clear hx))
      | ((refine fun x hx => ?_); (obtain rfl := ints_at hx; clear hx))
      | ((refine And.intro rfl (And.intro (by simp only [U_len, tab_len, List.length_set]; omega) ?_)))
      | ((refine ar_tdiv (by omega) (by omega) (by omega) ?_))
      | (refine Br.tt ?_)
      | (refine Br.ff ?_)
      | (refine Br.dec (fun h => ?_) (fun h => ?_)) <;> try (exfalso; omega)
      | (refine Br.neg ?_)
      | (refine Br.mk (fun h => ?_) (fun h => ?_))
      | (refine And.intro rfl ?_)
      | (refine And.intro (by omega) ?_)
      | (refine ⟨_, Or.inl ⟨⟨by omega, by omega⟩, rfl⟩, ?_⟩)
      | (refine And.intro (by simp only [lens_all, U_len, tab_len, ints_len, zs_len]; first | done | omega) ?_)
      | (refine And.intro (Nat.le_refl _) ?_)
      | fail
    · refine ⟨k + 1, (show k + 1 ≤ L.length by omega), (show L.length - (k + 1) < L.length - k by omega), ⟨rfl, rfl, ?_, rfl, rfl, trivial⟩, trivial, rfl⟩
      show U (put1 (puts p (zeroW (b - c)) (L.take k)) ((((bits ws).getD k 0 : Nat) : Int) - c)) = U (puts p (zeroW (b - c)) (L.take (k + 1)))
      rw [next (by omega), show p (((bits ws).getD k 0 : Nat) : Int) = some ((((bits ws).getD k 0 : Nat) : Int) - c) by rw [← hp]; exact if_pos ⟨by assumption, by assumption, by assumption⟩]
    all_goals
      refine ⟨k + 1, (show k + 1 ≤ L.length by omega), (show L.length - (k + 1) < L.length - k by omega), ⟨rfl, rfl, ?_, rfl, rfl, trivial⟩, trivial, rfl⟩
      show U (puts p (zeroW (b - c)) (L.take k)) = U (puts p (zeroW (b - c)) (L.take (k + 1)))
      rw [next (by omega), show p (((bits ws).getD k 0 : Nat) : Int) = none by rw [← hp]; exact if_neg (fun hh => h (by first | exact hh.1 | exact hh.2.1 | exact hh.2.2))]
  · repeat' (conv => whnf); first
      | ((refine fun x hx => ?_); (obtain rfl := U_at hx; clear hx))
      | ((refine fun x hx => ?_); (obtain rfl := zs_at hx; clear hx))
      | ((refine fun x hx => ?_); (obtain rfl := ints_at hx; clear hx))
      | ((refine And.intro rfl (And.intro (by simp only [U_len, tab_len, List.length_set]; omega) ?_)))
      | ((refine ar_tdiv (by omega) (by omega) (by omega) ?_))
      | (refine Br.tt ?_)
      | (refine Br.ff ?_)
      | (refine Br.dec (fun h => ?_) (fun h => ?_)) <;> try (exfalso; omega)
      | (refine Br.neg ?_)
      | (refine Br.mk (fun h => ?_) (fun h => ?_))
      | (refine And.intro rfl ?_)
      | (refine And.intro (by omega) ?_)
      | (refine ⟨_, Or.inl ⟨⟨by omega, by omega⟩, rfl⟩, ?_⟩)
      | (refine And.intro (by simp only [lens_all, U_len, tab_len, ints_len, zs_len]; first | done | omega) ?_)
      | (refine And.intro (Nat.le_refl _) ?_)
      | fail
    have hkl : k = L.length := by omega
    show U (puts p (zeroW (b - c)) (L.take k)) = _
    rw [hkl, List.take_length]; rfl
end
end Go.Proofs.Ytckbagpdahhiiaa
