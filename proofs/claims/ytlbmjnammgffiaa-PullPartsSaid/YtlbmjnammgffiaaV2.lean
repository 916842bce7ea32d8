/- Sparse vectors: the document's functions. Two sparse vectors: the document's functions. Two sparse vectors: the document's functions, further. Sparse vectors: the document's Put; Over. Two sparse vectors: the program's answers are the document's. In plain words. The laws on two sparse vectors: what they call. -/
import Derived.Test.YtlbmjnammgffiaaV1
namespace Go.Proofs.Ytlbmjnammgffiaa
section
open Go.RowKit
attribute [local irreducible] FS FO IT HS

theorem its_is {l : List (Int × Int)} {q : Nat} {x : List SV} (h : (its l)[q]? = some x) {i : Nat} (hq : q = i) : x = [.int .i64 (l.getD i (0, 0)).1, .int .i64 (l.getD i (0, 0)).2] := by
  subst hq
  obtain ⟨y, hy, rfl⟩ := its_get h
  simp [hy]
theorem its_go {l : List (Int × Int)} {q : Nat} {i : Nat} {K : List SV → Prop} (hq : q = i) (h : K [.int .i64 (l.getD i (0, 0)).1, .int .i64 (l.getD i (0, 0)).2]) : ∀ x, (its l)[q]? = some x → K x := fun x hx => by rw [its_is hx hq]; exact h
theorem getD_some {l : List (Int × Int)} {i : Nat} (h : i < l.length) : l[i]? = some (l.getD i (0, 0)) := by simp [h]

def ir_fretworkref09_Right : IR :=
(.seq (.reg (⟨(some 1), .bx (.t 0), none⟩ ::⟨(some 2), .mv (.c (.bool false)), none⟩ :: [])) (.seq (.seq (.reg (⟨(some 4), .fa 0 (.t 1), none⟩ ::⟨(some 5), .ld 1 false (.t 4), none⟩ ::⟨(some 6), .bin .lss (.t 5) (.c (.int .i64 0)), none⟩ ::⟨(some 7), .mv (.t 6), none⟩ ::⟨(some 8), .fa 0 (.t 1), some (7, false)⟩ ::⟨(some 9), .ld 1 false (.t 8), some (7, false)⟩ ::⟨(some 10), .bin .gtr (.t 9) (.c (.int .i64 4096)), some (7, false)⟩ ::⟨(some 11), .pick (.t 7) (.c (.bool true)) (.t 10), none⟩ :: [])) (.cond (.t 11) (.seq (.reg (⟨(some 2), .mv (.c (.bool false)), none⟩ :: [])) .ret) .skip)) (.seq (.seq (.reg (⟨(some 3), .mv (.c (.int .i64 0)), none⟩ :: [])) (.block 0 (.loop (.seq (.seq (.reg (⟨(some 12), .mv (.t 3), none⟩ ::⟨(some 13), .fa 1 (.t 1), none⟩ ::⟨(some 14), .ld 1 false (.t 13), none⟩ ::⟨(some 15), .ln (.t 14), none⟩ ::⟨(some 16), .bin .lss (.t 12) (.t 15), none⟩ :: [])) (.cond (.t 16) .skip (.exit 0))) (.seq (.block 1 (.seq (.draw (⟨(some 19), .fa 1 (.t 1), none⟩ ::⟨(some 20), .ld 1 false (.t 19), none⟩ ::⟨(some 21), .mv (.t 3), none⟩ ::⟨(some 22), .ia 2 (.t 20) (.t 21), none⟩ ::⟨(some 23), .fa 0 (.t 22), none⟩ ::⟨(some 24), .ld 1 false (.t 23), none⟩ ::⟨(some 25), .bin .lss (.t 24) (.c (.int .i64 0)), none⟩ ::⟨(some 26), .mv (.t 25), none⟩ ::⟨(some 27), .fa 1 (.t 1), some (26, false)⟩ ::⟨(some 28), .ld 1 false (.t 27), some (26, false)⟩ ::⟨(some 29), .mv (.t 3), some (26, false)⟩ ::⟨(some 30), .ia 2 (.t 28) (.t 29), some (26, false)⟩ ::⟨(some 31), .fa 0 (.t 30), some (26, false)⟩ ::⟨(some 32), .ld 1 false (.t 31), some (26, false)⟩ ::⟨(some 33), .fa 0 (.t 1), some (26, false)⟩ ::⟨(some 34), .ld 1 false (.t 33), some (26, false)⟩ ::⟨(some 35), .bin .geq (.t 32) (.t 34), some (26, false)⟩ ::⟨(some 36), .pick (.t 26) (.c (.bool true)) (.t 35), none⟩ ::⟨(some 37), .mv (.t 36), none⟩ ::⟨(some 38), .mv (.t 3), some (37, false)⟩ ::⟨(some 39), .bin .gtr (.t 38) (.c (.int .i64 0)), some (37, false)⟩ ::⟨(some 40), .mv (.t 39), some (37, false)⟩ ::⟨(some 41), .fa 1 (.t 1), some (40, true)⟩ ::⟨(some 42), .ld 1 false (.t 41), some (40, true)⟩ ::⟨(some 43), .mv (.t 3), some (40, true)⟩ ::⟨(some 44), .ia 2 (.t 42) (.t 43), some (40, true)⟩ ::⟨(some 45), .fa 0 (.t 44), some (40, true)⟩ ::⟨(some 46), .ld 1 false (.t 45), some (40, true)⟩ ::⟨(some 47), .fa 1 (.t 1), some (40, true)⟩ ::⟨(some 48), .ld 1 false (.t 47), some (40, true)⟩ ::⟨(some 49), .mv (.t 3), some (40, true)⟩ ::⟨(some 50), .bin .sub (.t 49) (.c (.int .i64 1)), some (40, true)⟩ ::⟨(some 51), .ia 2 (.t 48) (.t 50), some (40, true)⟩ ::⟨(some 52), .fa 0 (.t 51), some (40, true)⟩ ::⟨(some 53), .ld 1 false (.t 52), some (40, true)⟩ :: []) (⟨(some 54), .bin .leq (.t 46) (.t 53), some (40, true)⟩ ::⟨(some 55), .pick (.t 40) (.t 54) (.c (.bool false)), some (37, false)⟩ ::⟨(some 56), .pick (.t 37) (.c (.bool true)) (.t 55), none⟩ :: [])) (.cond (.t 56) (.seq (.reg (⟨(some 2), .mv (.c (.bool false)), none⟩ :: [])) .ret) .skip))) (.reg (⟨(some 17), .mv (.t 3), none⟩ ::⟨(some 18), .bin .add (.t 17) (.c (.int .i64 1)), none⟩ ::⟨(some 3), .mv (.t 18), none⟩ :: []))))))) (.seq (.reg (⟨(some 2), .mv (.c (.bool true)), none⟩ :: [])) .ret))))
theorem cd_fretworkref09_Right : Code1 Try.prog 73 57 ir_fretworkref09_Right [.t 2] := ⟨Try.call73, _, _, Try.func73, rfl, by kernel_rfl, by kernel_rfl, by kernel_rfl, by kernel_rfl⟩

set_option maxHeartbeats 2000000 in
theorem fs_r9Right (n : Int) (l : List (Int × Int)) (hl : l.length ≤ 1000000000) : FS Try.prog 73 [VC n l] (.bool (isV n l)) := by
  refine fs_of_cvc mixed cd_fretworkref09_Right (by simp) ?_
  have hb := badAt_ups n l (-1) 0
  repeat' (conv => whnf); first
    | ((refine Br.beq (by rfl) ?_))
    | ((refine Br.bne (by rfl) ?_))
    | (refine Br.tt ?_)
    | (refine Br.ff ?_)
    | (refine Br.dec (fun h => ?_) (fun h => ?_)) <;> try (exfalso; omega)
    | (refine Br.neg ?_)
    | (refine Br.mk (fun h => ?_) (fun h => ?_))
    | (refine And.intro rfl ?_)
    | (refine And.intro (by omega) ?_)
    | (refine ⟨_, Or.inl ⟨⟨by omega, by omega⟩, rfl⟩, ?_⟩)
    | (refine And.intro (by simp only [lens_all, its_len]; first | done | omega) ?_)
    | (refine And.intro (Nat.le_refl _) ?_)
    | fail
  · show SV.bool false = SV.bool _
    have : isV n l = false := by unfold isV; rw [decide_eq_false (show ¬ 0 ≤ n by omega)]; rfl
    rw [this]
  · show SV.bool false = SV.bool _
    have : isV n l = false := by unfold isV; rw [decide_eq_false (show ¬ n ≤ 4096 by omega), Bool.and_false]; rfl
    rw [this]
  · have e : isV n l = ups n (-1) l := by
      have a1 : decide (0 ≤ n) = true := decide_eq_true (by omega)
      have a2 : decide (n ≤ 4096) = true := decide_eq_true (by omega)
      unfold isV; rw [a1, a2]; rfl
    rw [e]
    refine ⟨Nat, fun k => k ≤ l.length ∧ badAt n (lst (-1) l k) (l.drop k) k = badAt n (-1) l 0 ∧ (0 < k → 0 ≤ lst (-1) l k), fun k => [(1, .ptr 0 0 0 0), (3, .int .i64 (k : Int))], fun k => [.vars [.int .i64 n, IL l]], fun _ => none, fun k => l.length - k, ⟨0, ⟨by omega, rfl, by omega⟩, ⟨rfl, rfl, trivial⟩, ⟨⟨rfl, rfl, trivial⟩, trivial⟩, rfl⟩, fun k hk => ?_⟩
    obtain ⟨hk1, hk2, hk3⟩ := hk
    have hlen := its_len l
    have fin : ∀ (y : Int × Int), l[k]? = some y → (decide (y.1 ≤ lst (-1) l k) || decide (n ≤ y.1)) = true → ups n (-1) l = false := fun y hy hw => by
      rw [badAt_step n (-1) l k y hy, if_pos hw] at hk2
      rw [← hk2] at hb
      have : decide (0 ≤ (k : Int)) = true := decide_eq_true (by omega)
      rw [this] at hb
      cases h : ups n (-1) l
      · rfl
      · rw [h] at hb; cases hb
    have more : ∀ (y : Int × Int), l[k]? = some y → (decide (y.1 ≤ lst (-1) l k) || decide (n ≤ y.1)) = false → badAt n (lst (-1) l (k + 1)) (l.drop (k + 1)) (k + 1) = badAt n (-1) l 0 := fun y hy hw => by
      rw [badAt_step n (-1) l k y hy, if_neg (by rw [hw]; simp)] at hk2
      exact hk2
    have last : ∀ (y : Int × Int), l[k]? = some y → lst (-1) l (k + 1) = y.1 := fun y hy => by simp [lst, List.getD_eq_getElem?_getD, hy]
    cases k with
    | zero =>
      have el : lst (-1) l 0 = -1 := rfl
      rw [el] at fin more
      repeat' (conv => whnf); first
        | ((refine its_go (i := 0) (by omega) ?_))
        | ((refine Br.beq (by rfl) ?_))
        | ((refine Br.bne (by rfl) ?_))
        | (refine Br.tt ?_)
        | (refine Br.ff ?_)
        | (refine Br.dec (fun h => ?_) (fun h => ?_)) <;> try (exfalso; omega)
        | (refine Br.neg ?_)
        | (refine Br.mk (fun h => ?_) (fun h => ?_))
        | (refine And.intro rfl ?_)
        | (refine And.intro (by omega) ?_)
        | (refine ⟨_, Or.inl ⟨⟨by omega, by omega⟩, rfl⟩, ?_⟩)
        | (refine And.intro (by simp only [lens_all, its_len]; first | done | omega) ?_)
        | (refine And.intro (Nat.le_refl _) ?_)
        | fail
      all_goals first
        | (show SV.bool false = SV.bool _
           rw [fin _ (getD_some (by omega)) (by rw [Bool.or_eq_true, decide_eq_true_eq, decide_eq_true_eq]; omega)])
        | (refine ⟨1, ⟨by omega, more _ (getD_some (by omega)) (by rw [Bool.or_eq_false_iff, decide_eq_false_iff_not, decide_eq_false_iff_not]; omega), fun _ => by rw [last _ (getD_some (by omega))]; omega⟩, (show l.length - 1 < l.length - 0 by omega), ⟨rfl, rfl, trivial⟩, ⟨⟨rfl, rfl, trivial⟩, trivial⟩, rfl⟩)
        | (show SV.bool true = SV.bool _
           rw [List.drop_eq_nil_of_le (by omega)] at hk2
           rw [← hk2] at hb
           have hb' : false = !ups n (-1) l := hb
           cases hu : ups n (-1) l
           · rw [hu] at hb'; cases hb'
           · rfl)
    | succ k =>
      have el : lst (-1) l (k + 1) = (l.getD k (0, 0)).1 := rfl
      rw [el] at fin more hk3
      repeat' (conv => whnf); first
        | ((refine its_go (i := k + 1) (by omega) ?_))
        | ((refine its_go (i := k) (by omega) ?_))
        | ((refine Br.beq (by rfl) ?_))
        | ((refine Br.bne (by rfl) ?_))
        | (refine Br.tt ?_)
        | (refine Br.ff ?_)
        | (refine Br.dec (fun h => ?_) (fun h => ?_)) <;> try (exfalso; omega)
        | (refine Br.neg ?_)
        | (refine Br.mk (fun h => ?_) (fun h => ?_))
        | (refine And.intro rfl ?_)
        | (refine And.intro (by omega) ?_)
        | (refine ⟨_, Or.inl ⟨⟨by omega, by omega⟩, rfl⟩, ?_⟩)
        | (refine And.intro (by simp only [lens_all, its_len]; first | done | omega) ?_)
        | (refine And.intro (Nat.le_refl _) ?_)
        | fail
      all_goals first
        | (show SV.bool false = SV.bool _
           rw [fin _ (getD_some (by omega)) (by rw [Bool.or_eq_true, decide_eq_true_eq, decide_eq_true_eq]; omega)])
        | (refine ⟨k + 1 + 1, ⟨by omega, more _ (getD_some (by omega)) (by rw [Bool.or_eq_false_iff, decide_eq_false_iff_not, decide_eq_false_iff_not]; omega), fun _ => by rw [last _ (getD_some (by omega))]; omega⟩, (show l.length - (k + 1 + 1) < l.length - (k + 1) by omega), ⟨rfl, rfl, trivial⟩, ⟨⟨rfl, rfl, trivial⟩, trivial⟩, rfl⟩)
        | (show SV.bool true = SV.bool _
           rw [List.drop_eq_nil_of_le (by omega)] at hk2
           rw [← hk2] at hb
           have hb' : false = !ups n (-1) l := hb
           cases hu : ups n (-1) l
           · rw [hu] at hb'; cases hb'
           · rfl)

theorem eqi (neg : Bool) (a b c d : Int) : EqOk Try.prog neg 70 [.int .i64 a, .int .i64 b] [.int .i64 c, .int .i64 d] (match neg with | true => decide ((a, b) ≠ (c, d)) | false => decide ((a, b) = (c, d))) := by
  have h := eqok_flat (P := Try.prog) neg Try.underlying70 (by kernel_rfl) (by kernel_rfl) (ks := [.i64, .i64]) ⟨by decide, rfl, by kernel_rfl, by kernel_rfl, by kernel_rfl, by decide, rfl, by kernel_rfl, by kernel_rfl, by kernel_rfl, trivial⟩ (la := [a, b]) (lb := [c, d]) rfl rfl
  have e : ([a, b] = [c, d]) ↔ ((a, b) = (c, d)) := by simp
  have e2 : ([a, b] ≠ [c, d]) ↔ ((a, b) ≠ (c, d)) := not_congr e
  cases neg
  · simp only [decide_eq_decide.2 e] at h; exact h
  · simp only [decide_eq_decide.2 e2] at h; exact h

def ir_fretworkref07_SameItems : IR :=
(.seq (.reg (⟨(some 4), .mv (.c (.bool false)), none⟩ :: [])) (.seq (.seq (.reg (⟨(some 6), .mv (.t 0), none⟩ ::⟨(some 7), .ln (.t 6), none⟩ ::⟨(some 8), .mv (.t 1), none⟩ ::⟨(some 9), .ln (.t 8), none⟩ ::⟨(some 10), .bin .neq (.t 7) (.t 9), none⟩ :: [])) (.cond (.t 10) (.seq (.reg (⟨(some 4), .mv (.c (.bool false)), none⟩ :: [])) .ret) .skip)) (.seq (.seq (.reg (⟨(some 5), .mv (.c (.int .i64 0)), none⟩ :: [])) (.block 0 (.loop (.seq (.seq (.reg (⟨(some 11), .mv (.t 5), none⟩ ::⟨(some 12), .mv (.t 0), none⟩ ::⟨(some 13), .ln (.t 12), none⟩ ::⟨(some 14), .bin .lss (.t 11) (.t 13), none⟩ :: [])) (.cond (.t 14) .skip (.exit 0))) (.seq (.block 1 (.seq (.draw (⟨(some 17), .mv (.t 0), none⟩ ::⟨(some 18), .mv (.t 5), none⟩ ::⟨(some 19), .ia 2 (.t 17) (.t 18), none⟩ ::⟨(some 20), .ld 2 true (.t 19), none⟩ ::⟨(some 21), .mv (.t 1), none⟩ ::⟨(some 22), .mv (.t 5), none⟩ ::⟨(some 23), .ia 2 (.t 21) (.t 22), none⟩ ::⟨(some 24), .ld 2 true (.t 23), none⟩ :: []) (⟨(some 25), .eqv true 70 (.t 20) (.t 24), none⟩ :: [])) (.cond (.t 25) (.seq (.reg (⟨(some 4), .mv (.c (.bool false)), none⟩ :: [])) .ret) .skip))) (.reg (⟨(some 15), .mv (.t 5), none⟩ ::⟨(some 16), .bin .add (.t 15) (.c (.int .i64 1)), none⟩ ::⟨(some 5), .mv (.t 16), none⟩ :: []))))))) (.seq (.reg (⟨(some 4), .mv (.c (.bool true)), none⟩ :: [])) .ret))))
theorem cd_fretworkref07_SameItems : Code1 Try.prog 47 26 ir_fretworkref07_SameItems [.t 4] := ⟨Try.call47, _, _, Try.func47, rfl, by kernel_rfl, by kernel_rfl, by kernel_rfl, by kernel_rfl⟩

theorem fs_SameItems (l m : List (Int × Int)) (_hl : l.length ≤ 1000000000) (hm : m.length ≤ 1000000000) : FS Try.prog 47 [IL l, IL m] (.bool (decide (l = m))) := by
  refine fs_of_cvc mixed cd_fretworkref07_SameItems (by simp) ?_
  have h1 := its_len l
  have h2 := its_len m
  repeat' (conv => whnf); first
    | ((refine Br.beq (by rfl) ?_))
    | ((refine Br.bne (by rfl) ?_))
    | (refine Br.tt ?_)
    | (refine Br.ff ?_)
    | (refine Br.dec (fun h => ?_) (fun h => ?_)) <;> try (exfalso; omega)
    | (refine Br.neg ?_)
    | (refine Br.mk (fun h => ?_) (fun h => ?_))
    | (refine And.intro rfl ?_)
    | (refine And.intro (by omega) ?_)
    | (refine ⟨_, Or.inl ⟨⟨by omega, by omega⟩, rfl⟩, ?_⟩)
    | (refine And.intro (by simp only [lens_all, its_len]; first | done | omega) ?_)
    | (refine And.intro (Nat.le_refl _) ?_)
    | fail
  · show SV.bool false = SV.bool _
    have : l ≠ m := fun e => by subst e; omega
    simp [this]
  · have hlm : l.length = m.length := by omega
    refine ⟨Nat, fun k => k ≤ l.length ∧ l.take k = m.take k, fun k => [(0, IL l), (1, IL m), (5, .int .i64 (k : Int))], fun k => [], fun _ => none, fun k => l.length - k, ⟨0, ⟨by omega, rfl⟩, ⟨rfl, rfl, rfl, trivial⟩, trivial, rfl⟩, fun k hk => ?_⟩
    obtain ⟨hk1, hk2⟩ := hk
    repeat' (conv => whnf); first
      | ((refine its_go (i := k) (by omega) ?_))
      | ((refine ⟨_, eqi true _ _ _ _, ?_⟩))
      | ((refine Br.beq (by rfl) ?_))
      | ((refine Br.bne (by rfl) ?_))
      | (refine Br.tt ?_)
      | (refine Br.ff ?_)
      | (refine Br.dec (fun h => ?_) (fun h => ?_)) <;> try (exfalso; omega)
      | (refine Br.neg ?_)
      | (refine Br.mk (fun h => ?_) (fun h => ?_))
      | (refine And.intro rfl ?_)
      | (refine And.intro (by omega) ?_)
      | (refine ⟨_, Or.inl ⟨⟨by omega, by omega⟩, rfl⟩, ?_⟩)
      | (refine And.intro (by simp only [lens_all]; first | done | omega) ?_)
      | (refine And.intro (Nat.le_refl _) ?_)
      | fail
    · show SV.bool false = SV.bool _
      have : l ≠ m := fun e => by subst e; exact h rfl
      simp [this]
    · have hkl : k < l.length := by omega
      have heq : l.getD k (0, 0) = m.getD k (0, 0) := Classical.not_not.1 h
      refine ⟨k + 1, ⟨by omega, ?_⟩, (show l.length - (k + 1) < l.length - k by omega), ⟨rfl, rfl, rfl, trivial⟩, trivial, rfl⟩
      rw [List.take_add_one, List.take_add_one, hk2, getD_some hkl, getD_some (l := m) (by omega), heq]
    · have hkl : k = l.length := by omega
      subst hkl
      rw [List.take_length, hlm, List.take_length] at hk2
      show SV.bool true = SV.bool _
      simp [hk2]

def ir_fretworkref09_Same : IR :=
(.seq (.reg (⟨(some 2), .bx (.t 0), none⟩ ::⟨(some 3), .bx (.t 1), none⟩ ::⟨(some 4), .mv (.c (.bool false)), none⟩ :: [])) (.seq (.reg (⟨(some 5), .fa 0 (.t 2), none⟩ ::⟨(some 6), .ld 1 false (.t 5), none⟩ ::⟨(some 7), .fa 0 (.t 3), none⟩ ::⟨(some 8), .ld 1 false (.t 7), none⟩ ::⟨(some 9), .bin .eql (.t 6) (.t 8), none⟩ ::⟨(some 10), .mv (.t 9), none⟩ ::⟨(some 11), .fa 1 (.t 2), some (10, true)⟩ ::⟨(some 12), .ld 1 false (.t 11), some (10, true)⟩ ::⟨(some 13), .fa 1 (.t 3), some (10, true)⟩ ::⟨(some 14), .ld 1 false (.t 13), some (10, true)⟩ ::⟨(some 15), .call (.c (.fn 47 [])) [(.t 12), (.t 14)], some (10, true)⟩ ::⟨(some 16), .pick (.t 10) (.t 15) (.c (.bool false)), none⟩ ::⟨(some 4), .mv (.t 16), none⟩ :: [])) .ret))
theorem cd_fretworkref09_Same : Code1 Try.prog 19 17 ir_fretworkref09_Same [.t 4] := ⟨Try.call19, _, _, Try.func19, rfl, by kernel_rfl, by kernel_rfl, by kernel_rfl, by kernel_rfl⟩

theorem fs_r9Same (n p : Int) (l m : List (Int × Int)) (hl : l.length ≤ 1000000000) (hm : m.length ≤ 1000000000) : FS Try.prog 19 [VC n l, VC p m] (.bool (decide (n = p) && decide (l = m))) := by
  refine fs_of_cvc mixed cd_fretworkref09_Same (by simp) ?_
  repeat' (conv => whnf); first
    | ((refine Or.inl ⟨by rfl, _, fs_SameItems l m hl hm, ?_⟩))
    | ((refine Br.beq (by rfl) ?_))
    | ((refine Br.bne (by rfl) ?_))
    | (refine Br.tt ?_)
    | (refine Br.ff ?_)
    | (refine Br.dec (fun h => ?_) (fun h => ?_)) <;> try (exfalso; omega)
    | (refine Br.neg ?_)
    | (refine Br.mk (fun h => ?_) (fun h => ?_))
    | (refine And.intro rfl ?_)
    | (refine And.intro (by omega) ?_)
    | (refine ⟨_, Or.inl ⟨⟨by omega, by omega⟩, rfl⟩, ?_⟩)
    | (refine And.intro (by simp only [lens_all, its_len]; first | done | omega) ?_)
    | (refine And.intro (Nat.le_refl _) ?_)
    | fail
  all_goals (show SV.bool _ = SV.bool _; simp [*])

def ir_fretworkref09_Sure : IR :=
(.seq (.reg (⟨(some 1), .bx (.t 0), none⟩ ::⟨(some 2), .al [.int .i64 0, .nils], none⟩ :: [])) (.seq (.seq (.reg (⟨(some 3), .ld 2 true (.t 1), none⟩ ::⟨(some 4), .call (.c (.fn 73 [])) [(.t 3)], none⟩ :: [])) (.cond (.t 4) (.seq (.reg (⟨(some 5), .ld 2 true (.t 1), none⟩ ::⟨none, .st 2 (.t 2) (.t 5), none⟩ :: [])) .ret) .skip)) (.seq (.reg (⟨(some 6), .bld [.int .i64 0, .nils] [], none⟩ ::⟨none, .st 2 (.t 2) (.t 6), none⟩ :: [])) .ret)))
theorem cd_fretworkref09_Sure : Code1 Try.prog 40 7 ir_fretworkref09_Sure [.c 2 true 2] := ⟨Try.call40, _, _, Try.func40, rfl, by kernel_rfl, by kernel_rfl, by kernel_rfl, by kernel_rfl⟩

theorem fs_r9Sure (n : Int) (l : List (Int × Int)) (hl : l.length ≤ 1000000000) : FS Try.prog 40 [VC n l] (VC (sn n l) (sl n l)) := by
  refine fs_of_cvc mixed cd_fretworkref09_Sure (by simp) ?_
  obtain ⟨b, hb⟩ : ∃ b, isV n l = b := ⟨_, rfl⟩
  have c := fs_r9Right n l hl
  rw [hb] at c
  unfold sn sl
  rw [hb]
  repeat' (conv => whnf); first
    | ((refine Or.inl ⟨by rfl, _, c, ?_⟩))
    | ((refine Br.beq (by rfl) ?_))
    | ((refine Br.bne (by rfl) ?_))
    | (refine Br.tt ?_)
    | (refine Br.ff ?_)
    | (refine Br.dec (fun h => ?_) (fun h => ?_)) <;> try (exfalso; omega)
    | (refine Br.neg ?_)
    | (refine Br.mk (fun h => ?_) (fun h => ?_))
    | (refine And.intro rfl ?_)
    | (refine And.intro (by omega) ?_)
    | (refine ⟨_, Or.inl ⟨⟨by omega, by omega⟩, rfl⟩, ?_⟩)
    | (refine And.intro (by simp only [lens_all]; first | done | omega) ?_)
    | (refine And.intro (Nat.le_refl _) ?_)
    | fail
  · subst h; exact rfl
  · subst h; exact ⟨rfl, rfl, trivial⟩

def ir_fretworkref11_has : IR :=
(.seq (.reg (⟨(some 2), .bx (.t 0), none⟩ ::⟨(some 4), .mv (.c (.int .i64 0)), none⟩ ::⟨(some 5), .mv (.c (.bool false)), none⟩ :: [])) (.seq (.seq (.reg (⟨(some 6), .mv (.c (.int .i64 0)), none⟩ :: [])) (.block 0 (.loop (.seq (.seq (.reg (⟨(some 7), .mv (.t 6), none⟩ ::⟨(some 8), .fa 1 (.t 2), none⟩ ::⟨(some 9), .ld 1 false (.t 8), none⟩ ::⟨(some 10), .ln (.t 9), none⟩ ::⟨(some 11), .bin .lss (.t 7) (.t 10), none⟩ :: [])) (.cond (.t 11) .skip (.exit 0))) (.seq (.block 1 (.seq (.reg (⟨(some 14), .fa 1 (.t 2), none⟩ ::⟨(some 15), .ld 1 false (.t 14), none⟩ ::⟨(some 16), .mv (.t 6), none⟩ ::⟨(some 17), .ia 2 (.t 15) (.t 16), none⟩ ::⟨(some 18), .fa 0 (.t 17), none⟩ ::⟨(some 19), .ld 1 false (.t 18), none⟩ ::⟨(some 20), .mv (.t 1), none⟩ ::⟨(some 21), .bin .eql (.t 19) (.t 20), none⟩ :: [])) (.cond (.t 21) (.seq (.reg (⟨(some 22), .fa 1 (.t 2), none⟩ ::⟨(some 23), .ld 1 false (.t 22), none⟩ ::⟨(some 24), .mv (.t 6), none⟩ ::⟨(some 25), .ia 2 (.t 23) (.t 24), none⟩ ::⟨(some 26), .fa 1 (.t 25), none⟩ ::⟨(some 27), .ld 1 false (.t 26), none⟩ ::⟨(some 4), .mv (.t 27), none⟩ ::⟨(some 5), .mv (.c (.bool true)), none⟩ :: [])) .ret) .skip))) (.reg (⟨(some 12), .mv (.t 6), none⟩ ::⟨(some 13), .bin .add (.t 12) (.c (.int .i64 1)), none⟩ ::⟨(some 6), .mv (.t 13), none⟩ :: []))))))) (.seq (.reg (⟨(some 4), .mv (.c (.int .i64 0)), none⟩ ::⟨(some 5), .mv (.c (.bool false)), none⟩ :: [])) .ret)))
theorem cd_fretworkref11_has : Code1 Try.prog 41 28 ir_fretworkref11_has [.t 4, .t 5] := ⟨Try.call41, _, _, Try.func41, rfl, by kernel_rfl, by kernel_rfl, by kernel_rfl, by kernel_rfl⟩

theorem fs_r11has (n : Int) (l : List (Int × Int)) (a : Int) (hl : l.length ≤ 1000000000) : FS Try.prog 41 [VC n l, .int .i64 a] (.tup [.int .i64 ((gt l a).getD 0), .bool (gt l a).isSome]) := by
  refine fs_of_cvc mixed cd_fretworkref11_has (by simp) ?_
  have h1 := its_len l
  refine ⟨Nat, fun k => k ≤ l.length ∧ gt (l.drop k) a = gt l a, fun k => [(1, .int .i64 a), (2, .ptr 0 0 0 0), (6, .int .i64 (k : Int))], fun k => [.vars [.int .i64 n, IL l]], fun _ => none, fun k => l.length - k, ⟨0, ⟨by omega, rfl⟩, ⟨rfl, rfl, rfl, trivial⟩, ⟨⟨rfl, rfl, trivial⟩, trivial⟩, rfl⟩, fun k hk => ?_⟩
  obtain ⟨hk1, hk2⟩ := hk
  have hd : k < l.length → l.drop k = l.getD k (0, 0) :: l.drop (k + 1) := fun h => by
    rw [List.drop_eq_getElem_cons h]; simp [h]
  repeat' (conv => whnf); first
    | ((refine its_go (i := k) (by omega) ?_))
    | ((refine Br.beq (by rfl) ?_))
    | ((refine Br.bne (by rfl) ?_))
    | (refine Br.tt ?_)
    | (refine Br.ff ?_)
    | (refine Br.dec (fun h => ?_) (fun h => ?_)) <;> try (exfalso; omega)
    | (refine Br.neg ?_)
    | (refine Br.mk (fun h => ?_) (fun h => ?_))
    | (refine And.intro rfl ?_)
    | (refine And.intro (by omega) ?_)
    | (refine ⟨_, Or.inl ⟨⟨by omega, by omega⟩, rfl⟩, ?_⟩)
    | (refine And.intro (by simp only [lens_all, its_len]; first | done | omega) ?_)
    | (refine And.intro (Nat.le_refl _) ?_)
    | fail
  · rename_i hlt
    rw [hd (by omega), gt_cons, if_pos h] at hk2
    rw [← hk2]
    exact rfl
  · rename_i hlt
    rw [hd (by omega), gt_cons, if_neg h] at hk2
    exact ⟨k + 1, ⟨by omega, hk2⟩, (show l.length - (k + 1) < l.length - k by omega), ⟨rfl, rfl, rfl, trivial⟩, ⟨⟨rfl, rfl, trivial⟩, trivial⟩, rfl⟩
  · rw [List.drop_eq_nil_of_le (by omega)] at hk2
    rw [← hk2]
    exact rfl
end
section
open Go.RowKit
attribute [local irreducible] FS FO IT HS

/-- What two come to at a place; whether it is over. -/
def uV (r : Int) (x y : Option Int) : Option Int := match x, y with
  | none, none => none
  | some x, none => some x
  | none, some y => some y
  | some x, some y => some (nar (rAdd r x y))
def uE (r : Int) (x y : Option Int) : Bool := match x, y with
  | some x, some y => !fits (rAdd r x y)
  | _, _ => false
def ruL (r : Int) (a b : List (Int × Int)) (k : Nat) : List (Int × Int) := (List.range k).filterMap fun (i : Nat) => (uV r (gt a (i : Int)) (gt b (i : Int))).map fun v => ((i : Int), v)
def ruR (r n1 : Int) (a : List (Int × Int)) (n2 : Int) (b : List (Int × Int)) : Int × List (Int × Int) × Int :=
  if isR r = true then if n1 = n2 then if (List.range n1.toNat).any (fun (i : Nat) => uE r (gt a (i : Int)) (gt b (i : Int))) = true then (0, [], 12) else (n1, ruL r a b n1.toNat, 0) else (0, [], 4) else (0, [], 8)
theorem ruL_succ (r : Int) (a b : List (Int × Int)) (k : Nat) : ruL r a b (k + 1) = ruL r a b k ++ ((uV r (gt a (k : Int)) (gt b (k : Int))).map fun v => ((k : Int), v)).toList := by
  unfold ruL
  rw [List.range_succ, List.filterMap_append]
  congr 1
theorem ruL_le (r : Int) (a b : List (Int × Int)) (k : Nat) : (ruL r a b k).length ≤ k := by
  have := List.length_filterMap_le (fun (i : Nat) => (uV r (gt a (i : Int)) (gt b (i : Int))).map fun v => ((i : Int), v)) (List.range k)
  simpa [ruL] using this
theorem any_lt {p : Nat → Bool} {n : Nat} : (List.range n).any p = false ↔ ∀ i, i < n → p i = false := by
  rw [List.any_eq_false]
  constructor
  · intro h i hi; simpa using h i (List.mem_range.2 hi)
  · intro h i hi; simpa using h i (List.mem_range.1 hi)
theorem any_lt' {p : Nat → Bool} {n i : Nat} (hi : i < n) (h : p i = true) : (List.range n).any p = true := List.any_eq_true.2 ⟨i, List.mem_range.2 hi, h⟩

def ir_fretworkref11_Union : IR :=
(.seq (.reg (⟨(some 4), .bx (.t 1), none⟩ ::⟨(some 5), .bx (.t 2), none⟩ ::⟨(some 6), .al [.int .i64 0, .nils], none⟩ ::⟨(some 7), .mv (.c (.int .i64 0)), none⟩ :: [])) (.seq (.draw (⟨(some 17), .ld 2 true (.t 4), none⟩ ::⟨(some 18), .call (.c (.fn 40 [])) [(.t 17)], none⟩ ::⟨(some 19), .ld 2 true (.t 5), none⟩ :: []) (⟨(some 20), .call (.c (.fn 40 [])) [(.t 19)], none⟩ ::⟨none, .st 2 (.t 4) (.t 18), none⟩ ::⟨none, .st 2 (.t 5) (.t 20), none⟩ :: [])) (.seq (.seq (.reg (⟨(some 21), .mv (.t 0), none⟩ ::⟨(some 22), .call (.c (.fn 31 [])) [(.t 21)], none⟩ ::⟨(some 23), .un .not (.t 22), none⟩ :: [])) (.cond (.t 23) (.seq (.reg (⟨(some 24), .bld [.int .i64 0, .nils] [], none⟩ ::⟨none, .st 2 (.t 6) (.t 24), none⟩ ::⟨(some 7), .mv (.c (.int .i64 8)), none⟩ :: [])) .ret) .skip)) (.seq (.seq (.reg (⟨(some 25), .fa 0 (.t 4), none⟩ ::⟨(some 26), .ld 1 false (.t 25), none⟩ ::⟨(some 27), .fa 0 (.t 5), none⟩ ::⟨(some 28), .ld 1 false (.t 27), none⟩ ::⟨(some 29), .bin .neq (.t 26) (.t 28), none⟩ :: [])) (.cond (.t 29) (.seq (.reg (⟨(some 30), .bld [.int .i64 0, .nils] [], none⟩ ::⟨none, .st 2 (.t 6) (.t 30), none⟩ ::⟨(some 7), .mv (.c (.int .i64 4)), none⟩ :: [])) .ret) .skip)) (.seq (.reg (⟨(some 31), .fa 0 (.t 4), none⟩ ::⟨(some 32), .ld 1 false (.t 31), none⟩ ::⟨(some 33), .bld [.int .i64 0, .nils] [(0, 1, (.t 32))], none⟩ ::⟨(some 8), .al [.int .i64 0, .nils], none⟩ ::⟨none, .st 2 (.t 8) (.t 33), none⟩ :: [])) (.seq (.seq (.reg (⟨(some 9), .mv (.c (.int .i64 0)), none⟩ :: [])) (.block 0 (.loop (.seq (.seq (.reg (⟨(some 34), .mv (.t 9), none⟩ ::⟨(some 35), .fa 0 (.t 4), none⟩ ::⟨(some 36), .ld 1 false (.t 35), none⟩ ::⟨(some 37), .bin .lss (.t 34) (.t 36), none⟩ :: [])) (.cond (.t 37) .skip (.exit 0))) (.seq (.block 1 (.seq (.reg (⟨(some 41), .ld 2 true (.t 4), none⟩ ::⟨(some 42), .mv (.t 9), none⟩ ::⟨(some 43), .call (.c (.fn 41 [])) [(.t 41), (.t 42)], none⟩ ::⟨(some 40), .mv (.t 43), none⟩ ::⟨(some 44), .ex 0 (.t 40), none⟩ ::⟨(some 45), .ex 1 (.t 40), none⟩ ::⟨(some 10), .mv (.t 44), none⟩ ::⟨(some 11), .mv (.t 45), none⟩ :: [])) (.seq (.reg (⟨(some 47), .ld 2 true (.t 5), none⟩ ::⟨(some 48), .mv (.t 9), none⟩ ::⟨(some 49), .call (.c (.fn 41 [])) [(.t 47), (.t 48)], none⟩ ::⟨(some 46), .mv (.t 49), none⟩ ::⟨(some 50), .ex 0 (.t 46), none⟩ ::⟨(some 51), .ex 1 (.t 46), none⟩ ::⟨(some 12), .mv (.t 50), none⟩ ::⟨(some 13), .mv (.t 51), none⟩ :: [])) (.seq (.seq (.reg (⟨(some 52), .mv (.t 11), none⟩ ::⟨(some 53), .un .not (.t 52), none⟩ ::⟨(some 54), .mv (.t 53), none⟩ ::⟨(some 55), .mv (.t 13), some (54, true)⟩ ::⟨(some 56), .un .not (.t 55), some (54, true)⟩ ::⟨(some 57), .pick (.t 54) (.t 56) (.c (.bool false)), none⟩ :: [])) (.cond (.t 57) (.exit 1) .skip)) (.seq (.reg (⟨(some 58), .mv (.t 10), none⟩ ::⟨(some 14), .mv (.t 58), none⟩ :: [])) (.seq (.seq (.reg (⟨(some 59), .mv (.t 11), none⟩ ::⟨(some 60), .un .not (.t 59), none⟩ :: [])) (.cond (.t 60) (.reg (⟨(some 61), .mv (.t 12), none⟩ ::⟨(some 14), .mv (.t 61), none⟩ :: [])) .skip)) (.seq (.seq (.reg (⟨(some 62), .mv (.t 11), none⟩ ::⟨(some 63), .mv (.t 62), none⟩ ::⟨(some 64), .mv (.t 13), some (63, true)⟩ ::⟨(some 65), .pick (.t 63) (.t 64) (.c (.bool false)), none⟩ :: [])) (.cond (.t 65) (.seq (.reg (⟨(some 67), .mv (.t 0), none⟩ ::⟨(some 68), .mv (.t 10), none⟩ ::⟨(some 69), .call (.c (.fn 43 [])) [(.t 68)], none⟩ ::⟨(some 70), .mv (.t 12), none⟩ ::⟨(some 71), .call (.c (.fn 43 [])) [(.t 70)], none⟩ ::⟨(some 72), .call (.c (.fn 34 [])) [(.t 67), (.t 69), (.t 71)], none⟩ ::⟨(some 73), .call (.c (.fn 42 [])) [(.t 72)], none⟩ ::⟨(some 66), .mv (.t 73), none⟩ ::⟨(some 74), .ex 0 (.t 66), none⟩ ::⟨(some 75), .ex 1 (.t 66), none⟩ ::⟨(some 15), .mv (.t 74), none⟩ ::⟨(some 16), .mv (.t 75), none⟩ :: [])) (.seq (.seq (.reg (⟨(some 76), .mv (.t 16), none⟩ ::⟨(some 77), .un .not (.t 76), none⟩ :: [])) (.cond (.t 77) (.seq (.reg (⟨(some 78), .bld [.int .i64 0, .nils] [], none⟩ ::⟨none, .st 2 (.t 6) (.t 78), none⟩ ::⟨(some 7), .mv (.c (.int .i64 12)), none⟩ :: [])) .ret) .skip)) (.reg (⟨(some 79), .mv (.t 15), none⟩ ::⟨(some 14), .mv (.t 79), none⟩ :: [])))) .skip)) (.reg (⟨(some 80), .fa 1 (.t 8), none⟩ ::⟨(some 81), .ld 1 false (.t 80), none⟩ ::⟨(some 82), .mv (.t 9), none⟩ ::⟨(some 83), .mv (.t 14), none⟩ ::⟨(some 84), .bld [.int .i64 0, .int .i64 0] [(0, 1, (.t 82)), (1, 1, (.t 83))], none⟩ ::⟨(some 85), .bsl 1 2 [.int .i64 0, .int .i64 0] [(0, (.t 84))], none⟩ ::⟨(some 86), .ap 2 16 (.t 81) (.t 85), none⟩ ::⟨(some 87), .fa 1 (.t 8), none⟩ ::⟨none, .st 1 (.t 87) (.t 86), none⟩ :: []))))))))) (.reg (⟨(some 38), .mv (.t 9), none⟩ ::⟨(some 39), .bin .add (.t 38) (.c (.int .i64 1)), none⟩ ::⟨(some 9), .mv (.t 39), none⟩ :: []))))))) (.seq (.reg (⟨(some 88), .ld 2 true (.t 8), none⟩ ::⟨none, .st 2 (.t 6) (.t 88), none⟩ ::⟨(some 7), .mv (.c (.int .i64 0)), none⟩ :: [])) .ret)))))))
theorem cd_fretworkref11_Union : Code1 Try.prog 14 89 ir_fretworkref11_Union [.c 2 true 6, .t 7] := ⟨Try.call14, _, _, Try.func14, rfl, by kernel_rfl, by kernel_rfl, by kernel_rfl, by kernel_rfl⟩

set_option maxHeartbeats 4000000 in
theorem fs_r11Union (r n1 : Int) (l1 : List (Int × Int)) (n2 : Int) (l2 : List (Int × Int)) (hl1 : l1.length ≤ 400000000) (hl2 : l2.length ≤ 400000000) (h1 : Ib l1) (h2 : Ib l2) : FS Try.prog 14 [.int .i64 r, VC n1 l1, VC n2 l2] (VE (ruR r (sn n1 l1) (sl n1 l1) (sn n2 l2) (sl n2 l2))) := by
  refine fs_of_cvc mixed cd_fretworkref11_Union (by simp) ?_
  have c1 := fs_r9Sure n1 l1 (by omega)
  have c2 := fs_r9Sure n2 l2 (by omega)
  have s1 := sl_len n1 l1
  have s2 := sl_len n2 l2
  have b1 : Ib (sl n1 l1) := h1.sl
  have b2 : Ib (sl n2 l2) := h2.sl
  have hn := sn_le n1 l1
  generalize sn n1 l1 = N1 at *
  generalize sn n2 l2 = N2 at *
  generalize sl n1 l1 = a at *
  generalize sl n2 l2 = b at *
  obtain ⟨q, hq⟩ : ∃ q, isR r = q := ⟨_, rfl⟩
  have ci := fs_r2Is r
  rw [hq] at ci
  generalize ht : ruR r N1 a N2 b = t
  unfold ruR at ht
  rw [hq] at ht
  cases q
  · have ht' : t = (0, [], 8) := ht.symm
    subst ht'
    repeat' (conv => whnf); first
      | ((refine Or.inl ⟨by rfl, _, c1, ?_⟩))
      | ((refine Or.inl ⟨by rfl, _, c2, ?_⟩))
      | ((refine Or.inl ⟨by rfl, _, ci, ?_⟩))
      | ((refine Br.beq (by rfl) ?_))
      | ((refine Br.bne (by rfl) ?_))
      | ((refine And.intro (Or.inl (Nat.zero_le _)) ?_))
      | ((refine And.intro (by intro y hy; simp at hy; subst hy; rfl) ?_))
      | (refine Br.tt ?_)
      | (refine Br.ff ?_)
      | (refine Br.dec (fun h => ?_) (fun h => ?_)) <;> try (exfalso; omega)
      | (refine Br.neg ?_)
      | (refine Br.mk (fun h => ?_) (fun h => ?_))
      | (refine And.intro rfl ?_)
      | (refine And.intro (by omega) ?_)
      | (refine ⟨_, Or.inl ⟨⟨by omega, by omega⟩, rfl⟩, ?_⟩)
      | (refine And.intro (by simp only [lens_all]; first | done | omega) ?_)
      | (refine And.intro (Nat.le_refl _) ?_)
      | fail
    exact ⟨⟨rfl, rfl, trivial⟩, rfl, trivial⟩
  rw [if_pos rfl] at ht
  by_cases hN : N1 = N2
  · rw [if_pos hN] at ht
    repeat' (conv => whnf); first
      | ((refine Or.inl ⟨by rfl, _, c1, ?_⟩))
      | ((refine Or.inl ⟨by rfl, _, c2, ?_⟩))
      | ((refine Or.inl ⟨by rfl, _, ci, ?_⟩))
      | ((refine Br.beq (by rfl) ?_))
      | ((refine Br.bne (by rfl) ?_))
      | ((refine And.intro (Or.inl (Nat.zero_le _)) ?_))
      | ((refine And.intro (by intro y hy; simp at hy; subst hy; rfl) ?_))
      | (refine Br.tt ?_)
      | (refine Br.ff ?_)
      | (refine Br.dec (fun h => ?_) (fun h => ?_)) <;> try (exfalso; omega)
      | (refine Br.neg ?_)
      | (refine Br.mk (fun h => ?_) (fun h => ?_))
      | (refine And.intro rfl ?_)
      | (refine And.intro (by omega) ?_)
      | (refine ⟨_, Or.inl ⟨⟨by omega, by omega⟩, rfl⟩, ?_⟩)
      | (refine And.intro (by simp only [lens_all]; first | done | omega) ?_)
      | (refine And.intro (Nat.le_refl _) ?_)
      | fail
    refine ⟨Nat, fun k => (k : Int) ≤ N1 ∧ ∀ i, i < k → uE r (gt a (i : Int)) (gt b (i : Int)) = false, fun k => [(0, .int .i64 r), (4, .ptr 0 0 0 0), (5, .ptr 1 0 0 0), (6, .ptr 2 0 0 0), (8, .ptr 3 0 0 0), (9, .int .i64 (k : Int))], fun k => [.vars [.int .i64 N1, IL a], .vars [.int .i64 N2, IL b], .vars [.int .i64 0, .nils], .vars [.int .i64 N1, .osl 4 2 0 (ruL r a b k).length], .arr 2 (its (ruL r a b k))], fun _ => none, fun k => N1.toNat - k,
      ⟨0, ⟨by omega, fun i hi => by omega⟩, ⟨rfl, rfl, rfl, rfl, rfl, rfl, trivial⟩, ⟨⟨rfl, rfl, trivial⟩, ⟨rfl, rfl, trivial⟩, ⟨rfl, rfl, trivial⟩, ⟨rfl, ⟨Nat.le_refl _, rfl, rfl⟩, trivial⟩, rfl, trivial⟩, rfl⟩, fun k hk => ?_⟩
    obtain ⟨hk1, hk2⟩ := hk
    have hle := ruL_le r a b k
    have ca := fs_r11has N1 a k (by omega)
    have cb := fs_r11has N2 b k (by omega)
    have hsucc := ruL_succ r a b k
    have more : uE r (gt a (k : Int)) (gt b (k : Int)) = false → ∀ i, i < k + 1 → uE r (gt a (i : Int)) (gt b (i : Int)) = false := fun h i hi => by
      rcases Nat.lt_or_ge i k with h' | h'
      · exact hk2 i h'
      · have : i = k := by omega
        subst this; exact h
    have fin : ¬ (k : Int) < N1 → t = (N1, ruL r a b k, 0) := fun h => by
      have hkn : N1.toNat = k := by omega
      rw [← ht, hkn, if_neg (by rw [any_lt.2 hk2]; simp)]
    cases hx : gt a (k : Int) with
    | none =>
      rw [hx] at ca hsucc more
      cases hy : gt b (k : Int) with
      | none =>
        rw [hy] at cb hsucc more
        repeat' (conv => whnf); first
          | ((refine Or.inl ⟨by rfl, _, ca, ?_⟩))
          | ((refine Or.inl ⟨by rfl, _, cb, ?_⟩))
          | ((refine Br.beq (by rfl) ?_))
          | ((refine Br.bne (by rfl) ?_))
          | ((refine And.intro (Or.inl (Nat.zero_le _)) ?_))
          | ((refine And.intro (by intro y hy; simp at hy; subst hy; rfl) ?_))
          | (refine Br.tt ?_)
          | (refine Br.ff ?_)
          | (refine Br.dec (fun h => ?_) (fun h => ?_)) <;> try (exfalso; omega)
          | (refine Br.neg ?_)
          | (refine Br.mk (fun h => ?_) (fun h => ?_))
          | (refine And.intro rfl ?_)
          | (refine And.intro (by omega) ?_)
          | (refine ⟨_, Or.inl ⟨⟨by omega, by omega⟩, rfl⟩, ?_⟩)
          | (refine And.intro (by simp only [lens_all, its_len]; first | done | omega) ?_)
          | (refine And.intro (Nat.le_refl _) ?_)
          | fail
        · refine ⟨k + 1, ⟨by omega, more rfl⟩, (show N1.toNat - (k + 1) < N1.toNat - k by omega), ⟨rfl, rfl, rfl, rfl, rfl, rfl, trivial⟩, ⟨⟨rfl, rfl, trivial⟩, ⟨rfl, rfl, trivial⟩, ⟨rfl, rfl, trivial⟩, ⟨rfl, ?_, trivial⟩, ?_, trivial⟩, rfl⟩
          · rw [hsucc]; exact (congrArg (SV.osl 4 2 0) (by simp [uV]))
          · rw [hsucc]; exact (congrArg (fun l => Blk.arr 2 (its l)) (by simp [uV]))
        · obtain rfl := fin (by omega)
          conv => whnf
          rw [frz_its]
          rfl
      | some y =>
        rw [hy] at cb hsucc more
        repeat' (conv => whnf); first
          | ((refine Or.inl ⟨by rfl, _, ca, ?_⟩))
          | ((refine Or.inl ⟨by rfl, _, cb, ?_⟩))
          | ((refine Br.beq (by rfl) ?_))
          | ((refine Br.bne (by rfl) ?_))
          | ((refine And.intro (Or.inl (Nat.zero_le _)) ?_))
          | ((refine And.intro (by intro y hy; simp at hy; subst hy; rfl) ?_))
          | (refine Br.tt ?_)
          | (refine Br.ff ?_)
          | (refine Br.dec (fun h => ?_) (fun h => ?_)) <;> try (exfalso; omega)
          | (refine Br.neg ?_)
          | (refine Br.mk (fun h => ?_) (fun h => ?_))
          | (refine And.intro rfl ?_)
          | (refine And.intro (by omega) ?_)
          | (refine ⟨_, Or.inl ⟨⟨by omega, by omega⟩, rfl⟩, ?_⟩)
          | (refine And.intro (by simp only [lens_all, its_len]; first | done | omega) ?_)
          | (refine And.intro (Nat.le_refl _) ?_)
          | fail
        · refine ⟨k + 1, ⟨by omega, more rfl⟩, (show N1.toNat - (k + 1) < N1.toNat - k by omega), ⟨rfl, rfl, rfl, rfl, rfl, rfl, trivial⟩, ⟨⟨rfl, rfl, trivial⟩, ⟨rfl, rfl, trivial⟩, ⟨rfl, rfl, trivial⟩, ⟨rfl, ?_, trivial⟩, ?_, trivial⟩, rfl⟩
          · rw [hsucc]; exact (congrArg (SV.osl 4 2 0) (by simp [uV]))
          · rw [hsucc, its_append]; rfl
        · obtain rfl := fin (by omega)
          conv => whnf
          rw [frz_its]
          rfl
    | some x =>
      have ix := (b1 _ (gt_mem hx)).2
      rw [hx] at ca hsucc more
      cases hy : gt b (k : Int) with
      | none =>
        rw [hy] at cb hsucc more
        repeat' (conv => whnf); first
          | ((refine Or.inl ⟨by rfl, _, ca, ?_⟩))
          | ((refine Or.inl ⟨by rfl, _, cb, ?_⟩))
          | ((refine Br.beq (by rfl) ?_))
          | ((refine Br.bne (by rfl) ?_))
          | ((refine And.intro (Or.inl (Nat.zero_le _)) ?_))
          | ((refine And.intro (by intro y hy; simp at hy; subst hy; rfl) ?_))
          | (refine Br.tt ?_)
          | (refine Br.ff ?_)
          | (refine Br.dec (fun h => ?_) (fun h => ?_)) <;> try (exfalso; omega)
          | (refine Br.neg ?_)
          | (refine Br.mk (fun h => ?_) (fun h => ?_))
          | (refine And.intro rfl ?_)
          | (refine And.intro (by omega) ?_)
          | (refine ⟨_, Or.inl ⟨⟨by omega, by omega⟩, rfl⟩, ?_⟩)
          | (refine And.intro (by simp only [lens_all, its_len]; first | done | omega) ?_)
          | (refine And.intro (Nat.le_refl _) ?_)
          | fail
        · refine ⟨k + 1, ⟨by omega, more rfl⟩, (show N1.toNat - (k + 1) < N1.toNat - k by omega), ⟨rfl, rfl, rfl, rfl, rfl, rfl, trivial⟩, ⟨⟨rfl, rfl, trivial⟩, ⟨rfl, rfl, trivial⟩, ⟨rfl, rfl, trivial⟩, ⟨rfl, ?_, trivial⟩, ?_, trivial⟩, rfl⟩
          · rw [hsucc]; exact (congrArg (SV.osl 4 2 0) (by simp [uV]))
          · rw [hsucc, its_append]; rfl
        · obtain rfl := fin (by omega)
          conv => whnf
          rw [frz_its]
          rfl
      | some y =>
        have iy := (b2 _ (gt_mem hy)).2
        rw [hy] at cb hsucc more
        have d1 := fs_r1Of x ix
        have d2 := fs_r1Of y iy
        have d3 := fs_r2Add r x y (W64i ix) (W64i iy)
        have d4 := fs_r1Narrow (rAdd r x y) (rAdd_w (W64i ix) (W64i iy))
        obtain ⟨f, hf⟩ : ∃ f, fits (rAdd r x y) = f := ⟨_, rfl⟩
        rw [hf] at d4
        cases f
        · repeat' (conv => whnf); first
            | ((refine Or.inl ⟨by rfl, _, ca, ?_⟩))
            | ((refine Or.inl ⟨by rfl, _, cb, ?_⟩))
            | ((refine Or.inl ⟨by rfl, _, d1, ?_⟩))
            | ((refine Or.inl ⟨by rfl, _, d2, ?_⟩))
            | ((refine Or.inl ⟨by rfl, _, d3, ?_⟩))
            | ((refine Or.inl ⟨by rfl, _, d4, ?_⟩))
            | ((refine Br.beq (by rfl) ?_))
            | ((refine Br.bne (by rfl) ?_))
            | ((refine And.intro (Or.inl (Nat.zero_le _)) ?_))
            | ((refine And.intro (by intro y hy; simp at hy; subst hy; rfl) ?_))
            | (refine Br.tt ?_)
            | (refine Br.ff ?_)
            | (refine Br.dec (fun h => ?_) (fun h => ?_)) <;> try (exfalso; omega)
            | (refine Br.neg ?_)
            | (refine Br.mk (fun h => ?_) (fun h => ?_))
            | (refine And.intro rfl ?_)
            | (refine And.intro (by omega) ?_)
            | (refine ⟨_, Or.inl ⟨⟨by omega, by omega⟩, rfl⟩, ?_⟩)
            | (refine And.intro (by simp only [lens_all, its_len]; first | done | omega) ?_)
            | (refine And.intro (Nat.le_refl _) ?_)
            | fail
          · have : t = (0, [], 12) := by
              rw [← ht, if_pos (any_lt' (i := k) (by omega) (by rw [hx, hy]; show (!fits (rAdd r x y)) = true; rw [hf]; rfl))]
            subst this
            exact ⟨⟨rfl, rfl, trivial⟩, rfl, trivial⟩
          · obtain rfl := fin (by omega)
            conv => whnf
            rw [frz_its]
            rfl
        · repeat' (conv => whnf); first
            | ((refine Or.inl ⟨by rfl, _, ca, ?_⟩))
            | ((refine Or.inl ⟨by rfl, _, cb, ?_⟩))
            | ((refine Or.inl ⟨by rfl, _, d1, ?_⟩))
            | ((refine Or.inl ⟨by rfl, _, d2, ?_⟩))
            | ((refine Or.inl ⟨by rfl, _, d3, ?_⟩))
            | ((refine Or.inl ⟨by rfl, _, d4, ?_⟩))
            | ((refine Br.beq (by rfl) ?_))
            | ((refine Br.bne (by rfl) ?_))
            | ((refine And.intro (Or.inl (Nat.zero_le _)) ?_))
            | ((refine And.intro (by intro y hy; simp at hy; subst hy; rfl) ?_))
            | (refine Br.tt ?_)
            | (refine Br.ff ?_)
            | (refine Br.dec (fun h => ?_) (fun h => ?_)) <;> try (exfalso; omega)
            | (refine Br.neg ?_)
            | (refine Br.mk (fun h => ?_) (fun h => ?_))
            | (refine And.intro rfl ?_)
            | (refine And.intro (by omega) ?_)
            | (refine ⟨_, Or.inl ⟨⟨by omega, by omega⟩, rfl⟩, ?_⟩)
            | (refine And.intro (by simp only [lens_all, its_len]; first | done | omega) ?_)
            | (refine And.intro (Nat.le_refl _) ?_)
            | fail
          · refine ⟨k + 1, ⟨by omega, more (by show (!fits (rAdd r x y)) = false; rw [hf]; rfl)⟩, (show N1.toNat - (k + 1) < N1.toNat - k by omega), ⟨rfl, rfl, rfl, rfl, rfl, rfl, trivial⟩, ⟨⟨rfl, rfl, trivial⟩, ⟨rfl, rfl, trivial⟩, ⟨rfl, rfl, trivial⟩, ⟨rfl, ?_, trivial⟩, ?_, trivial⟩, rfl⟩
            · rw [hsucc]; exact (congrArg (SV.osl 4 2 0) (by simp [uV]))
            · rw [hsucc, its_append]; rfl
          · obtain rfl := fin (by omega)
            conv => whnf
            rw [frz_its]
            rfl
  · rw [if_neg hN] at ht
    subst ht
    repeat' (conv => whnf); first
      | ((refine Or.inl ⟨by rfl, _, c1, ?_⟩))
      | ((refine Or.inl ⟨by rfl, _, c2, ?_⟩))
      | ((refine Or.inl ⟨by rfl, _, ci, ?_⟩))
      | ((refine Br.beq (by rfl) ?_))
      | ((refine Br.bne (by rfl) ?_))
      | ((refine And.intro (Or.inl (Nat.zero_le _)) ?_))
      | ((refine And.intro (by intro y hy; simp at hy; subst hy; rfl) ?_))
      | (refine Br.tt ?_)
      | (refine Br.ff ?_)
      | (refine Br.dec (fun h => ?_) (fun h => ?_)) <;> try (exfalso; omega)
      | (refine Br.neg ?_)
      | (refine Br.mk (fun h => ?_) (fun h => ?_))
      | (refine And.intro rfl ?_)
      | (refine And.intro (by omega) ?_)
      | (refine ⟨_, Or.inl ⟨⟨by omega, by omega⟩, rfl⟩, ?_⟩)
      | (refine And.intro (by simp only [lens_all]; first | done | omega) ?_)
      | (refine And.intro (Nat.le_refl _) ?_)
      | fail
    exact ⟨⟨rfl, rfl, trivial⟩, rfl, trivial⟩
end
section
open Go.RowKit
attribute [local irreducible] FS FO IT HS

/-- An item of the first k more. -/
theorem vtake_more {l : List (Int × Int)} {k : Nat} (h : k < l.length) : l.take (k + 1) = l.take k ++ [l.getD k (0, 0)] := by
  rw [List.take_add_one, getD_some h]; rfl
theorem mem_getD {l : List (Int × Int)} {k : Nat} (h : k < l.length) : l.getD k (0, 0) ∈ l := List.mem_of_getElem? (getD_some h)

theorem fm_one (f : Int × Int → Option (Int × Int)) (x : Int × Int) : [x].filterMap f = (f x).toList := by cases h : f x <;> simp [h]
end
section
open Go.RowKit
attribute [local irreducible] FS FO IT HS

/-- One item more: what is put out, and whether the new item has been. -/
def pStep (p v : Int) (s : List (Int × Int) × Bool) (x : Int × Int) : List (Int × Int) × Bool :=
  (let o := if s.2 = false ∧ p ≤ x.1 then s.1 ++ [(p, v)] else s.1
   if x.1 = p then o else o ++ [x], s.2 || decide (p ≤ x.1))
def pEnd (p v : Int) (s : List (Int × Int) × Bool) : List (Int × Int) := if s.2 = true then s.1 else s.1 ++ [(p, v)]
def putR (n : Int) (l : List (Int × Int)) (p v : Int) : List (Int × Int) := pEnd p v (l.foldl (pStep p v) ([], decide (p < 0) || decide (n ≤ p)))
theorem pStep_a {p v : Int} {o : List (Int × Int)} {x : Int × Int} (h : p ≤ x.1) (h' : x.1 ≠ p) : pStep p v (o, false) x = (o ++ [(p, v)] ++ [x], true) := by simp [pStep, h, h']
theorem pStep_b {p v : Int} {o : List (Int × Int)} {x : Int × Int} (h : x.1 = p) : pStep p v (o, false) x = (o ++ [(p, v)], true) := by simp [pStep, h]
theorem pStep_c {p v : Int} {o : List (Int × Int)} {x : Int × Int} (h : ¬ p ≤ x.1) : pStep p v (o, false) x = (o ++ [x], false) := by
  have : ¬ x.1 = p := by omega
  simp [pStep, h, this]
theorem pStep_d {p v : Int} {o : List (Int × Int)} {x : Int × Int} (h : x.1 ≠ p) : pStep p v (o, true) x = (o ++ [x], true) := by simp [pStep, h]
theorem pStep_e {p v : Int} {o : List (Int × Int)} {x : Int × Int} (h : x.1 = p) : pStep p v (o, true) x = (o, true) := by simp [pStep, h]
end
section
open Go.RowKit
attribute [local irreducible] FS FO IT HS

/-- A vector that can be. -/
structure OkV (n : Int) (l : List (Int × Int)) : Prop where
  n0 : 0 ≤ n
  n1 : n ≤ 4096
  up : Up l
  lo : ∀ x ∈ l, 0 ≤ x.1 ∧ x.1 < n
theorem okV (n : Int) (l : List (Int × Int)) : OkV (sn n l) (sl n l) := ⟨(sn_le n l).1, (sn_le n l).2, (sl_up n l).1, (sl_up n l).2⟩
theorem ups_of {n : Int} : ∀ {l : List (Int × Int)} {k : Int}, Up l → (∀ x ∈ l, k < x.1 ∧ x.1 < n) → ups n k l = true
  | [], _, _, _ => rfl
  | x :: xs, k, h, hk => by
    have h1 := hk x (by simp)
    simp only [ups, Bool.and_eq_true]
    refine ⟨?_, ups_of h.tail fun y hy => ⟨h.head y hy, (hk y (by simp [hy])).2⟩⟩
    rw [decide_eq_false (by omega), decide_eq_false (by omega)]; rfl
theorem OkV.isV {n : Int} {l : List (Int × Int)} (h : OkV n l) : isV n l = true := by
  unfold Go.Proofs.Ytlbmjnammgffiaa.isV
  rw [decide_eq_true h.n0, decide_eq_true h.n1, ups_of h.up fun x hx => by have := h.lo x hx; omega]; rfl
theorem OkV.sn {n : Int} {l : List (Int × Int)} (h : OkV n l) : sn n l = n := if_pos h.isV
theorem OkV.sl {n : Int} {l : List (Int × Int)} (h : OkV n l) : sl n l = l := if_pos h.isV
theorem OkV.out {n : Int} {l : List (Int × Int)} (h : OkV n l) {k : Int} (hk : ¬ (0 ≤ k ∧ k < n)) : gt l k = none := gt_none fun x hx e => hk (e ▸ h.lo x hx)
theorem OkV.at {n : Int} {l : List (Int × Int)} (h : OkV n l) {k v : Int} (hk : gt l k = some v) : 0 ≤ k ∧ k < n := h.lo _ (gt_mem hk)

theorem gt_fm {f : Int × Int → Option (Int × Int)} (hf : ∀ x y, f x = some y → y.1 = x.1) : ∀ {l : List (Int × Int)}, Up l → ∀ k, gt (l.filterMap f) k = (gt l k).bind fun v => (f (k, v)).map (·.2)
  | [], _, k => rfl
  | x :: xs, h, k => by
    rw [List.filterMap_cons, gt_cons]
    have ih := gt_fm hf h.tail k
    have hn : x.1 = k → gt (xs.filterMap f) k = none := fun e => gt_none fun z hz => by
      obtain ⟨w, hw, hz⟩ := List.mem_filterMap.1 hz
      have := h.head w hw
      rw [hf w z hz]; omega
    have hx' : x.1 = k → (k, x.2) = x := fun e => by rw [← e]
    cases hx : f x with
    | none =>
      by_cases hk : x.1 = k
      · rw [if_pos hk, Option.bind_some, hx' hk, hx]; simpa using hn hk
      · rw [if_neg hk]; exact ih
    | some y =>
      simp only []
      rw [gt_cons, hf x y hx]
      by_cases hk : x.1 = k
      · rw [if_pos hk, if_pos hk, Option.bind_some, hx' hk, hx]; rfl
      · rw [if_neg hk, if_neg hk]; exact ih
/-- A table of places. -/
def tabL (g : Int → Option Int) (m : Nat) : List (Int × Int) := (List.range m).filterMap fun (i : Nat) => (g (i : Int)).map fun v => ((i : Int), v)
theorem tabL_succ (g : Int → Option Int) (m : Nat) : tabL g (m + 1) = tabL g m ++ ((g (m : Int)).map fun v => ((m : Int), v)).toList := by
  unfold tabL
  rw [List.range_succ, List.filterMap_append]
  congr 1
theorem tabL_mem {g : Int → Option Int} {m : Nat} {x : Int × Int} (h : x ∈ tabL g m) : 0 ≤ x.1 ∧ x.1 < m ∧ g x.1 = some x.2 := by
  obtain ⟨i, hi, h⟩ := List.mem_filterMap.1 h
  obtain ⟨v, hv, rfl⟩ := Option.map_eq_some_iff.1 h
  have := List.mem_range.1 hi
  exact ⟨by simp, by simp; omega, hv⟩
theorem up_tabL (g : Int → Option Int) : ∀ m, Up (tabL g m)
  | 0 => .nil
  | m + 1 => by
    rw [tabL_succ]
    refine List.pairwise_append.2 ⟨up_tabL g m, ?_, fun x hx y hy => ?_⟩
    · cases g (m : Int) <;> simp
    · have := (tabL_mem hx).2.1
      cases hg : g (m : Int) with
      | none => rw [hg] at hy; simp at hy
      | some v => rw [hg] at hy; simp at hy; subst hy; exact this
theorem gt_append {l m : List (Int × Int)} (k : Int) : gt (l ++ m) k = (gt l k).or (gt m k) := by
  unfold gt
  rw [List.find?_append]
  cases l.find? fun x => decide (x.1 = k) <;> simp
theorem gt_tabL (g : Int → Option Int) : ∀ (m : Nat) (k : Int), gt (tabL g m) k = if 0 ≤ k ∧ k < m then g k else none
  | 0, k => by rw [if_neg (by omega)]; rfl
  | m + 1, k => by
    rw [tabL_succ, gt_append, gt_tabL g m k]
    by_cases h : 0 ≤ k ∧ k < m
    · rw [if_pos h, if_pos (by omega)]
      cases hg : g k with
      | some v => rfl
      | none =>
        rw [Option.none_or]
        cases hm : g (m : Int) with
        | none => rfl
        | some v =>
          show gt [((m : Int), v)] k = none
          rw [gt_cons, if_neg (by show (m : Int) ≠ k; omega)]; rfl
    · rw [if_neg h, Option.none_or]
      by_cases h' : k = m
      · subst h'
        rw [if_pos (by omega)]
        cases hm : g (m : Int) with
        | none => rfl
        | some v => show gt [((m : Int), v)] (m : Int) = some v; rw [gt_cons, if_pos rfl]
      · rw [if_neg (by omega)]
        cases hm : g (m : Int) with
        | none => rfl
        | some v => show gt [((m : Int), v)] k = none; rw [gt_cons, if_neg (by show (m : Int) ≠ k; omega)]; rfl
section
variable {n : Int} {a b : List (Int × Int)} (ha : OkV n a) (hb : OkV n b)
include ha hb

/-- What comes of two: an error where it is one; else place by place. -/
theorem resM_err {c : Pr → Int × Bool × Int} {e : Int} (_he0 : e ≠ 0) (he : ∀ p, (c p).2.2 = 0 ∨ (c p).2.2 = e) (E : Option Int → Option Int → Bool) (hE : ∀ x y p, prOf x y = some p → ((c p).2.2 ≠ 0 ↔ E x y = true)) (hE0 : E none none = false) :
    resM c n a n b = if (List.range n.toNat).any (fun (i : Nat) => E (gt a (i : Int)) (gt b (i : Int))) = true then (0, [], e) else (n, itM c (mg a b), 0) := by
  unfold resM
  rw [if_pos rfl]
  have hum := up_mg ha.up hb.up
  cases hany : (List.range n.toNat).any (fun (i : Nat) => E (gt a (i : Int)) (gt b (i : Int))) with
  | true =>
    obtain ⟨i, hi, hEi⟩ := List.any_eq_true.1 hany
    have hg := gm_mg ha.up hb.up (i : Int)
    cases hp : prOf (gt a (i : Int)) (gt b (i : Int)) with
    | none =>
      exfalso
      cases hx : gt a (i : Int) <;> cases hy : gt b (i : Int) <;> rw [hx, hy] at hp hEi <;> simp [prOf] at hp
      rw [hE0] at hEi; cases hEi
    | some p =>
      rw [hp] at hg
      rw [erM_some (e := e) (fun q _ => he q.2) ⟨_, gm_mem hg, (hE _ _ p hp).2 hEi⟩]
      rfl
  | false =>
    rw [any_lt] at hany
    rw [erM_none fun q hq => ?_]
    · rfl
    · have hg := gm_mg ha.up hb.up q.1
      rw [gm_of_mem hum hq] at hg
      refine Classical.byContradiction fun hne => ?_
      have h1 := (hE _ _ q.2 hg.symm).1 hne
      have hr : 0 ≤ q.1 ∧ q.1 < n := by
        obtain ⟨h2, h3, _, _, h5⟩ := mg_mem _ _ _ _ hq
        rcases h5 with h | h
        · exact ha.lo _ (h2 h)
        · exact hb.lo _ (h3 h)
      have h4 := hany q.1.toNat (by omega)
      rw [show ((q.1.toNat : Nat) : Int) = q.1 by omega, h1] at h4
      cases h4

theorem gt_of_itM {c : Pr → Int × Bool × Int} (k : Int) : gt (itM c (mg a b)) k = (prOf (gt a k) (gt b k)).bind fun p => if (c p).2.1 = true then some (c p).1 else none := by
  rw [gt_itM (up_mg ha.up hb.up), gm_mg ha.up hb.up]

theorem itM_tab {c : Pr → Int × Bool × Int} {g : Int → Option Int} (h : ∀ k, 0 ≤ k → k < n → ((prOf (gt a k) (gt b k)).bind fun p => if (c p).2.1 = true then some (c p).1 else none) = g k) : itM c (mg a b) = tabL g n.toNat := by
  refine up_ext (up_itM (up_mg ha.up hb.up)) (up_tabL _ _) fun k => ?_
  rw [gt_of_itM ha hb, gt_tabL]
  by_cases hk : 0 ≤ k ∧ k < n
  · rw [if_pos (by have := ha.n0; omega), h k hk.1 hk.2]
  · rw [if_neg (by have := ha.n0; omega), ha.out hk, hb.out hk]; rfl

theorem un_eq {r : Int} : resM (unC r) n a n b = if (List.range n.toNat).any (fun (i : Nat) => uE r (gt a (i : Int)) (gt b (i : Int))) = true then (0, [], 12) else (n, ruL r a b n.toNat, 0) := by
  rw [resM_err ha hb (e := 12) (by omega) (fun p => ?_) (uE r) (fun x y p hp => ?_) rfl]
  · cases hany : (List.range n.toNat).any (fun (i : Nat) => uE r (gt a (i : Int)) (gt b (i : Int))) with
    | true => rfl
    | false =>
      rw [any_lt] at hany
      simp only [Bool.false_eq_true, if_false]
      rw [itM_tab ha hb (g := fun k => uV r (gt a k) (gt b k)) fun k h0 h1 => ?_]
      · rfl
      · have h2 := hany k.toNat (by omega)
        rw [show ((k.toNat : Nat) : Int) = k by omega] at h2
        cases hx : gt a k <;> cases hy : gt b k <;> rw [hx, hy] at h2 <;> simp [prOf, unC, uV, Pr.val]
        simp only [uE, Bool.not_eq_false'] at h2
        simp [nrw, h2]
  · unfold unC
    split
    · unfold nrw; simp only []; split <;> simp
    · exact .inl rfl
  · cases x <;> cases y <;> simp [prOf] at hp <;> subst hp <;> simp [unC, uE, nrw]

end

/-! ### What is put -/

def putI (p v : Int) : List (Int × Int) → List (Int × Int)
  | [] => [(p, v)]
  | x :: xs => if p ≤ x.1 then (p, v) :: (x :: xs).filter (fun y => decide (y.1 ≠ p)) else x :: putI p v xs
theorem fold_true (p v : Int) : ∀ (l o : List (Int × Int)), l.foldl (pStep p v) (o, true) = (o ++ l.filter (fun y => decide (y.1 ≠ p)), true)
  | [], o => by simp
  | x :: l, o => by
    rw [List.foldl_cons]
    by_cases h : x.1 = p
    · rw [pStep_e h, fold_true p v l]; simp [h]
    · rw [pStep_d h, fold_true p v l]; simp [h]
theorem fold_false (p v : Int) : ∀ (l o : List (Int × Int)), pEnd p v (l.foldl (pStep p v) (o, false)) = o ++ putI p v l
  | [], o => by simp [pEnd, putI]
  | x :: l, o => by
    rw [List.foldl_cons, putI]
    by_cases h : p ≤ x.1
    · rw [if_pos h]
      by_cases h' : x.1 = p
      · rw [pStep_b h', fold_true]; simp [pEnd, h']
      · rw [pStep_a h h', fold_true]; simp [pEnd, h']
    · rw [if_neg h, pStep_c h, fold_false p v l]; simp
theorem putR_in {n p v : Int} {l : List (Int × Int)} (h : 0 ≤ p ∧ p < n) : putR n l p v = putI p v l := by
  unfold putR
  rw [decide_eq_false (by omega), decide_eq_false (by omega)]
  exact (fold_false p v l []).trans (List.nil_append _)
theorem putR_out {n p v : Int} {l : List (Int × Int)} (h : ¬ (0 ≤ p ∧ p < n)) (hl : ∀ x ∈ l, 0 ≤ x.1 ∧ x.1 < n) : putR n l p v = l := by
  unfold putR
  have : (decide (p < 0) || decide (n ≤ p)) = true := by rw [Bool.or_eq_true, decide_eq_true_eq, decide_eq_true_eq]; omega
  rw [this, fold_true]
  simp only [pEnd, if_true, List.nil_append]
  rw [List.filter_eq_self]
  intro x hx
  have := hl x hx
  simp; omega
theorem putI_mem {p v : Int} : ∀ {l : List (Int × Int)} {x : Int × Int}, x ∈ putI p v l → x = (p, v) ∨ x ∈ l
  | [], x, h => by simpa [putI] using h
  | y :: l, x, h => by
    unfold putI at h
    split at h
    · rcases List.mem_cons.1 h with h | h
      · exact .inl h
      · exact .inr (List.mem_filter.1 h).1
    · rcases List.mem_cons.1 h with h | h
      · exact .inr (by simp [h])
      · exact (putI_mem h).imp id fun h => by simp [h]
theorem up_putI {p v : Int} : ∀ {l : List (Int × Int)}, Up l → Up (putI p v l)
  | [], _ => by simp [putI, Up]
  | y :: l, h => by
    unfold putI
    split
    · rename_i hp
      refine List.pairwise_cons.2 ⟨fun x hx => ?_, List.Pairwise.sublist List.filter_sublist h⟩
      obtain ⟨hx, hne⟩ := List.mem_filter.1 hx
      have hne : x.1 ≠ p := by simpa using hne
      rcases List.mem_cons.1 hx with rfl | hx
      · show p < x.1; omega
      · have := h.head x hx; show p < x.1; omega
    · rename_i hp
      refine List.pairwise_cons.2 ⟨fun x hx => ?_, up_putI h.tail⟩
      rcases putI_mem hx with rfl | hx
      · show y.1 < p; omega
      · exact h.head x hx
theorem OkV.put {n p v : Int} {l : List (Int × Int)} (h : OkV n l) : OkV n (putR n l p v) := by
  by_cases hp : 0 ≤ p ∧ p < n
  · rw [putR_in hp]
    refine ⟨h.n0, h.n1, up_putI h.up, fun x hx => ?_⟩
    rcases putI_mem hx with rfl | hx
    · exact hp
    · exact h.lo x hx
  · rw [putR_out hp h.lo]; exact h
theorem unR_eq (r n1 : Int) (l1 : List (Int × Int)) (n2 : Int) (l2 : List (Int × Int)) : unR r n1 l1 n2 l2 = ruR r (sn n1 l1) (sl n1 l1) (sn n2 l2) (sl n2 l2) := by
  unfold unR ruR
  have ha := okV n1 l1
  have hb := okV n2 l2
  generalize sn n1 l1 = N1 at *
  generalize sn n2 l2 = N2 at *
  by_cases hn : N1 = N2
  · subst hn; rw [un_eq ha hb, if_pos rfl]
  · unfold resM; rw [if_neg hn, if_neg hn]
end
section
open Go.RowKit
attribute [local irreducible] FS FO IT HS
end
end Go.Proofs.Ytlbmjnammgffiaa
