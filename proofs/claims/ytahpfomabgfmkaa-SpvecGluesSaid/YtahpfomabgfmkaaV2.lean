/- Sparse vectors: the document's functions. Two sparse vectors: the document's functions. Two sparse vectors: the document's functions, further. Sparse vectors: the document's Put; Over. Two sparse vectors: the program's answers are the document's. In plain words. The laws on two sparse vectors: what they call. -/
import Derived.Test.YtahpfomabgfmkaaV1
namespace Go.Proofs.Ytahpfomabgfmkaa
section
open Go.RowKit
attribute [local irreducible] FS FO IT HS

theorem its_is {l : List (Int × Int)} {q : Nat} {x : List SV} (h : (its l)[q]? = some x) {i : Nat} (hq : q = i) : x = [.int .i64 (l.getD i (0, 0)).1, .int .i64 (l.getD i (0, 0)).2] := by
  subst hq
  obtain ⟨y, hy, rfl⟩ := its_get h
  simp [hy]
theorem its_go {l : List (Int × Int)} {q : Nat} {i : Nat} {K : List SV → Prop} (hq : q = i) (h : K [.int .i64 (l.getD i (0, 0)).1, .int .i64 (l.getD i (0, 0)).2]) : ∀ x, (its l)[q]? = some x → K x := fun x hx => by rw [its_is hx hq]; exact h
theorem getD_some {l : List (Int × Int)} {i : Nat} (h : i < l.length) : l[i]? = some (l.getD i (0, 0)) := by simp [h]

def ir_fretworkref09_Right : IR :=
(.seq (.reg (⟨(some 1), .bx (.t 0), none⟩ ::⟨(some 2), .mv (.c (.bool false)), none⟩ :: [])) (.seq (.seq (.reg (⟨(some 4), .fa 0 (.t 1), none⟩ ::⟨(some 5), .ld 1 false (.t 4), none⟩ ::⟨(some 6), .bin .lss (.t 5) (.c (.int .i64 0)), none⟩ ::⟨(some 7), .mv (.t 6), none⟩ ::⟨(some 8), .fa 0 (.t 1), some (7, false)⟩ ::⟨(some 9), .ld 1 false (.t 8), some (7, false)⟩ ::⟨(some 10), .bin .gtr (.t 9) (.c (.int .i64 4096)), some (7, false)⟩ ::⟨(some 11), .pick (.t 7) (.c (.bool true)) (.t 10), none⟩ :: [])) (.cond (.t 11) (.seq (.reg (⟨(some 2), .mv (.c (.bool false)), none⟩ :: [])) .ret) .skip)) (.seq (.seq (.reg (⟨(some 3), .mv (.c (.int .i64 0)), none⟩ :: [])) (.block 0 (.loop (.seq (.seq (.reg (⟨(some 12), .mv (.t 3), none⟩ ::⟨(some 13), .fa 1 (.t 1), none⟩ ::⟨(some 14), .ld 1 false (.t 13), none⟩ ::⟨(some 15), .ln (.t 14), none⟩ ::⟨(some 16), .bin .lss (.t 12) (.t 15), none⟩ :: [])) (.cond (.t 16) .skip (.exit 0))) (.seq (.block 1 (.seq (.draw (⟨(some 19), .fa 1 (.t 1), none⟩ ::⟨(some 20), .ld 1 false (.t 19), none⟩ ::⟨(some 21), .mv (.t 3), none⟩ ::⟨(some 22), .ia 2 (.t 20) (.t 21), none⟩ ::⟨(some 23), .fa 0 (.t 22), none⟩ ::⟨(some 24), .ld 1 false (.t 23), none⟩ ::⟨(some 25), .bin .lss (.t 24) (.c (.int .i64 0)), none⟩ ::⟨(some 26), .mv (.t 25), none⟩ ::⟨(some 27), .fa 1 (.t 1), some (26, false)⟩ ::⟨(some 28), .ld 1 false (.t 27), some (26, false)⟩ ::⟨(some 29), .mv (.t 3), some (26, false)⟩ ::⟨(some 30), .ia 2 (.t 28) (.t 29), some (26, false)⟩ ::⟨(some 31), .fa 0 (.t 30), some (26, false)⟩ ::⟨(some 32), .ld 1 false (.t 31), some (26, false)⟩ ::⟨(some 33), .fa 0 (.t 1), some (26, false)⟩ ::⟨(some 34), .ld 1 false (.t 33), some (26, false)⟩ ::⟨(some 35), .bin .geq (.t 32) (.t 34), some (26, false)⟩ ::⟨(some 36), .pick (.t 26) (.c (.bool true)) (.t 35), none⟩ ::⟨(some 37), .mv (.t 36), none⟩ ::⟨(some 38), .mv (.t 3), some (37, false)⟩ ::⟨(some 39), .bin .gtr (.t 38) (.c (.int .i64 0)), some (37, false)⟩ ::⟨(some 40), .mv (.t 39), some (37, false)⟩ ::⟨(some 41), .fa 1 (.t 1), some (40, true)⟩ ::⟨(some 42), .ld 1 false (.t 41), some (40, true)⟩ ::⟨(some 43), .mv (.t 3), some (40, true)⟩ ::⟨(some 44), .ia 2 (.t 42) (.t 43), some (40, true)⟩ ::⟨(some 45), .fa 0 (.t 44), some (40, true)⟩ ::⟨(some 46), .ld 1 false (.t 45), some (40, true)⟩ ::⟨(some 47), .fa 1 (.t 1), some (40, true)⟩ ::⟨(some 48), .ld 1 false (.t 47), some (40, true)⟩ ::⟨(some 49), .mv (.t 3), some (40, true)⟩ ::⟨(some 50), .bin .sub (.t 49) (.c (.int .i64 1)), some (40, true)⟩ ::⟨(some 51), .ia 2 (.t 48) (.t 50), some (40, true)⟩ ::⟨(some 52), .fa 0 (.t 51), some (40, true)⟩ ::⟨(some 53), .ld 1 false (.t 52), some (40, true)⟩ :: []) (⟨(some 54), .bin .leq (.t 46) (.t 53), some (40, true)⟩ ::⟨(some 55), .pick (.t 40) (.t 54) (.c (.bool false)), some (37, false)⟩ ::⟨(some 56), .pick (.t 37) (.c (.bool true)) (.t 55), none⟩ :: [])) (.cond (.t 56) (.seq (.reg (⟨(some 2), .mv (.c (.bool false)), none⟩ :: [])) .ret) .skip))) (.reg (⟨(some 17), .mv (.t 3), none⟩ ::⟨(some 18), .bin .add (.t 17) (.c (.int .i64 1)), none⟩ ::⟨(some 3), .mv (.t 18), none⟩ :: []))))))) (.seq (.reg (⟨(some 2), .mv (.c (.bool true)), none⟩ :: [])) .ret))))
theorem cd_fretworkref09_Right : Code1 Try.prog 55 57 ir_fretworkref09_Right [.t 2] := ⟨Try.call55, _, _, Try.func55, rfl, by kernel_rfl, by kernel_rfl, by kernel_rfl, by kernel_rfl⟩

set_option maxHeartbeats 2000000 in
theorem fs_r9Right (n : Int) (l : List (Int × Int)) (hl : l.length ≤ 1000000000) : FS Try.prog 55 [VC n l] (.bool (isV n l)) := by
  refine fs_of_cvc mixed cd_fretworkref09_Right (by simp) ?_
  have hb := badAt_ups n l (-1) 0
  repeat' (conv => whnf); first
    | ((refine Br.beq (by rfl) ?_))
    | ((refine Br.bne (by rfl) ?_))
    | (refine Br.tt ?_)
    | (refine Br.ff ?_)
    | (refine Br.dec (fun h => ?_) (fun h => ?_)) <;> try (exfalso; omega)
    | (refine Br.neg ?_)
    | (refine Br.mk (fun h => ?_) (fun h => ?_))
    | (refine And.intro rfl ?_)
    | (refine And.intro (by omega) ?_)
    | (refine ⟨_, Or.inl ⟨⟨by omega, by omega⟩, rfl⟩, ?_⟩)
    | (refine And.intro (by simp only [lens_all, its_len]; first | done | omega) ?_)
    | (refine And.intro (Nat.le_refl _) ?_)
    | fail
  · show SV.bool false = SV.bool _
    have : isV n l = false := by unfold isV; rw [decide_eq_false (show ¬ 0 ≤ n by omega)]; rfl
    rw [this]
  · show SV.bool false = SV.bool _
    have : isV n l = false := by unfold isV; rw [decide_eq_false (show ¬ n ≤ 4096 by omega), Bool.and_false]; rfl
    rw [this]
  · have e : isV n l = ups n (-1) l := by
      have a1 : decide (0 ≤ n) = true := decide_eq_true (by omega)
      have a2 : decide (n ≤ 4096) = true := decide_eq_true (by omega)
      unfold isV; rw [a1, a2]; rfl
    rw [e]
    refine ⟨Nat, fun k => k ≤ l.length ∧ badAt n (lst (-1) l k) (l.drop k) k = badAt n (-1) l 0 ∧ (0 < k → 0 ≤ lst (-1) l k), fun k => [(1, .ptr 0 0 0 0), (3, .int .i64 (k : Int))], fun k => [.vars [.int .i64 n, IL l]], fun _ => none, fun k => l.length - k, ⟨0, ⟨by omega, rfl, by omega⟩, ⟨rfl, rfl, trivial⟩, ⟨⟨rfl, rfl, trivial⟩, trivial⟩, rfl⟩, fun k hk => ?_⟩
    obtain ⟨hk1, hk2, hk3⟩ := hk
    have hlen := its_len l
    have fin : ∀ (y : Int × Int), l[k]? = some y → (decide (y.1 ≤ lst (-1) l k) || decide (n ≤ y.1)) = true → ups n (-1) l = false := fun y hy hw => by
      rw [badAt_step n (-1) l k y hy, if_pos hw] at hk2
      rw [← hk2] at hb
      have : decide (0 ≤ (k : Int)) = true := decide_eq_true (by omega)
      rw [this] at hb
      cases h : ups n (-1) l
      · rfl
      · rw [h] at hb; cases hb
    have more : ∀ (y : Int × Int), l[k]? = some y → (decide (y.1 ≤ lst (-1) l k) || decide (n ≤ y.1)) = false → badAt n (lst (-1) l (k + 1)) (l.drop (k + 1)) (k + 1) = badAt n (-1) l 0 := fun y hy hw => by
      rw [badAt_step n (-1) l k y hy, if_neg (by rw [hw]; simp)] at hk2
      exact hk2
    have last : ∀ (y : Int × Int), l[k]? = some y → lst (-1) l (k + 1) = y.1 := fun y hy => by simp [lst, List.getD_eq_getElem?_getD, hy]
    cases k with
    | zero =>
      have el : lst (-1) l 0 = -1 := rfl
      rw [el] at fin more
      repeat' (conv => whnf); first
        | ((refine its_go (i := 0) (by omega) ?_))
        | ((refine Br.beq (by rfl) ?_))
        | ((refine Br.bne (by rfl) ?_))
        | (refine Br.tt ?_)
        | (refine Br.ff ?_)
        | (refine Br.dec (fun h => ?_) (fun h => ?_)) <;> try (exfalso; omega)
        | (refine Br.neg ?_)
        | (refine Br.mk (fun h => ?_) (fun h => ?_))
        | (refine And.intro rfl ?_)
        | (refine And.intro (by omega) ?_)
        | (refine ⟨_, Or.inl ⟨⟨by omega, by omega⟩, rfl⟩, ?_⟩)
        | (refine And.intro (by simp only [lens_all, its_len]; first | done | omega) ?_)
        | (refine And.intro (Nat.le_refl _) ?_)
        | fail
      all_goals first
        | (show SV.bool false = SV.bool _
           rw [fin _ (getD_some (by omega)) (by rw [Bool.or_eq_true, decide_eq_true_eq, decide_eq_true_eq]; omega)])
        | (refine ⟨1, ⟨by omega, more _ (getD_some (by omega)) (by rw [Bool.or_eq_false_iff, decide_eq_false_iff_not, decide_eq_false_iff_not]; omega), fun _ => by rw [last _ (getD_some (by omega))]; omega⟩, (show l.length - 1 < l.length - 0 by omega), ⟨rfl, rfl, trivial⟩, ⟨⟨rfl, rfl, trivial⟩, trivial⟩, rfl⟩)
        | (show SV.bool true = SV.bool _
           rw [List.drop_eq_nil_of_le (by omega)] at hk2
           rw [← hk2] at hb
           have hb' : false = !ups n (-1) l := hb
           cases hu : ups n (-1) l
           · rw [hu] at hb'; cases hb'
           · rfl)
    | succ k =>
      have el : lst (-1) l (k + 1) = (l.getD k (0, 0)).1 := rfl
      rw [el] at fin more hk3
      repeat' (conv => whnf); first
        | ((refine its_go (i := k + 1) (by omega) ?_))
        | ((refine its_go (i := k) (by omega) ?_))
        | ((refine Br.beq (by rfl) ?_))
        | ((refine Br.bne (by rfl) ?_))
        | (refine Br.tt ?_)
        | (refine Br.ff ?_)
        | (refine Br.dec (fun h => ?_) (fun h => ?_)) <;> try (exfalso; omega)
        | (refine Br.neg ?_)
        | (refine Br.mk (fun h => ?_) (fun h => ?_))
        | (refine And.intro rfl ?_)
        | (refine And.intro (by omega) ?_)
        | (refine ⟨_, Or.inl ⟨⟨by omega, by omega⟩, rfl⟩, ?_⟩)
        | (refine And.intro (by simp only [lens_all, its_len]; first | done | omega) ?_)
        | (refine And.intro (Nat.le_refl _) ?_)
        | fail
      all_goals first
        | (show SV.bool false = SV.bool _
           rw [fin _ (getD_some (by omega)) (by rw [Bool.or_eq_true, decide_eq_true_eq, decide_eq_true_eq]; omega)])
        | (refine ⟨k + 1 + 1, ⟨by omega, more _ (getD_some (by omega)) (by rw [Bool.or_eq_false_iff, decide_eq_false_iff_not, decide_eq_false_iff_not]; omega), fun _ => by rw [last _ (getD_some (by omega))]; omega⟩, (show l.length - (k + 1 + 1) < l.length - (k + 1) by omega), ⟨rfl, rfl, trivial⟩, ⟨⟨rfl, rfl, trivial⟩, trivial⟩, rfl⟩)
        | (show SV.bool true = SV.bool _
           rw [List.drop_eq_nil_of_le (by omega)] at hk2
           rw [← hk2] at hb
           have hb' : false = !ups n (-1) l := hb
           cases hu : ups n (-1) l
           · rw [hu] at hb'; cases hb'
           · rfl)

theorem eqi (neg : Bool) (a b c d : Int) : EqOk Try.prog neg 39 [.int .i64 a, .int .i64 b] [.int .i64 c, .int .i64 d] (match neg with | true => decide ((a, b) ≠ (c, d)) | false => decide ((a, b) = (c, d))) := by
  have h := eqok_flat (P := Try.prog) neg Try.underlying39 (by kernel_rfl) (by kernel_rfl) (ks := [.i64, .i64]) ⟨by decide, rfl, by kernel_rfl, by kernel_rfl, by kernel_rfl, by decide, rfl, by kernel_rfl, by kernel_rfl, by kernel_rfl, trivial⟩ (la := [a, b]) (lb := [c, d]) rfl rfl
  have e : ([a, b] = [c, d]) ↔ ((a, b) = (c, d)) := by simp
  have e2 : ([a, b] ≠ [c, d]) ↔ ((a, b) ≠ (c, d)) := not_congr e
  cases neg
  · simp only [decide_eq_decide.2 e] at h; exact h
  · simp only [decide_eq_decide.2 e2] at h; exact h

def ir_fretworkref07_SameItems : IR :=
(.seq (.reg (⟨(some 4), .mv (.c (.bool false)), none⟩ :: [])) (.seq (.seq (.reg (⟨(some 6), .mv (.t 0), none⟩ ::⟨(some 7), .ln (.t 6), none⟩ ::⟨(some 8), .mv (.t 1), none⟩ ::⟨(some 9), .ln (.t 8), none⟩ ::⟨(some 10), .bin .neq (.t 7) (.t 9), none⟩ :: [])) (.cond (.t 10) (.seq (.reg (⟨(some 4), .mv (.c (.bool false)), none⟩ :: [])) .ret) .skip)) (.seq (.seq (.reg (⟨(some 5), .mv (.c (.int .i64 0)), none⟩ :: [])) (.block 0 (.loop (.seq (.seq (.reg (⟨(some 11), .mv (.t 5), none⟩ ::⟨(some 12), .mv (.t 0), none⟩ ::⟨(some 13), .ln (.t 12), none⟩ ::⟨(some 14), .bin .lss (.t 11) (.t 13), none⟩ :: [])) (.cond (.t 14) .skip (.exit 0))) (.seq (.block 1 (.seq (.draw (⟨(some 17), .mv (.t 0), none⟩ ::⟨(some 18), .mv (.t 5), none⟩ ::⟨(some 19), .ia 2 (.t 17) (.t 18), none⟩ ::⟨(some 20), .ld 2 true (.t 19), none⟩ ::⟨(some 21), .mv (.t 1), none⟩ ::⟨(some 22), .mv (.t 5), none⟩ ::⟨(some 23), .ia 2 (.t 21) (.t 22), none⟩ ::⟨(some 24), .ld 2 true (.t 23), none⟩ :: []) (⟨(some 25), .eqv true 39 (.t 20) (.t 24), none⟩ :: [])) (.cond (.t 25) (.seq (.reg (⟨(some 4), .mv (.c (.bool false)), none⟩ :: [])) .ret) .skip))) (.reg (⟨(some 15), .mv (.t 5), none⟩ ::⟨(some 16), .bin .add (.t 15) (.c (.int .i64 1)), none⟩ ::⟨(some 5), .mv (.t 16), none⟩ :: []))))))) (.seq (.reg (⟨(some 4), .mv (.c (.bool true)), none⟩ :: [])) .ret))))
theorem cd_fretworkref07_SameItems : Code1 Try.prog 69 26 ir_fretworkref07_SameItems [.t 4] := ⟨Try.call69, _, _, Try.func69, rfl, by kernel_rfl, by kernel_rfl, by kernel_rfl, by kernel_rfl⟩

theorem fs_SameItems (l m : List (Int × Int)) (_hl : l.length ≤ 1000000000) (hm : m.length ≤ 1000000000) : FS Try.prog 69 [IL l, IL m] (.bool (decide (l = m))) := by
  refine fs_of_cvc mixed cd_fretworkref07_SameItems (by simp) ?_
  have h1 := its_len l
  have h2 := its_len m
  repeat' (conv => whnf); first
    | ((refine Br.beq (by rfl) ?_))
    | ((refine Br.bne (by rfl) ?_))
    | (refine Br.tt ?_)
    | (refine Br.ff ?_)
    | (refine Br.dec (fun h => ?_) (fun h => ?_)) <;> try (exfalso; omega)
    | (refine Br.neg ?_)
    | (refine Br.mk (fun h => ?_) (fun h => ?_))
    | (refine And.intro rfl ?_)
    | (refine And.intro (by omega) ?_)
    | (refine ⟨_, Or.inl ⟨⟨by omega, by omega⟩, rfl⟩, ?_⟩)
    | (refine And.intro (by simp only [lens_all, its_len]; first | done | omega) ?_)
    | (refine And.intro (Nat.le_refl _) ?_)
    | fail
  · show SV.bool false = SV.bool _
    have : l ≠ m := fun e => by subst e; omega
    simp [this]
  · have hlm : l.length = m.length := by omega
    refine ⟨Nat, fun k => k ≤ l.length ∧ l.take k = m.take k, fun k => [(0, IL l), (1, IL m), (5, .int .i64 (k : Int))], fun k => [], fun _ => none, fun k => l.length - k, ⟨0, ⟨by omega, rfl⟩, ⟨rfl, rfl, rfl, trivial⟩, trivial, rfl⟩, fun k hk => ?_⟩
    obtain ⟨hk1, hk2⟩ := hk
    repeat' (conv => whnf); first
      | ((refine its_go (i := k) (by omega) ?_))
      | ((refine ⟨_, eqi true _ _ _ _, ?_⟩))
      | ((refine Br.beq (by rfl) ?_))
      | ((refine Br.bne (by rfl) ?_))
      | (refine Br.tt ?_)
      | (refine Br.ff ?_)
      | (refine Br.dec (fun h => ?_) (fun h => ?_)) <;> try (exfalso; omega)
      | (refine Br.neg ?_)
      | (refine Br.mk (fun h => ?_) (fun h => ?_))
      | (refine And.intro rfl ?_)
      | (refine And.intro (by omega) ?_)
      | (refine ⟨_, Or.inl ⟨⟨by omega, by omega⟩, rfl⟩, ?_⟩)
      | (refine And.intro (by simp only [lens_all]; first | done | omega) ?_)
      | (refine And.intro (Nat.le_refl _) ?_)
      | fail
    · show SV.bool false = SV.bool _
      have : l ≠ m := fun e => by subst e; exact h rfl
      simp [this]
    · have hkl : k < l.length := by omega
      have heq : l.getD k (0, 0) = m.getD k (0, 0) := Classical.not_not.1 h
      refine ⟨k + 1, ⟨by omega, ?_⟩, (show l.length - (k + 1) < l.length - k by omega), ⟨rfl, rfl, rfl, trivial⟩, trivial, rfl⟩
      rw [List.take_add_one, List.take_add_one, hk2, getD_some hkl, getD_some (l := m) (by omega), heq]
    · have hkl : k = l.length := by omega
      subst hkl
      rw [List.take_length, hlm, List.take_length] at hk2
      show SV.bool true = SV.bool _
      simp [hk2]

def ir_fretworkref09_Same : IR :=
(.seq (.reg (⟨(some 2), .bx (.t 0), none⟩ ::⟨(some 3), .bx (.t 1), none⟩ ::⟨(some 4), .mv (.c (.bool false)), none⟩ :: [])) (.seq (.reg (⟨(some 5), .fa 0 (.t 2), none⟩ ::⟨(some 6), .ld 1 false (.t 5), none⟩ ::⟨(some 7), .fa 0 (.t 3), none⟩ ::⟨(some 8), .ld 1 false (.t 7), none⟩ ::⟨(some 9), .bin .eql (.t 6) (.t 8), none⟩ ::⟨(some 10), .mv (.t 9), none⟩ ::⟨(some 11), .fa 1 (.t 2), some (10, true)⟩ ::⟨(some 12), .ld 1 false (.t 11), some (10, true)⟩ ::⟨(some 13), .fa 1 (.t 3), some (10, true)⟩ ::⟨(some 14), .ld 1 false (.t 13), some (10, true)⟩ ::⟨(some 15), .call (.c (.fn 69 [])) [(.t 12), (.t 14)], some (10, true)⟩ ::⟨(some 16), .pick (.t 10) (.t 15) (.c (.bool false)), none⟩ ::⟨(some 4), .mv (.t 16), none⟩ :: [])) .ret))
theorem cd_fretworkref09_Same : Code1 Try.prog 19 17 ir_fretworkref09_Same [.t 4] := ⟨Try.call19, _, _, Try.func19, rfl, by kernel_rfl, by kernel_rfl, by kernel_rfl, by kernel_rfl⟩

theorem fs_r9Same (n p : Int) (l m : List (Int × Int)) (hl : l.length ≤ 1000000000) (hm : m.length ≤ 1000000000) : FS Try.prog 19 [VC n l, VC p m] (.bool (decide (n = p) && decide (l = m))) := by
  refine fs_of_cvc mixed cd_fretworkref09_Same (by simp) ?_
  repeat' (conv => whnf); first
    | ((refine Or.inl ⟨by rfl, _, fs_SameItems l m hl hm, ?_⟩))
    | ((refine Br.beq (by rfl) ?_))
    | ((refine Br.bne (by rfl) ?_))
    | (refine Br.tt ?_)
    | (refine Br.ff ?_)
    | (refine Br.dec (fun h => ?_) (fun h => ?_)) <;> try (exfalso; omega)
    | (refine Br.neg ?_)
    | (refine Br.mk (fun h => ?_) (fun h => ?_))
    | (refine And.intro rfl ?_)
    | (refine And.intro (by omega) ?_)
    | (refine ⟨_, Or.inl ⟨⟨by omega, by omega⟩, rfl⟩, ?_⟩)
    | (refine And.intro (by simp only [lens_all, its_len]; first | done | omega) ?_)
    | (refine And.intro (Nat.le_refl _) ?_)
    | fail
  all_goals (show SV.bool _ = SV.bool _; simp [*])

def ir_fretworkref09_Sure : IR :=
(.seq (.reg (⟨(some 1), .bx (.t 0), none⟩ ::⟨(some 2), .al [.int .i64 0, .nils], none⟩ :: [])) (.seq (.seq (.reg (⟨(some 3), .ld 2 true (.t 1), none⟩ ::⟨(some 4), .call (.c (.fn 55 [])) [(.t 3)], none⟩ :: [])) (.cond (.t 4) (.seq (.reg (⟨(some 5), .ld 2 true (.t 1), none⟩ ::⟨none, .st 2 (.t 2) (.t 5), none⟩ :: [])) .ret) .skip)) (.seq (.reg (⟨(some 6), .bld [.int .i64 0, .nils] [], none⟩ ::⟨none, .st 2 (.t 2) (.t 6), none⟩ :: [])) .ret)))
theorem cd_fretworkref09_Sure : Code1 Try.prog 76 7 ir_fretworkref09_Sure [.c 2 true 2] := ⟨Try.call76, _, _, Try.func76, rfl, by kernel_rfl, by kernel_rfl, by kernel_rfl, by kernel_rfl⟩

theorem fs_r9Sure (n : Int) (l : List (Int × Int)) (hl : l.length ≤ 1000000000) : FS Try.prog 76 [VC n l] (VC (sn n l) (sl n l)) := by
  refine fs_of_cvc mixed cd_fretworkref09_Sure (by simp) ?_
  obtain ⟨b, hb⟩ : ∃ b, isV n l = b := ⟨_, rfl⟩
  have c := fs_r9Right n l hl
  rw [hb] at c
  unfold sn sl
  rw [hb]
  repeat' (conv => whnf); first
    | ((refine Or.inl ⟨by rfl, _, c, ?_⟩))
    | ((refine Br.beq (by rfl) ?_))
    | ((refine Br.bne (by rfl) ?_))
    | (refine Br.tt ?_)
    | (refine Br.ff ?_)
    | (refine Br.dec (fun h => ?_) (fun h => ?_)) <;> try (exfalso; omega)
    | (refine Br.neg ?_)
    | (refine Br.mk (fun h => ?_) (fun h => ?_))
    | (refine And.intro rfl ?_)
    | (refine And.intro (by omega) ?_)
    | (refine ⟨_, Or.inl ⟨⟨by omega, by omega⟩, rfl⟩, ?_⟩)
    | (refine And.intro (by simp only [lens_all]; first | done | omega) ?_)
    | (refine And.intro (Nat.le_refl _) ?_)
    | fail
  · subst h; exact rfl
  · subst h; exact ⟨rfl, rfl, trivial⟩
end
section
open Go.RowKit
attribute [local irreducible] FS FO IT HS
end
section
open Go.RowKit
attribute [local irreducible] FS FO IT HS

/-- An item of the first k more. -/
theorem vtake_more {l : List (Int × Int)} {k : Nat} (h : k < l.length) : l.take (k + 1) = l.take k ++ [l.getD k (0, 0)] := by
  rw [List.take_add_one, getD_some h]; rfl
end
section
open Go.RowKit
attribute [local irreducible] FS FO IT HS

/-- One item more: what is put out, and whether the new item has been. -/
def pStep (p v : Int) (s : List (Int × Int) × Bool) (x : Int × Int) : List (Int × Int) × Bool :=
  (let o := if s.2 = false ∧ p ≤ x.1 then s.1 ++ [(p, v)] else s.1
   if x.1 = p then o else o ++ [x], s.2 || decide (p ≤ x.1))
def pEnd (p v : Int) (s : List (Int × Int) × Bool) : List (Int × Int) := if s.2 = true then s.1 else s.1 ++ [(p, v)]
def putR (n : Int) (l : List (Int × Int)) (p v : Int) : List (Int × Int) := pEnd p v (l.foldl (pStep p v) ([], decide (p < 0) || decide (n ≤ p)))
theorem pStep_a {p v : Int} {o : List (Int × Int)} {x : Int × Int} (h : p ≤ x.1) (h' : x.1 ≠ p) : pStep p v (o, false) x = (o ++ [(p, v)] ++ [x], true) := by simp [pStep, h, h']
theorem pStep_b {p v : Int} {o : List (Int × Int)} {x : Int × Int} (h : x.1 = p) : pStep p v (o, false) x = (o ++ [(p, v)], true) := by simp [pStep, h]
theorem pStep_c {p v : Int} {o : List (Int × Int)} {x : Int × Int} (h : ¬ p ≤ x.1) : pStep p v (o, false) x = (o ++ [x], false) := by
  have : ¬ x.1 = p := by omega
  simp [pStep, h, this]
theorem pStep_d {p v : Int} {o : List (Int × Int)} {x : Int × Int} (h : x.1 ≠ p) : pStep p v (o, true) x = (o ++ [x], true) := by simp [pStep, h]
theorem pStep_e {p v : Int} {o : List (Int × Int)} {x : Int × Int} (h : x.1 = p) : pStep p v (o, true) x = (o, true) := by simp [pStep, h]
theorem foldl_more {α : Type} {f : α → Int × Int → α} {z : α} {l : List (Int × Int)} {k : Nat} (h : k < l.length) : (l.take (k + 1)).foldl f z = f ((l.take k).foldl f z) (l.getD k (0, 0)) := by
  rw [vtake_more h, List.foldl_append]; rfl

def ir_fretworkref09_Put : IR :=
(.seq (.reg (⟨(some 3), .bx (.t 0), none⟩ ::⟨(some 6), .al [.int .i64 0, .nils], none⟩ :: [])) (.seq (.reg (⟨(some 10), .ld 2 true (.t 3), none⟩ ::⟨(some 11), .call (.c (.fn 76 [])) [(.t 10)], none⟩ ::⟨none, .st 2 (.t 3) (.t 11), none⟩ :: [])) (.seq (.reg (⟨(some 12), .fa 0 (.t 3), none⟩ ::⟨(some 13), .ld 1 false (.t 12), none⟩ ::⟨(some 14), .bld [.int .i64 0, .nils] [(0, 1, (.t 13))], none⟩ ::⟨(some 7), .al [.int .i64 0, .nils], none⟩ ::⟨none, .st 2 (.t 7) (.t 14), none⟩ :: [])) (.seq (.reg (⟨(some 15), .mv (.t 1), none⟩ ::⟨(some 16), .bin .lss (.t 15) (.c (.int .i64 0)), none⟩ ::⟨(some 17), .mv (.t 16), none⟩ ::⟨(some 18), .mv (.t 1), some (17, false)⟩ ::⟨(some 19), .fa 0 (.t 3), some (17, false)⟩ ::⟨(some 20), .ld 1 false (.t 19), some (17, false)⟩ ::⟨(some 21), .bin .geq (.t 18) (.t 20), some (17, false)⟩ ::⟨(some 22), .pick (.t 17) (.c (.bool true)) (.t 21), none⟩ ::⟨(some 8), .mv (.t 22), none⟩ :: [])) (.seq (.seq (.reg (⟨(some 9), .mv (.c (.int .i64 0)), none⟩ :: [])) (.block 0 (.loop (.seq (.seq (.reg (⟨(some 23), .mv (.t 9), none⟩ ::⟨(some 24), .fa 1 (.t 3), none⟩ ::⟨(some 25), .ld 1 false (.t 24), none⟩ ::⟨(some 26), .ln (.t 25), none⟩ ::⟨(some 27), .bin .lss (.t 23) (.t 26), none⟩ :: [])) (.cond (.t 27) .skip (.exit 0))) (.seq (.block 1 (.seq (.seq (.reg (⟨(some 30), .mv (.t 8), none⟩ ::⟨(some 31), .un .not (.t 30), none⟩ ::⟨(some 32), .mv (.t 31), none⟩ ::⟨(some 33), .fa 1 (.t 3), some (32, true)⟩ ::⟨(some 34), .ld 1 false (.t 33), some (32, true)⟩ ::⟨(some 35), .mv (.t 9), some (32, true)⟩ ::⟨(some 36), .ia 2 (.t 34) (.t 35), some (32, true)⟩ ::⟨(some 37), .fa 0 (.t 36), some (32, true)⟩ ::⟨(some 38), .ld 1 false (.t 37), some (32, true)⟩ ::⟨(some 39), .mv (.t 1), some (32, true)⟩ ::⟨(some 40), .bin .geq (.t 38) (.t 39), some (32, true)⟩ ::⟨(some 41), .pick (.t 32) (.t 40) (.c (.bool false)), none⟩ :: [])) (.cond (.t 41) (.seq (.reg (⟨(some 42), .fa 1 (.t 7), none⟩ ::⟨(some 43), .ld 1 false (.t 42), none⟩ ::⟨(some 44), .mv (.t 1), none⟩ ::⟨(some 45), .mv (.t 2), none⟩ ::⟨(some 46), .bld [.int .i64 0, .int .i64 0] [(0, 1, (.t 44)), (1, 1, (.t 45))], none⟩ ::⟨(some 47), .bsl 1 2 [.int .i64 0, .int .i64 0] [(0, (.t 46))], none⟩ ::⟨(some 48), .ap 2 16 (.t 43) (.t 47), none⟩ ::⟨(some 49), .fa 1 (.t 7), none⟩ ::⟨none, .st 1 (.t 49) (.t 48), none⟩ :: [])) (.reg (⟨(some 8), .mv (.c (.bool true)), none⟩ :: []))) .skip)) (.seq (.reg (⟨(some 50), .fa 1 (.t 3), none⟩ ::⟨(some 51), .ld 1 false (.t 50), none⟩ ::⟨(some 52), .mv (.t 9), none⟩ ::⟨(some 53), .ia 2 (.t 51) (.t 52), none⟩ ::⟨(some 54), .fa 0 (.t 53), none⟩ ::⟨(some 55), .ld 1 false (.t 54), none⟩ ::⟨(some 56), .mv (.t 1), none⟩ ::⟨(some 57), .bin .neq (.t 55) (.t 56), none⟩ :: [])) (.cond (.t 57) (.draw (⟨(some 58), .fa 1 (.t 7), none⟩ ::⟨(some 59), .ld 1 false (.t 58), none⟩ ::⟨(some 60), .fa 1 (.t 3), none⟩ ::⟨(some 61), .ld 1 false (.t 60), none⟩ ::⟨(some 62), .mv (.t 9), none⟩ ::⟨(some 63), .ia 2 (.t 61) (.t 62), none⟩ ::⟨(some 64), .ld 2 true (.t 63), none⟩ ::⟨(some 65), .bsl 1 2 [.int .i64 0, .int .i64 0] [(0, (.t 64))], none⟩ :: []) (⟨(some 66), .ap 2 16 (.t 59) (.t 65), none⟩ ::⟨(some 67), .fa 1 (.t 7), none⟩ ::⟨none, .st 1 (.t 67) (.t 66), none⟩ :: [])) .skip)))) (.reg (⟨(some 28), .mv (.t 9), none⟩ ::⟨(some 29), .bin .add (.t 28) (.c (.int .i64 1)), none⟩ ::⟨(some 9), .mv (.t 29), none⟩ :: []))))))) (.seq (.seq (.reg (⟨(some 68), .mv (.t 8), none⟩ ::⟨(some 69), .un .not (.t 68), none⟩ :: [])) (.cond (.t 69) (.reg (⟨(some 70), .fa 1 (.t 7), none⟩ ::⟨(some 71), .ld 1 false (.t 70), none⟩ ::⟨(some 72), .mv (.t 1), none⟩ ::⟨(some 73), .mv (.t 2), none⟩ ::⟨(some 74), .bld [.int .i64 0, .int .i64 0] [(0, 1, (.t 72)), (1, 1, (.t 73))], none⟩ ::⟨(some 75), .bsl 1 2 [.int .i64 0, .int .i64 0] [(0, (.t 74))], none⟩ ::⟨(some 76), .ap 2 16 (.t 71) (.t 75), none⟩ ::⟨(some 77), .fa 1 (.t 7), none⟩ ::⟨none, .st 1 (.t 77) (.t 76), none⟩ :: [])) .skip)) (.seq (.reg (⟨(some 78), .ld 2 true (.t 7), none⟩ ::⟨none, .st 2 (.t 6) (.t 78), none⟩ :: [])) .ret)))))))
theorem cd_fretworkref09_Put : Code1 Try.prog 56 79 ir_fretworkref09_Put [.c 2 true 6] := ⟨Try.call56, _, _, Try.func56, rfl, by kernel_rfl, by kernel_rfl, by kernel_rfl, by kernel_rfl⟩

set_option maxHeartbeats 4000000 in
theorem fs_r9Put (n : Int) (l : List (Int × Int)) (p v : Int) (hl : l.length ≤ 900000000) : FS Try.prog 56 [VC n l, .int .i64 p, .int .i64 v] (VC (sn n l) (putR (sn n l) (sl n l) p v)) := by
  refine fs_of_cvc mixed cd_fretworkref09_Put (by simp) ?_
  have c1 := fs_r9Sure n l (by omega)
  have s1 := sl_len n l
  generalize sn n l = N1 at *
  generalize sl n l = a at *
  have hal := its_len a
  obtain ⟨d0, hd0⟩ : ∃ d0, (decide (p < 0) || decide (N1 ≤ p)) = d0 := ⟨_, rfl⟩
  have hd1 : p < 0 → true = d0 := fun h => by rw [← hd0, decide_eq_true h]; rfl
  have hd2 : ¬ p < 0 → decide (N1 ≤ p) = d0 := fun h => by rw [← hd0, decide_eq_false h]; rfl
  obtain ⟨t, ht⟩ : ∃ t, putR N1 a p v = t := ⟨_, rfl⟩
  rw [ht]
  unfold putR at ht
  rw [hd0] at ht
  repeat' (conv => whnf); first
    | ((refine Or.inl ⟨by rfl, _, c1, ?_⟩))
    | ((refine Br.beq (by rfl) ?_))
    | ((refine Br.bne (by rfl) ?_))
    | ((refine And.intro (Or.inl (Nat.zero_le _)) ?_))
    | ((refine And.intro (by intro y hy; simp at hy; subst hy; rfl) ?_))
    | (refine Br.tt ?_)
    | (refine Br.ff ?_)
    | (refine Br.dec (fun h => ?_) (fun h => ?_)) <;> try (exfalso; omega)
    | (refine Br.neg ?_)
    | (refine Br.mk (fun h => ?_) (fun h => ?_))
    | (refine And.intro rfl ?_)
    | (refine And.intro (by omega) ?_)
    | (refine ⟨_, Or.inl ⟨⟨by omega, by omega⟩, rfl⟩, ?_⟩)
    | (refine And.intro (by simp only [lens_all]; first | done | omega) ?_)
    | (refine And.intro (Nat.le_refl _) ?_)
    | fail
  all_goals
    refine ⟨Nat × List (Int × Int) × Bool, fun ⟨k, o, d⟩ => k ≤ a.length ∧ (a.take k).foldl (pStep p v) ([], d0) = (o, d) ∧ o.length ≤ k + d.toNat, fun ⟨k, o, d⟩ => [(1, .int .i64 p), (2, .int .i64 v), (3, .ptr 0 0 0 0), (6, .ptr 1 0 0 0), (7, .ptr 2 0 0 0), (8, .bool d), (9, .int .i64 (k : Int))], fun ⟨k, o, d⟩ => [.vars [.int .i64 N1, IL a], .vars [.int .i64 0, .nils], .vars [.int .i64 N1, .osl 3 2 0 o.length], .arr 2 (its o)], fun _ => none, fun ⟨k, o, d⟩ => a.length - k,
      ⟨(0, [], d0), ⟨Nat.zero_le _, rfl, Nat.zero_le _⟩, ⟨rfl, rfl, rfl, rfl, rfl, ?_, rfl, trivial⟩, ⟨⟨rfl, rfl, trivial⟩, ⟨rfl, rfl, trivial⟩, ⟨rfl, ⟨Nat.le_refl _, rfl, rfl⟩, trivial⟩, rfl, trivial⟩, rfl⟩, fun ⟨k, o, d⟩ hk => ?_⟩
    · first
        | exact congrArg SV.bool (hd1 (by omega))
        | exact congrArg SV.bool (hd2 (by omega))
    obtain ⟨hk1, hk2, hk3⟩ := hk
    have hol := its_len o
    by_cases hka : k < a.length
    · have hst := foldl_more (f := pStep p v) (z := ([], d0)) hka
      rw [hk2] at hst
      cases d
      · have hk3 : o.length ≤ k + 0 := hk3
        repeat' (conv => whnf); first
          | ((refine its_go (i := k) (by omega) ?_))
          | ((refine Br.beq (by rfl) ?_))
          | ((refine Br.bne (by rfl) ?_))
          | ((refine And.intro (Or.inl (Nat.zero_le _)) ?_))
          | ((refine And.intro (by intro y hy; simp at hy; subst hy; rfl) ?_))
          | (refine Br.tt ?_)
          | (refine Br.ff ?_)
          | (refine Br.dec (fun h => ?_) (fun h => ?_)) <;> try (exfalso; omega)
          | (refine Br.neg ?_)
          | (refine Br.mk (fun h => ?_) (fun h => ?_))
          | (refine And.intro rfl ?_)
          | (refine And.intro (by omega) ?_)
          | (refine ⟨_, Or.inl ⟨⟨by omega, by omega⟩, rfl⟩, ?_⟩)
          | (refine And.intro (by simp only [lens_all, its_len]; first | done | omega) ?_)
          | (refine And.intro (Nat.le_refl _) ?_)
          | fail
        · refine ⟨(k + 1, o ++ [(p, v)] ++ [a.getD k (0, 0)], true), ⟨by omega, hst.trans (pStep_a (by assumption) h), (show (o ++ [(p, v)] ++ [a.getD k (0, 0)]).length ≤ k + 1 + 1 by simp; omega)⟩, (show a.length - (k + 1) < a.length - k by omega), ⟨rfl, rfl, rfl, rfl, rfl, rfl, rfl, trivial⟩, ⟨⟨rfl, rfl, trivial⟩, ⟨rfl, rfl, trivial⟩, ⟨rfl, ?_, trivial⟩, ?_, trivial⟩, rfl⟩
          · exact congrArg (SV.osl 3 2 0) (by simp)
          · refine congrArg (Blk.arr 2) ?_; rw [its_append, its_append]; rfl
        · refine ⟨(k + 1, o ++ [(p, v)], true), ⟨by omega, hst.trans (pStep_b (by omega)), (show (o ++ [(p, v)]).length ≤ k + 1 + 1 by simp; omega)⟩, (show a.length - (k + 1) < a.length - k by omega), ⟨rfl, rfl, rfl, rfl, rfl, rfl, rfl, trivial⟩, ⟨⟨rfl, rfl, trivial⟩, ⟨rfl, rfl, trivial⟩, ⟨rfl, ?_, trivial⟩, ?_, trivial⟩, rfl⟩
          · exact congrArg (SV.osl 3 2 0) (by simp)
          · refine congrArg (Blk.arr 2) ?_; rw [its_append]; rfl
        · refine ⟨(k + 1, o ++ [a.getD k (0, 0)], false), ⟨by omega, hst.trans (pStep_c (by omega)), (show (o ++ [a.getD k (0, 0)]).length ≤ k + 1 + 0 by simp; omega)⟩, (show a.length - (k + 1) < a.length - k by omega), ⟨rfl, rfl, rfl, rfl, rfl, rfl, rfl, trivial⟩, ⟨⟨rfl, rfl, trivial⟩, ⟨rfl, rfl, trivial⟩, ⟨rfl, ?_, trivial⟩, ?_, trivial⟩, rfl⟩
          · exact congrArg (SV.osl 3 2 0) (by simp)
          · refine congrArg (Blk.arr 2) ?_; rw [its_append]; rfl
      · have hk3 : o.length ≤ k + 1 := hk3
        repeat' (conv => whnf); first
          | ((refine its_go (i := k) (by omega) ?_))
          | ((refine Br.beq (by rfl) ?_))
          | ((refine Br.bne (by rfl) ?_))
          | ((refine And.intro (Or.inl (Nat.zero_le _)) ?_))
          | ((refine And.intro (by intro y hy; simp at hy; subst hy; rfl) ?_))
          | (refine Br.tt ?_)
          | (refine Br.ff ?_)
          | (refine Br.dec (fun h => ?_) (fun h => ?_)) <;> try (exfalso; omega)
          | (refine Br.neg ?_)
          | (refine Br.mk (fun h => ?_) (fun h => ?_))
          | (refine And.intro rfl ?_)
          | (refine And.intro (by omega) ?_)
          | (refine ⟨_, Or.inl ⟨⟨by omega, by omega⟩, rfl⟩, ?_⟩)
          | (refine And.intro (by simp only [lens_all]; first | done | omega) ?_)
          | (refine And.intro (Nat.le_refl _) ?_)
          | fail
        · refine ⟨(k + 1, o ++ [a.getD k (0, 0)], true), ⟨by omega, hst.trans (pStep_d h), (show (o ++ [a.getD k (0, 0)]).length ≤ k + 1 + 1 by simp; omega)⟩, (show a.length - (k + 1) < a.length - k by omega), ⟨rfl, rfl, rfl, rfl, rfl, rfl, rfl, trivial⟩, ⟨⟨rfl, rfl, trivial⟩, ⟨rfl, rfl, trivial⟩, ⟨rfl, ?_, trivial⟩, ?_, trivial⟩, rfl⟩
          · exact congrArg (SV.osl 3 2 0) (by simp)
          · refine congrArg (Blk.arr 2) ?_; rw [its_append]; rfl
        · refine ⟨(k + 1, o, true), ⟨by omega, hst.trans (pStep_e (by omega)), (show o.length ≤ k + 1 + 1 by omega)⟩, (show a.length - (k + 1) < a.length - k by omega), ⟨rfl, rfl, rfl, rfl, rfl, rfl, rfl, trivial⟩, ⟨⟨rfl, rfl, trivial⟩, ⟨rfl, rfl, trivial⟩, ⟨rfl, ?_, trivial⟩, ?_, trivial⟩, rfl⟩
          · exact rfl
          · exact rfl
    · have hkn : a.take k = a := List.take_of_length_le (by omega)
      rw [hkn] at hk2
      rw [hk2] at ht
      cases d
      · have hk3 : o.length ≤ k + 0 := hk3
        have ht' : o ++ [(p, v)] = t := ht
        subst ht'
        repeat' (conv => whnf); first
          | ((refine Br.beq (by rfl) ?_))
          | ((refine Br.bne (by rfl) ?_))
          | ((refine And.intro (Or.inl (Nat.zero_le _)) ?_))
          | ((refine And.intro (by intro y hy; simp at hy; subst hy; rfl) ?_))
          | (refine Br.tt ?_)
          | (refine Br.ff ?_)
          | (refine Br.dec (fun h => ?_) (fun h => ?_)) <;> try (exfalso; omega)
          | (refine Br.neg ?_)
          | (refine Br.mk (fun h => ?_) (fun h => ?_))
          | (refine And.intro rfl ?_)
          | (refine And.intro (by omega) ?_)
          | (refine ⟨_, Or.inl ⟨⟨by omega, by omega⟩, rfl⟩, ?_⟩)
          | (refine And.intro (by simp only [lens_all, its_len]; first | done | omega) ?_)
          | (refine And.intro (Nat.le_refl _) ?_)
          | fail
        conv => whnf
        have e1 : its o ++ [[SV.int .i64 p, SV.int .i64 v]] = its (o ++ [(p, v)]) := by rw [its_append]; rfl
        have e2 : o.length + 1 = (o ++ [(p, v)]).length := by simp
        show SV.agg [.int .i64 N1, .slc 2 (List.take (o.length + 1) (List.drop 0 (its o ++ [[SV.int .i64 p, SV.int .i64 v]])))] = _
        rw [e1, e2, frz_its]
        rfl
      · have hk3 : o.length ≤ k + 1 := hk3
        have ht' : o = t := ht
        subst ht'
        repeat' (conv => whnf); first
          | ((refine Br.beq (by rfl) ?_))
          | ((refine Br.bne (by rfl) ?_))
          | ((refine And.intro (Or.inl (Nat.zero_le _)) ?_))
          | ((refine And.intro (by intro y hy; simp at hy; subst hy; rfl) ?_))
          | (refine Br.tt ?_)
          | (refine Br.ff ?_)
          | (refine Br.dec (fun h => ?_) (fun h => ?_)) <;> try (exfalso; omega)
          | (refine Br.neg ?_)
          | (refine Br.mk (fun h => ?_) (fun h => ?_))
          | (refine And.intro rfl ?_)
          | (refine And.intro (by omega) ?_)
          | (refine ⟨_, Or.inl ⟨⟨by omega, by omega⟩, rfl⟩, ?_⟩)
          | (refine And.intro (by simp only [lens_all]; first | done | omega) ?_)
          | (refine And.intro (Nat.le_refl _) ?_)
          | fail
        conv => whnf
        rw [frz_its]
        rfl
end
section
open Go.RowKit
attribute [local irreducible] FS FO IT HS

/-- A vector that can be. -/
structure OkV (n : Int) (l : List (Int × Int)) : Prop where
  n0 : 0 ≤ n
  n1 : n ≤ 4096
  up : Up l
  lo : ∀ x ∈ l, 0 ≤ x.1 ∧ x.1 < n
theorem okV (n : Int) (l : List (Int × Int)) : OkV (sn n l) (sl n l) := ⟨(sn_le n l).1, (sn_le n l).2, (sl_up n l).1, (sl_up n l).2⟩
theorem ups_of {n : Int} : ∀ {l : List (Int × Int)} {k : Int}, Up l → (∀ x ∈ l, k < x.1 ∧ x.1 < n) → ups n k l = true
  | [], _, _, _ => rfl
  | x :: xs, k, h, hk => by
    have h1 := hk x (by simp)
    simp only [ups, Bool.and_eq_true]
    refine ⟨?_, ups_of h.tail fun y hy => ⟨h.head y hy, (hk y (by simp [hy])).2⟩⟩
    rw [decide_eq_false (by omega), decide_eq_false (by omega)]; rfl
theorem OkV.isV {n : Int} {l : List (Int × Int)} (h : OkV n l) : isV n l = true := by
  unfold Go.Proofs.Ytahpfomabgfmkaa.isV
  rw [decide_eq_true h.n0, decide_eq_true h.n1, ups_of h.up fun x hx => by have := h.lo x hx; omega]; rfl
theorem OkV.sn {n : Int} {l : List (Int × Int)} (h : OkV n l) : sn n l = n := if_pos h.isV
theorem OkV.sl {n : Int} {l : List (Int × Int)} (h : OkV n l) : sl n l = l := if_pos h.isV
theorem OkV.out {n : Int} {l : List (Int × Int)} (h : OkV n l) {k : Int} (hk : ¬ (0 ≤ k ∧ k < n)) : gt l k = none := gt_none fun x hx e => hk (e ▸ h.lo x hx)
theorem OkV.at {n : Int} {l : List (Int × Int)} (h : OkV n l) {k v : Int} (hk : gt l k = some v) : 0 ≤ k ∧ k < n := h.lo _ (gt_mem hk)

theorem gt_append {l m : List (Int × Int)} (k : Int) : gt (l ++ m) k = (gt l k).or (gt m k) := by
  unfold gt
  rw [List.find?_append]
  cases l.find? fun x => decide (x.1 = k) <;> simp
section
variable {n : Int} {a b : List (Int × Int)} (ha : OkV n a) (hb : OkV n b)
include ha hb

end

/-! ### What is put -/

def putI (p v : Int) : List (Int × Int) → List (Int × Int)
  | [] => [(p, v)]
  | x :: xs => if p ≤ x.1 then (p, v) :: (x :: xs).filter (fun y => decide (y.1 ≠ p)) else x :: putI p v xs
theorem fold_true (p v : Int) : ∀ (l o : List (Int × Int)), l.foldl (pStep p v) (o, true) = (o ++ l.filter (fun y => decide (y.1 ≠ p)), true)
  | [], o => by simp
  | x :: l, o => by
    rw [List.foldl_cons]
    by_cases h : x.1 = p
    · rw [pStep_e h, fold_true p v l]; simp [h]
    · rw [pStep_d h, fold_true p v l]; simp [h]
theorem fold_false (p v : Int) : ∀ (l o : List (Int × Int)), pEnd p v (l.foldl (pStep p v) (o, false)) = o ++ putI p v l
  | [], o => by simp [pEnd, putI]
  | x :: l, o => by
    rw [List.foldl_cons, putI]
    by_cases h : p ≤ x.1
    · rw [if_pos h]
      by_cases h' : x.1 = p
      · rw [pStep_b h', fold_true]; simp [pEnd, h']
      · rw [pStep_a h h', fold_true]; simp [pEnd, h']
    · rw [if_neg h, pStep_c h, fold_false p v l]; simp
theorem putR_in {n p v : Int} {l : List (Int × Int)} (h : 0 ≤ p ∧ p < n) : putR n l p v = putI p v l := by
  unfold putR
  rw [decide_eq_false (by omega), decide_eq_false (by omega)]
  exact (fold_false p v l []).trans (List.nil_append _)
theorem putR_out {n p v : Int} {l : List (Int × Int)} (h : ¬ (0 ≤ p ∧ p < n)) (hl : ∀ x ∈ l, 0 ≤ x.1 ∧ x.1 < n) : putR n l p v = l := by
  unfold putR
  have : (decide (p < 0) || decide (n ≤ p)) = true := by rw [Bool.or_eq_true, decide_eq_true_eq, decide_eq_true_eq]; omega
  rw [this, fold_true]
  simp only [pEnd, if_true, List.nil_append]
  rw [List.filter_eq_self]
  intro x hx
  have := hl x hx
  simp; omega
theorem putI_mem {p v : Int} : ∀ {l : List (Int × Int)} {x : Int × Int}, x ∈ putI p v l → x = (p, v) ∨ x ∈ l
  | [], x, h => by simpa [putI] using h
  | y :: l, x, h => by
    unfold putI at h
    split at h
    · rcases List.mem_cons.1 h with h | h
      · exact .inl h
      · exact .inr (List.mem_filter.1 h).1
    · rcases List.mem_cons.1 h with h | h
      · exact .inr (by simp [h])
      · exact (putI_mem h).imp id fun h => by simp [h]
theorem up_putI {p v : Int} : ∀ {l : List (Int × Int)}, Up l → Up (putI p v l)
  | [], _ => by simp [putI, Up]
  | y :: l, h => by
    unfold putI
    split
    · rename_i hp
      refine List.pairwise_cons.2 ⟨fun x hx => ?_, List.Pairwise.sublist List.filter_sublist h⟩
      obtain ⟨hx, hne⟩ := List.mem_filter.1 hx
      have hne : x.1 ≠ p := by simpa using hne
      rcases List.mem_cons.1 hx with rfl | hx
      · show p < x.1; omega
      · have := h.head x hx; show p < x.1; omega
    · rename_i hp
      refine List.pairwise_cons.2 ⟨fun x hx => ?_, up_putI h.tail⟩
      rcases putI_mem hx with rfl | hx
      · show y.1 < p; omega
      · exact h.head x hx
theorem gt_filter_ne {p : Int} {l : List (Int × Int)} {k : Int} : gt (l.filter fun y => decide (y.1 ≠ p)) k = if k = p then none else gt l k := by
  induction l with
  | nil => simp [gt_nil]
  | cons x l ih =>
    rw [List.filter_cons, gt_cons]
    by_cases h : x.1 = p
    · rw [if_neg (by simp [h]), ih]
      by_cases hk : k = p
      · rw [if_pos hk, if_pos hk]
      · rw [if_neg hk, if_neg hk, if_neg (by omega)]
    · rw [if_pos (by simp [h]), gt_cons, ih]
      by_cases hx : x.1 = k
      · rw [if_pos hx, if_pos hx, if_neg (by omega)]
      · rw [if_neg hx, if_neg hx]
theorem gt_putI {p v : Int} : ∀ {l : List (Int × Int)}, Up l → ∀ k, gt (putI p v l) k = if k = p then some v else gt l k
  | [], _, k => by
    unfold putI
    rw [gt_cons]
    by_cases h : k = p
    · rw [if_pos h.symm, if_pos h]
    · rw [if_neg (fun e => h e.symm), if_neg h]
  | y :: l, h, k => by
    unfold putI
    split
    · rename_i hp
      rw [gt_cons, gt_filter_ne]
      by_cases hk : k = p
      · rw [if_pos hk.symm, if_pos hk]
      · rw [if_neg (fun e => hk e.symm), if_neg hk, if_neg hk]
    · rename_i hp
      rw [gt_cons, gt_putI h.tail k, gt_cons]
      by_cases hy : y.1 = k
      · rw [if_pos hy, if_pos hy, if_neg (by omega)]
      · rw [if_neg hy, if_neg hy]
theorem OkV.put {n p v : Int} {l : List (Int × Int)} (h : OkV n l) : OkV n (putR n l p v) := by
  by_cases hp : 0 ≤ p ∧ p < n
  · rw [putR_in hp]
    refine ⟨h.n0, h.n1, up_putI h.up, fun x hx => ?_⟩
    rcases putI_mem hx with rfl | hx
    · exact hp
    · exact h.lo x hx
  · rw [putR_out hp h.lo]; exact h
theorem gt_putR {n p v : Int} {l : List (Int × Int)} (h : OkV n l) (k : Int) : gt (putR n l p v) k = if k = p ∧ 0 ≤ p ∧ p < n then some v else gt l k := by
  by_cases hp : 0 ≤ p ∧ p < n
  · rw [putR_in hp, gt_putI h.up]
    by_cases hk : k = p
    · rw [if_pos hk, if_pos ⟨hk, hp⟩]
    · rw [if_neg hk, if_neg (fun e => hk e.1)]
  · rw [putR_out hp h.lo, if_neg (fun e => hp e.2)]
end
section
open Go.RowKit
attribute [local irreducible] FS FO IT HS

def ir_fretworklaw09_Few : IR :=
(.seq (.reg (⟨(some 1), .bx (.t 0), none⟩ ::⟨(some 2), .al [.int .i64 0, .nils], none⟩ :: [])) (.seq (.seq (.reg (⟨(some 3), .fa 1 (.t 1), none⟩ ::⟨(some 4), .ld 1 false (.t 3), none⟩ ::⟨(some 5), .ln (.t 4), none⟩ ::⟨(some 6), .bin .gtr (.t 5) (.c (.int .i64 60)), none⟩ :: [])) (.cond (.t 6) (.reg (⟨(some 7), .fa 1 (.t 1), none⟩ ::⟨(some 8), .ld 1 false (.t 7), none⟩ ::⟨(some 9), .sl 2 (.t 8) none (some (.c (.int .i64 60))) none, none⟩ ::⟨(some 10), .fa 1 (.t 1), none⟩ ::⟨none, .st 1 (.t 10) (.t 9), none⟩ :: [])) .skip)) (.seq (.reg (⟨(some 11), .ld 2 true (.t 1), none⟩ ::⟨none, .st 2 (.t 2) (.t 11), none⟩ :: [])) .ret)))
theorem cd_fretworklaw09_Few : Code1 Try.prog 14 12 ir_fretworklaw09_Few [.c 2 true 2] := ⟨Try.call14, _, _, Try.func14, rfl, by kernel_rfl, by kernel_rfl, by kernel_rfl, by kernel_rfl⟩

theorem fs_Few (n : Int) (l : List (Int × Int)) : FS Try.prog 14 [VC n l] (VC n (l.take 60)) := by
  refine fs_of_cvc mixed cd_fretworklaw09_Few (by simp) ?_
  have hl := its_len l
  repeat' (conv => whnf); first
    | ((refine Br.beq (by rfl) ?_))
    | ((refine Br.bne (by rfl) ?_))
    | (refine Br.tt ?_)
    | (refine Br.ff ?_)
    | (refine Br.dec (fun h => ?_) (fun h => ?_)) <;> try (exfalso; omega)
    | (refine Br.neg ?_)
    | (refine Br.mk (fun h => ?_) (fun h => ?_))
    | (refine And.intro rfl ?_)
    | (refine And.intro (by omega) ?_)
    | (refine ⟨_, Or.inl ⟨⟨by omega, by omega⟩, rfl⟩, ?_⟩)
    | (refine And.intro (by simp only [lens_all]; first | done | omega) ?_)
    | (refine And.intro (Nat.le_refl _) ?_)
    | fail
  · conv => whnf
    show SV.agg [.int .i64 n, .slc 2 (List.drop 0 (List.take 60 (its l)))] = VC n (l.take 60)
    rw [List.drop_zero, its_take]; rfl
  · conv => whnf
    rw [List.take_of_length_le (by omega)]; rfl

theorem IbL (l : List (Int × Int)) (h : (l.all fun x => decide (-9223372036854775808 ≤ x.1) && decide (x.1 ≤ 9223372036854775807) && decide (-9223372036854775808 ≤ x.2) && decide (x.2 ≤ 9223372036854775807)) = true) : Ib l := fun x hx => by
  have := List.all_eq_true.1 h x hx
  simp at this
  unfold I64; omega
end
end Go.Proofs.Ytahpfomabgfmkaa
