/- The document's done, and times. Any matrix times any vector, any rows, by any ring; any sums as a vector. -/
import Derived.Test.YtllpapoejafloaaGreatE6
namespace Go.Proofs.YtllpapoejafloaaGreat
section
open Go.RowKit
attribute [local irreducible] FS FO IT HS

theorem doneR_len (r n : Int) (l : List (Int × Int)) : (doneR r n l).2.1.length ≤ l.length := by
  unfold doneR
  split
  · split
    · split
      · split
        · exact List.length_filterMap_le _ _
        · exact Nat.zero_le _
      · exact Nat.zero_le _
    · exact Nat.zero_le _
  · exact Nat.zero_le _

def ir_fretworkref13_Done : IR :=
(.seq (.reg (⟨(some 6), .al [.int .i64 0, .nils], none⟩ ::⟨(some 7), .mv (.c (.int .i64 0)), none⟩ :: [])) (.seq (.seq (.reg (⟨(some 14), .mv (.t 0), none⟩ ::⟨(some 15), .call (.c (.fn 32 [])) [(.t 14)], none⟩ ::⟨(some 16), .un .not (.t 15), none⟩ :: [])) (.cond (.t 16) (.seq (.reg (⟨(some 17), .bld [.int .i64 0, .nils] [], none⟩ ::⟨none, .st 2 (.t 6) (.t 17), none⟩ ::⟨(some 7), .mv (.c (.int .i64 8)), none⟩ :: [])) .ret) .skip)) (.seq (.seq (.reg (⟨(some 18), .mv (.t 1), none⟩ ::⟨(some 19), .bin .lss (.t 18) (.c (.int .i64 0)), none⟩ ::⟨(some 20), .mv (.t 19), none⟩ ::⟨(some 21), .mv (.t 1), some (20, false)⟩ ::⟨(some 22), .bin .gtr (.t 21) (.c (.int .i64 4096)), some (20, false)⟩ ::⟨(some 23), .pick (.t 20) (.c (.bool true)) (.t 22), none⟩ :: [])) (.cond (.t 23) (.seq (.reg (⟨(some 24), .bld [.int .i64 0, .nils] [], none⟩ ::⟨none, .st 2 (.t 6) (.t 24), none⟩ ::⟨(some 7), .mv (.c (.int .i64 3)), none⟩ :: [])) .ret) .skip)) (.seq (.seq (.reg (⟨(some 8), .mv (.c (.int .i64 0)), none⟩ :: [])) (.block 0 (.loop (.seq (.seq (.reg (⟨(some 25), .mv (.t 8), none⟩ ::⟨(some 26), .mv (.t 2), none⟩ ::⟨(some 27), .ln (.t 26), none⟩ ::⟨(some 28), .bin .lss (.t 25) (.t 27), none⟩ :: [])) (.cond (.t 28) .skip (.exit 0))) (.seq (.block 1 (.seq (.reg (⟨(some 31), .mv (.t 2), none⟩ ::⟨(some 32), .mv (.t 8), none⟩ ::⟨(some 33), .ia 3 (.t 31) (.t 32), none⟩ ::⟨(some 34), .fa 0 (.t 33), none⟩ ::⟨(some 35), .ld 1 false (.t 34), none⟩ ::⟨(some 36), .bin .lss (.t 35) (.c (.int .i64 0)), none⟩ ::⟨(some 37), .mv (.t 36), none⟩ ::⟨(some 38), .mv (.t 2), some (37, false)⟩ ::⟨(some 39), .mv (.t 8), some (37, false)⟩ ::⟨(some 40), .ia 3 (.t 38) (.t 39), some (37, false)⟩ ::⟨(some 41), .fa 0 (.t 40), some (37, false)⟩ ::⟨(some 42), .ld 1 false (.t 41), some (37, false)⟩ ::⟨(some 43), .mv (.t 1), some (37, false)⟩ ::⟨(some 44), .bin .geq (.t 42) (.t 43), some (37, false)⟩ ::⟨(some 45), .pick (.t 37) (.c (.bool true)) (.t 44), none⟩ :: [])) (.cond (.t 45) (.seq (.reg (⟨(some 46), .bld [.int .i64 0, .nils] [], none⟩ ::⟨none, .st 2 (.t 6) (.t 46), none⟩ ::⟨(some 7), .mv (.c (.int .i64 3)), none⟩ :: [])) .ret) .skip))) (.reg (⟨(some 29), .mv (.t 8), none⟩ ::⟨(some 30), .bin .add (.t 29) (.c (.int .i64 1)), none⟩ ::⟨(some 8), .mv (.t 30), none⟩ :: []))))))) (.seq (.seq (.reg (⟨(some 9), .mv (.c (.int .i64 1)), none⟩ :: [])) (.block 2 (.loop (.seq (.seq (.reg (⟨(some 47), .mv (.t 9), none⟩ ::⟨(some 48), .mv (.t 2), none⟩ ::⟨(some 49), .ln (.t 48), none⟩ ::⟨(some 50), .bin .lss (.t 47) (.t 49), none⟩ :: [])) (.cond (.t 50) .skip (.exit 2))) (.seq (.block 3 (.seq (.draw (⟨(some 53), .mv (.t 2), none⟩ ::⟨(some 54), .mv (.t 9), none⟩ ::⟨(some 55), .ia 3 (.t 53) (.t 54), none⟩ ::⟨(some 56), .fa 0 (.t 55), none⟩ ::⟨(some 57), .ld 1 false (.t 56), none⟩ ::⟨(some 58), .mv (.t 2), none⟩ ::⟨(some 59), .mv (.t 9), none⟩ ::⟨(some 60), .bin .sub (.t 59) (.c (.int .i64 1)), none⟩ ::⟨(some 61), .ia 3 (.t 58) (.t 60), none⟩ ::⟨(some 62), .fa 0 (.t 61), none⟩ ::⟨(some 63), .ld 1 false (.t 62), none⟩ :: []) (⟨(some 64), .bin .leq (.t 57) (.t 63), none⟩ :: [])) (.cond (.t 64) (.seq (.reg (⟨(some 65), .bld [.int .i64 0, .nils] [], none⟩ ::⟨none, .st 2 (.t 6) (.t 65), none⟩ ::⟨(some 7), .mv (.c (.int .i64 6)), none⟩ :: [])) .ret) .skip))) (.reg (⟨(some 51), .mv (.t 9), none⟩ ::⟨(some 52), .bin .add (.t 51) (.c (.int .i64 1)), none⟩ ::⟨(some 9), .mv (.t 52), none⟩ :: []))))))) (.seq (.reg (⟨(some 66), .mv (.t 1), none⟩ ::⟨(some 67), .bld [.int .i64 0, .nils] [(0, 1, (.t 66))], none⟩ ::⟨(some 10), .al [.int .i64 0, .nils], none⟩ ::⟨none, .st 2 (.t 10) (.t 67), none⟩ :: [])) (.seq (.seq (.reg (⟨(some 11), .mv (.c (.int .i64 0)), none⟩ :: [])) (.block 4 (.loop (.seq (.seq (.reg (⟨(some 68), .mv (.t 11), none⟩ ::⟨(some 69), .mv (.t 2), none⟩ ::⟨(some 70), .ln (.t 69), none⟩ ::⟨(some 71), .bin .lss (.t 68) (.t 70), none⟩ :: [])) (.cond (.t 71) .skip (.exit 4))) (.seq (.block 5 (.seq (.reg (⟨(some 75), .mv (.t 2), none⟩ ::⟨(some 76), .mv (.t 11), none⟩ ::⟨(some 77), .ia 3 (.t 75) (.t 76), none⟩ ::⟨(some 78), .fa 1 (.t 77), none⟩ ::⟨(some 79), .ld 2 true (.t 78), none⟩ ::⟨(some 80), .call (.c (.fn 41 [])) [(.t 79)], none⟩ ::⟨(some 74), .mv (.t 80), none⟩ ::⟨(some 81), .ex 0 (.t 74), none⟩ ::⟨(some 82), .ex 1 (.t 74), none⟩ ::⟨(some 12), .mv (.t 81), none⟩ ::⟨(some 13), .mv (.t 82), none⟩ :: [])) (.seq (.seq (.reg (⟨(some 83), .mv (.t 13), none⟩ ::⟨(some 84), .un .not (.t 83), none⟩ :: [])) (.cond (.t 84) (.seq (.reg (⟨(some 85), .bld [.int .i64 0, .nils] [], none⟩ ::⟨none, .st 2 (.t 6) (.t 85), none⟩ ::⟨(some 7), .mv (.c (.int .i64 12)), none⟩ :: [])) .ret) .skip)) (.seq (.reg (⟨(some 86), .mv (.t 12), none⟩ ::⟨(some 87), .mv (.t 0), none⟩ ::⟨(some 88), .call (.c (.fn 42 [])) [(.t 87)], none⟩ ::⟨(some 89), .bin .neq (.t 86) (.t 88), none⟩ :: [])) (.cond (.t 89) (.draw (⟨(some 90), .fa 1 (.t 10), none⟩ ::⟨(some 91), .ld 1 false (.t 90), none⟩ ::⟨(some 92), .mv (.t 2), none⟩ ::⟨(some 93), .mv (.t 11), none⟩ ::⟨(some 94), .ia 3 (.t 92) (.t 93), none⟩ ::⟨(some 95), .fa 0 (.t 94), none⟩ ::⟨(some 96), .ld 1 false (.t 95), none⟩ ::⟨(some 97), .mv (.t 12), none⟩ ::⟨(some 98), .bld [.int .i64 0, .int .i64 0] [(0, 1, (.t 96)), (1, 1, (.t 97))], none⟩ ::⟨(some 99), .bsl 1 2 [.int .i64 0, .int .i64 0] [(0, (.t 98))], none⟩ :: []) (⟨(some 100), .ap 2 16 (.t 91) (.t 99), none⟩ ::⟨(some 101), .fa 1 (.t 10), none⟩ ::⟨none, .st 1 (.t 101) (.t 100), none⟩ :: [])) .skip))))) (.reg (⟨(some 72), .mv (.t 11), none⟩ ::⟨(some 73), .bin .add (.t 72) (.c (.int .i64 1)), none⟩ ::⟨(some 11), .mv (.t 73), none⟩ :: []))))))) (.seq (.reg (⟨(some 102), .ld 2 true (.t 10), none⟩ ::⟨none, .st 2 (.t 6) (.t 102), none⟩ ::⟨(some 7), .mv (.c (.int .i64 0)), none⟩ :: [])) .ret))))))))
theorem cd_fretworkref13_Done : Code1 Tryz.prog 13 103 ir_fretworkref13_Done [.c 2 true 6, .t 7] := ⟨Tryz.call13, _, _, Tryz.func13, rfl, by kernel_rfl, by kernel_rfl, by kernel_rfl, by kernel_rfl⟩

set_option maxHeartbeats 8000000 in
theorem fo_r13Done (r n : Int) (l : List (Int × Int)) (hl : l.length ≤ 1000000) (hw : ∀ x ∈ l, W128 x.2) : FO Tryz.prog 13 [.int .i64 r, .int .i64 n, SM l] (VO (doneR r n l)) [.arr 2 (its (doneR r n l).2.1)] := by
  refine fo_of_cvc mixed cd_fretworkref13_Done (by simp) ?_
  have c1 := fs_r2Is r
  have hsl := sms_len l
  obtain ⟨t, ht⟩ : ∃ t, doneR r n l = t := ⟨_, rfl⟩
  rw [ht]
  unfold doneR at ht
  cases hR : isR r with
  | false =>
    rw [hR] at ht c1
    rw [if_neg (by simp)] at ht
    subst ht
    repeat' (conv => whnf); first
      | ((refine Or.inl ⟨by rfl, _, c1, ?_⟩))
      | ((refine Br.beq (by rfl) ?_))
      | ((refine Br.bne (by rfl) ?_))
      | ((refine And.intro (Or.inl (Nat.zero_le _)) ?_))
      | ((refine And.intro (show _ ≤ _ from Nat.le_of_ble_eq_true rfl) ?_))
      | ((refine And.intro (by intro y hy; simp at hy; subst hy; rfl) ?_))
      | (refine Br.tt ?_)
      | (refine Br.ff ?_)
      | (refine Br.dec (fun h => ?_) (fun h => ?_)) <;> try (exfalso; omega)
      | (refine Br.neg ?_)
      | (refine Br.mk (fun h => ?_) (fun h => ?_))
      | (refine And.intro rfl ?_)
      | (refine And.intro (by omega) ?_)
      | (refine ⟨_, Or.inl ⟨⟨by omega, by omega⟩, rfl⟩, ?_⟩)
      | (refine And.intro (by simp only [lens_all, zs_len, U_len, sms_len, its_len, ints_len]; first | done | omega) ?_)
      | (refine And.intro (Nat.le_refl _) ?_)
      | fail
    exact fop_err
  | true =>
    rw [hR] at ht c1
    rw [if_pos rfl] at ht
    by_cases hn : 0 ≤ n ∧ n ≤ 4096
    · obtain ⟨hn1, hn2⟩ := hn
      repeat' (conv => whnf); first
        | ((refine Or.inl ⟨by rfl, _, c1, ?_⟩))
        | ((refine Br.beq (by rfl) ?_))
        | ((refine Br.bne (by rfl) ?_))
        | ((refine And.intro (Or.inl (Nat.zero_le _)) ?_))
        | ((refine And.intro (show _ ≤ _ from Nat.le_of_ble_eq_true rfl) ?_))
        | ((refine And.intro (by intro y hy; simp at hy; subst hy; rfl) ?_))
        | (refine Br.tt ?_)
        | (refine Br.ff ?_)
        | (refine Br.dec (fun h => ?_) (fun h => ?_)) <;> try (exfalso; omega)
        | (refine Br.neg ?_)
        | (refine Br.mk (fun h => ?_) (fun h => ?_))
        | (refine And.intro rfl ?_)
        | (refine And.intro (by omega) ?_)
        | (refine ⟨_, Or.inl ⟨⟨by omega, by omega⟩, rfl⟩, ?_⟩)
        | (refine And.intro (by simp only [lens_all, zs_len, U_len, sms_len, its_len, ints_len]; first | done | omega) ?_)
        | (refine And.intro (Nat.le_refl _) ?_)
        | fail
      refine ⟨Nat, fun k => k ≤ l.length ∧ ∀ (j : Nat) (x : Int × Int), j < k → l[j]? = some x → outS n x = false, fun k => [(0, .int .i64 r), (1, .int .i64 n), (2, SM l), (6, .ptr 0 0 0 0), (8, .int .i64 (k : Int))], fun k => [.vars [.int .i64 0, .nils]], fun _ => none, fun k => l.length - k,
        ⟨0, ⟨Nat.zero_le _, fun j x h => absurd h (Nat.not_lt_zero _)⟩, ⟨rfl, rfl, rfl, rfl, rfl, trivial⟩, ⟨⟨rfl, rfl, trivial⟩, trivial⟩, rfl⟩, fun k hk => ?_⟩
      obtain ⟨hk1, hk2⟩ := hk
      by_cases hkl : k < l.length
      · obtain ⟨x, hx⟩ : ∃ x, l.getD k (0, 0) = x := ⟨_, rfl⟩
        have hxk : l[k]? = some x := by rw [← hx]; exact getD_some hkl
        by_cases hu : 0 ≤ x.1 ∧ x.1 < n
        · have hou : outS n x = false := by
            unfold outS; rw [decide_eq_false (by omega), decide_eq_false (by omega)]; rfl
          repeat' (conv => whnf); first
            | ((refine sms_go (i := k) (by omega) hx ?_))
            | ((refine Br.beq (by rfl) ?_))
            | ((refine Br.bne (by rfl) ?_))
            | ((refine And.intro (Or.inl (Nat.zero_le _)) ?_))
            | ((refine And.intro (show _ ≤ _ from Nat.le_of_ble_eq_true rfl) ?_))
            | ((refine And.intro (by intro y hy; simp at hy; subst hy; rfl) ?_))
            | (refine Br.tt ?_)
            | (refine Br.ff ?_)
            | (refine Br.dec (fun h => ?_) (fun h => ?_)) <;> try (exfalso; omega)
            | (refine Br.neg ?_)
            | (refine Br.mk (fun h => ?_) (fun h => ?_))
            | (refine And.intro rfl ?_)
            | (refine And.intro (by omega) ?_)
            | (refine ⟨_, Or.inl ⟨⟨by omega, by omega⟩, rfl⟩, ?_⟩)
            | (refine And.intro (by simp only [lens_all, zs_len, U_len, sms_len, its_len, ints_len]; first | done | omega) ?_)
            | (refine And.intro (Nat.le_refl _) ?_)
            | fail
          all_goals
            refine ⟨k + 1, ⟨by omega, fun j y hj hy => ?_⟩, (show l.length - (k + 1) < l.length - k by omega), ⟨rfl, rfl, rfl, rfl, rfl, trivial⟩, ⟨⟨rfl, rfl, trivial⟩, trivial⟩, rfl⟩
            rcases Nat.lt_or_ge j k with h' | h'
            · exact hk2 j y h' hy
            · have : j = k := by omega
              subst this; rw [hxk] at hy; cases hy; exact hou
        · have hou : outS n x = true := by
            unfold outS
            rw [Bool.or_eq_true, decide_eq_true_eq, decide_eq_true_eq]; omega
          have hany : l.any (outS n) = true := List.any_eq_true.2 ⟨x, List.mem_of_getElem? hxk, hou⟩
          rw [hany, if_neg (by simp)] at ht
          subst ht
          repeat' (conv => whnf); first
            | ((refine sms_go (i := k) (by omega) hx ?_))
            | ((refine Br.beq (by rfl) ?_))
            | ((refine Br.bne (by rfl) ?_))
            | ((refine And.intro (Or.inl (Nat.zero_le _)) ?_))
            | ((refine And.intro (show _ ≤ _ from Nat.le_of_ble_eq_true rfl) ?_))
            | ((refine And.intro (by intro y hy; simp at hy; subst hy; rfl) ?_))
            | (refine Br.tt ?_)
            | (refine Br.ff ?_)
            | (refine Br.dec (fun h => ?_) (fun h => ?_)) <;> try (exfalso; omega)
            | (refine Br.neg ?_)
            | (refine Br.mk (fun h => ?_) (fun h => ?_))
            | (refine And.intro rfl ?_)
            | (refine And.intro (by omega) ?_)
            | (refine ⟨_, Or.inl ⟨⟨by omega, by omega⟩, rfl⟩, ?_⟩)
            | (refine And.intro (by simp only [lens_all, zs_len, U_len, sms_len, its_len, ints_len]; first | done | omega) ?_)
            | (refine And.intro (Nat.le_refl _) ?_)
            | fail
          all_goals exact fop_err
      · have hany : l.any (outS n) = false := by
          rw [List.any_eq_false]
          intro x hx
          obtain ⟨j, hj⟩ := List.getElem?_of_mem hx
          rw [hk2 j x (by have := (List.getElem?_eq_some_iff.1 hj).1; omega) hj]; simp
        rw [if_pos ⟨⟨hn1, hn2⟩, hany⟩] at ht
        clear hk2
        repeat' (conv => whnf); first
          | ((refine Br.beq (by rfl) ?_))
          | ((refine Br.bne (by rfl) ?_))
          | ((refine And.intro (Or.inl (Nat.zero_le _)) ?_))
          | ((refine And.intro (show _ ≤ _ from Nat.le_of_ble_eq_true rfl) ?_))
          | ((refine And.intro (by intro y hy; simp at hy; subst hy; rfl) ?_))
          | (refine Br.tt ?_)
          | (refine Br.ff ?_)
          | (refine Br.dec (fun h => ?_) (fun h => ?_)) <;> try (exfalso; omega)
          | (refine Br.neg ?_)
          | (refine Br.mk (fun h => ?_) (fun h => ?_))
          | (refine And.intro rfl ?_)
          | (refine And.intro (by omega) ?_)
          | (refine ⟨_, Or.inl ⟨⟨by omega, by omega⟩, rfl⟩, ?_⟩)
          | (refine And.intro (by simp only [lens_all, zs_len, U_len, sms_len, its_len, ints_len]; first | done | omega) ?_)
          | (refine And.intro (Nat.le_refl _) ?_)
          | fail
        refine ⟨Nat, fun k => 1 ≤ k ∧ (k ≤ l.length ∨ k = 1) ∧ allN k (upAt l) = true, fun k => [(0, .int .i64 r), (1, .int .i64 n), (2, SM l), (6, .ptr 0 0 0 0), (9, .int .i64 (k : Int))], fun k => [.vars [.int .i64 0, .nils]], fun _ => none, fun k => l.length - k,
          ⟨1, ⟨Nat.le_refl _, Or.inr rfl, rfl⟩, ⟨rfl, rfl, rfl, rfl, rfl, trivial⟩, ⟨⟨rfl, rfl, trivial⟩, trivial⟩, rfl⟩, fun k hk => ?_⟩
        obtain ⟨hk0, hk3, hk2⟩ := hk
        by_cases hkl : k < l.length
        · obtain ⟨x, hx⟩ : ∃ x, l.getD k (0, 0) = x := ⟨_, rfl⟩
          obtain ⟨y, hy⟩ : ∃ y, l.getD (k - 1) (0, 0) = y := ⟨_, rfl⟩
          by_cases hu : upAt l k = true
          · have hu' := hu
            unfold upAt at hu'
            rw [Bool.or_eq_true, decide_eq_true_eq, decide_eq_true_eq, hx, hy] at hu'
            repeat' (conv => whnf); first
              | ((refine sms_go (i := k) (by omega) hx ?_))
              | ((refine sms_go (i := k - 1) (by omega) hy ?_))
              | ((refine Br.beq (by rfl) ?_))
              | ((refine Br.bne (by rfl) ?_))
              | ((refine And.intro (Or.inl (Nat.zero_le _)) ?_))
              | ((refine And.intro (show _ ≤ _ from Nat.le_of_ble_eq_true rfl) ?_))
              | ((refine And.intro (by intro y hy; simp at hy; subst hy; rfl) ?_))
              | (refine Br.tt ?_)
              | (refine Br.ff ?_)
              | (refine Br.dec (fun h => ?_) (fun h => ?_)) <;> try (exfalso; omega)
              | (refine Br.neg ?_)
              | (refine Br.mk (fun h => ?_) (fun h => ?_))
              | (refine And.intro rfl ?_)
              | (refine And.intro (by omega) ?_)
              | (refine ⟨_, Or.inl ⟨⟨by omega, by omega⟩, rfl⟩, ?_⟩)
              | (refine And.intro (by simp only [lens_all, zs_len, U_len, sms_len, its_len, ints_len]; first | done | omega) ?_)
              | (refine And.intro (Nat.le_refl _) ?_)
              | fail
            all_goals exact ⟨k + 1, ⟨by omega, by omega, allN_yes hk2 hu⟩, (show l.length - (k + 1) < l.length - k by omega), ⟨rfl, rfl, rfl, rfl, rfl, trivial⟩, ⟨⟨rfl, rfl, trivial⟩, trivial⟩, rfl⟩
          · have hub : upB l = false := allN_no hkl (by simpa using hu)
            rw [hub, if_neg (by simp)] at ht
            subst ht
            unfold upAt at hu
            rw [Bool.or_eq_true, decide_eq_true_eq, decide_eq_true_eq, hx, hy] at hu
            repeat' (conv => whnf); first
              | ((refine sms_go (i := k) (by omega) hx ?_))
              | ((refine sms_go (i := k - 1) (by omega) hy ?_))
              | ((refine Br.beq (by rfl) ?_))
              | ((refine Br.bne (by rfl) ?_))
              | ((refine And.intro (Or.inl (Nat.zero_le _)) ?_))
              | ((refine And.intro (show _ ≤ _ from Nat.le_of_ble_eq_true rfl) ?_))
              | ((refine And.intro (by intro y hy; simp at hy; subst hy; rfl) ?_))
              | (refine Br.tt ?_)
              | (refine Br.ff ?_)
              | (refine Br.dec (fun h => ?_) (fun h => ?_)) <;> try (exfalso; omega)
              | (refine Br.neg ?_)
              | (refine Br.mk (fun h => ?_) (fun h => ?_))
              | (refine And.intro rfl ?_)
              | (refine And.intro (by omega) ?_)
              | (refine ⟨_, Or.inl ⟨⟨by omega, by omega⟩, rfl⟩, ?_⟩)
              | (refine And.intro (by simp only [lens_all, zs_len, U_len, sms_len, its_len, ints_len]; first | done | omega) ?_)
              | (refine And.intro (Nat.le_refl _) ?_)
              | fail
            all_goals exact fop_err
        · have hub : upB l = true := by
            rcases hk3 with h | h
            · obtain rfl : k = l.length := by omega
              exact hk2
            · subst h
              rcases Nat.eq_zero_or_pos l.length with h0 | h0
              · unfold upB; rw [h0]; rfl
              · have : l.length = 1 := by omega
                unfold upB; rw [this]; exact hk2
          rw [hub, if_pos rfl] at ht
          repeat' (conv => whnf); first
            | ((refine Br.beq (by rfl) ?_))
            | ((refine Br.bne (by rfl) ?_))
            | ((refine And.intro (Or.inl (Nat.zero_le _)) ?_))
            | ((refine And.intro (show _ ≤ _ from Nat.le_of_ble_eq_true rfl) ?_))
            | ((refine And.intro (by intro y hy; simp at hy; subst hy; rfl) ?_))
            | (refine Br.tt ?_)
            | (refine Br.ff ?_)
            | (refine Br.dec (fun h => ?_) (fun h => ?_)) <;> try (exfalso; omega)
            | (refine Br.neg ?_)
            | (refine Br.mk (fun h => ?_) (fun h => ?_))
            | (refine And.intro rfl ?_)
            | (refine And.intro (by omega) ?_)
            | (refine ⟨_, Or.inl ⟨⟨by omega, by omega⟩, rfl⟩, ?_⟩)
            | (refine And.intro (by simp only [lens_all, zs_len, U_len, sms_len, its_len, ints_len]; first | done | omega) ?_)
            | (refine And.intro (Nat.le_refl _) ?_)
            | fail
          refine ⟨Nat, fun k => k ≤ l.length ∧ fitB (l.take k) = true, fun k => [(0, .int .i64 r), (2, SM l), (6, .ptr 0 0 0 0), (10, .ptr 1 0 0 0), (11, .int .i64 (k : Int))], fun k => [.vars [.int .i64 0, .nils], .vars [.int .i64 n, .osl 2 2 0 ((l.take k).filterMap (keepS r)).length], .arr 2 (its ((l.take k).filterMap (keepS r)))], fun _ => none, fun k => l.length - k,
            ⟨0, ⟨Nat.zero_le _, rfl⟩, ⟨rfl, rfl, rfl, rfl, rfl, trivial⟩, ⟨⟨rfl, rfl, trivial⟩, ⟨rfl, ⟨Nat.le_refl _, rfl, rfl⟩, trivial⟩, rfl, trivial⟩, rfl⟩, fun k hk => ?_⟩
          obtain ⟨hk1, hk3⟩ := hk
          have hfl : ((l.take k).filterMap (keepS r)).length ≤ k := Nat.le_trans (List.length_filterMap_le _ _) (by simp; omega)
          have hfi := its_len ((l.take k).filterMap (keepS r))
          by_cases hkl : k < l.length
          · obtain ⟨x, hx⟩ : ∃ x, l.getD k (0, 0) = x := ⟨_, rfl⟩
            have hxk : l[k]? = some x := by rw [← hx]; exact getD_some hkl
            have c3 := fs_r1Narrow x.2 (hw x (List.mem_of_getElem? hxk))
            have c4 := fs_r2Zero r
            have hst := keepS_more (r := r) hxk
            have hfm : fitB (l.take (k + 1)) = fits x.2 := by
              unfold fitB at hk3 ⊢
              rw [vtk_more hxk, List.all_append, hk3]; simp
            cases hfx : fits x.2 with
            | false =>
              rw [hfx] at c3 hfm
              have hfb : fitB l = false := by
                rw [Bool.eq_false_iff]
                intro h
                have := List.all_eq_true.1 h x (List.mem_of_getElem? hxk)
                rw [hfx] at this; cases this
              rw [hfb, if_neg (by simp)] at ht
              subst ht
              repeat' (conv => whnf); first
                | ((refine sms_go (i := k) (by omega) hx ?_))
                | ((refine Or.inl ⟨by rfl, _, c3, ?_⟩))
                | ((refine Or.inl ⟨by rfl, _, c4, ?_⟩))
                | ((refine Br.beq (by rfl) ?_))
                | ((refine Br.bne (by rfl) ?_))
                | ((refine And.intro (Or.inl (Nat.zero_le _)) ?_))
                | ((refine And.intro (show _ ≤ _ from Nat.le_of_ble_eq_true rfl) ?_))
                | ((refine And.intro (by intro y hy; simp at hy; subst hy; rfl) ?_))
                | (refine Br.tt ?_)
                | (refine Br.ff ?_)
                | (refine Br.dec (fun h => ?_) (fun h => ?_)) <;> try (exfalso; omega)
                | (refine Br.neg ?_)
                | (refine Br.mk (fun h => ?_) (fun h => ?_))
                | (refine And.intro rfl ?_)
                | (refine And.intro (by omega) ?_)
                | (refine ⟨_, Or.inl ⟨⟨by omega, by omega⟩, rfl⟩, ?_⟩)
                | (refine And.intro (by simp only [lens_all, zs_len, U_len, sms_len, its_len, ints_len]; first | done | omega) ?_)
                | (refine And.intro (Nat.le_refl _) ?_)
                | fail
              all_goals exact fop_err
            | true =>
              rw [hfx] at c3 hfm
              by_cases hz : nar x.2 = rZero r
              · have hke : keepS r x = none := if_pos hz
                rw [hke] at hst
                repeat' (conv => whnf); first
                  | ((refine sms_go (i := k) (by omega) hx ?_))
                  | ((refine Or.inl ⟨by rfl, _, c3, ?_⟩))
                  | ((refine Or.inl ⟨by rfl, _, c4, ?_⟩))
                  | ((refine Br.beq (by rfl) ?_))
                  | ((refine Br.bne (by rfl) ?_))
                  | ((refine And.intro (Or.inl (Nat.zero_le _)) ?_))
                  | ((refine And.intro (show _ ≤ _ from Nat.le_of_ble_eq_true rfl) ?_))
                  | ((refine And.intro (by intro y hy; simp at hy; subst hy; rfl) ?_))
                  | (refine Br.tt ?_)
                  | (refine Br.ff ?_)
                  | (refine Br.dec (fun h => ?_) (fun h => ?_)) <;> try (exfalso; omega)
                  | (refine Br.neg ?_)
                  | (refine Br.mk (fun h => ?_) (fun h => ?_))
                  | (refine And.intro rfl ?_)
                  | (refine And.intro (by omega) ?_)
                  | (refine ⟨_, Or.inl ⟨⟨by omega, by omega⟩, rfl⟩, ?_⟩)
                  | (refine And.intro (by simp only [lens_all, zs_len, U_len, sms_len, its_len, ints_len]; first | done | omega) ?_)
                  | (refine And.intro (Nat.le_refl _) ?_)
                  | fail
                refine ⟨k + 1, ⟨by omega, hfm⟩, (show l.length - (k + 1) < l.length - k by omega), ⟨rfl, rfl, rfl, rfl, rfl, trivial⟩, ⟨⟨rfl, rfl, trivial⟩, ⟨rfl, ?_, trivial⟩, ?_, trivial⟩, rfl⟩
                · rw [hst]; exact congrArg (SV.osl 2 2 0) (by simp)
                · rw [hst]; exact congrArg (fun l => Blk.arr 2 (its l)) (by simp)
              · have hke : keepS r x = some (x.1, nar x.2) := if_neg hz
                rw [hke] at hst
                repeat' (conv => whnf); first
                  | ((refine sms_go (i := k) (by omega) hx ?_))
                  | ((refine Or.inl ⟨by rfl, _, c3, ?_⟩))
                  | ((refine Or.inl ⟨by rfl, _, c4, ?_⟩))
                  | ((refine Br.beq (by rfl) ?_))
                  | ((refine Br.bne (by rfl) ?_))
                  | ((refine And.intro (Or.inl (Nat.zero_le _)) ?_))
                  | ((refine And.intro (show _ ≤ _ from Nat.le_of_ble_eq_true rfl) ?_))
                  | ((refine And.intro (by intro y hy; simp at hy; subst hy; rfl) ?_))
                  | (refine Br.tt ?_)
                  | (refine Br.ff ?_)
                  | (refine Br.dec (fun h => ?_) (fun h => ?_)) <;> try (exfalso; omega)
                  | (refine Br.neg ?_)
                  | (refine Br.mk (fun h => ?_) (fun h => ?_))
                  | (refine And.intro rfl ?_)
                  | (refine And.intro (by omega) ?_)
                  | (refine ⟨_, Or.inl ⟨⟨by omega, by omega⟩, rfl⟩, ?_⟩)
                  | (refine And.intro (by simp only [lens_all, sms_len]; first | done | omega) ?_)
                  | (refine And.intro (Nat.le_refl _) ?_)
                  | fail
                refine ⟨k + 1, ⟨by omega, hfm⟩, (show l.length - (k + 1) < l.length - k by omega), ⟨rfl, rfl, rfl, rfl, rfl, trivial⟩, ⟨⟨rfl, rfl, trivial⟩, ⟨rfl, ?_, trivial⟩, ?_, trivial⟩, rfl⟩
                · rw [hst]; exact congrArg (SV.osl 2 2 0) (by simp)
                · rw [hst, its_append]; rfl
          · obtain rfl : k = l.length := by omega
            have e1 : l.take l.length = l := List.take_length
            rw [e1] at hk3
            rw [hk3, if_pos rfl] at ht
            subst ht
            repeat' (conv => whnf); first
              | ((refine Br.beq (by rfl) ?_))
              | ((refine Br.bne (by rfl) ?_))
              | ((refine And.intro (Or.inl (Nat.zero_le _)) ?_))
              | ((refine And.intro (show _ ≤ _ from Nat.le_of_ble_eq_true rfl) ?_))
              | ((refine And.intro (by intro y hy; simp at hy; subst hy; rfl) ?_))
              | (refine Br.tt ?_)
              | (refine Br.ff ?_)
              | (refine Br.dec (fun h => ?_) (fun h => ?_)) <;> try (exfalso; omega)
              | (refine Br.neg ?_)
              | (refine Br.mk (fun h => ?_) (fun h => ?_))
              | (refine And.intro rfl ?_)
              | (refine And.intro (by omega) ?_)
              | (refine ⟨_, Or.inl ⟨⟨by omega, by omega⟩, rfl⟩, ?_⟩)
              | (refine And.intro (by simp only [lens_all, zs_len, U_len, sms_len, its_len, ints_len]; first | done | omega) ?_)
              | (refine And.intro (Nat.le_refl _) ?_)
              | fail
            conv => whnf
            rw [e1]
            exact Or.inr (Or.inr (FoS.one 2 (MatL.tup (.cons (MatL.agg (.cons (.same _ rfl) (.cons (.osl 0 2 2 0 _ rfl) .nil))) (.cons (.same _ rfl) .nil))) rfl rfl))
    · rw [if_neg (fun h => hn h.1)] at ht
      subst ht
      repeat' (conv => whnf); first
        | ((refine Or.inl ⟨by rfl, _, c1, ?_⟩))
        | ((refine Br.beq (by rfl) ?_))
        | ((refine Br.bne (by rfl) ?_))
        | ((refine And.intro (Or.inl (Nat.zero_le _)) ?_))
        | ((refine And.intro (show _ ≤ _ from Nat.le_of_ble_eq_true rfl) ?_))
        | ((refine And.intro (by intro y hy; simp at hy; subst hy; rfl) ?_))
        | (refine Br.tt ?_)
        | (refine Br.ff ?_)
        | (refine Br.dec (fun h => ?_) (fun h => ?_)) <;> try (exfalso; omega)
        | (refine Br.neg ?_)
        | (refine Br.mk (fun h => ?_) (fun h => ?_))
        | (refine And.intro rfl ?_)
        | (refine And.intro (by omega) ?_)
        | (refine ⟨_, Or.inl ⟨⟨by omega, by omega⟩, rfl⟩, ?_⟩)
        | (refine And.intro (by simp only [lens_all, zs_len, U_len, sms_len, its_len, ints_len]; first | done | omega) ?_)
        | (refine And.intro (Nat.le_refl _) ?_)
        | fail
      all_goals exact fop_err
theorem fs_r13Done (r n : Int) (l : List (Int × Int)) (hl : l.length ≤ 1000000) (hw : ∀ x ∈ l, W128 x.2) : FS Tryz.prog 13 [.int .i64 r, .int .i64 n, SM l] (VE (doneR r n l)) :=
  fs_of_fo (fo_r13Done r n l hl hw) (fz_VO _)

def ir_fretworkref13_Times : IR :=
(.seq (.reg (⟨(some 6), .bx (.t 1), none⟩ ::⟨(some 7), .bx (.t 2), none⟩ ::⟨(some 10), .al [.int .i64 0, .nils], none⟩ ::⟨(some 11), .mv (.c (.int .i64 0)), none⟩ :: [])) (.seq (.reg (⟨(some 15), .mv (.t 0), none⟩ ::⟨(some 16), .ld 5 true (.t 6), none⟩ ::⟨(some 17), .ld 3 true (.t 7), none⟩ ::⟨(some 18), .mv (.t 3), none⟩ ::⟨(some 19), .mv (.t 4), none⟩ ::⟨(some 20), .call (.c (.fn 9 [])) [(.t 15), (.t 16), (.t 17), (.t 18), (.t 19)], none⟩ ::⟨(some 14), .mv (.t 20), none⟩ ::⟨(some 21), .ex 0 (.t 14), none⟩ ::⟨(some 22), .ex 1 (.t 14), none⟩ ::⟨(some 12), .mv (.t 21), none⟩ ::⟨(some 13), .mv (.t 22), none⟩ :: [])) (.seq (.seq (.reg (⟨(some 23), .mv (.t 13), none⟩ ::⟨(some 24), .bin .neq (.t 23) (.c (.int .i64 0)), none⟩ :: [])) (.cond (.t 24) (.seq (.reg (⟨(some 25), .bld [.int .i64 0, .nils] [], none⟩ ::⟨(some 26), .mv (.t 13), none⟩ ::⟨none, .st 2 (.t 10) (.t 25), none⟩ ::⟨(some 11), .mv (.t 26), none⟩ :: [])) .ret) .skip)) (.seq (.reg (⟨(some 27), .mv (.t 0), none⟩ ::⟨(some 28), .ld 5 true (.t 6), none⟩ ::⟨(some 29), .call (.c (.fn 30 [])) [(.t 28)], none⟩ ::⟨(some 30), .fd 0 1 false (.t 29), none⟩ ::⟨(some 31), .mv (.t 12), none⟩ ::⟨(some 32), .call (.c (.fn 13 [])) [(.t 27), (.t 30), (.t 31)], none⟩ ::⟨(some 33), .ex 0 (.t 32), none⟩ ::⟨(some 34), .ex 1 (.t 32), none⟩ ::⟨none, .st 2 (.t 10) (.t 33), none⟩ ::⟨(some 11), .mv (.t 34), none⟩ :: [])) .ret))))
theorem cd_fretworkref13_Times : Code1 Tryz.prog 11 35 ir_fretworkref13_Times [.c 2 true 10, .t 11] := ⟨Tryz.call11, _, _, Tryz.func11, rfl, by kernel_rfl, by kernel_rfl, by kernel_rfl, by kernel_rfl⟩

set_option maxHeartbeats 4000000 in
theorem fo_r13Times (r : Int) (rows cols : Int) (st col val : List Int) (n : Int) (f : List Nat) (v : List Int) (g : List Nat) (o : Bool) (hval : Zb val) (hn : I64 n) (hw : Wd f) (hf : f.length ≤ 1000000) (hv : v.length ≤ 1000000) (hvb : Zb v) (hg : Wd g) (hgl : g.length ≤ 1000000) :
    FO Tryz.prog 11 [.int .i64 r, MX rows cols st col val, DV n f v, U g, .bool o] (VO (timesR r (mS rows cols st col val) (dS n f v) g o)) [.arr 2 (its (timesR r (mS rows cols st col val) (dS n f v) g o).2.1)] := by
  refine fo_of_cvc mixed cd_fretworkref13_Times (by simp) ?_
  have c1 := fs_r13Sums r rows cols st col val n f v g o hval hn hw hf hv hvb hg hgl
  have c2 := fs_r7Sure rows cols st col val
  have hM := okM_mS rows cols st col val
  have hwS := sumsR_w (r := r) (m := mS rows cols st col val) (x := dS n f v) (g := g) (o := o) (zb_mS hval) (zb_dS hvb)
  have hlS := sumsR_len (r := r) (m := mS rows cols st col val) (x := dS n f v) (g := g) (o := o) hM.r1
  obtain ⟨t, ht⟩ : ∃ t, timesR r (mS rows cols st col val) (dS n f v) g o = t := ⟨_, rfl⟩
  rw [ht]
  unfold timesR at ht
  generalize sumsR r (mS rows cols st col val) (dS n f v) g o = S at *
  generalize mS rows cols st col val = m at *
  obtain ⟨L, e⟩ := S
  obtain ⟨mr, mc, ms, mk, mv⟩ := m
  have c1' : FS Tryz.prog 9 [.int .i64 r, MX rows cols st col val, DV n f v, U g, .bool o] (.tup [SM L, .int .i64 e]) := c1
  have c2' : FS Tryz.prog 30 [MX rows cols st col val] (MX mr mc ms mk mv) := c2
  have c3 := fo_r13Done r mr L (by simp only at hlS; omega) hwS
  simp only at ht
  by_cases he : e = 0
  · rw [if_pos he] at ht
    rw [ht] at c3
    unfold VO at c3
    repeat' (conv => whnf); first
      | ((refine Or.inl ⟨by rfl, _, c1', ?_⟩))
      | ((refine Or.inl ⟨by rfl, _, c2', ?_⟩))
      | ((refine Or.inr (Or.inl ⟨by rfl, _, _, c3, ?_⟩)))
      | ((refine Br.beq (by rfl) ?_))
      | ((refine Br.bne (by rfl) ?_))
      | ((refine And.intro (Or.inl (Nat.zero_le _)) ?_))
      | ((refine And.intro (show _ ≤ _ from Nat.le_of_ble_eq_true rfl) ?_))
      | ((refine And.intro (by intro y hy; simp at hy; subst hy; rfl) ?_))
      | (refine Br.tt ?_)
      | (refine Br.ff ?_)
      | (refine Br.dec (fun h => ?_) (fun h => ?_)) <;> try (exfalso; omega)
      | (refine Br.neg ?_)
      | (refine Br.mk (fun h => ?_) (fun h => ?_))
      | (refine And.intro rfl ?_)
      | (refine And.intro (by omega) ?_)
      | (refine ⟨_, Or.inl ⟨⟨by omega, by omega⟩, rfl⟩, ?_⟩)
      | (refine And.intro (by simp only [lens_all, zs_len, U_len, sms_len, its_len, ints_len]; first | done | omega) ?_)
      | (refine And.intro (Nat.le_refl _) ?_)
      | fail
    exact Or.inr (Or.inr (FoS.one 3 (MatL.tup (.cons (MatL.agg (.cons (.same _ rfl) (.cons (.osl 0 3 2 0 _ rfl) .nil))) (.cons (.same _ rfl) .nil))) rfl rfl))
  · rw [if_neg he] at ht
    subst ht
    repeat' (conv => whnf); first
      | ((refine Or.inl ⟨by rfl, _, c1', ?_⟩))
      | ((refine Br.beq (by rfl) ?_))
      | ((refine Br.bne (by rfl) ?_))
      | ((refine And.intro (Or.inl (Nat.zero_le _)) ?_))
      | ((refine And.intro (show _ ≤ _ from Nat.le_of_ble_eq_true rfl) ?_))
      | ((refine And.intro (by intro y hy; simp at hy; subst hy; rfl) ?_))
      | (refine Br.tt ?_)
      | (refine Br.ff ?_)
      | (refine Br.dec (fun h => ?_) (fun h => ?_)) <;> try (exfalso; omega)
      | (refine Br.neg ?_)
      | (refine Br.mk (fun h => ?_) (fun h => ?_))
      | (refine And.intro rfl ?_)
      | (refine And.intro (by omega) ?_)
      | (refine ⟨_, Or.inl ⟨⟨by omega, by omega⟩, rfl⟩, ?_⟩)
      | (refine And.intro (by simp only [lens_all, zs_len, U_len, sms_len, its_len, ints_len]; first | done | omega) ?_)
      | (refine And.intro (Nat.le_refl _) ?_)
      | fail
    exact fop_err
theorem fs_r13Times (r : Int) (rows cols : Int) (st col val : List Int) (n : Int) (f : List Nat) (v : List Int) (g : List Nat) (o : Bool) (hval : Zb val) (hn : I64 n) (hw : Wd f) (hf : f.length ≤ 1000000) (hv : v.length ≤ 1000000) (hvb : Zb v) (hg : Wd g) (hgl : g.length ≤ 1000000) :
    FS Tryz.prog 11 [.int .i64 r, MX rows cols st col val, DV n f v, U g, .bool o] (VE (timesR r (mS rows cols st col val) (dS n f v) g o)) :=
  fs_of_fo (fo_r13Times r rows cols st col val n f v g o hval hn hw hf hv hvb hg hgl) (fz_VO _)
end
section
open Go.RowKit
attribute [local irreducible] FS FO IT HS

theorem timesR_len {r : Int} {m : Mat5} {x : Den3} {g : List Nat} {o : Bool} (h : m.1 ≤ 4096) : (timesR r m x g o).2.1.length ≤ 4096 := by
  unfold timesR
  split
  · exact Nat.le_trans (doneR_len _ _ _) (sumsR_len h)
  · exact Nat.zero_le _
theorem sms_cut (q : List (Int × Int)) : SM (q.take 60) = .slc 3 (((sms q).take 60).drop 0) := by
  rw [List.drop_zero]
  show SV.slc 3 (sms (q.take 60)) = _
  rw [show sms (q.take 60) = (sms q).take 60 by simp [sms, List.map_take]]

def ir_fretworklaw13_PullTells : IR :=
(.seq (.reg (⟨(some 3), .bx (.t 0), none⟩ ::⟨(some 6), .mv (.c (.bool false)), none⟩ :: [])) (.seq (.seq (.reg (⟨(some 22), .mv (.t 2), none⟩ ::⟨(some 23), .ln (.t 22), none⟩ ::⟨(some 24), .bin .gtr (.t 23) (.c (.int .i64 60)), none⟩ :: [])) (.cond (.t 24) (.reg (⟨(some 25), .mv (.t 2), none⟩ ::⟨(some 26), .sl 3 (.t 25) none (some (.c (.int .i64 60))) none, none⟩ ::⟨(some 2), .mv (.t 26), none⟩ :: [])) .skip)) (.seq (.draw (⟨(some 27), .ld 8 true (.t 3), none⟩ ::⟨(some 28), .call (.c (.fn 4 [])) [(.t 27)], none⟩ ::⟨(some 29), .ld 8 true (.t 3), none⟩ ::⟨(some 30), .fa 4 (.t 3), none⟩ ::⟨(some 31), .ld 1 false (.t 30), none⟩ ::⟨(some 32), .call (.c (.fn 6 [])) [(.t 29), (.t 31)], none⟩ ::⟨(some 33), .call (.c (.fn 5 [])) [(.t 32)], none⟩ ::⟨(some 34), .ld 8 true (.t 3), none⟩ ::⟨(some 35), .call (.c (.fn 7 [])) [(.t 34)], none⟩ ::⟨(some 7), .al [.int .i64 0, .int .i64 0, .nils, .nils, .nils], none⟩ ::⟨(some 8), .al [.int .i64 0, .nils, .nils], none⟩ :: []) (⟨none, .st 5 (.t 7) (.t 28), none⟩ ::⟨none, .st 3 (.t 8) (.t 33), none⟩ ::⟨(some 9), .mv (.t 35), none⟩ :: [])) (.seq (.reg (⟨(some 37), .fa 0 (.t 3), none⟩ ::⟨(some 38), .ld 1 false (.t 37), none⟩ ::⟨(some 39), .ld 5 true (.t 7), none⟩ ::⟨(some 40), .ld 3 true (.t 8), none⟩ ::⟨(some 41), .mv (.t 9), none⟩ ::⟨(some 42), .fa 7 (.t 3), none⟩ ::⟨(some 43), .ld 1 false (.t 42), none⟩ ::⟨(some 44), .call (.c (.fn 8 [])) [(.t 38), (.t 39), (.t 40), (.t 41), (.t 43)], none⟩ ::⟨(some 36), .mv (.t 44), none⟩ ::⟨(some 45), .ex 0 (.t 36), none⟩ ::⟨(some 46), .ex 1 (.t 36), none⟩ ::⟨(some 10), .mv (.t 45), none⟩ ::⟨(some 11), .mv (.t 46), none⟩ :: [])) (.seq (.reg (⟨(some 48), .fa 0 (.t 3), none⟩ ::⟨(some 49), .ld 1 false (.t 48), none⟩ ::⟨(some 50), .ld 5 true (.t 7), none⟩ ::⟨(some 51), .ld 3 true (.t 8), none⟩ ::⟨(some 52), .mv (.t 9), none⟩ ::⟨(some 53), .fa 7 (.t 3), none⟩ ::⟨(some 54), .ld 1 false (.t 53), none⟩ ::⟨(some 55), .call (.c (.fn 9 [])) [(.t 49), (.t 50), (.t 51), (.t 52), (.t 54)], none⟩ ::⟨(some 47), .mv (.t 55), none⟩ ::⟨(some 56), .ex 0 (.t 47), none⟩ ::⟨(some 57), .ex 1 (.t 47), none⟩ ::⟨(some 12), .mv (.t 56), none⟩ ::⟨(some 13), .mv (.t 57), none⟩ :: [])) (.seq (.reg (⟨(some 59), .fa 0 (.t 3), none⟩ ::⟨(some 60), .ld 1 false (.t 59), none⟩ ::⟨(some 61), .ld 5 true (.t 7), none⟩ ::⟨(some 62), .ld 3 true (.t 8), none⟩ ::⟨(some 63), .mv (.t 9), none⟩ ::⟨(some 64), .fa 7 (.t 3), none⟩ ::⟨(some 65), .ld 1 false (.t 64), none⟩ ::⟨(some 66), .call (.c (.fn 10 [])) [(.t 60), (.t 61), (.t 62), (.t 63), (.t 65)], none⟩ ::⟨(some 58), .mv (.t 66), none⟩ ::⟨(some 67), .ex 0 (.t 58), none⟩ ::⟨(some 68), .ex 1 (.t 58), none⟩ ::⟨(some 14), .al [.int .i64 0, .nils], none⟩ ::⟨none, .st 2 (.t 14) (.t 67), none⟩ ::⟨(some 15), .mv (.t 68), none⟩ :: [])) (.seq (.reg (⟨(some 70), .fa 0 (.t 3), none⟩ ::⟨(some 71), .ld 1 false (.t 70), none⟩ ::⟨(some 72), .ld 5 true (.t 7), none⟩ ::⟨(some 73), .ld 3 true (.t 8), none⟩ ::⟨(some 74), .mv (.t 9), none⟩ ::⟨(some 75), .fa 7 (.t 3), none⟩ ::⟨(some 76), .ld 1 false (.t 75), none⟩ ::⟨(some 77), .call (.c (.fn 11 [])) [(.t 71), (.t 72), (.t 73), (.t 74), (.t 76)], none⟩ ::⟨(some 69), .mv (.t 77), none⟩ ::⟨(some 78), .ex 0 (.t 69), none⟩ ::⟨(some 79), .ex 1 (.t 69), none⟩ ::⟨(some 16), .al [.int .i64 0, .nils], none⟩ ::⟨none, .st 2 (.t 16) (.t 78), none⟩ ::⟨(some 17), .mv (.t 79), none⟩ :: [])) (.seq (.reg (⟨(some 81), .fa 0 (.t 3), none⟩ ::⟨(some 82), .ld 1 false (.t 81), none⟩ ::⟨(some 83), .mv (.t 1), none⟩ ::⟨(some 84), .mv (.t 2), none⟩ ::⟨(some 85), .call (.c (.fn 12 [])) [(.t 82), (.t 83), (.t 84)], none⟩ ::⟨(some 80), .mv (.t 85), none⟩ ::⟨(some 86), .ex 0 (.t 80), none⟩ ::⟨(some 87), .ex 1 (.t 80), none⟩ ::⟨(some 18), .al [.int .i64 0, .nils], none⟩ ::⟨none, .st 2 (.t 18) (.t 86), none⟩ ::⟨(some 19), .mv (.t 87), none⟩ :: [])) (.seq (.reg (⟨(some 89), .fa 0 (.t 3), none⟩ ::⟨(some 90), .ld 1 false (.t 89), none⟩ ::⟨(some 91), .mv (.t 1), none⟩ ::⟨(some 92), .mv (.t 2), none⟩ ::⟨(some 93), .call (.c (.fn 13 [])) [(.t 90), (.t 91), (.t 92)], none⟩ ::⟨(some 88), .mv (.t 93), none⟩ ::⟨(some 94), .ex 0 (.t 88), none⟩ ::⟨(some 95), .ex 1 (.t 88), none⟩ ::⟨(some 20), .al [.int .i64 0, .nils], none⟩ ::⟨none, .st 2 (.t 20) (.t 94), none⟩ ::⟨(some 21), .mv (.t 95), none⟩ :: [])) (.seq (.reg (⟨(some 96), .call (.c (.fn 14 [])) [], none⟩ ::⟨(some 97), .mv (.t 96), none⟩ ::⟨(some 98), .mv (.t 10), some (97, true)⟩ ::⟨(some 99), .mv (.t 12), some (97, true)⟩ ::⟨(some 100), .call (.c (.fn 15 [])) [(.t 98), (.t 99)], some (97, true)⟩ ::⟨(some 101), .pick (.t 97) (.t 100) (.c (.bool false)), none⟩ ::⟨(some 102), .mv (.t 101), none⟩ ::⟨(some 103), .mv (.t 11), some (102, true)⟩ ::⟨(some 104), .mv (.t 13), some (102, true)⟩ ::⟨(some 105), .bin .eql (.t 103) (.t 104), some (102, true)⟩ ::⟨(some 106), .pick (.t 102) (.t 105) (.c (.bool false)), none⟩ ::⟨(some 107), .mv (.t 106), none⟩ ::⟨(some 108), .ld 2 true (.t 14), some (107, true)⟩ ::⟨(some 109), .ld 2 true (.t 16), some (107, true)⟩ ::⟨(some 110), .call (.c (.fn 16 [])) [(.t 108), (.t 109)], some (107, true)⟩ ::⟨(some 111), .pick (.t 107) (.t 110) (.c (.bool false)), none⟩ ::⟨(some 112), .mv (.t 111), none⟩ ::⟨(some 113), .mv (.t 15), some (112, true)⟩ ::⟨(some 114), .mv (.t 17), some (112, true)⟩ ::⟨(some 115), .bin .eql (.t 113) (.t 114), some (112, true)⟩ ::⟨(some 116), .pick (.t 112) (.t 115) (.c (.bool false)), none⟩ ::⟨(some 117), .mv (.t 116), none⟩ ::⟨(some 118), .ld 2 true (.t 18), some (117, true)⟩ ::⟨(some 119), .ld 2 true (.t 20), some (117, true)⟩ ::⟨(some 120), .call (.c (.fn 16 [])) [(.t 118), (.t 119)], some (117, true)⟩ ::⟨(some 121), .pick (.t 117) (.t 120) (.c (.bool false)), none⟩ ::⟨(some 122), .mv (.t 121), none⟩ ::⟨(some 123), .mv (.t 19), some (122, true)⟩ ::⟨(some 124), .mv (.t 21), some (122, true)⟩ ::⟨(some 125), .bin .eql (.t 123) (.t 124), some (122, true)⟩ ::⟨(some 126), .pick (.t 122) (.t 125) (.c (.bool false)), none⟩ ::⟨(some 6), .mv (.t 126), none⟩ :: [])) .ret))))))))))
theorem cd_fretworklaw13_PullTells : Code1 Tryz.prog 3 127 ir_fretworklaw13_PullTells [.t 6] := ⟨Tryz.call3, _, _, Tryz.func3, rfl, by kernel_rfl, by kernel_rfl, by kernel_rfl, by kernel_rfl⟩

section
variable (r a b : Int) (l : List Tri) (x y : List (Int × Int)) (f : List Nat) (o : Bool) (n : Int) (q : List (Int × Int)) (ha : 0 ≤ a ∧ a ≤ 255) (hb : 0 ≤ b ∧ b ≤ 255) (hl : ∀ x ∈ l, I64 x.2.2) (hx : Ib x) (hf : Wd f) (hq : ∀ x ∈ q, W128 x.2)
include ha hb hl hx hf hq
set_option maxHeartbeats 16000000 in
theorem fs_PullTells : FS Tryz.prog 3 [TK r a b l x y f o, .int .i64 n, SM q] (.bool true) := by
  refine fs_of_cvc mixed cd_fretworklaw13_PullTells (by simp) ?_
  have k2 := fs_Matrix r a b l x y f o ha hb hl
  have k3 := fs_Vector r a b l x y f o x hb hx
  have k4 := fs_Rows13 r a b l x y f o
  have hm := tkM_ok (r := r) ha hb hl
  have hzb := zb_fac (r := r) ha hb hl
  obtain ⟨e1, hv, hvi, hvl⟩ := tkV_V (r := r) hb hx
  rw [e1] at k3
  have k5 := fs_r10Of (b.tmod 40) (tkV r b x).2 (by omega)
  rw [hv.sn, hv.sl] at k5
  have hzv : Zb (toL (b.tmod 40) (tkV r b x).2) := zb_toL fun z hz => by obtain ⟨n, hn, e⟩ := hvi z hz; rw [e]; exact valR_i hn
  have hD := okD_to hv
  have hfw : Wd (f.take 2) := fun x hx => hf x (List.mem_of_mem_take hx)
  have hfl : (f.take 2).length ≤ 1000000 := by simp; omega
  generalize f.take 2 = g at *
  obtain ⟨hM, _, hm1, hm2⟩ := hm
  generalize hmm : tkM r a b l = m at *
  obtain ⟨m1, m2, m3, m4, mv⟩ := m
  simp only at hM hzb hm1 hm2
  have k2' : FS Tryz.prog 4 [TK r a b l x y f o] (MX m1 m2 m3 m4 mv) := k2
  rw [← hm2] at k3 k5 hv hzv hD
  generalize (tkV r b x).2 = W at *
  have hc0 := hM.c0
  have hc1 := hM.c1
  have hr1 := hM.r1
  have iN : I64 m2 := by unfold I64; omega
  unfold dV at k5
  have q1 := fs_pSums r m1 m2 m3 m4 mv m2 (toF m2 W) (toL m2 W) g o hzb iN hD.wd (dl_f hv) (dl_v hv) hzv hfw
  have q2 := fs_r13Sums r m1 m2 m3 m4 mv m2 (toF m2 W) (toL m2 W) g o hzb iN hD.wd (dl_f hv) (dl_v hv) hzv hfw hfl
  have q3 := fs_pTimes r m1 m2 m3 m4 mv m2 (toF m2 W) (toL m2 W) g o hzb iN hD.wd (dl_f hv) (dl_v hv) hzv hfw
  have q4 := fs_r13Times r m1 m2 m3 m4 mv m2 (toF m2 W) (toL m2 W) g o hzb iN hD.wd (dl_f hv) (dl_v hv) hzv hfw hfl
  have hM' := okM_mS m1 m2 m3 m4 mv
  have hwS := sumsR_w (r := r) (m := mS m1 m2 m3 m4 mv) (x := dS m2 (toF m2 W) (toL m2 W)) (g := g) (o := o) (zb_mS hzb) (zb_dS hzv)
  have hlS := sumsR_len (r := r) (m := mS m1 m2 m3 m4 mv) (x := dS m2 (toF m2 W) (toL m2 W)) (g := g) (o := o) hM'.r1
  have hlT := timesR_len (r := r) (m := mS m1 m2 m3 m4 mv) (x := dS m2 (toF m2 W) (toL m2 W)) (g := g) (o := o) hM'.r1
  generalize sumsR r (mS m1 m2 m3 m4 mv) (dS m2 (toF m2 W) (toL m2 W)) g o = S at *
  generalize timesR r (mS m1 m2 m3 m4 mv) (dS m2 (toF m2 W) (toL m2 W)) g o = T at *
  obtain ⟨L, e⟩ := S
  obtain ⟨tn, tl, te⟩ := T
  simp only at hwS hlS hlT
  have q1' : FS Tryz.prog 8 [.int .i64 r, MX m1 m2 m3 m4 mv, DV m2 (toF m2 W) (toL m2 W), U g, .bool o] (.tup [SM L, .int .i64 e]) := q1
  have q2' : FS Tryz.prog 9 [.int .i64 r, MX m1 m2 m3 m4 mv, DV m2 (toF m2 W) (toL m2 W), U g, .bool o] (.tup [SM L, .int .i64 e]) := q2
  have q3' : FS Tryz.prog 10 [.int .i64 r, MX m1 m2 m3 m4 mv, DV m2 (toF m2 W) (toL m2 W), U g, .bool o] (.tup [VC tn tl, .int .i64 te]) := q3
  have q4' : FS Tryz.prog 11 [.int .i64 r, MX m1 m2 m3 m4 mv, DV m2 (toF m2 W) (toL m2 W), U g, .bool o] (.tup [VC tn tl, .int .i64 te]) := q4
  have s1 := fs_SameSums L L (by omega) hwS hwS
  rw [decide_eq_true rfl] at s1
  have s2 := fs_same9 tn tl (by omega)
  have hql := sms_len q
  clear q1 q2 q3 q4 k2
  generalize toF m2 W = F at *
  generalize toL m2 W = Z0 at *
  by_cases hqs : q.length ≤ 60
  · have d1 := fs_pDone r n q (by omega) hq
    have d2 := fs_r13Done r n q (by omega) hq
    have hdl := doneR_len r n q
    generalize doneR r n q = D at *
    obtain ⟨dn, dl, de⟩ := D
    simp only at hdl
    have d1' : FS Tryz.prog 12 [.int .i64 r, .int .i64 n, SM q] (.tup [VC dn dl, .int .i64 de]) := d1
    have d2' : FS Tryz.prog 13 [.int .i64 r, .int .i64 n, SM q] (.tup [VC dn dl, .int .i64 de]) := d2
    have s3 := fs_same9 dn dl (by omega)
    repeat' (conv => whnf); first
      | ((refine Or.inl ⟨by rfl, _, k2', ?_⟩))
      | ((refine Or.inl ⟨by rfl, _, k3, ?_⟩))
      | ((refine Or.inl ⟨by rfl, _, k4, ?_⟩))
      | ((refine Or.inl ⟨by rfl, _, k5, ?_⟩))
      | ((refine Or.inl ⟨by rfl, _, q1', ?_⟩))
      | ((refine Or.inl ⟨by rfl, _, q2', ?_⟩))
      | ((refine Or.inl ⟨by rfl, _, q3', ?_⟩))
      | ((refine Or.inl ⟨by rfl, _, q4', ?_⟩))
      | ((refine Or.inl ⟨by rfl, _, d1', ?_⟩))
      | ((refine Or.inl ⟨by rfl, _, d2', ?_⟩))
      | ((refine Or.inl ⟨by rfl, _, s1, ?_⟩))
      | ((refine Or.inl ⟨by rfl, _, s2, ?_⟩))
      | ((refine Or.inl ⟨by rfl, _, s3, ?_⟩))
      | ((refine Or.inl ⟨by rfl, _, fs_live13, ?_⟩))
      | ((refine ex_but 2 ?_; refine And.intro ?_ ?_; focus ((repeat' (first | exact trivial | exact rfl | (refine And.intro ?_ ?_) | omega | exact Nat.le_of_ble_eq_true rfl | ((conv => whnf); first | exact trivial | exact rfl | (refine And.intro ?_ ?_)))); done)))
      | ((exact rfl))
      | ((exact trivial))
      | ((refine And.intro ?_ ?_; focus ((repeat' (first | exact trivial | exact rfl | (refine And.intro ?_ ?_) | omega | exact Nat.le_of_ble_eq_true rfl | ((conv => whnf); first | exact trivial | exact rfl | (refine And.intro ?_ ?_)))); done)))
      | ((refine Br.beq (by rfl) ?_))
      | ((refine Br.bne (by rfl) ?_))
      | ((refine And.intro (Or.inl (Nat.zero_le _)) ?_))
      | ((refine And.intro (show _ ≤ _ from Nat.le_of_ble_eq_true rfl) ?_))
      | (refine Br.tt ?_)
      | (refine Br.ff ?_)
      | (refine Br.dec (fun h => ?_) (fun h => ?_)) <;> try (exfalso; omega)
      | (refine Br.neg ?_)
      | (refine Br.mk (fun h => ?_) (fun h => ?_))
      | (refine And.intro rfl ?_)
      | (refine And.intro (by omega) ?_)
      | (refine ⟨_, Or.inl ⟨⟨by omega, by omega⟩, rfl⟩, ?_⟩)
      | (refine And.intro (by simp only [lens_all, zs_len, U_len, sms_len, its_len, eds_len]; first | done | omega) ?_)
      | (refine And.intro (Nat.le_refl _) ?_)
      | fail
    all_goals first | exact rfl | (show SV.bool _ = SV.bool true; simp)
  · have hq' : ∀ x ∈ q.take 60, W128 x.2 := fun x hx => hq x (List.mem_of_mem_take hx)
    have hql' : (q.take 60).length ≤ 60 := by simp; omega
    have d1 := fs_pDone r n (q.take 60) (by omega) hq'
    have d2 := fs_r13Done r n (q.take 60) (by omega) hq'
    have hdl := doneR_len r n (q.take 60)
    generalize doneR r n (q.take 60) = D at *
    obtain ⟨dn, dl, de⟩ := D
    simp only at hdl
    have d1' : FS Tryz.prog 12 [.int .i64 r, .int .i64 n, SM (q.take 60)] (.tup [VC dn dl, .int .i64 de]) := d1
    have d2' : FS Tryz.prog 13 [.int .i64 r, .int .i64 n, SM (q.take 60)] (.tup [VC dn dl, .int .i64 de]) := d2
    have s3 := fs_same9 dn dl (by omega)
    rw [sms_cut] at d1' d2'
    repeat' (conv => whnf); first
      | ((refine Or.inl ⟨by rfl, _, k2', ?_⟩))
      | ((refine Or.inl ⟨by rfl, _, k3, ?_⟩))
      | ((refine Or.inl ⟨by rfl, _, k4, ?_⟩))
      | ((refine Or.inl ⟨by rfl, _, k5, ?_⟩))
      | ((refine Or.inl ⟨by rfl, _, q1', ?_⟩))
      | ((refine Or.inl ⟨by rfl, _, q2', ?_⟩))
      | ((refine Or.inl ⟨by rfl, _, q3', ?_⟩))
      | ((refine Or.inl ⟨by rfl, _, q4', ?_⟩))
      | ((refine Or.inl ⟨by rfl, _, d1', ?_⟩))
      | ((refine Or.inl ⟨by rfl, _, d2', ?_⟩))
      | ((refine Or.inl ⟨by rfl, _, s1, ?_⟩))
      | ((refine Or.inl ⟨by rfl, _, s2, ?_⟩))
      | ((refine Or.inl ⟨by rfl, _, s3, ?_⟩))
      | ((refine Or.inl ⟨by rfl, _, fs_live13, ?_⟩))
      | ((refine ex_but 2 ?_; refine And.intro ?_ ?_; focus ((repeat' (first | exact trivial | exact rfl | (refine And.intro ?_ ?_) | omega | exact Nat.le_of_ble_eq_true rfl | ((conv => whnf); first | exact trivial | exact rfl | (refine And.intro ?_ ?_)))); done)))
      | ((exact rfl))
      | ((exact trivial))
      | ((refine And.intro ?_ ?_; focus ((repeat' (first | exact trivial | exact rfl | (refine And.intro ?_ ?_) | omega | exact Nat.le_of_ble_eq_true rfl | ((conv => whnf); first | exact trivial | exact rfl | (refine And.intro ?_ ?_)))); done)))
      | ((refine Br.beq (by rfl) ?_))
      | ((refine Br.bne (by rfl) ?_))
      | ((refine And.intro (Or.inl (Nat.zero_le _)) ?_))
      | ((refine And.intro (show _ ≤ _ from Nat.le_of_ble_eq_true rfl) ?_))
      | (refine Br.tt ?_)
      | (refine Br.ff ?_)
      | (refine Br.dec (fun h => ?_) (fun h => ?_)) <;> try (exfalso; omega)
      | (refine Br.neg ?_)
      | (refine Br.mk (fun h => ?_) (fun h => ?_))
      | (refine And.intro rfl ?_)
      | (refine And.intro (by omega) ?_)
      | (refine ⟨_, Or.inl ⟨⟨by omega, by omega⟩, rfl⟩, ?_⟩)
      | (refine And.intro (by simp only [lens_all, zs_len, U_len, sms_len, its_len, eds_len]; first | done | omega) ?_)
      | (refine And.intro (Nat.le_refl _) ?_)
      | fail
    all_goals first | exact rfl | (show SV.bool _ = SV.bool true; simp)
end
end
end Go.Proofs.YtllpapoejafloaaGreat
