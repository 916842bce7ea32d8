/- Parts of a vector, one behind the other; a vector of its own items (plain). Sparse vectors: what must be whatever is asked; the laws SpvecOf, SpvecDoes. Vectors one behind the other, handed over as the caller's own; the law SpvecGlues. -/
import Derived.Test.YtahpfomabgfmkaaC1
namespace Go.Proofs.Ytahpfomabgfmkaa
section
open Go.RowKit
attribute [local irreducible] FS FO IT HS

theorem ptR_in {n a b : Int} (l : List (Int × Int)) (h0 : 0 ≤ a) (h1 : a ≤ b) (h2 : b ≤ n) : ptR n l a b = (b - a, ptI a b l) := by
  unfold ptR
  have e1 : max a 0 = a := by omega
  have e2 : min b n = b := by omega
  rw [e1, e2]
  by_cases h : b ≤ a
  · rw [if_pos h]
    have hab : a = b := by omega
    subst hab
    refine Prod.ext (by show (0 : Int) = a - a; omega) ?_
    show [] = ptI a a l
    unfold ptI
    rw [List.filter_eq_nil_iff.2 fun x _ => by simp]
    rfl
  · rw [if_neg h]
theorem gt_mvI (b k : Int) : ∀ (l : List (Int × Int)), gt (mvI b l) k = gt l (k - b)
  | [] => rfl
  | x :: l => by
    have ih := gt_mvI b k l
    have e : mvI b (x :: l) = (b + x.1, x.2) :: mvI b l := rfl
    rw [e, gt_cons, gt_cons, ih]
    by_cases h : b + x.1 = k
    · rw [if_pos h, if_pos (by omega)]
    · rw [if_neg h, if_neg (by omega)]
theorem gt_out {n : Int} {l : List (Int × Int)} (h : OkV n l) {k : Int} (hk : ¬ (0 ≤ k ∧ k < n)) : gt l k = none := gt_none fun x hx e => hk (by have := h.lo x hx; omega)
theorem ptI_all {n : Int} {l : List (Int × Int)} (h : OkV n l) : ptI 0 n l = l := by
  refine up_ext (up_ptI h.up) h.up fun k => ?_
  rw [gt_ptI h.up, Int.sub_zero, Int.zero_add]
  by_cases hk : 0 ≤ k ∧ k < n
  · rw [if_pos hk]
  · rw [if_neg hk, gt_out h hk]
theorem gl_step {n a b : Int} {l : List (Int × Int)} (h : OkV n l) (h0 : 0 ≤ a) (h1 : a ≤ b) (h2 : b ≤ n) : glS (a, ptI 0 a l) (ptR n l a b) = (b, ptI 0 b l) := by
  have hp := okV_ptI h h0 h2 h1
  rw [ptR_in l h0 h1 h2]
  unfold glS
  rw [hp.sn, hp.sl]
  refine Prod.ext (by show a + (b - a) = b; omega) ?_
  show ptI 0 a l ++ mvI a (ptI a b l) = ptI 0 b l
  refine up_ext (up_append (up_ptI h.up) (up_mvI hp.up) fun x hx y hy => ?_) (up_ptI h.up) fun k => ?_
  · obtain ⟨z, hz, rfl⟩ := List.mem_map.1 hy
    have h3 := hp.lo z hz
    have h4 := (okV_ptI h (Int.le_refl 0) (by omega) h0).lo x hx
    show x.1 < a + z.1
    omega
  · rw [gt_append, gt_mvI, gt_ptI h.up, gt_ptI h.up, gt_ptI h.up]
    rw [Int.zero_add, Int.sub_zero, Int.sub_zero, show a + (k - a) = k by omega]
    by_cases hk : 0 ≤ k ∧ k < a
    · rw [if_pos hk, if_neg (by omega), if_pos (by omega), Option.or_none]
    · rw [if_neg hk, Option.none_or]
      by_cases hk2 : 0 ≤ k ∧ k < b
      · rw [if_pos hk2, if_pos (by omega)]
      · rw [if_neg hk2, if_neg (by omega)]
theorem gl_zero {n : Int} {l : List (Int × Int)} (h : OkV n l) : ((0 : Int), ([] : List (Int × Int))) = (0, ptI 0 0 l) := by
  refine Prod.ext rfl ?_
  have := ptR_in (n := n) l (Int.le_refl 0) (Int.le_refl 0) h.n0
  unfold ptR at this
  rw [if_pos (by have := h.n0; omega)] at this
  exact congrArg Prod.snd this
theorem glR_two {n a : Int} {l : List (Int × Int)} (h : OkV n l) (h0 : 0 ≤ a) (h1 : a ≤ n) : glR [ptR n l 0 a, ptR n l a n] = (n, l, 0) := by
  have e : glK [ptR n l 0 a, ptR n l a n] 2 = (n, l) := by
    show glS (glS (0, []) (ptR n l 0 a)) (ptR n l a n) = _
    rw [gl_zero h, gl_step h (Int.le_refl 0) h0 h1, gl_step h h0 h1 (Int.le_refl n), ptI_all h]
  unfold glR
  rw [show [ptR n l 0 a, ptR n l a n].length = 2 from rfl, e, if_pos h.n1]
theorem glR_three {n a b : Int} {l : List (Int × Int)} (h : OkV n l) (h0 : 0 ≤ a) (h1 : a ≤ b) (h2 : b ≤ n) : glR [ptR n l 0 a, ptR n l a b, ptR n l b n] = (n, l, 0) := by
  have e : glK [ptR n l 0 a, ptR n l a b, ptR n l b n] 3 = (n, l) := by
    show glS (glS (glS (0, []) (ptR n l 0 a)) (ptR n l a b)) (ptR n l b n) = _
    rw [gl_zero h, gl_step h (Int.le_refl 0) h0 (by omega), gl_step h h0 h1 h2, gl_step h (by omega) h2 (Int.le_refl n), ptI_all h]
  unfold glR
  rw [show [ptR n l 0 a, ptR n l a b, ptR n l b n].length = 3 from rfl, e, if_pos h.n1]
theorem ptR_part {n k m : Int} {l : List (Int × Int)} (h : OkV n l) (hk0 : 0 ≤ k) (hk : k ≤ n) (_hm : 0 ≤ m) : ptR (n - k) (ptI k n l) 0 m = ptR n l k (k + m) := by
  have hp := okV_ptI h hk0 (Int.le_refl n) hk
  unfold ptR
  have e1 : max (0 : Int) 0 = 0 := rfl
  have e2 : max k 0 = k := by omega
  have e3 : min (k + m) n = k + min m (n - k) := by omega
  rw [e1, e2, e3]
  by_cases hq : min m (n - k) ≤ 0
  · rw [if_pos hq, if_pos (by omega)]
  · rw [if_neg hq, if_neg (by omega)]
    have hq2 : min m (n - k) ≤ n - k := by omega
    generalize min m (n - k) = q at *
    refine Prod.ext (by show q - 0 = k + q - k; omega) ?_
    refine up_ext (up_ptI hp.up) (up_ptI h.up) fun j => ?_
    rw [gt_ptI hp.up, gt_ptI h.up, gt_ptI h.up, Int.sub_zero, Int.zero_add]
    by_cases hj : 0 ≤ j ∧ j < q
    · rw [if_pos hj, if_pos (by omega), if_pos (by omega)]
    · rw [if_neg hj, if_neg (by omega)]

theorem putI_last {p v : Int} : ∀ {A : List (Int × Int)}, (∀ y ∈ A, y.1 < p) → putI p v A = A ++ [(p, v)]
  | [], _ => rfl
  | x :: A, h => by
    have hx := h x List.mem_cons_self
    rw [putI, if_neg (by omega), putI_last fun y hy => h y (List.mem_cons_of_mem _ hy)]
    rfl
theorem sm_take {r : Int} {l : List (Int × Int)} (hu : Up l) : ∀ i, i ≤ l.length → sm r l i = l.take i
  | 0, _ => rfl
  | i + 1, h => by
    obtain ⟨x, hx⟩ : ∃ x, l[i]? = some x := ⟨_, List.getElem?_eq_getElem (by omega)⟩
    have hlt : ∀ y ∈ l.take i, y.1 < x.1 := fun y hy => by
      obtain ⟨j, hj, rfl⟩ := List.getElem_of_mem hy
      have hji : j < i := by simp at hj; omega
      have := List.pairwise_iff_getElem.1 hu j i (by omega) (by omega) hji
      rw [List.getElem_take]
      have e : l[i] = x := by
        have := List.getElem?_eq_getElem (l := l) (i := i) (by omega)
        rw [hx] at this; exact (Option.some.inj this).symm
      rw [← e]; exact this
    rw [sm_more hx, sm_take hu i (by omega), List.take_add_one, hx]
    have hn : gt (l.take i) x.1 = none := gt_none fun y hy e => by have := hlt y hy; omega
    unfold smI smV
    rw [hn]
    exact putI_last hlt
theorem ofR_self {r n : Int} {l : List (Int × Int)} (hr : isR r = true) (h : OkV n l) (hb : Ib l) : ofR r n l = (n, l, 0) := by
  have hall : l.all (inN n) = true := List.all_eq_true.2 fun x hx => by
    have := h.lo x hx
    unfold inN
    rw [decide_eq_true this.1, decide_eq_true this.2]; rfl
  rw [ofR_sm r n l hr ⟨h.n0, h.n1⟩ hall, sm_take h.up _ (Nat.le_refl _), List.take_length]
  unfold smE
  rw [if_pos (List.all_eq_true.2 fun x hx => fits_i (hb x hx).2)]
  refine Prod.ext rfl (Prod.ext ?_ rfl)
  show l.map (fun x => (x.1, nar x.2)) = l
  have : l.map (fun x => (x.1, nar x.2)) = l.map id := List.map_congr_left fun x hx => by rw [nar_of (hb x hx).2]; rfl
  rw [this, List.map_id]
end
section
open Go.RowKit
attribute [local irreducible] FS FO IT HS

theorem okV_lv : OkV 5 [(1, 2), (3, 10)] := by
  refine ⟨by omega, by omega, ?_, fun x hx => ?_⟩
  · exact List.pairwise_cons.2 ⟨fun y hy => by simp at hy; subst hy; show (1 : Int) < 3; omega, List.pairwise_singleton _ _⟩
  · simp at hx
    rcases hx with rfl | rfl <;> exact ⟨by simp, by simp⟩

def ir_fretworklaw09_live : IR :=
(.seq (.reg (⟨(some 0), .mv (.c (.bool false)), none⟩ :: [])) (.seq (.reg (⟨(some 10), .bld [.int .i64 0, .int .i64 0] [(0, 1, (.c (.int .i64 3))), (1, 1, (.c (.int .i64 4)))], none⟩ ::⟨(some 11), .bld [.int .i64 0, .int .i64 0] [(0, 1, (.c (.int .i64 1))), (1, 1, (.c (.int .i64 2)))], none⟩ ::⟨(some 12), .bld [.int .i64 0, .int .i64 0] [(0, 1, (.c (.int .i64 3))), (1, 1, (.c (.int .i64 6)))], none⟩ ::⟨(some 13), .bsl 3 2 [.int .i64 0, .int .i64 0] [(0, (.t 10)), (1, (.t 11)), (2, (.t 12))], none⟩ ::⟨(some 14), .call (.c (.fn 49 [])) [(.c (.int .i64 5)), (.c (.int .i64 5)), (.t 13)], none⟩ ::⟨(some 9), .mv (.t 14), none⟩ ::⟨(some 15), .ex 0 (.t 9), none⟩ ::⟨(some 16), .ex 1 (.t 9), none⟩ ::⟨(some 1), .al [.int .i64 0, .nils], none⟩ ::⟨none, .st 2 (.t 1) (.t 15), none⟩ ::⟨(some 2), .mv (.t 16), none⟩ :: [])) (.seq (.reg (⟨(some 18), .ld 2 true (.t 1), none⟩ ::⟨(some 19), .call (.c (.fn 44 [])) [(.t 18), (.c (.int .i64 3))], none⟩ ::⟨(some 17), .mv (.t 19), none⟩ ::⟨(some 20), .ex 0 (.t 17), none⟩ ::⟨(some 21), .ex 1 (.t 17), none⟩ ::⟨(some 3), .mv (.t 20), none⟩ ::⟨(some 4), .mv (.t 21), none⟩ :: [])) (.seq (.reg (⟨(some 23), .bld [.int .i64 0, .int .i64 0] [(0, 1, (.c (.int .i64 1)))], none⟩ ::⟨(some 24), .bsl 1 2 [.int .i64 0, .int .i64 0] [(0, (.t 23))], none⟩ ::⟨(some 25), .call (.c (.fn 49 [])) [(.c (.int .i64 2)), (.c (.int .i64 1)), (.t 24)], none⟩ ::⟨(some 22), .mv (.t 25), none⟩ ::⟨(some 26), .ex 0 (.t 22), none⟩ ::⟨(some 27), .ex 1 (.t 22), none⟩ ::⟨(some 5), .al [.int .i64 0, .nils], none⟩ ::⟨none, .st 2 (.t 5) (.t 26), none⟩ ::⟨(some 6), .mv (.t 27), none⟩ :: [])) (.seq (.drawL (⟨(some 29), .ld 2 true (.t 1), none⟩ ::⟨(some 30), .call (.c (.fn 42 [])) [(.t 29), (.c (.int .i64 0)), (.c (.int .i64 2))], none⟩ ::⟨(some 31), .ld 2 true (.t 1), none⟩ ::⟨(some 32), .call (.c (.fn 42 [])) [(.t 31), (.c (.int .i64 2)), (.c (.int .i64 5))], none⟩ ::⟨(some 33), .bsl 2 2 [.int .i64 0, .nils] [(0, (.t 30)), (1, (.t 32))], none⟩ ::⟨(some 34), .call (.c (.fn 43 [])) [(.t 33)], none⟩ ::⟨(some 28), .mv (.t 34), none⟩ ::⟨(some 35), .ex 0 (.t 28), none⟩ ::⟨(some 36), .ex 1 (.t 28), none⟩ ::⟨(some 7), .al [.int .i64 0, .nils], none⟩ :: []) (⟨(some 36), .ex 1 (.t 28), none⟩ :: []) (⟨none, .st 2 (.t 7) (.t 35), none⟩ :: []) (⟨(some 8), .mv (.t 36), none⟩ :: [])) (.seq (.draw (⟨(some 37), .mv (.t 2), none⟩ ::⟨(some 38), .bin .eql (.t 37) (.c (.int .i64 0)), none⟩ ::⟨(some 39), .mv (.t 38), none⟩ ::⟨(some 40), .mv (.t 3), some (39, true)⟩ ::⟨(some 41), .bin .eql (.t 40) (.c (.int .i64 10)), some (39, true)⟩ ::⟨(some 42), .pick (.t 39) (.t 41) (.c (.bool false)), none⟩ ::⟨(some 43), .mv (.t 42), none⟩ ::⟨(some 44), .mv (.t 4), some (43, true)⟩ ::⟨(some 45), .pick (.t 43) (.t 44) (.c (.bool false)), none⟩ ::⟨(some 46), .mv (.t 45), none⟩ ::⟨(some 47), .mv (.t 6), some (46, true)⟩ ::⟨(some 48), .bin .eql (.t 47) (.c (.int .i64 3)), some (46, true)⟩ ::⟨(some 49), .pick (.t 46) (.t 48) (.c (.bool false)), none⟩ ::⟨(some 50), .mv (.t 49), none⟩ ::⟨(some 51), .ld 2 true (.t 7), some (50, true)⟩ ::⟨(some 52), .ld 2 true (.t 1), some (50, true)⟩ ::⟨(some 53), .call (.c (.fn 19 [])) [(.t 51), (.t 52)], some (50, true)⟩ ::⟨(some 54), .pick (.t 50) (.t 53) (.c (.bool false)), none⟩ ::⟨(some 55), .mv (.t 54), none⟩ ::⟨(some 56), .mv (.t 8), some (55, true)⟩ ::⟨(some 57), .bin .eql (.t 56) (.c (.int .i64 0)), some (55, true)⟩ ::⟨(some 58), .pick (.t 55) (.t 57) (.c (.bool false)), none⟩ ::⟨(some 59), .mv (.t 58), none⟩ ::⟨(some 60), .ld 2 true (.t 1), some (59, true)⟩ ::⟨(some 61), .call (.c (.fn 59 [])) [(.t 60)], some (59, true)⟩ ::⟨(some 62), .bsl 2 1 [.int .i64 0] [(0, (.c (.int .i64 1))), (1, (.c (.int .i64 3)))], some (59, true)⟩ ::⟨(some 63), .call (.c (.fn 58 [])) [(.t 61), (.t 62)], some (59, true)⟩ ::⟨(some 64), .pick (.t 59) (.t 63) (.c (.bool false)), none⟩ ::⟨(some 65), .mv (.t 64), none⟩ ::⟨(some 66), .ld 2 true (.t 1), some (65, true)⟩ ::⟨(some 67), .call (.c (.fn 61 [])) [(.t 66)], some (65, true)⟩ ::⟨(some 68), .fd 1 1 false (.t 67), some (65, true)⟩ ::⟨(some 69), .ia 2 (.t 68) (.c (.int .i64 1)), some (65, true)⟩ ::⟨(some 70), .fa 1 (.t 69), some (65, true)⟩ ::⟨(some 71), .ld 1 false (.t 70), some (65, true)⟩ ::⟨(some 72), .bin .eql (.t 71) (.c (.int .i64 3)), some (65, true)⟩ ::⟨(some 73), .pick (.t 65) (.t 72) (.c (.bool false)), none⟩ ::⟨(some 74), .mv (.t 73), none⟩ ::⟨(some 75), .ld 2 true (.t 1), some (74, true)⟩ ::⟨(some 76), .call (.c (.fn 47 [])) [(.t 75), (.c (.int .i64 2)), (.c (.int .i64 1))], some (74, true)⟩ ::⟨(some 77), .fd 1 1 false (.t 76), some (74, true)⟩ ::⟨(some 78), .ln (.t 77), some (74, true)⟩ ::⟨(some 79), .bin .eql (.t 78) (.c (.int .i64 3)), some (74, true)⟩ ::⟨(some 80), .pick (.t 74) (.t 79) (.c (.bool false)), none⟩ ::⟨(some 81), .mv (.t 80), none⟩ ::⟨(some 82), .ld 2 true (.t 1), some (81, true)⟩ ::⟨(some 83), .call (.c (.fn 48 [])) [(.t 82), (.c (.int .i64 3))], some (81, true)⟩ ::⟨(some 84), .fd 1 1 false (.t 83), some (81, true)⟩ ::⟨(some 85), .ln (.t 84), some (81, true)⟩ ::⟨(some 86), .bin .eql (.t 85) (.c (.int .i64 1)), some (81, true)⟩ ::⟨(some 87), .pick (.t 81) (.t 86) (.c (.bool false)), none⟩ ::⟨(some 88), .mv (.t 87), none⟩ ::⟨(some 89), .call (.c (.fn 45 [])) [(.c (.int .i64 4)), (.c (.int .i64 7))], some (88, true)⟩ ::⟨(some 90), .fd 1 1 false (.t 89), some (88, true)⟩ ::⟨(some 91), .ln (.t 90), some (88, true)⟩ ::⟨(some 92), .bin .eql (.t 91) (.c (.int .i64 4)), some (88, true)⟩ ::⟨(some 93), .pick (.t 88) (.t 92) (.c (.bool false)), none⟩ ::⟨(some 94), .mv (.t 93), none⟩ ::⟨(some 95), .ld 2 true (.t 1), some (94, true)⟩ ::⟨(some 96), .call (.c (.fn 54 [])) [(.t 95)], some (94, true)⟩ ::⟨(some 97), .pick (.t 94) (.t 96) (.c (.bool false)), none⟩ ::⟨(some 98), .mv (.t 97), none⟩ ::⟨(some 99), .bld [.int .i64 0, .nils] [(0, 1, (.c (.int .i64 (-1))))], some (98, true)⟩ ::⟨(some 100), .call (.c (.fn 54 [])) [(.t 99)], some (98, true)⟩ ::⟨(some 101), .un .not (.t 100), some (98, true)⟩ ::⟨(some 102), .pick (.t 98) (.t 101) (.c (.bool false)), none⟩ ::⟨(some 103), .mv (.t 102), none⟩ ::⟨(some 104), .ld 2 true (.t 1), some (103, true)⟩ ::⟨(some 105), .ld 2 true (.t 1), some (103, true)⟩ ::⟨(some 106), .call (.c (.fn 46 [])) [(.t 104), (.t 105)], some (103, true)⟩ ::⟨(some 107), .pick (.t 103) (.t 106) (.c (.bool false)), none⟩ ::⟨(some 108), .mv (.t 107), none⟩ ::⟨(some 109), .ld 2 true (.t 1), some (108, true)⟩ ::⟨(some 110), .ld 2 true (.t 1), some (108, true)⟩ ::⟨(some 111), .call (.c (.fn 42 [])) [(.t 110), (.c (.int .i64 0)), (.c (.int .i64 2))], some (108, true)⟩ :: []) (⟨(some 112), .call (.c (.fn 46 [])) [(.t 109), (.t 111)], some (108, true)⟩ ::⟨(some 113), .un .not (.t 112), some (108, true)⟩ ::⟨(some 114), .pick (.t 108) (.t 113) (.c (.bool false)), none⟩ ::⟨(some 0), .mv (.t 114), none⟩ :: [])) .ret))))))
theorem cd_fretworklaw09_live : Code1 Try.prog 51 115 ir_fretworklaw09_live [.t 0] := ⟨Try.call51, _, _, Try.func51, rfl, by kernel_rfl, by kernel_rfl, by kernel_rfl, by kernel_rfl⟩

set_option maxHeartbeats 8000000 in
set_option maxRecDepth 100000 in
theorem fs_live09 : FS Try.prog 51 [] (.bool true) := by
  have h := okV_lv
  have c1 := fs_vOf 5 5 [(3, 4), (1, 2), (3, 6)] (by simp) (IbL _ (by decide))
  rw [show ofR 5 5 [(3, 4), (1, 2), (3, 6)] = (5, [(1, 2), (3, 10)], 0) by kernel_rfl] at c1
  have c2 := fs_Get 5 [(1, 2), (3, 10)] 3 (by simp)
  rw [show valI (sl 5 [(1, 2), (3, 10)]) 3 = 10 by kernel_rfl, show hasI' (sl 5 [(1, 2), (3, 10)]) 3 = true by kernel_rfl] at c2
  have c3 := fs_vOf 2 1 [(1, 0)] (by simp) (IbL _ (by decide))
  rw [show ofR 2 1 [(1, 0)] = (0, [], 3) by kernel_rfl] at c3
  have c4 := fs_vPart 5 [(1, 2), (3, 10)] 0 2 (by simp) (I64c rfl) (I64c rfl)
  rw [show ptR (sn 5 [(1, 2), (3, 10)]) (sl 5 [(1, 2), (3, 10)]) 0 2 = (2, [(1, 2)]) by kernel_rfl] at c4
  have c5 := fs_vPart 5 [(1, 2), (3, 10)] 2 5 (by simp) (I64c rfl) (I64c rfl)
  rw [show ptR (sn 5 [(1, 2), (3, 10)]) (sl 5 [(1, 2), (3, 10)]) 2 5 = (3, [(1, 10)]) by kernel_rfl] at c5
  have c6 := fs_vGlue [(2, [(1, 2)]), (3, [(1, 10)])] (by simp) (by intro v hv; simp at hv; rcases hv with rfl | rfl <;> simp)
  rw [show glR [(2, [(1, 2)]), (3, [(1, 10)])] = (5, [(1, 2), (3, 10)], 0) by kernel_rfl] at c6
  have c7 := fs_same9 5 [(1, 2), (3, 10)] (by simp)
  have c8 := fs_vPlaces 5 [(1, 2), (3, 10)] (by simp)
  rw [show plsI (sl 5 [(1, 2), (3, 10)]) = [1, 3] by kernel_rfl] at c8
  have c9 := fs_SameInts [1, 3] [1, 3] (by simp)
  rw [decide_eq_true (rfl : ([1, 3] : List Int) = [1, 3])] at c9
  have c10 := fs_vIndex 5 [(1, 2), (3, 10)] (by simp)
  rw [show sn 5 [(1, 2), (3, 10)] = 5 by kernel_rfl, show idxL (sl 5 [(1, 2), (3, 10)]) = [(1, 1), (3, 3)] by kernel_rfl] at c10
  have c11 := fs_vPut 5 [(1, 2), (3, 10)] 2 1 (by simp)
  rw [show sn 5 [(1, 2), (3, 10)] = 5 by kernel_rfl, show putR 5 (sl 5 [(1, 2), (3, 10)]) 2 1 = [(1, 2), (2, 1), (3, 10)] by kernel_rfl] at c11
  have c12 := fs_vDrop 5 [(1, 2), (3, 10)] 3 (by simp)
  rw [show sn 5 [(1, 2), (3, 10)] = 5 by kernel_rfl, show rest (fun x => decide (x.1 = 3)) (sl 5 [(1, 2), (3, 10)]) = [(1, 2)] by kernel_rfl] at c12
  have c13 := fs_Fill 4 7
  rw [if_pos (by omega), show filL (4 : Int).toNat 7 = [(0, 7), (1, 7), (2, 7), (3, 7)] by kernel_rfl] at c13
  have c14 := fs_vRight 5 [(1, 2), (3, 10)] (by simp)
  rw [show isV 5 [(1, 2), (3, 10)] = true by kernel_rfl] at c14
  have c15 := fs_vRight (-1) [] (by simp)
  rw [show isV (-1) [] = false by kernel_rfl] at c15
  have c15' : FS Try.prog 54 [.agg [.int .i64 (-1), .nils]] (.bool false) := fs_le c15 ⟨⟨rfl, rfl, trivial⟩, trivial⟩
  have c16 := fs_vSame 5 5 [(1, 2), (3, 10)] [(1, 2), (3, 10)] (by simp) (by simp)
  rw [show (decide ((5 : Int) = 5) && decide (([(1, 2), (3, 10)] : List (Int × Int)) = [(1, 2), (3, 10)])) = true by kernel_rfl] at c16
  have c17 := fs_vSame 5 2 [(1, 2), (3, 10)] [(1, 2)] (by simp) (by simp)
  rw [show (decide ((5 : Int) = 2) && decide (([(1, 2), (3, 10)] : List (Int × Int)) = [(1, 2)])) = false by kernel_rfl] at c17
  refine fs_of_cvc mixed cd_fretworklaw09_live (by simp) ?_
  repeat' (conv => whnf); first
    | ((refine Or.inl ⟨by rfl, _, c1, ?_⟩))
    | ((refine Or.inl ⟨by rfl, _, c2, ?_⟩))
    | ((refine Or.inl ⟨by rfl, _, c3, ?_⟩))
    | ((refine Or.inl ⟨by rfl, _, c4, ?_⟩))
    | ((refine Or.inl ⟨by rfl, _, c5, ?_⟩))
    | ((refine Or.inl ⟨by rfl, _, c6, ?_⟩))
    | ((refine Or.inl ⟨by rfl, _, c7, ?_⟩))
    | ((refine Or.inl ⟨by rfl, _, c8, ?_⟩))
    | ((refine Or.inl ⟨by rfl, _, c9, ?_⟩))
    | ((refine Or.inl ⟨by rfl, _, c10, ?_⟩))
    | ((refine Or.inl ⟨by rfl, _, c11, ?_⟩))
    | ((refine Or.inl ⟨by rfl, _, c12, ?_⟩))
    | ((refine Or.inl ⟨by rfl, _, c13, ?_⟩))
    | ((refine Or.inl ⟨by rfl, _, c14, ?_⟩))
    | ((refine Or.inl ⟨by rfl, _, c15', ?_⟩))
    | ((refine Or.inl ⟨by rfl, _, c16, ?_⟩))
    | ((refine Or.inl ⟨by rfl, _, c17, ?_⟩))
    | ((refine ex_but 2 ?_; refine And.intro ?_ ?_; focus ((repeat' (first | exact trivial | exact rfl | (refine And.intro ?_ ?_) | omega | exact Nat.le_of_ble_eq_true rfl | ((conv => whnf); first | exact trivial | exact rfl | (refine And.intro ?_ ?_)))); done)))
    | ((exact rfl))
    | ((exact trivial))
    | ((refine And.intro ?_ ?_; focus ((repeat' (first | exact trivial | exact rfl | (refine And.intro ?_ ?_) | omega | exact Nat.le_of_ble_eq_true rfl | ((conv => whnf); first | exact trivial | exact rfl | (refine And.intro ?_ ?_)))); done)))
    | ((refine fun x hx => ?_; cases hx))
    | ((refine Br.beq (by rfl) ?_))
    | ((refine Br.bne (by rfl) ?_))
    | ((refine And.intro (Or.inl (Nat.zero_le _)) ?_))
    | ((refine And.intro (show _ ≤ _ from Nat.le_of_ble_eq_true rfl) ?_))
    | (refine Br.tt ?_)
    | (refine Br.ff ?_)
    | (refine Br.dec (fun h => ?_) (fun h => ?_)) <;> try (exfalso; omega)
    | (refine Br.neg ?_)
    | (refine Br.mk (fun h => ?_) (fun h => ?_))
    | (refine And.intro rfl ?_)
    | (refine And.intro (by omega) ?_)
    | (refine ⟨_, Or.inl ⟨⟨by omega, by omega⟩, rfl⟩, ?_⟩)
    | (refine And.intro (by simp only [lens_all, its_len]; first | done | omega) ?_)
    | (refine And.intro (Nat.le_refl _) ?_)
    | fail
  all_goals exact rfl
end
section
open Go.RowKit
attribute [local irreducible] FS FO IT HS

set_option maxHeartbeats 8000000 in
theorem fo_vGlue (vs : List Vc) (hl : vs.length ≤ 1000000000) (hv : ∀ v ∈ vs, v.2.length ≤ 400000000) : FO Try.prog 43 [VL vs] (.tup [.agg [.int .i64 (glR vs).1, .osl 0 2 0 (glR vs).2.1.length], .int .i64 (glR vs).2.2]) [.arr 2 (its (glR vs).2.1)] := by
  refine fo_of_cvc mixed cd_spvec_Glue (by simp) ?_
  have hvl := vecs_len vs
  repeat' (conv => whnf); first
    | ((refine Br.beq (by rfl) ?_))
    | ((refine Br.bne (by rfl) ?_))
    | ((refine And.intro (Or.inl (Nat.zero_le _)) ?_))
    | ((refine And.intro (show _ ≤ _ from Nat.le_of_ble_eq_true rfl) ?_))
    | ((refine And.intro (its_scal' (by omega)) ?_))
    | ((refine And.intro (by intro y hy; simp at hy; subst hy; rfl) ?_))
    | (refine Br.tt ?_)
    | (refine Br.ff ?_)
    | (refine Br.dec (fun h => ?_) (fun h => ?_)) <;> try (exfalso; omega)
    | (refine Br.neg ?_)
    | (refine Br.mk (fun h => ?_) (fun h => ?_))
    | (refine And.intro rfl ?_)
    | (refine And.intro (by omega) ?_)
    | (refine ⟨_, Or.inl ⟨⟨by omega, by omega⟩, rfl⟩, ?_⟩)
    | (refine And.intro (by simp only [lens_all, its_len, vecs_len, mvI_len]; first | done | omega) ?_)
    | (refine And.intro (Nat.le_refl _) ?_)
    | fail
  refine ⟨Nat, fun k => k ≤ vs.length ∧ (glK vs k).1 ≤ 4096, fun k => [(2, .ptr 0 0 0 0), (4, .ptr 1 0 0 0), (8, VL vs), (9, .int .i64 (vs.length : Int)), (10, .int .i64 (k : Int))], fun k => [.vars [.int .i64 0, .nils], .vars [.int .i64 (glK vs k).1, .osl 2 2 0 (glK vs k).2.length], .arr 2 (its (glK vs k).2)], fun _ => none, fun k => vs.length - k,
    ⟨0, ⟨Nat.zero_le _, by show (0 : Int) ≤ 4096; omega⟩, ⟨rfl, rfl, rfl, ?_, rfl, trivial⟩, ⟨⟨rfl, rfl, trivial⟩, ⟨rfl, ⟨Nat.le_refl _, rfl, rfl⟩, trivial⟩, rfl, trivial⟩, rfl⟩, fun k hk => ?_⟩
  · exact congrArg (SV.int .i64) (congrArg Int.ofNat hvl)
  obtain ⟨hk1, hk2⟩ := hk
  have hok := okV_glK vs k hk2
  have hol := hok.le
  have hn0 := hok.n0
  have hil := its_len (glK vs k).2
  by_cases hkl : k < vs.length
  · obtain ⟨v, hx⟩ : ∃ v, vs.getD k (0, []) = v := ⟨_, rfl⟩
    have hvm : v ∈ vs := by rw [← hx]; simp [hkl]
    have hst := glK_more hkl
    rw [hx] at hst
    have hvo := okV v.1 v.2
    have hvle := hvo.le
    have hv0 := hvo.n0
    have hv1 := hvo.n1
    have hfin := glK_mono vs (k + 1) (vs.length - (k + 1))
    rw [show k + 1 + (vs.length - (k + 1)) = vs.length by omega] at hfin
    have hs1 : (glK vs (k + 1)).1 = (glK vs k).1 + sn v.1 v.2 := by rw [hst]; rfl
    have hs2 : (glK vs (k + 1)).2 = (glK vs k).2 ++ mvI (glK vs k).1 (sl v.1 v.2) := by rw [hst]; rfl
    have c1 := fo_each v.1 v.2 (by have := hv v hvm; omega) 93 [.box [.int .i64 (glK vs k).1] 0] (fun x => ((glK vs k).1 + x.1, x.2)) rfl fun x hx => by
      have h1 := hvo.lo x hx
      exact fs_glue1 _ x (by unfold I64; omega)
    have e1 : (sl v.1 v.2).map (fun x => ((glK vs k).1 + x.1, x.2)) = mvI (glK vs k).1 (sl v.1 v.2) := rfl
    rw [e1] at c1
    have hml := mvI_len (glK vs k).1 (sl v.1 v.2)
    have hal := its_len (mvI (glK vs k).1 (sl v.1 v.2))
    by_cases hbig : (glK vs k).1 + sn v.1 v.2 ≤ 4096
    · repeat' (conv => whnf); first
        | ((refine vecs_go (i := k) (by omega) hx ?_))
        | ((refine Or.inr (Or.inr (Or.inr (Or.inr (Or.inl ?_)))); (conv => whnf); refine ⟨_, _, c1, rfl, its_loose1 _, ?_⟩))
        | ((refine Br.beq (by rfl) ?_))
        | ((refine Br.bne (by rfl) ?_))
        | ((refine And.intro (Or.inl (Nat.zero_le _)) ?_))
        | ((refine And.intro (show _ ≤ _ from Nat.le_of_ble_eq_true rfl) ?_))
        | ((refine And.intro (its_scal' (by omega)) ?_))
        | ((refine And.intro (by intro y hy; simp at hy; subst hy; rfl) ?_))
        | (refine Br.tt ?_)
        | (refine Br.ff ?_)
        | (refine Br.dec (fun h => ?_) (fun h => ?_)) <;> try (exfalso; omega)
        | (refine Br.neg ?_)
        | (refine Br.mk (fun h => ?_) (fun h => ?_))
        | (refine And.intro rfl ?_)
        | (refine And.intro (by omega) ?_)
        | (refine ⟨_, Or.inl ⟨⟨by omega, by omega⟩, rfl⟩, ?_⟩)
        | (refine And.intro (by simp only [lens_all, its_len, vecs_len, mvI_len]; first | done | omega) ?_)
        | (refine And.intro (Nat.le_refl _) ?_)
        | fail
      conv => whnf
      refine ⟨[.dead, .vars [.int .i64 (glK vs k).1, .any], .dead, .vars [.int .i64 (sn v.1 v.2), .any], .dead, .dead], [2], fun _ _ => Or.inl (Nat.zero_le _), ?_, ?_, ?_⟩
      · repeat' (first | exact trivial | exact rfl | (refine And.intro ?_ ?_))
      · repeat' (first | exact trivial | exact rfl | (refine And.intro ?_ ?_) | omega | exact Nat.le_of_ble_eq_true rfl | ((conv => whnf); first | exact trivial | exact rfl | (refine And.intro ?_ ?_) | (refine ⟨_, Or.inl ⟨⟨by omega, by omega⟩, rfl⟩, ?_⟩)))
      · repeat' (conv => whnf); first
          | ((refine And.intro (Or.inr (List.mem_singleton.2 rfl)) ?_))
          | ((refine ex_but 9 ?_; refine And.intro ?_ ?_; focus ((repeat' (first | exact trivial | exact rfl | (refine And.intro ?_ ?_) | omega | exact Nat.le_of_ble_eq_true rfl | ((conv => whnf); first | exact trivial | exact rfl | (refine And.intro ?_ ?_)))); done)))
          | ((exact rfl))
          | ((exact trivial))
          | ((refine And.intro ?_ ?_; focus ((repeat' (first | exact trivial | exact rfl | (refine And.intro ?_ ?_) | omega | exact Nat.le_of_ble_eq_true rfl | ((conv => whnf); first | exact trivial | exact rfl | (refine And.intro ?_ ?_)))); done)))
          | ((refine Br.beq (by rfl) ?_))
          | ((refine Br.bne (by rfl) ?_))
          | ((refine And.intro (Or.inl (Nat.zero_le _)) ?_))
          | ((refine And.intro (show _ ≤ _ from Nat.le_of_ble_eq_true rfl) ?_))
          | ((refine And.intro (its_scal' (by omega)) ?_))
          | ((refine And.intro (by intro y hy; simp at hy; subst hy; rfl) ?_))
          | (refine Br.tt ?_)
          | (refine Br.ff ?_)
          | (refine Br.dec (fun h => ?_) (fun h => ?_)) <;> try (exfalso; omega)
          | (refine Br.neg ?_)
          | (refine Br.mk (fun h => ?_) (fun h => ?_))
          | (refine And.intro rfl ?_)
          | (refine And.intro (by omega) ?_)
          | (refine ⟨_, Or.inl ⟨⟨by omega, by omega⟩, rfl⟩, ?_⟩)
          | (refine And.intro (by simp only [lens_all, its_len, mvI_len]; first | done | omega) ?_)
          | (refine And.intro (Nat.le_refl _) ?_)
          | fail
        have htk : List.take (sl v.1 v.2).length (List.drop 0 (its (mvI (glK vs k).1 (sl v.1 v.2)))) = its (mvI (glK vs k).1 (sl v.1 v.2)) := by rw [← hml, frz_its]
        refine ⟨k + 1, ⟨by omega, by rw [hs1]; exact hbig⟩, (show vs.length - (k + 1) < vs.length - k by omega), ⟨rfl, rfl, rfl, rfl, rfl, trivial⟩, ⟨⟨rfl, rfl, trivial⟩, ⟨?_, ?_, trivial⟩, ?_, ⟨Nat.le_of_ble_eq_true rfl, rfl, rfl⟩⟩, rfl⟩
        · rw [hs1]; exact rfl
        · rw [hs2]; exact congrArg (SV.osl 2 2 0) (by rw [htk, hal, hml, List.length_append, hml])
        · rw [hs2, its_append]; exact congrArg (fun x => Blk.arr 2 (its (glK vs k).2 ++ x)) htk
    · repeat' (conv => whnf); first
        | ((refine vecs_go (i := k) (by omega) hx ?_))
        | ((refine Or.inr (Or.inr (Or.inr (Or.inr (Or.inl ?_)))); (conv => whnf); refine ⟨_, _, c1, rfl, its_loose1 _, ?_⟩))
        | ((refine Br.beq (by rfl) ?_))
        | ((refine Br.bne (by rfl) ?_))
        | ((refine And.intro (Or.inl (Nat.zero_le _)) ?_))
        | ((refine And.intro (show _ ≤ _ from Nat.le_of_ble_eq_true rfl) ?_))
        | ((refine And.intro (its_scal' (by omega)) ?_))
        | ((refine And.intro (by intro y hy; simp at hy; subst hy; rfl) ?_))
        | (refine Br.tt ?_)
        | (refine Br.ff ?_)
        | (refine Br.dec (fun h => ?_) (fun h => ?_)) <;> try (exfalso; omega)
        | (refine Br.neg ?_)
        | (refine Br.mk (fun h => ?_) (fun h => ?_))
        | (refine And.intro rfl ?_)
        | (refine And.intro (by omega) ?_)
        | (refine ⟨_, Or.inl ⟨⟨by omega, by omega⟩, rfl⟩, ?_⟩)
        | (refine And.intro (by simp only [lens_all, its_len, vecs_len, mvI_len]; first | done | omega) ?_)
        | (refine And.intro (Nat.le_refl _) ?_)
        | fail
      unfold glR
      rw [if_neg (by omega)]
      exact Or.inr (Or.inr (FoS.no (MatL.tup (.cons (MatL.agg (.cons (.same _ rfl) (.cons (.nil 0 2) .nil))) (.cons (.same _ rfl) .nil))) rfl))
  · obtain rfl : k = vs.length := by omega
    unfold glR
    rw [if_pos hk2]
    repeat' (conv => whnf); first
      | ((refine Br.beq (by rfl) ?_))
      | ((refine Br.bne (by rfl) ?_))
      | ((refine And.intro (Or.inl (Nat.zero_le _)) ?_))
      | ((refine And.intro (show _ ≤ _ from Nat.le_of_ble_eq_true rfl) ?_))
      | ((refine And.intro (its_scal' (by omega)) ?_))
      | ((refine And.intro (by intro y hy; simp at hy; subst hy; rfl) ?_))
      | (refine Br.tt ?_)
      | (refine Br.ff ?_)
      | (refine Br.dec (fun h => ?_) (fun h => ?_)) <;> try (exfalso; omega)
      | (refine Br.neg ?_)
      | (refine Br.mk (fun h => ?_) (fun h => ?_))
      | (refine And.intro rfl ?_)
      | (refine And.intro (by omega) ?_)
      | (refine ⟨_, Or.inl ⟨⟨by omega, by omega⟩, rfl⟩, ?_⟩)
      | (refine And.intro (by simp only [lens_all, its_len, vecs_len, mvI_len]; first | done | omega) ?_)
      | (refine And.intro (Nat.le_refl _) ?_)
      | fail
    exact Or.inr (Or.inr (FoS.one 2 (MatL.tup (.cons (MatL.agg (.cons (.same _ rfl) (.cons (.osl 0 2 2 0 _ rfl) .nil))) (.cons (.same _ rfl) .nil))) rfl rfl))

set_option maxHeartbeats 8000000 in
theorem fo_r9Glue (vs : List Vc) (hl : vs.length ≤ 1000000000) (hv : ∀ v ∈ vs, v.2.length ≤ 400000000) : FO Try.prog 64 [VL vs] (.tup [.agg [.int .i64 (glR vs).1, .osl 0 2 0 (glR vs).2.1.length], .int .i64 (glR vs).2.2]) [.arr 2 (its (glR vs).2.1)] := by
  refine fo_of_cvc mixed cd_fretworkref09_Glue (by simp) ?_
  have hvl := vecs_len vs
  repeat' (conv => whnf); first
    | ((refine Br.beq (by rfl) ?_))
    | ((refine Br.bne (by rfl) ?_))
    | ((refine And.intro (Or.inl (Nat.zero_le _)) ?_))
    | ((refine And.intro (show _ ≤ _ from Nat.le_of_ble_eq_true rfl) ?_))
    | ((refine And.intro (its_scal' (by omega)) ?_))
    | ((refine And.intro (by intro y hy; simp at hy; subst hy; rfl) ?_))
    | (refine Br.tt ?_)
    | (refine Br.ff ?_)
    | (refine Br.dec (fun h => ?_) (fun h => ?_)) <;> try (exfalso; omega)
    | (refine Br.neg ?_)
    | (refine Br.mk (fun h => ?_) (fun h => ?_))
    | (refine And.intro rfl ?_)
    | (refine And.intro (by omega) ?_)
    | (refine ⟨_, Or.inl ⟨⟨by omega, by omega⟩, rfl⟩, ?_⟩)
    | (refine And.intro (by simp only [lens_all, its_len, vecs_len, mvI_len]; first | done | omega) ?_)
    | (refine And.intro (Nat.le_refl _) ?_)
    | fail
  refine ⟨Nat, fun k => k ≤ vs.length ∧ (glK vs k).1 ≤ 4096, fun k => [(0, VL vs), (2, .ptr 0 0 0 0), (4, .ptr 1 0 0 0), (5, .int .i64 (k : Int))], fun k => [.vars [.int .i64 0, .nils], .vars [.int .i64 (glK vs k).1, .osl 2 2 0 (glK vs k).2.length], .arr 2 (its (glK vs k).2)], fun _ => none, fun k => vs.length - k,
    ⟨0, ⟨Nat.zero_le _, by show (0 : Int) ≤ 4096; omega⟩, ⟨rfl, rfl, rfl, rfl, trivial⟩, ⟨⟨rfl, rfl, trivial⟩, ⟨rfl, ⟨Nat.le_refl _, rfl, rfl⟩, trivial⟩, rfl, trivial⟩, rfl⟩, fun k hk => ?_⟩
  obtain ⟨hk1, hk2⟩ := hk
  have hok := okV_glK vs k hk2
  have hol := hok.le
  have hn0 := hok.n0
  by_cases hkl : k < vs.length
  · obtain ⟨v, hx⟩ : ∃ v, vs.getD k (0, []) = v := ⟨_, rfl⟩
    have hvm : v ∈ vs := by rw [← hx]; simp [hkl]
    have hst := glK_more hkl
    rw [hx] at hst
    have c1 := fs_r9Sure v.1 v.2 (by have := hv v hvm; omega)
    have hvo := okV v.1 v.2
    have hfin := glK_mono vs (k + 1) (vs.length - (k + 1))
    rw [show k + 1 + (vs.length - (k + 1)) = vs.length by omega] at hfin
    have hs1 : (glK vs (k + 1)).1 = (glK vs k).1 + sn v.1 v.2 := by rw [hst]; rfl
    have hs2 : (glK vs (k + 1)).2 = (glK vs k).2 ++ mvI (glK vs k).1 (sl v.1 v.2) := by rw [hst]; rfl
    have hal := its_len (sl v.1 v.2)
    have hvle := hvo.le
    have hv0 := hvo.n0
    have hv1 := hvo.n1
    repeat' (conv => whnf); first
      | ((refine vecs_go (i := k) (by omega) hx ?_))
      | ((refine Or.inl ⟨by rfl, _, c1, ?_⟩))
      | ((refine Br.beq (by rfl) ?_))
      | ((refine Br.bne (by rfl) ?_))
      | ((refine And.intro (Or.inl (Nat.zero_le _)) ?_))
      | ((refine And.intro (show _ ≤ _ from Nat.le_of_ble_eq_true rfl) ?_))
      | ((refine And.intro (its_scal' (by omega)) ?_))
      | ((refine And.intro (by intro y hy; simp at hy; subst hy; rfl) ?_))
      | (refine Br.tt ?_)
      | (refine Br.ff ?_)
      | (refine Br.dec (fun h => ?_) (fun h => ?_)) <;> try (exfalso; omega)
      | (refine Br.neg ?_)
      | (refine Br.mk (fun h => ?_) (fun h => ?_))
      | (refine And.intro rfl ?_)
      | (refine And.intro (by omega) ?_)
      | (refine ⟨_, Or.inl ⟨⟨by omega, by omega⟩, rfl⟩, ?_⟩)
      | (refine And.intro (by simp only [lens_all, its_len, vecs_len, mvI_len]; first | done | omega) ?_)
      | (refine And.intro (Nat.le_refl _) ?_)
      | fail
    refine ⟨Nat, fun j => j ≤ (sl v.1 v.2).length, fun j => [(0, VL vs), (2, .ptr 0 0 0 0), (4, .ptr 1 0 0 0), (5, .int .i64 (k : Int)), (6, .ptr 3 0 0 0), (7, .int .i64 (j : Int))],
      fun j => [.vars [.int .i64 0, .nils], .vars [.int .i64 (glK vs k).1, .osl 2 2 0 ((glK vs k).2 ++ mvI (glK vs k).1 ((sl v.1 v.2).take j)).length], .arr 2 (its ((glK vs k).2 ++ mvI (glK vs k).1 ((sl v.1 v.2).take j))), .vars [.int .i64 (sn v.1 v.2), IL (sl v.1 v.2)]], fun _ => none, fun j => (sl v.1 v.2).length - j,
      ⟨0, Nat.zero_le _, ⟨rfl, rfl, rfl, rfl, rfl, rfl, trivial⟩, ⟨⟨rfl, rfl, trivial⟩, ⟨rfl, ?_, trivial⟩, ?_, ⟨rfl, rfl, trivial⟩, trivial⟩, rfl⟩, fun j hj => ?_⟩
    · exact congrArg (SV.osl 2 2 0) (by simp [mvI])
    · exact congrArg (fun l => Blk.arr 2 (its l)) (by simp [mvI])
    have hj : j ≤ (sl v.1 v.2).length := hj
    by_cases hjl : j < (sl v.1 v.2).length
    · obtain ⟨y, hy⟩ : ∃ y, (sl v.1 v.2).getD j (0, 0) = y := ⟨_, rfl⟩
      have hym : y ∈ sl v.1 v.2 := by rw [← hy]; simp [hjl]
      have hyb := hvo.lo y hym
      have hmore : (glK vs k).2 ++ mvI (glK vs k).1 ((sl v.1 v.2).take (j + 1)) = ((glK vs k).2 ++ mvI (glK vs k).1 ((sl v.1 v.2).take j)) ++ [((glK vs k).1 + y.1, y.2)] := by
        rw [vtake_more hjl, hy, List.append_assoc]
        unfold mvI
        rw [List.map_append]; rfl
      have hlen : ((glK vs k).2 ++ mvI (glK vs k).1 ((sl v.1 v.2).take j)).length ≤ 8192 := by
        rw [List.length_append, mvI_len, List.length_take]; omega
      have hil := its_len ((glK vs k).2 ++ mvI (glK vs k).1 ((sl v.1 v.2).take j))
      repeat' (conv => whnf); first
        | ((refine its_go' (i := j) (by omega) hy ?_))
        | ((refine Br.beq (by rfl) ?_))
        | ((refine Br.bne (by rfl) ?_))
        | ((refine And.intro (Or.inl (Nat.zero_le _)) ?_))
        | ((refine And.intro (show _ ≤ _ from Nat.le_of_ble_eq_true rfl) ?_))
        | ((refine And.intro (its_scal' (by omega)) ?_))
        | ((refine And.intro (by intro y hy; simp at hy; subst hy; rfl) ?_))
        | (refine Br.tt ?_)
        | (refine Br.ff ?_)
        | (refine Br.dec (fun h => ?_) (fun h => ?_)) <;> try (exfalso; omega)
        | (refine Br.neg ?_)
        | (refine Br.mk (fun h => ?_) (fun h => ?_))
        | (refine And.intro rfl ?_)
        | (refine And.intro (by omega) ?_)
        | (refine ⟨_, Or.inl ⟨⟨by omega, by omega⟩, rfl⟩, ?_⟩)
        | (refine And.intro (by simp only [lens_all, its_len, mvI_len]; first | done | omega) ?_)
        | (refine And.intro (Nat.le_refl _) ?_)
        | fail
      refine ⟨j + 1, (show j + 1 ≤ (sl v.1 v.2).length by omega), (show (sl v.1 v.2).length - (j + 1) < (sl v.1 v.2).length - j by omega), ⟨rfl, rfl, rfl, rfl, rfl, rfl, trivial⟩, ⟨⟨rfl, rfl, trivial⟩, ⟨rfl, ?_, trivial⟩, ?_, ⟨rfl, rfl, trivial⟩, trivial⟩, rfl⟩
      · rw [hmore]; exact congrArg (SV.osl 2 2 0) (by simp [Nat.add_assoc])
      · rw [hmore, its_append _ [_]]; rfl
    · obtain rfl : j = (sl v.1 v.2).length := by omega
      have htk : (sl v.1 v.2).take (sl v.1 v.2).length = sl v.1 v.2 := List.take_length
      by_cases hbig : (glK vs k).1 + sn v.1 v.2 ≤ 4096
      · repeat' (conv => whnf); first
          | ((refine Br.beq (by rfl) ?_))
          | ((refine Br.bne (by rfl) ?_))
          | ((refine And.intro (Or.inl (Nat.zero_le _)) ?_))
          | ((refine And.intro (show _ ≤ _ from Nat.le_of_ble_eq_true rfl) ?_))
          | ((refine And.intro (its_scal' (by omega)) ?_))
          | ((refine And.intro (by intro y hy; simp at hy; subst hy; rfl) ?_))
          | (refine Br.tt ?_)
          | (refine Br.ff ?_)
          | (refine Br.dec (fun h => ?_) (fun h => ?_)) <;> try (exfalso; omega)
          | (refine Br.neg ?_)
          | (refine Br.mk (fun h => ?_) (fun h => ?_))
          | (refine And.intro rfl ?_)
          | (refine And.intro (by omega) ?_)
          | (refine ⟨_, Or.inl ⟨⟨by omega, by omega⟩, rfl⟩, ?_⟩)
          | (refine And.intro (by simp only [lens_all, its_len, vecs_len, mvI_len]; first | done | omega) ?_)
          | (refine And.intro (Nat.le_refl _) ?_)
          | fail
        refine ⟨k + 1, ⟨by omega, by rw [hs1]; exact hbig⟩, (show vs.length - (k + 1) < vs.length - k by omega), ⟨rfl, rfl, rfl, rfl, trivial⟩, ⟨⟨rfl, rfl, trivial⟩, ⟨?_, ?_, trivial⟩, ?_, ⟨(show 2 ≤ 3 by omega), rfl, rfl⟩⟩, rfl⟩
        · rw [hs1]; exact rfl
        · rw [hs2]; exact congrArg (fun l => SV.osl 2 2 0 ((glK vs k).2 ++ mvI (glK vs k).1 l).length) htk
        · rw [hs2]; exact congrArg (fun l => Blk.arr 2 (its ((glK vs k).2 ++ mvI (glK vs k).1 l))) htk
      · repeat' (conv => whnf); first
          | ((refine Br.beq (by rfl) ?_))
          | ((refine Br.bne (by rfl) ?_))
          | ((refine And.intro (Or.inl (Nat.zero_le _)) ?_))
          | ((refine And.intro (show _ ≤ _ from Nat.le_of_ble_eq_true rfl) ?_))
          | ((refine And.intro (its_scal' (by omega)) ?_))
          | ((refine And.intro (by intro y hy; simp at hy; subst hy; rfl) ?_))
          | (refine Br.tt ?_)
          | (refine Br.ff ?_)
          | (refine Br.dec (fun h => ?_) (fun h => ?_)) <;> try (exfalso; omega)
          | (refine Br.neg ?_)
          | (refine Br.mk (fun h => ?_) (fun h => ?_))
          | (refine And.intro rfl ?_)
          | (refine And.intro (by omega) ?_)
          | (refine ⟨_, Or.inl ⟨⟨by omega, by omega⟩, rfl⟩, ?_⟩)
          | (refine And.intro (by simp only [lens_all, its_len, vecs_len, mvI_len]; first | done | omega) ?_)
          | (refine And.intro (Nat.le_refl _) ?_)
          | fail
        unfold glR
        rw [if_neg (by omega)]
        exact Or.inr (Or.inr (FoS.no (MatL.tup (.cons (MatL.agg (.cons (.same _ rfl) (.cons (.nil 0 2) .nil))) (.cons (.same _ rfl) .nil))) rfl))
  · obtain rfl : k = vs.length := by omega
    unfold glR
    rw [if_pos hk2]
    repeat' (conv => whnf); first
      | ((refine Br.beq (by rfl) ?_))
      | ((refine Br.bne (by rfl) ?_))
      | ((refine And.intro (Or.inl (Nat.zero_le _)) ?_))
      | ((refine And.intro (show _ ≤ _ from Nat.le_of_ble_eq_true rfl) ?_))
      | ((refine And.intro (its_scal' (by omega)) ?_))
      | ((refine And.intro (by intro y hy; simp at hy; subst hy; rfl) ?_))
      | (refine Br.tt ?_)
      | (refine Br.ff ?_)
      | (refine Br.dec (fun h => ?_) (fun h => ?_)) <;> try (exfalso; omega)
      | (refine Br.neg ?_)
      | (refine Br.mk (fun h => ?_) (fun h => ?_))
      | (refine And.intro rfl ?_)
      | (refine And.intro (by omega) ?_)
      | (refine ⟨_, Or.inl ⟨⟨by omega, by omega⟩, rfl⟩, ?_⟩)
      | (refine And.intro (by simp only [lens_all, its_len, vecs_len, mvI_len]; first | done | omega) ?_)
      | (refine And.intro (Nat.le_refl _) ?_)
      | fail
    exact Or.inr (Or.inr (FoS.one 2 (MatL.tup (.cons (MatL.agg (.cons (.same _ rfl) (.cons (.osl 0 2 2 0 _ rfl) .nil))) (.cons (.same _ rfl) .nil))) rfl rfl))
end
end Go.Proofs.Ytahpfomabgfmkaa
