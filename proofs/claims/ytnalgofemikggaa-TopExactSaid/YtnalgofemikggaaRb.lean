/- Walks over the package ring: products. -/
import Derived.Test.YtnalgofemikggaaRa
import Derived.Outline
namespace Go.Proofs.Ytnalgofemikggaa
open Go.RowKit
theorem isR_of (r : Int) (h : 1 ≤ r ∧ r ≤ 5) : isR r = true := by unfold isR; simpa using h
theorem isR_no (r : Int) (h : ¬ (1 ≤ r ∧ r ≤ 5)) : isR r = false := by unfold isR; simpa using h
set_option maxHeartbeats 1000000 in
theorem ring_Mul2 (a x : Int) (w : World) :
    Calls Try.prog 28 #[.int .i64 2, .int .i64 a, .int .i64 x] w fun e w' => e = .returned (.agg #[.int .i64 (hi (rmul 2 a x)), .int .u64 (lo (rmul 2 a x))]) ∧ Ext w w' := by
  have br := Box.alloc w [.int .i64 0, .int .u64 0] 24
  by_cases h1 : a = 0
  · have E := Lib.hid (show rmul 2 a x = tru false by unfold rmul; simp [h1])
    have d1 : (a != 0) = false := by simp [h1]
    clear h1
    go_enter Try.func28, Try.ntmps28
    go_wp2_with (go_at_call 38; refine (ring_truth _ _).mono ?_; rintro e w1 ⟨rfl, k1⟩; have br := br.ext k1; obtain ⟨s2, c20, c21, f2⟩ := br.two)
    refine bodyPost_ret (v := .agg #[.int .i64 (hi (tru false)), .int .u64 (lo (tru false))]) (by simp [results, Try.results28, go_sem, c20, c21]) rfl ⟨by rw [E.out], ?_⟩
    repeat (first | exact Ext.refl _ | assumption | (refine Ext.setCell' ?_ (by simp <;> omega) _) | refine Ext.alloc' ?_ _ | refine Ext.drew' ?_ | (refine Ext.trans _ _ _ ?_ (by assumption)))
  · have d1 : (a != 0) = true := by simp [h1]
    by_cases h2 : x = 0
    · have E := Lib.hid (show rmul 2 a x = tru false by unfold rmul; simp [h2])
      have d2 : (x != 0) = false := by simp [h2]
      clear h1 h2
      go_enter Try.func28, Try.ntmps28
      go_wp2_with (go_at_call 38; refine (ring_truth _ _).mono ?_; rintro e w1 ⟨rfl, k1⟩; have br := br.ext k1; obtain ⟨s2, c20, c21, f2⟩ := br.two)
      refine bodyPost_ret (v := .agg #[.int .i64 (hi (tru false)), .int .u64 (lo (tru false))]) (by simp [results, Try.results28, go_sem, c20, c21]) rfl ⟨by rw [E.out], ?_⟩
      repeat (first | exact Ext.refl _ | assumption | (refine Ext.setCell' ?_ (by simp <;> omega) _) | refine Ext.alloc' ?_ _ | refine Ext.drew' ?_ | (refine Ext.trans _ _ _ ?_ (by assumption)))
    · have E := Lib.hid (show rmul 2 a x = tru true by unfold rmul; simp [h1, h2])
      have d2 : (x != 0) = true := by simp [h2]
      clear h1 h2
      go_enter Try.func28, Try.ntmps28
      go_wp2_with (go_at_call 38; refine (ring_truth _ _).mono ?_; rintro e w1 ⟨rfl, k1⟩; have br := br.ext k1; obtain ⟨s2, c20, c21, f2⟩ := br.two)
      refine bodyPost_ret (v := .agg #[.int .i64 (hi (tru true)), .int .u64 (lo (tru true))]) (by simp [results, Try.results28, go_sem, c20, c21]) rfl ⟨by rw [E.out], ?_⟩
      repeat (first | exact Ext.refl _ | assumption | (refine Ext.setCell' ?_ (by simp <;> omega) _) | refine Ext.alloc' ?_ _ | refine Ext.drew' ?_ | (refine Ext.trans _ _ _ ?_ (by assumption)))
set_option maxHeartbeats 1000000 in
theorem ring_Mul5 (a x : Int) (ha : I64 a) (hx : I64 x) (w : World) :
    Calls Try.prog 28 #[.int .i64 5, .int .i64 a, .int .i64 x] w fun e w' => e = .returned (.agg #[.int .i64 (hi (rmul 5 a x)), .int .u64 (lo (rmul 5 a x))]) ∧ Ext w w' := by
  have br := Box.alloc w [.int .i64 0, .int .u64 0] 24
  have E := Lib.hid (show rmul 5 a x = a * x by unfold rmul; simp)
  go_enter Try.func28, Try.ntmps28
  go_wp2_with (go_at_call 22; refine (wide_Mul _ _ ha hx _).mono ?_; rintro e w1 ⟨rfl, k1⟩; have br := br.ext k1; obtain ⟨s2, c20, c21, f2⟩ := br.two)
  refine bodyPost_ret (v := .agg #[.int .i64 (hi (a * x)), .int .u64 (lo (a * x))]) (by simp [results, Try.results28, go_sem, c20, c21]) rfl ⟨by rw [E.out], ?_⟩
  repeat (first | exact Ext.refl _ | assumption | (refine Ext.setCell' ?_ (by simp <;> omega) _) | refine Ext.alloc' ?_ _ | refine Ext.drew' ?_ | (refine Ext.trans _ _ _ ?_ (by assumption)))
set_option maxHeartbeats 1000000 in
theorem ring_Mul_no (r a x : Int) (hr : ¬ (1 ≤ r ∧ r ≤ 5)) (w : World) :
    Calls Try.prog 28 #[.int .i64 r, .int .i64 a, .int .i64 x] w fun e w' => e = .returned (.agg #[.int .i64 (hi (rmul r a x)), .int .u64 (lo (rmul r a x))]) ∧ Ext w w' := by
  have br := Box.alloc w [.int .i64 0, .int .u64 0] 24
  have E := Lib.hid (show rmul r a x = 0 by unfold rmul; rw [if_neg (by omega), if_neg (by omega), if_neg (by omega)])
  have hi0 := isR_no r hr
  have m1 : (r == 1) = false := by simp; omega
  have m2 : (r == 2) = false := by simp; omega
  have m3 : (r == 3) = false := by simp; omega
  have m4 : (r == 4) = false := by simp; omega
  have m5 : (r == 5) = false := by simp; omega
  clear hr
  go_enter Try.func28, Try.ntmps28
  go_wp2_with (go_at_call 39; refine (ring_Is _ _).mono ?_; rintro e w1 ⟨rfl, k1⟩; have br := br.ext k1; obtain ⟨s2, c20, c21, f2⟩ := br.two)
  refine bodyPost_ret (v := .agg #[.int .i64 0, .int .u64 0]) (by simp [results, Try.results28, go_sem, c20, c21, s2]) rfl ⟨by rw [E.out, zero_hi, zero_lo], ?_⟩
  repeat (first | exact Ext.refl _ | assumption | (refine Ext.setCell' ?_ (by simp <;> omega) _) | refine Ext.alloc' ?_ _ | refine Ext.drew' ?_ | (refine Ext.trans _ _ _ ?_ (by assumption)))
set_option maxRecDepth 100000 in
set_option maxHeartbeats 1000000 in
theorem ring_Mul1_lt (a x : Int) (ha : I64 a) (hx : I64 x) (hax : a < x) (w : World) :
    Calls Try.prog 28 #[.int .i64 1, .int .i64 a, .int .i64 x] w fun e w' => e = .returned (.agg #[.int .i64 (hi (rmul 1 a x)), .int .u64 (lo (rmul 1 a x))]) ∧ Ext w w' := by
  have br := Box.alloc w [.int .i64 0, .int .u64 0] 24
  have hi1 := isR_of 1 (by omega)
  have hI : I64 4611686018427387904 := by unfold I64; omega
  have hm : max a x = x := by omega
  by_cases h' : 4611686018427387904 ≤ x
  · have E := Lib.hid (show rmul 1 a x = 4611686018427387904 by unfold rmul Inf; rw [if_neg (by omega), if_neg (by omega), if_pos (by omega), if_pos (by omega)])
    clear hm
    go_enter Try.func28, Try.ntmps28
    go_wp2_with (first | (go_at_call 39; refine (ring_Is _ _).mono ?_; rintro e w1 ⟨rfl, k1⟩; have br := br.ext k1; obtain ⟨s2, c20, c21, f2⟩ := br.two) | (go_at_call 14; refine (wide_Of _ hI _).mono ?_; rintro e w2 ⟨rfl, k2⟩; have br := br.ext k2; obtain ⟨s2, c20, c21, f2⟩ := br.two))
    refine bodyPost_ret (v := .agg #[.int .i64 (hi (4611686018427387904)), .int .u64 (lo (4611686018427387904))]) (by simp [results, Try.results28, go_sem, c20, c21, s2]) rfl ⟨by rw [E.out], ?_⟩
    repeat (first | exact Ext.refl _ | assumption | (refine Ext.setCell' ?_ (by simp <;> omega) _) | refine Ext.alloc' ?_ _ | refine Ext.drew' ?_ | (refine Ext.trans _ _ _ ?_ (by assumption)))
  · have E := Lib.hid (show rmul 1 a x = min 4611686018427387904 (a + x) by
      have h : ¬ max a x ≥ Inf := by unfold Inf; omega
      unfold rmul; rw [if_neg (by omega), if_neg (by omega), if_pos (by omega), if_neg h, if_pos rfl]; rfl)
    clear hm
    have hW1 : W128 4611686018427387904 := by unfold W128; omega
    have hW2 : W128 (a + x) := by unfold I64 at ha hx; unfold W128; omega
    go_enter Try.func28, Try.ntmps28
    go_wp2_with (go_at_call 39; refine (ring_Is _ _).mono ?_; rintro e w1 ⟨rfl, k1⟩; have br := br.ext k1; obtain ⟨s2, c20, c21, f2⟩ := br.two)
    have b7 := Box.alloc w1 [.int .i64 0, .int .u64 0] 24
    refine (wide_Of _ ha _).mono ?_
    rintro e w2 ⟨rfl, k2⟩
    have hs := s2
    have b7 := b7.ext k2
    have br := br.ext (show Ext w1 w2 by (repeat (first | exact Ext.refl _ | assumption | (refine Ext.setCell' ?_ (by simp <;> omega) _) | refine Ext.alloc' ?_ _ | refine Ext.drew' ?_ | (refine Ext.trans _ _ _ ?_ (by assumption)))))
    clear s2 c20 c21 f2
    obtain ⟨s2, c20, c21, f2⟩ := br.two
    obtain ⟨s7, c70, c71, f7⟩ := b7.two
    go_wp2_with fail
    have br := br.far2 w1.heap.size (by omega) (.int .i64 (hi a)) (.int .u64 (lo a))
    have b7 := b7.set2 (.int .i64 (hi a)) (.int .u64 (lo a))
    have hx0 : Ext w1 ((w2.setCell ⟨w1.heap.size, 0, none⟩ (.int .i64 (hi a))).setCell ⟨w1.heap.size, 1, none⟩ (.int .u64 (lo a))) := by (repeat (first | exact Ext.refl _ | assumption | (refine Ext.setCell' ?_ (by simp <;> omega) _) | refine Ext.alloc' ?_ _ | refine Ext.drew' ?_ | (refine Ext.trans _ _ _ ?_ (by assumption))))
    generalize (w2.setCell ⟨w1.heap.size, 0, none⟩ (.int .i64 (hi a))).setCell ⟨w1.heap.size, 1, none⟩ (.int .u64 (lo a)) = w3 at *
    clear s2 c20 c21 f2 s7 c70 c71 f7
    obtain ⟨s7, c70, c71, f7⟩ := b7.two
    refine wp_region_rel_tail 6 51 Ext Ext.refl Ext.trans (by kernel_rfl) rfl (by kernel_rfl) ?_
    simp only [List.take_succ_cons, List.take_zero, List.drop_succ_cons, List.drop_zero]
    iterate 6
      first
        | (refine wpRel_skip ?_ ?_
           · (simp [go_sem]; done)
           simp only [Act.put, List.setIfInBounds_toArray, List.set_cons_zero, List.set_cons_succ])
        | (refine wpRel_ex ?_ ?_
           · (simp [go_sem]; done)
           apply Exists.intro
           refine ⟨fun σ w' hR hF => ?_, ?_⟩
           · have hcell := (Ext.trans _ _ _ (Ext.drew _) hR).cell
             clear hF
             simp only [fill]
             go_simp
             first
               | (go_at_call 14; refine (wide_Of _ (by assumption) _).mono ?_; rintro e w1 ⟨rfl, h1⟩; exact ⟨rfl, h1⟩)
               | (go_at_call 18; refine (wide_Add _ _ _).mono ?_; rintro e w1 ⟨rfl, h1⟩; exact ⟨rfl, h1⟩)
               | (go_at_call 40; refine (ring_lesser _ _ hW1 hW2 _).mono ?_; rintro e w1 ⟨rfl, h1⟩; exact ⟨rfl, h1⟩)
               | exact ⟨Ext.refl _, rfl⟩
           simp only [Act.put, List.setIfInBounds_toArray, List.set_cons_zero, List.set_cons_succ])
    intro σ w5 hRw5 _
    have hEw5 := Ext.trans _ _ _ (Ext.drew _) hRw5
    have hcellw5 := hEw5.cell
    have hfreew5 := hEw5.free
    simp only [fill]
    have br := br.ext hEw5
    obtain ⟨s2, c20, c21, f2⟩ := br.two
    go_wp2
    refine bodyPost_ret (v := .agg #[.int .i64 (hi (min 4611686018427387904 (a + x))), .int .u64 (lo (min 4611686018427387904 (a + x)))]) (by simp [results, Try.results28, go_sem, c20, c21, s2]) rfl ⟨by rw [E.out], ?_⟩
    repeat (first | exact Ext.refl _ | assumption | (refine Ext.setCell' ?_ (by simp <;> omega) _) | refine Ext.alloc' ?_ _ | refine Ext.drew' ?_ | (refine Ext.trans _ _ _ ?_ (by assumption)))
set_option maxRecDepth 100000 in
set_option maxHeartbeats 1000000 in
theorem ring_Mul1_ge (a x : Int) (ha : I64 a) (hx : I64 x) (hax : ¬ a < x) (w : World) :
    Calls Try.prog 28 #[.int .i64 1, .int .i64 a, .int .i64 x] w fun e w' => e = .returned (.agg #[.int .i64 (hi (rmul 1 a x)), .int .u64 (lo (rmul 1 a x))]) ∧ Ext w w' := by
  have br := Box.alloc w [.int .i64 0, .int .u64 0] 24
  have hi1 := isR_of 1 (by omega)
  have hI : I64 4611686018427387904 := by unfold I64; omega
  have hm : max a x = a := by omega
  by_cases h' : 4611686018427387904 ≤ a
  · have E := Lib.hid (show rmul 1 a x = 4611686018427387904 by unfold rmul Inf; rw [if_neg (by omega), if_neg (by omega), if_pos (by omega), if_pos (by omega)])
    clear hm
    go_enter Try.func28, Try.ntmps28
    go_wp2_with (first | (go_at_call 39; refine (ring_Is _ _).mono ?_; rintro e w1 ⟨rfl, k1⟩; have br := br.ext k1; obtain ⟨s2, c20, c21, f2⟩ := br.two) | (go_at_call 14; refine (wide_Of _ hI _).mono ?_; rintro e w2 ⟨rfl, k2⟩; have br := br.ext k2; obtain ⟨s2, c20, c21, f2⟩ := br.two))
    refine bodyPost_ret (v := .agg #[.int .i64 (hi (4611686018427387904)), .int .u64 (lo (4611686018427387904))]) (by simp [results, Try.results28, go_sem, c20, c21, s2]) rfl ⟨by rw [E.out], ?_⟩
    repeat (first | exact Ext.refl _ | assumption | (refine Ext.setCell' ?_ (by simp <;> omega) _) | refine Ext.alloc' ?_ _ | refine Ext.drew' ?_ | (refine Ext.trans _ _ _ ?_ (by assumption)))
  · have E := Lib.hid (show rmul 1 a x = min 4611686018427387904 (a + x) by
      have h : ¬ max a x ≥ Inf := by unfold Inf; omega
      unfold rmul; rw [if_neg (by omega), if_neg (by omega), if_pos (by omega), if_neg h, if_pos rfl]; rfl)
    clear hm
    have hW1 : W128 4611686018427387904 := by unfold W128; omega
    have hW2 : W128 (a + x) := by unfold I64 at ha hx; unfold W128; omega
    go_enter Try.func28, Try.ntmps28
    go_wp2_with (go_at_call 39; refine (ring_Is _ _).mono ?_; rintro e w1 ⟨rfl, k1⟩; have br := br.ext k1; obtain ⟨s2, c20, c21, f2⟩ := br.two)
    have b7 := Box.alloc w1 [.int .i64 0, .int .u64 0] 24
    refine (wide_Of _ ha _).mono ?_
    rintro e w2 ⟨rfl, k2⟩
    have hs := s2
    have b7 := b7.ext k2
    have br := br.ext (show Ext w1 w2 by (repeat (first | exact Ext.refl _ | assumption | (refine Ext.setCell' ?_ (by simp <;> omega) _) | refine Ext.alloc' ?_ _ | refine Ext.drew' ?_ | (refine Ext.trans _ _ _ ?_ (by assumption)))))
    clear s2 c20 c21 f2
    obtain ⟨s2, c20, c21, f2⟩ := br.two
    obtain ⟨s7, c70, c71, f7⟩ := b7.two
    go_wp2_with fail
    have br := br.far2 w1.heap.size (by omega) (.int .i64 (hi a)) (.int .u64 (lo a))
    have b7 := b7.set2 (.int .i64 (hi a)) (.int .u64 (lo a))
    have hx0 : Ext w1 ((w2.setCell ⟨w1.heap.size, 0, none⟩ (.int .i64 (hi a))).setCell ⟨w1.heap.size, 1, none⟩ (.int .u64 (lo a))) := by (repeat (first | exact Ext.refl _ | assumption | (refine Ext.setCell' ?_ (by simp <;> omega) _) | refine Ext.alloc' ?_ _ | refine Ext.drew' ?_ | (refine Ext.trans _ _ _ ?_ (by assumption))))
    generalize (w2.setCell ⟨w1.heap.size, 0, none⟩ (.int .i64 (hi a))).setCell ⟨w1.heap.size, 1, none⟩ (.int .u64 (lo a)) = w3 at *
    clear s2 c20 c21 f2 s7 c70 c71 f7
    obtain ⟨s7, c70, c71, f7⟩ := b7.two
    refine wp_region_rel_tail 6 51 Ext Ext.refl Ext.trans (by kernel_rfl) rfl (by kernel_rfl) ?_
    simp only [List.take_succ_cons, List.take_zero, List.drop_succ_cons, List.drop_zero]
    iterate 6
      first
        | (refine wpRel_skip ?_ ?_
           · (simp [go_sem]; done)
           simp only [Act.put, List.setIfInBounds_toArray, List.set_cons_zero, List.set_cons_succ])
        | (refine wpRel_ex ?_ ?_
           · (simp [go_sem]; done)
           apply Exists.intro
           refine ⟨fun σ w' hR hF => ?_, ?_⟩
           · have hcell := (Ext.trans _ _ _ (Ext.drew _) hR).cell
             clear hF
             simp only [fill]
             go_simp
             first
               | (go_at_call 14; refine (wide_Of _ (by assumption) _).mono ?_; rintro e w1 ⟨rfl, h1⟩; exact ⟨rfl, h1⟩)
               | (go_at_call 18; refine (wide_Add _ _ _).mono ?_; rintro e w1 ⟨rfl, h1⟩; exact ⟨rfl, h1⟩)
               | (go_at_call 40; refine (ring_lesser _ _ hW1 hW2 _).mono ?_; rintro e w1 ⟨rfl, h1⟩; exact ⟨rfl, h1⟩)
               | exact ⟨Ext.refl _, rfl⟩
           simp only [Act.put, List.setIfInBounds_toArray, List.set_cons_zero, List.set_cons_succ])
    intro σ w5 hRw5 _
    have hEw5 := Ext.trans _ _ _ (Ext.drew _) hRw5
    have hcellw5 := hEw5.cell
    have hfreew5 := hEw5.free
    simp only [fill]
    have br := br.ext hEw5
    obtain ⟨s2, c20, c21, f2⟩ := br.two
    go_wp2
    refine bodyPost_ret (v := .agg #[.int .i64 (hi (min 4611686018427387904 (a + x))), .int .u64 (lo (min 4611686018427387904 (a + x)))]) (by simp [results, Try.results28, go_sem, c20, c21, s2]) rfl ⟨by rw [E.out], ?_⟩
    repeat (first | exact Ext.refl _ | assumption | (refine Ext.setCell' ?_ (by simp <;> omega) _) | refine Ext.alloc' ?_ _ | refine Ext.drew' ?_ | (refine Ext.trans _ _ _ ?_ (by assumption)))
set_option maxRecDepth 100000 in
set_option maxHeartbeats 1000000 in
theorem ring_Mul3_lt (a x : Int) (ha : I64 a) (hx : I64 x) (hax : a < x) (w : World) :
    Calls Try.prog 28 #[.int .i64 3, .int .i64 a, .int .i64 x] w fun e w' => e = .returned (.agg #[.int .i64 (hi (rmul 3 a x)), .int .u64 (lo (rmul 3 a x))]) ∧ Ext w w' := by
  have br := Box.alloc w [.int .i64 0, .int .u64 0] 24
  have hi1 := isR_of 3 (by omega)
  have hI : I64 4611686018427387904 := by unfold I64; omega
  have hm : max a x = x := by omega
  by_cases h' : 4611686018427387904 ≤ x
  · have E := Lib.hid (show rmul 3 a x = 4611686018427387904 by unfold rmul Inf; rw [if_neg (by omega), if_neg (by omega), if_pos (by omega), if_pos (by omega)])
    clear hm
    go_enter Try.func28, Try.ntmps28
    go_wp2_with (first | (go_at_call 39; refine (ring_Is _ _).mono ?_; rintro e w1 ⟨rfl, k1⟩; have br := br.ext k1; obtain ⟨s2, c20, c21, f2⟩ := br.two) | (go_at_call 14; refine (wide_Of _ hI _).mono ?_; rintro e w2 ⟨rfl, k2⟩; have br := br.ext k2; obtain ⟨s2, c20, c21, f2⟩ := br.two))
    refine bodyPost_ret (v := .agg #[.int .i64 (hi (4611686018427387904)), .int .u64 (lo (4611686018427387904))]) (by simp [results, Try.results28, go_sem, c20, c21, s2]) rfl ⟨by rw [E.out], ?_⟩
    repeat (first | exact Ext.refl _ | assumption | (refine Ext.setCell' ?_ (by simp <;> omega) _) | refine Ext.alloc' ?_ _ | refine Ext.drew' ?_ | (refine Ext.trans _ _ _ ?_ (by assumption)))
  · have E := Lib.hid (show rmul 3 a x = a by
      have h : ¬ max a x ≥ Inf := by unfold Inf; omega
      unfold rmul; rw [if_neg (by omega), if_neg (by omega), if_pos (by omega), if_neg h, if_neg (by omega), if_neg (by omega)])
    clear hm
    go_enter Try.func28, Try.ntmps28
    go_wp2_with (first | (go_at_call 39; refine (ring_Is _ _).mono ?_; rintro e w1 ⟨rfl, k1⟩; have br := br.ext k1; obtain ⟨s2, c20, c21, f2⟩ := br.two) | (go_at_call 14; refine (wide_Of _ (by assumption) _).mono ?_; rintro e w2 ⟨rfl, k2⟩; have br := br.ext (show Ext w1 w2 by (repeat (first | exact Ext.refl _ | assumption | (refine Ext.setCell' ?_ (by simp <;> omega) _) | refine Ext.alloc' ?_ _ | refine Ext.drew' ?_ | (refine Ext.trans _ _ _ ?_ (by assumption))))); obtain ⟨s2, c20, c21, f2⟩ := br.two))
    refine bodyPost_ret (v := .agg #[.int .i64 (hi (a)), .int .u64 (lo (a))]) (by simp [results, Try.results28, go_sem, c20, c21, s2]) rfl ⟨by rw [E.out], ?_⟩
    repeat (first | exact Ext.refl _ | assumption | (refine Ext.setCell' ?_ (by simp <;> omega) _) | refine Ext.alloc' ?_ _ | refine Ext.drew' ?_ | (refine Ext.trans _ _ _ ?_ (by assumption)))
set_option maxRecDepth 100000 in
set_option maxHeartbeats 1000000 in
theorem ring_Mul3_ge (a x : Int) (ha : I64 a) (hx : I64 x) (hax : ¬ a < x) (w : World) :
    Calls Try.prog 28 #[.int .i64 3, .int .i64 a, .int .i64 x] w fun e w' => e = .returned (.agg #[.int .i64 (hi (rmul 3 a x)), .int .u64 (lo (rmul 3 a x))]) ∧ Ext w w' := by
  have br := Box.alloc w [.int .i64 0, .int .u64 0] 24
  have hi1 := isR_of 3 (by omega)
  have hI : I64 4611686018427387904 := by unfold I64; omega
  have hm : max a x = a := by omega
  by_cases h' : 4611686018427387904 ≤ a
  · have E := Lib.hid (show rmul 3 a x = 4611686018427387904 by unfold rmul Inf; rw [if_neg (by omega), if_neg (by omega), if_pos (by omega), if_pos (by omega)])
    clear hm
    go_enter Try.func28, Try.ntmps28
    go_wp2_with (first | (go_at_call 39; refine (ring_Is _ _).mono ?_; rintro e w1 ⟨rfl, k1⟩; have br := br.ext k1; obtain ⟨s2, c20, c21, f2⟩ := br.two) | (go_at_call 14; refine (wide_Of _ hI _).mono ?_; rintro e w2 ⟨rfl, k2⟩; have br := br.ext k2; obtain ⟨s2, c20, c21, f2⟩ := br.two))
    refine bodyPost_ret (v := .agg #[.int .i64 (hi (4611686018427387904)), .int .u64 (lo (4611686018427387904))]) (by simp [results, Try.results28, go_sem, c20, c21, s2]) rfl ⟨by rw [E.out], ?_⟩
    repeat (first | exact Ext.refl _ | assumption | (refine Ext.setCell' ?_ (by simp <;> omega) _) | refine Ext.alloc' ?_ _ | refine Ext.drew' ?_ | (refine Ext.trans _ _ _ ?_ (by assumption)))
  · have E := Lib.hid (show rmul 3 a x = a by
      have h : ¬ max a x ≥ Inf := by unfold Inf; omega
      unfold rmul; rw [if_neg (by omega), if_neg (by omega), if_pos (by omega), if_neg h, if_neg (by omega), if_neg (by omega)])
    clear hm
    go_enter Try.func28, Try.ntmps28
    go_wp2_with (first | (go_at_call 39; refine (ring_Is _ _).mono ?_; rintro e w1 ⟨rfl, k1⟩; have br := br.ext k1; obtain ⟨s2, c20, c21, f2⟩ := br.two) | (go_at_call 14; refine (wide_Of _ (by assumption) _).mono ?_; rintro e w2 ⟨rfl, k2⟩; have br := br.ext (show Ext w1 w2 by (repeat (first | exact Ext.refl _ | assumption | (refine Ext.setCell' ?_ (by simp <;> omega) _) | refine Ext.alloc' ?_ _ | refine Ext.drew' ?_ | (refine Ext.trans _ _ _ ?_ (by assumption))))); obtain ⟨s2, c20, c21, f2⟩ := br.two))
    refine bodyPost_ret (v := .agg #[.int .i64 (hi (a)), .int .u64 (lo (a))]) (by simp [results, Try.results28, go_sem, c20, c21, s2]) rfl ⟨by rw [E.out], ?_⟩
    repeat (first | exact Ext.refl _ | assumption | (refine Ext.setCell' ?_ (by simp <;> omega) _) | refine Ext.alloc' ?_ _ | refine Ext.drew' ?_ | (refine Ext.trans _ _ _ ?_ (by assumption)))
set_option maxRecDepth 100000 in
set_option maxHeartbeats 1000000 in
theorem ring_Mul4_lt (a x : Int) (ha : I64 a) (hx : I64 x) (hax : a < x) (w : World) :
    Calls Try.prog 28 #[.int .i64 4, .int .i64 a, .int .i64 x] w fun e w' => e = .returned (.agg #[.int .i64 (hi (rmul 4 a x)), .int .u64 (lo (rmul 4 a x))]) ∧ Ext w w' := by
  have br := Box.alloc w [.int .i64 0, .int .u64 0] 24
  have hi1 := isR_of 4 (by omega)
  have hI : I64 4611686018427387904 := by unfold I64; omega
  have hm : max a x = x := by omega
  by_cases h' : 4611686018427387904 ≤ x
  · have E := Lib.hid (show rmul 4 a x = 4611686018427387904 by unfold rmul Inf; rw [if_neg (by omega), if_neg (by omega), if_pos (by omega), if_pos (by omega)])
    clear hm
    go_enter Try.func28, Try.ntmps28
    go_wp2_with (first | (go_at_call 39; refine (ring_Is _ _).mono ?_; rintro e w1 ⟨rfl, k1⟩; have br := br.ext k1; obtain ⟨s2, c20, c21, f2⟩ := br.two) | (go_at_call 14; refine (wide_Of _ hI _).mono ?_; rintro e w2 ⟨rfl, k2⟩; have br := br.ext k2; obtain ⟨s2, c20, c21, f2⟩ := br.two))
    refine bodyPost_ret (v := .agg #[.int .i64 (hi (4611686018427387904)), .int .u64 (lo (4611686018427387904))]) (by simp [results, Try.results28, go_sem, c20, c21, s2]) rfl ⟨by rw [E.out], ?_⟩
    repeat (first | exact Ext.refl _ | assumption | (refine Ext.setCell' ?_ (by simp <;> omega) _) | refine Ext.alloc' ?_ _ | refine Ext.drew' ?_ | (refine Ext.trans _ _ _ ?_ (by assumption)))
  · have E := Lib.hid (show rmul 4 a x = min 4611686018427387904 x by
      have h : ¬ max a x ≥ Inf := by unfold Inf; omega
      unfold rmul; rw [if_neg (by omega), if_neg (by omega), if_pos (by omega), if_neg h, if_neg (by omega), if_pos rfl]
      unfold Inf at h; omega)
    clear hm
    have hW1 : W128 4611686018427387904 := by unfold W128; omega
    have hW2 : W128 x := of_wide x hx
    have add0 := fun W => wide_Add 0 x W
    rw [zero_hi, zero_lo, Int.zero_add] at add0
    have ADD0 := Lib.hid add0
    clear add0
    go_enter Try.func28, Try.ntmps28
    go_wp2_with (go_at_call 39; refine (ring_Is _ _).mono ?_; rintro e w1 ⟨rfl, k1⟩; have br := br.ext k1; obtain ⟨s2, c20, c21, f2⟩ := br.two)
    have b7 := Box.alloc w1 [.int .i64 0, .int .u64 0] 24
    have br := br.ext (Ext.alloc w1 (.cells #[.int .i64 0, .int .u64 0] 24))
    have hx0 : Ext w1 (w1.alloc (.cells #[.int .i64 0, .int .u64 0] 24)) := Ext.alloc _ _
    generalize w1.alloc (.cells #[.int .i64 0, .int .u64 0] 24) = w3 at *
    obtain ⟨s7, c70, c71, f7⟩ := b7.two
    refine wp_region_rel_tail 6 51 Ext Ext.refl Ext.trans (by kernel_rfl) rfl (by kernel_rfl) ?_
    simp only [List.take_succ_cons, List.take_zero, List.drop_succ_cons, List.drop_zero]
    iterate 6
      first
        | (refine wpRel_skip ?_ ?_
           · (simp [go_sem]; done)
           simp only [Act.put, List.setIfInBounds_toArray, List.set_cons_zero, List.set_cons_succ])
        | (refine wpRel_ex ?_ ?_
           · (simp [go_sem]; done)
           apply Exists.intro
           refine ⟨fun σ w' hR hF => ?_, ?_⟩
           · have hcell := (Ext.trans _ _ _ (Ext.drew _) hR).cell
             clear hF
             simp only [fill]
             go_simp
             first
               | (go_at_call 14; refine (wide_Of _ (by assumption) _).mono ?_; rintro e w1 ⟨rfl, h1⟩; exact ⟨rfl, h1⟩)
               | (go_at_call 18; refine (ADD0.out _).mono ?_; rintro e w1 ⟨rfl, h1⟩; exact ⟨rfl, h1⟩)
               | (go_at_call 40; refine (ring_lesser _ _ hW1 hW2 _).mono ?_; rintro e w1 ⟨rfl, h1⟩; exact ⟨rfl, h1⟩)
               | exact ⟨Ext.refl _, rfl⟩
           simp only [Act.put, List.setIfInBounds_toArray, List.set_cons_zero, List.set_cons_succ])
    intro σ w5 hRw5 _
    have hEw5 := Ext.trans _ _ _ (Ext.drew _) hRw5
    have hcellw5 := hEw5.cell
    have hfreew5 := hEw5.free
    simp only [fill]
    have br := br.ext hEw5
    obtain ⟨s2, c20, c21, f2⟩ := br.two
    go_wp2
    refine bodyPost_ret (v := .agg #[.int .i64 (hi (min 4611686018427387904 x)), .int .u64 (lo (min 4611686018427387904 x))]) (by simp [results, Try.results28, go_sem, c20, c21, s2]) rfl ⟨by rw [E.out], ?_⟩
    repeat (first | exact Ext.refl _ | assumption | (refine Ext.setCell' ?_ (by simp <;> omega) _) | refine Ext.alloc' ?_ _ | refine Ext.drew' ?_ | (refine Ext.trans _ _ _ ?_ (by assumption)))
set_option maxRecDepth 100000 in
set_option maxHeartbeats 1000000 in
theorem ring_Mul4_ge (a x : Int) (ha : I64 a) (hx : I64 x) (hax : ¬ a < x) (w : World) :
    Calls Try.prog 28 #[.int .i64 4, .int .i64 a, .int .i64 x] w fun e w' => e = .returned (.agg #[.int .i64 (hi (rmul 4 a x)), .int .u64 (lo (rmul 4 a x))]) ∧ Ext w w' := by
  have br := Box.alloc w [.int .i64 0, .int .u64 0] 24
  have hi1 := isR_of 4 (by omega)
  have hI : I64 4611686018427387904 := by unfold I64; omega
  have hm : max a x = a := by omega
  by_cases h' : 4611686018427387904 ≤ a
  · have E := Lib.hid (show rmul 4 a x = 4611686018427387904 by unfold rmul Inf; rw [if_neg (by omega), if_neg (by omega), if_pos (by omega), if_pos (by omega)])
    clear hm
    go_enter Try.func28, Try.ntmps28
    go_wp2_with (first | (go_at_call 39; refine (ring_Is _ _).mono ?_; rintro e w1 ⟨rfl, k1⟩; have br := br.ext k1; obtain ⟨s2, c20, c21, f2⟩ := br.two) | (go_at_call 14; refine (wide_Of _ hI _).mono ?_; rintro e w2 ⟨rfl, k2⟩; have br := br.ext k2; obtain ⟨s2, c20, c21, f2⟩ := br.two))
    refine bodyPost_ret (v := .agg #[.int .i64 (hi (4611686018427387904)), .int .u64 (lo (4611686018427387904))]) (by simp [results, Try.results28, go_sem, c20, c21, s2]) rfl ⟨by rw [E.out], ?_⟩
    repeat (first | exact Ext.refl _ | assumption | (refine Ext.setCell' ?_ (by simp <;> omega) _) | refine Ext.alloc' ?_ _ | refine Ext.drew' ?_ | (refine Ext.trans _ _ _ ?_ (by assumption)))
  · have E := Lib.hid (show rmul 4 a x = min 4611686018427387904 x by
      have h : ¬ max a x ≥ Inf := by unfold Inf; omega
      unfold rmul; rw [if_neg (by omega), if_neg (by omega), if_pos (by omega), if_neg h, if_neg (by omega), if_pos rfl]
      unfold Inf at h; omega)
    clear hm
    have hW1 : W128 4611686018427387904 := by unfold W128; omega
    have hW2 : W128 x := of_wide x hx
    have add0 := fun W => wide_Add 0 x W
    rw [zero_hi, zero_lo, Int.zero_add] at add0
    have ADD0 := Lib.hid add0
    clear add0
    go_enter Try.func28, Try.ntmps28
    go_wp2_with (go_at_call 39; refine (ring_Is _ _).mono ?_; rintro e w1 ⟨rfl, k1⟩; have br := br.ext k1; obtain ⟨s2, c20, c21, f2⟩ := br.two)
    have b7 := Box.alloc w1 [.int .i64 0, .int .u64 0] 24
    have br := br.ext (Ext.alloc w1 (.cells #[.int .i64 0, .int .u64 0] 24))
    have hx0 : Ext w1 (w1.alloc (.cells #[.int .i64 0, .int .u64 0] 24)) := Ext.alloc _ _
    generalize w1.alloc (.cells #[.int .i64 0, .int .u64 0] 24) = w3 at *
    obtain ⟨s7, c70, c71, f7⟩ := b7.two
    refine wp_region_rel_tail 6 51 Ext Ext.refl Ext.trans (by kernel_rfl) rfl (by kernel_rfl) ?_
    simp only [List.take_succ_cons, List.take_zero, List.drop_succ_cons, List.drop_zero]
    iterate 6
      first
        | (refine wpRel_skip ?_ ?_
           · (simp [go_sem]; done)
           simp only [Act.put, List.setIfInBounds_toArray, List.set_cons_zero, List.set_cons_succ])
        | (refine wpRel_ex ?_ ?_
           · (simp [go_sem]; done)
           apply Exists.intro
           refine ⟨fun σ w' hR hF => ?_, ?_⟩
           · have hcell := (Ext.trans _ _ _ (Ext.drew _) hR).cell
             clear hF
             simp only [fill]
             go_simp
             first
               | (go_at_call 14; refine (wide_Of _ (by assumption) _).mono ?_; rintro e w1 ⟨rfl, h1⟩; exact ⟨rfl, h1⟩)
               | (go_at_call 18; refine (ADD0.out _).mono ?_; rintro e w1 ⟨rfl, h1⟩; exact ⟨rfl, h1⟩)
               | (go_at_call 40; refine (ring_lesser _ _ hW1 hW2 _).mono ?_; rintro e w1 ⟨rfl, h1⟩; exact ⟨rfl, h1⟩)
               | exact ⟨Ext.refl _, rfl⟩
           simp only [Act.put, List.setIfInBounds_toArray, List.set_cons_zero, List.set_cons_succ])
    intro σ w5 hRw5 _
    have hEw5 := Ext.trans _ _ _ (Ext.drew _) hRw5
    have hcellw5 := hEw5.cell
    have hfreew5 := hEw5.free
    simp only [fill]
    have br := br.ext hEw5
    obtain ⟨s2, c20, c21, f2⟩ := br.two
    go_wp2
    refine bodyPost_ret (v := .agg #[.int .i64 (hi (min 4611686018427387904 x)), .int .u64 (lo (min 4611686018427387904 x))]) (by simp [results, Try.results28, go_sem, c20, c21, s2]) rfl ⟨by rw [E.out], ?_⟩
    repeat (first | exact Ext.refl _ | assumption | (refine Ext.setCell' ?_ (by simp <;> omega) _) | refine Ext.alloc' ?_ _ | refine Ext.drew' ?_ | (refine Ext.trans _ _ _ ?_ (by assumption)))
theorem ring_Mul (r a x : Int) (ha : I64 a) (hx : I64 x) (w : World) :
    Calls Try.prog 28 #[.int .i64 r, .int .i64 a, .int .i64 x] w fun e w' => e = .returned (.agg #[.int .i64 (hi (rmul r a x)), .int .u64 (lo (rmul r a x))]) ∧ Ext w w' := by
  by_cases hr : 1 ≤ r ∧ r ≤ 5
  · have : r = 1 ∨ r = 2 ∨ r = 3 ∨ r = 4 ∨ r = 5 := by omega
    by_cases hax : a < x
    · rcases this with rfl | rfl | rfl | rfl | rfl
      · exact ring_Mul1_lt a x ha hx hax w
      · exact ring_Mul2 a x w
      · exact ring_Mul3_lt a x ha hx hax w
      · exact ring_Mul4_lt a x ha hx hax w
      · exact ring_Mul5 a x ha hx w
    · rcases this with rfl | rfl | rfl | rfl | rfl
      · exact ring_Mul1_ge a x ha hx hax w
      · exact ring_Mul2 a x w
      · exact ring_Mul3_ge a x ha hx hax w
      · exact ring_Mul4_ge a x ha hx hax w
      · exact ring_Mul5 a x ha hx w
  · exact ring_Mul_no r a x hr w
end Go.Proofs.Ytnalgofemikggaa
