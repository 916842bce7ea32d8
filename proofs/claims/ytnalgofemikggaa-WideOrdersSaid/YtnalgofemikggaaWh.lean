/- The laws of layer 1: the order, the other ways. -/
import Derived.Test.YtnalgofemikggaaWg
namespace Go.Proofs.Ytnalgofemikggaa
open Go.RowKit
set_option maxRecDepth 100000 in
set_option maxHeartbeats 2000000 in
theorem orders_NYF (p q r : Int) (hp : W128 p) (hq : W128 q) (hr : W128 r) (ht : ¬ (hi p = 9223372036854775807 ∧ lo p = 18446744073709551615)) (hp1 : W128 (p + 1)) (x1 : ¬ 0 < sgn3 p q) (x2 : 0 < sgn3 q r) (f1 : fits p = false) (w : World) :
    Calls Try.prog 8 #[.agg #[.int .i64 (hi p), .int .u64 (lo p)], .agg #[.int .i64 (hi q), .int .u64 (lo q)], .agg #[.int .i64 (hi r), .int .u64 (lo r)]] w fun e w' => e = .returned (.bool true) ∧ Ext w w' := by
  have y1 : sgn3 p q ≤ 0 := by omega
  have d1 : decide (0 < sgn3 p q) = false := by simp; omega
  have d2 : decide (0 < sgn3 q r) = true := by simp; omega
  have HT := Lib.hid ht
  clear ht
  have bp := ((Box.alloc w [.int .i64 (hi p), .int .u64 (lo p)] 24).ext (Ext.alloc _ (.cells #[.int .i64 (hi q), .int .u64 (lo q)] 24))).ext (Ext.alloc _ (.cells #[.int .i64 (hi r), .int .u64 (lo r)] 24))
  have bq := (Box.alloc' (w.alloc (.cells #[.int .i64 (hi p), .int .u64 (lo p)] 24)) [.int .i64 (hi q), .int .u64 (lo q)] 24 (w.heap.size + 1) (by simp)).ext (Ext.alloc _ (.cells #[.int .i64 (hi r), .int .u64 (lo r)] 24))
  have br := Box.alloc' ((w.alloc (.cells #[.int .i64 (hi p), .int .u64 (lo p)] 24)).alloc (.cells #[.int .i64 (hi q), .int .u64 (lo q)] 24)) [.int .i64 (hi r), .int .u64 (lo r)] 24 (w.heap.size + 1 + 1) (by simp)
  have e1 := sgn3_neg p q
  have e1' : IntKind.i64.wrap (-(sgn3 q p)) = sgn3 p q := by rw [IntWalk.i64_left]; exact sgn3_neg p q
  have e2 := sgn3_zero p q
  have e4 := sgn3_more p
  have hI1 : I64 1 := by unfold I64; omega
  have HE := Lib.hid (eq_iff_halves p q hp hq)
  go_enter Try.func8, Try.ntmps8
  go_wp2
  refine wp_region_rel_tail 4 82 Ext Ext.refl Ext.trans (by kernel_rfl) rfl (by kernel_rfl) ?_
  simp only [List.take_succ_cons, List.take_zero, List.drop_succ_cons, List.drop_zero]
  iterate 3
    first
      | (refine wpRel_skip ?_ ?_
         · (simp [go_sem]; done)
         simp only [Act.put, List.setIfInBounds_toArray, List.set_cons_zero, List.set_cons_succ])
      | (refine wpRel_ex ?_ ?_
         · (simp [go_sem]; done)
         apply Exists.intro
         refine ⟨fun σ w' hR hF => ?_, ?_⟩
         · have hcell := (Ext.trans _ _ _ (Ext.drew _) hR).cell
           clear hF
           simp only [fill]
           go_simp
           first
             | (go_at_call 14; refine (wide_Of _ hI1 _).mono ?_; rintro e w1 ⟨rfl, h1⟩; exact ⟨rfl, h1⟩)
             | (go_at_call 18; refine (wide_Add _ _ _).mono ?_; rintro e w1 ⟨rfl, h1⟩; exact ⟨rfl, h1⟩)
             | exact ⟨Ext.refl _, rfl⟩
         simp only [Act.put, List.setIfInBounds_toArray, List.set_cons_zero, List.set_cons_succ])
  refine wpRel_fact (by (simp [go_sem]; done)) 7 (NewPtr (w.heap.size + 3) [.int .i64 0, .int .u64 0]) rfl (NewPtr.stable _ _) (fun σ w' hR hF => ?_) ?_
  · have hs := hR.size
    simp at hs
    go_simp
    exact NewPtr.alloc w' [.int .i64 0, .int .u64 0] 24 (by omega)
  intro σ w1 hRw1 hF
  obtain ⟨⟨m, hv, hB, b7⟩, _⟩ := hF
  have hEw1 := Ext.trans _ _ _ (Ext.drew _) hRw1
  simp only [fill, Act.put, List.setIfInBounds_toArray, List.set_cons_zero, List.set_cons_succ, hv]
  have bp := bp.ext hEw1
  have bq := bq.ext hEw1
  have br := br.ext hEw1
  obtain ⟨s7, c70, c71, f7⟩ := b7.two
  go_wp2_with fail
  have bp := bp.far2 m (by omega) (.int .i64 (hi (p + 1))) (.int .u64 (lo (p + 1)))
  have bq := bq.far2 m (by omega) (.int .i64 (hi (p + 1))) (.int .u64 (lo (p + 1)))
  have br := br.far2 m (by omega) (.int .i64 (hi (p + 1))) (.int .u64 (lo (p + 1)))
  have b7 := b7.set2 (.int .i64 (hi (p + 1))) (.int .u64 (lo (p + 1)))
  have hx : Ext w ((w1.setCell ⟨m, 0, none⟩ (.int .i64 (hi (p + 1)))).setCell ⟨m, 1, none⟩ (.int .u64 (lo (p + 1)))) := by (repeat (first | exact Ext.refl _ | assumption | (refine Ext.setCell' ?_ (by simp <;> omega) _) | refine Ext.alloc' ?_ _ | refine Ext.drew' ?_ | (refine Ext.trans _ _ _ ?_ (by assumption))))
  have hsz : ((w1.setCell ⟨m, 0, none⟩ (.int .i64 (hi (p + 1)))).setCell ⟨m, 1, none⟩ (.int .u64 (lo (p + 1)))).heap.size = w1.heap.size := by simp [World.setCell]
  generalize (w1.setCell ⟨m, 0, none⟩ (.int .i64 (hi (p + 1)))).setCell ⟨m, 1, none⟩ (.int .u64 (lo (p + 1))) = w2 at *
  clear hRw1 hEw1 s7 c70 c71 f7
  have b8 := Box.alloc' w2 [.int .i64 9223372036854775807, .int .u64 18446744073709551615] 24 w1.heap.size hsz.symm
  clear hsz
  have bp := bp.ext (Ext.alloc w2 (.cells #[.int .i64 9223372036854775807, .int .u64 18446744073709551615] 24))
  have bq := bq.ext (Ext.alloc w2 (.cells #[.int .i64 9223372036854775807, .int .u64 18446744073709551615] 24))
  have br := br.ext (Ext.alloc w2 (.cells #[.int .i64 9223372036854775807, .int .u64 18446744073709551615] 24))
  have b7 := b7.ext (Ext.alloc w2 (.cells #[.int .i64 9223372036854775807, .int .u64 18446744073709551615] 24))
  have hx := Ext.trans _ _ _ hx (Ext.alloc w2 (.cells #[.int .i64 9223372036854775807, .int .u64 18446744073709551615] 24))
  generalize w1.heap.size = k8 at *
  generalize w2.alloc (.cells #[.int .i64 9223372036854775807, .int .u64 18446744073709551615] 24) = w3 at *
  obtain ⟨sp, cp0, cp1, _⟩ := bp.two
  obtain ⟨sq, cq0, cq1, _⟩ := bq.two
  obtain ⟨sr, cr0, cr1, _⟩ := br.two
  refine wp_region_rel 82 Ext Ext.refl Ext.trans (by kernel_rfl) rfl (by kernel_rfl) ?_
  iterate 12
    first
      | (refine wpRel_skip ?_ ?_
         · (simp [go_sem]; done)
         simp only [Act.put, List.setIfInBounds_toArray, List.set_cons_zero, List.set_cons_succ])
      | (refine wpRel_ex ?_ ?_
         · (simp [go_sem]; done)
         apply Exists.intro
         refine ⟨fun σ w' hR hF => ?_, ?_⟩
         · have hcell := (Ext.trans _ _ _ (Ext.drew _) hR).cell
           clear hF
           simp only [fill]
           go_simp
           first
             | (go_at_call 16; refine (wide_Compare _ _ (by assumption) (by assumption) _).mono ?_; rintro e w1 ⟨rfl, h1⟩; exact ⟨rfl, h1⟩)
             | exact ⟨Ext.refl _, rfl⟩
         simp only [Act.put, List.setIfInBounds_toArray, List.set_cons_zero, List.set_cons_succ])
  intro σ w4 hRw4 _
  have hEw4 := Ext.trans _ _ _ (Ext.drew _) hRw4
  have hcellw4 := hEw4.cell
  have hfreew4 := hEw4.free
  simp only [fill]
  clear sp cp0 cp1 sq cq0 cq1 sr cr0 cr1 hcellw4 hfreew4
  have bp := bp.ext hEw4
  have bq := bq.ext hEw4
  have b7 := b7.ext hEw4
  have b8 := b8.ext hEw4
  have hx := Ext.trans _ _ _ hx hEw4
  clear br hEw4 hRw4
  obtain ⟨sp, cp0, cp1, _⟩ := bp.two
  go_wp2_with fail
  refine (wide_Narrow _ hp _).mono ?_
  rintro e w6 ⟨rfl, k6⟩
  have bp := bp.ext k6
  have bq := bq.ext k6
  have b7 := b7.ext k6
  have b8 := b8.ext k6
  have hx := Ext.trans _ _ _ hx k6
  clear sp cp0 cp1 k6
  obtain ⟨sp, cp0, cp1, _⟩ := bp.two
  obtain ⟨sq, cq0, cq1, _⟩ := bq.two
  obtain ⟨s7, c70, c71, _⟩ := b7.two
  obtain ⟨s8, c80, c81, _⟩ := b8.two
  clear bp bq b7 b8
  go_wp2_with fail
  refine wp_region_rel 82 Ext Ext.refl Ext.trans (by kernel_rfl) rfl (by kernel_rfl) ?_
  iterate 4
    first
      | (refine wpRel_skip ?_ ?_
         · (simp [go_sem]; done)
         simp only [Act.put, List.setIfInBounds_toArray, List.set_cons_zero, List.set_cons_succ])
      | (refine wpRel_ex ?_ ?_
         · (simp [go_sem]; done)
         apply Exists.intro
         refine ⟨fun σ w' hR hF => ?_, ?_⟩
         · have hcell := (Ext.trans _ _ _ (Ext.drew _) hR).cell
           clear hF
           simp only [fill]
           go_simp
           first
             | (go_at_call 13; refine (live_any _).mono ?_; rintro e w1 ⟨rfl, h1⟩; exact ⟨rfl, h1⟩)
             | (go_at_call 14; refine (wide_Of _ (by assumption) _).mono ?_; rintro e w1 ⟨rfl, h1⟩; exact ⟨rfl, h1⟩)
             | (go_at_call 16; refine (wide_Compare _ _ (by assumption) (by assumption) _).mono ?_; rintro e w1 ⟨rfl, h1⟩; exact ⟨rfl, h1⟩)
             | exact ⟨Ext.refl _, rfl⟩
         simp only [Act.put, List.setIfInBounds_toArray, List.set_cons_zero, List.set_cons_succ])
  refine wpRel_val ?_ (.bool false) (fun σ w' hR hF => ?_) ?_
  · simp [go_sem]
  · have hcell := (Ext.trans _ _ _ (Ext.drew _) hR).cell
    clear hF
    simp only [fill]
    have ht := HT.out
    by_cases h3 : hi p = 9223372036854775807
    · have t1 := iff_true' h3
      have t2 : (lo p = 18446744073709551615) = False := by simp; intro h4; exact ht ⟨h3, h4⟩
      clear h3 ht
      go_simp
      first
        | exact ⟨Ext.refl _, rfl⟩
        | exact Ext.refl _
    · clear ht
      go_simp
      first
        | exact ⟨Ext.refl _, rfl⟩
        | exact Ext.refl _
  simp only [Act.put, List.setIfInBounds_toArray, List.set_cons_zero, List.set_cons_succ]
  iterate 20
    first
      | (refine wpRel_skip ?_ ?_
         · (simp [go_sem]; done)
         simp only [Act.put, List.setIfInBounds_toArray, List.set_cons_zero, List.set_cons_succ])
      | (refine wpRel_ex ?_ ?_
         · (simp [go_sem]; done)
         apply Exists.intro
         refine ⟨fun σ w' hR hF => ?_, ?_⟩
         · have hcell := (Ext.trans _ _ _ (Ext.drew _) hR).cell
           clear hF
           simp only [fill]
           go_simp
           first
             | (go_at_call 13; refine (live_any _).mono ?_; rintro e w1 ⟨rfl, h1⟩; exact ⟨rfl, h1⟩)
             | (go_at_call 14; refine (wide_Of _ (by assumption) _).mono ?_; rintro e w1 ⟨rfl, h1⟩; exact ⟨rfl, h1⟩)
             | (go_at_call 16; refine (wide_Compare _ _ (by assumption) (by assumption) _).mono ?_; rintro e w1 ⟨rfl, h1⟩; exact ⟨rfl, h1⟩)
             | exact ⟨Ext.refl _, rfl⟩
         simp only [Act.put, List.setIfInBounds_toArray, List.set_cons_zero, List.set_cons_succ])
  refine wpRel_val ?_ (.bool (decide (p = q))) (fun σ w' hR hF => ?_) ?_
  · simp [go_sem]
  · have hcell := (Ext.trans _ _ _ (Ext.drew _) hR).cell
    clear hF
    simp only [fill]
    by_cases hpq : p = q
    · subst hpq
      go_simp
      first
        | exact ⟨Ext.refl _, rfl⟩
        | exact Ext.refl _
    · have hn : ¬ (hi p = hi q ∧ lo p = lo q) := fun h => hpq ((HE.out).2 h)
      have hd : decide (p = q) = false := by simp [hpq]
      by_cases hh : hi p = hi q
      · have hh1 := iff_true' hh
        have hl : (lo p = lo q) = False := by simp; intro h; exact hn ⟨hh, h⟩
        clear hh hn hpq
        go_simp
        first
          | exact ⟨Ext.refl _, rfl⟩
          | exact Ext.refl _
      · clear hn hpq
        go_simp
        first
          | exact ⟨Ext.refl _, rfl⟩
          | exact Ext.refl _
  simp only [Act.put, List.setIfInBounds_toArray, List.set_cons_zero, List.set_cons_succ]
  iterate 25
    first
      | (refine wpRel_skip ?_ ?_
         · (simp [go_sem]; done)
         simp only [Act.put, List.setIfInBounds_toArray, List.set_cons_zero, List.set_cons_succ])
      | (refine wpRel_ex ?_ ?_
         · (simp [go_sem]; done)
         apply Exists.intro
         refine ⟨fun σ w' hR hF => ?_, ?_⟩
         · have hcell := (Ext.trans _ _ _ (Ext.drew _) hR).cell
           clear hF
           simp only [fill]
           go_simp
           first
             | (go_at_call 13; refine (live_any _).mono ?_; rintro e w1 ⟨rfl, h1⟩; exact ⟨rfl, h1⟩)
             | (go_at_call 14; refine (wide_Of _ (by assumption) _).mono ?_; rintro e w1 ⟨rfl, h1⟩; exact ⟨rfl, h1⟩)
             | (go_at_call 16; refine (wide_Compare _ _ (by assumption) (by assumption) _).mono ?_; rintro e w1 ⟨rfl, h1⟩; exact ⟨rfl, h1⟩)
             | exact ⟨Ext.refl _, rfl⟩
         simp only [Act.put, List.setIfInBounds_toArray, List.set_cons_zero, List.set_cons_succ])
  intro σ w5 hRw5 _
  have hEw5 := Ext.trans _ _ _ (Ext.drew _) hRw5
  have hcellw5 := hEw5.cell
  have hfreew5 := hEw5.free
  simp only [fill]
  go_wp2
  go_ret
  exact ⟨rfl, Ext.trans _ _ _ hx hEw5⟩

set_option maxRecDepth 100000 in
set_option maxHeartbeats 2000000 in
theorem orders_NZF (p q r : Int) (hp : W128 p) (hq : W128 q) (hr : W128 r) (ht : ¬ (hi p = 9223372036854775807 ∧ lo p = 18446744073709551615)) (hp1 : W128 (p + 1)) (x1 : ¬ 0 < sgn3 p q) (x2 : ¬ 0 < sgn3 q r) (x3 : sgn3 p r ≤ 0) (f1 : fits p = false) (w : World) :
    Calls Try.prog 8 #[.agg #[.int .i64 (hi p), .int .u64 (lo p)], .agg #[.int .i64 (hi q), .int .u64 (lo q)], .agg #[.int .i64 (hi r), .int .u64 (lo r)]] w fun e w' => e = .returned (.bool true) ∧ Ext w w' := by
  have y1 : sgn3 p q ≤ 0 := by omega
  have y2 : sgn3 q r ≤ 0 := by omega
  have d1 : decide (0 < sgn3 p q) = false := by simp; omega
  have d2 : decide (0 < sgn3 q r) = false := by simp; omega
  have d3 : decide (sgn3 p r ≤ 0) = true := by simp; omega
  have HT := Lib.hid ht
  clear ht
  have bp := ((Box.alloc w [.int .i64 (hi p), .int .u64 (lo p)] 24).ext (Ext.alloc _ (.cells #[.int .i64 (hi q), .int .u64 (lo q)] 24))).ext (Ext.alloc _ (.cells #[.int .i64 (hi r), .int .u64 (lo r)] 24))
  have bq := (Box.alloc' (w.alloc (.cells #[.int .i64 (hi p), .int .u64 (lo p)] 24)) [.int .i64 (hi q), .int .u64 (lo q)] 24 (w.heap.size + 1) (by simp)).ext (Ext.alloc _ (.cells #[.int .i64 (hi r), .int .u64 (lo r)] 24))
  have br := Box.alloc' ((w.alloc (.cells #[.int .i64 (hi p), .int .u64 (lo p)] 24)).alloc (.cells #[.int .i64 (hi q), .int .u64 (lo q)] 24)) [.int .i64 (hi r), .int .u64 (lo r)] 24 (w.heap.size + 1 + 1) (by simp)
  have e1 := sgn3_neg p q
  have e1' : IntKind.i64.wrap (-(sgn3 q p)) = sgn3 p q := by rw [IntWalk.i64_left]; exact sgn3_neg p q
  have e2 := sgn3_zero p q
  have e4 := sgn3_more p
  have hI1 : I64 1 := by unfold I64; omega
  have HE := Lib.hid (eq_iff_halves p q hp hq)
  go_enter Try.func8, Try.ntmps8
  go_wp2
  refine wp_region_rel_tail 4 82 Ext Ext.refl Ext.trans (by kernel_rfl) rfl (by kernel_rfl) ?_
  simp only [List.take_succ_cons, List.take_zero, List.drop_succ_cons, List.drop_zero]
  iterate 3
    first
      | (refine wpRel_skip ?_ ?_
         · (simp [go_sem]; done)
         simp only [Act.put, List.setIfInBounds_toArray, List.set_cons_zero, List.set_cons_succ])
      | (refine wpRel_ex ?_ ?_
         · (simp [go_sem]; done)
         apply Exists.intro
         refine ⟨fun σ w' hR hF => ?_, ?_⟩
         · have hcell := (Ext.trans _ _ _ (Ext.drew _) hR).cell
           clear hF
           simp only [fill]
           go_simp
           first
             | (go_at_call 14; refine (wide_Of _ hI1 _).mono ?_; rintro e w1 ⟨rfl, h1⟩; exact ⟨rfl, h1⟩)
             | (go_at_call 18; refine (wide_Add _ _ _).mono ?_; rintro e w1 ⟨rfl, h1⟩; exact ⟨rfl, h1⟩)
             | exact ⟨Ext.refl _, rfl⟩
         simp only [Act.put, List.setIfInBounds_toArray, List.set_cons_zero, List.set_cons_succ])
  refine wpRel_fact (by (simp [go_sem]; done)) 7 (NewPtr (w.heap.size + 3) [.int .i64 0, .int .u64 0]) rfl (NewPtr.stable _ _) (fun σ w' hR hF => ?_) ?_
  · have hs := hR.size
    simp at hs
    go_simp
    exact NewPtr.alloc w' [.int .i64 0, .int .u64 0] 24 (by omega)
  intro σ w1 hRw1 hF
  obtain ⟨⟨m, hv, hB, b7⟩, _⟩ := hF
  have hEw1 := Ext.trans _ _ _ (Ext.drew _) hRw1
  simp only [fill, Act.put, List.setIfInBounds_toArray, List.set_cons_zero, List.set_cons_succ, hv]
  have bp := bp.ext hEw1
  have bq := bq.ext hEw1
  have br := br.ext hEw1
  obtain ⟨s7, c70, c71, f7⟩ := b7.two
  go_wp2_with fail
  have bp := bp.far2 m (by omega) (.int .i64 (hi (p + 1))) (.int .u64 (lo (p + 1)))
  have bq := bq.far2 m (by omega) (.int .i64 (hi (p + 1))) (.int .u64 (lo (p + 1)))
  have br := br.far2 m (by omega) (.int .i64 (hi (p + 1))) (.int .u64 (lo (p + 1)))
  have b7 := b7.set2 (.int .i64 (hi (p + 1))) (.int .u64 (lo (p + 1)))
  have hx : Ext w ((w1.setCell ⟨m, 0, none⟩ (.int .i64 (hi (p + 1)))).setCell ⟨m, 1, none⟩ (.int .u64 (lo (p + 1)))) := by (repeat (first | exact Ext.refl _ | assumption | (refine Ext.setCell' ?_ (by simp <;> omega) _) | refine Ext.alloc' ?_ _ | refine Ext.drew' ?_ | (refine Ext.trans _ _ _ ?_ (by assumption))))
  have hsz : ((w1.setCell ⟨m, 0, none⟩ (.int .i64 (hi (p + 1)))).setCell ⟨m, 1, none⟩ (.int .u64 (lo (p + 1)))).heap.size = w1.heap.size := by simp [World.setCell]
  generalize (w1.setCell ⟨m, 0, none⟩ (.int .i64 (hi (p + 1)))).setCell ⟨m, 1, none⟩ (.int .u64 (lo (p + 1))) = w2 at *
  clear hRw1 hEw1 s7 c70 c71 f7
  have b8 := Box.alloc' w2 [.int .i64 9223372036854775807, .int .u64 18446744073709551615] 24 w1.heap.size hsz.symm
  clear hsz
  have bp := bp.ext (Ext.alloc w2 (.cells #[.int .i64 9223372036854775807, .int .u64 18446744073709551615] 24))
  have bq := bq.ext (Ext.alloc w2 (.cells #[.int .i64 9223372036854775807, .int .u64 18446744073709551615] 24))
  have br := br.ext (Ext.alloc w2 (.cells #[.int .i64 9223372036854775807, .int .u64 18446744073709551615] 24))
  have b7 := b7.ext (Ext.alloc w2 (.cells #[.int .i64 9223372036854775807, .int .u64 18446744073709551615] 24))
  have hx := Ext.trans _ _ _ hx (Ext.alloc w2 (.cells #[.int .i64 9223372036854775807, .int .u64 18446744073709551615] 24))
  generalize w1.heap.size = k8 at *
  generalize w2.alloc (.cells #[.int .i64 9223372036854775807, .int .u64 18446744073709551615] 24) = w3 at *
  obtain ⟨sp, cp0, cp1, _⟩ := bp.two
  obtain ⟨sq, cq0, cq1, _⟩ := bq.two
  obtain ⟨sr, cr0, cr1, _⟩ := br.two
  refine wp_region_rel 82 Ext Ext.refl Ext.trans (by kernel_rfl) rfl (by kernel_rfl) ?_
  iterate 12
    first
      | (refine wpRel_skip ?_ ?_
         · (simp [go_sem]; done)
         simp only [Act.put, List.setIfInBounds_toArray, List.set_cons_zero, List.set_cons_succ])
      | (refine wpRel_ex ?_ ?_
         · (simp [go_sem]; done)
         apply Exists.intro
         refine ⟨fun σ w' hR hF => ?_, ?_⟩
         · have hcell := (Ext.trans _ _ _ (Ext.drew _) hR).cell
           clear hF
           simp only [fill]
           go_simp
           first
             | (go_at_call 16; refine (wide_Compare _ _ (by assumption) (by assumption) _).mono ?_; rintro e w1 ⟨rfl, h1⟩; exact ⟨rfl, h1⟩)
             | exact ⟨Ext.refl _, rfl⟩
         simp only [Act.put, List.setIfInBounds_toArray, List.set_cons_zero, List.set_cons_succ])
  intro σ w4 hRw4 _
  have hEw4 := Ext.trans _ _ _ (Ext.drew _) hRw4
  have hcellw4 := hEw4.cell
  have hfreew4 := hEw4.free
  simp only [fill]
  clear sp cp0 cp1 sq cq0 cq1 sr cr0 cr1 hcellw4 hfreew4
  have bp := bp.ext hEw4
  have bq := bq.ext hEw4
  have b7 := b7.ext hEw4
  have b8 := b8.ext hEw4
  have hx := Ext.trans _ _ _ hx hEw4
  clear br hEw4 hRw4
  obtain ⟨sp, cp0, cp1, _⟩ := bp.two
  go_wp2_with fail
  refine (wide_Narrow _ hp _).mono ?_
  rintro e w6 ⟨rfl, k6⟩
  have bp := bp.ext k6
  have bq := bq.ext k6
  have b7 := b7.ext k6
  have b8 := b8.ext k6
  have hx := Ext.trans _ _ _ hx k6
  clear sp cp0 cp1 k6
  obtain ⟨sp, cp0, cp1, _⟩ := bp.two
  obtain ⟨sq, cq0, cq1, _⟩ := bq.two
  obtain ⟨s7, c70, c71, _⟩ := b7.two
  obtain ⟨s8, c80, c81, _⟩ := b8.two
  clear bp bq b7 b8
  go_wp2_with fail
  refine wp_region_rel 82 Ext Ext.refl Ext.trans (by kernel_rfl) rfl (by kernel_rfl) ?_
  iterate 4
    first
      | (refine wpRel_skip ?_ ?_
         · (simp [go_sem]; done)
         simp only [Act.put, List.setIfInBounds_toArray, List.set_cons_zero, List.set_cons_succ])
      | (refine wpRel_ex ?_ ?_
         · (simp [go_sem]; done)
         apply Exists.intro
         refine ⟨fun σ w' hR hF => ?_, ?_⟩
         · have hcell := (Ext.trans _ _ _ (Ext.drew _) hR).cell
           clear hF
           simp only [fill]
           go_simp
           first
             | (go_at_call 13; refine (live_any _).mono ?_; rintro e w1 ⟨rfl, h1⟩; exact ⟨rfl, h1⟩)
             | (go_at_call 14; refine (wide_Of _ (by assumption) _).mono ?_; rintro e w1 ⟨rfl, h1⟩; exact ⟨rfl, h1⟩)
             | (go_at_call 16; refine (wide_Compare _ _ (by assumption) (by assumption) _).mono ?_; rintro e w1 ⟨rfl, h1⟩; exact ⟨rfl, h1⟩)
             | exact ⟨Ext.refl _, rfl⟩
         simp only [Act.put, List.setIfInBounds_toArray, List.set_cons_zero, List.set_cons_succ])
  refine wpRel_val ?_ (.bool false) (fun σ w' hR hF => ?_) ?_
  · simp [go_sem]
  · have hcell := (Ext.trans _ _ _ (Ext.drew _) hR).cell
    clear hF
    simp only [fill]
    have ht := HT.out
    by_cases h3 : hi p = 9223372036854775807
    · have t1 := iff_true' h3
      have t2 : (lo p = 18446744073709551615) = False := by simp; intro h4; exact ht ⟨h3, h4⟩
      clear h3 ht
      go_simp
      first
        | exact ⟨Ext.refl _, rfl⟩
        | exact Ext.refl _
    · clear ht
      go_simp
      first
        | exact ⟨Ext.refl _, rfl⟩
        | exact Ext.refl _
  simp only [Act.put, List.setIfInBounds_toArray, List.set_cons_zero, List.set_cons_succ]
  iterate 20
    first
      | (refine wpRel_skip ?_ ?_
         · (simp [go_sem]; done)
         simp only [Act.put, List.setIfInBounds_toArray, List.set_cons_zero, List.set_cons_succ])
      | (refine wpRel_ex ?_ ?_
         · (simp [go_sem]; done)
         apply Exists.intro
         refine ⟨fun σ w' hR hF => ?_, ?_⟩
         · have hcell := (Ext.trans _ _ _ (Ext.drew _) hR).cell
           clear hF
           simp only [fill]
           go_simp
           first
             | (go_at_call 13; refine (live_any _).mono ?_; rintro e w1 ⟨rfl, h1⟩; exact ⟨rfl, h1⟩)
             | (go_at_call 14; refine (wide_Of _ (by assumption) _).mono ?_; rintro e w1 ⟨rfl, h1⟩; exact ⟨rfl, h1⟩)
             | (go_at_call 16; refine (wide_Compare _ _ (by assumption) (by assumption) _).mono ?_; rintro e w1 ⟨rfl, h1⟩; exact ⟨rfl, h1⟩)
             | exact ⟨Ext.refl _, rfl⟩
         simp only [Act.put, List.setIfInBounds_toArray, List.set_cons_zero, List.set_cons_succ])
  refine wpRel_val ?_ (.bool (decide (p = q))) (fun σ w' hR hF => ?_) ?_
  · simp [go_sem]
  · have hcell := (Ext.trans _ _ _ (Ext.drew _) hR).cell
    clear hF
    simp only [fill]
    by_cases hpq : p = q
    · subst hpq
      go_simp
      first
        | exact ⟨Ext.refl _, rfl⟩
        | exact Ext.refl _
    · have hn : ¬ (hi p = hi q ∧ lo p = lo q) := fun h => hpq ((HE.out).2 h)
      have hd : decide (p = q) = false := by simp [hpq]
      by_cases hh : hi p = hi q
      · have hh1 := iff_true' hh
        have hl : (lo p = lo q) = False := by simp; intro h; exact hn ⟨hh, h⟩
        clear hh hn hpq
        go_simp
        first
          | exact ⟨Ext.refl _, rfl⟩
          | exact Ext.refl _
      · clear hn hpq
        go_simp
        first
          | exact ⟨Ext.refl _, rfl⟩
          | exact Ext.refl _
  simp only [Act.put, List.setIfInBounds_toArray, List.set_cons_zero, List.set_cons_succ]
  iterate 25
    first
      | (refine wpRel_skip ?_ ?_
         · (simp [go_sem]; done)
         simp only [Act.put, List.setIfInBounds_toArray, List.set_cons_zero, List.set_cons_succ])
      | (refine wpRel_ex ?_ ?_
         · (simp [go_sem]; done)
         apply Exists.intro
         refine ⟨fun σ w' hR hF => ?_, ?_⟩
         · have hcell := (Ext.trans _ _ _ (Ext.drew _) hR).cell
           clear hF
           simp only [fill]
           go_simp
           first
             | (go_at_call 13; refine (live_any _).mono ?_; rintro e w1 ⟨rfl, h1⟩; exact ⟨rfl, h1⟩)
             | (go_at_call 14; refine (wide_Of _ (by assumption) _).mono ?_; rintro e w1 ⟨rfl, h1⟩; exact ⟨rfl, h1⟩)
             | (go_at_call 16; refine (wide_Compare _ _ (by assumption) (by assumption) _).mono ?_; rintro e w1 ⟨rfl, h1⟩; exact ⟨rfl, h1⟩)
             | exact ⟨Ext.refl _, rfl⟩
         simp only [Act.put, List.setIfInBounds_toArray, List.set_cons_zero, List.set_cons_succ])
  intro σ w5 hRw5 _
  have hEw5 := Ext.trans _ _ _ (Ext.drew _) hRw5
  have hcellw5 := hEw5.cell
  have hfreew5 := hEw5.free
  simp only [fill]
  go_wp2
  go_ret
  exact ⟨rfl, Ext.trans _ _ _ hx hEw5⟩

set_option maxRecDepth 100000 in
set_option maxHeartbeats 2000000 in
theorem orders_NXI (p q r : Int) (hp : W128 p) (hq : W128 q) (hr : W128 r) (ht : ¬ (hi p = 9223372036854775807 ∧ lo p = 18446744073709551615)) (hp1 : W128 (p + 1)) (x1 : 0 < sgn3 p q) (f1 : fits p = true) (f2 : nar p = p) (f3 : I64 p) (w : World) :
    Calls Try.prog 8 #[.agg #[.int .i64 (hi p), .int .u64 (lo p)], .agg #[.int .i64 (hi q), .int .u64 (lo q)], .agg #[.int .i64 (hi r), .int .u64 (lo r)]] w fun e w' => e = .returned (.bool true) ∧ Ext w w' := by
  have d1 : decide (0 < sgn3 p q) = true := by simp; omega
  have HT := Lib.hid ht
  clear ht
  have bp := ((Box.alloc w [.int .i64 (hi p), .int .u64 (lo p)] 24).ext (Ext.alloc _ (.cells #[.int .i64 (hi q), .int .u64 (lo q)] 24))).ext (Ext.alloc _ (.cells #[.int .i64 (hi r), .int .u64 (lo r)] 24))
  have bq := (Box.alloc' (w.alloc (.cells #[.int .i64 (hi p), .int .u64 (lo p)] 24)) [.int .i64 (hi q), .int .u64 (lo q)] 24 (w.heap.size + 1) (by simp)).ext (Ext.alloc _ (.cells #[.int .i64 (hi r), .int .u64 (lo r)] 24))
  have br := Box.alloc' ((w.alloc (.cells #[.int .i64 (hi p), .int .u64 (lo p)] 24)).alloc (.cells #[.int .i64 (hi q), .int .u64 (lo q)] 24)) [.int .i64 (hi r), .int .u64 (lo r)] 24 (w.heap.size + 1 + 1) (by simp)
  have e1 := sgn3_neg p q
  have e1' : IntKind.i64.wrap (-(sgn3 q p)) = sgn3 p q := by rw [IntWalk.i64_left]; exact sgn3_neg p q
  have e2 := sgn3_zero p q
  have e4 := sgn3_more p
  have hI1 : I64 1 := by unfold I64; omega
  have HE := Lib.hid (eq_iff_halves p q hp hq)
  go_enter Try.func8, Try.ntmps8
  go_wp2
  refine wp_region_rel_tail 4 82 Ext Ext.refl Ext.trans (by kernel_rfl) rfl (by kernel_rfl) ?_
  simp only [List.take_succ_cons, List.take_zero, List.drop_succ_cons, List.drop_zero]
  iterate 3
    first
      | (refine wpRel_skip ?_ ?_
         · (simp [go_sem]; done)
         simp only [Act.put, List.setIfInBounds_toArray, List.set_cons_zero, List.set_cons_succ])
      | (refine wpRel_ex ?_ ?_
         · (simp [go_sem]; done)
         apply Exists.intro
         refine ⟨fun σ w' hR hF => ?_, ?_⟩
         · have hcell := (Ext.trans _ _ _ (Ext.drew _) hR).cell
           clear hF
           simp only [fill]
           go_simp
           first
             | (go_at_call 14; refine (wide_Of _ hI1 _).mono ?_; rintro e w1 ⟨rfl, h1⟩; exact ⟨rfl, h1⟩)
             | (go_at_call 18; refine (wide_Add _ _ _).mono ?_; rintro e w1 ⟨rfl, h1⟩; exact ⟨rfl, h1⟩)
             | exact ⟨Ext.refl _, rfl⟩
         simp only [Act.put, List.setIfInBounds_toArray, List.set_cons_zero, List.set_cons_succ])
  refine wpRel_fact (by (simp [go_sem]; done)) 7 (NewPtr (w.heap.size + 3) [.int .i64 0, .int .u64 0]) rfl (NewPtr.stable _ _) (fun σ w' hR hF => ?_) ?_
  · have hs := hR.size
    simp at hs
    go_simp
    exact NewPtr.alloc w' [.int .i64 0, .int .u64 0] 24 (by omega)
  intro σ w1 hRw1 hF
  obtain ⟨⟨m, hv, hB, b7⟩, _⟩ := hF
  have hEw1 := Ext.trans _ _ _ (Ext.drew _) hRw1
  simp only [fill, Act.put, List.setIfInBounds_toArray, List.set_cons_zero, List.set_cons_succ, hv]
  have bp := bp.ext hEw1
  have bq := bq.ext hEw1
  have br := br.ext hEw1
  obtain ⟨s7, c70, c71, f7⟩ := b7.two
  go_wp2_with fail
  have bp := bp.far2 m (by omega) (.int .i64 (hi (p + 1))) (.int .u64 (lo (p + 1)))
  have bq := bq.far2 m (by omega) (.int .i64 (hi (p + 1))) (.int .u64 (lo (p + 1)))
  have br := br.far2 m (by omega) (.int .i64 (hi (p + 1))) (.int .u64 (lo (p + 1)))
  have b7 := b7.set2 (.int .i64 (hi (p + 1))) (.int .u64 (lo (p + 1)))
  have hx : Ext w ((w1.setCell ⟨m, 0, none⟩ (.int .i64 (hi (p + 1)))).setCell ⟨m, 1, none⟩ (.int .u64 (lo (p + 1)))) := by (repeat (first | exact Ext.refl _ | assumption | (refine Ext.setCell' ?_ (by simp <;> omega) _) | refine Ext.alloc' ?_ _ | refine Ext.drew' ?_ | (refine Ext.trans _ _ _ ?_ (by assumption))))
  have hsz : ((w1.setCell ⟨m, 0, none⟩ (.int .i64 (hi (p + 1)))).setCell ⟨m, 1, none⟩ (.int .u64 (lo (p + 1)))).heap.size = w1.heap.size := by simp [World.setCell]
  generalize (w1.setCell ⟨m, 0, none⟩ (.int .i64 (hi (p + 1)))).setCell ⟨m, 1, none⟩ (.int .u64 (lo (p + 1))) = w2 at *
  clear hRw1 hEw1 s7 c70 c71 f7
  have b8 := Box.alloc' w2 [.int .i64 9223372036854775807, .int .u64 18446744073709551615] 24 w1.heap.size hsz.symm
  clear hsz
  have bp := bp.ext (Ext.alloc w2 (.cells #[.int .i64 9223372036854775807, .int .u64 18446744073709551615] 24))
  have bq := bq.ext (Ext.alloc w2 (.cells #[.int .i64 9223372036854775807, .int .u64 18446744073709551615] 24))
  have br := br.ext (Ext.alloc w2 (.cells #[.int .i64 9223372036854775807, .int .u64 18446744073709551615] 24))
  have b7 := b7.ext (Ext.alloc w2 (.cells #[.int .i64 9223372036854775807, .int .u64 18446744073709551615] 24))
  have hx := Ext.trans _ _ _ hx (Ext.alloc w2 (.cells #[.int .i64 9223372036854775807, .int .u64 18446744073709551615] 24))
  generalize w1.heap.size = k8 at *
  generalize w2.alloc (.cells #[.int .i64 9223372036854775807, .int .u64 18446744073709551615] 24) = w3 at *
  obtain ⟨sp, cp0, cp1, _⟩ := bp.two
  obtain ⟨sq, cq0, cq1, _⟩ := bq.two
  obtain ⟨sr, cr0, cr1, _⟩ := br.two
  refine wp_region_rel 82 Ext Ext.refl Ext.trans (by kernel_rfl) rfl (by kernel_rfl) ?_
  iterate 12
    first
      | (refine wpRel_skip ?_ ?_
         · (simp [go_sem]; done)
         simp only [Act.put, List.setIfInBounds_toArray, List.set_cons_zero, List.set_cons_succ])
      | (refine wpRel_ex ?_ ?_
         · (simp [go_sem]; done)
         apply Exists.intro
         refine ⟨fun σ w' hR hF => ?_, ?_⟩
         · have hcell := (Ext.trans _ _ _ (Ext.drew _) hR).cell
           clear hF
           simp only [fill]
           go_simp
           first
             | (go_at_call 16; refine (wide_Compare _ _ (by assumption) (by assumption) _).mono ?_; rintro e w1 ⟨rfl, h1⟩; exact ⟨rfl, h1⟩)
             | exact ⟨Ext.refl _, rfl⟩
         simp only [Act.put, List.setIfInBounds_toArray, List.set_cons_zero, List.set_cons_succ])
  intro σ w4 hRw4 _
  have hEw4 := Ext.trans _ _ _ (Ext.drew _) hRw4
  have hcellw4 := hEw4.cell
  have hfreew4 := hEw4.free
  simp only [fill]
  clear sp cp0 cp1 sq cq0 cq1 sr cr0 cr1 hcellw4 hfreew4
  have bp := bp.ext hEw4
  have bq := bq.ext hEw4
  have b7 := b7.ext hEw4
  have b8 := b8.ext hEw4
  have hx := Ext.trans _ _ _ hx hEw4
  clear br hEw4 hRw4
  obtain ⟨sp, cp0, cp1, _⟩ := bp.two
  go_wp2_with fail
  refine (wide_Narrow _ hp _).mono ?_
  rintro e w6 ⟨rfl, k6⟩
  have bp := bp.ext k6
  have bq := bq.ext k6
  have b7 := b7.ext k6
  have b8 := b8.ext k6
  have hx := Ext.trans _ _ _ hx k6
  clear sp cp0 cp1 k6
  obtain ⟨sp, cp0, cp1, _⟩ := bp.two
  obtain ⟨sq, cq0, cq1, _⟩ := bq.two
  obtain ⟨s7, c70, c71, _⟩ := b7.two
  obtain ⟨s8, c80, c81, _⟩ := b8.two
  clear bp bq b7 b8
  go_wp2_with fail
  refine wp_region_rel 82 Ext Ext.refl Ext.trans (by kernel_rfl) rfl (by kernel_rfl) ?_
  iterate 4
    first
      | (refine wpRel_skip ?_ ?_
         · (simp [go_sem]; done)
         simp only [Act.put, List.setIfInBounds_toArray, List.set_cons_zero, List.set_cons_succ])
      | (refine wpRel_ex ?_ ?_
         · (simp [go_sem]; done)
         apply Exists.intro
         refine ⟨fun σ w' hR hF => ?_, ?_⟩
         · have hcell := (Ext.trans _ _ _ (Ext.drew _) hR).cell
           clear hF
           simp only [fill]
           go_simp
           first
             | (go_at_call 13; refine (live_any _).mono ?_; rintro e w1 ⟨rfl, h1⟩; exact ⟨rfl, h1⟩)
             | (go_at_call 14; refine (wide_Of _ (by assumption) _).mono ?_; rintro e w1 ⟨rfl, h1⟩; exact ⟨rfl, h1⟩)
             | (go_at_call 16; refine (wide_Compare _ _ (by assumption) (by assumption) _).mono ?_; rintro e w1 ⟨rfl, h1⟩; exact ⟨rfl, h1⟩)
             | exact ⟨Ext.refl _, rfl⟩
         simp only [Act.put, List.setIfInBounds_toArray, List.set_cons_zero, List.set_cons_succ])
  refine wpRel_val ?_ (.bool false) (fun σ w' hR hF => ?_) ?_
  · simp [go_sem]
  · have hcell := (Ext.trans _ _ _ (Ext.drew _) hR).cell
    clear hF
    simp only [fill]
    have ht := HT.out
    by_cases h3 : hi p = 9223372036854775807
    · have t1 := iff_true' h3
      have t2 : (lo p = 18446744073709551615) = False := by simp; intro h4; exact ht ⟨h3, h4⟩
      clear h3 ht
      go_simp
      first
        | exact ⟨Ext.refl _, rfl⟩
        | exact Ext.refl _
    · clear ht
      go_simp
      first
        | exact ⟨Ext.refl _, rfl⟩
        | exact Ext.refl _
  simp only [Act.put, List.setIfInBounds_toArray, List.set_cons_zero, List.set_cons_succ]
  iterate 20
    first
      | (refine wpRel_skip ?_ ?_
         · (simp [go_sem]; done)
         simp only [Act.put, List.setIfInBounds_toArray, List.set_cons_zero, List.set_cons_succ])
      | (refine wpRel_ex ?_ ?_
         · (simp [go_sem]; done)
         apply Exists.intro
         refine ⟨fun σ w' hR hF => ?_, ?_⟩
         · have hcell := (Ext.trans _ _ _ (Ext.drew _) hR).cell
           clear hF
           simp only [fill]
           go_simp
           first
             | (go_at_call 13; refine (live_any _).mono ?_; rintro e w1 ⟨rfl, h1⟩; exact ⟨rfl, h1⟩)
             | (go_at_call 14; refine (wide_Of _ (by assumption) _).mono ?_; rintro e w1 ⟨rfl, h1⟩; exact ⟨rfl, h1⟩)
             | (go_at_call 16; refine (wide_Compare _ _ (by assumption) (by assumption) _).mono ?_; rintro e w1 ⟨rfl, h1⟩; exact ⟨rfl, h1⟩)
             | exact ⟨Ext.refl _, rfl⟩
         simp only [Act.put, List.setIfInBounds_toArray, List.set_cons_zero, List.set_cons_succ])
  refine wpRel_val ?_ (.bool (decide (p = q))) (fun σ w' hR hF => ?_) ?_
  · simp [go_sem]
  · have hcell := (Ext.trans _ _ _ (Ext.drew _) hR).cell
    clear hF
    simp only [fill]
    by_cases hpq : p = q
    · subst hpq
      go_simp
      first
        | exact ⟨Ext.refl _, rfl⟩
        | exact Ext.refl _
    · have hn : ¬ (hi p = hi q ∧ lo p = lo q) := fun h => hpq ((HE.out).2 h)
      have hd : decide (p = q) = false := by simp [hpq]
      by_cases hh : hi p = hi q
      · have hh1 := iff_true' hh
        have hl : (lo p = lo q) = False := by simp; intro h; exact hn ⟨hh, h⟩
        clear hh hn hpq
        go_simp
        first
          | exact ⟨Ext.refl _, rfl⟩
          | exact Ext.refl _
      · clear hn hpq
        go_simp
        first
          | exact ⟨Ext.refl _, rfl⟩
          | exact Ext.refl _
  simp only [Act.put, List.setIfInBounds_toArray, List.set_cons_zero, List.set_cons_succ]
  iterate 25
    first
      | (refine wpRel_skip ?_ ?_
         · (simp [go_sem]; done)
         simp only [Act.put, List.setIfInBounds_toArray, List.set_cons_zero, List.set_cons_succ])
      | (refine wpRel_ex ?_ ?_
         · (simp [go_sem]; done)
         apply Exists.intro
         refine ⟨fun σ w' hR hF => ?_, ?_⟩
         · have hcell := (Ext.trans _ _ _ (Ext.drew _) hR).cell
           clear hF
           simp only [fill]
           go_simp
           first
             | (go_at_call 13; refine (live_any _).mono ?_; rintro e w1 ⟨rfl, h1⟩; exact ⟨rfl, h1⟩)
             | (go_at_call 14; refine (wide_Of _ (by assumption) _).mono ?_; rintro e w1 ⟨rfl, h1⟩; exact ⟨rfl, h1⟩)
             | (go_at_call 16; refine (wide_Compare _ _ (by assumption) (by assumption) _).mono ?_; rintro e w1 ⟨rfl, h1⟩; exact ⟨rfl, h1⟩)
             | exact ⟨Ext.refl _, rfl⟩
         simp only [Act.put, List.setIfInBounds_toArray, List.set_cons_zero, List.set_cons_succ])
  intro σ w5 hRw5 _
  have hEw5 := Ext.trans _ _ _ (Ext.drew _) hRw5
  have hcellw5 := hEw5.cell
  have hfreew5 := hEw5.free
  simp only [fill]
  go_wp2
  go_ret
  exact ⟨rfl, Ext.trans _ _ _ hx hEw5⟩

set_option maxRecDepth 100000 in
set_option maxHeartbeats 2000000 in
theorem orders_NYI (p q r : Int) (hp : W128 p) (hq : W128 q) (hr : W128 r) (ht : ¬ (hi p = 9223372036854775807 ∧ lo p = 18446744073709551615)) (hp1 : W128 (p + 1)) (x1 : ¬ 0 < sgn3 p q) (x2 : 0 < sgn3 q r) (f1 : fits p = true) (f2 : nar p = p) (f3 : I64 p) (w : World) :
    Calls Try.prog 8 #[.agg #[.int .i64 (hi p), .int .u64 (lo p)], .agg #[.int .i64 (hi q), .int .u64 (lo q)], .agg #[.int .i64 (hi r), .int .u64 (lo r)]] w fun e w' => e = .returned (.bool true) ∧ Ext w w' := by
  have y1 : sgn3 p q ≤ 0 := by omega
  have d1 : decide (0 < sgn3 p q) = false := by simp; omega
  have d2 : decide (0 < sgn3 q r) = true := by simp; omega
  have HT := Lib.hid ht
  clear ht
  have bp := ((Box.alloc w [.int .i64 (hi p), .int .u64 (lo p)] 24).ext (Ext.alloc _ (.cells #[.int .i64 (hi q), .int .u64 (lo q)] 24))).ext (Ext.alloc _ (.cells #[.int .i64 (hi r), .int .u64 (lo r)] 24))
  have bq := (Box.alloc' (w.alloc (.cells #[.int .i64 (hi p), .int .u64 (lo p)] 24)) [.int .i64 (hi q), .int .u64 (lo q)] 24 (w.heap.size + 1) (by simp)).ext (Ext.alloc _ (.cells #[.int .i64 (hi r), .int .u64 (lo r)] 24))
  have br := Box.alloc' ((w.alloc (.cells #[.int .i64 (hi p), .int .u64 (lo p)] 24)).alloc (.cells #[.int .i64 (hi q), .int .u64 (lo q)] 24)) [.int .i64 (hi r), .int .u64 (lo r)] 24 (w.heap.size + 1 + 1) (by simp)
  have e1 := sgn3_neg p q
  have e1' : IntKind.i64.wrap (-(sgn3 q p)) = sgn3 p q := by rw [IntWalk.i64_left]; exact sgn3_neg p q
  have e2 := sgn3_zero p q
  have e4 := sgn3_more p
  have hI1 : I64 1 := by unfold I64; omega
  have HE := Lib.hid (eq_iff_halves p q hp hq)
  go_enter Try.func8, Try.ntmps8
  go_wp2
  refine wp_region_rel_tail 4 82 Ext Ext.refl Ext.trans (by kernel_rfl) rfl (by kernel_rfl) ?_
  simp only [List.take_succ_cons, List.take_zero, List.drop_succ_cons, List.drop_zero]
  iterate 3
    first
      | (refine wpRel_skip ?_ ?_
         · (simp [go_sem]; done)
         simp only [Act.put, List.setIfInBounds_toArray, List.set_cons_zero, List.set_cons_succ])
      | (refine wpRel_ex ?_ ?_
         · (simp [go_sem]; done)
         apply Exists.intro
         refine ⟨fun σ w' hR hF => ?_, ?_⟩
         · have hcell := (Ext.trans _ _ _ (Ext.drew _) hR).cell
           clear hF
           simp only [fill]
           go_simp
           first
             | (go_at_call 14; refine (wide_Of _ hI1 _).mono ?_; rintro e w1 ⟨rfl, h1⟩; exact ⟨rfl, h1⟩)
             | (go_at_call 18; refine (wide_Add _ _ _).mono ?_; rintro e w1 ⟨rfl, h1⟩; exact ⟨rfl, h1⟩)
             | exact ⟨Ext.refl _, rfl⟩
         simp only [Act.put, List.setIfInBounds_toArray, List.set_cons_zero, List.set_cons_succ])
  refine wpRel_fact (by (simp [go_sem]; done)) 7 (NewPtr (w.heap.size + 3) [.int .i64 0, .int .u64 0]) rfl (NewPtr.stable _ _) (fun σ w' hR hF => ?_) ?_
  · have hs := hR.size
    simp at hs
    go_simp
    exact NewPtr.alloc w' [.int .i64 0, .int .u64 0] 24 (by omega)
  intro σ w1 hRw1 hF
  obtain ⟨⟨m, hv, hB, b7⟩, _⟩ := hF
  have hEw1 := Ext.trans _ _ _ (Ext.drew _) hRw1
  simp only [fill, Act.put, List.setIfInBounds_toArray, List.set_cons_zero, List.set_cons_succ, hv]
  have bp := bp.ext hEw1
  have bq := bq.ext hEw1
  have br := br.ext hEw1
  obtain ⟨s7, c70, c71, f7⟩ := b7.two
  go_wp2_with fail
  have bp := bp.far2 m (by omega) (.int .i64 (hi (p + 1))) (.int .u64 (lo (p + 1)))
  have bq := bq.far2 m (by omega) (.int .i64 (hi (p + 1))) (.int .u64 (lo (p + 1)))
  have br := br.far2 m (by omega) (.int .i64 (hi (p + 1))) (.int .u64 (lo (p + 1)))
  have b7 := b7.set2 (.int .i64 (hi (p + 1))) (.int .u64 (lo (p + 1)))
  have hx : Ext w ((w1.setCell ⟨m, 0, none⟩ (.int .i64 (hi (p + 1)))).setCell ⟨m, 1, none⟩ (.int .u64 (lo (p + 1)))) := by (repeat (first | exact Ext.refl _ | assumption | (refine Ext.setCell' ?_ (by simp <;> omega) _) | refine Ext.alloc' ?_ _ | refine Ext.drew' ?_ | (refine Ext.trans _ _ _ ?_ (by assumption))))
  have hsz : ((w1.setCell ⟨m, 0, none⟩ (.int .i64 (hi (p + 1)))).setCell ⟨m, 1, none⟩ (.int .u64 (lo (p + 1)))).heap.size = w1.heap.size := by simp [World.setCell]
  generalize (w1.setCell ⟨m, 0, none⟩ (.int .i64 (hi (p + 1)))).setCell ⟨m, 1, none⟩ (.int .u64 (lo (p + 1))) = w2 at *
  clear hRw1 hEw1 s7 c70 c71 f7
  have b8 := Box.alloc' w2 [.int .i64 9223372036854775807, .int .u64 18446744073709551615] 24 w1.heap.size hsz.symm
  clear hsz
  have bp := bp.ext (Ext.alloc w2 (.cells #[.int .i64 9223372036854775807, .int .u64 18446744073709551615] 24))
  have bq := bq.ext (Ext.alloc w2 (.cells #[.int .i64 9223372036854775807, .int .u64 18446744073709551615] 24))
  have br := br.ext (Ext.alloc w2 (.cells #[.int .i64 9223372036854775807, .int .u64 18446744073709551615] 24))
  have b7 := b7.ext (Ext.alloc w2 (.cells #[.int .i64 9223372036854775807, .int .u64 18446744073709551615] 24))
  have hx := Ext.trans _ _ _ hx (Ext.alloc w2 (.cells #[.int .i64 9223372036854775807, .int .u64 18446744073709551615] 24))
  generalize w1.heap.size = k8 at *
  generalize w2.alloc (.cells #[.int .i64 9223372036854775807, .int .u64 18446744073709551615] 24) = w3 at *
  obtain ⟨sp, cp0, cp1, _⟩ := bp.two
  obtain ⟨sq, cq0, cq1, _⟩ := bq.two
  obtain ⟨sr, cr0, cr1, _⟩ := br.two
  refine wp_region_rel 82 Ext Ext.refl Ext.trans (by kernel_rfl) rfl (by kernel_rfl) ?_
  iterate 12
    first
      | (refine wpRel_skip ?_ ?_
         · (simp [go_sem]; done)
         simp only [Act.put, List.setIfInBounds_toArray, List.set_cons_zero, List.set_cons_succ])
      | (refine wpRel_ex ?_ ?_
         · (simp [go_sem]; done)
         apply Exists.intro
         refine ⟨fun σ w' hR hF => ?_, ?_⟩
         · have hcell := (Ext.trans _ _ _ (Ext.drew _) hR).cell
           clear hF
           simp only [fill]
           go_simp
           first
             | (go_at_call 16; refine (wide_Compare _ _ (by assumption) (by assumption) _).mono ?_; rintro e w1 ⟨rfl, h1⟩; exact ⟨rfl, h1⟩)
             | exact ⟨Ext.refl _, rfl⟩
         simp only [Act.put, List.setIfInBounds_toArray, List.set_cons_zero, List.set_cons_succ])
  intro σ w4 hRw4 _
  have hEw4 := Ext.trans _ _ _ (Ext.drew _) hRw4
  have hcellw4 := hEw4.cell
  have hfreew4 := hEw4.free
  simp only [fill]
  clear sp cp0 cp1 sq cq0 cq1 sr cr0 cr1 hcellw4 hfreew4
  have bp := bp.ext hEw4
  have bq := bq.ext hEw4
  have b7 := b7.ext hEw4
  have b8 := b8.ext hEw4
  have hx := Ext.trans _ _ _ hx hEw4
  clear br hEw4 hRw4
  obtain ⟨sp, cp0, cp1, _⟩ := bp.two
  go_wp2_with fail
  refine (wide_Narrow _ hp _).mono ?_
  rintro e w6 ⟨rfl, k6⟩
  have bp := bp.ext k6
  have bq := bq.ext k6
  have b7 := b7.ext k6
  have b8 := b8.ext k6
  have hx := Ext.trans _ _ _ hx k6
  clear sp cp0 cp1 k6
  obtain ⟨sp, cp0, cp1, _⟩ := bp.two
  obtain ⟨sq, cq0, cq1, _⟩ := bq.two
  obtain ⟨s7, c70, c71, _⟩ := b7.two
  obtain ⟨s8, c80, c81, _⟩ := b8.two
  clear bp bq b7 b8
  go_wp2_with fail
  refine wp_region_rel 82 Ext Ext.refl Ext.trans (by kernel_rfl) rfl (by kernel_rfl) ?_
  iterate 4
    first
      | (refine wpRel_skip ?_ ?_
         · (simp [go_sem]; done)
         simp only [Act.put, List.setIfInBounds_toArray, List.set_cons_zero, List.set_cons_succ])
      | (refine wpRel_ex ?_ ?_
         · (simp [go_sem]; done)
         apply Exists.intro
         refine ⟨fun σ w' hR hF => ?_, ?_⟩
         · have hcell := (Ext.trans _ _ _ (Ext.drew _) hR).cell
           clear hF
           simp only [fill]
           go_simp
           first
             | (go_at_call 13; refine (live_any _).mono ?_; rintro e w1 ⟨rfl, h1⟩; exact ⟨rfl, h1⟩)
             | (go_at_call 14; refine (wide_Of _ (by assumption) _).mono ?_; rintro e w1 ⟨rfl, h1⟩; exact ⟨rfl, h1⟩)
             | (go_at_call 16; refine (wide_Compare _ _ (by assumption) (by assumption) _).mono ?_; rintro e w1 ⟨rfl, h1⟩; exact ⟨rfl, h1⟩)
             | exact ⟨Ext.refl _, rfl⟩
         simp only [Act.put, List.setIfInBounds_toArray, List.set_cons_zero, List.set_cons_succ])
  refine wpRel_val ?_ (.bool false) (fun σ w' hR hF => ?_) ?_
  · simp [go_sem]
  · have hcell := (Ext.trans _ _ _ (Ext.drew _) hR).cell
    clear hF
    simp only [fill]
    have ht := HT.out
    by_cases h3 : hi p = 9223372036854775807
    · have t1 := iff_true' h3
      have t2 : (lo p = 18446744073709551615) = False := by simp; intro h4; exact ht ⟨h3, h4⟩
      clear h3 ht
      go_simp
      first
        | exact ⟨Ext.refl _, rfl⟩
        | exact Ext.refl _
    · clear ht
      go_simp
      first
        | exact ⟨Ext.refl _, rfl⟩
        | exact Ext.refl _
  simp only [Act.put, List.setIfInBounds_toArray, List.set_cons_zero, List.set_cons_succ]
  iterate 20
    first
      | (refine wpRel_skip ?_ ?_
         · (simp [go_sem]; done)
         simp only [Act.put, List.setIfInBounds_toArray, List.set_cons_zero, List.set_cons_succ])
      | (refine wpRel_ex ?_ ?_
         · (simp [go_sem]; done)
         apply Exists.intro
         refine ⟨fun σ w' hR hF => ?_, ?_⟩
         · have hcell := (Ext.trans _ _ _ (Ext.drew _) hR).cell
           clear hF
           simp only [fill]
           go_simp
           first
             | (go_at_call 13; refine (live_any _).mono ?_; rintro e w1 ⟨rfl, h1⟩; exact ⟨rfl, h1⟩)
             | (go_at_call 14; refine (wide_Of _ (by assumption) _).mono ?_; rintro e w1 ⟨rfl, h1⟩; exact ⟨rfl, h1⟩)
             | (go_at_call 16; refine (wide_Compare _ _ (by assumption) (by assumption) _).mono ?_; rintro e w1 ⟨rfl, h1⟩; exact ⟨rfl, h1⟩)
             | exact ⟨Ext.refl _, rfl⟩
         simp only [Act.put, List.setIfInBounds_toArray, List.set_cons_zero, List.set_cons_succ])
  refine wpRel_val ?_ (.bool (decide (p = q))) (fun σ w' hR hF => ?_) ?_
  · simp [go_sem]
  · have hcell := (Ext.trans _ _ _ (Ext.drew _) hR).cell
    clear hF
    simp only [fill]
    by_cases hpq : p = q
    · subst hpq
      go_simp
      first
        | exact ⟨Ext.refl _, rfl⟩
        | exact Ext.refl _
    · have hn : ¬ (hi p = hi q ∧ lo p = lo q) := fun h => hpq ((HE.out).2 h)
      have hd : decide (p = q) = false := by simp [hpq]
      by_cases hh : hi p = hi q
      · have hh1 := iff_true' hh
        have hl : (lo p = lo q) = False := by simp; intro h; exact hn ⟨hh, h⟩
        clear hh hn hpq
        go_simp
        first
          | exact ⟨Ext.refl _, rfl⟩
          | exact Ext.refl _
      · clear hn hpq
        go_simp
        first
          | exact ⟨Ext.refl _, rfl⟩
          | exact Ext.refl _
  simp only [Act.put, List.setIfInBounds_toArray, List.set_cons_zero, List.set_cons_succ]
  iterate 25
    first
      | (refine wpRel_skip ?_ ?_
         · (simp [go_sem]; done)
         simp only [Act.put, List.setIfInBounds_toArray, List.set_cons_zero, List.set_cons_succ])
      | (refine wpRel_ex ?_ ?_
         · (simp [go_sem]; done)
         apply Exists.intro
         refine ⟨fun σ w' hR hF => ?_, ?_⟩
         · have hcell := (Ext.trans _ _ _ (Ext.drew _) hR).cell
           clear hF
           simp only [fill]
           go_simp
           first
             | (go_at_call 13; refine (live_any _).mono ?_; rintro e w1 ⟨rfl, h1⟩; exact ⟨rfl, h1⟩)
             | (go_at_call 14; refine (wide_Of _ (by assumption) _).mono ?_; rintro e w1 ⟨rfl, h1⟩; exact ⟨rfl, h1⟩)
             | (go_at_call 16; refine (wide_Compare _ _ (by assumption) (by assumption) _).mono ?_; rintro e w1 ⟨rfl, h1⟩; exact ⟨rfl, h1⟩)
             | exact ⟨Ext.refl _, rfl⟩
         simp only [Act.put, List.setIfInBounds_toArray, List.set_cons_zero, List.set_cons_succ])
  intro σ w5 hRw5 _
  have hEw5 := Ext.trans _ _ _ (Ext.drew _) hRw5
  have hcellw5 := hEw5.cell
  have hfreew5 := hEw5.free
  simp only [fill]
  go_wp2
  go_ret
  exact ⟨rfl, Ext.trans _ _ _ hx hEw5⟩

set_option maxRecDepth 100000 in
set_option maxHeartbeats 2000000 in
theorem orders_NZI (p q r : Int) (hp : W128 p) (hq : W128 q) (hr : W128 r) (ht : ¬ (hi p = 9223372036854775807 ∧ lo p = 18446744073709551615)) (hp1 : W128 (p + 1)) (x1 : ¬ 0 < sgn3 p q) (x2 : ¬ 0 < sgn3 q r) (x3 : sgn3 p r ≤ 0) (f1 : fits p = true) (f2 : nar p = p) (f3 : I64 p) (w : World) :
    Calls Try.prog 8 #[.agg #[.int .i64 (hi p), .int .u64 (lo p)], .agg #[.int .i64 (hi q), .int .u64 (lo q)], .agg #[.int .i64 (hi r), .int .u64 (lo r)]] w fun e w' => e = .returned (.bool true) ∧ Ext w w' := by
  have y1 : sgn3 p q ≤ 0 := by omega
  have y2 : sgn3 q r ≤ 0 := by omega
  have d1 : decide (0 < sgn3 p q) = false := by simp; omega
  have d2 : decide (0 < sgn3 q r) = false := by simp; omega
  have d3 : decide (sgn3 p r ≤ 0) = true := by simp; omega
  have HT := Lib.hid ht
  clear ht
  have bp := ((Box.alloc w [.int .i64 (hi p), .int .u64 (lo p)] 24).ext (Ext.alloc _ (.cells #[.int .i64 (hi q), .int .u64 (lo q)] 24))).ext (Ext.alloc _ (.cells #[.int .i64 (hi r), .int .u64 (lo r)] 24))
  have bq := (Box.alloc' (w.alloc (.cells #[.int .i64 (hi p), .int .u64 (lo p)] 24)) [.int .i64 (hi q), .int .u64 (lo q)] 24 (w.heap.size + 1) (by simp)).ext (Ext.alloc _ (.cells #[.int .i64 (hi r), .int .u64 (lo r)] 24))
  have br := Box.alloc' ((w.alloc (.cells #[.int .i64 (hi p), .int .u64 (lo p)] 24)).alloc (.cells #[.int .i64 (hi q), .int .u64 (lo q)] 24)) [.int .i64 (hi r), .int .u64 (lo r)] 24 (w.heap.size + 1 + 1) (by simp)
  have e1 := sgn3_neg p q
  have e1' : IntKind.i64.wrap (-(sgn3 q p)) = sgn3 p q := by rw [IntWalk.i64_left]; exact sgn3_neg p q
  have e2 := sgn3_zero p q
  have e4 := sgn3_more p
  have hI1 : I64 1 := by unfold I64; omega
  have HE := Lib.hid (eq_iff_halves p q hp hq)
  go_enter Try.func8, Try.ntmps8
  go_wp2
  refine wp_region_rel_tail 4 82 Ext Ext.refl Ext.trans (by kernel_rfl) rfl (by kernel_rfl) ?_
  simp only [List.take_succ_cons, List.take_zero, List.drop_succ_cons, List.drop_zero]
  iterate 3
    first
      | (refine wpRel_skip ?_ ?_
         · (simp [go_sem]; done)
         simp only [Act.put, List.setIfInBounds_toArray, List.set_cons_zero, List.set_cons_succ])
      | (refine wpRel_ex ?_ ?_
         · (simp [go_sem]; done)
         apply Exists.intro
         refine ⟨fun σ w' hR hF => ?_, ?_⟩
         · have hcell := (Ext.trans _ _ _ (Ext.drew _) hR).cell
           clear hF
           simp only [fill]
           go_simp
           first
             | (go_at_call 14; refine (wide_Of _ hI1 _).mono ?_; rintro e w1 ⟨rfl, h1⟩; exact ⟨rfl, h1⟩)
             | (go_at_call 18; refine (wide_Add _ _ _).mono ?_; rintro e w1 ⟨rfl, h1⟩; exact ⟨rfl, h1⟩)
             | exact ⟨Ext.refl _, rfl⟩
         simp only [Act.put, List.setIfInBounds_toArray, List.set_cons_zero, List.set_cons_succ])
  refine wpRel_fact (by (simp [go_sem]; done)) 7 (NewPtr (w.heap.size + 3) [.int .i64 0, .int .u64 0]) rfl (NewPtr.stable _ _) (fun σ w' hR hF => ?_) ?_
  · have hs := hR.size
    simp at hs
    go_simp
    exact NewPtr.alloc w' [.int .i64 0, .int .u64 0] 24 (by omega)
  intro σ w1 hRw1 hF
  obtain ⟨⟨m, hv, hB, b7⟩, _⟩ := hF
  have hEw1 := Ext.trans _ _ _ (Ext.drew _) hRw1
  simp only [fill, Act.put, List.setIfInBounds_toArray, List.set_cons_zero, List.set_cons_succ, hv]
  have bp := bp.ext hEw1
  have bq := bq.ext hEw1
  have br := br.ext hEw1
  obtain ⟨s7, c70, c71, f7⟩ := b7.two
  go_wp2_with fail
  have bp := bp.far2 m (by omega) (.int .i64 (hi (p + 1))) (.int .u64 (lo (p + 1)))
  have bq := bq.far2 m (by omega) (.int .i64 (hi (p + 1))) (.int .u64 (lo (p + 1)))
  have br := br.far2 m (by omega) (.int .i64 (hi (p + 1))) (.int .u64 (lo (p + 1)))
  have b7 := b7.set2 (.int .i64 (hi (p + 1))) (.int .u64 (lo (p + 1)))
  have hx : Ext w ((w1.setCell ⟨m, 0, none⟩ (.int .i64 (hi (p + 1)))).setCell ⟨m, 1, none⟩ (.int .u64 (lo (p + 1)))) := by (repeat (first | exact Ext.refl _ | assumption | (refine Ext.setCell' ?_ (by simp <;> omega) _) | refine Ext.alloc' ?_ _ | refine Ext.drew' ?_ | (refine Ext.trans _ _ _ ?_ (by assumption))))
  have hsz : ((w1.setCell ⟨m, 0, none⟩ (.int .i64 (hi (p + 1)))).setCell ⟨m, 1, none⟩ (.int .u64 (lo (p + 1)))).heap.size = w1.heap.size := by simp [World.setCell]
  generalize (w1.setCell ⟨m, 0, none⟩ (.int .i64 (hi (p + 1)))).setCell ⟨m, 1, none⟩ (.int .u64 (lo (p + 1))) = w2 at *
  clear hRw1 hEw1 s7 c70 c71 f7
  have b8 := Box.alloc' w2 [.int .i64 9223372036854775807, .int .u64 18446744073709551615] 24 w1.heap.size hsz.symm
  clear hsz
  have bp := bp.ext (Ext.alloc w2 (.cells #[.int .i64 9223372036854775807, .int .u64 18446744073709551615] 24))
  have bq := bq.ext (Ext.alloc w2 (.cells #[.int .i64 9223372036854775807, .int .u64 18446744073709551615] 24))
  have br := br.ext (Ext.alloc w2 (.cells #[.int .i64 9223372036854775807, .int .u64 18446744073709551615] 24))
  have b7 := b7.ext (Ext.alloc w2 (.cells #[.int .i64 9223372036854775807, .int .u64 18446744073709551615] 24))
  have hx := Ext.trans _ _ _ hx (Ext.alloc w2 (.cells #[.int .i64 9223372036854775807, .int .u64 18446744073709551615] 24))
  generalize w1.heap.size = k8 at *
  generalize w2.alloc (.cells #[.int .i64 9223372036854775807, .int .u64 18446744073709551615] 24) = w3 at *
  obtain ⟨sp, cp0, cp1, _⟩ := bp.two
  obtain ⟨sq, cq0, cq1, _⟩ := bq.two
  obtain ⟨sr, cr0, cr1, _⟩ := br.two
  refine wp_region_rel 82 Ext Ext.refl Ext.trans (by kernel_rfl) rfl (by kernel_rfl) ?_
  iterate 12
    first
      | (refine wpRel_skip ?_ ?_
         · (simp [go_sem]; done)
         simp only [Act.put, List.setIfInBounds_toArray, List.set_cons_zero, List.set_cons_succ])
      | (refine wpRel_ex ?_ ?_
         · (simp [go_sem]; done)
         apply Exists.intro
         refine ⟨fun σ w' hR hF => ?_, ?_⟩
         · have hcell := (Ext.trans _ _ _ (Ext.drew _) hR).cell
           clear hF
           simp only [fill]
           go_simp
           first
             | (go_at_call 16; refine (wide_Compare _ _ (by assumption) (by assumption) _).mono ?_; rintro e w1 ⟨rfl, h1⟩; exact ⟨rfl, h1⟩)
             | exact ⟨Ext.refl _, rfl⟩
         simp only [Act.put, List.setIfInBounds_toArray, List.set_cons_zero, List.set_cons_succ])
  intro σ w4 hRw4 _
  have hEw4 := Ext.trans _ _ _ (Ext.drew _) hRw4
  have hcellw4 := hEw4.cell
  have hfreew4 := hEw4.free
  simp only [fill]
  clear sp cp0 cp1 sq cq0 cq1 sr cr0 cr1 hcellw4 hfreew4
  have bp := bp.ext hEw4
  have bq := bq.ext hEw4
  have b7 := b7.ext hEw4
  have b8 := b8.ext hEw4
  have hx := Ext.trans _ _ _ hx hEw4
  clear br hEw4 hRw4
  obtain ⟨sp, cp0, cp1, _⟩ := bp.two
  go_wp2_with fail
  refine (wide_Narrow _ hp _).mono ?_
  rintro e w6 ⟨rfl, k6⟩
  have bp := bp.ext k6
  have bq := bq.ext k6
  have b7 := b7.ext k6
  have b8 := b8.ext k6
  have hx := Ext.trans _ _ _ hx k6
  clear sp cp0 cp1 k6
  obtain ⟨sp, cp0, cp1, _⟩ := bp.two
  obtain ⟨sq, cq0, cq1, _⟩ := bq.two
  obtain ⟨s7, c70, c71, _⟩ := b7.two
  obtain ⟨s8, c80, c81, _⟩ := b8.two
  clear bp bq b7 b8
  go_wp2_with fail
  refine wp_region_rel 82 Ext Ext.refl Ext.trans (by kernel_rfl) rfl (by kernel_rfl) ?_
  iterate 4
    first
      | (refine wpRel_skip ?_ ?_
         · (simp [go_sem]; done)
         simp only [Act.put, List.setIfInBounds_toArray, List.set_cons_zero, List.set_cons_succ])
      | (refine wpRel_ex ?_ ?_
         · (simp [go_sem]; done)
         apply Exists.intro
         refine ⟨fun σ w' hR hF => ?_, ?_⟩
         · have hcell := (Ext.trans _ _ _ (Ext.drew _) hR).cell
           clear hF
           simp only [fill]
           go_simp
           first
             | (go_at_call 13; refine (live_any _).mono ?_; rintro e w1 ⟨rfl, h1⟩; exact ⟨rfl, h1⟩)
             | (go_at_call 14; refine (wide_Of _ (by assumption) _).mono ?_; rintro e w1 ⟨rfl, h1⟩; exact ⟨rfl, h1⟩)
             | (go_at_call 16; refine (wide_Compare _ _ (by assumption) (by assumption) _).mono ?_; rintro e w1 ⟨rfl, h1⟩; exact ⟨rfl, h1⟩)
             | exact ⟨Ext.refl _, rfl⟩
         simp only [Act.put, List.setIfInBounds_toArray, List.set_cons_zero, List.set_cons_succ])
  refine wpRel_val ?_ (.bool false) (fun σ w' hR hF => ?_) ?_
  · simp [go_sem]
  · have hcell := (Ext.trans _ _ _ (Ext.drew _) hR).cell
    clear hF
    simp only [fill]
    have ht := HT.out
    by_cases h3 : hi p = 9223372036854775807
    · have t1 := iff_true' h3
      have t2 : (lo p = 18446744073709551615) = False := by simp; intro h4; exact ht ⟨h3, h4⟩
      clear h3 ht
      go_simp
      first
        | exact ⟨Ext.refl _, rfl⟩
        | exact Ext.refl _
    · clear ht
      go_simp
      first
        | exact ⟨Ext.refl _, rfl⟩
        | exact Ext.refl _
  simp only [Act.put, List.setIfInBounds_toArray, List.set_cons_zero, List.set_cons_succ]
  iterate 20
    first
      | (refine wpRel_skip ?_ ?_
         · (simp [go_sem]; done)
         simp only [Act.put, List.setIfInBounds_toArray, List.set_cons_zero, List.set_cons_succ])
      | (refine wpRel_ex ?_ ?_
         · (simp [go_sem]; done)
         apply Exists.intro
         refine ⟨fun σ w' hR hF => ?_, ?_⟩
         · have hcell := (Ext.trans _ _ _ (Ext.drew _) hR).cell
           clear hF
           simp only [fill]
           go_simp
           first
             | (go_at_call 13; refine (live_any _).mono ?_; rintro e w1 ⟨rfl, h1⟩; exact ⟨rfl, h1⟩)
             | (go_at_call 14; refine (wide_Of _ (by assumption) _).mono ?_; rintro e w1 ⟨rfl, h1⟩; exact ⟨rfl, h1⟩)
             | (go_at_call 16; refine (wide_Compare _ _ (by assumption) (by assumption) _).mono ?_; rintro e w1 ⟨rfl, h1⟩; exact ⟨rfl, h1⟩)
             | exact ⟨Ext.refl _, rfl⟩
         simp only [Act.put, List.setIfInBounds_toArray, List.set_cons_zero, List.set_cons_succ])
  refine wpRel_val ?_ (.bool (decide (p = q))) (fun σ w' hR hF => ?_) ?_
  · simp [go_sem]
  · have hcell := (Ext.trans _ _ _ (Ext.drew _) hR).cell
    clear hF
    simp only [fill]
    by_cases hpq : p = q
    · subst hpq
      go_simp
      first
        | exact ⟨Ext.refl _, rfl⟩
        | exact Ext.refl _
    · have hn : ¬ (hi p = hi q ∧ lo p = lo q) := fun h => hpq ((HE.out).2 h)
      have hd : decide (p = q) = false := by simp [hpq]
      by_cases hh : hi p = hi q
      · have hh1 := iff_true' hh
        have hl : (lo p = lo q) = False := by simp; intro h; exact hn ⟨hh, h⟩
        clear hh hn hpq
        go_simp
        first
          | exact ⟨Ext.refl _, rfl⟩
          | exact Ext.refl _
      · clear hn hpq
        go_simp
        first
          | exact ⟨Ext.refl _, rfl⟩
          | exact Ext.refl _
  simp only [Act.put, List.setIfInBounds_toArray, List.set_cons_zero, List.set_cons_succ]
  iterate 25
    first
      | (refine wpRel_skip ?_ ?_
         · (simp [go_sem]; done)
         simp only [Act.put, List.setIfInBounds_toArray, List.set_cons_zero, List.set_cons_succ])
      | (refine wpRel_ex ?_ ?_
         · (simp [go_sem]; done)
         apply Exists.intro
         refine ⟨fun σ w' hR hF => ?_, ?_⟩
         · have hcell := (Ext.trans _ _ _ (Ext.drew _) hR).cell
           clear hF
           simp only [fill]
           go_simp
           first
             | (go_at_call 13; refine (live_any _).mono ?_; rintro e w1 ⟨rfl, h1⟩; exact ⟨rfl, h1⟩)
             | (go_at_call 14; refine (wide_Of _ (by assumption) _).mono ?_; rintro e w1 ⟨rfl, h1⟩; exact ⟨rfl, h1⟩)
             | (go_at_call 16; refine (wide_Compare _ _ (by assumption) (by assumption) _).mono ?_; rintro e w1 ⟨rfl, h1⟩; exact ⟨rfl, h1⟩)
             | exact ⟨Ext.refl _, rfl⟩
         simp only [Act.put, List.setIfInBounds_toArray, List.set_cons_zero, List.set_cons_succ])
  intro σ w5 hRw5 _
  have hEw5 := Ext.trans _ _ _ (Ext.drew _) hRw5
  have hcellw5 := hEw5.cell
  have hfreew5 := hEw5.free
  simp only [fill]
  go_wp2
  go_ret
  exact ⟨rfl, Ext.trans _ _ _ hx hEw5⟩

theorem wideOrders_walk (p q r : Int) (hp : W128 p) (hq : W128 q) (hr : W128 r) (w : World) :
    Calls Try.prog 8 #[.agg #[.int .i64 (hi p), .int .u64 (lo p)], .agg #[.int .i64 (hi q), .int .u64 (lo q)], .agg #[.int .i64 (hi r), .int .u64 (lo r)]] w fun e w' => e = .returned (.bool true) ∧ Ext w w' := by
  by_cases ht : p = Top
  · have h1 : (hi p = 9223372036854775807) = True ∧ (lo p = 18446744073709551615) = True := by rw [ht, top_hi, top_lo]; simp
    have h2 : fits p = false := by rw [ht]; decide
    by_cases x1 : 0 < sgn3 p q
    · exact orders_TXF p q r hp hq hr h1 x1 h2 w
    · by_cases x2 : 0 < sgn3 q r
      · exact orders_TYF p q r hp hq hr h1 x1 x2 h2 w
      · exact orders_TZF p q r hp hq hr h1 x1 x2 (sgn3_le p q r x1 x2) h2 w
  · have h1 : ¬ (hi p = 9223372036854775807 ∧ lo p = 18446744073709551615) := fun h' => ht ((eq_iff_halves p Top hp (by unfold W128 Top; omega)).2 (by rw [top_hi, top_lo]; exact h'))
    have hp1 : W128 (p + 1) := by unfold W128 Top at *; omega
    by_cases h : fits p = true
    · have f2 : nar p = p := by unfold nar; simp [h]
      have f3 : I64 p := by unfold fits at h; simpa [I64] using h
      by_cases x1 : 0 < sgn3 p q
      · exact orders_NXI p q r hp hq hr h1 hp1 x1 h f2 f3 w
      · by_cases x2 : 0 < sgn3 q r
        · exact orders_NYI p q r hp hq hr h1 hp1 x1 x2 h f2 f3 w
        · exact orders_NZI p q r hp hq hr h1 hp1 x1 x2 (sgn3_le p q r x1 x2) h f2 f3 w
    · have h2 := Bool.eq_false_iff.2 h
      by_cases x1 : 0 < sgn3 p q
      · exact orders_NXF p q r hp hq hr h1 hp1 x1 h2 w
      · by_cases x2 : 0 < sgn3 q r
        · exact orders_NYF p q r hp hq hr h1 hp1 x1 x2 h2 w
        · exact orders_NZF p q r hp hq hr h1 hp1 x1 x2 (sgn3_le p q r x1 x2) h2 w
end Go.Proofs.Ytnalgofemikggaa
