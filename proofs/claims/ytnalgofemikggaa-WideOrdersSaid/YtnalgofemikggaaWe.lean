/- The laws of layer 1: walks. -/
import Derived.Test.YtnalgofemikggaaWd
namespace Go.Proofs.Ytnalgofemikggaa
open Go.RowKit
theorem iff_true' {p : Prop} (h : p) : p = True := by simp [h]
set_option maxRecDepth 100000 in
set_option maxHeartbeats 1000000 in
theorem live_any (w : World) :
    Calls Try.prog 13 #[] w fun e w' => e = .returned (.bool true) ∧ Ext w w' := by
  have f1 : fits 9223372036854775808 = false := by decide
  have f2 : fits (-5) = true := by decide
  have f3 : nar (-5) = -5 := by decide
  have g1 : (hi 9223372036854775808 = 0) = True := iff_true' (by unfold hi wrap64; omega)
  have g2 : (lo 9223372036854775808 = 9223372036854775808) = True := iff_true' (by unfold lo; omega)
  have g3 : (hi (-1) = -1) = True := iff_true' (by unfold hi wrap64; omega)
  have g4 : (lo (-1) = 18446744073709551615) = True := iff_true' (by unfold lo; omega)
  have g5 : sgn3 (-1) 0 = -1 := by decide
  have g6 : (hi 18446744073709551616 = 1) = True := iff_true' (by unfold hi wrap64; omega)
  have g7 : (lo 18446744073709551616 = 0) = True := iff_true' (by unfold lo; omega)
  go_enter Try.func13, Try.ntmps13
  go_wp2_with (first | (go_at_call 14; refine (wide_Of _ (by unfold I64; omega) _).mono ?_; rintro e w1 ⟨rfl, k1⟩) | (go_at_call 22; refine (wide_Mul _ _ (by unfold I64; omega) (by unfold I64; omega) _).mono ?_; rintro e w1 ⟨rfl, k1⟩) | (go_at_call 11; refine (wide_Narrow _ (by unfold W128; omega) _).mono ?_; rintro e w1 ⟨rfl, k1⟩) | (go_at_call 18; refine (wide_Add _ _ _).mono ?_; rintro e w1 ⟨rfl, k1⟩) | (go_at_call 16; refine (wide_Compare _ _ (by unfold W128; omega) (by unfold W128; omega) _).mono ?_; rintro e w1 ⟨rfl, k1⟩) | (go_at_call 24; refine (wide_Left _ _ (by unfold I64; omega) _).mono ?_; rintro e w1 ⟨rfl, k1⟩) | (go_at_call 26; refine (wide_Right _ _ (by unfold W128; omega) (by unfold I64; omega) _).mono ?_; rintro e w1 ⟨rfl, k1⟩))
  go_ret
  exact ⟨rfl, by (repeat (first | exact Ext.refl _ | assumption | (refine Ext.setCell' ?_ (by simp <;> omega) _) | refine Ext.alloc' ?_ _ | refine Ext.drew' ?_ | (refine Ext.trans _ _ _ ?_ (by assumption))))⟩

theorem wideIs_walk (n x y : Int) (hn : I64 n) (hx : W128 x) (hy : W128 y) (w : World) :
    Calls Try.prog 3 #[.int .i64 n, .agg #[.int .i64 (hi x), .int .u64 (lo x)], .agg #[.int .i64 (hi y), .int .u64 (lo y)]] w fun e w' => e = .returned (.bool true) ∧ Ext w w' := by
  have bx := (Box.alloc w [.int .i64 (hi x), .int .u64 (lo x)] 24).ext (Ext.alloc _ (.cells #[.int .i64 (hi y), .int .u64 (lo y)] 24))
  have bz := Box.alloc' (w.alloc (.cells #[.int .i64 (hi x), .int .u64 (lo x)] 24)) [.int .i64 (hi y), .int .u64 (lo y)] 24 (w.heap.size + 1) (by simp)
  go_enter Try.func3, Try.ntmps3
  go_wp2_with (first | (go_at_call 11; refine (wide_Narrow _ hx _).mono ?_; rintro e w1 ⟨rfl, k1⟩; have bx := bx.ext k1; have bz := bz.ext k1; obtain ⟨s1, c1, c2, _⟩ := bx.two) | (go_at_call 12; refine (ref_Narrow _ hx _).mono ?_; rintro e w2 ⟨rfl, k2⟩; have bx := bx.ext k2; have bz := bz.ext k2; obtain ⟨s1, c1, c2, _⟩ := bx.two; obtain ⟨s3, c3, c4, _⟩ := bz.two))
  refine wp_region_rel 48 Ext Ext.refl Ext.trans (by kernel_rfl) rfl (by kernel_rfl) ?_
  iterate 28
    first
      | (refine wpRel_skip ?_ ?_
         · (simp [go_sem]; done)
         simp only [Act.put, List.setIfInBounds_toArray, List.set_cons_zero, List.set_cons_succ])
      | (refine wpRel_ex ?_ ?_
         · (simp [go_sem]; done)
         apply Exists.intro
         refine ⟨fun σ w' hR hF => ?_, ?_⟩
         · have hcell := (Ext.trans _ _ _ (Ext.drew _) hR).cell
           clear hF
           simp only [fill]
           go_simp
           first
             | (go_at_call 13; refine (live_any _).mono ?_; rintro e w1 ⟨rfl, h1⟩; exact ⟨rfl, h1⟩)
             | (go_at_call 14; refine (wide_Of _ (by first | assumption | (unfold I64; omega)) _).mono ?_; rintro e w1 ⟨rfl, h1⟩; exact ⟨rfl, h1⟩)
             | (go_at_call 15; refine (ref_Of _ (by first | assumption | (unfold I64; omega)) _).mono ?_; rintro e w1 ⟨rfl, h1⟩; exact ⟨rfl, h1⟩)
             | (go_at_call 16; refine (wide_Compare _ _ (by assumption) (by assumption) _).mono ?_; rintro e w1 ⟨rfl, h1⟩; exact ⟨rfl, h1⟩)
             | (go_at_call 17; refine (ref_Compare _ _ (by assumption) (by assumption) _).mono ?_; rintro e w1 ⟨rfl, h1⟩; exact ⟨rfl, h1⟩)
             | exact ⟨Ext.refl _, rfl⟩
         simp only [Act.put, List.setIfInBounds_toArray, List.set_cons_zero, List.set_cons_succ])
  intro σ w3 hRw3 _
  have hEw3 := Ext.trans _ _ _ (Ext.drew _) hRw3
  have hcellw3 := hEw3.cell
  have hfreew3 := hEw3.free
  simp only [fill]
  go_wp2
  go_ret
  exact ⟨rfl, by (repeat (first | exact Ext.refl _ | assumption | (refine Ext.setCell' ?_ (by simp <;> omega) _) | refine Ext.alloc' ?_ _ | refine Ext.drew' ?_ | (refine Ext.trans _ _ _ ?_ (by assumption))))⟩

theorem wideAdds_walk (x y m n : Int) (hm : I64 m) (hn : I64 n) (w : World) :
    Calls Try.prog 4 #[.agg #[.int .i64 (hi x), .int .u64 (lo x)], .agg #[.int .i64 (hi y), .int .u64 (lo y)], .agg #[.int .i64 m, .int .i64 n]] w fun e w' => e = .returned (.bool true) ∧ Ext w w' := by
  go_enter Try.func4, Try.ntmps4
  go_wp2
  refine wp_region_rel 39 Ext Ext.refl Ext.trans (by kernel_rfl) rfl (by kernel_rfl) ?_
  iterate 33
    first
      | (refine wpRel_skip ?_ ?_
         · (simp [go_sem]; done)
         simp only [Act.put, List.setIfInBounds_toArray, List.set_cons_zero, List.set_cons_succ])
      | (refine wpRel_ex ?_ ?_
         · (simp [go_sem]; done)
         apply Exists.intro
         refine ⟨fun σ w' hR hF => ?_, ?_⟩
         · have hcell := (Ext.trans _ _ _ (Ext.drew _) hR).cell
           clear hF
           simp only [fill]
           go_simp
           first
             | (go_at_call 13; refine (live_any _).mono ?_; rintro e w1 ⟨rfl, h1⟩; exact ⟨rfl, h1⟩)
             | (go_at_call 18; refine (wide_Add _ _ _).mono ?_; rintro e w1 ⟨rfl, h1⟩; exact ⟨rfl, h1⟩)
             | (go_at_call 19; refine (ref_Add _ _ _).mono ?_; rintro e w1 ⟨rfl, h1⟩; exact ⟨rfl, h1⟩)
             | (go_at_call 20; refine (wide_Sub _ _ _).mono ?_; rintro e w1 ⟨rfl, h1⟩; exact ⟨rfl, h1⟩)
             | (go_at_call 21; refine (ref_Sub _ _ _).mono ?_; rintro e w1 ⟨rfl, h1⟩; exact ⟨rfl, h1⟩)
             | (go_at_call 22; refine (wide_Mul _ _ (by first | assumption | (unfold I64; omega)) (by first | assumption | (unfold I64; omega)) _).mono ?_; rintro e w1 ⟨rfl, h1⟩; exact ⟨rfl, h1⟩)
             | (go_at_call 23; refine (ref_Mul _ _ (by first | assumption | (unfold I64; omega)) (by first | assumption | (unfold I64; omega)) _).mono ?_; rintro e w1 ⟨rfl, h1⟩; exact ⟨rfl, h1⟩)
             | exact ⟨Ext.refl _, rfl⟩
         simp only [Act.put, List.setIfInBounds_toArray, List.set_cons_zero, List.set_cons_succ])
  intro σ w1 hRw1 _
  have hEw1 := Ext.trans _ _ _ (Ext.drew _) hRw1
  have hcellw1 := hEw1.cell
  have hfreew1 := hEw1.free
  simp only [fill]
  go_wp2
  go_ret
  exact ⟨rfl, by (repeat (first | exact Ext.refl _ | assumption | (refine Ext.setCell' ?_ (by simp <;> omega) _) | refine Ext.alloc' ?_ _ | refine Ext.drew' ?_ | (refine Ext.trans _ _ _ ?_ (by assumption))))⟩

theorem wideShifts_walk (x n : Int) (hx : W128 x) (hn : I64 n) (w : World) :
    Calls Try.prog 5 #[.agg #[.int .i64 (hi x), .int .u64 (lo x)], .int .i64 n] w fun e w' => e = .returned (.bool true) ∧ Ext w w' := by
  go_enter Try.func5, Try.ntmps5
  go_wp2
  refine wp_region_rel 24 Ext Ext.refl Ext.trans (by kernel_rfl) rfl (by kernel_rfl) ?_
  iterate 20
    first
      | (refine wpRel_skip ?_ ?_
         · (simp [go_sem]; done)
         simp only [Act.put, List.setIfInBounds_toArray, List.set_cons_zero, List.set_cons_succ])
      | (refine wpRel_ex ?_ ?_
         · (simp [go_sem]; done)
         apply Exists.intro
         refine ⟨fun σ w' hR hF => ?_, ?_⟩
         · have hcell := (Ext.trans _ _ _ (Ext.drew _) hR).cell
           clear hF
           simp only [fill]
           go_simp
           first
             | (go_at_call 13; refine (live_any _).mono ?_; rintro e w1 ⟨rfl, h1⟩; exact ⟨rfl, h1⟩)
             | (go_at_call 24; refine (wide_Left _ _ (by assumption) _).mono ?_; rintro e w1 ⟨rfl, h1⟩; exact ⟨rfl, h1⟩)
             | (go_at_call 25; refine (ref_Left _ _ (by assumption) _).mono ?_; rintro e w1 ⟨rfl, h1⟩; exact ⟨rfl, h1⟩)
             | (go_at_call 26; refine (wide_Right _ _ (by assumption) (by assumption) _).mono ?_; rintro e w1 ⟨rfl, h1⟩; exact ⟨rfl, h1⟩)
             | (go_at_call 27; refine (ref_Right _ _ (by assumption) (by assumption) _).mono ?_; rintro e w1 ⟨rfl, h1⟩; exact ⟨rfl, h1⟩)
             | exact ⟨Ext.refl _, rfl⟩
         simp only [Act.put, List.setIfInBounds_toArray, List.set_cons_zero, List.set_cons_succ])
  intro σ w1 hRw1 _
  have hEw1 := Ext.trans _ _ _ (Ext.drew _) hRw1
  have hcellw1 := hEw1.cell
  have hfreew1 := hEw1.free
  simp only [fill]
  go_wp2
  go_ret
  exact ⟨rfl, by (repeat (first | exact Ext.refl _ | assumption | (refine Ext.setCell' ?_ (by simp <;> omega) _) | refine Ext.alloc' ?_ _ | refine Ext.drew' ?_ | (refine Ext.trans _ _ _ ?_ (by assumption))))⟩

theorem wideRing_walk (x y z : Int) (w : World) :
    Calls Try.prog 6 #[.agg #[.int .i64 (hi x), .int .u64 (lo x)], .agg #[.int .i64 (hi y), .int .u64 (lo y)], .agg #[.int .i64 (hi z), .int .u64 (lo z)]] w fun e w' => e = .returned (.bool true) ∧ Ext w w' := by
  have e1 : y + x = x + y := by omega
  have e2 : x + y + z = x + (y + z) := by omega
  have e3 : x + y - y = x := by omega
  go_enter Try.func6, Try.ntmps6
  go_wp2
  refine wp_region_rel 46 Ext Ext.refl Ext.trans (by kernel_rfl) rfl (by kernel_rfl) ?_
  iterate 40
    first
      | (refine wpRel_skip ?_ ?_
         · (simp [go_sem]; done)
         simp only [Act.put, List.setIfInBounds_toArray, List.set_cons_zero, List.set_cons_succ])
      | (refine wpRel_ex ?_ ?_
         · (simp [go_sem]; done)
         apply Exists.intro
         refine ⟨fun σ w' hR hF => ?_, ?_⟩
         · have hcell := (Ext.trans _ _ _ (Ext.drew _) hR).cell
           clear hF
           simp only [fill]
           go_simp
           first
             | (go_at_call 13; refine (live_any _).mono ?_; rintro e w1 ⟨rfl, h1⟩; exact ⟨rfl, h1⟩)
             | (go_at_call 14; refine (wide_Of _ (by first | assumption | (unfold I64; omega)) _).mono ?_; rintro e w1 ⟨rfl, h1⟩; exact ⟨rfl, h1⟩)
             | (go_at_call 18; refine (wide_Add _ _ _).mono ?_; rintro e w1 ⟨rfl, h1⟩; exact ⟨rfl, h1⟩)
             | (go_at_call 20; refine (wide_Sub _ _ _).mono ?_; rintro e w1 ⟨rfl, h1⟩; exact ⟨rfl, h1⟩)
             | exact ⟨Ext.refl _, rfl⟩
         simp only [Act.put, List.setIfInBounds_toArray, List.set_cons_zero, List.set_cons_succ])
  intro σ w1 hRw1 _
  have hEw1 := Ext.trans _ _ _ (Ext.drew _) hRw1
  have hcellw1 := hEw1.cell
  have hfreew1 := hEw1.free
  simp only [fill]
  go_wp2
  go_ret
  exact ⟨rfl, by (repeat (first | exact Ext.refl _ | assumption | (refine Ext.setCell' ?_ (by simp <;> omega) _) | refine Ext.alloc' ?_ _ | refine Ext.drew' ?_ | (refine Ext.trans _ _ _ ?_ (by assumption))))⟩
end Go.Proofs.Ytnalgofemikggaa
