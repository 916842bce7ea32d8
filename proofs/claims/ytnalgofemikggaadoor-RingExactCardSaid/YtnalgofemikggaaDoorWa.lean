/- Walks over the packages wide and fretworkref01. -/
import Derived.Test.YtnalgofemikggaaDoorRows
import Derived.Test.YtnalgofemikggaaDoorFw
import Derived.Test.YtnalgofemikggaaDoorWm
import Derived.Outline
namespace Go.Proofs.YtnalgofemikggaaDoor
open Go.RowKit
theorem carry_any (b : Bool) (w : World) :
    Calls Tryd.prog 46 #[.bool b] w fun e w' => e = .returned (.int .u64 (cy b)) ∧ Ext w w' := by
  cases b
  all_goals
    go_enter Tryd.func46, Tryd.ntmps46
    go_wp2
    go_ret
    exact ⟨rfl, Ext.refl _⟩

theorem wide_Of (n : Int) (hn : I64 n) (w : World) :
    Calls Tryd.prog 38 #[.int .i64 n] w fun e w' => e = .returned (.agg #[.int .i64 (hi n), .int .u64 (lo n)]) ∧ Ext w w' := by
  have e1 := of_hi n hn
  have e2 := of_lo n
  go_enter Tryd.func38, Tryd.ntmps38
  go_wp2
  refine bodyPost_ret (v := .agg #[.int .i64 (hi n), .int .u64 (lo n)]) (by simp [results, Tryd.results38, go_sem]) rfl ⟨rfl, ?_⟩
  repeat (first | exact Ext.refl _ | assumption | (refine Ext.setCell' ?_ (by simp <;> omega) _) | refine Ext.alloc' ?_ _ | refine Ext.drew' ?_ | (refine Ext.trans _ _ _ ?_ (by assumption)))

theorem ref_Of (n : Int) (hn : I64 n) (w : World) :
    Calls Tryd.prog 32 #[.int .i64 n] w fun e w' => e = .returned (.agg #[.int .i64 (hi n), .int .u64 (lo n)]) ∧ Ext w w' := by
  have e2 := of_lo n
  by_cases h : n < 0
  · have e1 := Lib.hid (of_hi_neg n hn h)
    go_enter Tryd.func32, Tryd.ntmps32
    go_wp2
    refine bodyPost_ret (v := .agg #[.int .i64 (hi n), .int .u64 (lo n)]) (by simp [results, Tryd.results32, go_sem, e1.out]) rfl ⟨rfl, ?_⟩
    repeat (first | exact Ext.refl _ | assumption | (refine Ext.setCell' ?_ (by simp <;> omega) _) | refine Ext.alloc' ?_ _ | refine Ext.drew' ?_ | (refine Ext.trans _ _ _ ?_ (by assumption)))
  · have e1 := Lib.hid (of_hi_pos n hn h)
    go_enter Tryd.func32, Tryd.ntmps32
    go_wp2
    refine bodyPost_ret (v := .agg #[.int .i64 (hi n), .int .u64 (lo n)]) (by simp [results, Tryd.results32, go_sem, e1.out]) rfl ⟨rfl, ?_⟩
    repeat (first | exact Ext.refl _ | assumption | (refine Ext.setCell' ?_ (by simp <;> omega) _) | refine Ext.alloc' ?_ _ | refine Ext.drew' ?_ | (refine Ext.trans _ _ _ ?_ (by assumption)))

theorem wide_Add (x y : Int) (w : World) :
    Calls Tryd.prog 36 #[.agg #[.int .i64 (hi x), .int .u64 (lo x)], .agg #[.int .i64 (hi y), .int .u64 (lo y)]] w fun e w' => e = .returned (.agg #[.int .i64 (hi (x + y)), .int .u64 (lo (x + y))]) ∧ Ext w w' := by
  have e1 := add_lo x y
  have e2 := Lib.hid (add_hi x y)
  go_enter Tryd.func36, Tryd.ntmps36
  go_wp2
  refine wp_region_rel_tail 16 27 Ext Ext.refl Ext.trans (by kernel_rfl) rfl (by kernel_rfl) ?_
  simp only [List.take_succ_cons, List.take_zero, List.drop_succ_cons, List.drop_zero]
  iterate 16
    first
      | (refine wpRel_skip ?_ ?_
         · (simp [go_sem]; done)
         simp only [Act.put, List.setIfInBounds_toArray, List.set_cons_zero, List.set_cons_succ])
      | (refine wpRel_ex ?_ ?_
         · (simp [go_sem]; done)
         apply Exists.intro
         refine ⟨fun σ w' hR hF => ?_, ?_⟩
         · have hcell := (Ext.trans _ _ _ (Ext.drew _) hR).cell
           clear hF
           simp only [fill]
           go_simp
           first
             | (go_at_call 46; refine (carry_any _ _).mono ?_; rintro e w1 ⟨rfl, h1⟩; exact ⟨rfl, h1⟩)
             | exact ⟨Ext.refl _, rfl⟩
         simp only [Act.put, List.setIfInBounds_toArray, List.set_cons_zero, List.set_cons_succ])
  intro σ w1 hRw1 _
  have hEw1 := Ext.trans _ _ _ (Ext.drew _) hRw1
  have hcellw1 := hEw1.cell
  have hfreew1 := hEw1.free
  simp only [fill]
  go_wp2
  refine bodyPost_ret (v := .agg #[.int .i64 (hi (x + y)), .int .u64 (lo (x + y))]) (by simp [results, Tryd.results36, go_sem, hcellw1, e2.out]) rfl ⟨rfl, ?_⟩
  repeat (first | exact Ext.refl _ | assumption | (refine Ext.setCell' ?_ (by simp <;> omega) _) | refine Ext.alloc' ?_ _ | refine Ext.drew' ?_ | (refine Ext.trans _ _ _ ?_ (by assumption)))

theorem wide_Sub (x y : Int) (w : World) :
    Calls Tryd.prog 49 #[.agg #[.int .i64 (hi x), .int .u64 (lo x)], .agg #[.int .i64 (hi y), .int .u64 (lo y)]] w fun e w' => e = .returned (.agg #[.int .i64 (hi (x - y)), .int .u64 (lo (x - y))]) ∧ Ext w w' := by
  have e1 := sub_lo x y
  have e2 := Lib.hid (sub_hi x y)
  go_enter Tryd.func49, Tryd.ntmps49
  go_wp2
  refine wp_region_rel_tail 21 26 Ext Ext.refl Ext.trans (by kernel_rfl) rfl (by kernel_rfl) ?_
  simp only [List.take_succ_cons, List.take_zero, List.drop_succ_cons, List.drop_zero]
  iterate 21
    first
      | (refine wpRel_skip ?_ ?_
         · (simp [go_sem]; done)
         simp only [Act.put, List.setIfInBounds_toArray, List.set_cons_zero, List.set_cons_succ])
      | (refine wpRel_ex ?_ ?_
         · (simp [go_sem]; done)
         apply Exists.intro
         refine ⟨fun σ w' hR hF => ?_, ?_⟩
         · have hcell := (Ext.trans _ _ _ (Ext.drew _) hR).cell
           clear hF
           simp only [fill]
           go_simp
           first
             | (go_at_call 46; refine (carry_any _ _).mono ?_; rintro e w1 ⟨rfl, h1⟩; exact ⟨rfl, h1⟩)
             | exact ⟨Ext.refl _, rfl⟩
         simp only [Act.put, List.setIfInBounds_toArray, List.set_cons_zero, List.set_cons_succ])
  intro σ w1 hRw1 _
  have hEw1 := Ext.trans _ _ _ (Ext.drew _) hRw1
  have hcellw1 := hEw1.cell
  have hfreew1 := hEw1.free
  simp only [fill]
  go_wp2
  refine bodyPost_ret (v := .agg #[.int .i64 (hi (x - y)), .int .u64 (lo (x - y))]) (by simp [results, Tryd.results49, go_sem, hcellw1, e2.out]) rfl ⟨rfl, ?_⟩
  repeat (first | exact Ext.refl _ | assumption | (refine Ext.setCell' ?_ (by simp <;> omega) _) | refine Ext.alloc' ?_ _ | refine Ext.drew' ?_ | (refine Ext.trans _ _ _ ?_ (by assumption)))

theorem ref_Add (x y : Int) (w : World) :
    Calls Tryd.prog 39 #[.agg #[.int .i64 (hi x), .int .u64 (lo x)], .agg #[.int .i64 (hi y), .int .u64 (lo y)]] w fun e w' => e = .returned (.agg #[.int .i64 (hi (x + y)), .int .u64 (lo (x + y))]) ∧ Ext w w' := by
  have e1 := add_lo x y
  by_cases h : lo (x + y) < lo x
  · have e2 := Lib.hid (add_hi2 x y h)
    go_enter Tryd.func39, Tryd.ntmps39
    go_wp2
    refine bodyPost_ret (v := .agg #[.int .i64 (hi (x + y)), .int .u64 (lo (x + y))]) (by simp [results, Tryd.results39, go_sem, e2.out]) rfl ⟨rfl, ?_⟩
    repeat (first | exact Ext.refl _ | assumption | (refine Ext.setCell' ?_ (by simp <;> omega) _) | refine Ext.alloc' ?_ _ | refine Ext.drew' ?_ | (refine Ext.trans _ _ _ ?_ (by assumption)))
  · have e2 := Lib.hid (add_hi3 x y h)
    go_enter Tryd.func39, Tryd.ntmps39
    go_wp2
    refine bodyPost_ret (v := .agg #[.int .i64 (hi (x + y)), .int .u64 (lo (x + y))]) (by simp [results, Tryd.results39, go_sem, e2.out]) rfl ⟨rfl, ?_⟩
    repeat (first | exact Ext.refl _ | assumption | (refine Ext.setCell' ?_ (by simp <;> omega) _) | refine Ext.alloc' ?_ _ | refine Ext.drew' ?_ | (refine Ext.trans _ _ _ ?_ (by assumption)))

theorem ref_Minus (x : Int) (w : World) :
    Calls Tryd.prog 40 #[.agg #[.int .i64 (hi x), .int .u64 (lo x)]] w fun e w' => e = .returned (.agg #[.int .i64 (hi (- x)), .int .u64 (lo (-x))]) ∧ Ext w w' := by
  have s1 : IntKind.i64.signed = true := rfl
  have s2 : IntKind.u64.signed = false := rfl
  have e1 := min_lo x
  have e2 := min_hi x
  go_enter Tryd.func40, Tryd.ntmps40
  go_wp2_with fail
  have hc := fun W => ref_Add (-1 - x) 1 W
  rw [one_hi, one_lo, show -1 - x + 1 = -x by omega] at hc
  refine (hc _).mono ?_
  rintro e w1 ⟨rfl, h1⟩
  have hc1 := h1.cell
  have hf1 := h1.free
  clear hc
  go_wp2
  refine bodyPost_ret (v := .agg #[.int .i64 (hi (-x)), .int .u64 (lo (-x))]) (by simp [results, Tryd.results40, go_sem, hc1]) rfl ⟨rfl, ?_⟩
  repeat (first | exact Ext.refl _ | assumption | (refine Ext.setCell' ?_ (by simp <;> omega) _) | refine Ext.alloc' ?_ _ | refine Ext.drew' ?_ | (refine Ext.trans _ _ _ ?_ (by assumption)))

theorem ref_Sub (x y : Int) (w : World) :
    Calls Tryd.prog 11 #[.agg #[.int .i64 (hi x), .int .u64 (lo x)], .agg #[.int .i64 (hi y), .int .u64 (lo y)]] w fun e w' => e = .returned (.agg #[.int .i64 (hi (x - y)), .int .u64 (lo (x - y))]) ∧ Ext w w' := by
  have e1 : x + -y = x - y := by omega
  go_enter Tryd.func11, Tryd.ntmps11
  go_wp2
  refine wp_region_rel_tail 4 9 Ext Ext.refl Ext.trans (by kernel_rfl) rfl (by kernel_rfl) ?_
  simp only [List.take_succ_cons, List.take_zero, List.drop_succ_cons, List.drop_zero]
  iterate 4
    first
      | (refine wpRel_skip ?_ ?_
         · (simp [go_sem]; done)
         simp only [Act.put, List.setIfInBounds_toArray, List.set_cons_zero, List.set_cons_succ])
      | (refine wpRel_ex ?_ ?_
         · (simp [go_sem]; done)
         apply Exists.intro
         refine ⟨fun σ w' hR hF => ?_, ?_⟩
         · have hcell := (Ext.trans _ _ _ (Ext.drew _) hR).cell
           clear hF
           simp only [fill]
           go_simp
           first
             | (go_at_call 40; refine (ref_Minus _ _).mono ?_; rintro e w1 ⟨rfl, h1⟩; exact ⟨rfl, h1⟩)
             | (go_at_call 39; refine (ref_Add _ _ _).mono ?_; rintro e w1 ⟨rfl, h1⟩; exact ⟨rfl, h1⟩)
             | exact ⟨Ext.refl _, rfl⟩
         simp only [Act.put, List.setIfInBounds_toArray, List.set_cons_zero, List.set_cons_succ])
  intro σ w1 hRw1 _
  have hEw1 := Ext.trans _ _ _ (Ext.drew _) hRw1
  have hcellw1 := hEw1.cell
  have hfreew1 := hEw1.free
  simp only [fill]
  go_wp2
  refine bodyPost_ret (v := .agg #[.int .i64 (hi (x - y)), .int .u64 (lo (x - y))]) (by simp [results, Tryd.results11, go_sem, hcellw1, e1]) rfl ⟨rfl, ?_⟩
  repeat (first | exact Ext.refl _ | assumption | (refine Ext.setCell' ?_ (by simp <;> omega) _) | refine Ext.alloc' ?_ _ | refine Ext.drew' ?_ | (refine Ext.trans _ _ _ ?_ (by assumption)))

theorem halves_any (n : Int) (hn : U64 n) (w : World) :
    Calls Tryd.prog 53 #[.int .u64 n] w fun e w' => e = .returned (.agg #[.int .u64 (hl n), .int .u64 (hh n)]) ∧ Ext w w' := by
  have e1 : IntKind.u64.wrap (n * 4294967296) / 4294967296 = hl n := by rw [wu]; unfold U64 at hn; unfold hl; omega
  have e2 : n / 4294967296 = hh n := rfl
  unfold U64 at hn
  obtain ⟨h0, h1⟩ := hn
  go_enter Tryd.func53, Tryd.ntmps53
  go_wp2
  refine bodyPost_ret (v := .agg #[.int .u64 (hl n), .int .u64 (hh n)]) (by simp [results, Tryd.results53, go_sem]) rfl ⟨rfl, ?_⟩
  repeat (first | exact Ext.refl _ | assumption | (refine Ext.setCell' ?_ (by simp <;> omega) _) | refine Ext.alloc' ?_ _ | refine Ext.drew' ?_ | (refine Ext.trans _ _ _ ?_ (by assumption)))
theorem size_any (n : Int) (hn : I64 n) (w : World) :
    Calls Tryd.prog 48 #[.int .i64 n] w fun e w' => e = .returned (.int .u64 (mag n)) ∧ Ext w w' := by
  unfold I64 at hn
  obtain ⟨h0, h1⟩ := hn
  by_cases h : n < 0
  · have e1 : IntKind.u64.wrap (-IntKind.u64.wrap n) = mag n := by simp only [wu]; unfold mag; simp [h]; omega
    go_enter Tryd.func48, Tryd.ntmps48
    go_wp2
    go_ret
    exact ⟨rfl, Ext.refl _⟩
  · have e1 : mag n = n := by unfold mag; simp [h]
    go_enter Tryd.func48, Tryd.ntmps48
    go_wp2
    go_ret
    exact ⟨by simp [e1], Ext.refl _⟩

/-! ### Shifts -/
end Go.Proofs.YtnalgofemikggaaDoor
