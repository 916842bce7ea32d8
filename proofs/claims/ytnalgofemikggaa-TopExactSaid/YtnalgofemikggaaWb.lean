/- Walks over the packages wide and fretworkref01, second part. -/
import Derived.Test.YtnalgofemikggaaWa
namespace Go.Proofs.Ytnalgofemikggaa
open Go.RowKit
set_option maxRecDepth 100000 in
theorem ref_Right (x : Int) (n : Int) (hn : I64 n) (hx : W128 x) (w : World) :
    Calls Try.prog 27 #[.agg #[.int .i64 (hi x), .int .u64 (lo x)], .int .i64 n] w fun e w' => e = .returned (.agg #[.int .i64 (hi (x / 2 ^ n.toNat)), .int .u64 (lo (x / 2 ^ n.toNat))]) ∧ Ext w w' := by
  obtain ⟨_, hn2⟩ := hn
  go_enter Try.func27, Try.ntmps27
  go_wp2
  go_loopw [5] (fun i wr => ∃ (j : Nat) (y : Int), y = x / 2 ^ j ∧ W128 y ∧ i = .int .i64 j ∧ j ≤ n.toNat ∧ j ≤ 128 ∧ Box wr w.heap.size [.int .i64 (hi y), .int .u64 (lo y)] ∧ Box wr (w.heap.size + 1) [.int .i64 0, .int .u64 0] ∧ Ext w wr) (fun i _ => 128 - (intOf i).toNat)
  case atStart => exact ⟨0, x, by simp, hx, rfl, by omega, by omega, by simpa using (Box.alloc w _ 24).ext (Ext.alloc _ _), by simpa using Box.alloc (w.alloc _) [.int .i64 0, .int .u64 0] 24, by (repeat (first | exact Ext.refl _ | assumption | (refine Ext.setCell' ?_ (by simp <;> omega) _) | refine Ext.alloc' ?_ _ | refine Ext.drew' ?_ | (refine Ext.trans _ _ _ ?_ (by assumption))))⟩
  case round =>
    obtain ⟨j, y, hy, hwy, rfl, hj, hj2, hb1, hb2, hext⟩ := hrel
    have HY := Lib.hid hy
    clear hy
    obtain ⟨s1, c1, c2, f1⟩ := hb1.two
    obtain ⟨s2, c3, c4, f2⟩ := hb2.two
    obtain ⟨l1, l2⟩ := lo_bd y
    obtain ⟨l3, l4⟩ := hi_bd y
    by_cases h : (j : Int) < n ∧ j < 128
    · obtain ⟨hl1, hl2⟩ := h
      have fin : ∀ W : World, W = (wr.setCell ⟨w.heap.size, 0, none⟩ (.int .i64 (hi (y / 2)))).setCell ⟨w.heap.size, 1, none⟩ (.int .u64 (lo (y / 2))) →
          (∃ (j_1 : Nat) (y_1 : Int), y_1 = x / 2 ^ j_1 ∧ W128 y_1 ∧ Value.int .i64 (↑j + 1) = Value.int .i64 ↑j_1 ∧ j_1 ≤ n.toNat ∧ j_1 ≤ 128 ∧ Box W w.heap.size [.int .i64 (hi y_1), .int .u64 (lo y_1)] ∧ Box W (w.heap.size + 1) [.int .i64 0, .int .u64 0] ∧ Ext w W) := by
        rintro W rfl
        exact ⟨j + 1, y / 2, by rw [HY.out, half_pow], shr_wide y 1 hwy, by go_num, by omega, by omega, (hb1.set 0 _).set 1 _, (hb2.far (by simp) _).far (by simp) _, by (repeat (first | exact Ext.refl _ | assumption | (refine Ext.setCell' ?_ (by simp <;> omega) _) | refine Ext.alloc' ?_ _ | refine Ext.drew' ?_ | (refine Ext.trans _ _ _ ?_ (by assumption))))⟩
      have FIN := Lib.hid fin
      clear fin
      by_cases ho : (hi y % 2 = 1)
      · have ho1 := i64_odd (hi y) ho
        have a1 := Lib.hid (half_lo_odd y hwy ho)
        by_cases hneg : hi y < 0
        · have ho2 := tmod_odd (hi y) hneg ho
          have a2 := Lib.hid (half_hi_neg_odd y hwy hneg ho)
          go_wp2
          go_roundw
          case rel => exact FIN.out _ (by rw [a1.out, a2.out])
          case measure => simp [intOf]; omega
        · have a2 := Lib.hid (half_hi_pos y hwy)
          go_wp2
          go_roundw
          case rel => exact FIN.out _ (by rw [a1.out, a2.out])
          case measure => simp [intOf]; omega
      · have ho1 := i64_even (hi y) ho
        have a1 := Lib.hid (half_lo_even y hwy ho)
        have ho2 := tmod_even (hi y) ho
        by_cases hneg : hi y < 0
        · have a2 := Lib.hid (half_hi_neg_even y hwy hneg ho)
          go_wp2
          go_roundw
          case rel => exact FIN.out _ (by rw [a1.out, a2.out])
          case measure => simp [intOf]; omega
        · have a2 := Lib.hid (half_hi_pos y hwy)
          go_wp2
          go_roundw
          case rel => exact FIN.out _ (by rw [a1.out, a2.out])
          case measure => simp [intOf]; omega
    · have hfin : y = x / 2 ^ n.toNat := by
        rw [HY.out]
        by_cases h : j = n.toNat
        · rw [h]
        · have : j = 128 := by omega
          subst this
          exact shr_all x n.toNat (by omega) hx
      have H1 := Lib.hid hfin
      clear hfin
      by_cases h' : (j : Int) < n
      · have h'' : ¬ j < 128 := by omega
        clear h
        go_wp2
        refine bodyPost_ret (v := .agg #[.int .i64 (hi y), .int .u64 (lo y)]) (by simp [results, Try.results27, go_sem, c3, c4]) rfl ⟨by rw [H1.out], ?_⟩
        repeat (first | exact Ext.refl _ | assumption | (refine Ext.setCell' ?_ (by simp <;> omega) _) | refine Ext.alloc' ?_ _ | refine Ext.drew' ?_ | (refine Ext.trans _ _ _ ?_ (by assumption)))
      · clear h
        go_wp2
        refine bodyPost_ret (v := .agg #[.int .i64 (hi y), .int .u64 (lo y)]) (by simp [results, Try.results27, go_sem, c3, c4]) rfl ⟨by rw [H1.out], ?_⟩
        repeat (first | exact Ext.refl _ | assumption | (refine Ext.setCell' ?_ (by simp <;> omega) _) | refine Ext.alloc' ?_ _ | refine Ext.drew' ?_ | (refine Ext.trans _ _ _ ?_ (by assumption)))

/-! ### The order -/
theorem cmp_i64 (a b : Int) (w : World) :
    Calls Try.prog 32 #[.int .i64 a, .int .i64 b] w fun e w' => e = .returned (.int .i64 (sgn3 a b)) ∧ Ext w w' := by
  by_cases h : a < b
  · have e1 := Lib.hid (show sgn3 a b = -1 from by unfold sgn3; simp [h])
    go_enter Try.func32, Try.ntmps32
    go_wp2
    go_ret
    exact ⟨by first | rfl | (rw [e1.out]; rfl), Ext.refl _⟩
  · by_cases h2 : b < a
    · have e1 := Lib.hid (show sgn3 a b = 1 from by unfold sgn3; simp [h, h2])
      go_enter Try.func32, Try.ntmps32
      go_wp2
      go_ret
      exact ⟨by first | rfl | (rw [e1.out]; rfl), Ext.refl _⟩
    · have e1 := Lib.hid (show sgn3 a b = 0 from by unfold sgn3; simp [h, h2])
      go_enter Try.func32, Try.ntmps32
      go_wp2
      go_ret
      exact ⟨by first | rfl | (rw [e1.out]; rfl), Ext.refl _⟩
theorem cmp_u64 (a b : Int) (w : World) :
    Calls Try.prog 33 #[.int .u64 a, .int .u64 b] w fun e w' => e = .returned (.int .i64 (sgn3 a b)) ∧ Ext w w' := by
  by_cases h : a < b
  · have e1 := Lib.hid (show sgn3 a b = -1 from by unfold sgn3; simp [h])
    go_enter Try.func33, Try.ntmps33
    go_wp2
    go_ret
    exact ⟨by first | rfl | (rw [e1.out]; rfl), Ext.refl _⟩
  · by_cases h2 : b < a
    · have e1 := Lib.hid (show sgn3 a b = 1 from by unfold sgn3; simp [h, h2])
      go_enter Try.func33, Try.ntmps33
      go_wp2
      go_ret
      exact ⟨by first | rfl | (rw [e1.out]; rfl), Ext.refl _⟩
    · have e1 := Lib.hid (show sgn3 a b = 0 from by unfold sgn3; simp [h, h2])
      go_enter Try.func33, Try.ntmps33
      go_wp2
      go_ret
      exact ⟨by first | rfl | (rw [e1.out]; rfl), Ext.refl _⟩
theorem cmp_or (p q : Int) (b : Nat) (w : World) (hb : Box w b [.int .i64 p, .int .i64 q]) :
    Calls Try.prog 31 #[.slice (some ⟨b, 0, none⟩) 2 2] w fun e w' => e = .returned (.int .i64 (or2 p q)) ∧ Ext w w' := by
  obtain ⟨s1, c1, c2, _⟩ := hb.two
  have t1 := Lib.hid (show p ≠ 0 → or2 p q = p from fun h => by unfold or2; simp [h])
  have t2 := Lib.hid (show p = 0 → or2 p q = q from fun h => by unfold or2; simp [h])
  go_enter Try.func31, Try.ntmps31
  go_wp2
  go_loop [8] (fun i => ∃ j : Nat, i = .int .i64 j ∧ j ≤ 2 ∧ (1 ≤ j → p = 0) ∧ (2 ≤ j → q = 0)) (fun i => 2 - (intOf i).toNat)
  case atStart => exact ⟨0, rfl, by omega, by omega, by omega⟩
  case round =>
    obtain ⟨j, rfl, hj, hp, hq⟩ := hrel
    have hj3 : j = 0 ∨ j = 1 ∨ j = 2 := by omega
    rcases hj3 with rfl | rfl | rfl
    · clear hp hq
      by_cases h : p = 0
      · have hb : (p == 0) = true := by simp [h]
        have H := Lib.hid h
        clear h
        go_wp2
        go_round
        case rel => exact ⟨1, rfl, by omega, fun _ => H.out, by omega⟩
        case measure => simp [intOf]
      · have hb : (p == 0) = false := by simp [h]
        go_wp2
        go_ret
        exact ⟨by rw [t1.out h]; rfl, Ext.refl _⟩
    · have H0 := Lib.hid (hp (by omega))
      clear hp hq
      by_cases h : q = 0
      · have hb : (q == 0) = true := by simp [h]
        have H := Lib.hid h
        clear h
        go_wp2
        go_round
        case rel => exact ⟨2, rfl, by omega, fun _ => H0.out, fun _ => H.out⟩
        case measure => simp [intOf]
      · have hb : (q == 0) = false := by simp [h]
        go_wp2
        go_ret
        exact ⟨by rw [t2.out H0.out]; rfl, Ext.refl _⟩
    · have H0 := Lib.hid (hp (by omega))
      have H1 := Lib.hid (hq (by omega))
      clear hp hq
      go_wp2
      go_ret
      exact ⟨by rw [t2.out H0.out, H1.out]; rfl, Ext.refl _⟩

theorem wide_Compare (x y : Int) (hx : W128 x) (hy : W128 y) (w : World) :
    Calls Try.prog 16 #[.agg #[.int .i64 (hi x), .int .u64 (lo x)], .agg #[.int .i64 (hi y), .int .u64 (lo y)]] w fun e w' => e = .returned (.int .i64 (sgn3 x y)) ∧ Ext w w' := by
  have e1 := sgn_halves x y hx hy
  go_enter Try.func16, Try.ntmps16
  go_wp2
  refine wp_region_rel 17 Ext Ext.refl Ext.trans (by kernel_rfl) rfl (by kernel_rfl) ?_
  iterate 10
    first
      | (refine wpRel_skip ?_ ?_
         · (simp [go_sem]; done)
         simp only [Act.put, List.setIfInBounds_toArray, List.set_cons_zero, List.set_cons_succ])
      | (refine wpRel_ex ?_ ?_
         · (simp [go_sem]; done)
         apply Exists.intro
         refine ⟨fun σ w' hR hF => ?_, ?_⟩
         · have hcell := hR.cell
           clear hF
           simp only [fill]
           go_simp
           first
             | (go_at_call 32; refine (cmp_i64 _ _ _).mono ?_; rintro e w1 ⟨rfl, h1⟩; exact ⟨rfl, h1⟩)
             | (go_at_call 33; refine (cmp_u64 _ _ _).mono ?_; rintro e w1 ⟨rfl, h1⟩; exact ⟨rfl, h1⟩)
             | exact ⟨Ext.refl _, rfl⟩
         simp only [Act.put, List.setIfInBounds_toArray, List.set_cons_zero, List.set_cons_succ])
  refine wpRel_fact (by (simp [go_sem]; done)) 15 (fun v w => ∃ b, v = .slice (some ⟨b, 0, none⟩) 2 2 ∧ Box w b [.int .i64 (sgn3 (hi x) (hi y)), .int .i64 (sgn3 (lo x) (lo y))]) rfl (fun v w w' h ⟨b, hv, hb⟩ => ⟨b, hv, hb.ext h⟩) (fun σ w' hR hF => ?_) ?_
  · go_simp
    exact ⟨Ext.alloc _ _, by simpa using Box.alloc w' [.int .i64 (sgn3 (hi x) (hi y)), .int .i64 (sgn3 (lo x) (lo y))] 3⟩
  refine wpRel_ex (by (simp [go_sem]; done)) ?_
  apply Exists.intro
  refine ⟨fun σ w' hR hF => ?_, ?_⟩
  · simp only [factsAt, and_true] at hF
    obtain ⟨b, hv, hb⟩ := hF (by decide)
    go_simp
    refine (cmp_or _ _ _ _ hb).mono ?_
    rintro e w1 ⟨rfl, h1⟩
    exact ⟨rfl, h1⟩
  simp only [Act.put, List.setIfInBounds_toArray, List.set_cons_zero, List.set_cons_succ]
  iterate 1
    first
      | (refine wpRel_skip ?_ ?_
         · (simp [go_sem]; done)
         simp only [Act.put, List.setIfInBounds_toArray, List.set_cons_zero, List.set_cons_succ])
      | (refine wpRel_ex ?_ ?_
         · (simp [go_sem]; done)
         apply Exists.intro
         refine ⟨fun σ w' hR hF => ?_, ?_⟩
         · have hcell := hR.cell
           clear hF
           simp only [fill]
           go_simp
           first
             | exact ⟨Ext.refl _, rfl⟩
         simp only [Act.put, List.setIfInBounds_toArray, List.set_cons_zero, List.set_cons_succ])
  intro σ w1 hR1 _
  simp only [fill]
  go_simp
  go_wp2
  go_ret
  exact ⟨by rw [← e1]; rfl, by (repeat (first | exact Ext.refl _ | assumption | (refine Ext.setCell' ?_ (by simp <;> omega) _) | refine Ext.alloc' ?_ _ | refine Ext.drew' ?_ | (refine Ext.trans _ _ _ ?_ (by assumption))))⟩

theorem ref_Compare (x y : Int) (hx : W128 x) (hy : W128 y) (w : World) :
    Calls Try.prog 17 #[.agg #[.int .i64 (hi x), .int .u64 (lo x)], .agg #[.int .i64 (hi y), .int .u64 (lo y)]] w fun e w' => e = .returned (.int .i64 (sgn3 x y)) ∧ Ext w w' := by
  have e1 := sgn_halves x y hx hy
  by_cases h1 : hi x < hi y
  · have e2 := Lib.hid (show sgn3 x y = -1 by rw [← e1]; unfold or2 sgn3; simp [h1])
    clear e1
    go_enter Try.func17, Try.ntmps17
    go_wp2
    go_ret
    exact ⟨by rw [e2.out]; rfl, by (repeat (first | exact Ext.refl _ | assumption | (refine Ext.setCell' ?_ (by simp <;> omega) _) | refine Ext.alloc' ?_ _ | refine Ext.drew' ?_ | (refine Ext.trans _ _ _ ?_ (by assumption))))⟩
  by_cases h2 : hi x = hi y
  · have h2b : (hi x == hi y) = true := by simp [h2]
    by_cases h3 : lo x < lo y
    · have e2 := Lib.hid (show sgn3 x y = -1 by rw [← e1]; unfold or2 sgn3; simp [h2, h3])
      clear e1 h2
      go_enter Try.func17, Try.ntmps17
      go_wp2
      go_ret
      exact ⟨by rw [e2.out]; rfl, by (repeat (first | exact Ext.refl _ | assumption | (refine Ext.setCell' ?_ (by simp <;> omega) _) | refine Ext.alloc' ?_ _ | refine Ext.drew' ?_ | (refine Ext.trans _ _ _ ?_ (by assumption))))⟩
    · by_cases h4 : lo x = lo y
      · have h4b : (lo x == lo y) = true := by simp [h4]
        have e2 := Lib.hid (show sgn3 x y = 0 by rw [← e1]; unfold or2 sgn3; simp [h2, h4])
        clear e1 h2 h4
        go_enter Try.func17, Try.ntmps17
        go_wp2
        go_ret
        exact ⟨by rw [e2.out]; rfl, by (repeat (first | exact Ext.refl _ | assumption | (refine Ext.setCell' ?_ (by simp <;> omega) _) | refine Ext.alloc' ?_ _ | refine Ext.drew' ?_ | (refine Ext.trans _ _ _ ?_ (by assumption))))⟩
      · have h4b : (lo x == lo y) = false := by simp [h4]
        have e2 := Lib.hid (show sgn3 x y = 1 by rw [← e1]; unfold or2 sgn3; simp [h2, h3]; omega)
        clear e1 h2 h4
        go_enter Try.func17, Try.ntmps17
        go_wp2
        go_ret
        exact ⟨by rw [e2.out]; rfl, by (repeat (first | exact Ext.refl _ | assumption | (refine Ext.setCell' ?_ (by simp <;> omega) _) | refine Ext.alloc' ?_ _ | refine Ext.drew' ?_ | (refine Ext.trans _ _ _ ?_ (by assumption))))⟩
  · have h2b : (hi x == hi y) = false := by simp [h2]
    have e2 := Lib.hid (show sgn3 x y = 1 by rw [← e1]; unfold or2 sgn3; simp [h1, show hi y < hi x by omega])
    clear e1 h2
    go_enter Try.func17, Try.ntmps17
    go_wp2
    go_ret
    exact ⟨by rw [e2.out]; rfl, by (repeat (first | exact Ext.refl _ | assumption | (refine Ext.setCell' ?_ (by simp <;> omega) _) | refine Ext.alloc' ?_ _ | refine Ext.drew' ?_ | (refine Ext.trans _ _ _ ?_ (by assumption))))⟩

/-! ### The way back -/
theorem wide_Narrow (x : Int) (hx : W128 x) (w : World) :
    Calls Try.prog 11 #[.agg #[.int .i64 (hi x), .int .u64 (lo x)]] w fun e w' => e = .returned (.tuple #[.int .i64 (nar x), .bool (fits x)]) ∧ Ext w w' := by
  have e0 := low64 x
  have hI := wrap64_bd x
  by_cases h : fits x = true
  · obtain ⟨a1, a2, a3⟩ := fits_yes x hx h
    have A1 := Lib.hid a1
    have H := Lib.hid h
    clear a1 h
    go_enter Try.func11, Try.ntmps11
    go_wp2
    refine wp_region_rel 13 Ext Ext.refl Ext.trans (by kernel_rfl) rfl (by kernel_rfl) ?_
    iterate 4
      first
        | (refine wpRel_skip ?_ ?_
           · (simp [go_sem]; done)
           simp only [Act.put, List.setIfInBounds_toArray, List.set_cons_zero, List.set_cons_succ])
        | (refine wpRel_ex ?_ ?_
           · (simp [go_sem]; done)
           apply Exists.intro
           refine ⟨fun σ w' hR hF => ?_, ?_⟩
           · have hcell := hR.cell
             clear hF
             simp only [fill]
             go_simp
             first
               | (go_at_call 14; refine (wide_Of _ hI _).mono ?_; (try rw [a2, a3]); rintro e w1 ⟨rfl, h1⟩; exact ⟨rfl, h1⟩)
               | exact ⟨Ext.refl _, rfl⟩
           simp only [Act.put, List.setIfInBounds_toArray, List.set_cons_zero, List.set_cons_succ])
    intro σ w1 hRw1 _
    have hEw1 := Ext.trans _ _ _ (Ext.drew _) hRw1
    have hcellw1 := hEw1.cell
    have hfreew1 := hEw1.free
    simp only [fill]
    go_wp2
    go_ret2
    exact ⟨by first | rfl | (rw [H.out, A1.out, ← e0]; rfl) | (rw [H.out, A1.out]; rfl), by (repeat (first | exact Ext.refl _ | assumption | (refine Ext.setCell' ?_ (by simp <;> omega) _) | refine Ext.alloc' ?_ _ | refine Ext.drew' ?_ | (refine Ext.trans _ _ _ ?_ (by assumption))))⟩
  · have h := Bool.eq_false_iff.2 h
    have A2 := fits_no x hx h
    have A1 := Lib.hid (show nar x = 0 by unfold nar; simp [h])
    have H := Lib.hid h
    clear h
    go_enter Try.func11, Try.ntmps11
    go_wp2
    refine wp_region_rel 13 Ext Ext.refl Ext.trans (by kernel_rfl) rfl (by kernel_rfl) ?_
    iterate 4
      first
        | (refine wpRel_skip ?_ ?_
           · (simp [go_sem]; done)
           simp only [Act.put, List.setIfInBounds_toArray, List.set_cons_zero, List.set_cons_succ])
        | (refine wpRel_ex ?_ ?_
           · (simp [go_sem]; done)
           apply Exists.intro
           refine ⟨fun σ w' hR hF => ?_, ?_⟩
           · have hcell := hR.cell
             clear hF
             simp only [fill]
             go_simp
             first
               | (go_at_call 14; refine (wide_Of _ hI _).mono ?_; rintro e w1 ⟨rfl, h1⟩; exact ⟨rfl, h1⟩)
               | exact ⟨Ext.refl _, rfl⟩
           simp only [Act.put, List.setIfInBounds_toArray, List.set_cons_zero, List.set_cons_succ])
    intro σ w1 hRw1 _
    have hEw1 := Ext.trans _ _ _ (Ext.drew _) hRw1
    have hcellw1 := hEw1.cell
    have hfreew1 := hEw1.free
    simp only [fill]
    go_wp2
    go_ret2
    exact ⟨by first | rfl | (rw [H.out, A1.out, ← e0]; rfl) | (rw [H.out, A1.out]; rfl), by (repeat (first | exact Ext.refl _ | assumption | (refine Ext.setCell' ?_ (by simp <;> omega) _) | refine Ext.alloc' ?_ _ | refine Ext.drew' ?_ | (refine Ext.trans _ _ _ ?_ (by assumption))))⟩

theorem ref_Narrow (x : Int) (hx : W128 x) (w : World) :
    Calls Try.prog 12 #[.agg #[.int .i64 (hi x), .int .u64 (lo x)]] w fun e w' => e = .returned (.tuple #[.int .i64 (nar x), .bool (fits x)]) ∧ Ext w w' := by
  have e0 := low64 x
  have hf := Lib.hid (fits_iff x hx)
  by_cases h1 : hi x = 0
  · have h1b : (hi x == 0) = true := by simp [h1]
    have H1 := Lib.hid h1
    clear h1
    by_cases h2 : 0 ≤ wrap64 x
    · have hh : nar x = wrap64 x ∧ fits x = true := by
        have := (hf.out).2 (.inl ⟨H1.out, h2⟩)
        exact ⟨(fits_yes x hx this).1, this⟩
      have H2 := Lib.hid hh
      clear hh
      go_enter Try.func12, Try.ntmps12
      go_wp2
      go_ret2
      exact ⟨by first | (rw [H2.out.1, H2.out.2]; rfl) | (rw [H2.out.1, H2.out.2, ← e0]; rfl), by (repeat (first | exact Ext.refl _ | assumption | (refine Ext.setCell' ?_ (by simp <;> omega) _) | refine Ext.alloc' ?_ _ | refine Ext.drew' ?_ | (refine Ext.trans _ _ _ ?_ (by assumption))))⟩
    · have hh : fits x = false := by
        apply Bool.eq_false_iff.2
        intro h
        rcases (hf.out).1 h with ⟨_, h3⟩ | ⟨h3, _⟩
        · exact h2 h3
        · have := H1.out; omega
      have hn : (hi x == -1) = false := by have := H1.out; simp [this]
      have H2 := Lib.hid (show nar x = 0 ∧ fits x = false from ⟨by unfold nar; simp [hh], hh⟩)
      clear hh
      go_enter Try.func12, Try.ntmps12
      go_wp2
      go_ret2
      exact ⟨by first | (rw [H2.out.1, H2.out.2]; rfl) | (rw [H2.out.1, H2.out.2, ← e0]; rfl), by (repeat (first | exact Ext.refl _ | assumption | (refine Ext.setCell' ?_ (by simp <;> omega) _) | refine Ext.alloc' ?_ _ | refine Ext.drew' ?_ | (refine Ext.trans _ _ _ ?_ (by assumption))))⟩
  · have h1b : (hi x == 0) = false := by simp [h1]
    have H1 := Lib.hid h1
    clear h1
    by_cases h3 : hi x = -1
    · have h3b : (hi x == -1) = true := by simp [h3]
      have H3 := Lib.hid h3
      clear h3
      by_cases h2 : wrap64 x < 0
      · have hh : nar x = wrap64 x ∧ fits x = true := by
          have := (hf.out).2 (.inr ⟨H3.out, h2⟩)
          exact ⟨(fits_yes x hx this).1, this⟩
        have H2 := Lib.hid hh
        clear hh
        go_enter Try.func12, Try.ntmps12
        go_wp2
        go_ret2
        exact ⟨by first | (rw [H2.out.1, H2.out.2]; rfl) | (rw [H2.out.1, H2.out.2, ← e0]; rfl), by (repeat (first | exact Ext.refl _ | assumption | (refine Ext.setCell' ?_ (by simp <;> omega) _) | refine Ext.alloc' ?_ _ | refine Ext.drew' ?_ | (refine Ext.trans _ _ _ ?_ (by assumption))))⟩
      · have hh : fits x = false := by
          apply Bool.eq_false_iff.2
          intro h
          rcases (hf.out).1 h with ⟨h4, _⟩ | ⟨_, h4⟩
          · exact H1.out h4
          · exact h2 h4
        have H2 := Lib.hid (show nar x = 0 ∧ fits x = false from ⟨by unfold nar; simp [hh], hh⟩)
        clear hh
        go_enter Try.func12, Try.ntmps12
        go_wp2
        go_ret2
        exact ⟨by first | (rw [H2.out.1, H2.out.2]; rfl) | (rw [H2.out.1, H2.out.2, ← e0]; rfl), by (repeat (first | exact Ext.refl _ | assumption | (refine Ext.setCell' ?_ (by simp <;> omega) _) | refine Ext.alloc' ?_ _ | refine Ext.drew' ?_ | (refine Ext.trans _ _ _ ?_ (by assumption))))⟩
    · have h3b : (hi x == -1) = false := by simp [h3]
      have hh : fits x = false := by
        apply Bool.eq_false_iff.2
        intro h
        rcases (hf.out).1 h with ⟨h4, _⟩ | ⟨h4, _⟩
        · exact H1.out h4
        · exact h3 h4
      have H2 := Lib.hid (show nar x = 0 ∧ fits x = false from ⟨by unfold nar; simp [hh], hh⟩)
      clear hh h3
      go_enter Try.func12, Try.ntmps12
      go_wp2
      go_ret2
      exact ⟨by first | (rw [H2.out.1, H2.out.2]; rfl) | (rw [H2.out.1, H2.out.2, ← e0]; rfl), by (repeat (first | exact Ext.refl _ | assumption | (refine Ext.setCell' ?_ (by simp <;> omega) _) | refine Ext.alloc' ?_ _ | refine Ext.drew' ?_ | (refine Ext.trans _ _ _ ?_ (by assumption))))⟩
end Go.Proofs.Ytnalgofemikggaa
