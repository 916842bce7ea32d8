/- Walks over the package ring. -/
import Derived.Test.YtnalgofemikggaaWd
namespace Go.Proofs.Ytnalgofemikggaa
open Go.RowKit
def Inf : Int := 4611686018427387904
/-- A truth as a number. -/
def tru (b : Bool) : Int := if b then 1 else 0
def isR (r : Int) : Bool := decide (1 ≤ r ∧ r ≤ 5)
def lesr (x y : Int) : Int := if sgn3 x y ≤ 0 then x else y
theorem lesr_min (x y : Int) : lesr x y = min x y := by unfold lesr sgn3; split <;> (try split) <;> omega
/-- Sums. -/
def radd (r x y : Int) : Int := if r = 1 ∨ r = 3 ∨ r = 4 then min x y else if r = 2 then tru (decide (x ≠ 0 ∨ y ≠ 0)) else if r = 5 then x + y else 0
/-- Products. -/
def rmul (r a x : Int) : Int := if r = 2 then tru (decide (a ≠ 0 ∧ x ≠ 0)) else if r = 5 then a * x else if r = 1 ∨ r = 3 ∨ r = 4 then (if max a x ≥ Inf then Inf else if r = 1 then min Inf (a + x) else if r = 4 then x else a) else 0

theorem iff_tru {p : Prop} (h : p) : p = True := by simp [h]
theorem eq_halves_iff (p q : Int) (hp : W128 p) (hq : W128 q) : p = q ↔ hi p = hi q ∧ lo p = lo q := ⟨fun h => by subst h; exact ⟨rfl, rfl⟩, fun h => eq_of_halves hp hq h.1 h.2⟩
theorem eq_zero_iff (p : Int) (hp : W128 p) : p = 0 ↔ hi p = 0 ∧ lo p = 0 := by
  have := eq_halves_iff p 0 hp (by unfold W128; omega)
  rw [zero_hi, zero_lo] at this
  exact this
theorem ring_truth (b : Bool) (w : World) :
    Calls Try.prog 38 #[.bool b] w fun e w' => e = .returned (.agg #[.int .i64 (hi (tru b)), .int .u64 (lo (tru b))]) ∧ Ext w w' := by
  have h1 : I64 1 := by unfold I64; omega
  cases b
  · have z1 := Lib.hid (show hi (tru false) = 0 from zero_hi)
    have z2 := Lib.hid (show lo (tru false) = 0 from zero_lo)
    go_enter Try.func38, Try.ntmps38
    go_wp2
    refine bodyPost_ret (v := .agg #[.int .i64 0, .int .u64 0]) (by simp [results, Try.results38, go_sem]) rfl ⟨by rw [z1.out, z2.out], ?_⟩
    repeat (first | exact Ext.refl _ | assumption | (refine Ext.setCell' ?_ (by simp <;> omega) _) | refine Ext.alloc' ?_ _ | refine Ext.drew' ?_ | (refine Ext.trans _ _ _ ?_ (by assumption)))
  · have b2 := Box.alloc w [.int .i64 0, .int .u64 0] 24
    go_enter Try.func38, Try.ntmps38
    go_wp2_with (go_at_call 14; refine (wide_Of _ h1 _).mono ?_; rintro e w1 ⟨rfl, k1⟩; have b2 := b2.ext k1; obtain ⟨s2, c20, c21, f2⟩ := b2.two)
    refine bodyPost_ret (v := .agg #[.int .i64 (hi 1), .int .u64 (lo 1)]) (by simp [results, Try.results38, go_sem, c20, c21]) rfl ⟨rfl, ?_⟩
    repeat (first | exact Ext.refl _ | assumption | (refine Ext.setCell' ?_ (by simp <;> omega) _) | refine Ext.alloc' ?_ _ | refine Ext.drew' ?_ | (refine Ext.trans _ _ _ ?_ (by assumption)))

theorem ring_lesser (x y : Int) (hx : W128 x) (hy : W128 y) (w : World) :
    Calls Try.prog 40 #[.agg #[.int .i64 (hi x), .int .u64 (lo x)], .agg #[.int .i64 (hi y), .int .u64 (lo y)]] w fun e w' => e = .returned (.agg #[.int .i64 (hi (min x y)), .int .u64 (lo (min x y))]) ∧ Ext w w' := by
  have bx := ((Box.alloc w [.int .i64 (hi x), .int .u64 (lo x)] 24).ext (Ext.alloc _ (.cells #[.int .i64 (hi y), .int .u64 (lo y)] 24))).ext (Ext.alloc _ (.cells #[.int .i64 0, .int .u64 0] 24))
  have bz := (Box.alloc' (w.alloc (.cells #[.int .i64 (hi x), .int .u64 (lo x)] 24)) [.int .i64 (hi y), .int .u64 (lo y)] 24 (w.heap.size + 1) (by simp)).ext (Ext.alloc _ (.cells #[.int .i64 0, .int .u64 0] 24))
  have br := Box.alloc' ((w.alloc (.cells #[.int .i64 (hi x), .int .u64 (lo x)] 24)).alloc (.cells #[.int .i64 (hi y), .int .u64 (lo y)] 24)) [.int .i64 0, .int .u64 0] 24 (w.heap.size + 1 + 1) (by simp)
  rw [← lesr_min]
  by_cases h : sgn3 x y ≤ 0
  · have d1 : decide (sgn3 x y ≤ 0) = true := by simp [h]
    have E := Lib.hid (show lesr x y = x by unfold lesr; rw [if_pos h])
    go_enter Try.func40, Try.ntmps40
    go_wp2_with (go_at_call 16; refine (wide_Compare _ _ hx hy _).mono ?_; rintro e w1 ⟨rfl, k1⟩; have bx := bx.ext k1; have br := br.ext k1; obtain ⟨s2, c20, c21, f2⟩ := br.two; obtain ⟨s0, c00, c01, f0⟩ := bx.two)
    refine bodyPost_ret (v := .agg #[.int .i64 (hi x), .int .u64 (lo x)]) (by simp [results, Try.results40, go_sem, c20, c21]) rfl ⟨by rw [E.out], ?_⟩
    repeat (first | exact Ext.refl _ | assumption | (refine Ext.setCell' ?_ (by simp <;> omega) _) | refine Ext.alloc' ?_ _ | refine Ext.drew' ?_ | (refine Ext.trans _ _ _ ?_ (by assumption)))
  · have d1 : decide (sgn3 x y ≤ 0) = false := by simp; omega
    have h' : 0 < sgn3 x y := by omega
    have E := Lib.hid (show lesr x y = y by unfold lesr; rw [if_neg h])
    go_enter Try.func40, Try.ntmps40
    go_wp2_with (go_at_call 16; refine (wide_Compare _ _ hx hy _).mono ?_; rintro e w1 ⟨rfl, k1⟩; have bx := bz.ext k1; have br := br.ext k1; obtain ⟨s2, c20, c21, f2⟩ := br.two; obtain ⟨s0, c00, c01, f0⟩ := bx.two)
    refine bodyPost_ret (v := .agg #[.int .i64 (hi y), .int .u64 (lo y)]) (by simp [results, Try.results40, go_sem, c20, c21]) rfl ⟨by rw [E.out], ?_⟩
    repeat (first | exact Ext.refl _ | assumption | (refine Ext.setCell' ?_ (by simp <;> omega) _) | refine Ext.alloc' ?_ _ | refine Ext.drew' ?_ | (refine Ext.trans _ _ _ ?_ (by assumption)))

theorem ring_Is (r : Int) (w : World) :
    Calls Try.prog 39 #[.int .i64 r] w fun e w' => e = .returned (.bool (isR r)) ∧ Ext w w' := by
  by_cases h : 0 < r
  · have d1 : decide (0 < r) = true := by simp [h]
    by_cases h2 : r < 6
    · have d2 : decide (r < 6) = true := by simp [h2]
      have E := Lib.hid (show isR r = true by unfold isR; simp; omega)
      go_enter Try.func39, Try.ntmps39
      go_wp2
      go_ret
      exact ⟨by rw [E.out]; rfl, by (repeat (first | exact Ext.refl _ | assumption | (refine Ext.setCell' ?_ (by simp <;> omega) _) | refine Ext.alloc' ?_ _ | refine Ext.drew' ?_ | (refine Ext.trans _ _ _ ?_ (by assumption))))⟩
    · have d2 : decide (r < 6) = false := by simp; omega
      have E := Lib.hid (show isR r = false by unfold isR; simp; omega)
      go_enter Try.func39, Try.ntmps39
      go_wp2
      go_ret
      exact ⟨by rw [E.out]; rfl, by (repeat (first | exact Ext.refl _ | assumption | (refine Ext.setCell' ?_ (by simp <;> omega) _) | refine Ext.alloc' ?_ _ | refine Ext.drew' ?_ | (refine Ext.trans _ _ _ ?_ (by assumption))))⟩
  · have d1 : decide (0 < r) = false := by simp; omega
    have E := Lib.hid (show isR r = false by unfold isR; simp; omega)
    go_enter Try.func39, Try.ntmps39
    go_wp2
    go_ret
    exact ⟨by rw [E.out]; rfl, by (repeat (first | exact Ext.refl _ | assumption | (refine Ext.setCell' ?_ (by simp <;> omega) _) | refine Ext.alloc' ?_ _ | refine Ext.drew' ?_ | (refine Ext.trans _ _ _ ?_ (by assumption))))⟩

theorem ring_Add5 (x y : Int) (w : World) :
    Calls Try.prog 30 #[.int .i64 5, .agg #[.int .i64 (hi x), .int .u64 (lo x)], .agg #[.int .i64 (hi y), .int .u64 (lo y)]] w fun e w' => e = .returned (.agg #[.int .i64 (hi (x + y)), .int .u64 (lo (x + y))]) ∧ Ext w w' := by
  have br := Box.alloc' ((w.alloc (.cells #[.int .i64 (hi x), .int .u64 (lo x)] 24)).alloc (.cells #[.int .i64 (hi y), .int .u64 (lo y)] 24)) [.int .i64 0, .int .u64 0] 24 (w.heap.size + 1 + 1) (by simp)
  go_enter Try.func30, Try.ntmps30
  go_wp2_with (go_at_call 18; refine (wide_Add _ _ _).mono ?_; rintro e w1 ⟨rfl, k1⟩; have br := br.ext k1; obtain ⟨s2, c20, c21, f2⟩ := br.two)
  refine bodyPost_ret (v := .agg #[.int .i64 (hi (x + y)), .int .u64 (lo (x + y))]) (by simp [results, Try.results30, go_sem, c20, c21]) rfl ⟨rfl, ?_⟩
  repeat (first | exact Ext.refl _ | assumption | (refine Ext.setCell' ?_ (by simp <;> omega) _) | refine Ext.alloc' ?_ _ | refine Ext.drew' ?_ | (refine Ext.trans _ _ _ ?_ (by assumption)))
set_option maxHeartbeats 1000000 in
theorem ring_Add (r x y : Int) (hx : W128 x) (hy : W128 y) (w : World) :
    Calls Try.prog 30 #[.int .i64 r, .agg #[.int .i64 (hi x), .int .u64 (lo x)], .agg #[.int .i64 (hi y), .int .u64 (lo y)]] w fun e w' => e = .returned (.agg #[.int .i64 (hi (radd r x y)), .int .u64 (lo (radd r x y))]) ∧ Ext w w' := by
  have br := Box.alloc' ((w.alloc (.cells #[.int .i64 (hi x), .int .u64 (lo x)] 24)).alloc (.cells #[.int .i64 (hi y), .int .u64 (lo y)] 24)) [.int .i64 0, .int .u64 0] 24 (w.heap.size + 1 + 1) (by simp)
  have hr : (r = 1 ∨ r = 3 ∨ r = 4) ∨ r = 2 ∨ r = 5 ∨ (¬ r = 1 ∧ ¬ r = 3 ∧ ¬ r = 4 ∧ ¬ r = 2 ∧ ¬ r = 5) := by omega
  rcases hr with hr | rfl | rfl | ⟨n1, n3, n4, n2, n5⟩
  · have E := Lib.hid (show radd r x y = min x y by unfold radd; rw [if_pos hr])
    rcases hr with rfl | rfl | rfl
    all_goals
      go_enter Try.func30, Try.ntmps30
      go_wp2_with (go_at_call 40; refine (ring_lesser _ _ hx hy _).mono ?_; rintro e w1 ⟨rfl, k1⟩; have br := br.ext k1; obtain ⟨s2, c20, c21, f2⟩ := br.two)
      refine bodyPost_ret (v := .agg #[.int .i64 (hi (min x y)), .int .u64 (lo (min x y))]) (by simp [results, Try.results30, go_sem, c20, c21]) rfl ⟨by rw [E.out], ?_⟩
      repeat (first | exact Ext.refl _ | assumption | (refine Ext.setCell' ?_ (by simp <;> omega) _) | refine Ext.alloc' ?_ _ | refine Ext.drew' ?_ | (refine Ext.trans _ _ _ ?_ (by assumption)))
  · have hz := eq_zero_iff x hx
    have he := eq_halves_iff x y hx hy
    by_cases h1 : x = y
    · by_cases h2 : x = 0
      · have E := Lib.hid (show radd 2 x y = tru false by unfold radd; simp [h2, ← h1])
        have HZ := hz.1 h2
        subst h1
        have z1 := iff_tru HZ.1
        have z2 := iff_tru HZ.2
        clear hz he h2 HZ
        go_enter Try.func30, Try.ntmps30
        go_wp2_with (go_at_call 38; refine (ring_truth _ _).mono ?_; rintro e w1 ⟨rfl, k1⟩; have br := br.ext k1; obtain ⟨s2, c20, c21, f2⟩ := br.two)
        refine bodyPost_ret (v := .agg #[.int .i64 (hi (tru false)), .int .u64 (lo (tru false))]) (by simp [results, Try.results30, go_sem, c20, c21]) rfl ⟨by rw [E.out], ?_⟩
        repeat (first | exact Ext.refl _ | assumption | (refine Ext.setCell' ?_ (by simp <;> omega) _) | refine Ext.alloc' ?_ _ | refine Ext.drew' ?_ | (refine Ext.trans _ _ _ ?_ (by assumption)))
      · have E := Lib.hid (show radd 2 x y = tru true by unfold radd; simp [h2, ← h1])
        have HZ : ¬ (hi x = 0 ∧ lo x = 0) := fun h => h2 (hz.2 h)
        subst h1
        by_cases h3 : hi x = 0
        · have z1 := iff_tru h3
          have z2 : (lo x = 0) = False := by simp; intro h; exact HZ ⟨h3, h⟩
          clear hz he h2 HZ h3
          go_enter Try.func30, Try.ntmps30
          go_wp2_with (go_at_call 38; refine (ring_truth _ _).mono ?_; rintro e w1 ⟨rfl, k1⟩; have br := br.ext k1; obtain ⟨s2, c20, c21, f2⟩ := br.two)
          refine bodyPost_ret (v := .agg #[.int .i64 (hi (tru true)), .int .u64 (lo (tru true))]) (by simp [results, Try.results30, go_sem, c20, c21]) rfl ⟨by rw [E.out], ?_⟩
          repeat (first | exact Ext.refl _ | assumption | (refine Ext.setCell' ?_ (by simp <;> omega) _) | refine Ext.alloc' ?_ _ | refine Ext.drew' ?_ | (refine Ext.trans _ _ _ ?_ (by assumption)))
        · clear hz he h2 HZ
          go_enter Try.func30, Try.ntmps30
          go_wp2_with (go_at_call 38; refine (ring_truth _ _).mono ?_; rintro e w1 ⟨rfl, k1⟩; have br := br.ext k1; obtain ⟨s2, c20, c21, f2⟩ := br.two)
          refine bodyPost_ret (v := .agg #[.int .i64 (hi (tru true)), .int .u64 (lo (tru true))]) (by simp [results, Try.results30, go_sem, c20, c21]) rfl ⟨by rw [E.out], ?_⟩
          repeat (first | exact Ext.refl _ | assumption | (refine Ext.setCell' ?_ (by simp <;> omega) _) | refine Ext.alloc' ?_ _ | refine Ext.drew' ?_ | (refine Ext.trans _ _ _ ?_ (by assumption)))
    · have h0 : x ≠ 0 ∨ y ≠ 0 := by omega
      have E := Lib.hid (show radd 2 x y = tru true by unfold radd; simp [h0])
      clear h0
      have HE : ¬ (hi x = hi y ∧ lo x = lo y) := fun h => h1 (he.2 h)
      by_cases h3 : hi x = hi y
      · have z1 := iff_tru h3
        have z2 : (lo x = lo y) = False := by simp; intro h; exact HE ⟨h3, h⟩
        clear hz he h1 HE h3
        go_enter Try.func30, Try.ntmps30
        go_wp2_with (go_at_call 38; refine (ring_truth _ _).mono ?_; rintro e w1 ⟨rfl, k1⟩; have br := br.ext k1; obtain ⟨s2, c20, c21, f2⟩ := br.two)
        refine bodyPost_ret (v := .agg #[.int .i64 (hi (tru true)), .int .u64 (lo (tru true))]) (by simp [results, Try.results30, go_sem, c20, c21]) rfl ⟨by rw [E.out], ?_⟩
        repeat (first | exact Ext.refl _ | assumption | (refine Ext.setCell' ?_ (by simp <;> omega) _) | refine Ext.alloc' ?_ _ | refine Ext.drew' ?_ | (refine Ext.trans _ _ _ ?_ (by assumption)))
      · clear hz he h1 HE
        go_enter Try.func30, Try.ntmps30
        go_wp2_with (go_at_call 38; refine (ring_truth _ _).mono ?_; rintro e w1 ⟨rfl, k1⟩; have br := br.ext k1; obtain ⟨s2, c20, c21, f2⟩ := br.two)
        refine bodyPost_ret (v := .agg #[.int .i64 (hi (tru true)), .int .u64 (lo (tru true))]) (by simp [results, Try.results30, go_sem, c20, c21]) rfl ⟨by rw [E.out], ?_⟩
        repeat (first | exact Ext.refl _ | assumption | (refine Ext.setCell' ?_ (by simp <;> omega) _) | refine Ext.alloc' ?_ _ | refine Ext.drew' ?_ | (refine Ext.trans _ _ _ ?_ (by assumption)))
  · have E := Lib.hid (show radd 5 x y = x + y by unfold radd; simp)
    go_enter Try.func30, Try.ntmps30
    go_wp2_with (go_at_call 18; refine (wide_Add _ _ _).mono ?_; rintro e w1 ⟨rfl, k1⟩; have br := br.ext k1; obtain ⟨s2, c20, c21, f2⟩ := br.two)
    refine bodyPost_ret (v := .agg #[.int .i64 (hi (x + y)), .int .u64 (lo (x + y))]) (by simp [results, Try.results30, go_sem, c20, c21]) rfl ⟨by rw [E.out], ?_⟩
    repeat (first | exact Ext.refl _ | assumption | (refine Ext.setCell' ?_ (by simp <;> omega) _) | refine Ext.alloc' ?_ _ | refine Ext.drew' ?_ | (refine Ext.trans _ _ _ ?_ (by assumption)))
  · have E := Lib.hid (show radd r x y = 0 by unfold radd; simp [n1, n2, n3, n4, n5])
    have m1 : (r == 1) = false := by simp [n1]
    have m2 : (r == 2) = false := by simp [n2]
    have m3 : (r == 3) = false := by simp [n3]
    have m4 : (r == 4) = false := by simp [n4]
    have m5 : (r == 5) = false := by simp [n5]
    go_enter Try.func30, Try.ntmps30
    go_wp2
    refine bodyPost_ret (v := .agg #[.int .i64 0, .int .u64 0]) (by simp [results, Try.results30, go_sem]) rfl ⟨by rw [E.out, zero_hi, zero_lo], ?_⟩
    repeat (first | exact Ext.refl _ | assumption | (refine Ext.setCell' ?_ (by simp <;> omega) _) | refine Ext.alloc' ?_ _ | refine Ext.drew' ?_ | (refine Ext.trans _ _ _ ?_ (by assumption)))
end Go.Proofs.Ytnalgofemikggaa
