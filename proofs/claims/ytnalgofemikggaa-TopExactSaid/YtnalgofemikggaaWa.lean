/- Walks over the packages wide and fretworkref01. -/
import Derived.Test.YtnalgofemikggaaRows
import Derived.Test.YtnalgofemikggaaFw
import Derived.Test.YtnalgofemikggaaWm
import Derived.Outline
namespace Go.Proofs.Ytnalgofemikggaa
open Go.RowKit
theorem carry_any (b : Bool) (w : World) :
    Calls Try.prog 34 #[.bool b] w fun e w' => e = .returned (.int .u64 (cy b)) ∧ Ext w w' := by
  cases b
  all_goals
    go_enter Try.func34, Try.ntmps34
    go_wp2
    go_ret
    exact ⟨rfl, Ext.refl _⟩

theorem wide_Of (n : Int) (hn : I64 n) (w : World) :
    Calls Try.prog 14 #[.int .i64 n] w fun e w' => e = .returned (.agg #[.int .i64 (hi n), .int .u64 (lo n)]) ∧ Ext w w' := by
  have e1 := of_hi n hn
  have e2 := of_lo n
  go_enter Try.func14, Try.ntmps14
  go_wp2
  refine bodyPost_ret (v := .agg #[.int .i64 (hi n), .int .u64 (lo n)]) (by simp [results, Try.results14, go_sem]) rfl ⟨rfl, ?_⟩
  repeat (first | exact Ext.refl _ | assumption | (refine Ext.setCell' ?_ (by simp <;> omega) _) | refine Ext.alloc' ?_ _ | refine Ext.drew' ?_ | (refine Ext.trans _ _ _ ?_ (by assumption)))

theorem ref_Of (n : Int) (hn : I64 n) (w : World) :
    Calls Try.prog 15 #[.int .i64 n] w fun e w' => e = .returned (.agg #[.int .i64 (hi n), .int .u64 (lo n)]) ∧ Ext w w' := by
  have e2 := of_lo n
  by_cases h : n < 0
  · have e1 := Lib.hid (of_hi_neg n hn h)
    go_enter Try.func15, Try.ntmps15
    go_wp2
    refine bodyPost_ret (v := .agg #[.int .i64 (hi n), .int .u64 (lo n)]) (by simp [results, Try.results15, go_sem, e1.out]) rfl ⟨rfl, ?_⟩
    repeat (first | exact Ext.refl _ | assumption | (refine Ext.setCell' ?_ (by simp <;> omega) _) | refine Ext.alloc' ?_ _ | refine Ext.drew' ?_ | (refine Ext.trans _ _ _ ?_ (by assumption)))
  · have e1 := Lib.hid (of_hi_pos n hn h)
    go_enter Try.func15, Try.ntmps15
    go_wp2
    refine bodyPost_ret (v := .agg #[.int .i64 (hi n), .int .u64 (lo n)]) (by simp [results, Try.results15, go_sem, e1.out]) rfl ⟨rfl, ?_⟩
    repeat (first | exact Ext.refl _ | assumption | (refine Ext.setCell' ?_ (by simp <;> omega) _) | refine Ext.alloc' ?_ _ | refine Ext.drew' ?_ | (refine Ext.trans _ _ _ ?_ (by assumption)))

theorem wide_Add (x y : Int) (w : World) :
    Calls Try.prog 18 #[.agg #[.int .i64 (hi x), .int .u64 (lo x)], .agg #[.int .i64 (hi y), .int .u64 (lo y)]] w fun e w' => e = .returned (.agg #[.int .i64 (hi (x + y)), .int .u64 (lo (x + y))]) ∧ Ext w w' := by
  have e1 := add_lo x y
  have e2 := Lib.hid (add_hi x y)
  go_enter Try.func18, Try.ntmps18
  go_wp2
  refine wp_region_rel_tail 16 27 Ext Ext.refl Ext.trans (by kernel_rfl) rfl (by kernel_rfl) ?_
  simp only [List.take_succ_cons, List.take_zero, List.drop_succ_cons, List.drop_zero]
  iterate 16
    first
      | (refine wpRel_skip ?_ ?_
         · (simp [go_sem]; done)
         simp only [Act.put, List.setIfInBounds_toArray, List.set_cons_zero, List.set_cons_succ])
      | (refine wpRel_ex ?_ ?_
         · (simp [go_sem]; done)
         apply Exists.intro
         refine ⟨fun σ w' hR hF => ?_, ?_⟩
         · have hcell := hR.cell
           clear hF
           simp only [fill]
           go_simp
           first
             | (go_at_call 34; refine (carry_any _ _).mono ?_; rintro e w1 ⟨rfl, h1⟩; exact ⟨rfl, h1⟩)
             | exact ⟨Ext.refl _, rfl⟩
         simp only [Act.put, List.setIfInBounds_toArray, List.set_cons_zero, List.set_cons_succ])
  intro σ w1 hRw1 _
  have hEw1 := Ext.trans _ _ _ (Ext.drew _) hRw1
  have hcellw1 := hEw1.cell
  have hfreew1 := hEw1.free
  simp only [fill]
  go_wp2
  refine bodyPost_ret (v := .agg #[.int .i64 (hi (x + y)), .int .u64 (lo (x + y))]) (by simp [results, Try.results18, go_sem, hcellw1, e2.out]) rfl ⟨rfl, ?_⟩
  repeat (first | exact Ext.refl _ | assumption | (refine Ext.setCell' ?_ (by simp <;> omega) _) | refine Ext.alloc' ?_ _ | refine Ext.drew' ?_ | (refine Ext.trans _ _ _ ?_ (by assumption)))

theorem wide_Sub (x y : Int) (w : World) :
    Calls Try.prog 20 #[.agg #[.int .i64 (hi x), .int .u64 (lo x)], .agg #[.int .i64 (hi y), .int .u64 (lo y)]] w fun e w' => e = .returned (.agg #[.int .i64 (hi (x - y)), .int .u64 (lo (x - y))]) ∧ Ext w w' := by
  have e1 := sub_lo x y
  have e2 := Lib.hid (sub_hi x y)
  go_enter Try.func20, Try.ntmps20
  go_wp2
  refine wp_region_rel_tail 21 26 Ext Ext.refl Ext.trans (by kernel_rfl) rfl (by kernel_rfl) ?_
  simp only [List.take_succ_cons, List.take_zero, List.drop_succ_cons, List.drop_zero]
  iterate 21
    first
      | (refine wpRel_skip ?_ ?_
         · (simp [go_sem]; done)
         simp only [Act.put, List.setIfInBounds_toArray, List.set_cons_zero, List.set_cons_succ])
      | (refine wpRel_ex ?_ ?_
         · (simp [go_sem]; done)
         apply Exists.intro
         refine ⟨fun σ w' hR hF => ?_, ?_⟩
         · have hcell := hR.cell
           clear hF
           simp only [fill]
           go_simp
           first
             | (go_at_call 34; refine (carry_any _ _).mono ?_; rintro e w1 ⟨rfl, h1⟩; exact ⟨rfl, h1⟩)
             | exact ⟨Ext.refl _, rfl⟩
         simp only [Act.put, List.setIfInBounds_toArray, List.set_cons_zero, List.set_cons_succ])
  intro σ w1 hRw1 _
  have hEw1 := Ext.trans _ _ _ (Ext.drew _) hRw1
  have hcellw1 := hEw1.cell
  have hfreew1 := hEw1.free
  simp only [fill]
  go_wp2
  refine bodyPost_ret (v := .agg #[.int .i64 (hi (x - y)), .int .u64 (lo (x - y))]) (by simp [results, Try.results20, go_sem, hcellw1, e2.out]) rfl ⟨rfl, ?_⟩
  repeat (first | exact Ext.refl _ | assumption | (refine Ext.setCell' ?_ (by simp <;> omega) _) | refine Ext.alloc' ?_ _ | refine Ext.drew' ?_ | (refine Ext.trans _ _ _ ?_ (by assumption)))

theorem ref_Add (x y : Int) (w : World) :
    Calls Try.prog 19 #[.agg #[.int .i64 (hi x), .int .u64 (lo x)], .agg #[.int .i64 (hi y), .int .u64 (lo y)]] w fun e w' => e = .returned (.agg #[.int .i64 (hi (x + y)), .int .u64 (lo (x + y))]) ∧ Ext w w' := by
  have e1 := add_lo x y
  by_cases h : lo (x + y) < lo x
  · have e2 := Lib.hid (add_hi2 x y h)
    go_enter Try.func19, Try.ntmps19
    go_wp2
    refine bodyPost_ret (v := .agg #[.int .i64 (hi (x + y)), .int .u64 (lo (x + y))]) (by simp [results, Try.results19, go_sem, e2.out]) rfl ⟨rfl, ?_⟩
    repeat (first | exact Ext.refl _ | assumption | (refine Ext.setCell' ?_ (by simp <;> omega) _) | refine Ext.alloc' ?_ _ | refine Ext.drew' ?_ | (refine Ext.trans _ _ _ ?_ (by assumption)))
  · have e2 := Lib.hid (add_hi3 x y h)
    go_enter Try.func19, Try.ntmps19
    go_wp2
    refine bodyPost_ret (v := .agg #[.int .i64 (hi (x + y)), .int .u64 (lo (x + y))]) (by simp [results, Try.results19, go_sem, e2.out]) rfl ⟨rfl, ?_⟩
    repeat (first | exact Ext.refl _ | assumption | (refine Ext.setCell' ?_ (by simp <;> omega) _) | refine Ext.alloc' ?_ _ | refine Ext.drew' ?_ | (refine Ext.trans _ _ _ ?_ (by assumption)))

theorem ref_Minus (x : Int) (w : World) :
    Calls Try.prog 35 #[.agg #[.int .i64 (hi x), .int .u64 (lo x)]] w fun e w' => e = .returned (.agg #[.int .i64 (hi (- x)), .int .u64 (lo (-x))]) ∧ Ext w w' := by
  have s1 : IntKind.i64.signed = true := rfl
  have s2 : IntKind.u64.signed = false := rfl
  have e1 := min_lo x
  have e2 := min_hi x
  go_enter Try.func35, Try.ntmps35
  go_wp2_with fail
  have hc := fun W => ref_Add (-1 - x) 1 W
  rw [one_hi, one_lo, show -1 - x + 1 = -x by omega] at hc
  refine (hc _).mono ?_
  rintro e w1 ⟨rfl, h1⟩
  have hc1 := h1.cell
  have hf1 := h1.free
  clear hc
  go_wp2
  refine bodyPost_ret (v := .agg #[.int .i64 (hi (-x)), .int .u64 (lo (-x))]) (by simp [results, Try.results35, go_sem, hc1]) rfl ⟨rfl, ?_⟩
  repeat (first | exact Ext.refl _ | assumption | (refine Ext.setCell' ?_ (by simp <;> omega) _) | refine Ext.alloc' ?_ _ | refine Ext.drew' ?_ | (refine Ext.trans _ _ _ ?_ (by assumption)))

theorem ref_Sub (x y : Int) (w : World) :
    Calls Try.prog 21 #[.agg #[.int .i64 (hi x), .int .u64 (lo x)], .agg #[.int .i64 (hi y), .int .u64 (lo y)]] w fun e w' => e = .returned (.agg #[.int .i64 (hi (x - y)), .int .u64 (lo (x - y))]) ∧ Ext w w' := by
  have e1 : x + -y = x - y := by omega
  go_enter Try.func21, Try.ntmps21
  go_wp2
  refine wp_region_rel_tail 4 9 Ext Ext.refl Ext.trans (by kernel_rfl) rfl (by kernel_rfl) ?_
  simp only [List.take_succ_cons, List.take_zero, List.drop_succ_cons, List.drop_zero]
  iterate 4
    first
      | (refine wpRel_skip ?_ ?_
         · (simp [go_sem]; done)
         simp only [Act.put, List.setIfInBounds_toArray, List.set_cons_zero, List.set_cons_succ])
      | (refine wpRel_ex ?_ ?_
         · (simp [go_sem]; done)
         apply Exists.intro
         refine ⟨fun σ w' hR hF => ?_, ?_⟩
         · have hcell := hR.cell
           clear hF
           simp only [fill]
           go_simp
           first
             | (go_at_call 35; refine (ref_Minus _ _).mono ?_; rintro e w1 ⟨rfl, h1⟩; exact ⟨rfl, h1⟩)
             | (go_at_call 19; refine (ref_Add _ _ _).mono ?_; rintro e w1 ⟨rfl, h1⟩; exact ⟨rfl, h1⟩)
             | exact ⟨Ext.refl _, rfl⟩
         simp only [Act.put, List.setIfInBounds_toArray, List.set_cons_zero, List.set_cons_succ])
  intro σ w1 hRw1 _
  have hEw1 := Ext.trans _ _ _ (Ext.drew _) hRw1
  have hcellw1 := hEw1.cell
  have hfreew1 := hEw1.free
  simp only [fill]
  go_wp2
  refine bodyPost_ret (v := .agg #[.int .i64 (hi (x - y)), .int .u64 (lo (x - y))]) (by simp [results, Try.results21, go_sem, hcellw1, e1]) rfl ⟨rfl, ?_⟩
  repeat (first | exact Ext.refl _ | assumption | (refine Ext.setCell' ?_ (by simp <;> omega) _) | refine Ext.alloc' ?_ _ | refine Ext.drew' ?_ | (refine Ext.trans _ _ _ ?_ (by assumption)))

theorem halves_any (n : Int) (hn : U64 n) (w : World) :
    Calls Try.prog 44 #[.int .u64 n] w fun e w' => e = .returned (.agg #[.int .u64 (hl n), .int .u64 (hh n)]) ∧ Ext w w' := by
  have e1 : IntKind.u64.wrap (n * 4294967296) / 4294967296 = hl n := by rw [wu]; unfold U64 at hn; unfold hl; omega
  have e2 : n / 4294967296 = hh n := rfl
  unfold U64 at hn
  obtain ⟨h0, h1⟩ := hn
  go_enter Try.func44, Try.ntmps44
  go_wp2
  refine bodyPost_ret (v := .agg #[.int .u64 (hl n), .int .u64 (hh n)]) (by simp [results, Try.results44, go_sem]) rfl ⟨rfl, ?_⟩
  repeat (first | exact Ext.refl _ | assumption | (refine Ext.setCell' ?_ (by simp <;> omega) _) | refine Ext.alloc' ?_ _ | refine Ext.drew' ?_ | (refine Ext.trans _ _ _ ?_ (by assumption)))
theorem size_any (n : Int) (hn : I64 n) (w : World) :
    Calls Try.prog 37 #[.int .i64 n] w fun e w' => e = .returned (.int .u64 (mag n)) ∧ Ext w w' := by
  unfold I64 at hn
  obtain ⟨h0, h1⟩ := hn
  by_cases h : n < 0
  · have e1 : IntKind.u64.wrap (-IntKind.u64.wrap n) = mag n := by simp only [wu]; unfold mag; simp [h]; omega
    go_enter Try.func37, Try.ntmps37
    go_wp2
    go_ret
    exact ⟨rfl, Ext.refl _⟩
  · have e1 : mag n = n := by unfold mag; simp [h]
    go_enter Try.func37, Try.ntmps37
    go_wp2
    go_ret
    exact ⟨by simp [e1], Ext.refl _⟩

/-! ### Shifts -/
theorem wide_Left (x : Int) (n : Int) (hn : I64 n) (w : World) :
    Calls Try.prog 24 #[.agg #[.int .i64 (hi x), .int .u64 (lo x)], .int .i64 n] w fun e w' => e = .returned (.agg #[.int .i64 (hi (x * 2 ^ n.toNat)), .int .u64 (lo (x * 2 ^ n.toNat))]) ∧ Ext w w' := by
  obtain ⟨_, hn2⟩ := hn
  by_cases h0 : n ≤ 0
  · have e1 : x * 2 ^ n.toNat = x := by rw [show n.toNat = 0 by omega]; simp
    rw [e1]
    clear e1
    go_enter Try.func24, Try.ntmps24
    go_wp2
    refine bodyPost_ret (v := .agg #[.int .i64 (hi x), .int .u64 (lo x)]) (by simp [results, Try.results24, go_sem]) rfl ⟨rfl, ?_⟩
    repeat (first | exact Ext.refl _ | assumption | (refine Ext.setCell' ?_ (by simp <;> omega) _) | refine Ext.alloc' ?_ _ | refine Ext.drew' ?_ | (refine Ext.trans _ _ _ ?_ (by assumption)))
  obtain ⟨k, rfl⟩ := Int.eq_ofNat_of_zero_le (show 0 ≤ n by omega)
  rw [Int.toNat_natCast]
  have hk0 : 0 < k := by omega
  clear h0
  by_cases h1 : 64 ≤ k
  · have e1 := shl_big_hi x k h1
    have e2 := Lib.hid (shl_big_lo x k h1)
    go_enter Try.func24, Try.ntmps24
    go_wp2
    refine bodyPost_ret (v := .agg #[.int .i64 (hi (x * 2 ^ k)), .int .u64 (lo (x * 2 ^ k))]) (by simp [results, Try.results24, go_sem, e1, ← e2.out]) rfl ⟨rfl, ?_⟩
    repeat (first | exact Ext.refl _ | assumption | (refine Ext.setCell' ?_ (by simp <;> omega) _) | refine Ext.alloc' ?_ _ | refine Ext.drew' ?_ | (refine Ext.trans _ _ _ ?_ (by assumption)))
  · have h2 : k < 64 := by omega
    have e1 := shl_hi x k (by omega)
    have e2 := shl_lo x k
    go_enter Try.func24, Try.ntmps24
    go_wp2
    refine bodyPost_ret (v := .agg #[.int .i64 (hi (x * 2 ^ k)), .int .u64 (lo (x * 2 ^ k))]) (by simp [results, Try.results24, go_sem, e1, e2]) rfl ⟨rfl, ?_⟩
    repeat (first | exact Ext.refl _ | assumption | (refine Ext.setCell' ?_ (by simp <;> omega) _) | refine Ext.alloc' ?_ _ | refine Ext.drew' ?_ | (refine Ext.trans _ _ _ ?_ (by assumption)))

theorem wide_Right (x : Int) (n : Int) (hx : W128 x) (hn : I64 n) (w : World) :
    Calls Try.prog 26 #[.agg #[.int .i64 (hi x), .int .u64 (lo x)], .int .i64 n] w fun e w' => e = .returned (.agg #[.int .i64 (hi (x / 2 ^ n.toNat)), .int .u64 (lo (x / 2 ^ n.toNat))]) ∧ Ext w w' := by
  obtain ⟨_, hn2⟩ := hn
  by_cases h0 : n ≤ 0
  · have e1 : x / 2 ^ n.toNat = x := by rw [show n.toNat = 0 by omega]; simp
    rw [e1]
    clear e1
    go_enter Try.func26, Try.ntmps26
    go_wp2
    refine bodyPost_ret (v := .agg #[.int .i64 (hi x), .int .u64 (lo x)]) (by simp [results, Try.results26, go_sem]) rfl ⟨rfl, ?_⟩
    repeat (first | exact Ext.refl _ | assumption | (refine Ext.setCell' ?_ (by simp <;> omega) _) | refine Ext.alloc' ?_ _ | refine Ext.drew' ?_ | (refine Ext.trans _ _ _ ?_ (by assumption)))
  obtain ⟨k, rfl⟩ := Int.eq_ofNat_of_zero_le (show 0 ≤ n by omega)
  rw [Int.toNat_natCast]
  have hk0 : 0 < k := by omega
  clear h0
  by_cases h1 : 64 ≤ k
  · obtain ⟨e1, hi64⟩ := shr_big x k h1 hx
    go_enter Try.func26, Try.ntmps26
    go_wp2_with (go_at_call 14; refine (wide_Of _ hi64 _).mono ?_; rintro e w1 ⟨rfl, h1⟩; have hc1 := h1.cell; have hf1 := h1.free)
    refine bodyPost_ret (v := .agg #[.int .i64 (hi (x / 2 ^ k)), .int .u64 (lo (x / 2 ^ k))]) (by simp [results, Try.results26, go_sem, hc1]) rfl ⟨rfl, ?_⟩
    repeat (first | exact Ext.refl _ | assumption | (refine Ext.setCell' ?_ (by simp <;> omega) _) | refine Ext.alloc' ?_ _ | refine Ext.drew' ?_ | (refine Ext.trans _ _ _ ?_ (by assumption)))
  · have h2 : k < 64 := by omega
    have e1 := shr_hi x k hx
    have e2 := shr_lo x k (by omega) hx
    go_enter Try.func26, Try.ntmps26
    go_wp2
    refine bodyPost_ret (v := .agg #[.int .i64 (hi (x / 2 ^ k)), .int .u64 (lo (x / 2 ^ k))]) (by simp [results, Try.results26, go_sem, e1, e2]) rfl ⟨rfl, ?_⟩
    repeat (first | exact Ext.refl _ | assumption | (refine Ext.setCell' ?_ (by simp <;> omega) _) | refine Ext.alloc' ?_ _ | refine Ext.drew' ?_ | (refine Ext.trans _ _ _ ?_ (by assumption)))

set_option maxRecDepth 100000 in
theorem ref_Left (x : Int) (n : Int) (hn : I64 n) (w : World) :
    Calls Try.prog 25 #[.agg #[.int .i64 (hi x), .int .u64 (lo x)], .int .i64 n] w fun e w' => e = .returned (.agg #[.int .i64 (hi (x * 2 ^ n.toNat)), .int .u64 (lo (x * 2 ^ n.toNat))]) ∧ Ext w w' := by
  obtain ⟨_, hn2⟩ := hn
  have hfin : ∀ j : Nat, ¬ ((j : Int) < n ∧ j < 128) → j ≤ n.toNat → j ≤ 128 → hi (x * 2 ^ j) = hi (x * 2 ^ n.toNat) ∧ lo (x * 2 ^ j) = lo (x * 2 ^ n.toNat) := fun j h1 h2 h3 => by
    by_cases h : j = n.toNat
    · subst h; exact ⟨rfl, rfl⟩
    · have : j = 128 := by omega
      subst this
      exact shl_all x n.toNat (by omega)
  have HF := Lib.hid hfin
  clear hfin
  go_enter Try.func25, Try.ntmps25
  go_wp2
  go_loopw [5] (fun i wr => ∃ j : Nat, i = .int .i64 j ∧ j ≤ n.toNat ∧ j ≤ 128 ∧ Box wr w.heap.size [.int .i64 (hi (x * 2 ^ j)), .int .u64 (lo (x * 2 ^ j))] ∧ Box wr (w.heap.size + 1) [.int .i64 0, .int .u64 0] ∧ Ext w wr) (fun i _ => 128 - (intOf i).toNat)
  case atStart => exact ⟨0, rfl, by omega, by omega, by simpa using (Box.alloc w _ 24).ext (Ext.alloc _ _), by simpa using Box.alloc (w.alloc _) [.int .i64 0, .int .u64 0] 24, by (repeat (first | exact Ext.refl _ | assumption | (refine Ext.setCell' ?_ (by simp <;> omega) _) | refine Ext.alloc' ?_ _ | refine Ext.drew' ?_ | (refine Ext.trans _ _ _ ?_ (by assumption))))⟩
  case round =>
    obtain ⟨j, rfl, hj, hj2, hb1, hb2, hext⟩ := hrel
    obtain ⟨s1, c1, c2, f1⟩ := hb1.two
    obtain ⟨s2, c3, c4, f2⟩ := hb2.two
    by_cases h : (j : Int) < n ∧ j < 128
    · obtain ⟨hl1, hl2⟩ := h
      go_wp2_with (go_at_call 19; refine (ref_Add _ _ _).mono ?_; rintro e w1 ⟨rfl, h1⟩; have hc1 := h1.cell; have hf1 := h1.free)
      go_roundw
      case rel =>
        refine ⟨j + 1, by go_num, by omega, by omega, ?_, ?_, by (repeat (first | exact Ext.refl _ | assumption | (refine Ext.setCell' ?_ (by simp <;> omega) _) | refine Ext.alloc' ?_ _ | refine Ext.drew' ?_ | (refine Ext.trans _ _ _ ?_ (by assumption))))⟩
        · rw [show x * 2 ^ (j + 1) = x * 2 ^ j + x * 2 ^ j by rw [Int.pow_succ, ← Int.mul_assoc]; omega]
          exact ((hb1.ext h1).set 0 _).set 1 _
        · exact ((hb2.ext h1).far (by simp) _).far (by simp) _
      case measure => simp [intOf]; omega
    · have hh := HF.out j h hj hj2
      have H1 := Lib.hid hh.1
      have H2 := Lib.hid hh.2
      clear hh
      by_cases h' : (j : Int) < n
      · have h'' : ¬ j < 128 := by omega
        clear h
        go_wp2
        refine bodyPost_ret (v := .agg #[.int .i64 (hi (x * 2 ^ j)), .int .u64 (lo (x * 2 ^ j))]) (by simp [results, Try.results25, go_sem, c3, c4]) rfl ⟨by rw [H1.out, H2.out], ?_⟩
        repeat (first | exact Ext.refl _ | assumption | (refine Ext.setCell' ?_ (by simp <;> omega) _) | refine Ext.alloc' ?_ _ | refine Ext.drew' ?_ | (refine Ext.trans _ _ _ ?_ (by assumption)))
      · clear h
        go_wp2
        refine bodyPost_ret (v := .agg #[.int .i64 (hi (x * 2 ^ j)), .int .u64 (lo (x * 2 ^ j))]) (by simp [results, Try.results25, go_sem, c3, c4]) rfl ⟨by rw [H1.out, H2.out], ?_⟩
        repeat (first | exact Ext.refl _ | assumption | (refine Ext.setCell' ?_ (by simp <;> omega) _) | refine Ext.alloc' ?_ _ | refine Ext.drew' ?_ | (refine Ext.trans _ _ _ ?_ (by assumption)))
end Go.Proofs.Ytnalgofemikggaa
