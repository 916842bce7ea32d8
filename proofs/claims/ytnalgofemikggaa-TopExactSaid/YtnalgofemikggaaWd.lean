/- Walks over the packages wide and fretworkref01, third part: products. -/
import Derived.Test.YtnalgofemikggaaWb
namespace Go.Proofs.Ytnalgofemikggaa
open Go.RowKit
theorem u64_mul_bd (p q : Int) (hp : 0 ≤ p ∧ p ≤ 4294967295) (hq : 0 ≤ q ∧ q ≤ 4294967295) : 0 ≤ p * q ∧ p * q ≤ 18446744065119617025 := by
  have := mul_bd p q 4294967295 4294967295 hp.1 hq.1 hp.2 hq.2; omega
theorem u64_id (n : Int) (h : 0 ≤ n ∧ n ≤ 18446744073709551615) : IntKind.u64.wrap n = n := by rw [wu]; omega
set_option maxRecDepth 100000 in
theorem wide_product (a b : Int) (ha : U64 a) (hb : U64 b) (w : World) :
    Calls Try.prog 36 #[.int .u64 a, .int .u64 b] w fun e w' => e = .returned (.agg #[.int .i64 (hi (a * b)), .int .u64 (lo (a * b))]) ∧ Ext w w' := by
  have k00 := u64_mul_bd _ _ (hl_bd a) (hl_bd b)
  have k10 := u64_mul_bd _ _ (hh_bd a ha) (hl_bd b)
  have k01 := u64_mul_bd _ _ (hl_bd a) (hh_bd b hb)
  have k11 := u64_mul_bd _ _ (hh_bd a ha) (hh_bd b hb)
  have hE := prod_eq _ _ _ _ k00 k10 k01 k11
  rw [← mul_split a b] at hE
  have m1 : 0 ≤ hh (hl a * hl b) ∧ hh (hl a * hl b) ≤ 4294967295 := hh_bd _ (by unfold U64; omega)
  have u00 : U64 (hl a * hl b) := by unfold U64; omega
  have uc : U64 (hh a * hl b + hh (hl a * hl b)) := by unfold U64; omega
  have m2 := hl_bd (hh a * hl b + hh (hl a * hl b))
  have uo : U64 (hl a * hh b + hl (hh a * hl b + hh (hl a * hl b))) := by unfold U64; omega
  have z1 := u64_id _ (show 0 ≤ hl a * hl b ∧ _ from by unfold U64 at u00; exact u00)
  have z2 := u64_id (hh a * hl b) (by omega)
  have z3 := u64_id (hh a * hl b + hh (hl a * hl b)) (by unfold U64 at uc; exact uc)
  have z4 := u64_id (hl a * hh b) (by omega)
  have z5 := u64_id (hl a * hh b + hl (hh a * hl b + hh (hl a * hl b))) (by unfold U64 at uo; exact uo)
  have z6 := u64_id (hh a * hh b) (by omega)
  have z7 := or_hl (hl a * hh b + hl (hh a * hl b + hh (hl a * hl b))) (hl a * hl b)
  have E := Lib.hid hE
  clear hE k00 k10 k01 k11 m1 m2
  have b4 := Box.alloc w [.int .i64 0, .int .u64 0] 24
  go_enter Try.func36, Try.ntmps36
  go_wp2_with (go_at_call 44; refine (halves_any _ (by assumption) _).mono ?_; rintro e w1 ⟨rfl, h1⟩; have b4 := b4.ext h1)
  have s4' := b4.1
  have b5 := (Box.alloc w1 [.int .u64 (hl a), .int .u64 (hh a)] 61).ext (Ext.alloc _ (.cells #[.int .u64 (hl b), .int .u64 (hh b)] 61))
  have b6 := Box.alloc' (w1.alloc (.cells #[.int .u64 (hl a), .int .u64 (hh a)] 61)) [.int .u64 (hl b), .int .u64 (hh b)] 61 (w1.heap.size + 1) (by simp)
  refine wp_region_rel_tail 11 58 Ext Ext.refl Ext.trans (by kernel_rfl) rfl (by kernel_rfl) ?_
  simp only [List.take_succ_cons, List.take_zero, List.drop_succ_cons, List.drop_zero]
  iterate 10
    first
      | (refine wpRel_skip ?_ ?_
         · (simp [go_sem]; done)
         simp only [Act.put, List.setIfInBounds_toArray, List.set_cons_zero, List.set_cons_succ])
      | (refine wpRel_ex ?_ ?_
         · (simp [go_sem]; done)
         apply Exists.intro
         refine ⟨fun σ w' hR hF => ?_, ?_⟩
         · have hcell := hR.cell
           clear hF
           simp only [fill]
           go_simp
           first
             | (go_at_call 44; refine (halves_any _ (by assumption) _).mono ?_; rintro e w1 ⟨rfl, h1⟩; exact ⟨rfl, h1⟩)
             | exact ⟨Ext.refl _, rfl⟩
         simp only [Act.put, List.setIfInBounds_toArray, List.set_cons_zero, List.set_cons_succ])
  refine wpRel_fact (by (simp [go_sem]; done)) 8 (NewPtr (w1.heap.size + 2) [.int .u64 0, .int .u64 0]) rfl (NewPtr.stable _ _) (fun σ w' hR hF => ?_) ?_
  · have hs := hR.size
    simp at hs
    go_simp
    exact NewPtr.alloc w' [.int .u64 0, .int .u64 0] 61 (by omega)
  intro σ w2 hRw2 hF
  obtain ⟨⟨q, hv, hB, b8⟩, _⟩ := hF
  have hEw2 := Ext.trans _ _ _ (Ext.drew _) hRw2
  simp only [fill, Act.put, List.setIfInBounds_toArray, List.set_cons_zero, List.set_cons_succ, hv]
  have b4 := b4.ext (show Ext w1 w2 by (repeat (first | exact Ext.refl _ | assumption | (refine Ext.setCell' ?_ (by simp <;> omega) _) | refine Ext.alloc' ?_ _ | refine Ext.drew' ?_ | (refine Ext.trans _ _ _ ?_ (by assumption)))))
  have b5 := b5.ext hEw2
  have b6 := b6.ext hEw2
  obtain ⟨s8, c80, c81, f8⟩ := b8.two
  obtain ⟨s5, c50, c51, _⟩ := b5.two
  obtain ⟨s6, c60, c61, _⟩ := b6.two
  have n5 : ¬ w1.heap.size = q := by omega
  have n5' : ¬ q = w1.heap.size := by omega
  have n6 : ¬ w1.heap.size + 1 = q := by omega
  have n6' : ¬ q = w1.heap.size + 1 := by omega
  have n4 : q ≠ w.heap.size := by omega
  go_wp2_with fail
  have b4 := (b4.far (p := ⟨q, 0, none⟩) n4 (.int .u64 (hl (hh a * hl b + hh (hl a * hl b))))).far (p := ⟨q, 1, none⟩) n4 (.int .u64 (hh (hh a * hl b + hh (hl a * hl b))))
  have b5 := (b5.far (p := ⟨q, 0, none⟩) n5' (.int .u64 (hl (hh a * hl b + hh (hl a * hl b))))).far (p := ⟨q, 1, none⟩) n5' (.int .u64 (hh (hh a * hl b + hh (hl a * hl b))))
  have b6 := (b6.far (p := ⟨q, 0, none⟩) n6' (.int .u64 (hl (hh a * hl b + hh (hl a * hl b))))).far (p := ⟨q, 1, none⟩) n6' (.int .u64 (hh (hh a * hl b + hh (hl a * hl b))))
  have b8 := (b8.set 0 (.int .u64 (hl (hh a * hl b + hh (hl a * hl b))))).set 1 (.int .u64 (hh (hh a * hl b + hh (hl a * hl b))))
  have hx : Ext w1 ((w2.setCell ⟨q, 0, none⟩ (.int .u64 (hl (hh a * hl b + hh (hl a * hl b))))).setCell ⟨q, 1, none⟩ (.int .u64 (hh (hh a * hl b + hh (hl a * hl b))))) := by (repeat (first | exact Ext.refl _ | assumption | (refine Ext.setCell' ?_ (by simp <;> omega) _) | refine Ext.alloc' ?_ _ | refine Ext.drew' ?_ | (refine Ext.trans _ _ _ ?_ (by assumption))))
  generalize (w2.setCell ⟨q, 0, none⟩ (.int .u64 (hl (hh a * hl b + hh (hl a * hl b))))).setCell ⟨q, 1, none⟩ (.int .u64 (hh (hh a * hl b + hh (hl a * hl b)))) = w3 at *
  clear hEw2 hRw2 c80 c81 f8 c50 c51 c60 c61 s8 s5 s6
  refine (halves_any _ uo _).mono ?_
  rintro e w4 ⟨rfl, h4⟩
  have b4 := b4.ext h4
  have b5 := b5.ext h4
  have b6 := b6.ext h4
  have b8 := b8.ext h4
  have hx := Ext.trans _ _ _ hx h4
  simp only [List.set_cons_zero, List.set_cons_succ] at b8
  obtain ⟨s5, c50, c51, _⟩ := b5.two
  obtain ⟨s6, c60, c61, _⟩ := b6.two
  obtain ⟨s8, c80, c81, _⟩ := b8.two
  go_wp2_with fail
  refine wp_region_rel_tail 20 58 Ext Ext.refl Ext.trans (by kernel_rfl) rfl (by kernel_rfl) ?_
  simp only [List.take_succ_cons, List.take_zero, List.drop_succ_cons, List.drop_zero]
  iterate 20
    first
      | (refine wpRel_skip ?_ ?_
         · (simp [go_sem]; done)
         simp only [Act.put, List.setIfInBounds_toArray, List.set_cons_zero, List.set_cons_succ])
      | (refine wpRel_ex ?_ ?_
         · (simp [go_sem]; done)
         apply Exists.intro
         refine ⟨fun σ w' hR hF => ?_, ?_⟩
         · have hcell := hR.cell
           clear hF
           simp only [fill]
           go_simp
           first
             | (go_at_call 44; refine (halves_any _ (by assumption) _).mono ?_; rintro e w1 ⟨rfl, h1⟩; exact ⟨rfl, h1⟩)
             | exact ⟨Ext.refl _, rfl⟩
         simp only [Act.put, List.setIfInBounds_toArray, List.set_cons_zero, List.set_cons_succ])
  intro σ w5 hRw5 _
  have hEw5 := Ext.trans _ _ _ (Ext.drew _) hRw5
  have hcellw5 := hEw5.cell
  have hfreew5 := hEw5.free
  simp only [fill]
  have b4 := b4.ext (show Ext w4 w5 by (repeat (first | exact Ext.refl _ | assumption | (refine Ext.setCell' ?_ (by simp <;> omega) _) | refine Ext.alloc' ?_ _ | refine Ext.drew' ?_ | (refine Ext.trans _ _ _ ?_ (by assumption)))))
  obtain ⟨s4, c40, c41, f4⟩ := b4.two
  go_wp2
  refine bodyPost_ret (v := .agg #[.int .i64 (hi (a * b)), .int .u64 (lo (a * b))]) (by simp [results, Try.results36, go_sem, c40, c41, E.out.1, E.out.2]) rfl ⟨rfl, ?_⟩
  repeat (first | exact Ext.refl _ | assumption | (refine Ext.setCell' ?_ (by simp <;> omega) _) | refine Ext.alloc' ?_ _ | refine Ext.drew' ?_ | (refine Ext.trans _ _ _ ?_ (by assumption)))

set_option maxRecDepth 100000 in
theorem wide_Mul (a b : Int) (ha : I64 a) (hb : I64 b) (w : World) :
    Calls Try.prog 22 #[.int .i64 a, .int .i64 b] w fun e w' => e = .returned (.agg #[.int .i64 (hi (a * b)), .int .u64 (lo (a * b))]) ∧ Ext w w' := by
  have ua : U64 (mag a) := by have := mag_bd a ha; unfold U64; omega
  have ub : U64 (mag b) := by have := mag_bd b hb; unfold U64; omega
  have b4 := Box.alloc w [.int .i64 0, .int .u64 0] 24
  have hsub := fun W => wide_Sub 0 (mag a * mag b) W
  rw [zero_hi, zero_lo, Int.zero_sub] at hsub
  have HS := Lib.hid hsub
  clear hsub
  by_cases hs : (decide (a < 0) != decide (b < 0)) = true
  · have E := Lib.hid (show -(mag a * mag b) = a * b by
      unfold mag
      by_cases h1 : a < 0 <;> by_cases h2 : b < 0 <;> simp [h1, h2, Int.neg_mul, Int.mul_neg] at hs ⊢)
    by_cases h1 : a < 0
    all_goals
      by_cases h2 : b < 0
      all_goals try (exfalso; simp [h1, h2] at hs; done)
      clear hs
      first
        | have d1 : decide (a < 0) = true := by simp [h1]
        | have d1 : decide (a < 0) = false := by simp [h1]
      first
        | have d2 : decide (b < 0) = true := by simp [h2]
        | have d2 : decide (b < 0) = false := by simp [h2]
      go_enter Try.func22, Try.ntmps22
      go_wp2_with (first | (go_at_call 37; refine (size_any _ (by assumption) _).mono ?_; rintro e w1 ⟨rfl, k1⟩; have b4 := b4.ext k1) | (go_at_call 36; refine (wide_product _ _ ua ub _).mono ?_; rintro e w1 ⟨rfl, k1⟩; have b4 := b4.ext k1) | (go_at_call 20; refine (HS.out _).mono ?_; rintro e w3 ⟨rfl, k3⟩; have b4 := b4.ext (show Ext w1 w3 by (repeat (first | exact Ext.refl _ | assumption | (refine Ext.setCell' ?_ (by simp <;> omega) _) | refine Ext.alloc' ?_ _ | refine Ext.drew' ?_ | (refine Ext.trans _ _ _ ?_ (by assumption))))); obtain ⟨s4, c40, c41, f4⟩ := b4.two))
      refine bodyPost_ret (v := .agg #[.int .i64 (hi (a * b)), .int .u64 (lo (a * b))]) (by simp [results, Try.results22, go_sem, c40, c41, s4, E.out]) rfl ⟨rfl, ?_⟩
      repeat (first | exact Ext.refl _ | assumption | (refine Ext.setCell' ?_ (by simp <;> omega) _) | refine Ext.alloc' ?_ _ | refine Ext.drew' ?_ | (refine Ext.trans _ _ _ ?_ (by assumption)))
  · have E := Lib.hid (show mag a * mag b = a * b by
      unfold mag
      by_cases h1 : a < 0 <;> by_cases h2 : b < 0 <;> simp [h1, h2, Int.neg_mul, Int.mul_neg] at hs ⊢)
    by_cases h1 : a < 0
    all_goals
      by_cases h2 : b < 0
      all_goals try (exfalso; simp [h1, h2] at hs; done)
      clear hs
      first
        | have d1 : decide (a < 0) = true := by simp [h1]
        | have d1 : decide (a < 0) = false := by simp [h1]
      first
        | have d2 : decide (b < 0) = true := by simp [h2]
        | have d2 : decide (b < 0) = false := by simp [h2]
      go_enter Try.func22, Try.ntmps22
      go_wp2_with (first | (go_at_call 37; refine (size_any _ (by assumption) _).mono ?_; rintro e w1 ⟨rfl, k1⟩; have b4 := b4.ext k1) | (go_at_call 36; refine (wide_product _ _ ua ub _).mono ?_; rintro e w1 ⟨rfl, k1⟩; have b4 := b4.ext k1; obtain ⟨s4, c40, c41, f4⟩ := b4.two))
      refine bodyPost_ret (v := .agg #[.int .i64 (hi (a * b)), .int .u64 (lo (a * b))]) (by simp [results, Try.results22, go_sem, c40, c41, s4, E.out]) rfl ⟨rfl, ?_⟩
      repeat (first | exact Ext.refl _ | assumption | (refine Ext.setCell' ?_ (by simp <;> omega) _) | refine Ext.alloc' ?_ _ | refine Ext.drew' ?_ | (refine Ext.trans _ _ _ ?_ (by assumption)))

set_option maxRecDepth 100000 in
theorem ref_Mul (a b : Int) (ha : I64 a) (hb : I64 b) (w : World) :
    Calls Try.prog 23 #[.int .i64 a, .int .i64 b] w fun e w' => e = .returned (.agg #[.int .i64 (hi (a * b)), .int .u64 (lo (a * b))]) ∧ Ext w w' := by
  have hm := mag_bd b hb
  have ub : U64 (mag b) := by unfold U64; omega
  have b4 := Box.alloc w [.int .i64 0, .int .u64 0] 24
  have n1 : b < 0 → IntKind.u64.wrap (-IntKind.u64.wrap b) = mag b := fun h => by unfold I64 at hb; simp only [wu]; unfold mag; simp [h]; omega
  have n2 : ¬ b < 0 → b = mag b := fun h => by unfold mag; simp [h]
  have n3 : ¬ b < 0 → a * mag b = a * b := fun h => by rw [← n2 h]
  have n4 : b < 0 → -(a * mag b) = a * b := fun h => by unfold mag; simp [h, Int.mul_neg]
  have N2 := Lib.hid n2
  have N3 := Lib.hid n3
  have N4 := Lib.hid n4
  clear n2 n3 n4
  by_cases h : b < 0
  · have n1 := n1 h
    go_enter Try.func23, Try.ntmps23
    go_wp2_with (go_at_call 15; refine (ref_Of _ ha _).mono ?_; rintro e w1 ⟨rfl, k1⟩; have b4 := b4.ext k1)
    have s4' := b4.1
    go_loopw [7] (fun t wr => ∃ n o y : Int, t = .int .u64 n ∧ 0 ≤ n ∧ n ≤ 9223372036854775808 ∧ o + y * n = a * mag b ∧ Box wr w.heap.size [.int .i64 0, .int .u64 0] ∧ Box wr w1.heap.size [.int .i64 (hi y), .int .u64 (lo y)] ∧ Box wr (w1.heap.size + 1) [.int .i64 (hi o), .int .u64 (lo o)] ∧ Ext w1 wr) (fun t _ => (intOf t).toNat)
    case atStart =>
      refine ⟨mag b, 0, a, rfl, hm.1, hm.2, by simp, (b4.ext (show Ext w1 _ by (repeat (first | exact Ext.refl _ | assumption | (refine Ext.setCell' ?_ (by simp <;> omega) _) | refine Ext.alloc' ?_ _ | refine Ext.drew' ?_ | (refine Ext.trans _ _ _ ?_ (by assumption)))))), (Box.alloc w1 [.int .i64 (hi a), .int .u64 (lo a)] 24).ext (Ext.alloc _ _), ?_, by (repeat (first | exact Ext.refl _ | assumption | (refine Ext.setCell' ?_ (by simp <;> omega) _) | refine Ext.alloc' ?_ _ | refine Ext.drew' ?_ | (refine Ext.trans _ _ _ ?_ (by assumption))))⟩
      rw [zero_hi, zero_lo]
      exact Box.alloc' (w1.alloc (.cells #[.int .i64 (hi a), .int .u64 (lo a)] 24)) [.int .i64 0, .int .u64 0] 24 (w1.heap.size + 1) (by simp)
    case round =>
      obtain ⟨n, o, y, rfl, hn0, hn1, hinv, b4, b5, b8, hx⟩ := hrel
      have HI := Lib.hid hinv
      clear hinv
      by_cases hp : 0 < n
      · by_cases hod : n % 2 = 1
        · have hodb : (n % 2 == 1) = true := by simp [hod]
          have HO := Lib.hid hod
          clear hod
          obtain ⟨s5, c50, c51, f5⟩ := b5.two
          obtain ⟨s8, c80, c81, f8⟩ := b8.two
          go_wp2_with fail
          refine (ref_Add _ _ _).mono ?_
          rintro e w2 ⟨rfl, k2⟩
          have b4 := b4.ext k2
          have b5 := b5.ext k2
          have b8 := b8.ext k2
          clear s5 c50 c51 f5 s8 c80 c81 f8
          obtain ⟨s5, c50, c51, f5⟩ := b5.two
          obtain ⟨s8, c80, c81, f8⟩ := b8.two
          go_wp2_with fail
          have b8 := b8.set2 (.int .i64 (hi (o + y))) (.int .u64 (lo (o + y)))
          have b5 := b5.far2 (w1.heap.size + 1) (by omega) (.int .i64 (hi (o + y))) (.int .u64 (lo (o + y)))
          have b4 := b4.far2 (w1.heap.size + 1) (by omega) (.int .i64 (hi (o + y))) (.int .u64 (lo (o + y)))
          refine (ref_Add _ _ _).mono ?_
          rintro e w3 ⟨rfl, k3⟩
          have b4 := b4.ext k3
          have b5 := b5.ext k3
          have b8 := b8.ext k3
          clear s5 c50 c51 f5 s8 c80 c81 f8
          obtain ⟨s5, c50, c51, f5⟩ := b5.two
          go_wp2
          go_roundw
          case rel =>
            refine ⟨n / 2, o + y, y + y, by go_num, by omega, by omega, ?_, b4.far2 _ (by omega) _ _, b5.set2 _ _, b8.far2 _ (by omega) _ _, by (repeat (first | exact Ext.refl _ | assumption | (refine Ext.setCell' ?_ (by simp <;> omega) _) | refine Ext.alloc' ?_ _ | refine Ext.drew' ?_ | (refine Ext.trans _ _ _ ?_ (by assumption))))⟩
            rw [← HI.out]
            have h2 : n = n / 2 * 2 + 1 := by have := HO.out; omega
            generalize n / 2 = m at *
            subst h2
            rw [Int.mul_add y, Int.add_mul, ← Int.mul_assoc]
            generalize y * m = z
            omega
          case measure => simp [intOf]; omega
        · have hodb : (n % 2 == 1) = false := by simp; omega
          have HO := Lib.hid hod
          clear hod
          obtain ⟨s5, c50, c51, f5⟩ := b5.two
          obtain ⟨s8, c80, c81, f8⟩ := b8.two
          go_wp2_with fail
          refine (ref_Add _ _ _).mono ?_
          rintro e w3 ⟨rfl, k3⟩
          have b4 := b4.ext k3
          have b5 := b5.ext k3
          have b8 := b8.ext k3
          clear s5 c50 c51 f5 s8 c80 c81 f8
          obtain ⟨s5, c50, c51, f5⟩ := b5.two
          go_wp2
          go_roundw
          case rel =>
            refine ⟨n / 2, o, y + y, by go_num, by omega, by omega, ?_, b4.far2 _ (by omega) _ _, b5.set2 _ _, b8.far2 _ (by omega) _ _, by (repeat (first | exact Ext.refl _ | assumption | (refine Ext.setCell' ?_ (by simp <;> omega) _) | refine Ext.alloc' ?_ _ | refine Ext.drew' ?_ | (refine Ext.trans _ _ _ ?_ (by assumption))))⟩
            rw [← HI.out]
            have h2 : n = n / 2 * 2 := by have := HO.out; omega
            generalize n / 2 = m at *
            subst h2
            rw [Int.add_mul, ← Int.mul_assoc]
            generalize y * m = z
            omega
          case measure => simp [intOf]; omega
      · have hn : n = 0 := by omega
        have ho : o = a * mag b := by have := HI.out; rw [hn] at this; simpa using this
        subst ho
        clear hn HI
        obtain ⟨s8, c80, c81, f8⟩ := b8.two
        obtain ⟨s4, c40, c41, f4⟩ := b4.two
        go_wp2_with (go_at_call 35; refine (ref_Minus _ _).mono ?_; rintro e w2 ⟨rfl, k2⟩; have b4 := b4.ext k2; clear s4 c40 c41 f4; obtain ⟨s4, c40, c41, f4⟩ := b4.two)
        refine bodyPost_ret (v := .agg #[.int .i64 (hi (a * b)), .int .u64 (lo (a * b))]) (by simp [results, Try.results23, go_sem, c40, c41, N4.out h]) rfl ⟨rfl, ?_⟩
        repeat (first | exact Ext.refl _ | assumption | (refine Ext.setCell' ?_ (by simp <;> omega) _) | refine Ext.alloc' ?_ _ | refine Ext.drew' ?_ | (refine Ext.trans _ _ _ ?_ (by assumption)))
  · clear n1
    have n2 := N2.out h
    have hub : IntKind.u64.wrap b = mag b := by rw [← n2]; exact u64_id b (by omega)
    clear n2
    go_enter Try.func23, Try.ntmps23
    go_wp2_with (go_at_call 15; refine (ref_Of _ ha _).mono ?_; rintro e w1 ⟨rfl, k1⟩; have b4 := b4.ext k1)
    have s4' := b4.1
    go_loopw [7] (fun t wr => ∃ n o y : Int, t = .int .u64 n ∧ 0 ≤ n ∧ n ≤ 9223372036854775808 ∧ o + y * n = a * mag b ∧ Box wr w.heap.size [.int .i64 0, .int .u64 0] ∧ Box wr w1.heap.size [.int .i64 (hi y), .int .u64 (lo y)] ∧ Box wr (w1.heap.size + 1) [.int .i64 (hi o), .int .u64 (lo o)] ∧ Ext w1 wr) (fun t _ => (intOf t).toNat)
    case atStart =>
      refine ⟨mag b, 0, a, rfl, hm.1, hm.2, by simp, (b4.ext (show Ext w1 _ by (repeat (first | exact Ext.refl _ | assumption | (refine Ext.setCell' ?_ (by simp <;> omega) _) | refine Ext.alloc' ?_ _ | refine Ext.drew' ?_ | (refine Ext.trans _ _ _ ?_ (by assumption)))))), (Box.alloc w1 [.int .i64 (hi a), .int .u64 (lo a)] 24).ext (Ext.alloc _ _), ?_, by (repeat (first | exact Ext.refl _ | assumption | (refine Ext.setCell' ?_ (by simp <;> omega) _) | refine Ext.alloc' ?_ _ | refine Ext.drew' ?_ | (refine Ext.trans _ _ _ ?_ (by assumption))))⟩
      rw [zero_hi, zero_lo]
      exact Box.alloc' (w1.alloc (.cells #[.int .i64 (hi a), .int .u64 (lo a)] 24)) [.int .i64 0, .int .u64 0] 24 (w1.heap.size + 1) (by simp)
    case round =>
      obtain ⟨n, o, y, rfl, hn0, hn1, hinv, b4, b5, b8, hx⟩ := hrel
      have HI := Lib.hid hinv
      clear hinv
      by_cases hp : 0 < n
      · by_cases hod : n % 2 = 1
        · have hodb : (n % 2 == 1) = true := by simp [hod]
          have HO := Lib.hid hod
          clear hod
          obtain ⟨s5, c50, c51, f5⟩ := b5.two
          obtain ⟨s8, c80, c81, f8⟩ := b8.two
          go_wp2_with fail
          refine (ref_Add _ _ _).mono ?_
          rintro e w2 ⟨rfl, k2⟩
          have b4 := b4.ext k2
          have b5 := b5.ext k2
          have b8 := b8.ext k2
          clear s5 c50 c51 f5 s8 c80 c81 f8
          obtain ⟨s5, c50, c51, f5⟩ := b5.two
          obtain ⟨s8, c80, c81, f8⟩ := b8.two
          go_wp2_with fail
          have b8 := b8.set2 (.int .i64 (hi (o + y))) (.int .u64 (lo (o + y)))
          have b5 := b5.far2 (w1.heap.size + 1) (by omega) (.int .i64 (hi (o + y))) (.int .u64 (lo (o + y)))
          have b4 := b4.far2 (w1.heap.size + 1) (by omega) (.int .i64 (hi (o + y))) (.int .u64 (lo (o + y)))
          refine (ref_Add _ _ _).mono ?_
          rintro e w3 ⟨rfl, k3⟩
          have b4 := b4.ext k3
          have b5 := b5.ext k3
          have b8 := b8.ext k3
          clear s5 c50 c51 f5 s8 c80 c81 f8
          obtain ⟨s5, c50, c51, f5⟩ := b5.two
          go_wp2
          go_roundw
          case rel =>
            refine ⟨n / 2, o + y, y + y, by go_num, by omega, by omega, ?_, b4.far2 _ (by omega) _ _, b5.set2 _ _, b8.far2 _ (by omega) _ _, by (repeat (first | exact Ext.refl _ | assumption | (refine Ext.setCell' ?_ (by simp <;> omega) _) | refine Ext.alloc' ?_ _ | refine Ext.drew' ?_ | (refine Ext.trans _ _ _ ?_ (by assumption))))⟩
            rw [← HI.out]
            have h2 : n = n / 2 * 2 + 1 := by have := HO.out; omega
            generalize n / 2 = m at *
            subst h2
            rw [Int.mul_add y, Int.add_mul, ← Int.mul_assoc]
            generalize y * m = z
            omega
          case measure => simp [intOf]; omega
        · have hodb : (n % 2 == 1) = false := by simp; omega
          have HO := Lib.hid hod
          clear hod
          obtain ⟨s5, c50, c51, f5⟩ := b5.two
          obtain ⟨s8, c80, c81, f8⟩ := b8.two
          go_wp2_with fail
          refine (ref_Add _ _ _).mono ?_
          rintro e w3 ⟨rfl, k3⟩
          have b4 := b4.ext k3
          have b5 := b5.ext k3
          have b8 := b8.ext k3
          clear s5 c50 c51 f5 s8 c80 c81 f8
          obtain ⟨s5, c50, c51, f5⟩ := b5.two
          go_wp2
          go_roundw
          case rel =>
            refine ⟨n / 2, o, y + y, by go_num, by omega, by omega, ?_, b4.far2 _ (by omega) _ _, b5.set2 _ _, b8.far2 _ (by omega) _ _, by (repeat (first | exact Ext.refl _ | assumption | (refine Ext.setCell' ?_ (by simp <;> omega) _) | refine Ext.alloc' ?_ _ | refine Ext.drew' ?_ | (refine Ext.trans _ _ _ ?_ (by assumption))))⟩
            rw [← HI.out]
            have h2 : n = n / 2 * 2 := by have := HO.out; omega
            generalize n / 2 = m at *
            subst h2
            rw [Int.add_mul, ← Int.mul_assoc]
            generalize y * m = z
            omega
          case measure => simp [intOf]; omega
      · have hn : n = 0 := by omega
        have ho : o = a * mag b := by have := HI.out; rw [hn] at this; simpa using this
        subst ho
        clear hn HI
        obtain ⟨s8, c80, c81, f8⟩ := b8.two
        obtain ⟨s4, c40, c41, f4⟩ := b4.two
        go_wp2
        refine bodyPost_ret (v := .agg #[.int .i64 (hi (a * b)), .int .u64 (lo (a * b))]) (by simp [results, Try.results23, go_sem, c40, c41, N3.out h]) rfl ⟨rfl, ?_⟩
        repeat (first | exact Ext.refl _ | assumption | (refine Ext.setCell' ?_ (by simp <;> omega) _) | refine Ext.alloc' ?_ _ | refine Ext.drew' ?_ | (refine Ext.trans _ _ _ ?_ (by assumption)))
end Go.Proofs.Ytnalgofemikggaa
