/- Walks over law02's own functions. -/
import Derived.Test.YtnalgofemikggaaDoorRb
import Derived.Outline
namespace Go.Proofs.YtnalgofemikggaaDoor
open Go.RowKit
/-- A factor of the last ring, out of any number. -/
def fac5 (n : Int) : Int := n.tmod 2147483648
theorem fac5_bd (n : Int) : -2147483648 < fac5 n ∧ fac5 n < 2147483648 := by
  unfold fac5
  by_cases h : 0 ≤ n
  · rw [Int.tmod_eq_emod_of_nonneg h]; omega
  · rw [Int.tmod_eq_emod, ]; split <;> omega
theorem fac5_i64 (n : Int) : I64 (fac5 n) := by have := fac5_bd n; unfold I64; omega
theorem law_Factor5 (n : Int) (hn : I64 n) (w : World) :
    Calls Tryd.prog 10 #[.int .i64 5, .int .i64 n] w fun e w' => e = .returned (.int .i64 (fac5 n)) ∧ Ext w w' := by
  have hb := fac5_bd n
  unfold I64 at hn
  obtain ⟨h0, h1⟩ := hn
  by_cases hneg : 0 ≤ n
  · have E := Lib.hid (show n % 2147483648 = fac5 n by unfold fac5; rw [Int.tmod_eq_emod_of_nonneg hneg])
    go_enter Tryd.func10, Tryd.ntmps10
    go_wp2
    go_ret
    exact ⟨by rw [← E.out]; rfl, by (repeat (first | exact Ext.refl _ | assumption | (refine Ext.setCell' ?_ (by simp <;> omega) _) | refine Ext.alloc' ?_ _ | refine Ext.drew' ?_ | (refine Ext.trans _ _ _ ?_ (by assumption))))⟩
  · have E := Lib.hid (show n.tmod 2147483648 = fac5 n from rfl)
    go_enter Tryd.func10, Tryd.ntmps10
    go_wp2
    go_ret
    exact ⟨by rw [← E.out]; rfl, by (repeat (first | exact Ext.refl _ | assumption | (refine Ext.setCell' ?_ (by simp <;> omega) _) | refine Ext.alloc' ?_ _ | refine Ext.drew' ?_ | (refine Ext.trans _ _ _ ?_ (by assumption))))⟩
/-- A slice of numbers that is only read: where its cells are. -/
def Sl (k : IntKind) (w : World) (p : Option Addr) (l : List Int) : Prop :=
  l ≠ [] → ∃ b o, p = some ⟨b, o, none⟩ ∧ b < w.heap.size ∧ ∀ i, i < l.length → w.cell? ⟨b, o + i, none⟩ = some (.int k (l.getD i 0))
theorem Sl.at {k : IntKind} {w : World} {p : Option Addr} {l : List Int} (h : Sl k w p l) (i : Nat) (hi : i < l.length) :
    ∃ b o, p = some ⟨b, o, none⟩ ∧ b < w.heap.size ∧ w.cell? ⟨b, o + i, none⟩ = some (.int k (l.getD i 0)) := by
  obtain ⟨b, o, h1, h2, h3⟩ := h (by rintro rfl; simp at hi)
  exact ⟨b, o, h1, h2, h3 i hi⟩
/-- The sum of the first i products. -/
def psum (a x : List Int) : Nat → Int
  | 0 => 0
  | i + 1 => psum a x i + fac5 (a.getD i 0) * x.getD i 0
theorem psum_step (a x : List Int) (i : Nat) : psum a x (i + 1) = psum a x i + fac5 (a.getD i 0) * x.getD i 0 := rfl
theorem rmul5 (a x : Int) : rmul 5 a x = a * x := by unfold rmul; simp
theorem ring_Mul5' (a x : Int) (ha : I64 a) (hx : I64 x) (w : World) :
    Calls Tryd.prog 9 #[.int .i64 5, .int .i64 a, .int .i64 x] w fun e w' => e = .returned (.agg #[.int .i64 (hi (a * x)), .int .u64 (lo (a * x))]) ∧ Ext w w' := by
  have := ring_Mul5 a x ha hx w
  rwa [rmul5] at this
/-- The law's last test leaves what this says of 'live'. -/
def LiveR (w : World) : Prop := ∀ w', Ext w w' → Calls Tryd.prog 13 #[] w' fun e w'' => e = .returned (.bool true) ∧ Ext w' w''
set_option maxRecDepth 100000 in
set_option maxHeartbeats 1000000 in
theorem ringExact_1 (a x : List Int) (pa px : Option Addr) (ka kx : Nat) (w : World) (ha : a.length ≤ ka) (hka : ka ≤ maxLen) (hx : x.length ≤ kx) (hkx : kx ≤ maxLen)
    (ca : Sl .i64 w pa a) (cx : Sl .i64 w px x)
    (wa : ∀ i, i < a.length → I64 (a.getD i 0)) (wx : ∀ i, i < x.length → I64 (x.getD i 0)) (hL : LiveR w) (hc : ¬ x.length < a.length) (hn : a.length ≤ 500) :
    Calls Tryd.prog 3 #[.slice pa a.length ka, .slice px x.length kx] w fun e w' => e = .returned (.bool true) ∧ Ext w w' := by
  unfold maxLen at hka hkx
  have b5 := Box.alloc w [.int .i64 0, .int .u64 0] 25
  have hsz : w.heap.size < (w.alloc (.cells #[.int .i64 0, .int .u64 0] 25)).heap.size := by simp
  go_enter Tryd.func3, Tryd.ntmps3
  go_wp2
  go_loopw [7] (fun t wr => ∃ j : Nat, t = .int .i64 j ∧ j ≤ a.length ∧ Box wr w.heap.size [.int .i64 (hi (psum a x j)), .int .u64 (lo (psum a x j))] ∧ Ext w wr) (fun t _ => a.length - (intOf t).toNat)
  case atStart => exact ⟨0, rfl, by omega, by simpa [psum, zero_hi, zero_lo] using b5, by (repeat (first | exact Ext.refl _ | assumption | (refine Ext.setCell' ?_ (by simp <;> omega) _) | refine Ext.alloc' ?_ _ | refine Ext.drew' ?_ | (refine Ext.trans _ _ _ ?_ (by assumption))))⟩
  case round =>
    obtain ⟨j, rfl, hj, b5, hx⟩ := hrel
    obtain ⟨s5, c50, c51, f5⟩ := b5.two
    by_cases hlt : j < a.length
    · obtain ⟨ba, oa, rfl, sa, ca'⟩ := ca.at j (by omega)
      obtain ⟨bx, ox, rfl, sx, cx'⟩ := cx.at j (by omega)
      have ca'' := (hx.cell ba (oa + j) sa).trans ca'
      have cx'' := (hx.cell bx (ox + j) sx).trans cx'
      have sa' : ba < wr.heap.size := Nat.lt_of_lt_of_le sa hx.size
      have sx' : bx < wr.heap.size := Nat.lt_of_lt_of_le sx hx.size
      have wa' := wa j (by omega)
      have wx' := wx j (by omega)
      have E := psum_step a x j
      have HE := Lib.hid E
      have hlta : j < a.length := by omega
      have hltx : j < x.length := by omega
      clear E ca' cx' ca cx wa wx
      generalize a.getD j 0 = av at *
      generalize x.getD j 0 = xv at *
      have wf := fac5_i64 av
      go_wp2
      refine wp_region_rel_tail 12 56 Ext Ext.refl Ext.trans (by kernel_rfl) rfl (by kernel_rfl) ?_
      simp only [List.take_succ_cons, List.take_zero, List.drop_succ_cons, List.drop_zero]
      iterate 12
        first
          | (refine wpRel_skip ?_ ?_
             · (simp [go_sem]; done)
             simp only [Act.put, List.setIfInBounds_toArray, List.set_cons_zero, List.set_cons_succ])
          | (refine wpRel_ex ?_ ?_
             · (simp [go_sem]; done)
             apply Exists.intro
             refine ⟨fun σ w' hR hF => ?_, ?_⟩
             · have hcell := (Ext.trans _ _ _ (Ext.drew _) hR).cell
               clear hF
               simp only [fill]
               go_simp
               first
                 | (go_at_call 10; refine (law_Factor5 _ wa' _).mono ?_; rintro e w1 ⟨rfl, h1⟩; exact ⟨rfl, h1⟩)
                 | (go_at_call 9; refine (ring_Mul5' _ _ wf wx' _).mono ?_; rintro e w1 ⟨rfl, h1⟩; exact ⟨rfl, h1⟩)
                 | (go_at_call 8; refine (ring_Add5 _ _ _).mono ?_; rintro e w1 ⟨rfl, h1⟩; exact ⟨rfl, h1⟩)
                 | exact ⟨Ext.refl _, rfl⟩
             simp only [Act.put, List.setIfInBounds_toArray, List.set_cons_zero, List.set_cons_succ])
      intro σ w2 hRw2 _
      have hEw2 := Ext.trans _ _ _ (Ext.drew _) hRw2
      have hcellw2 := hEw2.cell
      have hfreew2 := hEw2.free
      simp only [fill]
      have b5 := b5.ext hEw2
      obtain ⟨s5, c50, c51, f5⟩ := b5.two
      go_wp2
      go_roundw
      case rel =>
        refine ⟨j + 1, by go_num, by omega, ?_, by (repeat (first | exact Ext.refl _ | assumption | (refine Ext.setCell' ?_ (by simp <;> omega) _) | refine Ext.alloc' ?_ _ | refine Ext.drew' ?_ | (refine Ext.trans _ _ _ ?_ (by assumption))))⟩
        rw [HE.out]
        exact b5.set2 _ _
      case measure => simp [intOf]; omega
    · have hjn : j = a.length := by omega
      subst hjn
      go_wp2
      go_loopw [8] (fun t wr => ∃ j : Nat, t = .int .i64 j ∧ j ≤ a.length ∧ Box wr w.heap.size [.int .i64 (hi (psum a x (a.length) - psum a x j)), .int .u64 (lo (psum a x (a.length) - psum a x j))] ∧ Ext w wr) (fun t _ => a.length - (intOf t).toNat)
      case atStart => exact ⟨0, rfl, by omega, by simpa [psum] using b5, by (repeat (first | exact Ext.refl _ | assumption | (refine Ext.setCell' ?_ (by simp <;> omega) _) | refine Ext.alloc' ?_ _ | refine Ext.drew' ?_ | (refine Ext.trans _ _ _ ?_ (by assumption))))⟩
      case round =>
        clear s5 c50 c51 f5 b5
        rename_i wr0 _ _ _
        clear hx
        obtain ⟨j, rfl, hj, b5, hx⟩ := hrel
        obtain ⟨s5, c50, c51, f5⟩ := b5.two
        by_cases hlt : j < a.length
        · obtain ⟨ba, oa, rfl, sa, ca'⟩ := ca.at j (by omega)
          obtain ⟨bx, ox, rfl, sx, cx'⟩ := cx.at j (by omega)
          have ca'' := (hx.cell ba (oa + j) sa).trans ca'
          have cx'' := (hx.cell bx (ox + j) sx).trans cx'
          have sa' : ba < wr.heap.size := Nat.lt_of_lt_of_le sa hx.size
          have sx' : bx < wr.heap.size := Nat.lt_of_lt_of_le sx hx.size
          have wa' := wa j (by omega)
          have wx' := wx j (by omega)
          have E : psum a x (a.length) - psum a x (j + 1) = psum a x (a.length) - psum a x j - fac5 (a.getD j 0) * x.getD j 0 := by rw [psum_step a x j]; omega
          have HE := Lib.hid E
          have hlta : j < a.length := by omega
          have hltx : j < x.length := by omega
          clear E ca' cx' ca cx wa wx
          generalize a.getD j 0 = av at *
          generalize x.getD j 0 = xv at *
          have wf := fac5_i64 av
          go_wp2
          refine wp_region_rel_tail 12 56 Ext Ext.refl Ext.trans (by kernel_rfl) rfl (by kernel_rfl) ?_
          simp only [List.take_succ_cons, List.take_zero, List.drop_succ_cons, List.drop_zero]
          iterate 12
            first
              | (refine wpRel_skip ?_ ?_
                 · (simp [go_sem]; done)
                 simp only [Act.put, List.setIfInBounds_toArray, List.set_cons_zero, List.set_cons_succ])
              | (refine wpRel_ex ?_ ?_
                 · (simp [go_sem]; done)
                 apply Exists.intro
                 refine ⟨fun σ w' hR hF => ?_, ?_⟩
                 · have hcell := (Ext.trans _ _ _ (Ext.drew _) hR).cell
                   clear hF
                   simp only [fill]
                   go_simp
                   first
                     | (go_at_call 10; refine (law_Factor5 _ wa' _).mono ?_; rintro e w1 ⟨rfl, h1⟩; exact ⟨rfl, h1⟩)
                     | (go_at_call 12; refine (ref_Mul _ _ wf wx' _).mono ?_; rintro e w1 ⟨rfl, h1⟩; exact ⟨rfl, h1⟩)
                     | (go_at_call 11; refine (ref_Sub _ _ _).mono ?_; rintro e w1 ⟨rfl, h1⟩; exact ⟨rfl, h1⟩)
                     | exact ⟨Ext.refl _, rfl⟩
                 simp only [Act.put, List.setIfInBounds_toArray, List.set_cons_zero, List.set_cons_succ])
          intro σ w2 hRw2 _
          have hEw2 := Ext.trans _ _ _ (Ext.drew _) hRw2
          have hcellw2 := hEw2.cell
          have hfreew2 := hEw2.free
          simp only [fill]
          have b5 := b5.ext hEw2
          obtain ⟨s5, c50, c51, f5⟩ := b5.two
          go_wp2
          go_roundw
          case rel =>
            refine ⟨j + 1, by go_num, by omega, ?_, by (repeat (first | exact Ext.refl _ | assumption | (refine Ext.setCell' ?_ (by simp <;> omega) _) | refine Ext.alloc' ?_ _ | refine Ext.drew' ?_ | (refine Ext.trans _ _ _ ?_ (by assumption))))⟩
            rw [HE.out]
            exact b5.set2 _ _
          case measure => simp [intOf]; omega
        · have hjn : j = a.length := by omega
          subst hjn
          have z1 : hi (psum a x (a.length) - psum a x (a.length)) = 0 := by rw [Int.sub_self]; exact zero_hi
          have z2 : lo (psum a x (a.length) - psum a x (a.length)) = 0 := by rw [Int.sub_self]; exact zero_lo
          rw [z1] at c50
          rw [z2] at c51
          go_wp2_with (go_at_call 13; refine (hL _ (by (repeat (first | exact Ext.refl _ | assumption | (refine Ext.setCell' ?_ (by simp <;> omega) _) | refine Ext.alloc' ?_ _ | refine Ext.drew' ?_ | (refine Ext.trans _ _ _ ?_ (by assumption)))))).mono ?_; rintro e w2 ⟨rfl, k2⟩; have b5 := b5.ext k2; obtain ⟨s5, c50, c51, f5⟩ := b5.two; rw [z1] at c50; rw [z2] at c51)
          go_ret
          exact ⟨rfl, by (repeat (first | exact Ext.refl _ | assumption | (refine Ext.setCell' ?_ (by simp <;> omega) _) | refine Ext.alloc' ?_ _ | refine Ext.drew' ?_ | (refine Ext.trans _ _ _ ?_ (by assumption))))⟩
set_option maxRecDepth 100000 in
set_option maxHeartbeats 1000000 in
theorem ringExact_2 (a x : List Int) (pa px : Option Addr) (ka kx : Nat) (w : World) (ha : a.length ≤ ka) (hka : ka ≤ maxLen) (hx : x.length ≤ kx) (hkx : kx ≤ maxLen)
    (ca : Sl .i64 w pa a) (cx : Sl .i64 w px x)
    (wa : ∀ i, i < a.length → I64 (a.getD i 0)) (wx : ∀ i, i < x.length → I64 (x.getD i 0)) (hL : LiveR w) (hc : x.length < a.length) (hn : x.length ≤ 500) :
    Calls Tryd.prog 3 #[.slice pa a.length ka, .slice px x.length kx] w fun e w' => e = .returned (.bool true) ∧ Ext w w' := by
  unfold maxLen at hka hkx
  have b5 := Box.alloc w [.int .i64 0, .int .u64 0] 25
  have hsz : w.heap.size < (w.alloc (.cells #[.int .i64 0, .int .u64 0] 25)).heap.size := by simp
  go_enter Tryd.func3, Tryd.ntmps3
  go_wp2
  go_loopw [7] (fun t wr => ∃ j : Nat, t = .int .i64 j ∧ j ≤ x.length ∧ Box wr w.heap.size [.int .i64 (hi (psum a x j)), .int .u64 (lo (psum a x j))] ∧ Ext w wr) (fun t _ => x.length - (intOf t).toNat)
  case atStart => exact ⟨0, rfl, by omega, by simpa [psum, zero_hi, zero_lo] using b5, by (repeat (first | exact Ext.refl _ | assumption | (refine Ext.setCell' ?_ (by simp <;> omega) _) | refine Ext.alloc' ?_ _ | refine Ext.drew' ?_ | (refine Ext.trans _ _ _ ?_ (by assumption))))⟩
  case round =>
    obtain ⟨j, rfl, hj, b5, hx⟩ := hrel
    obtain ⟨s5, c50, c51, f5⟩ := b5.two
    by_cases hlt : j < x.length
    · obtain ⟨ba, oa, rfl, sa, ca'⟩ := ca.at j (by omega)
      obtain ⟨bx, ox, rfl, sx, cx'⟩ := cx.at j (by omega)
      have ca'' := (hx.cell ba (oa + j) sa).trans ca'
      have cx'' := (hx.cell bx (ox + j) sx).trans cx'
      have sa' : ba < wr.heap.size := Nat.lt_of_lt_of_le sa hx.size
      have sx' : bx < wr.heap.size := Nat.lt_of_lt_of_le sx hx.size
      have wa' := wa j (by omega)
      have wx' := wx j (by omega)
      have E := psum_step a x j
      have HE := Lib.hid E
      have hlta : j < a.length := by omega
      have hltx : j < x.length := by omega
      clear E ca' cx' ca cx wa wx
      generalize a.getD j 0 = av at *
      generalize x.getD j 0 = xv at *
      have wf := fac5_i64 av
      go_wp2
      refine wp_region_rel_tail 12 56 Ext Ext.refl Ext.trans (by kernel_rfl) rfl (by kernel_rfl) ?_
      simp only [List.take_succ_cons, List.take_zero, List.drop_succ_cons, List.drop_zero]
      iterate 12
        first
          | (refine wpRel_skip ?_ ?_
             · (simp [go_sem]; done)
             simp only [Act.put, List.setIfInBounds_toArray, List.set_cons_zero, List.set_cons_succ])
          | (refine wpRel_ex ?_ ?_
             · (simp [go_sem]; done)
             apply Exists.intro
             refine ⟨fun σ w' hR hF => ?_, ?_⟩
             · have hcell := (Ext.trans _ _ _ (Ext.drew _) hR).cell
               clear hF
               simp only [fill]
               go_simp
               first
                 | (go_at_call 10; refine (law_Factor5 _ wa' _).mono ?_; rintro e w1 ⟨rfl, h1⟩; exact ⟨rfl, h1⟩)
                 | (go_at_call 9; refine (ring_Mul5' _ _ wf wx' _).mono ?_; rintro e w1 ⟨rfl, h1⟩; exact ⟨rfl, h1⟩)
                 | (go_at_call 8; refine (ring_Add5 _ _ _).mono ?_; rintro e w1 ⟨rfl, h1⟩; exact ⟨rfl, h1⟩)
                 | exact ⟨Ext.refl _, rfl⟩
             simp only [Act.put, List.setIfInBounds_toArray, List.set_cons_zero, List.set_cons_succ])
      intro σ w2 hRw2 _
      have hEw2 := Ext.trans _ _ _ (Ext.drew _) hRw2
      have hcellw2 := hEw2.cell
      have hfreew2 := hEw2.free
      simp only [fill]
      have b5 := b5.ext hEw2
      obtain ⟨s5, c50, c51, f5⟩ := b5.two
      go_wp2
      go_roundw
      case rel =>
        refine ⟨j + 1, by go_num, by omega, ?_, by (repeat (first | exact Ext.refl _ | assumption | (refine Ext.setCell' ?_ (by simp <;> omega) _) | refine Ext.alloc' ?_ _ | refine Ext.drew' ?_ | (refine Ext.trans _ _ _ ?_ (by assumption))))⟩
        rw [HE.out]
        exact b5.set2 _ _
      case measure => simp [intOf]; omega
    · have hjn : j = x.length := by omega
      subst hjn
      go_wp2
      go_loopw [8] (fun t wr => ∃ j : Nat, t = .int .i64 j ∧ j ≤ x.length ∧ Box wr w.heap.size [.int .i64 (hi (psum a x (x.length) - psum a x j)), .int .u64 (lo (psum a x (x.length) - psum a x j))] ∧ Ext w wr) (fun t _ => x.length - (intOf t).toNat)
      case atStart => exact ⟨0, rfl, by omega, by simpa [psum] using b5, by (repeat (first | exact Ext.refl _ | assumption | (refine Ext.setCell' ?_ (by simp <;> omega) _) | refine Ext.alloc' ?_ _ | refine Ext.drew' ?_ | (refine Ext.trans _ _ _ ?_ (by assumption))))⟩
      case round =>
        clear s5 c50 c51 f5 b5
        rename_i wr0 _ _ _
        clear hx
        obtain ⟨j, rfl, hj, b5, hx⟩ := hrel
        obtain ⟨s5, c50, c51, f5⟩ := b5.two
        by_cases hlt : j < x.length
        · obtain ⟨ba, oa, rfl, sa, ca'⟩ := ca.at j (by omega)
          obtain ⟨bx, ox, rfl, sx, cx'⟩ := cx.at j (by omega)
          have ca'' := (hx.cell ba (oa + j) sa).trans ca'
          have cx'' := (hx.cell bx (ox + j) sx).trans cx'
          have sa' : ba < wr.heap.size := Nat.lt_of_lt_of_le sa hx.size
          have sx' : bx < wr.heap.size := Nat.lt_of_lt_of_le sx hx.size
          have wa' := wa j (by omega)
          have wx' := wx j (by omega)
          have E : psum a x (x.length) - psum a x (j + 1) = psum a x (x.length) - psum a x j - fac5 (a.getD j 0) * x.getD j 0 := by rw [psum_step a x j]; omega
          have HE := Lib.hid E
          have hlta : j < a.length := by omega
          have hltx : j < x.length := by omega
          clear E ca' cx' ca cx wa wx
          generalize a.getD j 0 = av at *
          generalize x.getD j 0 = xv at *
          have wf := fac5_i64 av
          go_wp2
          refine wp_region_rel_tail 12 56 Ext Ext.refl Ext.trans (by kernel_rfl) rfl (by kernel_rfl) ?_
          simp only [List.take_succ_cons, List.take_zero, List.drop_succ_cons, List.drop_zero]
          iterate 12
            first
              | (refine wpRel_skip ?_ ?_
                 · (simp [go_sem]; done)
                 simp only [Act.put, List.setIfInBounds_toArray, List.set_cons_zero, List.set_cons_succ])
              | (refine wpRel_ex ?_ ?_
                 · (simp [go_sem]; done)
                 apply Exists.intro
                 refine ⟨fun σ w' hR hF => ?_, ?_⟩
                 · have hcell := (Ext.trans _ _ _ (Ext.drew _) hR).cell
                   clear hF
                   simp only [fill]
                   go_simp
                   first
                     | (go_at_call 10; refine (law_Factor5 _ wa' _).mono ?_; rintro e w1 ⟨rfl, h1⟩; exact ⟨rfl, h1⟩)
                     | (go_at_call 12; refine (ref_Mul _ _ wf wx' _).mono ?_; rintro e w1 ⟨rfl, h1⟩; exact ⟨rfl, h1⟩)
                     | (go_at_call 11; refine (ref_Sub _ _ _).mono ?_; rintro e w1 ⟨rfl, h1⟩; exact ⟨rfl, h1⟩)
                     | exact ⟨Ext.refl _, rfl⟩
                 simp only [Act.put, List.setIfInBounds_toArray, List.set_cons_zero, List.set_cons_succ])
          intro σ w2 hRw2 _
          have hEw2 := Ext.trans _ _ _ (Ext.drew _) hRw2
          have hcellw2 := hEw2.cell
          have hfreew2 := hEw2.free
          simp only [fill]
          have b5 := b5.ext hEw2
          obtain ⟨s5, c50, c51, f5⟩ := b5.two
          go_wp2
          go_roundw
          case rel =>
            refine ⟨j + 1, by go_num, by omega, ?_, by (repeat (first | exact Ext.refl _ | assumption | (refine Ext.setCell' ?_ (by simp <;> omega) _) | refine Ext.alloc' ?_ _ | refine Ext.drew' ?_ | (refine Ext.trans _ _ _ ?_ (by assumption))))⟩
            rw [HE.out]
            exact b5.set2 _ _
          case measure => simp [intOf]; omega
        · have hjn : j = x.length := by omega
          subst hjn
          have z1 : hi (psum a x (x.length) - psum a x (x.length)) = 0 := by rw [Int.sub_self]; exact zero_hi
          have z2 : lo (psum a x (x.length) - psum a x (x.length)) = 0 := by rw [Int.sub_self]; exact zero_lo
          rw [z1] at c50
          rw [z2] at c51
          go_wp2_with (go_at_call 13; refine (hL _ (by (repeat (first | exact Ext.refl _ | assumption | (refine Ext.setCell' ?_ (by simp <;> omega) _) | refine Ext.alloc' ?_ _ | refine Ext.drew' ?_ | (refine Ext.trans _ _ _ ?_ (by assumption)))))).mono ?_; rintro e w2 ⟨rfl, k2⟩; have b5 := b5.ext k2; obtain ⟨s5, c50, c51, f5⟩ := b5.two; rw [z1] at c50; rw [z2] at c51)
          go_ret
          exact ⟨rfl, by (repeat (first | exact Ext.refl _ | assumption | (refine Ext.setCell' ?_ (by simp <;> omega) _) | refine Ext.alloc' ?_ _ | refine Ext.drew' ?_ | (refine Ext.trans _ _ _ ?_ (by assumption))))⟩
set_option maxRecDepth 100000 in
set_option maxHeartbeats 1000000 in
theorem ringExact_3 (a x : List Int) (pa px : Option Addr) (ka kx : Nat) (w : World) (ha : a.length ≤ ka) (hka : ka ≤ maxLen) (hx : x.length ≤ kx) (hkx : kx ≤ maxLen)
    (ca : Sl .i64 w pa a) (cx : Sl .i64 w px x)
    (wa : ∀ i, i < a.length → I64 (a.getD i 0)) (wx : ∀ i, i < x.length → I64 (x.getD i 0)) (hL : LiveR w) (hc : ¬ x.length < a.length) (hn : 500 < a.length) :
    Calls Tryd.prog 3 #[.slice pa a.length ka, .slice px x.length kx] w fun e w' => e = .returned (.bool true) ∧ Ext w w' := by
  unfold maxLen at hka hkx
  have b5 := Box.alloc w [.int .i64 0, .int .u64 0] 25
  have hsz : w.heap.size < (w.alloc (.cells #[.int .i64 0, .int .u64 0] 25)).heap.size := by simp
  go_enter Tryd.func3, Tryd.ntmps3
  go_wp2
  go_loopw [7] (fun t wr => ∃ j : Nat, t = .int .i64 j ∧ j ≤ 500 ∧ Box wr w.heap.size [.int .i64 (hi (psum a x j)), .int .u64 (lo (psum a x j))] ∧ Ext w wr) (fun t _ => 500 - (intOf t).toNat)
  case atStart => exact ⟨0, rfl, by omega, by simpa [psum, zero_hi, zero_lo] using b5, by (repeat (first | exact Ext.refl _ | assumption | (refine Ext.setCell' ?_ (by simp <;> omega) _) | refine Ext.alloc' ?_ _ | refine Ext.drew' ?_ | (refine Ext.trans _ _ _ ?_ (by assumption))))⟩
  case round =>
    obtain ⟨j, rfl, hj, b5, hx⟩ := hrel
    obtain ⟨s5, c50, c51, f5⟩ := b5.two
    by_cases hlt : j < 500
    · obtain ⟨ba, oa, rfl, sa, ca'⟩ := ca.at j (by omega)
      obtain ⟨bx, ox, rfl, sx, cx'⟩ := cx.at j (by omega)
      have ca'' := (hx.cell ba (oa + j) sa).trans ca'
      have cx'' := (hx.cell bx (ox + j) sx).trans cx'
      have sa' : ba < wr.heap.size := Nat.lt_of_lt_of_le sa hx.size
      have sx' : bx < wr.heap.size := Nat.lt_of_lt_of_le sx hx.size
      have wa' := wa j (by omega)
      have wx' := wx j (by omega)
      have E := psum_step a x j
      have HE := Lib.hid E
      have hlta : j < a.length := by omega
      have hltx : j < x.length := by omega
      clear E ca' cx' ca cx wa wx
      generalize a.getD j 0 = av at *
      generalize x.getD j 0 = xv at *
      have wf := fac5_i64 av
      go_wp2
      refine wp_region_rel_tail 12 56 Ext Ext.refl Ext.trans (by kernel_rfl) rfl (by kernel_rfl) ?_
      simp only [List.take_succ_cons, List.take_zero, List.drop_succ_cons, List.drop_zero]
      iterate 12
        first
          | (refine wpRel_skip ?_ ?_
             · (simp [go_sem]; done)
             simp only [Act.put, List.setIfInBounds_toArray, List.set_cons_zero, List.set_cons_succ])
          | (refine wpRel_ex ?_ ?_
             · (simp [go_sem]; done)
             apply Exists.intro
             refine ⟨fun σ w' hR hF => ?_, ?_⟩
             · have hcell := (Ext.trans _ _ _ (Ext.drew _) hR).cell
               clear hF
               simp only [fill]
               go_simp
               first
                 | (go_at_call 10; refine (law_Factor5 _ wa' _).mono ?_; rintro e w1 ⟨rfl, h1⟩; exact ⟨rfl, h1⟩)
                 | (go_at_call 9; refine (ring_Mul5' _ _ wf wx' _).mono ?_; rintro e w1 ⟨rfl, h1⟩; exact ⟨rfl, h1⟩)
                 | (go_at_call 8; refine (ring_Add5 _ _ _).mono ?_; rintro e w1 ⟨rfl, h1⟩; exact ⟨rfl, h1⟩)
                 | exact ⟨Ext.refl _, rfl⟩
             simp only [Act.put, List.setIfInBounds_toArray, List.set_cons_zero, List.set_cons_succ])
      intro σ w2 hRw2 _
      have hEw2 := Ext.trans _ _ _ (Ext.drew _) hRw2
      have hcellw2 := hEw2.cell
      have hfreew2 := hEw2.free
      simp only [fill]
      have b5 := b5.ext hEw2
      obtain ⟨s5, c50, c51, f5⟩ := b5.two
      go_wp2
      go_roundw
      case rel =>
        refine ⟨j + 1, by go_num, by omega, ?_, by (repeat (first | exact Ext.refl _ | assumption | (refine Ext.setCell' ?_ (by simp <;> omega) _) | refine Ext.alloc' ?_ _ | refine Ext.drew' ?_ | (refine Ext.trans _ _ _ ?_ (by assumption))))⟩
        rw [HE.out]
        exact b5.set2 _ _
      case measure => simp [intOf]; omega
    · have hjn : j = 500 := by omega
      subst hjn
      go_wp2
      go_loopw [8] (fun t wr => ∃ j : Nat, t = .int .i64 j ∧ j ≤ 500 ∧ Box wr w.heap.size [.int .i64 (hi (psum a x (500) - psum a x j)), .int .u64 (lo (psum a x (500) - psum a x j))] ∧ Ext w wr) (fun t _ => 500 - (intOf t).toNat)
      case atStart => exact ⟨0, rfl, by omega, by simpa [psum] using b5, by (repeat (first | exact Ext.refl _ | assumption | (refine Ext.setCell' ?_ (by simp <;> omega) _) | refine Ext.alloc' ?_ _ | refine Ext.drew' ?_ | (refine Ext.trans _ _ _ ?_ (by assumption))))⟩
      case round =>
        clear s5 c50 c51 f5 b5
        rename_i wr0 _ _ _
        clear hx
        obtain ⟨j, rfl, hj, b5, hx⟩ := hrel
        obtain ⟨s5, c50, c51, f5⟩ := b5.two
        by_cases hlt : j < 500
        · obtain ⟨ba, oa, rfl, sa, ca'⟩ := ca.at j (by omega)
          obtain ⟨bx, ox, rfl, sx, cx'⟩ := cx.at j (by omega)
          have ca'' := (hx.cell ba (oa + j) sa).trans ca'
          have cx'' := (hx.cell bx (ox + j) sx).trans cx'
          have sa' : ba < wr.heap.size := Nat.lt_of_lt_of_le sa hx.size
          have sx' : bx < wr.heap.size := Nat.lt_of_lt_of_le sx hx.size
          have wa' := wa j (by omega)
          have wx' := wx j (by omega)
          have E : psum a x (500) - psum a x (j + 1) = psum a x (500) - psum a x j - fac5 (a.getD j 0) * x.getD j 0 := by rw [psum_step a x j]; omega
          have HE := Lib.hid E
          have hlta : j < a.length := by omega
          have hltx : j < x.length := by omega
          clear E ca' cx' ca cx wa wx
          generalize a.getD j 0 = av at *
          generalize x.getD j 0 = xv at *
          have wf := fac5_i64 av
          go_wp2
          refine wp_region_rel_tail 12 56 Ext Ext.refl Ext.trans (by kernel_rfl) rfl (by kernel_rfl) ?_
          simp only [List.take_succ_cons, List.take_zero, List.drop_succ_cons, List.drop_zero]
          iterate 12
            first
              | (refine wpRel_skip ?_ ?_
                 · (simp [go_sem]; done)
                 simp only [Act.put, List.setIfInBounds_toArray, List.set_cons_zero, List.set_cons_succ])
              | (refine wpRel_ex ?_ ?_
                 · (simp [go_sem]; done)
                 apply Exists.intro
                 refine ⟨fun σ w' hR hF => ?_, ?_⟩
                 · have hcell := (Ext.trans _ _ _ (Ext.drew _) hR).cell
                   clear hF
                   simp only [fill]
                   go_simp
                   first
                     | (go_at_call 10; refine (law_Factor5 _ wa' _).mono ?_; rintro e w1 ⟨rfl, h1⟩; exact ⟨rfl, h1⟩)
                     | (go_at_call 12; refine (ref_Mul _ _ wf wx' _).mono ?_; rintro e w1 ⟨rfl, h1⟩; exact ⟨rfl, h1⟩)
                     | (go_at_call 11; refine (ref_Sub _ _ _).mono ?_; rintro e w1 ⟨rfl, h1⟩; exact ⟨rfl, h1⟩)
                     | exact ⟨Ext.refl _, rfl⟩
                 simp only [Act.put, List.setIfInBounds_toArray, List.set_cons_zero, List.set_cons_succ])
          intro σ w2 hRw2 _
          have hEw2 := Ext.trans _ _ _ (Ext.drew _) hRw2
          have hcellw2 := hEw2.cell
          have hfreew2 := hEw2.free
          simp only [fill]
          have b5 := b5.ext hEw2
          obtain ⟨s5, c50, c51, f5⟩ := b5.two
          go_wp2
          go_roundw
          case rel =>
            refine ⟨j + 1, by go_num, by omega, ?_, by (repeat (first | exact Ext.refl _ | assumption | (refine Ext.setCell' ?_ (by simp <;> omega) _) | refine Ext.alloc' ?_ _ | refine Ext.drew' ?_ | (refine Ext.trans _ _ _ ?_ (by assumption))))⟩
            rw [HE.out]
            exact b5.set2 _ _
          case measure => simp [intOf]; omega
        · have hjn : j = 500 := by omega
          subst hjn
          have z1 : hi (psum a x (500) - psum a x (500)) = 0 := by rw [Int.sub_self]; exact zero_hi
          have z2 : lo (psum a x (500) - psum a x (500)) = 0 := by rw [Int.sub_self]; exact zero_lo
          rw [z1] at c50
          rw [z2] at c51
          go_wp2_with (go_at_call 13; refine (hL _ (by (repeat (first | exact Ext.refl _ | assumption | (refine Ext.setCell' ?_ (by simp <;> omega) _) | refine Ext.alloc' ?_ _ | refine Ext.drew' ?_ | (refine Ext.trans _ _ _ ?_ (by assumption)))))).mono ?_; rintro e w2 ⟨rfl, k2⟩; have b5 := b5.ext k2; obtain ⟨s5, c50, c51, f5⟩ := b5.two; rw [z1] at c50; rw [z2] at c51)
          go_ret
          exact ⟨rfl, by (repeat (first | exact Ext.refl _ | assumption | (refine Ext.setCell' ?_ (by simp <;> omega) _) | refine Ext.alloc' ?_ _ | refine Ext.drew' ?_ | (refine Ext.trans _ _ _ ?_ (by assumption))))⟩
set_option maxRecDepth 100000 in
set_option maxHeartbeats 1000000 in
theorem ringExact_4 (a x : List Int) (pa px : Option Addr) (ka kx : Nat) (w : World) (ha : a.length ≤ ka) (hka : ka ≤ maxLen) (hx : x.length ≤ kx) (hkx : kx ≤ maxLen)
    (ca : Sl .i64 w pa a) (cx : Sl .i64 w px x)
    (wa : ∀ i, i < a.length → I64 (a.getD i 0)) (wx : ∀ i, i < x.length → I64 (x.getD i 0)) (hL : LiveR w) (hc : x.length < a.length) (hn : 500 < x.length) :
    Calls Tryd.prog 3 #[.slice pa a.length ka, .slice px x.length kx] w fun e w' => e = .returned (.bool true) ∧ Ext w w' := by
  unfold maxLen at hka hkx
  have b5 := Box.alloc w [.int .i64 0, .int .u64 0] 25
  have hsz : w.heap.size < (w.alloc (.cells #[.int .i64 0, .int .u64 0] 25)).heap.size := by simp
  go_enter Tryd.func3, Tryd.ntmps3
  go_wp2
  go_loopw [7] (fun t wr => ∃ j : Nat, t = .int .i64 j ∧ j ≤ 500 ∧ Box wr w.heap.size [.int .i64 (hi (psum a x j)), .int .u64 (lo (psum a x j))] ∧ Ext w wr) (fun t _ => 500 - (intOf t).toNat)
  case atStart => exact ⟨0, rfl, by omega, by simpa [psum, zero_hi, zero_lo] using b5, by (repeat (first | exact Ext.refl _ | assumption | (refine Ext.setCell' ?_ (by simp <;> omega) _) | refine Ext.alloc' ?_ _ | refine Ext.drew' ?_ | (refine Ext.trans _ _ _ ?_ (by assumption))))⟩
  case round =>
    obtain ⟨j, rfl, hj, b5, hx⟩ := hrel
    obtain ⟨s5, c50, c51, f5⟩ := b5.two
    by_cases hlt : j < 500
    · obtain ⟨ba, oa, rfl, sa, ca'⟩ := ca.at j (by omega)
      obtain ⟨bx, ox, rfl, sx, cx'⟩ := cx.at j (by omega)
      have ca'' := (hx.cell ba (oa + j) sa).trans ca'
      have cx'' := (hx.cell bx (ox + j) sx).trans cx'
      have sa' : ba < wr.heap.size := Nat.lt_of_lt_of_le sa hx.size
      have sx' : bx < wr.heap.size := Nat.lt_of_lt_of_le sx hx.size
      have wa' := wa j (by omega)
      have wx' := wx j (by omega)
      have E := psum_step a x j
      have HE := Lib.hid E
      have hlta : j < a.length := by omega
      have hltx : j < x.length := by omega
      clear E ca' cx' ca cx wa wx
      generalize a.getD j 0 = av at *
      generalize x.getD j 0 = xv at *
      have wf := fac5_i64 av
      go_wp2
      refine wp_region_rel_tail 12 56 Ext Ext.refl Ext.trans (by kernel_rfl) rfl (by kernel_rfl) ?_
      simp only [List.take_succ_cons, List.take_zero, List.drop_succ_cons, List.drop_zero]
      iterate 12
        first
          | (refine wpRel_skip ?_ ?_
             · (simp [go_sem]; done)
             simp only [Act.put, List.setIfInBounds_toArray, List.set_cons_zero, List.set_cons_succ])
          | (refine wpRel_ex ?_ ?_
             · (simp [go_sem]; done)
             apply Exists.intro
             refine ⟨fun σ w' hR hF => ?_, ?_⟩
             · have hcell := (Ext.trans _ _ _ (Ext.drew _) hR).cell
               clear hF
               simp only [fill]
               go_simp
               first
                 | (go_at_call 10; refine (law_Factor5 _ wa' _).mono ?_; rintro e w1 ⟨rfl, h1⟩; exact ⟨rfl, h1⟩)
                 | (go_at_call 9; refine (ring_Mul5' _ _ wf wx' _).mono ?_; rintro e w1 ⟨rfl, h1⟩; exact ⟨rfl, h1⟩)
                 | (go_at_call 8; refine (ring_Add5 _ _ _).mono ?_; rintro e w1 ⟨rfl, h1⟩; exact ⟨rfl, h1⟩)
                 | exact ⟨Ext.refl _, rfl⟩
             simp only [Act.put, List.setIfInBounds_toArray, List.set_cons_zero, List.set_cons_succ])
      intro σ w2 hRw2 _
      have hEw2 := Ext.trans _ _ _ (Ext.drew _) hRw2
      have hcellw2 := hEw2.cell
      have hfreew2 := hEw2.free
      simp only [fill]
      have b5 := b5.ext hEw2
      obtain ⟨s5, c50, c51, f5⟩ := b5.two
      go_wp2
      go_roundw
      case rel =>
        refine ⟨j + 1, by go_num, by omega, ?_, by (repeat (first | exact Ext.refl _ | assumption | (refine Ext.setCell' ?_ (by simp <;> omega) _) | refine Ext.alloc' ?_ _ | refine Ext.drew' ?_ | (refine Ext.trans _ _ _ ?_ (by assumption))))⟩
        rw [HE.out]
        exact b5.set2 _ _
      case measure => simp [intOf]; omega
    · have hjn : j = 500 := by omega
      subst hjn
      go_wp2
      go_loopw [8] (fun t wr => ∃ j : Nat, t = .int .i64 j ∧ j ≤ 500 ∧ Box wr w.heap.size [.int .i64 (hi (psum a x (500) - psum a x j)), .int .u64 (lo (psum a x (500) - psum a x j))] ∧ Ext w wr) (fun t _ => 500 - (intOf t).toNat)
      case atStart => exact ⟨0, rfl, by omega, by simpa [psum] using b5, by (repeat (first | exact Ext.refl _ | assumption | (refine Ext.setCell' ?_ (by simp <;> omega) _) | refine Ext.alloc' ?_ _ | refine Ext.drew' ?_ | (refine Ext.trans _ _ _ ?_ (by assumption))))⟩
      case round =>
        clear s5 c50 c51 f5 b5
        rename_i wr0 _ _ _
        clear hx
        obtain ⟨j, rfl, hj, b5, hx⟩ := hrel
        obtain ⟨s5, c50, c51, f5⟩ := b5.two
        by_cases hlt : j < 500
        · obtain ⟨ba, oa, rfl, sa, ca'⟩ := ca.at j (by omega)
          obtain ⟨bx, ox, rfl, sx, cx'⟩ := cx.at j (by omega)
          have ca'' := (hx.cell ba (oa + j) sa).trans ca'
          have cx'' := (hx.cell bx (ox + j) sx).trans cx'
          have sa' : ba < wr.heap.size := Nat.lt_of_lt_of_le sa hx.size
          have sx' : bx < wr.heap.size := Nat.lt_of_lt_of_le sx hx.size
          have wa' := wa j (by omega)
          have wx' := wx j (by omega)
          have E : psum a x (500) - psum a x (j + 1) = psum a x (500) - psum a x j - fac5 (a.getD j 0) * x.getD j 0 := by rw [psum_step a x j]; omega
          have HE := Lib.hid E
          have hlta : j < a.length := by omega
          have hltx : j < x.length := by omega
          clear E ca' cx' ca cx wa wx
          generalize a.getD j 0 = av at *
          generalize x.getD j 0 = xv at *
          have wf := fac5_i64 av
          go_wp2
          refine wp_region_rel_tail 12 56 Ext Ext.refl Ext.trans (by kernel_rfl) rfl (by kernel_rfl) ?_
          simp only [List.take_succ_cons, List.take_zero, List.drop_succ_cons, List.drop_zero]
          iterate 12
            first
              | (refine wpRel_skip ?_ ?_
                 · (simp [go_sem]; done)
                 simp only [Act.put, List.setIfInBounds_toArray, List.set_cons_zero, List.set_cons_succ])
              | (refine wpRel_ex ?_ ?_
                 · (simp [go_sem]; done)
                 apply Exists.intro
                 refine ⟨fun σ w' hR hF => ?_, ?_⟩
                 · have hcell := (Ext.trans _ _ _ (Ext.drew _) hR).cell
                   clear hF
                   simp only [fill]
                   go_simp
                   first
                     | (go_at_call 10; refine (law_Factor5 _ wa' _).mono ?_; rintro e w1 ⟨rfl, h1⟩; exact ⟨rfl, h1⟩)
                     | (go_at_call 12; refine (ref_Mul _ _ wf wx' _).mono ?_; rintro e w1 ⟨rfl, h1⟩; exact ⟨rfl, h1⟩)
                     | (go_at_call 11; refine (ref_Sub _ _ _).mono ?_; rintro e w1 ⟨rfl, h1⟩; exact ⟨rfl, h1⟩)
                     | exact ⟨Ext.refl _, rfl⟩
                 simp only [Act.put, List.setIfInBounds_toArray, List.set_cons_zero, List.set_cons_succ])
          intro σ w2 hRw2 _
          have hEw2 := Ext.trans _ _ _ (Ext.drew _) hRw2
          have hcellw2 := hEw2.cell
          have hfreew2 := hEw2.free
          simp only [fill]
          have b5 := b5.ext hEw2
          obtain ⟨s5, c50, c51, f5⟩ := b5.two
          go_wp2
          go_roundw
          case rel =>
            refine ⟨j + 1, by go_num, by omega, ?_, by (repeat (first | exact Ext.refl _ | assumption | (refine Ext.setCell' ?_ (by simp <;> omega) _) | refine Ext.alloc' ?_ _ | refine Ext.drew' ?_ | (refine Ext.trans _ _ _ ?_ (by assumption))))⟩
            rw [HE.out]
            exact b5.set2 _ _
          case measure => simp [intOf]; omega
        · have hjn : j = 500 := by omega
          subst hjn
          have z1 : hi (psum a x (500) - psum a x (500)) = 0 := by rw [Int.sub_self]; exact zero_hi
          have z2 : lo (psum a x (500) - psum a x (500)) = 0 := by rw [Int.sub_self]; exact zero_lo
          rw [z1] at c50
          rw [z2] at c51
          go_wp2_with (go_at_call 13; refine (hL _ (by (repeat (first | exact Ext.refl _ | assumption | (refine Ext.setCell' ?_ (by simp <;> omega) _) | refine Ext.alloc' ?_ _ | refine Ext.drew' ?_ | (refine Ext.trans _ _ _ ?_ (by assumption)))))).mono ?_; rintro e w2 ⟨rfl, k2⟩; have b5 := b5.ext k2; obtain ⟨s5, c50, c51, f5⟩ := b5.two; rw [z1] at c50; rw [z2] at c51)
          go_ret
          exact ⟨rfl, by (repeat (first | exact Ext.refl _ | assumption | (refine Ext.setCell' ?_ (by simp <;> omega) _) | refine Ext.alloc' ?_ _ | refine Ext.drew' ?_ | (refine Ext.trans _ _ _ ?_ (by assumption))))⟩
end Go.Proofs.YtnalgofemikggaaDoor
