/- Names of rings, and back. -/
import Derived.Test.YtnalgofemikggaaDoorRe
import Derived.Outline
namespace Go.Proofs.YtnalgofemikggaaDoor
open Go.RowKit
def pf (s : ByteArray) : Nat → Int
  | 0 => if (nm1.toList == s.toList) = true then 1 else if (nm2.toList == s.toList) = true then 2 else if (nm3.toList == s.toList) = true then 3 else if (nm4.toList == s.toList) = true then 4 else if (nm5.toList == s.toList) = true then 5 else 0
  | 1 => if (nm1.toList == s.toList) = true then 1 else if (nm2.toList == s.toList) = true then 2 else if (nm3.toList == s.toList) = true then 3 else if (nm4.toList == s.toList) = true then 4 else if (nm5.toList == s.toList) = true then 5 else 0
  | 2 => if (nm2.toList == s.toList) = true then 2 else if (nm3.toList == s.toList) = true then 3 else if (nm4.toList == s.toList) = true then 4 else if (nm5.toList == s.toList) = true then 5 else 0
  | 3 => if (nm3.toList == s.toList) = true then 3 else if (nm4.toList == s.toList) = true then 4 else if (nm5.toList == s.toList) = true then 5 else 0
  | 4 => if (nm4.toList == s.toList) = true then 4 else if (nm5.toList == s.toList) = true then 5 else 0
  | 5 => if (nm5.toList == s.toList) = true then 5 else 0
  | _ => 0
def parseV (s : ByteArray) : Int := pf s 1
theorem pf_yes0 (s : ByteArray) (h : (nm0.toList == s.toList) = true) : pf s 0 = 0 := by
  have e : nm0.toList = s.toList := eq_of_beq h
  unfold pf
  rw [← e]
  decide +kernel
theorem pf_yes1 (s : ByteArray) (h : (nm1.toList == s.toList) = true) : pf s 1 = 1 := if_pos h
theorem pf_no1 (s : ByteArray) (h : (nm1.toList == s.toList) = false) : pf s 1 = pf s 2 := if_neg (by simp [h])
theorem pf_yes2 (s : ByteArray) (h : (nm2.toList == s.toList) = true) : pf s 2 = 2 := if_pos h
theorem pf_no2 (s : ByteArray) (h : (nm2.toList == s.toList) = false) : pf s 2 = pf s 3 := if_neg (by simp [h])
theorem pf_yes3 (s : ByteArray) (h : (nm3.toList == s.toList) = true) : pf s 3 = 3 := if_pos h
theorem pf_no3 (s : ByteArray) (h : (nm3.toList == s.toList) = false) : pf s 3 = pf s 4 := if_neg (by simp [h])
theorem pf_yes4 (s : ByteArray) (h : (nm4.toList == s.toList) = true) : pf s 4 = 4 := if_pos h
theorem pf_no4 (s : ByteArray) (h : (nm4.toList == s.toList) = false) : pf s 4 = pf s 5 := if_neg (by simp [h])
theorem pf_yes5 (s : ByteArray) (h : (nm5.toList == s.toList) = true) : pf s 5 = 5 := if_pos h
theorem pf_no5 (s : ByteArray) (h : (nm5.toList == s.toList) = false) : pf s 5 = pf s 6 := if_neg (by simp [h])
set_option maxRecDepth 100000 in
theorem ring_Parse (s : ByteArray) (w : World) (hN : NamesAt w) :
    Calls Tryd.prog 30 #[.string s] w fun e w' => e = .returned (.int .i64 (parseV s)) ∧ Ext w w' := by
  have i0 : ∀ w : World, (Instr.index 54 (.agg #[.string nm0, .string nm1, .string nm2, .string nm3, .string nm4, .string nm5]) (.int .i64 0)).run Tryd.prog w = .ok (.string nm0) w := fun _ => by kernel_rfl
  have i1 : ∀ w : World, (Instr.index 54 (.agg #[.string nm0, .string nm1, .string nm2, .string nm3, .string nm4, .string nm5]) (.int .i64 1)).run Tryd.prog w = .ok (.string nm1) w := fun _ => by kernel_rfl
  have i2 : ∀ w : World, (Instr.index 54 (.agg #[.string nm0, .string nm1, .string nm2, .string nm3, .string nm4, .string nm5]) (.int .i64 2)).run Tryd.prog w = .ok (.string nm2) w := fun _ => by kernel_rfl
  have i3 : ∀ w : World, (Instr.index 54 (.agg #[.string nm0, .string nm1, .string nm2, .string nm3, .string nm4, .string nm5]) (.int .i64 3)).run Tryd.prog w = .ok (.string nm3) w := fun _ => by kernel_rfl
  have i4 : ∀ w : World, (Instr.index 54 (.agg #[.string nm0, .string nm1, .string nm2, .string nm3, .string nm4, .string nm5]) (.int .i64 4)).run Tryd.prog w = .ok (.string nm4) w := fun _ => by kernel_rfl
  have i5 : ∀ w : World, (Instr.index 54 (.agg #[.string nm0, .string nm1, .string nm2, .string nm3, .string nm4, .string nm5]) (.int .i64 5)).run Tryd.prog w = .ok (.string nm5) w := fun _ => by kernel_rfl
  obtain ⟨s0, n0, n1, n2, n3, n4, n5⟩ := hN
  go_enter Tryd.func30, Tryd.ntmps30
  go_wp2
  go_loopw [6] (fun t wr => ∃ j : Nat, t = .int .i64 j ∧ 0 ≤ j ∧ j ≤ 6 ∧ pf s j = parseV s ∧ Ext w wr) (fun t _ => 6 - (intOf t).toNat)
  case atStart => exact ⟨0, rfl, by omega, by omega, rfl, by (repeat (first | exact Ext.refl _ | assumption | (refine Ext.setCell' ?_ (by simp <;> omega) _) | refine Ext.alloc' ?_ _ | refine Ext.drew' ?_ | (refine Ext.trans _ _ _ ?_ (by assumption))))⟩
  case round =>
    obtain ⟨j, rfl, hl, hj, hp, hx⟩ := hrel
    have hj6 : j = 0 ∨ j = 1 ∨ j = 2 ∨ j = 3 ∨ j = 4 ∨ j = 5 ∨ j = 6 := by omega
    rcases hj6 with rfl | rfl | rfl | rfl | rfl | rfl | rfl
    · cases h : (nm0.toList == s.toList) with
      | true =>
        have E := Lib.hid (show parseV s = 0 by rw [← hp]; exact pf_yes0 s h)
        clear hp
        go_wp2
        go_ret
        exact ⟨by rw [E.out]; rfl, by (repeat (first | exact Ext.refl _ | assumption | (refine Ext.setCell' ?_ (by simp <;> omega) _) | refine Ext.alloc' ?_ _ | refine Ext.drew' ?_ | (refine Ext.trans _ _ _ ?_ (by assumption))))⟩
      | false =>
        have E : pf s (0 + 1) = parseV s := by rw [← hp]; rfl
        clear hp
        go_wp2
        go_roundw
        case rel => exact ⟨0 + 1, by go_num, by omega, by omega, E, by (repeat (first | exact Ext.refl _ | assumption | (refine Ext.setCell' ?_ (by simp <;> omega) _) | refine Ext.alloc' ?_ _ | refine Ext.drew' ?_ | (refine Ext.trans _ _ _ ?_ (by assumption))))⟩
        case measure => simp [intOf]
    · cases h : (nm1.toList == s.toList) with
      | true =>
        have E := Lib.hid (show parseV s = 1 by rw [← hp]; exact pf_yes1 s h)
        clear hp
        go_wp2
        go_ret
        exact ⟨by rw [E.out]; rfl, by (repeat (first | exact Ext.refl _ | assumption | (refine Ext.setCell' ?_ (by simp <;> omega) _) | refine Ext.alloc' ?_ _ | refine Ext.drew' ?_ | (refine Ext.trans _ _ _ ?_ (by assumption))))⟩
      | false =>
        have E : pf s (1 + 1) = parseV s := by rw [← hp]; exact (pf_no1 s h).symm
        clear hp
        go_wp2
        go_roundw
        case rel => exact ⟨1 + 1, by go_num, by omega, by omega, E, by (repeat (first | exact Ext.refl _ | assumption | (refine Ext.setCell' ?_ (by simp <;> omega) _) | refine Ext.alloc' ?_ _ | refine Ext.drew' ?_ | (refine Ext.trans _ _ _ ?_ (by assumption))))⟩
        case measure => simp [intOf]
    · cases h : (nm2.toList == s.toList) with
      | true =>
        have E := Lib.hid (show parseV s = 2 by rw [← hp]; exact pf_yes2 s h)
        clear hp
        go_wp2
        go_ret
        exact ⟨by rw [E.out]; rfl, by (repeat (first | exact Ext.refl _ | assumption | (refine Ext.setCell' ?_ (by simp <;> omega) _) | refine Ext.alloc' ?_ _ | refine Ext.drew' ?_ | (refine Ext.trans _ _ _ ?_ (by assumption))))⟩
      | false =>
        have E : pf s (2 + 1) = parseV s := by rw [← hp]; exact (pf_no2 s h).symm
        clear hp
        go_wp2
        go_roundw
        case rel => exact ⟨2 + 1, by go_num, by omega, by omega, E, by (repeat (first | exact Ext.refl _ | assumption | (refine Ext.setCell' ?_ (by simp <;> omega) _) | refine Ext.alloc' ?_ _ | refine Ext.drew' ?_ | (refine Ext.trans _ _ _ ?_ (by assumption))))⟩
        case measure => simp [intOf]
    · cases h : (nm3.toList == s.toList) with
      | true =>
        have E := Lib.hid (show parseV s = 3 by rw [← hp]; exact pf_yes3 s h)
        clear hp
        go_wp2
        go_ret
        exact ⟨by rw [E.out]; rfl, by (repeat (first | exact Ext.refl _ | assumption | (refine Ext.setCell' ?_ (by simp <;> omega) _) | refine Ext.alloc' ?_ _ | refine Ext.drew' ?_ | (refine Ext.trans _ _ _ ?_ (by assumption))))⟩
      | false =>
        have E : pf s (3 + 1) = parseV s := by rw [← hp]; exact (pf_no3 s h).symm
        clear hp
        go_wp2
        go_roundw
        case rel => exact ⟨3 + 1, by go_num, by omega, by omega, E, by (repeat (first | exact Ext.refl _ | assumption | (refine Ext.setCell' ?_ (by simp <;> omega) _) | refine Ext.alloc' ?_ _ | refine Ext.drew' ?_ | (refine Ext.trans _ _ _ ?_ (by assumption))))⟩
        case measure => simp [intOf]
    · cases h : (nm4.toList == s.toList) with
      | true =>
        have E := Lib.hid (show parseV s = 4 by rw [← hp]; exact pf_yes4 s h)
        clear hp
        go_wp2
        go_ret
        exact ⟨by rw [E.out]; rfl, by (repeat (first | exact Ext.refl _ | assumption | (refine Ext.setCell' ?_ (by simp <;> omega) _) | refine Ext.alloc' ?_ _ | refine Ext.drew' ?_ | (refine Ext.trans _ _ _ ?_ (by assumption))))⟩
      | false =>
        have E : pf s (4 + 1) = parseV s := by rw [← hp]; exact (pf_no4 s h).symm
        clear hp
        go_wp2
        go_roundw
        case rel => exact ⟨4 + 1, by go_num, by omega, by omega, E, by (repeat (first | exact Ext.refl _ | assumption | (refine Ext.setCell' ?_ (by simp <;> omega) _) | refine Ext.alloc' ?_ _ | refine Ext.drew' ?_ | (refine Ext.trans _ _ _ ?_ (by assumption))))⟩
        case measure => simp [intOf]
    · cases h : (nm5.toList == s.toList) with
      | true =>
        have E := Lib.hid (show parseV s = 5 by rw [← hp]; exact pf_yes5 s h)
        clear hp
        go_wp2
        go_ret
        exact ⟨by rw [E.out]; rfl, by (repeat (first | exact Ext.refl _ | assumption | (refine Ext.setCell' ?_ (by simp <;> omega) _) | refine Ext.alloc' ?_ _ | refine Ext.drew' ?_ | (refine Ext.trans _ _ _ ?_ (by assumption))))⟩
      | false =>
        have E : pf s (5 + 1) = parseV s := by rw [← hp]; exact (pf_no5 s h).symm
        clear hp
        go_wp2
        go_roundw
        case rel => exact ⟨5 + 1, by go_num, by omega, by omega, E, by (repeat (first | exact Ext.refl _ | assumption | (refine Ext.setCell' ?_ (by simp <;> omega) _) | refine Ext.alloc' ?_ _ | refine Ext.drew' ?_ | (refine Ext.trans _ _ _ ?_ (by assumption))))⟩
        case measure => simp [intOf]
    · have E := Lib.hid (show parseV s = 0 by rw [← hp]; rfl)
      clear hp
      go_wp2
      go_ret
      exact ⟨by rw [E.out]; rfl, by (repeat (first | exact Ext.refl _ | assumption | (refine Ext.setCell' ?_ (by simp <;> omega) _) | refine Ext.alloc' ?_ _ | refine Ext.drew' ?_ | (refine Ext.trans _ _ _ ?_ (by assumption))))⟩
set_option maxRecDepth 100000 in
theorem ref_Parse (s : ByteArray) (w : World) :
    Calls Tryd.prog 31 #[.string s] w fun e w' => e = .returned (.int .i64 (parseV s)) ∧ Ext w w' := by
  have q1 : nameV 1 = nm1 := by decide
  have q2 : nameV 2 = nm2 := by decide
  have q3 : nameV 3 = nm3 := by decide
  have q4 : nameV 4 = nm4 := by decide
  have q5 : nameV 5 = nm5 := by decide
  go_enter Tryd.func31, Tryd.ntmps31
  go_wp2
  go_loopw [3] (fun t wr => ∃ j : Nat, t = .int .i64 j ∧ 1 ≤ j ∧ j ≤ 6 ∧ pf s j = parseV s ∧ Ext w wr) (fun t _ => 6 - (intOf t).toNat)
  case atStart => exact ⟨1, rfl, by omega, by omega, rfl, by (repeat (first | exact Ext.refl _ | assumption | (refine Ext.setCell' ?_ (by simp <;> omega) _) | refine Ext.alloc' ?_ _ | refine Ext.drew' ?_ | (refine Ext.trans _ _ _ ?_ (by assumption))))⟩
  case round =>
    obtain ⟨j, rfl, hl, hj, hp, hx⟩ := hrel
    have hj6 : j = 1 ∨ j = 2 ∨ j = 3 ∨ j = 4 ∨ j = 5 ∨ j = 6 := by omega
    rcases hj6 with rfl | rfl | rfl | rfl | rfl | rfl
    · cases h : (nm1.toList == s.toList) with
      | true =>
        have E := Lib.hid (show parseV s = 1 by rw [← hp]; exact pf_yes1 s h)
        clear hp
        go_wp2_with (go_at_call 29; refine (ref_Name _ _).mono ?_; rintro e w1 ⟨rfl, k1⟩)
        go_ret
        exact ⟨by rw [E.out]; rfl, by (repeat (first | exact Ext.refl _ | assumption | (refine Ext.setCell' ?_ (by simp <;> omega) _) | refine Ext.alloc' ?_ _ | refine Ext.drew' ?_ | (refine Ext.trans _ _ _ ?_ (by assumption))))⟩
      | false =>
        have E : pf s (1 + 1) = parseV s := by rw [← hp]; exact (pf_no1 s h).symm
        clear hp
        go_wp2_with (go_at_call 29; refine (ref_Name _ _).mono ?_; rintro e w1 ⟨rfl, k1⟩)
        go_roundw
        case rel => exact ⟨1 + 1, by go_num, by omega, by omega, E, by (repeat (first | exact Ext.refl _ | assumption | (refine Ext.setCell' ?_ (by simp <;> omega) _) | refine Ext.alloc' ?_ _ | refine Ext.drew' ?_ | (refine Ext.trans _ _ _ ?_ (by assumption))))⟩
        case measure => simp [intOf]
    · cases h : (nm2.toList == s.toList) with
      | true =>
        have E := Lib.hid (show parseV s = 2 by rw [← hp]; exact pf_yes2 s h)
        clear hp
        go_wp2_with (go_at_call 29; refine (ref_Name _ _).mono ?_; rintro e w1 ⟨rfl, k1⟩)
        go_ret
        exact ⟨by rw [E.out]; rfl, by (repeat (first | exact Ext.refl _ | assumption | (refine Ext.setCell' ?_ (by simp <;> omega) _) | refine Ext.alloc' ?_ _ | refine Ext.drew' ?_ | (refine Ext.trans _ _ _ ?_ (by assumption))))⟩
      | false =>
        have E : pf s (2 + 1) = parseV s := by rw [← hp]; exact (pf_no2 s h).symm
        clear hp
        go_wp2_with (go_at_call 29; refine (ref_Name _ _).mono ?_; rintro e w1 ⟨rfl, k1⟩)
        go_roundw
        case rel => exact ⟨2 + 1, by go_num, by omega, by omega, E, by (repeat (first | exact Ext.refl _ | assumption | (refine Ext.setCell' ?_ (by simp <;> omega) _) | refine Ext.alloc' ?_ _ | refine Ext.drew' ?_ | (refine Ext.trans _ _ _ ?_ (by assumption))))⟩
        case measure => simp [intOf]
    · cases h : (nm3.toList == s.toList) with
      | true =>
        have E := Lib.hid (show parseV s = 3 by rw [← hp]; exact pf_yes3 s h)
        clear hp
        go_wp2_with (go_at_call 29; refine (ref_Name _ _).mono ?_; rintro e w1 ⟨rfl, k1⟩)
        go_ret
        exact ⟨by rw [E.out]; rfl, by (repeat (first | exact Ext.refl _ | assumption | (refine Ext.setCell' ?_ (by simp <;> omega) _) | refine Ext.alloc' ?_ _ | refine Ext.drew' ?_ | (refine Ext.trans _ _ _ ?_ (by assumption))))⟩
      | false =>
        have E : pf s (3 + 1) = parseV s := by rw [← hp]; exact (pf_no3 s h).symm
        clear hp
        go_wp2_with (go_at_call 29; refine (ref_Name _ _).mono ?_; rintro e w1 ⟨rfl, k1⟩)
        go_roundw
        case rel => exact ⟨3 + 1, by go_num, by omega, by omega, E, by (repeat (first | exact Ext.refl _ | assumption | (refine Ext.setCell' ?_ (by simp <;> omega) _) | refine Ext.alloc' ?_ _ | refine Ext.drew' ?_ | (refine Ext.trans _ _ _ ?_ (by assumption))))⟩
        case measure => simp [intOf]
    · cases h : (nm4.toList == s.toList) with
      | true =>
        have E := Lib.hid (show parseV s = 4 by rw [← hp]; exact pf_yes4 s h)
        clear hp
        go_wp2_with (go_at_call 29; refine (ref_Name _ _).mono ?_; rintro e w1 ⟨rfl, k1⟩)
        go_ret
        exact ⟨by rw [E.out]; rfl, by (repeat (first | exact Ext.refl _ | assumption | (refine Ext.setCell' ?_ (by simp <;> omega) _) | refine Ext.alloc' ?_ _ | refine Ext.drew' ?_ | (refine Ext.trans _ _ _ ?_ (by assumption))))⟩
      | false =>
        have E : pf s (4 + 1) = parseV s := by rw [← hp]; exact (pf_no4 s h).symm
        clear hp
        go_wp2_with (go_at_call 29; refine (ref_Name _ _).mono ?_; rintro e w1 ⟨rfl, k1⟩)
        go_roundw
        case rel => exact ⟨4 + 1, by go_num, by omega, by omega, E, by (repeat (first | exact Ext.refl _ | assumption | (refine Ext.setCell' ?_ (by simp <;> omega) _) | refine Ext.alloc' ?_ _ | refine Ext.drew' ?_ | (refine Ext.trans _ _ _ ?_ (by assumption))))⟩
        case measure => simp [intOf]
    · cases h : (nm5.toList == s.toList) with
      | true =>
        have E := Lib.hid (show parseV s = 5 by rw [← hp]; exact pf_yes5 s h)
        clear hp
        go_wp2_with (go_at_call 29; refine (ref_Name _ _).mono ?_; rintro e w1 ⟨rfl, k1⟩)
        go_ret
        exact ⟨by rw [E.out]; rfl, by (repeat (first | exact Ext.refl _ | assumption | (refine Ext.setCell' ?_ (by simp <;> omega) _) | refine Ext.alloc' ?_ _ | refine Ext.drew' ?_ | (refine Ext.trans _ _ _ ?_ (by assumption))))⟩
      | false =>
        have E : pf s (5 + 1) = parseV s := by rw [← hp]; exact (pf_no5 s h).symm
        clear hp
        go_wp2_with (go_at_call 29; refine (ref_Name _ _).mono ?_; rintro e w1 ⟨rfl, k1⟩)
        go_roundw
        case rel => exact ⟨5 + 1, by go_num, by omega, by omega, E, by (repeat (first | exact Ext.refl _ | assumption | (refine Ext.setCell' ?_ (by simp <;> omega) _) | refine Ext.alloc' ?_ _ | refine Ext.drew' ?_ | (refine Ext.trans _ _ _ ?_ (by assumption))))⟩
        case measure => simp [intOf]
    · have E := Lib.hid (show parseV s = 0 by rw [← hp]; rfl)
      clear hp
      go_wp2
      go_ret
      exact ⟨by rw [E.out]; rfl, by (repeat (first | exact Ext.refl _ | assumption | (refine Ext.setCell' ?_ (by simp <;> omega) _) | refine Ext.alloc' ?_ _ | refine Ext.drew' ?_ | (refine Ext.trans _ _ _ ?_ (by assumption))))⟩
end Go.Proofs.YtnalgofemikggaaDoor
