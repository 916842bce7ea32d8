/- The rings' names: ring.Name and ring.Parse read a package variable. Rings: names, ones, values and factors; what must be whatever is asked. -/
import Derived.Test.YtnalgofemikggaaDoorW2
import Derived.Outline
import Derived.Below
import Derived.WalkKit
import Derived.WalkSpells
import Derived.WalkLawsBesides
namespace Go.Proofs.YtnalgofemikggaaDoor
section
open Go.RowKit

def Ext (w w' : World) : Prop := Below w.heap.size w w'
theorem Ext.refl (w : World) : Ext w w := Below.refl _ _
theorem Ext.trans (a b c : World) (h : Ext a b) (k : Ext b c) : Ext a c := Below.trans h (Below.mono k h.size)
theorem Ext.setCell' {w w1 : World} (h : Ext w w1) {p : Addr} (hp : w.heap.size ≤ p.block) (v : Value) : Ext w (w1.setCell p v) := Below.setCell h hp v
theorem Ext.alloc' {w w1 : World} (h : Ext w w1) (o : Obj) : Ext w (w1.alloc o) := Below.alloc h h.size o
theorem Ext.drew' {w w1 : World} (h : Ext w w1) : Ext w w1.drew := Below.drew h
theorem Ext.cell {w w' : World} (h : Ext w w') (b o : Nat) (hb : b < w.heap.size) : w'.cell? ⟨b, o, none⟩ = w.cell? ⟨b, o, none⟩ := Below.cell (p := ⟨b, o, none⟩) h hb
theorem ring_cases (r : Int) : r = 1 ∨ r = 2 ∨ r = 3 ∨ r = 4 ∨ r = 5 ∨ ¬ (1 ≤ r ∧ r ≤ 5) := by omega
theorem isR_of (r : Int) (h : 1 ≤ r ∧ r ≤ 5) : isR r = true := by unfold isR; simp; omega
theorem isR_no (r : Int) (h : ¬ (1 ≤ r ∧ r ≤ 5)) : isR r = false := by unfold isR; simp; omega
def nm0 : ByteArray := ⟨#[]⟩
def nm1 : ByteArray := ⟨#[109, 105, 110, 112, 108, 117, 115]⟩
def nm2 : ByteArray := ⟨#[111, 114, 97, 110, 100]⟩
def nm3 : ByteArray := ⟨#[109, 105, 110, 102, 105, 114, 115, 116]⟩
def nm4 : ByteArray := ⟨#[109, 105, 110, 115, 101, 99, 111, 110, 100]⟩
def nm5 : ByteArray := ⟨#[112, 108, 117, 115, 116, 105, 109, 101, 115]⟩
def nameV (r : Int) : ByteArray := if r = 1 then nm1 else if r = 2 then nm2 else if r = 3 then nm3 else if r = 4 then nm4 else if r = 5 then nm5 else nm0
/-- The rings' names stand in their cells. -/
structure NamesAt (w : World) : Prop where
  size : 0 < w.heap.size
  n0 : w.cell? ⟨0, 0, none⟩ = some (.string nm0)
  n1 : w.cell? ⟨0, 1, none⟩ = some (.string nm1)
  n2 : w.cell? ⟨0, 2, none⟩ = some (.string nm2)
  n3 : w.cell? ⟨0, 3, none⟩ = some (.string nm3)
  n4 : w.cell? ⟨0, 4, none⟩ = some (.string nm4)
  n5 : w.cell? ⟨0, 5, none⟩ = some (.string nm5)
theorem NamesAt.ext {w w' : World} (h : NamesAt w) (k : Ext w w') : NamesAt w' :=
  ⟨Nat.lt_of_lt_of_le h.size k.size, (k.cell 0 0 h.size).trans h.n0, (k.cell 0 1 h.size).trans h.n1, (k.cell 0 2 h.size).trans h.n2, (k.cell 0 3 h.size).trans h.n3, (k.cell 0 4 h.size).trans h.n4, (k.cell 0 5 h.size).trans h.n5⟩
theorem held_names {w : World} {A : Nat → Prop} (h : Held w A) : NamesAt w := ⟨h.size, h.cell 0 _ rfl, h.cell 1 _ rfl, h.cell 2 _ rfl, h.cell 3 _ rfl, h.cell 4 _ rfl, h.cell 5 _ rfl⟩
theorem NamesAt.held {w : World} (h : NamesAt w) : Okw w fun _ => False := ⟨fun _ h => h.elim, fun h => h, h.size, fun i v hv => by
  obtain ⟨_, n0, n1, n2, n3, n4, n5⟩ := h
  match i, hv with
  | 0, hv => cases hv; exact n0
  | 1, hv => cases hv; exact n1
  | 2, hv => cases hv; exact n2
  | 3, hv => cases hv; exact n3
  | 4, hv => cases hv; exact n4
  | 5, hv => cases hv; exact n5⟩
theorem ring_Is (r : Int) (w : World) (hN : NamesAt w) : Calls Tryd.prog 20 #[.int .i64 r] w fun e w' => e = .returned (.bool (isR r)) ∧ Ext w w' := by
  refine ((fs_Is r).2 w (fun _ => False) [.int .i64 r] hN.held rfl fun i x v h1 h2 => ?_).mono ?_
  · match i, h1, h2 with
    | 0, h1, h2 => cases h1; cases h2; exact .int _ _ _
  · rintro e w' ⟨v, rfl, hb, hv⟩
    rw [rep_bool hv]
    exact ⟨rfl, hb⟩
set_option maxRecDepth 100000 in
theorem ring_Name (r : Int) (w : World) (hN : NamesAt w) :
    Calls Tryd.prog 28 #[.int .i64 r] w fun e w' => e = .returned (.string (nameV r)) ∧ Ext w w' := by
  rcases ring_cases r with rfl | rfl | rfl | rfl | rfl | hr
  · have hi1 := isR_of 1 (by omega)
    go_enter Tryd.func28, Tryd.ntmps28
    go_wp2_with (go_at_call 20; refine (ring_Is _ _ hN).mono ?_; rintro e w1 ⟨rfl, k1⟩; have hN := hN.ext k1; obtain ⟨s0, n0, n1, n2, n3, n4, n5⟩ := hN)
    go_ret
    exact ⟨by first | rfl | simp [nameV], by (repeat (first | exact Ext.refl _ | assumption | (refine Ext.setCell' ?_ (by simp <;> omega) _) | refine Ext.alloc' ?_ _ | refine Ext.drew' ?_ | (refine Ext.trans _ _ _ ?_ (by assumption))))⟩
  · have hi1 := isR_of 2 (by omega)
    go_enter Tryd.func28, Tryd.ntmps28
    go_wp2_with (go_at_call 20; refine (ring_Is _ _ hN).mono ?_; rintro e w1 ⟨rfl, k1⟩; have hN := hN.ext k1; obtain ⟨s0, n0, n1, n2, n3, n4, n5⟩ := hN)
    go_ret
    exact ⟨by first | rfl | simp [nameV], by (repeat (first | exact Ext.refl _ | assumption | (refine Ext.setCell' ?_ (by simp <;> omega) _) | refine Ext.alloc' ?_ _ | refine Ext.drew' ?_ | (refine Ext.trans _ _ _ ?_ (by assumption))))⟩
  · have hi1 := isR_of 3 (by omega)
    go_enter Tryd.func28, Tryd.ntmps28
    go_wp2_with (go_at_call 20; refine (ring_Is _ _ hN).mono ?_; rintro e w1 ⟨rfl, k1⟩; have hN := hN.ext k1; obtain ⟨s0, n0, n1, n2, n3, n4, n5⟩ := hN)
    go_ret
    exact ⟨by first | rfl | simp [nameV], by (repeat (first | exact Ext.refl _ | assumption | (refine Ext.setCell' ?_ (by simp <;> omega) _) | refine Ext.alloc' ?_ _ | refine Ext.drew' ?_ | (refine Ext.trans _ _ _ ?_ (by assumption))))⟩
  · have hi1 := isR_of 4 (by omega)
    go_enter Tryd.func28, Tryd.ntmps28
    go_wp2_with (go_at_call 20; refine (ring_Is _ _ hN).mono ?_; rintro e w1 ⟨rfl, k1⟩; have hN := hN.ext k1; obtain ⟨s0, n0, n1, n2, n3, n4, n5⟩ := hN)
    go_ret
    exact ⟨by first | rfl | simp [nameV], by (repeat (first | exact Ext.refl _ | assumption | (refine Ext.setCell' ?_ (by simp <;> omega) _) | refine Ext.alloc' ?_ _ | refine Ext.drew' ?_ | (refine Ext.trans _ _ _ ?_ (by assumption))))⟩
  · have hi1 := isR_of 5 (by omega)
    go_enter Tryd.func28, Tryd.ntmps28
    go_wp2_with (go_at_call 20; refine (ring_Is _ _ hN).mono ?_; rintro e w1 ⟨rfl, k1⟩; have hN := hN.ext k1; obtain ⟨s0, n0, n1, n2, n3, n4, n5⟩ := hN)
    go_ret
    exact ⟨by first | rfl | simp [nameV], by (repeat (first | exact Ext.refl _ | assumption | (refine Ext.setCell' ?_ (by simp <;> omega) _) | refine Ext.alloc' ?_ _ | refine Ext.drew' ?_ | (refine Ext.trans _ _ _ ?_ (by assumption))))⟩
  · have hr1 : ¬ (r = 1 ∨ r = 2 ∨ r = 5) ∧ ¬ (r = 2 ∨ r = 5) ∧ ¬ (r = 1 ∨ r = 3 ∨ r = 4) ∧ ¬ r = 1 ∧ ¬ r = 2 ∧ ¬ r = 3 ∧ ¬ r = 4 ∧ ¬ r = 5 := by omega
    have E := Lib.hid (show (.string (nameV r) : Value) = .string nm0 by simp [nameV, hr1])
    have m1 : (r == 1) = false := by simp; omega
    have m2 : (r == 2) = false := by simp; omega
    have m3 : (r == 3) = false := by simp; omega
    have m4 : (r == 4) = false := by simp; omega
    have m5 : (r == 5) = false := by simp; omega
    have hi0 := isR_no r hr
    clear hr hr1
    go_enter Tryd.func28, Tryd.ntmps28
    go_wp2_with (go_at_call 20; refine (ring_Is _ _ hN).mono ?_; rintro e w1 ⟨rfl, k1⟩; have hN := hN.ext k1; obtain ⟨s0, n0, n1, n2, n3, n4, n5⟩ := hN)
    go_ret
    exact ⟨by rw [E.out]; first | done | rfl, by (repeat (first | exact Ext.refl _ | assumption | (refine Ext.setCell' ?_ (by simp <;> omega) _) | refine Ext.alloc' ?_ _ | refine Ext.drew' ?_ | (refine Ext.trans _ _ _ ?_ (by assumption))))⟩
def pf (s : ByteArray) : Nat → Int
  | 0 => if (nm1.toList == s.toList) = true then 1 else if (nm2.toList == s.toList) = true then 2 else if (nm3.toList == s.toList) = true then 3 else if (nm4.toList == s.toList) = true then 4 else if (nm5.toList == s.toList) = true then 5 else 0
  | 1 => if (nm1.toList == s.toList) = true then 1 else if (nm2.toList == s.toList) = true then 2 else if (nm3.toList == s.toList) = true then 3 else if (nm4.toList == s.toList) = true then 4 else if (nm5.toList == s.toList) = true then 5 else 0
  | 2 => if (nm2.toList == s.toList) = true then 2 else if (nm3.toList == s.toList) = true then 3 else if (nm4.toList == s.toList) = true then 4 else if (nm5.toList == s.toList) = true then 5 else 0
  | 3 => if (nm3.toList == s.toList) = true then 3 else if (nm4.toList == s.toList) = true then 4 else if (nm5.toList == s.toList) = true then 5 else 0
  | 4 => if (nm4.toList == s.toList) = true then 4 else if (nm5.toList == s.toList) = true then 5 else 0
  | 5 => if (nm5.toList == s.toList) = true then 5 else 0
  | _ => 0
def parseV (s : ByteArray) : Int := pf s 1
theorem pf_yes0 (s : ByteArray) (h : (nm0.toList == s.toList) = true) : pf s 0 = 0 := by
  have e : nm0.toList = s.toList := eq_of_beq h
  unfold pf
  rw [← e]
  decide +kernel
theorem pf_yes1 (s : ByteArray) (h : (nm1.toList == s.toList) = true) : pf s 1 = 1 := if_pos h
theorem pf_no1 (s : ByteArray) (h : (nm1.toList == s.toList) = false) : pf s 1 = pf s 2 := if_neg (by simp [h])
theorem pf_yes2 (s : ByteArray) (h : (nm2.toList == s.toList) = true) : pf s 2 = 2 := if_pos h
theorem pf_no2 (s : ByteArray) (h : (nm2.toList == s.toList) = false) : pf s 2 = pf s 3 := if_neg (by simp [h])
theorem pf_yes3 (s : ByteArray) (h : (nm3.toList == s.toList) = true) : pf s 3 = 3 := if_pos h
theorem pf_no3 (s : ByteArray) (h : (nm3.toList == s.toList) = false) : pf s 3 = pf s 4 := if_neg (by simp [h])
theorem pf_yes4 (s : ByteArray) (h : (nm4.toList == s.toList) = true) : pf s 4 = 4 := if_pos h
theorem pf_no4 (s : ByteArray) (h : (nm4.toList == s.toList) = false) : pf s 4 = pf s 5 := if_neg (by simp [h])
theorem pf_yes5 (s : ByteArray) (h : (nm5.toList == s.toList) = true) : pf s 5 = 5 := if_pos h
theorem pf_no5 (s : ByteArray) (h : (nm5.toList == s.toList) = false) : pf s 5 = pf s 6 := if_neg (by simp [h])
set_option maxRecDepth 100000 in
theorem ring_Parse (s : ByteArray) (w : World) (hN : NamesAt w) :
    Calls Tryd.prog 30 #[.string s] w fun e w' => e = .returned (.int .i64 (parseV s)) ∧ Ext w w' := by
  have i0 : ∀ w : World, (Instr.index 54 (.agg #[.string nm0, .string nm1, .string nm2, .string nm3, .string nm4, .string nm5]) (.int .i64 0)).run Tryd.prog w = .ok (.string nm0) w := fun _ => by kernel_rfl
  have i1 : ∀ w : World, (Instr.index 54 (.agg #[.string nm0, .string nm1, .string nm2, .string nm3, .string nm4, .string nm5]) (.int .i64 1)).run Tryd.prog w = .ok (.string nm1) w := fun _ => by kernel_rfl
  have i2 : ∀ w : World, (Instr.index 54 (.agg #[.string nm0, .string nm1, .string nm2, .string nm3, .string nm4, .string nm5]) (.int .i64 2)).run Tryd.prog w = .ok (.string nm2) w := fun _ => by kernel_rfl
  have i3 : ∀ w : World, (Instr.index 54 (.agg #[.string nm0, .string nm1, .string nm2, .string nm3, .string nm4, .string nm5]) (.int .i64 3)).run Tryd.prog w = .ok (.string nm3) w := fun _ => by kernel_rfl
  have i4 : ∀ w : World, (Instr.index 54 (.agg #[.string nm0, .string nm1, .string nm2, .string nm3, .string nm4, .string nm5]) (.int .i64 4)).run Tryd.prog w = .ok (.string nm4) w := fun _ => by kernel_rfl
  have i5 : ∀ w : World, (Instr.index 54 (.agg #[.string nm0, .string nm1, .string nm2, .string nm3, .string nm4, .string nm5]) (.int .i64 5)).run Tryd.prog w = .ok (.string nm5) w := fun _ => by kernel_rfl
  obtain ⟨s0, n0, n1, n2, n3, n4, n5⟩ := hN
  go_enter Tryd.func30, Tryd.ntmps30
  go_wp2
  go_loopw [6] (fun t wr => ∃ j : Nat, t = .int .i64 j ∧ 0 ≤ j ∧ j ≤ 6 ∧ pf s j = parseV s ∧ Ext w wr) (fun t _ => 6 - (intOf t).toNat)
  case atStart => exact ⟨0, rfl, by omega, by omega, rfl, by (repeat (first | exact Ext.refl _ | assumption | (refine Ext.setCell' ?_ (by simp <;> omega) _) | refine Ext.alloc' ?_ _ | refine Ext.drew' ?_ | (refine Ext.trans _ _ _ ?_ (by assumption))))⟩
  case round =>
    obtain ⟨j, rfl, hl, hj, hp, hx⟩ := hrel
    have hj6 : j = 0 ∨ j = 1 ∨ j = 2 ∨ j = 3 ∨ j = 4 ∨ j = 5 ∨ j = 6 := by omega
    rcases hj6 with rfl | rfl | rfl | rfl | rfl | rfl | rfl
    · cases h : (nm0.toList == s.toList) with
      | true =>
        have E := Lib.hid (show parseV s = 0 by rw [← hp]; exact pf_yes0 s h)
        clear hp
        go_wp2
        go_ret
        exact ⟨by rw [E.out]; rfl, by (repeat (first | exact Ext.refl _ | assumption | (refine Ext.setCell' ?_ (by simp <;> omega) _) | refine Ext.alloc' ?_ _ | refine Ext.drew' ?_ | (refine Ext.trans _ _ _ ?_ (by assumption))))⟩
      | false =>
        have E : pf s (0 + 1) = parseV s := by rw [← hp]; rfl
        clear hp
        go_wp2
        go_roundw
        case rel => exact ⟨0 + 1, by go_num, by omega, by omega, E, by (repeat (first | exact Ext.refl _ | assumption | (refine Ext.setCell' ?_ (by simp <;> omega) _) | refine Ext.alloc' ?_ _ | refine Ext.drew' ?_ | (refine Ext.trans _ _ _ ?_ (by assumption))))⟩
        case measure => simp [intOf]
    · cases h : (nm1.toList == s.toList) with
      | true =>
        have E := Lib.hid (show parseV s = 1 by rw [← hp]; exact pf_yes1 s h)
        clear hp
        go_wp2
        go_ret
        exact ⟨by rw [E.out]; rfl, by (repeat (first | exact Ext.refl _ | assumption | (refine Ext.setCell' ?_ (by simp <;> omega) _) | refine Ext.alloc' ?_ _ | refine Ext.drew' ?_ | (refine Ext.trans _ _ _ ?_ (by assumption))))⟩
      | false =>
        have E : pf s (1 + 1) = parseV s := by rw [← hp]; exact (pf_no1 s h).symm
        clear hp
        go_wp2
        go_roundw
        case rel => exact ⟨1 + 1, by go_num, by omega, by omega, E, by (repeat (first | exact Ext.refl _ | assumption | (refine Ext.setCell' ?_ (by simp <;> omega) _) | refine Ext.alloc' ?_ _ | refine Ext.drew' ?_ | (refine Ext.trans _ _ _ ?_ (by assumption))))⟩
        case measure => simp [intOf]
    · cases h : (nm2.toList == s.toList) with
      | true =>
        have E := Lib.hid (show parseV s = 2 by rw [← hp]; exact pf_yes2 s h)
        clear hp
        go_wp2
        go_ret
        exact ⟨by rw [E.out]; rfl, by (repeat (first | exact Ext.refl _ | assumption | (refine Ext.setCell' ?_ (by simp <;> omega) _) | refine Ext.alloc' ?_ _ | refine Ext.drew' ?_ | (refine Ext.trans _ _ _ ?_ (by assumption))))⟩
      | false =>
        have E : pf s (2 + 1) = parseV s := by rw [← hp]; exact (pf_no2 s h).symm
        clear hp
        go_wp2
        go_roundw
        case rel => exact ⟨2 + 1, by go_num, by omega, by omega, E, by (repeat (first | exact Ext.refl _ | assumption | (refine Ext.setCell' ?_ (by simp <;> omega) _) | refine Ext.alloc' ?_ _ | refine Ext.drew' ?_ | (refine Ext.trans _ _ _ ?_ (by assumption))))⟩
        case measure => simp [intOf]
    · cases h : (nm3.toList == s.toList) with
      | true =>
        have E := Lib.hid (show parseV s = 3 by rw [← hp]; exact pf_yes3 s h)
        clear hp
        go_wp2
        go_ret
        exact ⟨by rw [E.out]; rfl, by (repeat (first | exact Ext.refl _ | assumption | (refine Ext.setCell' ?_ (by simp <;> omega) _) | refine Ext.alloc' ?_ _ | refine Ext.drew' ?_ | (refine Ext.trans _ _ _ ?_ (by assumption))))⟩
      | false =>
        have E : pf s (3 + 1) = parseV s := by rw [← hp]; exact (pf_no3 s h).symm
        clear hp
        go_wp2
        go_roundw
        case rel => exact ⟨3 + 1, by go_num, by omega, by omega, E, by (repeat (first | exact Ext.refl _ | assumption | (refine Ext.setCell' ?_ (by simp <;> omega) _) | refine Ext.alloc' ?_ _ | refine Ext.drew' ?_ | (refine Ext.trans _ _ _ ?_ (by assumption))))⟩
        case measure => simp [intOf]
    · cases h : (nm4.toList == s.toList) with
      | true =>
        have E := Lib.hid (show parseV s = 4 by rw [← hp]; exact pf_yes4 s h)
        clear hp
        go_wp2
        go_ret
        exact ⟨by rw [E.out]; rfl, by (repeat (first | exact Ext.refl _ | assumption | (refine Ext.setCell' ?_ (by simp <;> omega) _) | refine Ext.alloc' ?_ _ | refine Ext.drew' ?_ | (refine Ext.trans _ _ _ ?_ (by assumption))))⟩
      | false =>
        have E : pf s (4 + 1) = parseV s := by rw [← hp]; exact (pf_no4 s h).symm
        clear hp
        go_wp2
        go_roundw
        case rel => exact ⟨4 + 1, by go_num, by omega, by omega, E, by (repeat (first | exact Ext.refl _ | assumption | (refine Ext.setCell' ?_ (by simp <;> omega) _) | refine Ext.alloc' ?_ _ | refine Ext.drew' ?_ | (refine Ext.trans _ _ _ ?_ (by assumption))))⟩
        case measure => simp [intOf]
    · cases h : (nm5.toList == s.toList) with
      | true =>
        have E := Lib.hid (show parseV s = 5 by rw [← hp]; exact pf_yes5 s h)
        clear hp
        go_wp2
        go_ret
        exact ⟨by rw [E.out]; rfl, by (repeat (first | exact Ext.refl _ | assumption | (refine Ext.setCell' ?_ (by simp <;> omega) _) | refine Ext.alloc' ?_ _ | refine Ext.drew' ?_ | (refine Ext.trans _ _ _ ?_ (by assumption))))⟩
      | false =>
        have E : pf s (5 + 1) = parseV s := by rw [← hp]; exact (pf_no5 s h).symm
        clear hp
        go_wp2
        go_roundw
        case rel => exact ⟨5 + 1, by go_num, by omega, by omega, E, by (repeat (first | exact Ext.refl _ | assumption | (refine Ext.setCell' ?_ (by simp <;> omega) _) | refine Ext.alloc' ?_ _ | refine Ext.drew' ?_ | (refine Ext.trans _ _ _ ?_ (by assumption))))⟩
        case measure => simp [intOf]
    · have E := Lib.hid (show parseV s = 0 by rw [← hp]; rfl)
      clear hp
      go_wp2
      go_ret
      exact ⟨by rw [E.out]; rfl, by (repeat (first | exact Ext.refl _ | assumption | (refine Ext.setCell' ?_ (by simp <;> omega) _) | refine Ext.alloc' ?_ _ | refine Ext.drew' ?_ | (refine Ext.trans _ _ _ ?_ (by assumption))))⟩
theorem fs_mk {P : Program} {f : FuncId} {args : List SV} {res : SV} (h1 : ∀ vs w, (callFunc f vs).run P w = .ok (.enter f vs) w) (h2 : ∀ (w : World) (A : Nat → Prop) (vs : List Value), Okw w A → vs.length = args.length → (∀ (i : Nat) (x : SV) (v : Value), args[i]? = some x → vs[i]? = some v → Rep w A [] x v) →
    Calls P f vs.toArray w fun e w' => ∃ v, e = .returned v ∧ Below w.heap.size w w' ∧ Rep w' A [] res v) : FS P f args res := ⟨h1, h2⟩
end
section
open Go.RowKit
attribute [local irreducible] FS FO IT HS

theorem bAnd_low (n : Int) (k : Nat) (hk : k ≤ 62) : bAnd .i64 n (2 ^ k - 1 : Nat) = n % (2 ^ k : Nat) := by
  unfold bAnd
  have hp : (2 : Nat) ^ k ≤ 2 ^ 62 := Nat.pow_le_pow_right (by omega) hk
  have hp0 : 0 < (2 : Nat) ^ k := Nat.pos_of_ne_zero (by simp)
  have hd : (2 : Nat) ^ k ∣ 2 ^ 64 := Nat.pow_dvd_pow 2 (by omega)
  have h : (BitVec.ofInt IntKind.i64.bits n &&& BitVec.ofInt IntKind.i64.bits ((2 ^ k - 1 : Nat) : Int)).toNat = (n % (2 ^ k : Nat)).toNat := by
    rw [BitVec.toNat_and]
    show (BitVec.ofInt 64 n).toNat &&& (BitVec.ofInt 64 ((2 ^ k - 1 : Nat) : Int)).toNat = _
    rw [show (BitVec.ofInt 64 ((2 ^ k - 1 : Nat) : Int)).toNat = 2 ^ k - 1 from ofInt_toNat (by omega), and_mask, BitVec.toNat_ofInt]
    have e1 : (n % ((2 ^ 64 : Nat) : Int)).toNat % 2 ^ k = (n % ((2 ^ k : Nat) : Int)).toNat := by
      apply Int.ofNat.inj
      show (((n % ((2 ^ 64 : Nat) : Int)).toNat % 2 ^ k : Nat) : Int) = ((n % ((2 ^ k : Nat) : Int)).toNat : Int)
      rw [Int.natCast_emod, Int.toNat_of_nonneg (Int.emod_nonneg _ (by omega)), Int.toNat_of_nonneg (Int.emod_nonneg _ (by omega))]
      exact Int.emod_emod_of_dvd _ (by exact_mod_cast hd)
    exact e1
  rw [h]
  have h1 : 0 ≤ n % ((2 ^ k : Nat) : Int) := Int.emod_nonneg _ (by omega)
  have h2 : n % ((2 ^ k : Nat) : Int) < ((2 ^ k : Nat) : Int) := Int.emod_lt_of_pos _ (by omega)
  rw [wrap_i64_id (by omega) (by omega)]
  omega

/-- A value, and a factor, of a ring. -/
def valR (r n : Int) : Int := if r = 5 then n else if r = 2 then n % 2 else if (n % 4611686018427387904).tmod 5 = 0 then 4611686018427387904 else n % 4611686018427387904
def facR (r n : Int) : Int := if r = 5 then n.tmod 2147483648 else valR r n
def ir_fretworklaw02_Value : IR :=
(.seq (.reg (⟨(some 4), .mv (.c (.int .i64 0)), none⟩ :: [])) (.seq (.reg (⟨(some 5), .mv (.t 0), none⟩ :: [])) (.block 0 (.seq (.reg (⟨(some 13), .bin .eql (.t 5) (.c (.int .i64 5)), none⟩ ::⟨(some 12), .mv (.t 13), none⟩ :: [])) (.cond (.t 12) (.seq (.reg (⟨(some 14), .mv (.t 1), none⟩ ::⟨(some 4), .mv (.t 14), none⟩ :: [])) .ret) (.seq (.reg (⟨(some 16), .bin .eql (.t 5) (.c (.int .i64 2)), none⟩ ::⟨(some 15), .mv (.t 16), none⟩ :: [])) (.cond (.t 15) (.seq (.reg (⟨(some 17), .mv (.t 1), none⟩ ::⟨(some 18), .bin .and (.t 17) (.c (.int .i64 1)), none⟩ ::⟨(some 4), .mv (.t 18), none⟩ :: [])) .ret) (.seq (.reg (⟨(some 6), .mv (.t 1), none⟩ ::⟨(some 7), .bin .and (.t 6) (.c (.int .i64 4611686018427387903)), none⟩ ::⟨(some 1), .mv (.t 7), none⟩ :: [])) (.seq (.seq (.reg (⟨(some 8), .mv (.t 1), none⟩ ::⟨(some 9), .bin .rem (.t 8) (.c (.int .i64 5)), none⟩ ::⟨(some 10), .bin .eql (.t 9) (.c (.int .i64 0)), none⟩ :: [])) (.cond (.t 10) (.seq (.reg (⟨(some 4), .mv (.c (.int .i64 4611686018427387904)), none⟩ :: [])) .ret) .skip)) (.seq (.reg (⟨(some 11), .mv (.t 1), none⟩ ::⟨(some 4), .mv (.t 11), none⟩ :: [])) .ret))))))))))
theorem cd_fretworklaw02_Value : Code1 Tryd.prog 33 19 ir_fretworklaw02_Value [.t 4] := ⟨Tryd.call33, _, _, Tryd.func33, rfl, by kernel_rfl, by kernel_rfl, by kernel_rfl, by kernel_rfl⟩

theorem fs_Value (r n : Int) : FS Tryd.prog 33 [.int .i64 r, .int .i64 n] (.int .i64 (valR r n)) := by
  refine fs_of_cvc mixed cd_fretworklaw02_Value (by simp) ?_
  have e1 : bAnd .i64 n 1 = n % 2 := bAnd_low n 1 (by omega)
  have e2 : bAnd .i64 n 4611686018427387903 = n % 4611686018427387904 := bAnd_low n 62 (by omega)
  by_cases h5 : r = 5
  · subst h5
    repeat' (conv => whnf); first
      | ((refine Br.beq (by rfl) ?_))
      | ((refine Br.bne (by rfl) ?_))
      | (refine Br.tt ?_)
      | (refine Br.ff ?_)
      | (refine Br.dec (fun h => ?_) (fun h => ?_)) <;> try (exfalso; omega)
      | (refine Br.neg ?_)
      | (refine Br.mk (fun h => ?_) (fun h => ?_))
      | (refine And.intro rfl ?_)
      | (refine And.intro (by omega) ?_)
      | (refine ⟨_, Or.inl ⟨⟨by omega, by omega⟩, rfl⟩, ?_⟩)
      | (refine And.intro (by simp only [lens_all, zs_len]; first | done | omega) ?_)
      | (refine And.intro (Nat.le_refl _) ?_)
      | fail
    exact rfl
  · by_cases h2 : r = 2
    · subst h2
      repeat' (conv => whnf); first
        | ((refine Br.beq (by rfl) ?_))
        | ((refine Br.bne (by rfl) ?_))
        | (refine Br.tt ?_)
        | (refine Br.ff ?_)
        | (refine Br.dec (fun h => ?_) (fun h => ?_)) <;> try (exfalso; omega)
        | (refine Br.neg ?_)
        | (refine Br.mk (fun h => ?_) (fun h => ?_))
        | (refine And.intro rfl ?_)
        | (refine And.intro (by omega) ?_)
        | (refine ⟨_, Or.inl ⟨⟨by omega, by omega⟩, rfl⟩, ?_⟩)
        | (refine And.intro (by simp only [lens_all, zs_len]; first | done | omega) ?_)
        | (refine And.intro (Nat.le_refl _) ?_)
        | fail
      show SV.int .i64 (bAnd .i64 n 1) = _
      rw [e1]; rfl
    · have hv : valR r n = if (n % 4611686018427387904).tmod 5 = 0 then 4611686018427387904 else n % 4611686018427387904 := by
        unfold valR; rw [if_neg h5, if_neg h2]
      rw [hv, ← e2]
      by_cases h0 : (bAnd .i64 n 4611686018427387903).tmod 5 = 0
      · rw [if_pos h0]
        repeat' (conv => whnf); first
          | ((refine Br.beq (by rfl) ?_))
          | ((refine Br.bne (by rfl) ?_))
          | (refine Br.tt ?_)
          | (refine Br.ff ?_)
          | (refine Br.dec (fun h => ?_) (fun h => ?_)) <;> try (exfalso; omega)
          | (refine Br.neg ?_)
          | (refine Br.mk (fun h => ?_) (fun h => ?_))
          | (refine And.intro rfl ?_)
          | (refine And.intro (by omega) ?_)
          | (refine ⟨_, Or.inl ⟨⟨by omega, by omega⟩, rfl⟩, ?_⟩)
          | (refine And.intro (by simp only [lens_all, zs_len]; first | done | omega) ?_)
          | (refine And.intro (Nat.le_refl _) ?_)
          | fail
        exact rfl
      · rw [if_neg h0]
        repeat' (conv => whnf); first
          | ((refine Br.beq (by rfl) ?_))
          | ((refine Br.bne (by rfl) ?_))
          | (refine Br.tt ?_)
          | (refine Br.ff ?_)
          | (refine Br.dec (fun h => ?_) (fun h => ?_)) <;> try (exfalso; omega)
          | (refine Br.neg ?_)
          | (refine Br.mk (fun h => ?_) (fun h => ?_))
          | (refine And.intro rfl ?_)
          | (refine And.intro (by omega) ?_)
          | (refine ⟨_, Or.inl ⟨⟨by omega, by omega⟩, rfl⟩, ?_⟩)
          | (refine And.intro (by simp only [lens_all, zs_len]; first | done | omega) ?_)
          | (refine And.intro (Nat.le_refl _) ?_)
          | fail
        exact rfl

def ir_fretworklaw02_Factor : IR :=
(.seq (.reg (⟨(some 4), .mv (.c (.int .i64 0)), none⟩ :: [])) (.seq (.seq (.reg (⟨(some 5), .mv (.t 0), none⟩ ::⟨(some 6), .bin .eql (.t 5) (.c (.int .i64 5)), none⟩ :: [])) (.cond (.t 6) (.seq (.reg (⟨(some 7), .mv (.t 1), none⟩ ::⟨(some 8), .bin .rem (.t 7) (.c (.int .i64 2147483648)), none⟩ ::⟨(some 4), .mv (.t 8), none⟩ :: [])) .ret) .skip)) (.seq (.reg (⟨(some 9), .mv (.t 0), none⟩ ::⟨(some 10), .mv (.t 1), none⟩ ::⟨(some 11), .call (.c (.fn 33 [])) [(.t 9), (.t 10)], none⟩ ::⟨(some 4), .mv (.t 11), none⟩ :: [])) .ret)))
theorem cd_fretworklaw02_Factor : Code1 Tryd.prog 10 12 ir_fretworklaw02_Factor [.t 4] := ⟨Tryd.call10, _, _, Tryd.func10, rfl, by kernel_rfl, by kernel_rfl, by kernel_rfl, by kernel_rfl⟩

theorem fs_Factor (r n : Int) : FS Tryd.prog 10 [.int .i64 r, .int .i64 n] (.int .i64 (facR r n)) := by
  refine fs_of_cvc mixed cd_fretworklaw02_Factor (by simp) ?_
  have c := fs_Value r n
  by_cases h5 : r = 5
  · subst h5
    repeat' (conv => whnf); first
      | ((refine Br.beq (by rfl) ?_))
      | ((refine Br.bne (by rfl) ?_))
      | (refine Br.tt ?_)
      | (refine Br.ff ?_)
      | (refine Br.dec (fun h => ?_) (fun h => ?_)) <;> try (exfalso; omega)
      | (refine Br.neg ?_)
      | (refine Br.mk (fun h => ?_) (fun h => ?_))
      | (refine And.intro rfl ?_)
      | (refine And.intro (by omega) ?_)
      | (refine ⟨_, Or.inl ⟨⟨by omega, by omega⟩, rfl⟩, ?_⟩)
      | (refine And.intro (by simp only [lens_all, zs_len]; first | done | omega) ?_)
      | (refine And.intro (Nat.le_refl _) ?_)
      | fail
    exact rfl
  · have e : facR r n = valR r n := if_neg h5
    rw [e]
    repeat' (conv => whnf); first
      | ((refine Or.inl ⟨by rfl, _, c, ?_⟩))
      | ((refine Br.beq (by rfl) ?_))
      | ((refine Br.bne (by rfl) ?_))
      | (refine Br.tt ?_)
      | (refine Br.ff ?_)
      | (refine Br.dec (fun h => ?_) (fun h => ?_)) <;> try (exfalso; omega)
      | (refine Br.neg ?_)
      | (refine Br.mk (fun h => ?_) (fun h => ?_))
      | (refine And.intro rfl ?_)
      | (refine And.intro (by omega) ?_)
      | (refine ⟨_, Or.inl ⟨⟨by omega, by omega⟩, rfl⟩, ?_⟩)
      | (refine And.intro (by simp only [lens_all, zs_len]; first | done | omega) ?_)
      | (refine And.intro (Nat.le_refl _) ?_)
      | fail
    exact rfl

/-- The names' letters. -/
def nmL (r : Int) : List UInt8 := if r = 1 then [109, 105, 110, 112, 108, 117, 115] else if r = 2 then [111, 114, 97, 110, 100] else if r = 3 then [109, 105, 110, 102, 105, 114, 115, 116] else if r = 4 then [109, 105, 110, 115, 101, 99, 111, 110, 100] else if r = 5 then [112, 108, 117, 115, 116, 105, 109, 101, 115] else []
theorem nmL_nm (r : Int) : nameV r = ⟨(nmL r).toArray⟩ := by
  unfold nameV nmL
  split
  · rfl
  · split
    · rfl
    · split
      · rfl
      · split
        · rfl
        · split <;> rfl
def parL (s : List UInt8) : Int := if nmL 1 = s then 1 else if nmL 2 = s then 2 else if nmL 3 = s then 3 else if nmL 4 = s then 4 else if nmL 5 = s then 5 else 0
theorem parL_V (s : List UInt8) : parseV ⟨s.toArray⟩ = parL s := by
  have h : ∀ k : Int, ((nameV k).toList == (⟨s.toArray⟩ : ByteArray).toList) = decide (nmL k = s) := fun k => by rw [nmL_nm]; exact str_beq _ _
  have h1 := h 1
  have h2 := h 2
  have h3 := h 3
  have h4 := h 4
  have h5 := h 5
  rw [show nameV 1 = nm1 by decide] at h1
  rw [show nameV 2 = nm2 by decide] at h2
  rw [show nameV 3 = nm3 by decide] at h3
  rw [show nameV 4 = nm4 by decide] at h4
  rw [show nameV 5 = nm5 by decide] at h5
  unfold parseV pf parL
  rw [h1, h2, h3, h4, h5]
  simp only [decide_eq_true_eq]

def ir_ring_Name : IR :=
(.seq (.reg (⟨(some 2), .mv (.c (.str [])), none⟩ :: [])) (.seq (.seq (.reg (⟨(some 3), .mv (.t 0), none⟩ ::⟨(some 4), .call (.c (.fn 20 [])) [(.t 3)], none⟩ ::⟨(some 5), .un .not (.t 4), none⟩ :: [])) (.cond (.t 5) (.seq (.reg (⟨(some 2), .mv (.c (.str [])), none⟩ :: [])) .ret) .skip)) (.seq (.reg (⟨(some 6), .mv (.t 0), none⟩ ::⟨(some 7), .iaA 6 1 (.c (.raw (.pointer (some ⟨0, 0, none⟩)))) (.t 6), none⟩ ::⟨(some 8), .ld 1 false (.t 7), none⟩ ::⟨(some 2), .mv (.t 8), none⟩ :: [])) .ret)))
theorem cd_ring_Name : Code1 Tryd.prog 28 9 ir_ring_Name [.t 2] := ⟨Tryd.call28, _, _, Tryd.func28, rfl, by kernel_rfl, by kernel_rfl, by kernel_rfl, by kernel_rfl⟩

theorem fs_rName (r : Int) : FS Tryd.prog 28 [.int .i64 r] (.str (nmL r)) := by
  refine fs_mk cd_ring_Name.enter fun w A vs hA hlen hr => ?_
  obtain ⟨v, rfl⟩ : ∃ v, vs = [v] := by
    match vs, hlen with
    | [v], _ => exact ⟨v, rfl⟩
  have := rep_int (hr 0 _ v rfl rfl)
  subst this
  refine (ring_Name r w (held_names hA.held)).mono ?_
  rintro e w' ⟨rfl, hb⟩
  rw [nmL_nm]
  exact ⟨_, rfl, hb, .str _ _⟩

def ir_ring_Parse : IR :=
(.seq (.reg (⟨(some 2), .mv (.c (.int .i64 0)), none⟩ :: [])) (.seq (.seq (.reg (⟨(some 5), .ld 6 true (.c (.raw (.pointer (some ⟨0, 0, none⟩)))), none⟩ ::⟨(some 6), .mv (.c (.int .i64 0)), none⟩ :: [])) (.block 0 (.loop (.seq (.reg (⟨(some 7), .bin .lss (.t 6) (.c (.int .i64 6)), none⟩ :: [])) (.seq (.cond (.t 7) .skip (.exit 0)) (.seq (.block 1 (.seq (.reg (⟨(some 8), .mv (.t 6), none⟩ ::⟨(some 9), .ix 6 1 false (.t 5) (.t 6), none⟩ ::⟨(some 3), .mv (.t 8), none⟩ ::⟨(some 4), .mv (.t 9), none⟩ :: [])) (.seq (.reg (⟨(some 10), .mv (.t 4), none⟩ ::⟨(some 11), .mv (.t 0), none⟩ ::⟨(some 12), .seq false (.t 10) (.t 11), none⟩ :: [])) (.cond (.t 12) (.seq (.reg (⟨(some 13), .mv (.t 3), none⟩ ::⟨(some 2), .mv (.t 13), none⟩ :: [])) .ret) .skip)))) (.reg (⟨(some 14), .bin .add (.t 6) (.c (.int .i64 1)), none⟩ ::⟨(some 6), .mv (.t 14), none⟩ :: [])))))))) (.seq (.reg (⟨(some 2), .mv (.c (.int .i64 0)), none⟩ :: [])) .ret)))
theorem cd_ring_Parse : Code1 Tryd.prog 30 15 ir_ring_Parse [.t 2] := ⟨Tryd.call30, _, _, Tryd.func30, rfl, by kernel_rfl, by kernel_rfl, by kernel_rfl, by kernel_rfl⟩

theorem fs_rParse (s : List UInt8) : FS Tryd.prog 30 [.str s] (.int .i64 (parL s)) := by
  refine fs_mk cd_ring_Parse.enter fun w A vs hA hlen hr => ?_
  obtain ⟨v, rfl⟩ : ∃ v, vs = [v] := by
    match vs, hlen with
    | [v], _ => exact ⟨v, rfl⟩
  have h0 := hr 0 _ v rfl rfl
  cases h0
  refine (ring_Parse ⟨s.toArray⟩ w (held_names hA.held)).mono ?_
  rintro e w' ⟨rfl, hb⟩
  rw [parL_V]
  exact ⟨_, rfl, hb, .int _ _ _⟩

def ir_fretworkref02_Name : IR :=
(.seq (.reg (⟨(some 2), .mv (.c (.str [])), none⟩ :: [])) (.seq (.reg (⟨(some 3), .mv (.t 0), none⟩ :: [])) (.block 0 (.seq (.reg (⟨(some 5), .bin .eql (.t 3) (.c (.int .i64 1)), none⟩ ::⟨(some 4), .mv (.t 5), none⟩ :: [])) (.cond (.t 4) (.seq (.reg (⟨(some 2), .mv (.c (.str [109, 105, 110, 112, 108, 117, 115])), none⟩ :: [])) .ret) (.seq (.reg (⟨(some 7), .bin .eql (.t 3) (.c (.int .i64 2)), none⟩ ::⟨(some 6), .mv (.t 7), none⟩ :: [])) (.cond (.t 6) (.seq (.reg (⟨(some 2), .mv (.c (.str [111, 114, 97, 110, 100])), none⟩ :: [])) .ret) (.seq (.reg (⟨(some 9), .bin .eql (.t 3) (.c (.int .i64 3)), none⟩ ::⟨(some 8), .mv (.t 9), none⟩ :: [])) (.cond (.t 8) (.seq (.reg (⟨(some 2), .mv (.c (.str [109, 105, 110, 102, 105, 114, 115, 116])), none⟩ :: [])) .ret) (.seq (.reg (⟨(some 11), .bin .eql (.t 3) (.c (.int .i64 4)), none⟩ ::⟨(some 10), .mv (.t 11), none⟩ :: [])) (.cond (.t 10) (.seq (.reg (⟨(some 2), .mv (.c (.str [109, 105, 110, 115, 101, 99, 111, 110, 100])), none⟩ :: [])) .ret) (.seq (.reg (⟨(some 13), .bin .eql (.t 3) (.c (.int .i64 5)), none⟩ ::⟨(some 12), .mv (.t 13), none⟩ :: [])) (.cond (.t 12) (.seq (.reg (⟨(some 2), .mv (.c (.str [112, 108, 117, 115, 116, 105, 109, 101, 115])), none⟩ :: [])) .ret) (.seq (.reg (⟨(some 2), .mv (.c (.str [])), none⟩ :: [])) .ret))))))))))))))
theorem cd_fretworkref02_Name : Code1 Tryd.prog 29 14 ir_fretworkref02_Name [.t 2] := ⟨Tryd.call29, _, _, Tryd.func29, rfl, by kernel_rfl, by kernel_rfl, by kernel_rfl, by kernel_rfl⟩

theorem fs_r2Name (r : Int) : FS Tryd.prog 29 [.int .i64 r] (.str (nmL r)) := by
  refine fs_of_cvc mixed cd_fretworkref02_Name (by simp) ?_
  repeat' (conv => whnf); first
    | ((refine Br.beq (by rfl) ?_))
    | ((refine Br.bne (by rfl) ?_))
    | (refine Br.tt ?_)
    | (refine Br.ff ?_)
    | (refine Br.dec (fun h => ?_) (fun h => ?_)) <;> try (exfalso; omega)
    | (refine Br.neg ?_)
    | (refine Br.mk (fun h => ?_) (fun h => ?_))
    | (refine And.intro rfl ?_)
    | (refine And.intro (by omega) ?_)
    | (refine ⟨_, Or.inl ⟨⟨by omega, by omega⟩, rfl⟩, ?_⟩)
    | (refine And.intro (by simp only [lens_all, zs_len]; first | done | omega) ?_)
    | (refine And.intro (Nat.le_refl _) ?_)
    | fail
  all_goals
    show SV.str _ = SV.str _
    first | (subst_vars; rfl) | (unfold nmL; simp only [*, if_false])

def ir_fretworkref02_Parse : IR :=
(.seq (.reg (⟨(some 2), .mv (.c (.int .i64 0)), none⟩ :: [])) (.seq (.seq (.reg (⟨(some 3), .mv (.c (.int .i64 1)), none⟩ :: [])) (.block 0 (.loop (.seq (.seq (.reg (⟨(some 4), .mv (.t 3), none⟩ ::⟨(some 5), .bin .leq (.t 4) (.c (.int .i64 5)), none⟩ :: [])) (.cond (.t 5) .skip (.exit 0))) (.seq (.block 1 (.seq (.reg (⟨(some 8), .mv (.t 3), none⟩ ::⟨(some 9), .call (.c (.fn 29 [])) [(.t 8)], none⟩ ::⟨(some 10), .mv (.t 0), none⟩ ::⟨(some 11), .seq false (.t 9) (.t 10), none⟩ :: [])) (.cond (.t 11) (.seq (.reg (⟨(some 12), .mv (.t 3), none⟩ ::⟨(some 2), .mv (.t 12), none⟩ :: [])) .ret) .skip))) (.reg (⟨(some 6), .mv (.t 3), none⟩ ::⟨(some 7), .bin .add (.t 6) (.c (.int .i64 1)), none⟩ ::⟨(some 3), .mv (.t 7), none⟩ :: []))))))) (.seq (.reg (⟨(some 2), .mv (.c (.int .i64 0)), none⟩ :: [])) .ret)))
theorem cd_fretworkref02_Parse : Code1 Tryd.prog 31 13 ir_fretworkref02_Parse [.t 2] := ⟨Tryd.call31, _, _, Tryd.func31, rfl, by kernel_rfl, by kernel_rfl, by kernel_rfl, by kernel_rfl⟩

theorem fs_r2Parse (s : List UInt8) : FS Tryd.prog 31 [.str s] (.int .i64 (parL s)) := by
  refine fs_of_cvc mixed cd_fretworkref02_Parse (by simp) ?_
  repeat' (conv => whnf); first
    | ((refine Br.beq (by rfl) ?_))
    | ((refine Br.bne (by rfl) ?_))
    | (refine Br.tt ?_)
    | (refine Br.ff ?_)
    | (refine Br.dec (fun h => ?_) (fun h => ?_)) <;> try (exfalso; omega)
    | (refine Br.neg ?_)
    | (refine Br.mk (fun h => ?_) (fun h => ?_))
    | (refine And.intro rfl ?_)
    | (refine And.intro (by omega) ?_)
    | (refine ⟨_, Or.inl ⟨⟨by omega, by omega⟩, rfl⟩, ?_⟩)
    | (refine And.intro (by simp only [lens_all, zs_len]; first | done | omega) ?_)
    | (refine And.intro (Nat.le_refl _) ?_)
    | fail
  refine ⟨Nat, fun k => 1 ≤ k ∧ k ≤ 6 ∧ ∀ j : Nat, 1 ≤ j → j < k → nmL (j : Int) ≠ s, fun k => [(0, .str s), (3, .int .i64 (k : Int))], fun k => [], fun _ => none, fun k => 6 - k, ⟨1, ⟨by omega, by omega, fun j h1 h2 => by omega⟩, ⟨rfl, rfl, trivial⟩, trivial, rfl⟩, fun k hk => ?_⟩
  obtain ⟨hk1, hk2, hk3⟩ := hk
  have n1 : 1 < k → nmL 1 ≠ s := fun h => hk3 1 (by omega) h
  have n2 : 2 < k → nmL 2 ≠ s := fun h => hk3 2 (by omega) h
  have n3 : 3 < k → nmL 3 ≠ s := fun h => hk3 3 (by omega) h
  have n4 : 4 < k → nmL 4 ≠ s := fun h => hk3 4 (by omega) h
  have n5 : 5 < k → nmL 5 ≠ s := fun h => hk3 5 (by omega) h
  by_cases hk : k ≤ 5
  · have c := fs_r2Name (k : Int)
    by_cases hs : nmL (k : Int) = s
    · have hp : parL s = (k : Int) := by
        have hk5 : k = 1 ∨ k = 2 ∨ k = 3 ∨ k = 4 ∨ k = 5 := by omega
        unfold parL
        rcases hk5 with rfl | rfl | rfl | rfl | rfl
        · rw [if_pos (show nmL 1 = s from hs)]; rfl
        · rw [if_neg (n1 (by omega)), if_pos (show nmL 2 = s from hs)]; rfl
        · rw [if_neg (n1 (by omega)), if_neg (n2 (by omega)), if_pos (show nmL 3 = s from hs)]; rfl
        · rw [if_neg (n1 (by omega)), if_neg (n2 (by omega)), if_neg (n3 (by omega)), if_pos (show nmL 4 = s from hs)]; rfl
        · rw [if_neg (n1 (by omega)), if_neg (n2 (by omega)), if_neg (n3 (by omega)), if_neg (n4 (by omega)), if_pos (show nmL 5 = s from hs)]; rfl
      rw [hp]
      repeat' (conv => whnf); first
        | ((refine Or.inl ⟨by rfl, _, c, ?_⟩))
        | ((refine Br.beq (by rfl) ?_))
        | ((refine Br.bne (by rfl) ?_))
        | (refine Br.tt ?_)
        | (refine Br.ff ?_)
        | (refine Br.dec (fun h => ?_) (fun h => ?_)) <;> try (exfalso; omega)
        | (refine Br.neg ?_)
        | (refine Br.mk (fun h => ?_) (fun h => ?_))
        | (refine And.intro rfl ?_)
        | (refine And.intro (by omega) ?_)
        | (refine ⟨_, Or.inl ⟨⟨by omega, by omega⟩, rfl⟩, ?_⟩)
        | (refine And.intro (by simp only [lens_all, zs_len]; first | done | omega) ?_)
        | (refine And.intro (Nat.le_refl _) ?_)
        | fail
      · exact rfl
      · exact absurd hs ‹_›
    · repeat' (conv => whnf); first
        | ((refine Or.inl ⟨by rfl, _, c, ?_⟩))
        | ((refine Br.beq (by rfl) ?_))
        | ((refine Br.bne (by rfl) ?_))
        | (refine Br.tt ?_)
        | (refine Br.ff ?_)
        | (refine Br.dec (fun h => ?_) (fun h => ?_)) <;> try (exfalso; omega)
        | (refine Br.neg ?_)
        | (refine Br.mk (fun h => ?_) (fun h => ?_))
        | (refine And.intro rfl ?_)
        | (refine And.intro (by omega) ?_)
        | (refine ⟨_, Or.inl ⟨⟨by omega, by omega⟩, rfl⟩, ?_⟩)
        | (refine And.intro (by simp only [lens_all, zs_len]; first | done | omega) ?_)
        | (refine And.intro (Nat.le_refl _) ?_)
        | fail
      · exact absurd ‹_› hs
      · refine ⟨k + 1, ⟨by omega, by omega, fun j h1 h2 => ?_⟩, (show 6 - (k + 1) < 6 - k by omega), ⟨rfl, rfl, trivial⟩, trivial, rfl⟩
        rcases Nat.lt_or_ge j k with h' | h'
        · exact hk3 j h1 h'
        · have : j = k := by omega
          subst this; exact hs
  · have hp : parL s = 0 := by
      unfold parL
      rw [if_neg (n1 (by omega)), if_neg (n2 (by omega)), if_neg (n3 (by omega)), if_neg (n4 (by omega)), if_neg (n5 (by omega))]
    rw [hp]
    repeat' (conv => whnf); first
      | ((refine Br.beq (by rfl) ?_))
      | ((refine Br.bne (by rfl) ?_))
      | (refine Br.tt ?_)
      | (refine Br.ff ?_)
      | (refine Br.dec (fun h => ?_) (fun h => ?_)) <;> try (exfalso; omega)
      | (refine Br.neg ?_)
      | (refine Br.mk (fun h => ?_) (fun h => ?_))
      | (refine And.intro rfl ?_)
      | (refine And.intro (by omega) ?_)
      | (refine ⟨_, Or.inl ⟨⟨by omega, by omega⟩, rfl⟩, ?_⟩)
      | (refine And.intro (by simp only [lens_all, zs_len]; first | done | omega) ?_)
      | (refine And.intro (Nat.le_refl _) ?_)
      | fail
    exact rfl

def oneR (r : Int) : Int × Bool := if r = 1 then (0, true) else if r = 2 ∨ r = 5 then (1, true) else (0, false)
def ir_ring_One : IR :=
(.seq (.reg (⟨(some 2), .mv (.c (.int .i64 0)), none⟩ ::⟨(some 3), .mv (.c (.bool false)), none⟩ :: [])) (.seq (.seq (.reg (⟨(some 4), .mv (.t 0), none⟩ :: [])) (.block 0 (.seq (.reg (⟨(some 6), .bin .eql (.t 4) (.c (.int .i64 1)), none⟩ ::⟨(some 5), .mv (.t 6), none⟩ :: [])) (.cond (.t 5) (.seq (.reg (⟨(some 2), .mv (.c (.int .i64 0)), none⟩ ::⟨(some 3), .mv (.c (.bool true)), none⟩ :: [])) .ret) (.seq (.seq (.reg (⟨(some 8), .bin .eql (.t 4) (.c (.int .i64 2)), none⟩ ::⟨(some 7), .mv (.t 8), none⟩ :: [])) (.cond (.t 7) .skip (.reg (⟨(some 9), .bin .eql (.t 4) (.c (.int .i64 5)), none⟩ ::⟨(some 7), .mv (.t 9), none⟩ :: [])))) (.cond (.t 7) (.seq (.reg (⟨(some 2), .mv (.c (.int .i64 1)), none⟩ ::⟨(some 3), .mv (.c (.bool true)), none⟩ :: [])) .ret) .skip)))))) (.seq (.reg (⟨(some 2), .mv (.c (.int .i64 0)), none⟩ ::⟨(some 3), .mv (.c (.bool false)), none⟩ :: [])) .ret)))
theorem cd_ring_One : Code1 Tryd.prog 18 10 ir_ring_One [.t 2, .t 3] := ⟨Tryd.call18, _, _, Tryd.func18, rfl, by kernel_rfl, by kernel_rfl, by kernel_rfl, by kernel_rfl⟩

theorem fs_rOne (r : Int) : FS Tryd.prog 18 [.int .i64 r] (.tup [.int .i64 (oneR r).1, .bool (oneR r).2]) := by
  refine fs_of_cvc mixed cd_ring_One (by simp) ?_
  have h1 : oneR r = if r = 1 then (0, true) else if r = 2 ∨ r = 5 then (1, true) else (0, false) := rfl
  by_cases h : r = 1
  · rw [h1, if_pos h]
    repeat' (conv => whnf); first
      | ((refine Br.beq (by rfl) ?_))
      | ((refine Br.bne (by rfl) ?_))
      | (refine Br.tt ?_)
      | (refine Br.ff ?_)
      | (refine Br.dec (fun h => ?_) (fun h => ?_)) <;> try (exfalso; omega)
      | (refine Br.neg ?_)
      | (refine Br.mk (fun h => ?_) (fun h => ?_))
      | (refine And.intro rfl ?_)
      | (refine And.intro (by omega) ?_)
      | (refine ⟨_, Or.inl ⟨⟨by omega, by omega⟩, rfl⟩, ?_⟩)
      | (refine And.intro (by simp only [lens_all, zs_len]; first | done | omega) ?_)
      | (refine And.intro (Nat.le_refl _) ?_)
      | fail
    all_goals exact rfl
  · rw [h1, if_neg h]
    by_cases h2 : r = 2 ∨ r = 5
    · rw [if_pos h2]
      repeat' (conv => whnf); first
        | ((refine Br.beq (by rfl) ?_))
        | ((refine Br.bne (by rfl) ?_))
        | (refine Br.tt ?_)
        | (refine Br.ff ?_)
        | (refine Br.dec (fun h => ?_) (fun h => ?_)) <;> try (exfalso; omega)
        | (refine Br.neg ?_)
        | (refine Br.mk (fun h => ?_) (fun h => ?_))
        | (refine And.intro rfl ?_)
        | (refine And.intro (by omega) ?_)
        | (refine ⟨_, Or.inl ⟨⟨by omega, by omega⟩, rfl⟩, ?_⟩)
        | (refine And.intro (by simp only [lens_all, zs_len]; first | done | omega) ?_)
        | (refine And.intro (Nat.le_refl _) ?_)
        | fail
      all_goals exact rfl
    · rw [if_neg h2]
      repeat' (conv => whnf); first
        | ((refine Br.beq (by rfl) ?_))
        | ((refine Br.bne (by rfl) ?_))
        | (refine Br.tt ?_)
        | (refine Br.ff ?_)
        | (refine Br.dec (fun h => ?_) (fun h => ?_)) <;> try (exfalso; omega)
        | (refine Br.neg ?_)
        | (refine Br.mk (fun h => ?_) (fun h => ?_))
        | (refine And.intro rfl ?_)
        | (refine And.intro (by omega) ?_)
        | (refine ⟨_, Or.inl ⟨⟨by omega, by omega⟩, rfl⟩, ?_⟩)
        | (refine And.intro (by simp only [lens_all, zs_len]; first | done | omega) ?_)
        | (refine And.intro (Nat.le_refl _) ?_)
        | fail
      all_goals exact rfl
def ir_fretworkref02_One : IR :=
(.seq (.reg (⟨(some 2), .mv (.c (.int .i64 0)), none⟩ ::⟨(some 3), .mv (.c (.bool false)), none⟩ :: [])) (.seq (.reg (⟨(some 4), .mv (.t 0), none⟩ :: [])) (.block 0 (.seq (.reg (⟨(some 6), .bin .eql (.t 4) (.c (.int .i64 1)), none⟩ ::⟨(some 5), .mv (.t 6), none⟩ :: [])) (.cond (.t 5) (.seq (.reg (⟨(some 2), .mv (.c (.int .i64 0)), none⟩ ::⟨(some 3), .mv (.c (.bool true)), none⟩ :: [])) .ret) (.seq (.seq (.reg (⟨(some 8), .bin .eql (.t 4) (.c (.int .i64 2)), none⟩ ::⟨(some 7), .mv (.t 8), none⟩ :: [])) (.cond (.t 7) .skip (.reg (⟨(some 9), .bin .eql (.t 4) (.c (.int .i64 5)), none⟩ ::⟨(some 7), .mv (.t 9), none⟩ :: [])))) (.cond (.t 7) (.seq (.reg (⟨(some 2), .mv (.c (.int .i64 1)), none⟩ ::⟨(some 3), .mv (.c (.bool true)), none⟩ :: [])) .ret) (.seq (.reg (⟨(some 2), .mv (.c (.int .i64 0)), none⟩ ::⟨(some 3), .mv (.c (.bool false)), none⟩ :: [])) .ret))))))))
theorem cd_fretworkref02_One : Code1 Tryd.prog 19 10 ir_fretworkref02_One [.t 2, .t 3] := ⟨Tryd.call19, _, _, Tryd.func19, rfl, by kernel_rfl, by kernel_rfl, by kernel_rfl, by kernel_rfl⟩

theorem fs_r2One (r : Int) : FS Tryd.prog 19 [.int .i64 r] (.tup [.int .i64 (oneR r).1, .bool (oneR r).2]) := by
  refine fs_of_cvc mixed cd_fretworkref02_One (by simp) ?_
  have h1 : oneR r = if r = 1 then (0, true) else if r = 2 ∨ r = 5 then (1, true) else (0, false) := rfl
  by_cases h : r = 1
  · rw [h1, if_pos h]
    repeat' (conv => whnf); first
      | ((refine Br.beq (by rfl) ?_))
      | ((refine Br.bne (by rfl) ?_))
      | (refine Br.tt ?_)
      | (refine Br.ff ?_)
      | (refine Br.dec (fun h => ?_) (fun h => ?_)) <;> try (exfalso; omega)
      | (refine Br.neg ?_)
      | (refine Br.mk (fun h => ?_) (fun h => ?_))
      | (refine And.intro rfl ?_)
      | (refine And.intro (by omega) ?_)
      | (refine ⟨_, Or.inl ⟨⟨by omega, by omega⟩, rfl⟩, ?_⟩)
      | (refine And.intro (by simp only [lens_all, zs_len]; first | done | omega) ?_)
      | (refine And.intro (Nat.le_refl _) ?_)
      | fail
    all_goals exact rfl
  · rw [h1, if_neg h]
    by_cases h2 : r = 2 ∨ r = 5
    · rw [if_pos h2]
      repeat' (conv => whnf); first
        | ((refine Br.beq (by rfl) ?_))
        | ((refine Br.bne (by rfl) ?_))
        | (refine Br.tt ?_)
        | (refine Br.ff ?_)
        | (refine Br.dec (fun h => ?_) (fun h => ?_)) <;> try (exfalso; omega)
        | (refine Br.neg ?_)
        | (refine Br.mk (fun h => ?_) (fun h => ?_))
        | (refine And.intro rfl ?_)
        | (refine And.intro (by omega) ?_)
        | (refine ⟨_, Or.inl ⟨⟨by omega, by omega⟩, rfl⟩, ?_⟩)
        | (refine And.intro (by simp only [lens_all, zs_len]; first | done | omega) ?_)
        | (refine And.intro (Nat.le_refl _) ?_)
        | fail
      all_goals exact rfl
    · rw [if_neg h2]
      repeat' (conv => whnf); first
        | ((refine Br.beq (by rfl) ?_))
        | ((refine Br.bne (by rfl) ?_))
        | (refine Br.tt ?_)
        | (refine Br.ff ?_)
        | (refine Br.dec (fun h => ?_) (fun h => ?_)) <;> try (exfalso; omega)
        | (refine Br.neg ?_)
        | (refine Br.mk (fun h => ?_) (fun h => ?_))
        | (refine And.intro rfl ?_)
        | (refine And.intro (by omega) ?_)
        | (refine ⟨_, Or.inl ⟨⟨by omega, by omega⟩, rfl⟩, ?_⟩)
        | (refine And.intro (by simp only [lens_all, zs_len]; first | done | omega) ?_)
        | (refine And.intro (Nat.le_refl _) ?_)
        | fail
      all_goals exact rfl

def rightR (r v : Int) : Bool := if lt3 r = true then decide (0 ≤ v ∧ v ≤ 4611686018427387904) else if r = 2 then decide (v = 0 ∨ v = 1) else decide (r = 5)
def factR (r v : Int) : Bool := if r = 5 then decide (-2147483647 ≤ v ∧ v ≤ 2147483647) else rightR r v
def ir_ring_Right : IR :=
(.seq (.reg (⟨(some 4), .mv (.c (.bool false)), none⟩ :: [])) (.seq (.seq (.reg (⟨(some 5), .mv (.t 0), none⟩ :: [])) (.block 0 (.seq (.seq (.reg (⟨(some 7), .bin .eql (.t 5) (.c (.int .i64 1)), none⟩ ::⟨(some 6), .mv (.t 7), none⟩ :: [])) (.cond (.t 6) .skip (.seq (.reg (⟨(some 8), .bin .eql (.t 5) (.c (.int .i64 3)), none⟩ ::⟨(some 6), .mv (.t 8), none⟩ :: [])) (.cond (.t 6) .skip (.reg (⟨(some 9), .bin .eql (.t 5) (.c (.int .i64 4)), none⟩ ::⟨(some 6), .mv (.t 9), none⟩ :: [])))))) (.cond (.t 6) (.seq (.reg (⟨(some 10), .mv (.t 1), none⟩ ::⟨(some 11), .bin .geq (.t 10) (.c (.int .i64 0)), none⟩ ::⟨(some 12), .mv (.t 11), none⟩ ::⟨(some 13), .mv (.t 1), some (12, true)⟩ ::⟨(some 14), .bin .leq (.t 13) (.c (.int .i64 4611686018427387904)), some (12, true)⟩ ::⟨(some 15), .pick (.t 12) (.t 14) (.c (.bool false)), none⟩ ::⟨(some 4), .mv (.t 15), none⟩ :: [])) .ret) (.seq (.reg (⟨(some 17), .bin .eql (.t 5) (.c (.int .i64 2)), none⟩ ::⟨(some 16), .mv (.t 17), none⟩ :: [])) (.cond (.t 16) (.seq (.reg (⟨(some 18), .mv (.t 1), none⟩ ::⟨(some 19), .bin .shr (.t 18) (.c (.int .u64 1)), none⟩ ::⟨(some 20), .bin .eql (.t 19) (.c (.int .i64 0)), none⟩ ::⟨(some 4), .mv (.t 20), none⟩ :: [])) .ret) .skip)))))) (.seq (.reg (⟨(some 21), .mv (.t 0), none⟩ ::⟨(some 22), .bin .eql (.t 21) (.c (.int .i64 5)), none⟩ ::⟨(some 4), .mv (.t 22), none⟩ :: [])) .ret)))
theorem cd_ring_Right : Code1 Tryd.prog 22 23 ir_ring_Right [.t 4] := ⟨Tryd.call22, _, _, Tryd.func22, rfl, by kernel_rfl, by kernel_rfl, by kernel_rfl, by kernel_rfl⟩

theorem fs_rRight (r v : Int) (hv : I64 v) : FS Tryd.prog 22 [.int .i64 r, .int .i64 v] (.bool (rightR r v)) := by
  refine fs_of_cvc mixed cd_ring_Right (by simp) ?_
  unfold I64 at hv
  repeat' (conv => whnf); first
    | ((refine Br.beq (by rfl) ?_))
    | ((refine Br.bne (by rfl) ?_))
    | (refine Br.tt ?_)
    | (refine Br.ff ?_)
    | (refine Br.dec (fun h => ?_) (fun h => ?_)) <;> try (exfalso; omega)
    | (refine Br.neg ?_)
    | (refine Br.mk (fun h => ?_) (fun h => ?_))
    | (refine And.intro rfl ?_)
    | (refine And.intro (by omega) ?_)
    | (refine ⟨_, Or.inl ⟨⟨by omega, by omega⟩, rfl⟩, ?_⟩)
    | (refine And.intro (by simp only [lens_all, zs_len]; first | done | omega) ?_)
    | (refine And.intro (Nat.le_refl _) ?_)
    | fail
  all_goals
    show SV.bool _ = SV.bool _
    congr 1
    unfold rightR lt3
    rw [Bool.eq_iff_iff]
    simp [*]
    try first | omega | (show v / 2 = 0 ↔ v = 0 ∨ v = 1; omega)
def ir_fretworkref02_Right : IR :=
(.seq (.reg (⟨(some 4), .mv (.c (.bool false)), none⟩ :: [])) (.seq (.seq (.reg (⟨(some 5), .mv (.t 0), none⟩ ::⟨(some 6), .call (.c (.fn 44 [])) [(.t 5)], none⟩ :: [])) (.cond (.t 6) (.seq (.reg (⟨(some 7), .mv (.t 1), none⟩ ::⟨(some 8), .bin .geq (.t 7) (.c (.int .i64 0)), none⟩ ::⟨(some 9), .mv (.t 8), none⟩ ::⟨(some 10), .mv (.t 1), some (9, true)⟩ ::⟨(some 11), .bin .leq (.t 10) (.c (.int .i64 4611686018427387904)), some (9, true)⟩ ::⟨(some 12), .pick (.t 9) (.t 11) (.c (.bool false)), none⟩ ::⟨(some 4), .mv (.t 12), none⟩ :: [])) .ret) .skip)) (.seq (.seq (.reg (⟨(some 13), .mv (.t 0), none⟩ ::⟨(some 14), .bin .eql (.t 13) (.c (.int .i64 2)), none⟩ :: [])) (.cond (.t 14) (.seq (.reg (⟨(some 15), .mv (.t 1), none⟩ ::⟨(some 16), .bin .eql (.t 15) (.c (.int .i64 0)), none⟩ ::⟨(some 17), .mv (.t 16), none⟩ ::⟨(some 18), .mv (.t 1), some (17, false)⟩ ::⟨(some 19), .bin .eql (.t 18) (.c (.int .i64 1)), some (17, false)⟩ ::⟨(some 20), .pick (.t 17) (.c (.bool true)) (.t 19), none⟩ ::⟨(some 4), .mv (.t 20), none⟩ :: [])) .ret) .skip)) (.seq (.reg (⟨(some 21), .mv (.t 0), none⟩ ::⟨(some 22), .bin .eql (.t 21) (.c (.int .i64 5)), none⟩ ::⟨(some 4), .mv (.t 22), none⟩ :: [])) .ret))))
theorem cd_fretworkref02_Right : Code1 Tryd.prog 23 23 ir_fretworkref02_Right [.t 4] := ⟨Tryd.call23, _, _, Tryd.func23, rfl, by kernel_rfl, by kernel_rfl, by kernel_rfl, by kernel_rfl⟩

theorem fs_r2Right (r v : Int) : FS Tryd.prog 23 [.int .i64 r, .int .i64 v] (.bool (rightR r v)) := by
  refine fs_of_cvc mixed cd_fretworkref02_Right (by simp) ?_
  have c := fs_r2least r
  unfold rightR
  cases hl : lt3 r with
  | true =>
    rw [hl] at c
    repeat' (conv => whnf); first
      | ((refine Or.inl ⟨by rfl, _, c, ?_⟩))
      | ((refine Br.beq (by rfl) ?_))
      | ((refine Br.bne (by rfl) ?_))
      | (refine Br.tt ?_)
      | (refine Br.ff ?_)
      | (refine Br.dec (fun h => ?_) (fun h => ?_)) <;> try (exfalso; omega)
      | (refine Br.neg ?_)
      | (refine Br.mk (fun h => ?_) (fun h => ?_))
      | (refine And.intro rfl ?_)
      | (refine And.intro (by omega) ?_)
      | (refine ⟨_, Or.inl ⟨⟨by omega, by omega⟩, rfl⟩, ?_⟩)
      | (refine And.intro (by simp only [lens_all, zs_len]; first | done | omega) ?_)
      | (refine And.intro (Nat.le_refl _) ?_)
      | fail
    all_goals
      show SV.bool _ = SV.bool _
      congr 1
      simp [*]
  | false =>
    rw [hl] at c
    repeat' (conv => whnf); first
      | ((refine Or.inl ⟨by rfl, _, c, ?_⟩))
      | ((refine Br.beq (by rfl) ?_))
      | ((refine Br.bne (by rfl) ?_))
      | (refine Br.tt ?_)
      | (refine Br.ff ?_)
      | (refine Br.dec (fun h => ?_) (fun h => ?_)) <;> try (exfalso; omega)
      | (refine Br.neg ?_)
      | (refine Br.mk (fun h => ?_) (fun h => ?_))
      | (refine And.intro rfl ?_)
      | (refine And.intro (by omega) ?_)
      | (refine ⟨_, Or.inl ⟨⟨by omega, by omega⟩, rfl⟩, ?_⟩)
      | (refine And.intro (by simp only [lens_all, zs_len]; first | done | omega) ?_)
      | (refine And.intro (Nat.le_refl _) ?_)
      | fail
    all_goals
      show SV.bool _ = SV.bool _
      congr 1
      simp [*]
def ir_ring_Factor : IR :=
(.seq (.reg (⟨(some 4), .mv (.c (.bool false)), none⟩ :: [])) (.seq (.seq (.reg (⟨(some 5), .mv (.t 0), none⟩ ::⟨(some 6), .bin .eql (.t 5) (.c (.int .i64 5)), none⟩ :: [])) (.cond (.t 6) (.seq (.reg (⟨(some 7), .mv (.t 1), none⟩ ::⟨(some 8), .mv (.t 1), none⟩ ::⟨(some 9), .un .neg (.t 8), none⟩ ::⟨(some 10), .mm true [(.t 7), (.t 9)], none⟩ ::⟨(some 11), .bin .leq (.t 10) (.c (.int .i64 2147483647)), none⟩ ::⟨(some 12), .mv (.t 11), none⟩ ::⟨(some 13), .mv (.t 1), some (12, true)⟩ ::⟨(some 14), .bin .gtr (.t 13) (.c (.int .i64 (-4611686018427387904))), some (12, true)⟩ ::⟨(some 15), .pick (.t 12) (.t 14) (.c (.bool false)), none⟩ ::⟨(some 4), .mv (.t 15), none⟩ :: [])) .ret) .skip)) (.seq (.reg (⟨(some 16), .mv (.t 0), none⟩ ::⟨(some 17), .mv (.t 1), none⟩ ::⟨(some 18), .call (.c (.fn 22 [])) [(.t 16), (.t 17)], none⟩ ::⟨(some 4), .mv (.t 18), none⟩ :: [])) .ret)))
theorem cd_ring_Factor : Code1 Tryd.prog 24 19 ir_ring_Factor [.t 4] := ⟨Tryd.call24, _, _, Tryd.func24, rfl, by kernel_rfl, by kernel_rfl, by kernel_rfl, by kernel_rfl⟩

theorem fs_rFactor (r v : Int) (hv : I64 v) : FS Tryd.prog 24 [.int .i64 r, .int .i64 v] (.bool (factR r v)) := by
  refine fs_of_cvc mixed cd_ring_Factor (by simp) ?_
  have c := fs_rRight r v hv
  unfold factR I64 at *
  by_cases h : r = 5
  · subst h
    rw [if_pos rfl]
    by_cases hm : v = -9223372036854775808
    · subst hm
      repeat' (conv => whnf); first
        | ((refine ⟨_, Or.inr rfl, ?_⟩))
        | ((refine Br.beq (by rfl) ?_))
        | ((refine Br.bne (by rfl) ?_))
        | (refine Br.tt ?_)
        | (refine Br.ff ?_)
        | (refine Br.dec (fun h => ?_) (fun h => ?_)) <;> try (exfalso; omega)
        | (refine Br.neg ?_)
        | (refine Br.mk (fun h => ?_) (fun h => ?_))
        | (refine And.intro rfl ?_)
        | (refine And.intro (by omega) ?_)
        | (refine ⟨_, Or.inl ⟨⟨by omega, by omega⟩, rfl⟩, ?_⟩)
        | (refine And.intro (by simp only [lens_all, zs_len]; first | done | omega) ?_)
        | (refine And.intro (Nat.le_refl _) ?_)
        | fail
      all_goals first | exact rfl | (show SV.bool _ = SV.bool _; congr 1; simp [*])
    · repeat' (conv => whnf); first
        | ((refine Br.beq (by rfl) ?_))
        | ((refine Br.bne (by rfl) ?_))
        | (refine Br.tt ?_)
        | (refine Br.ff ?_)
        | (refine Br.dec (fun h => ?_) (fun h => ?_)) <;> try (exfalso; omega)
        | (refine Br.neg ?_)
        | (refine Br.mk (fun h => ?_) (fun h => ?_))
        | (refine And.intro rfl ?_)
        | (refine And.intro (by omega) ?_)
        | (refine ⟨_, Or.inl ⟨⟨by omega, by omega⟩, rfl⟩, ?_⟩)
        | (refine And.intro (by simp only [lens_all, zs_len]; first | done | omega) ?_)
        | (refine And.intro (Nat.le_refl _) ?_)
        | fail
      all_goals
        show SV.bool _ = SV.bool _
        congr 1
        rw [Bool.eq_iff_iff]
        simp [*]
        try omega
  · rw [if_neg h]
    generalize rightR r v = b at *
    repeat' (conv => whnf); first
      | ((refine Or.inl ⟨by rfl, _, c, ?_⟩))
      | ((refine Br.beq (by rfl) ?_))
      | ((refine Br.bne (by rfl) ?_))
      | (refine Br.tt ?_)
      | (refine Br.ff ?_)
      | (refine Br.dec (fun h => ?_) (fun h => ?_)) <;> try (exfalso; omega)
      | (refine Br.neg ?_)
      | (refine Br.mk (fun h => ?_) (fun h => ?_))
      | (refine And.intro rfl ?_)
      | (refine And.intro (by omega) ?_)
      | (refine ⟨_, Or.inl ⟨⟨by omega, by omega⟩, rfl⟩, ?_⟩)
      | (refine And.intro (by simp only [lens_all, zs_len]; first | done | omega) ?_)
      | (refine And.intro (Nat.le_refl _) ?_)
      | fail
    all_goals exact rfl
def ir_fretworkref02_Factor : IR :=
(.seq (.reg (⟨(some 4), .mv (.c (.bool false)), none⟩ :: [])) (.seq (.reg (⟨(some 5), .mv (.t 0), none⟩ ::⟨(some 6), .mv (.t 1), none⟩ ::⟨(some 7), .call (.c (.fn 23 [])) [(.t 5), (.t 6)], none⟩ ::⟨(some 8), .mv (.t 7), none⟩ ::⟨(some 9), .mv (.t 0), some (8, true)⟩ ::⟨(some 10), .bin .neq (.t 9) (.c (.int .i64 5)), some (8, true)⟩ ::⟨(some 11), .mv (.t 10), some (8, true)⟩ ::⟨(some 12), .mv (.t 1), some (11, false)⟩ ::⟨(some 13), .bin .geq (.t 12) (.c (.int .i64 (-2147483647))), some (11, false)⟩ ::⟨(some 14), .mv (.t 13), some (11, false)⟩ ::⟨(some 15), .mv (.t 1), some (14, true)⟩ ::⟨(some 16), .bin .leq (.t 15) (.c (.int .i64 2147483647)), some (14, true)⟩ ::⟨(some 17), .pick (.t 14) (.t 16) (.c (.bool false)), some (11, false)⟩ ::⟨(some 18), .pick (.t 11) (.c (.bool true)) (.t 17), some (8, true)⟩ ::⟨(some 19), .pick (.t 8) (.t 18) (.c (.bool false)), none⟩ ::⟨(some 4), .mv (.t 19), none⟩ :: [])) .ret))
theorem cd_fretworkref02_Factor : Code1 Tryd.prog 25 20 ir_fretworkref02_Factor [.t 4] := ⟨Tryd.call25, _, _, Tryd.func25, rfl, by kernel_rfl, by kernel_rfl, by kernel_rfl, by kernel_rfl⟩

theorem fs_r2Factor (r v : Int) : FS Tryd.prog 25 [.int .i64 r, .int .i64 v] (.bool (factR r v)) := by
  refine fs_of_cvc mixed cd_fretworkref02_Factor (by simp) ?_
  have c := fs_r2Right r v
  have h5 : r = 5 → rightR r v = true := fun h => by subst h; rfl
  unfold factR
  by_cases h : r = 5
  · rw [h5 h] at c
    rw [if_pos h]
    repeat' (conv => whnf); first
      | ((refine Or.inl ⟨by rfl, _, c, ?_⟩))
      | ((refine Br.beq (by rfl) ?_))
      | ((refine Br.bne (by rfl) ?_))
      | (refine Br.tt ?_)
      | (refine Br.ff ?_)
      | (refine Br.dec (fun h => ?_) (fun h => ?_)) <;> try (exfalso; omega)
      | (refine Br.neg ?_)
      | (refine Br.mk (fun h => ?_) (fun h => ?_))
      | (refine And.intro rfl ?_)
      | (refine And.intro (by omega) ?_)
      | (refine ⟨_, Or.inl ⟨⟨by omega, by omega⟩, rfl⟩, ?_⟩)
      | (refine And.intro (by simp only [lens_all, zs_len]; first | done | omega) ?_)
      | (refine And.intro (Nat.le_refl _) ?_)
      | fail
    all_goals
      show SV.bool _ = SV.bool _
      congr 1
      simp [*]
  · rw [if_neg h]
    cases hb : rightR r v with
    | true =>
      rw [hb] at c
      repeat' (conv => whnf); first
        | ((refine Or.inl ⟨by rfl, _, c, ?_⟩))
        | ((refine Br.beq (by rfl) ?_))
        | ((refine Br.bne (by rfl) ?_))
        | (refine Br.tt ?_)
        | (refine Br.ff ?_)
        | (refine Br.dec (fun h => ?_) (fun h => ?_)) <;> try (exfalso; omega)
        | (refine Br.neg ?_)
        | (refine Br.mk (fun h => ?_) (fun h => ?_))
        | (refine And.intro rfl ?_)
        | (refine And.intro (by omega) ?_)
        | (refine ⟨_, Or.inl ⟨⟨by omega, by omega⟩, rfl⟩, ?_⟩)
        | (refine And.intro (by simp only [lens_all, zs_len]; first | done | omega) ?_)
        | (refine And.intro (Nat.le_refl _) ?_)
        | fail
      all_goals exact rfl
    | false =>
      rw [hb] at c
      repeat' (conv => whnf); first
        | ((refine Or.inl ⟨by rfl, _, c, ?_⟩))
        | ((refine Br.beq (by rfl) ?_))
        | ((refine Br.bne (by rfl) ?_))
        | (refine Br.tt ?_)
        | (refine Br.ff ?_)
        | (refine Br.dec (fun h => ?_) (fun h => ?_)) <;> try (exfalso; omega)
        | (refine Br.neg ?_)
        | (refine Br.mk (fun h => ?_) (fun h => ?_))
        | (refine And.intro rfl ?_)
        | (refine And.intro (by omega) ?_)
        | (refine ⟨_, Or.inl ⟨⟨by omega, by omega⟩, rfl⟩, ?_⟩)
        | (refine And.intro (by simp only [lens_all, zs_len]; first | done | omega) ?_)
        | (refine And.intro (Nat.le_refl _) ?_)
        | fail
      all_goals exact rfl

theorem I64c {x : Int} (h : (decide (-9223372036854775808 ≤ x) && decide (x ≤ 9223372036854775807)) = true) : I64 x := by
  rw [Bool.and_eq_true, decide_eq_true_eq, decide_eq_true_eq] at h; exact h
end
end Go.Proofs.YtnalgofemikggaaDoor
