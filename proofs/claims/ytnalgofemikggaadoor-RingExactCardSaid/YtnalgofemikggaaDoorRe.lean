/- Small contracts of ring and fretworkref02. -/
import Derived.Test.YtnalgofemikggaaDoorRc
namespace Go.Proofs.YtnalgofemikggaaDoor
open Go.RowKit
theorem ring_cases (r : Int) : r = 1 ∨ r = 2 ∨ r = 3 ∨ r = 4 ∨ r = 5 ∨ ¬ (1 ≤ r ∧ r ≤ 5) := by omega
def oneV (r : Int) : Int := if r = 2 ∨ r = 5 then 1 else 0
def hasOne (r : Int) : Bool := decide (r = 1 ∨ r = 2 ∨ r = 5)
def zeroV (r : Int) : Int := if r = 1 ∨ r = 3 ∨ r = 4 then Inf else 0
def nm0 : ByteArray := ⟨#[]⟩
def nm1 : ByteArray := ⟨#[109, 105, 110, 112, 108, 117, 115]⟩
def nm2 : ByteArray := ⟨#[111, 114, 97, 110, 100]⟩
def nm3 : ByteArray := ⟨#[109, 105, 110, 102, 105, 114, 115, 116]⟩
def nm4 : ByteArray := ⟨#[109, 105, 110, 115, 101, 99, 111, 110, 100]⟩
def nm5 : ByteArray := ⟨#[112, 108, 117, 115, 116, 105, 109, 101, 115]⟩
def nameV (r : Int) : ByteArray := if r = 1 then nm1 else if r = 2 then nm2 else if r = 3 then nm3 else if r = 4 then nm4 else if r = 5 then nm5 else nm0
def rightV (r v : Int) : Bool := if r = 1 ∨ r = 3 ∨ r = 4 then decide (0 ≤ v ∧ v ≤ Inf) else if r = 2 then decide (v = 0 ∨ v = 1) else decide (r = 5)
def factorV (r v : Int) : Bool := if r = 5 then decide (-2147483647 ≤ v ∧ v ≤ 2147483647) else rightV r v
/-- The rings' names stand in their cells. -/
structure NamesAt (w : World) : Prop where
  size : 0 < w.heap.size
  n0 : w.cell? ⟨0, 0, none⟩ = some (.string nm0)
  n1 : w.cell? ⟨0, 1, none⟩ = some (.string nm1)
  n2 : w.cell? ⟨0, 2, none⟩ = some (.string nm2)
  n3 : w.cell? ⟨0, 3, none⟩ = some (.string nm3)
  n4 : w.cell? ⟨0, 4, none⟩ = some (.string nm4)
  n5 : w.cell? ⟨0, 5, none⟩ = some (.string nm5)
theorem NamesAt.ext {w w' : World} (h : NamesAt w) (k : Ext w w') : NamesAt w' :=
  ⟨Nat.lt_of_lt_of_le h.size k.size, (k.cell 0 0 h.size).trans h.n0, (k.cell 0 1 h.size).trans h.n1, (k.cell 0 2 h.size).trans h.n2, (k.cell 0 3 h.size).trans h.n3, (k.cell 0 4 h.size).trans h.n4, (k.cell 0 5 h.size).trans h.n5⟩
set_option maxRecDepth 100000 in
theorem ring_One (r : Int)  (w : World) :
    Calls Tryd.prog 18 #[.int .i64 r] w fun e w' => e = .returned (.tuple #[.int .i64 (oneV r), .bool (hasOne r)]) ∧ Ext w w' := by
  rcases ring_cases r with rfl | rfl | rfl | rfl | rfl | hr
  · go_enter Tryd.func18, Tryd.ntmps18
    go_wp2
    go_ret2
    exact ⟨by first | rfl | simp [oneV, hasOne], by (repeat (first | exact Ext.refl _ | assumption | (refine Ext.setCell' ?_ (by simp <;> omega) _) | refine Ext.alloc' ?_ _ | refine Ext.drew' ?_ | (refine Ext.trans _ _ _ ?_ (by assumption))))⟩
  · go_enter Tryd.func18, Tryd.ntmps18
    go_wp2
    go_ret2
    exact ⟨by first | rfl | simp [oneV, hasOne], by (repeat (first | exact Ext.refl _ | assumption | (refine Ext.setCell' ?_ (by simp <;> omega) _) | refine Ext.alloc' ?_ _ | refine Ext.drew' ?_ | (refine Ext.trans _ _ _ ?_ (by assumption))))⟩
  · go_enter Tryd.func18, Tryd.ntmps18
    go_wp2
    go_ret2
    exact ⟨by first | rfl | simp [oneV, hasOne], by (repeat (first | exact Ext.refl _ | assumption | (refine Ext.setCell' ?_ (by simp <;> omega) _) | refine Ext.alloc' ?_ _ | refine Ext.drew' ?_ | (refine Ext.trans _ _ _ ?_ (by assumption))))⟩
  · go_enter Tryd.func18, Tryd.ntmps18
    go_wp2
    go_ret2
    exact ⟨by first | rfl | simp [oneV, hasOne], by (repeat (first | exact Ext.refl _ | assumption | (refine Ext.setCell' ?_ (by simp <;> omega) _) | refine Ext.alloc' ?_ _ | refine Ext.drew' ?_ | (refine Ext.trans _ _ _ ?_ (by assumption))))⟩
  · go_enter Tryd.func18, Tryd.ntmps18
    go_wp2
    go_ret2
    exact ⟨by first | rfl | simp [oneV, hasOne], by (repeat (first | exact Ext.refl _ | assumption | (refine Ext.setCell' ?_ (by simp <;> omega) _) | refine Ext.alloc' ?_ _ | refine Ext.drew' ?_ | (refine Ext.trans _ _ _ ?_ (by assumption))))⟩
  · have hr1 : ¬ (r = 1 ∨ r = 2 ∨ r = 5) ∧ ¬ (r = 2 ∨ r = 5) ∧ ¬ (r = 1 ∨ r = 3 ∨ r = 4) ∧ ¬ r = 1 ∧ ¬ r = 2 ∧ ¬ r = 3 ∧ ¬ r = 4 ∧ ¬ r = 5 := by omega
    have E := Lib.hid (show (.tuple #[.int .i64 (oneV r), .bool (hasOne r)] : Value) = .tuple #[.int .i64 0, .bool false] by simp [oneV, hasOne, hr1])
    have m1 : (r == 1) = false := by simp; omega
    have m2 : (r == 2) = false := by simp; omega
    have m3 : (r == 3) = false := by simp; omega
    have m4 : (r == 4) = false := by simp; omega
    have m5 : (r == 5) = false := by simp; omega
    have hi0 := isR_no r hr
    clear hr hr1
    go_enter Tryd.func18, Tryd.ntmps18
    go_wp2
    go_ret2
    exact ⟨by rw [E.out]; first | done | rfl, by (repeat (first | exact Ext.refl _ | assumption | (refine Ext.setCell' ?_ (by simp <;> omega) _) | refine Ext.alloc' ?_ _ | refine Ext.drew' ?_ | (refine Ext.trans _ _ _ ?_ (by assumption))))⟩
set_option maxRecDepth 100000 in
theorem ref_One (r : Int)  (w : World) :
    Calls Tryd.prog 19 #[.int .i64 r] w fun e w' => e = .returned (.tuple #[.int .i64 (oneV r), .bool (hasOne r)]) ∧ Ext w w' := by
  rcases ring_cases r with rfl | rfl | rfl | rfl | rfl | hr
  · go_enter Tryd.func19, Tryd.ntmps19
    go_wp2
    go_ret2
    exact ⟨by first | rfl | simp [oneV, hasOne], by (repeat (first | exact Ext.refl _ | assumption | (refine Ext.setCell' ?_ (by simp <;> omega) _) | refine Ext.alloc' ?_ _ | refine Ext.drew' ?_ | (refine Ext.trans _ _ _ ?_ (by assumption))))⟩
  · go_enter Tryd.func19, Tryd.ntmps19
    go_wp2
    go_ret2
    exact ⟨by first | rfl | simp [oneV, hasOne], by (repeat (first | exact Ext.refl _ | assumption | (refine Ext.setCell' ?_ (by simp <;> omega) _) | refine Ext.alloc' ?_ _ | refine Ext.drew' ?_ | (refine Ext.trans _ _ _ ?_ (by assumption))))⟩
  · go_enter Tryd.func19, Tryd.ntmps19
    go_wp2
    go_ret2
    exact ⟨by first | rfl | simp [oneV, hasOne], by (repeat (first | exact Ext.refl _ | assumption | (refine Ext.setCell' ?_ (by simp <;> omega) _) | refine Ext.alloc' ?_ _ | refine Ext.drew' ?_ | (refine Ext.trans _ _ _ ?_ (by assumption))))⟩
  · go_enter Tryd.func19, Tryd.ntmps19
    go_wp2
    go_ret2
    exact ⟨by first | rfl | simp [oneV, hasOne], by (repeat (first | exact Ext.refl _ | assumption | (refine Ext.setCell' ?_ (by simp <;> omega) _) | refine Ext.alloc' ?_ _ | refine Ext.drew' ?_ | (refine Ext.trans _ _ _ ?_ (by assumption))))⟩
  · go_enter Tryd.func19, Tryd.ntmps19
    go_wp2
    go_ret2
    exact ⟨by first | rfl | simp [oneV, hasOne], by (repeat (first | exact Ext.refl _ | assumption | (refine Ext.setCell' ?_ (by simp <;> omega) _) | refine Ext.alloc' ?_ _ | refine Ext.drew' ?_ | (refine Ext.trans _ _ _ ?_ (by assumption))))⟩
  · have hr1 : ¬ (r = 1 ∨ r = 2 ∨ r = 5) ∧ ¬ (r = 2 ∨ r = 5) ∧ ¬ (r = 1 ∨ r = 3 ∨ r = 4) ∧ ¬ r = 1 ∧ ¬ r = 2 ∧ ¬ r = 3 ∧ ¬ r = 4 ∧ ¬ r = 5 := by omega
    have E := Lib.hid (show (.tuple #[.int .i64 (oneV r), .bool (hasOne r)] : Value) = .tuple #[.int .i64 0, .bool false] by simp [oneV, hasOne, hr1])
    have m1 : (r == 1) = false := by simp; omega
    have m2 : (r == 2) = false := by simp; omega
    have m3 : (r == 3) = false := by simp; omega
    have m4 : (r == 4) = false := by simp; omega
    have m5 : (r == 5) = false := by simp; omega
    have hi0 := isR_no r hr
    clear hr hr1
    go_enter Tryd.func19, Tryd.ntmps19
    go_wp2
    go_ret2
    exact ⟨by rw [E.out]; first | done | rfl, by (repeat (first | exact Ext.refl _ | assumption | (refine Ext.setCell' ?_ (by simp <;> omega) _) | refine Ext.alloc' ?_ _ | refine Ext.drew' ?_ | (refine Ext.trans _ _ _ ?_ (by assumption))))⟩
set_option maxRecDepth 100000 in
theorem ring_Zero (r : Int)  (w : World) :
    Calls Tryd.prog 26 #[.int .i64 r] w fun e w' => e = .returned (.int .i64 (zeroV r)) ∧ Ext w w' := by
  rcases ring_cases r with rfl | rfl | rfl | rfl | rfl | hr
  · go_enter Tryd.func26, Tryd.ntmps26
    go_wp2
    go_ret
    exact ⟨by first | rfl | simp [zeroV, Inf], by (repeat (first | exact Ext.refl _ | assumption | (refine Ext.setCell' ?_ (by simp <;> omega) _) | refine Ext.alloc' ?_ _ | refine Ext.drew' ?_ | (refine Ext.trans _ _ _ ?_ (by assumption))))⟩
  · go_enter Tryd.func26, Tryd.ntmps26
    go_wp2
    go_ret
    exact ⟨by first | rfl | simp [zeroV, Inf], by (repeat (first | exact Ext.refl _ | assumption | (refine Ext.setCell' ?_ (by simp <;> omega) _) | refine Ext.alloc' ?_ _ | refine Ext.drew' ?_ | (refine Ext.trans _ _ _ ?_ (by assumption))))⟩
  · go_enter Tryd.func26, Tryd.ntmps26
    go_wp2
    go_ret
    exact ⟨by first | rfl | simp [zeroV, Inf], by (repeat (first | exact Ext.refl _ | assumption | (refine Ext.setCell' ?_ (by simp <;> omega) _) | refine Ext.alloc' ?_ _ | refine Ext.drew' ?_ | (refine Ext.trans _ _ _ ?_ (by assumption))))⟩
  · go_enter Tryd.func26, Tryd.ntmps26
    go_wp2
    go_ret
    exact ⟨by first | rfl | simp [zeroV, Inf], by (repeat (first | exact Ext.refl _ | assumption | (refine Ext.setCell' ?_ (by simp <;> omega) _) | refine Ext.alloc' ?_ _ | refine Ext.drew' ?_ | (refine Ext.trans _ _ _ ?_ (by assumption))))⟩
  · go_enter Tryd.func26, Tryd.ntmps26
    go_wp2
    go_ret
    exact ⟨by first | rfl | simp [zeroV, Inf], by (repeat (first | exact Ext.refl _ | assumption | (refine Ext.setCell' ?_ (by simp <;> omega) _) | refine Ext.alloc' ?_ _ | refine Ext.drew' ?_ | (refine Ext.trans _ _ _ ?_ (by assumption))))⟩
  · have hr1 : ¬ (r = 1 ∨ r = 2 ∨ r = 5) ∧ ¬ (r = 2 ∨ r = 5) ∧ ¬ (r = 1 ∨ r = 3 ∨ r = 4) ∧ ¬ r = 1 ∧ ¬ r = 2 ∧ ¬ r = 3 ∧ ¬ r = 4 ∧ ¬ r = 5 := by omega
    have E := Lib.hid (show (.int .i64 (zeroV r) : Value) = .int .i64 0 by simp [zeroV, Inf, hr1])
    have m1 : (r == 1) = false := by simp; omega
    have m2 : (r == 2) = false := by simp; omega
    have m3 : (r == 3) = false := by simp; omega
    have m4 : (r == 4) = false := by simp; omega
    have m5 : (r == 5) = false := by simp; omega
    have hi0 := isR_no r hr
    clear hr hr1
    go_enter Tryd.func26, Tryd.ntmps26
    go_wp2
    go_ret
    exact ⟨by rw [E.out]; first | done | rfl, by (repeat (first | exact Ext.refl _ | assumption | (refine Ext.setCell' ?_ (by simp <;> omega) _) | refine Ext.alloc' ?_ _ | refine Ext.drew' ?_ | (refine Ext.trans _ _ _ ?_ (by assumption))))⟩
set_option maxRecDepth 100000 in
theorem ref_Zero (r : Int)  (w : World) :
    Calls Tryd.prog 27 #[.int .i64 r] w fun e w' => e = .returned (.int .i64 (zeroV r)) ∧ Ext w w' := by
  rcases ring_cases r with rfl | rfl | rfl | rfl | rfl | hr
  · go_enter Tryd.func27, Tryd.ntmps27
    go_wp2
    go_ret
    exact ⟨by first | rfl | simp [zeroV, Inf], by (repeat (first | exact Ext.refl _ | assumption | (refine Ext.setCell' ?_ (by simp <;> omega) _) | refine Ext.alloc' ?_ _ | refine Ext.drew' ?_ | (refine Ext.trans _ _ _ ?_ (by assumption))))⟩
  · go_enter Tryd.func27, Tryd.ntmps27
    go_wp2
    go_ret
    exact ⟨by first | rfl | simp [zeroV, Inf], by (repeat (first | exact Ext.refl _ | assumption | (refine Ext.setCell' ?_ (by simp <;> omega) _) | refine Ext.alloc' ?_ _ | refine Ext.drew' ?_ | (refine Ext.trans _ _ _ ?_ (by assumption))))⟩
  · go_enter Tryd.func27, Tryd.ntmps27
    go_wp2
    go_ret
    exact ⟨by first | rfl | simp [zeroV, Inf], by (repeat (first | exact Ext.refl _ | assumption | (refine Ext.setCell' ?_ (by simp <;> omega) _) | refine Ext.alloc' ?_ _ | refine Ext.drew' ?_ | (refine Ext.trans _ _ _ ?_ (by assumption))))⟩
  · go_enter Tryd.func27, Tryd.ntmps27
    go_wp2
    go_ret
    exact ⟨by first | rfl | simp [zeroV, Inf], by (repeat (first | exact Ext.refl _ | assumption | (refine Ext.setCell' ?_ (by simp <;> omega) _) | refine Ext.alloc' ?_ _ | refine Ext.drew' ?_ | (refine Ext.trans _ _ _ ?_ (by assumption))))⟩
  · go_enter Tryd.func27, Tryd.ntmps27
    go_wp2
    go_ret
    exact ⟨by first | rfl | simp [zeroV, Inf], by (repeat (first | exact Ext.refl _ | assumption | (refine Ext.setCell' ?_ (by simp <;> omega) _) | refine Ext.alloc' ?_ _ | refine Ext.drew' ?_ | (refine Ext.trans _ _ _ ?_ (by assumption))))⟩
  · have hr1 : ¬ (r = 1 ∨ r = 2 ∨ r = 5) ∧ ¬ (r = 2 ∨ r = 5) ∧ ¬ (r = 1 ∨ r = 3 ∨ r = 4) ∧ ¬ r = 1 ∧ ¬ r = 2 ∧ ¬ r = 3 ∧ ¬ r = 4 ∧ ¬ r = 5 := by omega
    have E := Lib.hid (show (.int .i64 (zeroV r) : Value) = .int .i64 0 by simp [zeroV, Inf, hr1])
    have m1 : (r == 1) = false := by simp; omega
    have m2 : (r == 2) = false := by simp; omega
    have m3 : (r == 3) = false := by simp; omega
    have m4 : (r == 4) = false := by simp; omega
    have m5 : (r == 5) = false := by simp; omega
    have hi0 := isR_no r hr
    clear hr hr1
    go_enter Tryd.func27, Tryd.ntmps27
    go_wp2
    go_ret
    exact ⟨by rw [E.out]; first | done | rfl, by (repeat (first | exact Ext.refl _ | assumption | (refine Ext.setCell' ?_ (by simp <;> omega) _) | refine Ext.alloc' ?_ _ | refine Ext.drew' ?_ | (refine Ext.trans _ _ _ ?_ (by assumption))))⟩
set_option maxRecDepth 100000 in
theorem ref_Name (r : Int)  (w : World) :
    Calls Tryd.prog 29 #[.int .i64 r] w fun e w' => e = .returned (.string (nameV r)) ∧ Ext w w' := by
  rcases ring_cases r with rfl | rfl | rfl | rfl | rfl | hr
  · go_enter Tryd.func29, Tryd.ntmps29
    go_wp2
    go_ret
    exact ⟨by first | rfl | simp [nameV], by (repeat (first | exact Ext.refl _ | assumption | (refine Ext.setCell' ?_ (by simp <;> omega) _) | refine Ext.alloc' ?_ _ | refine Ext.drew' ?_ | (refine Ext.trans _ _ _ ?_ (by assumption))))⟩
  · go_enter Tryd.func29, Tryd.ntmps29
    go_wp2
    go_ret
    exact ⟨by first | rfl | simp [nameV], by (repeat (first | exact Ext.refl _ | assumption | (refine Ext.setCell' ?_ (by simp <;> omega) _) | refine Ext.alloc' ?_ _ | refine Ext.drew' ?_ | (refine Ext.trans _ _ _ ?_ (by assumption))))⟩
  · go_enter Tryd.func29, Tryd.ntmps29
    go_wp2
    go_ret
    exact ⟨by first | rfl | simp [nameV], by (repeat (first | exact Ext.refl _ | assumption | (refine Ext.setCell' ?_ (by simp <;> omega) _) | refine Ext.alloc' ?_ _ | refine Ext.drew' ?_ | (refine Ext.trans _ _ _ ?_ (by assumption))))⟩
  · go_enter Tryd.func29, Tryd.ntmps29
    go_wp2
    go_ret
    exact ⟨by first | rfl | simp [nameV], by (repeat (first | exact Ext.refl _ | assumption | (refine Ext.setCell' ?_ (by simp <;> omega) _) | refine Ext.alloc' ?_ _ | refine Ext.drew' ?_ | (refine Ext.trans _ _ _ ?_ (by assumption))))⟩
  · go_enter Tryd.func29, Tryd.ntmps29
    go_wp2
    go_ret
    exact ⟨by first | rfl | simp [nameV], by (repeat (first | exact Ext.refl _ | assumption | (refine Ext.setCell' ?_ (by simp <;> omega) _) | refine Ext.alloc' ?_ _ | refine Ext.drew' ?_ | (refine Ext.trans _ _ _ ?_ (by assumption))))⟩
  · have hr1 : ¬ (r = 1 ∨ r = 2 ∨ r = 5) ∧ ¬ (r = 2 ∨ r = 5) ∧ ¬ (r = 1 ∨ r = 3 ∨ r = 4) ∧ ¬ r = 1 ∧ ¬ r = 2 ∧ ¬ r = 3 ∧ ¬ r = 4 ∧ ¬ r = 5 := by omega
    have E := Lib.hid (show (.string (nameV r) : Value) = .string nm0 by simp [nameV, hr1])
    have m1 : (r == 1) = false := by simp; omega
    have m2 : (r == 2) = false := by simp; omega
    have m3 : (r == 3) = false := by simp; omega
    have m4 : (r == 4) = false := by simp; omega
    have m5 : (r == 5) = false := by simp; omega
    have hi0 := isR_no r hr
    clear hr hr1
    go_enter Tryd.func29, Tryd.ntmps29
    go_wp2
    go_ret
    exact ⟨by rw [E.out]; first | done | rfl, by (repeat (first | exact Ext.refl _ | assumption | (refine Ext.setCell' ?_ (by simp <;> omega) _) | refine Ext.alloc' ?_ _ | refine Ext.drew' ?_ | (refine Ext.trans _ _ _ ?_ (by assumption))))⟩
set_option maxRecDepth 100000 in
theorem ring_Name (r : Int) (w : World) (hN : NamesAt w) :
    Calls Tryd.prog 28 #[.int .i64 r] w fun e w' => e = .returned (.string (nameV r)) ∧ Ext w w' := by
  rcases ring_cases r with rfl | rfl | rfl | rfl | rfl | hr
  · have hi1 := isR_of 1 (by omega)
    go_enter Tryd.func28, Tryd.ntmps28
    go_wp2_with (go_at_call 20; refine (ring_Is _ _).mono ?_; rintro e w1 ⟨rfl, k1⟩; have hN := hN.ext k1; obtain ⟨s0, n0, n1, n2, n3, n4, n5⟩ := hN)
    go_ret
    exact ⟨by first | rfl | simp [nameV], by (repeat (first | exact Ext.refl _ | assumption | (refine Ext.setCell' ?_ (by simp <;> omega) _) | refine Ext.alloc' ?_ _ | refine Ext.drew' ?_ | (refine Ext.trans _ _ _ ?_ (by assumption))))⟩
  · have hi1 := isR_of 2 (by omega)
    go_enter Tryd.func28, Tryd.ntmps28
    go_wp2_with (go_at_call 20; refine (ring_Is _ _).mono ?_; rintro e w1 ⟨rfl, k1⟩; have hN := hN.ext k1; obtain ⟨s0, n0, n1, n2, n3, n4, n5⟩ := hN)
    go_ret
    exact ⟨by first | rfl | simp [nameV], by (repeat (first | exact Ext.refl _ | assumption | (refine Ext.setCell' ?_ (by simp <;> omega) _) | refine Ext.alloc' ?_ _ | refine Ext.drew' ?_ | (refine Ext.trans _ _ _ ?_ (by assumption))))⟩
  · have hi1 := isR_of 3 (by omega)
    go_enter Tryd.func28, Tryd.ntmps28
    go_wp2_with (go_at_call 20; refine (ring_Is _ _).mono ?_; rintro e w1 ⟨rfl, k1⟩; have hN := hN.ext k1; obtain ⟨s0, n0, n1, n2, n3, n4, n5⟩ := hN)
    go_ret
    exact ⟨by first | rfl | simp [nameV], by (repeat (first | exact Ext.refl _ | assumption | (refine Ext.setCell' ?_ (by simp <;> omega) _) | refine Ext.alloc' ?_ _ | refine Ext.drew' ?_ | (refine Ext.trans _ _ _ ?_ (by assumption))))⟩
  · have hi1 := isR_of 4 (by omega)
    go_enter Tryd.func28, Tryd.ntmps28
    go_wp2_with (go_at_call 20; refine (ring_Is _ _).mono ?_; rintro e w1 ⟨rfl, k1⟩; have hN := hN.ext k1; obtain ⟨s0, n0, n1, n2, n3, n4, n5⟩ := hN)
    go_ret
    exact ⟨by first | rfl | simp [nameV], by (repeat (first | exact Ext.refl _ | assumption | (refine Ext.setCell' ?_ (by simp <;> omega) _) | refine Ext.alloc' ?_ _ | refine Ext.drew' ?_ | (refine Ext.trans _ _ _ ?_ (by assumption))))⟩
  · have hi1 := isR_of 5 (by omega)
    go_enter Tryd.func28, Tryd.ntmps28
    go_wp2_with (go_at_call 20; refine (ring_Is _ _).mono ?_; rintro e w1 ⟨rfl, k1⟩; have hN := hN.ext k1; obtain ⟨s0, n0, n1, n2, n3, n4, n5⟩ := hN)
    go_ret
    exact ⟨by first | rfl | simp [nameV], by (repeat (first | exact Ext.refl _ | assumption | (refine Ext.setCell' ?_ (by simp <;> omega) _) | refine Ext.alloc' ?_ _ | refine Ext.drew' ?_ | (refine Ext.trans _ _ _ ?_ (by assumption))))⟩
  · have hr1 : ¬ (r = 1 ∨ r = 2 ∨ r = 5) ∧ ¬ (r = 2 ∨ r = 5) ∧ ¬ (r = 1 ∨ r = 3 ∨ r = 4) ∧ ¬ r = 1 ∧ ¬ r = 2 ∧ ¬ r = 3 ∧ ¬ r = 4 ∧ ¬ r = 5 := by omega
    have E := Lib.hid (show (.string (nameV r) : Value) = .string nm0 by simp [nameV, hr1])
    have m1 : (r == 1) = false := by simp; omega
    have m2 : (r == 2) = false := by simp; omega
    have m3 : (r == 3) = false := by simp; omega
    have m4 : (r == 4) = false := by simp; omega
    have m5 : (r == 5) = false := by simp; omega
    have hi0 := isR_no r hr
    clear hr hr1
    go_enter Tryd.func28, Tryd.ntmps28
    go_wp2_with (go_at_call 20; refine (ring_Is _ _).mono ?_; rintro e w1 ⟨rfl, k1⟩; have hN := hN.ext k1; obtain ⟨s0, n0, n1, n2, n3, n4, n5⟩ := hN)
    go_ret
    exact ⟨by rw [E.out]; first | done | rfl, by (repeat (first | exact Ext.refl _ | assumption | (refine Ext.setCell' ?_ (by simp <;> omega) _) | refine Ext.alloc' ?_ _ | refine Ext.drew' ?_ | (refine Ext.trans _ _ _ ?_ (by assumption))))⟩
theorem ref_Is (r : Int) (w : World) :
    Calls Tryd.prog 21 #[.int .i64 r] w fun e w' => e = .returned (.bool (isR r)) ∧ Ext w w' := by
  by_cases h : 1 ≤ r
  · have d1 : decide (1 ≤ r) = true := by simp [h]
    by_cases h2 : r ≤ 5
    · have d2 : decide (r ≤ 5) = true := by simp [h2]
      have E := Lib.hid (show isR r = true by unfold isR; simp; omega)
      go_enter Tryd.func21, Tryd.ntmps21
      go_wp2
      go_ret
      exact ⟨by rw [E.out]; rfl, by (repeat (first | exact Ext.refl _ | assumption | (refine Ext.setCell' ?_ (by simp <;> omega) _) | refine Ext.alloc' ?_ _ | refine Ext.drew' ?_ | (refine Ext.trans _ _ _ ?_ (by assumption))))⟩
    · have d2 : decide (r ≤ 5) = false := by simp; omega
      have E := Lib.hid (show isR r = false by unfold isR; simp; omega)
      go_enter Tryd.func21, Tryd.ntmps21
      go_wp2
      go_ret
      exact ⟨by rw [E.out]; rfl, by (repeat (first | exact Ext.refl _ | assumption | (refine Ext.setCell' ?_ (by simp <;> omega) _) | refine Ext.alloc' ?_ _ | refine Ext.drew' ?_ | (refine Ext.trans _ _ _ ?_ (by assumption))))⟩
  · have d1 : decide (1 ≤ r) = false := by simp; omega
    have E := Lib.hid (show isR r = false by unfold isR; simp; omega)
    go_enter Tryd.func21, Tryd.ntmps21
    go_wp2
    go_ret
    exact ⟨by rw [E.out]; rfl, by (repeat (first | exact Ext.refl _ | assumption | (refine Ext.setCell' ?_ (by simp <;> omega) _) | refine Ext.alloc' ?_ _ | refine Ext.drew' ?_ | (refine Ext.trans _ _ _ ?_ (by assumption))))⟩
set_option maxRecDepth 100000 in
theorem ring_Right (r v : Int) (hv : I64 v) (w : World) :
    Calls Tryd.prog 22 #[.int .i64 r, .int .i64 v] w fun e w' => e = .returned (.bool (rightV r v)) ∧ Ext w w' := by
  unfold I64 at hv
  rcases ring_cases r with rfl | rfl | rfl | rfl | rfl | hr
  · by_cases h : 0 ≤ v
    · by_cases h2 : v ≤ 4611686018427387904
      · have E := Lib.hid (show rightV 1 v = true by simp [rightV, Inf, h, h2])
        have d1 : decide (0 ≤ v) = true := by simp [h]
        have d2 : decide (v ≤ 4611686018427387904) = true := by simp [h2]
        go_enter Tryd.func22, Tryd.ntmps22
        go_wp2
        go_ret
        exact ⟨by rw [E.out]; first | done | rfl, by (repeat (first | exact Ext.refl _ | assumption | (refine Ext.setCell' ?_ (by simp <;> omega) _) | refine Ext.alloc' ?_ _ | refine Ext.drew' ?_ | (refine Ext.trans _ _ _ ?_ (by assumption))))⟩
      · have E := Lib.hid (show rightV 1 v = false by unfold rightV; rw [if_pos (by omega)]; exact decide_eq_false (by unfold Inf; omega))
        have d1 : decide (0 ≤ v) = true := by simp [h]
        have d2 : decide (v ≤ 4611686018427387904) = false := by simp; omega
        go_enter Tryd.func22, Tryd.ntmps22
        go_wp2
        go_ret
        exact ⟨by rw [E.out]; first | done | rfl, by (repeat (first | exact Ext.refl _ | assumption | (refine Ext.setCell' ?_ (by simp <;> omega) _) | refine Ext.alloc' ?_ _ | refine Ext.drew' ?_ | (refine Ext.trans _ _ _ ?_ (by assumption))))⟩
    · have E := Lib.hid (show rightV 1 v = false by unfold rightV; rw [if_pos (by omega)]; exact decide_eq_false (by unfold Inf; omega))
      have d1 : decide (0 ≤ v) = false := by simp; omega
      go_enter Tryd.func22, Tryd.ntmps22
      go_wp2
      go_ret
      exact ⟨by rw [E.out]; first | done | rfl, by (repeat (first | exact Ext.refl _ | assumption | (refine Ext.setCell' ?_ (by simp <;> omega) _) | refine Ext.alloc' ?_ _ | refine Ext.drew' ?_ | (refine Ext.trans _ _ _ ?_ (by assumption))))⟩
  · by_cases h : v = 0
    · subst h
      have E := Lib.hid (show rightV 2 0 = true by decide)
      go_enter Tryd.func22, Tryd.ntmps22
      go_wp2
      go_ret
      exact ⟨by rw [E.out]; first | done | rfl, by (repeat (first | exact Ext.refl _ | assumption | (refine Ext.setCell' ?_ (by simp <;> omega) _) | refine Ext.alloc' ?_ _ | refine Ext.drew' ?_ | (refine Ext.trans _ _ _ ?_ (by assumption))))⟩
    · have m0 : (v == 0) = false := by simp [h]
      by_cases h2 : v = 1
      · subst h2
        have E := Lib.hid (show rightV 2 1 = true by decide)
        go_enter Tryd.func22, Tryd.ntmps22
        go_wp2
        go_ret
        exact ⟨by rw [E.out]; first | done | rfl, by (repeat (first | exact Ext.refl _ | assumption | (refine Ext.setCell' ?_ (by simp <;> omega) _) | refine Ext.alloc' ?_ _ | refine Ext.drew' ?_ | (refine Ext.trans _ _ _ ?_ (by assumption))))⟩
      · have m1 : (v == 1) = false := by simp [h2]
        have m2 : (v / 2 == 0) = false := by simp; omega
        have E := Lib.hid (show rightV 2 v = false by simp [rightV]; omega)
        go_enter Tryd.func22, Tryd.ntmps22
        go_wp2
        go_ret
        exact ⟨by rw [E.out]; first | done | rfl, by (repeat (first | exact Ext.refl _ | assumption | (refine Ext.setCell' ?_ (by simp <;> omega) _) | refine Ext.alloc' ?_ _ | refine Ext.drew' ?_ | (refine Ext.trans _ _ _ ?_ (by assumption))))⟩
  · by_cases h : 0 ≤ v
    · by_cases h2 : v ≤ 4611686018427387904
      · have E := Lib.hid (show rightV 3 v = true by simp [rightV, Inf, h, h2])
        have d1 : decide (0 ≤ v) = true := by simp [h]
        have d2 : decide (v ≤ 4611686018427387904) = true := by simp [h2]
        go_enter Tryd.func22, Tryd.ntmps22
        go_wp2
        go_ret
        exact ⟨by rw [E.out]; first | done | rfl, by (repeat (first | exact Ext.refl _ | assumption | (refine Ext.setCell' ?_ (by simp <;> omega) _) | refine Ext.alloc' ?_ _ | refine Ext.drew' ?_ | (refine Ext.trans _ _ _ ?_ (by assumption))))⟩
      · have E := Lib.hid (show rightV 3 v = false by unfold rightV; rw [if_pos (by omega)]; exact decide_eq_false (by unfold Inf; omega))
        have d1 : decide (0 ≤ v) = true := by simp [h]
        have d2 : decide (v ≤ 4611686018427387904) = false := by simp; omega
        go_enter Tryd.func22, Tryd.ntmps22
        go_wp2
        go_ret
        exact ⟨by rw [E.out]; first | done | rfl, by (repeat (first | exact Ext.refl _ | assumption | (refine Ext.setCell' ?_ (by simp <;> omega) _) | refine Ext.alloc' ?_ _ | refine Ext.drew' ?_ | (refine Ext.trans _ _ _ ?_ (by assumption))))⟩
    · have E := Lib.hid (show rightV 3 v = false by unfold rightV; rw [if_pos (by omega)]; exact decide_eq_false (by unfold Inf; omega))
      have d1 : decide (0 ≤ v) = false := by simp; omega
      go_enter Tryd.func22, Tryd.ntmps22
      go_wp2
      go_ret
      exact ⟨by rw [E.out]; first | done | rfl, by (repeat (first | exact Ext.refl _ | assumption | (refine Ext.setCell' ?_ (by simp <;> omega) _) | refine Ext.alloc' ?_ _ | refine Ext.drew' ?_ | (refine Ext.trans _ _ _ ?_ (by assumption))))⟩
  · by_cases h : 0 ≤ v
    · by_cases h2 : v ≤ 4611686018427387904
      · have E := Lib.hid (show rightV 4 v = true by simp [rightV, Inf, h, h2])
        have d1 : decide (0 ≤ v) = true := by simp [h]
        have d2 : decide (v ≤ 4611686018427387904) = true := by simp [h2]
        go_enter Tryd.func22, Tryd.ntmps22
        go_wp2
        go_ret
        exact ⟨by rw [E.out]; first | done | rfl, by (repeat (first | exact Ext.refl _ | assumption | (refine Ext.setCell' ?_ (by simp <;> omega) _) | refine Ext.alloc' ?_ _ | refine Ext.drew' ?_ | (refine Ext.trans _ _ _ ?_ (by assumption))))⟩
      · have E := Lib.hid (show rightV 4 v = false by unfold rightV; rw [if_pos (by omega)]; exact decide_eq_false (by unfold Inf; omega))
        have d1 : decide (0 ≤ v) = true := by simp [h]
        have d2 : decide (v ≤ 4611686018427387904) = false := by simp; omega
        go_enter Tryd.func22, Tryd.ntmps22
        go_wp2
        go_ret
        exact ⟨by rw [E.out]; first | done | rfl, by (repeat (first | exact Ext.refl _ | assumption | (refine Ext.setCell' ?_ (by simp <;> omega) _) | refine Ext.alloc' ?_ _ | refine Ext.drew' ?_ | (refine Ext.trans _ _ _ ?_ (by assumption))))⟩
    · have E := Lib.hid (show rightV 4 v = false by unfold rightV; rw [if_pos (by omega)]; exact decide_eq_false (by unfold Inf; omega))
      have d1 : decide (0 ≤ v) = false := by simp; omega
      go_enter Tryd.func22, Tryd.ntmps22
      go_wp2
      go_ret
      exact ⟨by rw [E.out]; first | done | rfl, by (repeat (first | exact Ext.refl _ | assumption | (refine Ext.setCell' ?_ (by simp <;> omega) _) | refine Ext.alloc' ?_ _ | refine Ext.drew' ?_ | (refine Ext.trans _ _ _ ?_ (by assumption))))⟩
  · have E := Lib.hid (show rightV 5 v = true by simp [rightV])
    go_enter Tryd.func22, Tryd.ntmps22
    go_wp2
    go_ret
    exact ⟨by rw [E.out]; first | done | rfl, by (repeat (first | exact Ext.refl _ | assumption | (refine Ext.setCell' ?_ (by simp <;> omega) _) | refine Ext.alloc' ?_ _ | refine Ext.drew' ?_ | (refine Ext.trans _ _ _ ?_ (by assumption))))⟩
  · have hr1 : ¬ (r = 1 ∨ r = 3 ∨ r = 4) ∧ ¬ r = 2 ∧ ¬ r = 5 := by omega
    have E := Lib.hid (show rightV r v = false by simp [rightV, hr1])
    have m1 : (r == 1) = false := by simp; omega
    have m2 : (r == 2) = false := by simp; omega
    have m3 : (r == 3) = false := by simp; omega
    have m4 : (r == 4) = false := by simp; omega
    have m5 : (r == 5) = false := by simp; omega
    clear hr hr1
    go_enter Tryd.func22, Tryd.ntmps22
    go_wp2
    go_ret
    exact ⟨by rw [E.out]; first | done | rfl, by (repeat (first | exact Ext.refl _ | assumption | (refine Ext.setCell' ?_ (by simp <;> omega) _) | refine Ext.alloc' ?_ _ | refine Ext.drew' ?_ | (refine Ext.trans _ _ _ ?_ (by assumption))))⟩
set_option maxRecDepth 100000 in
theorem ref_Right (r v : Int) (hv : I64 v) (w : World) :
    Calls Tryd.prog 23 #[.int .i64 r, .int .i64 v] w fun e w' => e = .returned (.bool (rightV r v)) ∧ Ext w w' := by
  unfold I64 at hv
  rcases ring_cases r with rfl | rfl | rfl | rfl | rfl | hr
  · by_cases h : 0 ≤ v
    · by_cases h2 : v ≤ 4611686018427387904
      · have E := Lib.hid (show rightV 1 v = true by simp [rightV, Inf, h, h2])
        have d1 : decide (0 ≤ v) = true := by simp [h]
        have d2 : decide (v ≤ 4611686018427387904) = true := by simp [h2]
        go_enter Tryd.func23, Tryd.ntmps23
        go_wp2
        go_ret
        exact ⟨by rw [E.out]; first | done | rfl, by (repeat (first | exact Ext.refl _ | assumption | (refine Ext.setCell' ?_ (by simp <;> omega) _) | refine Ext.alloc' ?_ _ | refine Ext.drew' ?_ | (refine Ext.trans _ _ _ ?_ (by assumption))))⟩
      · have E := Lib.hid (show rightV 1 v = false by unfold rightV; rw [if_pos (by omega)]; exact decide_eq_false (by unfold Inf; omega))
        have d1 : decide (0 ≤ v) = true := by simp [h]
        have d2 : decide (v ≤ 4611686018427387904) = false := by simp; omega
        go_enter Tryd.func23, Tryd.ntmps23
        go_wp2
        go_ret
        exact ⟨by rw [E.out]; first | done | rfl, by (repeat (first | exact Ext.refl _ | assumption | (refine Ext.setCell' ?_ (by simp <;> omega) _) | refine Ext.alloc' ?_ _ | refine Ext.drew' ?_ | (refine Ext.trans _ _ _ ?_ (by assumption))))⟩
    · have E := Lib.hid (show rightV 1 v = false by unfold rightV; rw [if_pos (by omega)]; exact decide_eq_false (by unfold Inf; omega))
      have d1 : decide (0 ≤ v) = false := by simp; omega
      go_enter Tryd.func23, Tryd.ntmps23
      go_wp2
      go_ret
      exact ⟨by rw [E.out]; first | done | rfl, by (repeat (first | exact Ext.refl _ | assumption | (refine Ext.setCell' ?_ (by simp <;> omega) _) | refine Ext.alloc' ?_ _ | refine Ext.drew' ?_ | (refine Ext.trans _ _ _ ?_ (by assumption))))⟩
  · by_cases h : v = 0
    · subst h
      have E := Lib.hid (show rightV 2 0 = true by decide)
      go_enter Tryd.func23, Tryd.ntmps23
      go_wp2
      go_ret
      exact ⟨by rw [E.out]; first | done | rfl, by (repeat (first | exact Ext.refl _ | assumption | (refine Ext.setCell' ?_ (by simp <;> omega) _) | refine Ext.alloc' ?_ _ | refine Ext.drew' ?_ | (refine Ext.trans _ _ _ ?_ (by assumption))))⟩
    · have m0 : (v == 0) = false := by simp [h]
      by_cases h2 : v = 1
      · subst h2
        have E := Lib.hid (show rightV 2 1 = true by decide)
        go_enter Tryd.func23, Tryd.ntmps23
        go_wp2
        go_ret
        exact ⟨by rw [E.out]; first | done | rfl, by (repeat (first | exact Ext.refl _ | assumption | (refine Ext.setCell' ?_ (by simp <;> omega) _) | refine Ext.alloc' ?_ _ | refine Ext.drew' ?_ | (refine Ext.trans _ _ _ ?_ (by assumption))))⟩
      · have m1 : (v == 1) = false := by simp [h2]
        have m2 : (v / 2 == 0) = false := by simp; omega
        have E := Lib.hid (show rightV 2 v = false by simp [rightV]; omega)
        go_enter Tryd.func23, Tryd.ntmps23
        go_wp2
        go_ret
        exact ⟨by rw [E.out]; first | done | rfl, by (repeat (first | exact Ext.refl _ | assumption | (refine Ext.setCell' ?_ (by simp <;> omega) _) | refine Ext.alloc' ?_ _ | refine Ext.drew' ?_ | (refine Ext.trans _ _ _ ?_ (by assumption))))⟩
  · by_cases h : 0 ≤ v
    · by_cases h2 : v ≤ 4611686018427387904
      · have E := Lib.hid (show rightV 3 v = true by simp [rightV, Inf, h, h2])
        have d1 : decide (0 ≤ v) = true := by simp [h]
        have d2 : decide (v ≤ 4611686018427387904) = true := by simp [h2]
        go_enter Tryd.func23, Tryd.ntmps23
        go_wp2
        go_ret
        exact ⟨by rw [E.out]; first | done | rfl, by (repeat (first | exact Ext.refl _ | assumption | (refine Ext.setCell' ?_ (by simp <;> omega) _) | refine Ext.alloc' ?_ _ | refine Ext.drew' ?_ | (refine Ext.trans _ _ _ ?_ (by assumption))))⟩
      · have E := Lib.hid (show rightV 3 v = false by unfold rightV; rw [if_pos (by omega)]; exact decide_eq_false (by unfold Inf; omega))
        have d1 : decide (0 ≤ v) = true := by simp [h]
        have d2 : decide (v ≤ 4611686018427387904) = false := by simp; omega
        go_enter Tryd.func23, Tryd.ntmps23
        go_wp2
        go_ret
        exact ⟨by rw [E.out]; first | done | rfl, by (repeat (first | exact Ext.refl _ | assumption | (refine Ext.setCell' ?_ (by simp <;> omega) _) | refine Ext.alloc' ?_ _ | refine Ext.drew' ?_ | (refine Ext.trans _ _ _ ?_ (by assumption))))⟩
    · have E := Lib.hid (show rightV 3 v = false by unfold rightV; rw [if_pos (by omega)]; exact decide_eq_false (by unfold Inf; omega))
      have d1 : decide (0 ≤ v) = false := by simp; omega
      go_enter Tryd.func23, Tryd.ntmps23
      go_wp2
      go_ret
      exact ⟨by rw [E.out]; first | done | rfl, by (repeat (first | exact Ext.refl _ | assumption | (refine Ext.setCell' ?_ (by simp <;> omega) _) | refine Ext.alloc' ?_ _ | refine Ext.drew' ?_ | (refine Ext.trans _ _ _ ?_ (by assumption))))⟩
  · by_cases h : 0 ≤ v
    · by_cases h2 : v ≤ 4611686018427387904
      · have E := Lib.hid (show rightV 4 v = true by simp [rightV, Inf, h, h2])
        have d1 : decide (0 ≤ v) = true := by simp [h]
        have d2 : decide (v ≤ 4611686018427387904) = true := by simp [h2]
        go_enter Tryd.func23, Tryd.ntmps23
        go_wp2
        go_ret
        exact ⟨by rw [E.out]; first | done | rfl, by (repeat (first | exact Ext.refl _ | assumption | (refine Ext.setCell' ?_ (by simp <;> omega) _) | refine Ext.alloc' ?_ _ | refine Ext.drew' ?_ | (refine Ext.trans _ _ _ ?_ (by assumption))))⟩
      · have E := Lib.hid (show rightV 4 v = false by unfold rightV; rw [if_pos (by omega)]; exact decide_eq_false (by unfold Inf; omega))
        have d1 : decide (0 ≤ v) = true := by simp [h]
        have d2 : decide (v ≤ 4611686018427387904) = false := by simp; omega
        go_enter Tryd.func23, Tryd.ntmps23
        go_wp2
        go_ret
        exact ⟨by rw [E.out]; first | done | rfl, by (repeat (first | exact Ext.refl _ | assumption | (refine Ext.setCell' ?_ (by simp <;> omega) _) | refine Ext.alloc' ?_ _ | refine Ext.drew' ?_ | (refine Ext.trans _ _ _ ?_ (by assumption))))⟩
    · have E := Lib.hid (show rightV 4 v = false by unfold rightV; rw [if_pos (by omega)]; exact decide_eq_false (by unfold Inf; omega))
      have d1 : decide (0 ≤ v) = false := by simp; omega
      go_enter Tryd.func23, Tryd.ntmps23
      go_wp2
      go_ret
      exact ⟨by rw [E.out]; first | done | rfl, by (repeat (first | exact Ext.refl _ | assumption | (refine Ext.setCell' ?_ (by simp <;> omega) _) | refine Ext.alloc' ?_ _ | refine Ext.drew' ?_ | (refine Ext.trans _ _ _ ?_ (by assumption))))⟩
  · have E := Lib.hid (show rightV 5 v = true by simp [rightV])
    go_enter Tryd.func23, Tryd.ntmps23
    go_wp2
    go_ret
    exact ⟨by rw [E.out]; first | done | rfl, by (repeat (first | exact Ext.refl _ | assumption | (refine Ext.setCell' ?_ (by simp <;> omega) _) | refine Ext.alloc' ?_ _ | refine Ext.drew' ?_ | (refine Ext.trans _ _ _ ?_ (by assumption))))⟩
  · have hr1 : ¬ (r = 1 ∨ r = 3 ∨ r = 4) ∧ ¬ r = 2 ∧ ¬ r = 5 := by omega
    have E := Lib.hid (show rightV r v = false by simp [rightV, hr1])
    have m1 : (r == 1) = false := by simp; omega
    have m2 : (r == 2) = false := by simp; omega
    have m3 : (r == 3) = false := by simp; omega
    have m4 : (r == 4) = false := by simp; omega
    have m5 : (r == 5) = false := by simp; omega
    clear hr hr1
    go_enter Tryd.func23, Tryd.ntmps23
    go_wp2
    go_ret
    exact ⟨by rw [E.out]; first | done | rfl, by (repeat (first | exact Ext.refl _ | assumption | (refine Ext.setCell' ?_ (by simp <;> omega) _) | refine Ext.alloc' ?_ _ | refine Ext.drew' ?_ | (refine Ext.trans _ _ _ ?_ (by assumption))))⟩
end Go.Proofs.YtnalgofemikggaaDoor
