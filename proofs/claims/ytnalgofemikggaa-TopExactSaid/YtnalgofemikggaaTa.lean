/- What TopExact's walk needs of the ring of sums. -/
import Derived.Test.YtnalgofemikggaaRb
import Derived.Outline
namespace Go.Proofs.Ytnalgofemikggaa
open Go.RowKit
/-- A factor of the last ring, out of any number. -/
def fac5 (n : Int) : Int := n.tmod 2147483648
theorem fac5_bd (n : Int) : -2147483648 < fac5 n ∧ fac5 n < 2147483648 := by
  unfold fac5
  by_cases h : 0 ≤ n
  · rw [Int.tmod_eq_emod_of_nonneg h]; omega
  · rw [Int.tmod_eq_emod, ]; split <;> omega
theorem fac5_i64 (n : Int) : I64 (fac5 n) := by have := fac5_bd n; unfold I64; omega
theorem law_Factor5 (n : Int) (hn : I64 n) (w : World) :
    Calls Try.prog 29 #[.int .i64 5, .int .i64 n] w fun e w' => e = .returned (.int .i64 (fac5 n)) ∧ Ext w w' := by
  have hb := fac5_bd n
  unfold I64 at hn
  obtain ⟨h0, h1⟩ := hn
  by_cases hneg : 0 ≤ n
  · have E := Lib.hid (show n % 2147483648 = fac5 n by unfold fac5; rw [Int.tmod_eq_emod_of_nonneg hneg])
    go_enter Try.func29, Try.ntmps29
    go_wp2
    go_ret
    exact ⟨by rw [← E.out]; rfl, by (repeat (first | exact Ext.refl _ | assumption | (refine Ext.setCell' ?_ (by simp <;> omega) _) | refine Ext.alloc' ?_ _ | refine Ext.drew' ?_ | (refine Ext.trans _ _ _ ?_ (by assumption))))⟩
  · have E := Lib.hid (show n.tmod 2147483648 = fac5 n from rfl)
    go_enter Try.func29, Try.ntmps29
    go_wp2
    go_ret
    exact ⟨by rw [← E.out]; rfl, by (repeat (first | exact Ext.refl _ | assumption | (refine Ext.setCell' ?_ (by simp <;> omega) _) | refine Ext.alloc' ?_ _ | refine Ext.drew' ?_ | (refine Ext.trans _ _ _ ?_ (by assumption))))⟩
/-- A slice of numbers that is only read: where its cells are. -/
def Sl (k : IntKind) (w : World) (p : Option Addr) (l : List Int) : Prop :=
  l ≠ [] → ∃ b o, p = some ⟨b, o, none⟩ ∧ b < w.heap.size ∧ ∀ i, i < l.length → w.cell? ⟨b, o + i, none⟩ = some (.int k (l.getD i 0))
theorem Sl.at {k : IntKind} {w : World} {p : Option Addr} {l : List Int} (h : Sl k w p l) (i : Nat) (hi : i < l.length) :
    ∃ b o, p = some ⟨b, o, none⟩ ∧ b < w.heap.size ∧ w.cell? ⟨b, o + i, none⟩ = some (.int k (l.getD i 0)) := by
  obtain ⟨b, o, h1, h2, h3⟩ := h (by rintro rfl; simp at hi)
  exact ⟨b, o, h1, h2, h3 i hi⟩
/-- The sum of the first i products. -/
def psum (a x : List Int) : Nat → Int
  | 0 => 0
  | i + 1 => psum a x i + fac5 (a.getD i 0) * x.getD i 0
theorem psum_step (a x : List Int) (i : Nat) : psum a x (i + 1) = psum a x i + fac5 (a.getD i 0) * x.getD i 0 := rfl
theorem rmul5 (a x : Int) : rmul 5 a x = a * x := by unfold rmul; simp
theorem ring_Mul5' (a x : Int) (ha : I64 a) (hx : I64 x) (w : World) :
    Calls Try.prog 28 #[.int .i64 5, .int .i64 a, .int .i64 x] w fun e w' => e = .returned (.agg #[.int .i64 (hi (a * x)), .int .u64 (lo (a * x))]) ∧ Ext w w' := by
  have := ring_Mul5 a x ha hx w
  rwa [rmul5] at this
end Go.Proofs.Ytnalgofemikggaa
