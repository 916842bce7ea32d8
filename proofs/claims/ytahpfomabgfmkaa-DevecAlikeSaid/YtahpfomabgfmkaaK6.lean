/- The program draws its orders. Wide numbers: the program's functions. Rings: the program's functions. -/
import Derived.Test.YtahpfomabgfmkaaRows
import Derived.Test.YtahpfomabgfmkaaK5
namespace Go.Proofs.Ytahpfomabgfmkaa
section
open Go.RowKit

theorem mixed : Try.prog.follows .mixedOrders = true := by kernel_rfl
end
section
open Go.RowKit
attribute [local irreducible] FS FO IT HS

/-- A wide number. -/
def WN (x : Int) : SV := .agg [.int .i64 (hi x), .int .u64 (lo x)]

theorem w64 (x : Int) : IntKind.i64.wrap x = wrap64 x := by rw [wrap_i64]; unfold wrap64; split <;> omega
theorem wn_eq {a b x : Int} (h1 : a = hi x) (h2 : b = lo x) : SV.agg [.int .i64 a, .int .u64 b] = WN x := by rw [h1, h2]; rfl
end
section
open Go.RowKit
attribute [local irreducible] FS FO IT HS

/-- The same number, modulo 2^128, that a wide one can be. -/
def norm (x : Int) : Int := hi x * 18446744073709551616 + lo x
theorem norm_w (x : Int) : W128 (norm x) := (halves_of _ _ (hi_bd x) (lo_bd x)).2.2
theorem WN_norm (x : Int) : WN (norm x) = WN x := by
  obtain ⟨h1, h2, _⟩ := halves_of _ _ (hi_bd x) (lo_bd x)
  unfold WN norm
  rw [h1, h2]
theorem W64i {n : Int} (h : I64 n) : W128 n := of_wide n h
theorem W0 : W128 0 := by unfold W128; omega
theorem W1 : W128 1 := by unfold W128; omega

theorem eqw (neg : Bool) {x y : Int} (hx : W128 x) (hy : W128 y) : EqOk Try.prog neg 107 [.int .i64 (hi x), .int .u64 (lo x)] [.int .i64 (hi y), .int .u64 (lo y)] (match neg with | true => decide (x ≠ y) | false => decide (x = y)) := by
  have h := eqok_flat (P := Try.prog) neg Try.underlying107 (by kernel_rfl) (by kernel_rfl) (ks := [.i64, .u64]) ⟨by decide, rfl, by kernel_rfl, by kernel_rfl, by kernel_rfl, by decide, rfl, by kernel_rfl, by kernel_rfl, by kernel_rfl, trivial⟩ (la := [hi x, lo x]) (lb := [hi y, lo y]) rfl rfl
  have e : ([hi x, lo x] = [hi y, lo y]) ↔ x = y := ⟨fun h => by
    simp only [List.cons.injEq, and_true] at h
    exact eq_of_halves hx hy h.1 h.2, fun h => by rw [h]⟩
  have e2 : ([hi x, lo x] ≠ [hi y, lo y]) ↔ x ≠ y := not_congr e
  cases neg
  · simp only [decide_eq_decide.2 e] at h; exact h
  · simp only [decide_eq_decide.2 e2] at h; exact h

def lt3 (r : Int) : Bool := decide (r = 1) || (decide (r = 3) || decide (r = 4))
def isR (r : Int) : Bool := decide (0 < r) && decide (r < 6)
def tru (b : Bool) : Int := if b then 1 else 0
/-- Two sums put together. -/
def rAdd (r x y : Int) : Int := if lt3 r = true then (if x ≤ y then x else y) else if r = 2 then tru (decide (x ≠ 0) || decide (y ≠ 0)) else if r = 5 then norm (x + y) else 0
theorem W_min {x y : Int} (hx : W128 x) (hy : W128 y) : W128 (if x ≤ y then x else y) := by split <;> assumption
theorem W_tru (b : Bool) : W128 (tru b) := by
  cases b
  · exact W0
  · exact W1
theorem rAdd_w {r x y : Int} (hx : W128 x) (hy : W128 y) : W128 (rAdd r x y) := by
  unfold rAdd
  split
  · exact W_min hx hy
  · split
    · exact W_tru _
    · split
      · exact norm_w _
      · exact W0
end
end Go.Proofs.Ytahpfomabgfmkaa
