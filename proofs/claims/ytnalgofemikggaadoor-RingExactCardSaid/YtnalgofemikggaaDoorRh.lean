/- What must be whatever is asked: layer 2. -/
import Derived.Test.YtnalgofemikggaaDoorRg
import Derived.Outline
namespace Go.Proofs.YtnalgofemikggaaDoor
open Go.RowKit
set_option maxRecDepth 100000 in
set_option maxHeartbeats 1000000 in
theorem live2 (w : World) (hN : NamesAt w) :
    Calls Tryd.prog 13 #[] w fun e w' => e = .returned (.bool true) ∧ Ext w w' := by
  have a1 : rmul 1 4611686018427387904 3 = 4611686018427387904 := by decide
  have a2 : rmul 4 1 7 = 7 := by decide
  have a3 : radd 5 2 3 = 5 := by decide
  have a4 : zeroV 1 = 4611686018427387904 := by decide
  have a5 : oneV 2 = 1 := by decide
  have a6 : hasOne 2 = true := by decide
  have a7 : hasOne 3 = false := by decide
  have a8 : isR 1 = true := by decide
  have a9 : isR 0 = false := by decide
  have b1 : nameV 2 = nm2 := by decide
  have b3 : (nm2.toList == [111, 114, 97, 110, 100]) = true := by decide +kernel
  have b2 : parseV nm3 = 3 := by decide +kernel
  go_enter Tryd.func13, Tryd.ntmps13
  go_wp2_with (first | (go_at_call 18; refine (ring_One _ _).mono ?_; rintro e w1 ⟨rfl, k1⟩; have hN := hN.ext k1) | (go_at_call 20; refine (ring_Is _ _).mono ?_; rintro e w1 ⟨rfl, k1⟩; have hN := hN.ext k1) | (go_at_call 9; refine (ring_Mul _ _ _ (by unfold I64; omega) (by unfold I64; omega) _).mono ?_; rintro e w1 ⟨rfl, k1⟩; have hN := hN.ext k1) | (go_at_call 32; refine (ref_Of _ (by unfold I64; omega) _).mono ?_; rintro e w1 ⟨rfl, k1⟩; have hN := hN.ext k1) | (go_at_call 26; refine (ring_Zero _ _).mono ?_; rintro e w1 ⟨rfl, k1⟩; have hN := hN.ext k1) | (go_at_call 28; refine (ring_Name _ _ hN).mono ?_; rintro e w1 ⟨rfl, k1⟩; have hN := hN.ext k1) | (go_at_call 30; refine (ring_Parse _ _ hN).mono ?_; rintro e w1 ⟨rfl, k1⟩; have hN := hN.ext k1) | (go_at_call 8; refine (ring_Add _ _ _ (by unfold W128; omega) (by unfold W128; omega) _).mono ?_; rintro e w1 ⟨rfl, k1⟩; have hN := hN.ext k1))
  go_ret
  exact ⟨rfl, by (repeat (first | exact Ext.refl _ | assumption | (refine Ext.setCell' ?_ (by simp <;> omega) _) | refine Ext.alloc' ?_ _ | refine Ext.drew' ?_ | (refine Ext.trans _ _ _ ?_ (by assumption))))⟩
theorem liveR (w : World) (hN : NamesAt w) : LiveR w := fun w' h => live2 w' (hN.ext h)
theorem ringExact (a x : List Int) (pa px : Option Addr) (ka kx : Nat) (w : World) (hN : NamesAt w) (ha : a.length ≤ ka) (hka : ka ≤ maxLen) (hx : x.length ≤ kx) (hkx : kx ≤ maxLen)
    (ca : Sl .i64 w pa a) (cx : Sl .i64 w px x) (wa : ∀ i, i < a.length → I64 (a.getD i 0)) (wx : ∀ i, i < x.length → I64 (x.getD i 0)) :
    Calls Tryd.prog 3 #[.slice pa a.length ka, .slice px x.length kx] w fun e w' => e = .returned (.bool true) ∧ Ext w w' := by
  have hL := liveR w hN
  by_cases hc : x.length < a.length
  · by_cases hn : x.length ≤ 500
    · exact ringExact_2 a x pa px ka kx w ha hka hx hkx ca cx wa wx hL hc hn
    · exact ringExact_4 a x pa px ka kx w ha hka hx hkx ca cx wa wx hL hc (by omega)
  · by_cases hn : a.length ≤ 500
    · exact ringExact_1 a x pa px ka kx w ha hka hx hkx ca cx wa wx hL hc hn
    · exact ringExact_3 a x pa px ka kx w ha hka hx hkx ca cx wa wx hL hc (by omega)
end Go.Proofs.YtnalgofemikggaaDoor
