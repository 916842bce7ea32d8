/- Dense vectors: with a value, without, at some places, and parts: what that comes to (plain laws). Dense vectors: Set, Drop, Only, Part, Of, Back. Dense vectors: of items, and back; parts. -/
import Derived.Test.YtlbmjnammgffiaaD1
namespace Go.Proofs.Ytlbmjnammgffiaa
section
open Go.RowKit
attribute [local irreducible] FS FO IT HS

/-- Items as a dense vector, as a value. -/
def dV (n : Int) (l : List (Int × Int)) : SV := DV n (toF n l) (toL n l)
theorem getD_set {v : List Int} {i j : Nat} {x : Int} (h : i < v.length) : (v.set i x).getD j 0 = if j = i then x else v.getD j 0 := by
  rw [List.getD_eq_getElem?_getD, List.getElem?_set]
  by_cases e : i = j
  · subst e; rw [if_pos rfl, if_pos rfl, if_pos h]; rfl
  · rw [if_neg e, if_neg (fun h => e h.symm), List.getD_eq_getElem?_getD]
end
section
open Go.RowKit
attribute [local irreducible] FS FO IT HS

theorem zs_one {l : List Int} {q i : Nat} (hq : q = i) (h : i < l.length) : (zs l)[q]? = some [.int .i64 (l.getD i 0)] := by
  subst hq
  simp [zs, h]
theorem zs_set (m : List Int) (i : Nat) (a : Int) : (zs m).set i [.int .i64 a] = zs (m.set i a) := by simp [zs, List.map_set]
theorem frz_zl {k : Nat} {m : List Int} (h : k = m.length) : List.take k (List.drop 0 (zs m)) = zs m := by
  rw [List.drop_zero, List.take_of_length_le (by rw [zs_len]; omega)]
theorem frz_ul {k : Nat} {m : List Nat} (h : k = m.length) : List.take k (List.drop 0 (uw m)) = uw m := by
  rw [List.drop_zero, List.take_of_length_le (by rw [U_len]; omega)]
end
section
open Go.RowKit
attribute [local irreducible] FS FO IT HS

/-! ### One value after the other -/
theorem vtk_more {l : List (Int × Int)} {k : Nat} {x : Int × Int} (h : l[k]? = some x) : l.take (k + 1) = l.take k ++ [x] := by
  rw [List.take_add_one, h]; rfl

def setsV (v : List Int) (l : List (Int × Int)) : List Int := l.foldl (fun v x => v.set x.1.toNat x.2) v
theorem setsV_len (l : List (Int × Int)) : ∀ v : List Int, (setsV v l).length = v.length := by
  induction l with
  | nil => intro v; rfl
  | cons x l ih => intro v; show (setsV (v.set x.1.toNat x.2) l).length = _; rw [ih, List.length_set]
theorem setsV_more {v : List Int} {l : List (Int × Int)} {k : Nat} {x : Int × Int} (h : l[k]? = some x) : setsV v (l.take (k + 1)) = (setsV v (l.take k)).set x.1.toNat x.2 := by
  unfold setsV
  rw [vtk_more h, List.foldl_append]; rfl
theorem setsV_get : ∀ (l : List (Int × Int)) (v : List Int) (i : Nat), Up l → (∀ x ∈ l, 0 ≤ x.1 ∧ x.1 < v.length) → i < v.length → (setsV v l).getD i 0 = (gt l (i : Int)).getD (v.getD i 0)
  | [], v, i, _, _, _ => rfl
  | x :: l, v, i, hu, hb, hi => by
    have hx := hb x (by simp)
    show (setsV (v.set x.1.toNat x.2) l).getD i 0 = _
    rw [setsV_get l _ i hu.tail (fun y hy => by rw [List.length_set]; exact hb y (by simp [hy])) (by rw [List.length_set]; exact hi), gt_cons, getD_set (by omega)]
    by_cases e : x.1 = (i : Int)
    · rw [if_pos e, if_pos (show i = x.1.toNat by omega)]
      have : gt l (i : Int) = none := gt_lt fun y hy => by have := hu.head y hy; omega
      rw [this]; rfl
    · rw [if_neg e, if_neg (show ¬ i = x.1.toNat by omega)]
theorem setsV_to {n : Int} {l : List (Int × Int)} (h : OkV n l) : setsV (List.replicate n.toNat 0) l = toL n l := by
  have hl : (setsV (List.replicate n.toNat 0) l).length = n.toNat := by rw [setsV_len, List.length_replicate]
  unfold toL
  refine tab_ext hl fun i hi => ?_
  have hg := setsV_get l (List.replicate n.toNat 0) i h.up (fun x hx => by have := h.lo x hx; rw [List.length_replicate]; omega) (by rw [List.length_replicate]; exact hi)
  rw [List.getD_eq_getElem?_getD, List.getElem?_eq_getElem (by omega)] at hg
  rw [List.getElem?_eq_getElem (by omega)]
  simp only [Option.getD_some] at hg
  rw [hg]
  simp [List.getD_eq_getElem?_getD, hi]
end
end Go.Proofs.Ytlbmjnammgffiaa
