/- Rows that a call appends to: what is known of them in larger worlds. -/
import Derived.Test.YtnalgofemikggaaWd
import Derived.Maps.AppendAt
import Derived.OwnWalk
import Derived.WalkSmall
namespace Go.Proofs.Ytnalgofemikggaa
open Go.RowKit
section
variable {w w' : World} {base : Nat} {e : TypeId} {size : Nat} {v : Value} {n : Nat} {xs : List Value}
theorem own_ext (h : w.ownsRow base e size v n xs) (k : Ext w w') : w'.ownsRow base e size v n xs :=
  h.kept (row := none) ⟨k.os, k.tape, k.output, k.size, fun i hi _ => k.block i hi⟩ (by cases v.ownBlock with | none => exact .inl rfl | some _ => exact .inr (by simp))
theorem own_ge (h : w.ownsRow base e size v n xs) : ∀ k, v.ownBlock = some k → base ≤ k := fun k hk => (h.lt k hk).1
theorem own_box (h : w.ownsRow base e size v n xs) :
    (v = .slice none 0 0 ∧ n = 0 ∧ xs = []) ∨ ∃ g cap, v = .slice (some ⟨g, 0, none⟩) n cap ∧ base ≤ g ∧ n ≤ cap ∧ cap ≤ maxLen ∧ Box w g xs := by
  obtain ⟨hl, h | ⟨g, cap, cur, h1, h2, h3, h4, h5, h6, h7⟩⟩ := h
  · obtain ⟨h1, h2⟩ := h
    refine .inl ⟨h1, h2, ?_⟩
    subst h2
    exact List.eq_nil_of_length_eq_zero (by simpa using hl)
  · refine .inr ⟨g, cap, h1, h2, h4, h5, (Array.getElem?_eq_some_iff.1 h3).1, fun i hi => ?_, fun i => ?_⟩
    · subst h7
      simp [World.cell?, h3]
    · simp [World.frozen?, h3]
theorem Ext.grown {w1 w2 : World} {row : Option Nat} (h : Ext w w1) (hg : w1.grownBy w2 row) (hr : ∀ k, row = some k → w.heap.size ≤ k) : Ext w w2 := Below.grown h hg h.size hr
theorem box_grown {w1 : World} {row : Option Nat} {b : Nat} {cs : List Value} (h : Box w b cs) (hg : w.grownBy w1 row) (hb : some b ≠ row) : Box w1 b cs :=
  ⟨Nat.lt_of_lt_of_le h.1 hg.size, fun i hi => by rw [World.cell?_of_block (w := w) (hg.block b h.1 hb)]; exact h.2.1 i hi, fun i => by rw [World.frozen?_of_block (w := w) (hg.block b h.1 hb)]; exact h.2.2 i⟩
theorem own_ne (h : w.ownsRow base e size v n xs) {g : Nat} (hg : w.heap.size ≤ g) : some g ≠ v.ownBlock := fun hh => by have := (h.lt g hh.symm).2; omega
/-- Two rows stand apart. -/
def Apart (u v : Value) : Prop := u.ownBlock = none ∨ u.ownBlock ≠ v.ownBlock
theorem Apart.symm {u v : Value} (h : Apart u v) : Apart v u := by
  rcases h with h | h
  · cases hv : v.ownBlock with
    | none => exact .inl hv
    | some k => exact .inr (by rw [h, hv]; simp)
  · exact .inr (Ne.symm h)
theorem apart_new {u v v' : Value} (hu : w.ownsRow base e size u n xs) (h : Apart u v) (hat : v'.ownBlock = v.ownBlock ∨ ∃ g, v'.ownBlock = some g ∧ w.heap.size ≤ g) : Apart u v' := by
  rcases hat with hat | ⟨g, hat, hg⟩
  · unfold Apart; rw [hat]; exact h
  · cases hb : u.ownBlock with
    | none => exact .inl hb
    | some k =>
      refine .inr ?_
      rw [hb, hat]
      have := (hu.lt k hb).2
      intro hh
      have := Option.some.inj hh
      omega
end
/-- The cells of wide numbers, one behind the other. -/
def wcells : List Int → List Value
  | [] => []
  | x :: l => .int .i64 (hi x) :: .int .u64 (lo x) :: wcells l
theorem wcells_append (l m : List Int) : wcells (l ++ m) = wcells l ++ wcells m := by
  induction l with
  | nil => rfl
  | cons x l ih => simp [wcells, ih]
theorem wcells_length (l : List Int) : (wcells l).length = l.length * 2 := by
  induction l with
  | nil => rfl
  | cons x l ih => simp [wcells, ih]; omega
theorem wcells_hi (l : List Int) (i : Nat) (hl : i < l.length) : (wcells l)[2 * i]? = some (.int .i64 (hi (l.getD i 0))) := by
  induction l generalizing i with
  | nil => simp at hl
  | cons x l ih =>
    cases i with
    | zero => rfl
    | succ i => rw [show 2 * (i + 1) = 2 * i + 1 + 1 by omega]; simpa [wcells] using ih i (by simpa using hl)
theorem wcells_lo (l : List Int) (i : Nat) (hl : i < l.length) : (wcells l)[2 * i + 1]? = some (.int .u64 (lo (l.getD i 0))) := by
  induction l generalizing i with
  | nil => simp at hl
  | cons x l ih =>
    cases i with
    | zero => rfl
    | succ i => rw [show 2 * (i + 1) + 1 = 2 * i + 1 + 1 + 1 by omega]; simpa [wcells] using ih i (by simpa using hl)
theorem wcells_set (l : List Int) (i : Nat) (x : Int) : ((wcells l).set (2 * i) (.int .i64 (hi x))).set (2 * i + 1) (.int .u64 (lo x)) = wcells (l.set i x) := by
  induction l generalizing i with
  | nil => simp [wcells]
  | cons y l ih =>
    cases i with
    | zero => simp [wcells]
    | succ i => rw [show 2 * (i + 1) = 2 * i + 1 + 1 by omega]; simp [wcells, ih]
theorem wbox_at {w : World} {b : Nat} {l : List Int} (h : Box w b (wcells l)) (i : Nat) (hl : i < l.length) :
    w.cell? ⟨b, i * 2, none⟩ = some (.int .i64 (hi (l.getD i 0))) ∧ w.cell? ⟨b, i * 2 + 1, none⟩ = some (.int .u64 (lo (l.getD i 0))) := by
  have h1 := wcells_hi l i hl
  have h2 := wcells_lo l i hl
  rw [Nat.mul_comm 2 i] at h1 h2
  obtain ⟨g1, e1⟩ := List.getElem?_eq_some_iff.1 h1
  obtain ⟨g2, e2⟩ := List.getElem?_eq_some_iff.1 h2
  exact ⟨by rw [← e1]; exact h.2.1 _ g1, by rw [← e2]; exact h.2.1 _ g2⟩
theorem wbox_set {w : World} {b : Nat} {l : List Int} (h : Box w b (wcells l)) (i : Nat) (x : Int) :
    Box ((w.setCell ⟨b, i * 2, none⟩ (.int .i64 (hi x))).setCell ⟨b, i * 2 + 1, none⟩ (.int .u64 (lo x))) b (wcells (l.set i x)) := by
  rw [← wcells_set, Nat.mul_comm 2 i]
  exact (h.set _ _).set _ _
theorem sum_set (l : List Int) (i : Nat) (x : Int) (h : i < l.length) : (l.set i x).sum = l.sum - l.getD i 0 + x := by
  induction l generalizing i with
  | nil => simp at h
  | cons y l ih =>
    cases i with
    | zero => simp; omega
    | succ i => have := ih i (by simpa using h); simp [List.getD_eq_getElem?_getD] at this ⊢; omega
theorem sum_swap (l : List Int) (k m : Nat) (hk : k < l.length) (hm : m < l.length) : ((l.set k (l.getD m 0)).set m (l.getD k 0)).sum = l.sum := by
  rw [sum_set _ _ _ (by simpa using hm), sum_set _ _ _ hk]
  by_cases h : k = m
  · subst h
    simp [List.getD_eq_getElem?_getD, hk]
  · have : (l.set k (l.getD m 0)).getD m 0 = l.getD m 0 := by
      simp [List.getD_eq_getElem?_getD, List.getElem?_set_ne h]
    rw [this]; omega
def sumTo (l : List Int) (i : Nat) : Int := (l.take i).sum
theorem sumTo_zero (l : List Int) : sumTo l 0 = 0 := rfl
theorem sumTo_succ (l : List Int) (i : Nat) (h : i < l.length) : sumTo l (i + 1) = sumTo l i + l.getD i 0 := by
  unfold sumTo
  rw [List.take_add_one, List.getElem?_eq_getElem h, List.sum_append, List.getD_eq_getElem?_getD, List.getElem?_eq_getElem h]
  simp
theorem sumTo_all (l : List Int) (n : Nat) (h : l.length = n) : sumTo l n = l.sum := by
  unfold sumTo
  rw [List.take_of_length_le (by omega)]
end Go.Proofs.Ytnalgofemikggaa
