/- The document's sets of places: words, places, lists. The document's sets of places: ranks, what two come to, parts. -/
import Derived.Test.YtahpfomabgfmkaaK8
namespace Go.Proofs.Ytahpfomabgfmkaa
section
open Go.RowKit
attribute [local irreducible] FS FO IT HS

theorem zs_at {l : List Int} {k : Nat} {x : List SV} (h : (zs l)[k]? = some x) : x = [.int .i64 (l.getD k 0)] := by
  obtain ⟨v, hv, rfl⟩ := zs_get h
  rw [List.getD_eq_getElem?_getD, hv]; rfl
theorem U_at {l : List Nat} {k : Nat} {x : List SV} (h : (uw l)[k]? = some x) : x = [.int .u64 ((l.getD k 0 : Nat) : Int)] := by
  obtain ⟨v, hv, rfl⟩ := U_get h
  rw [List.getD_eq_getElem?_getD, hv]; rfl
theorem getD_get {α : Type} {l : List α} {k : Nat} (z : α) (h : k < l.length) : l[k]? = some (l.getD k z) := by
  rw [List.getD_eq_getElem?_getD, List.getElem?_eq_getElem h]; rfl

theorem take_more {α : Type} {a b : List α} {k : Nat} (h : a.take k = b.take k) (he : a[k]? = b[k]?) : a.take (k + 1) = b.take (k + 1) := by
  rw [List.take_add_one, List.take_add_one, h, he]
end
section
open Go.RowKit
attribute [local irreducible] FS FO IT HS

theorem nextI_neg {ws : List Nat} {n : Int} : nextI ws n < 0 ↔ ∀ b ∈ bits ws, (b : Int) < n := by
  unfold nextI
  cases h : (bits ws).find? (fun (b : Nat) => decide (n ≤ (b : Int))) with
  | none =>
    rw [List.find?_eq_none] at h
    simp only [decide_eq_true_eq] at h
    show (-1 : Int) < 0 ↔ _
    refine ⟨fun _ b hb => ?_, fun _ => by omega⟩
    have := h b hb; omega
  | some b =>
    have h1 := List.mem_of_find?_eq_some h
    have h2 := List.find?_some h
    simp only [decide_eq_true_eq] at h2
    show (b : Int) < 0 ↔ _
    refine ⟨fun hh => by omega, fun hh => ?_⟩
    have := hh b h1; omega

/-- A set of so many places. -/
def rightB (ws : List Nat) (n : Int) : Bool := decide (0 ≤ n) && (decide (n ≤ 4096) && (decide ((ws.length : Int) = wordsI n) && decide (nextI ws n < 0)))
end
end Go.Proofs.Ytahpfomabgfmkaa
