/- The document's sets of places: words, places, lists. The document's sets of places: ranks, what two come to, parts. -/
import Derived.Test.YtelbhbadkbcakaaGreatF1
namespace Go.Proofs.YtelbhbadkbcakaaGreat
section
open Go.RowKit
attribute [local irreducible] FS FO IT HS
def Zb (l : List Int) : Prop:=∀ x ∈ l,-9223372036854775808 <= x /\ x <= 9223372036854775807
theorem Zb.at {l : List Int} (h : Zb l) (k : Nat) : -9223372036854775808 <= l.getD k 0 /\ l.getD k 0 <= 9223372036854775807:=by
  rw [List.getD_eq_getElem?_getD]
  cases hv : l[k]? with
  | none=>simp
  | some v=>exact h v (List.mem_of_getElem? hv)
theorem take_more {α : Type} {a b : List α} {k : Nat} (h : a.take k = b.take k) (he : a[k]? = b[k]?) : a.take (k + 1) = b.take (k + 1):=by
  rw [List.take_add_one,List.take_add_one,h,he]
end
section
open Go.RowKit
attribute [local irreducible] FS FO IT HS
theorem nextI_neg {ws : List Nat} {n : Int} : nextI ws n < 0 ↔ ∀ b ∈ bits ws,(b : Int) < n:=by
  unfold nextI
  cases h : (bits ws).find? (fun (b : Nat)=>decide (n <= (b : Int))) with
  | none =>
    rw [List.find?_eq_none] at h
    simp only [decide_eq_true_eq] at h
    show (-1 : Int) < 0 ↔ _
    refine ⟨fun _ b hb=>?_,fun _=>by omega⟩
    have:=h b hb; omega
  | some b =>
    have h1:=List.mem_of_find?_eq_some h
    have h2:=List.find?_some h
    simp only [decide_eq_true_eq] at h2
    show (b : Int) < 0 ↔ _
    refine ⟨fun hh=>by omega,fun hh=>?_⟩
    have:=hh b h1; omega
def rightB (ws : List Nat) (n : Int) : Bool:=decide (0 <= n) && (decide (n <= 4096) && (decide ((ws.length : Int) = wordsI n) && decide (nextI ws n < 0)))
end
end Go.Proofs.YtelbhbadkbcakaaGreat
