/- Sparse vectors: at places of a set; without a place. Two sparse vectors: the places of both. What comes of two sparse vectors, place by place. -/
import Derived.Test.YtckbagpdahhiiaaV1
import Derived.Test.YtckbagpdahhiiaaF2
namespace Go.Proofs.Ytckbagpdahhiiaa
section
open Go.RowKit
attribute [local irreducible] FS FO IT HS

theorem its_loose (l : List (Int × Int)) : Blk.loose (.arr 2 (its l)) := by
  intro x hx
  obtain ⟨v, _, rfl⟩ := List.mem_map.1 hx
  rfl
theorem frz_rest {p : Int × Int → Bool} {l : List (Int × Int)} {z : List (Int × Int)} : SV.slc 2 (((its (rest p l ++ z)).drop 0).take (rest p l).length) = IL (rest p l) := by
  rw [List.drop_zero, its_take, List.take_left]; rfl
theorem Ib.sl {n : Int} {l : List (Int × Int)} (h : Ib l) : Ib (sl n l) := by
  unfold Go.Proofs.Ytckbagpdahhiiaa.sl; split
  · exact h
  · intro x hx; simp at hx
end
section
open Go.RowKit
attribute [local irreducible] FS FO IT HS

theorem its_c0 {x : Int × Int} {xs : List (Int × Int)} {z : List SV} (h : (its (x :: xs))[Int.toNat 0]? = some z) : z = [.int .i64 x.1, .int .i64 x.2] := by
  simpa [its] using h.symm
end
section
open Go.RowKit
attribute [local irreducible] FS FO IT HS
end
end Go.Proofs.Ytckbagpdahhiiaa
