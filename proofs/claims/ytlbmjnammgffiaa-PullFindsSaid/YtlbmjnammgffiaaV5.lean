/- The values at some places: Select. A vector without a value: Drop of both. One more item in the midst of a vector's items: slices.Insert. slices.Insert: what it comes to. A vector with a value: spvec.Put. Values assigned at some places: Assign of both. The laws on vectors folded: the program answers as the document. Vectors folded: what is less, alike and more; the least item. Vectors one behind the other: the document's function; what such come to. What is assigned at unlike places is selected there. -/
import Derived.Test.YtlbmjnammgffiaaV4
import Derived.Test.YtlbmjnammgffiaaW1
import Derived.Laws.Externs
import Derived.Deep.RegionLaw
import Derived.Lib.AppendZerosOnto
import Derived.Lib.AppendZeros
import Derived.OwnWalk
namespace Go.Proofs.Ytlbmjnammgffiaa
section
open Go.RowKit
attribute [local irreducible] FS FO IT HS

theorem zs_go {l : List Int} {q i : Nat} {v : Int} {K : List SV → Prop} (hq : q = i) (hv : l.getD i 0 = v) (h : K [.int .i64 v]) : ∀ x, (zs l)[q]? = some x → K x := fun x hx => by
  subst hq
  obtain ⟨y, hy, rfl⟩ := zs_get hx
  have : y = v := by rw [← hv]; simp [hy]
  rw [this]; exact h
end
section
open Go.RowKit
attribute [local irreducible] FS FO IT HS
end
section
open Go.RowKit
attribute [local irreducible] FS FO IT HS

section
variable {P : Program}

end
end
section
open Go.RowKit
attribute [local irreducible] FS FO IT HS
end
section
open Go.RowKit
attribute [local irreducible] FS FO IT HS

/-- A vector whose items are one's own, lent. -/
theorem lend_vec {P : Program} {g : FuncId} {H : List Blk} {K : SV → Prop} {k wd n : Nat} {N : SV} {xs : List (List SV)} {rest : List SV} {res : SV} (hk : H[k]? = some (.arr wd xs)) (hn : n = xs.length) (hN : N.pure = true) (hp : SV.pure.pureL rest = true) (h : FS P g (.agg [N, .slc wd xs] :: rest) res) (hl : SV.loose res = true) (hK : K res) : lendK P g (.agg [N, .osl k wd 0 n] :: rest) H K := by
  have h1 : frzK 3 H (.osl k wd 0 n) fun y => frzs (frzK 4 H) rest fun ys => ∃ res, FS P g (.agg [N, y] :: ys) res ∧ SV.loose res = true ∧ K res := by
    show match H[k]? with
      | some (.arr wd' xs) => wd' = wd ∧ 0 + n ≤ xs.length ∧ frzs (frzK 4 H) rest fun ys => ∃ res, FS P g (.agg [N, .slc wd ((xs.drop 0).take n)] :: ys) res ∧ SV.loose res = true ∧ K res
      | _ => False
    rw [hk]
    refine ⟨rfl, by omega, frzs_pure (frz_pure 4) rest _ hp ⟨res, ?_, hl, hK⟩⟩
    rw [List.drop_zero, hn, List.take_length]
    exact h
  show frzK 3 H N fun z => frzK 3 H (.osl k wd 0 n) fun y => frzs (frzK 4 H) rest fun ys => ∃ res, FS P g (.agg [z, y] :: ys) res ∧ SV.loose res = true ∧ K res
  exact frz_pure 3 N _ hN h1
end
section
open Go.RowKit
attribute [local irreducible] FS FO IT HS
end
section
open Go.RowKit
attribute [local irreducible] FS FO IT HS
end
section
open Go.RowKit
attribute [local irreducible] FS FO IT HS
end
section
open Go.RowKit
attribute [local irreducible] FS FO IT HS
end
section
open Go.RowKit
attribute [local irreducible] FS FO IT HS
end
end Go.Proofs.Ytlbmjnammgffiaa
