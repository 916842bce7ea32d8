/- The values at some places: Select. A vector without a value: Drop of both. One more item in the midst of a vector's items: slices.Insert. slices.Insert: what it comes to. A vector with a value: spvec.Put. Values assigned at some places: Assign of both. The laws on vectors folded: the program answers as the document. Vectors folded: what is less, alike and more; the least item. Vectors one behind the other: the document's function; what such come to. What is assigned at unlike places is selected there. -/
import Derived.Test.YtelbhbadkbcakaaGreatV4
import Derived.Test.YtelbhbadkbcakaaGreatW1
import Derived.Laws.Externs
import Derived.Deep.RegionLaw
import Derived.Lib.AppendZerosOnto
import Derived.Lib.AppendZeros
import Derived.OwnWalk
namespace Go.Proofs.YtelbhbadkbcakaaGreat
section
open Go.RowKit
attribute [local irreducible] FS FO IT HS
theorem zs_go {l : List Int} {q i : Nat} {v : Int} {K : List SV -> Prop} (hq : q = i) (hv : l.getD i 0 = v) (h : K [.int .i64 v]) : ∀ x,(zs l)[q]? = some x -> K x:=fun x hx=>by
  subst hq
  obtain ⟨y,hy,rfl⟩:=zs_get hx
  have : y = v:=by rw [<- hv]; simp [hy]
  rw [this]; exact h
end
section
open Go.RowKit
attribute [local irreducible] FS FO IT HS
end
section
open Go.RowKit
attribute [local irreducible] FS FO IT HS
section
variable {P : Program}
end
end
section
open Go.RowKit
attribute [local irreducible] FS FO IT HS
end
section
open Go.RowKit
attribute [local irreducible] FS FO IT HS
theorem posI_le (l : List (Int × Int)) (a : Int) : posI l a <= l.length:=List.findIdx_le_length
theorem posI_cons (x : Int × Int) (l : List (Int × Int)) (a : Int) : posI (x::l) a = if a <= x.1 then 0 else posI l a + 1:=by
  unfold posI
  rw [List.findIdx_cons]
  by_cases h : a <= x.1 <;> simp [h]
theorem its_one {l : List (Int × Int)} {q : Nat} {x : Int × Int} (h : l[q]? = some x) : (its l)[q]? = some [.int .i64 x.1,.int .i64 x.2]:=by simp [its,h]
theorem frz_len {k : Nat} {m : List (Int × Int)} (h : k = m.length) : List.take k (List.drop 0 (its m)) = its m:=by
  rw [List.drop_zero,List.take_of_length_le (by rw [its_len]; omega)]
end
section
open Go.RowKit
attribute [local irreducible] FS FO IT HS
end
section
open Go.RowKit
attribute [local irreducible] FS FO IT HS
end
section
open Go.RowKit
attribute [local irreducible] FS FO IT HS
end
section
open Go.RowKit
attribute [local irreducible] FS FO IT HS
def mvI (b : Int) (l : List (Int × Int)) : List (Int × Int):=l.map fun x=>(b + x.1,x.2)
theorem mvI_len (b : Int) (l : List (Int × Int)) : (mvI b l).length = l.length:=by simp [mvI]
end
section
open Go.RowKit
attribute [local irreducible] FS FO IT HS
end
end Go.Proofs.YtelbhbadkbcakaaGreat
