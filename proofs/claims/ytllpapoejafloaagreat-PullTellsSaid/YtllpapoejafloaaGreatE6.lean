/- Sums of all rows as a vector; rings spread (plain). A matrix times what two vectors come to. Just the rows that have a column at which the vector is 1. -/
import Derived.Test.YtllpapoejafloaaGreatE5
namespace Go.Proofs.YtllpapoejafloaaGreat
section
open Go.RowKit
attribute [local irreducible] FS FO IT HS

/-- What the k-th row is told as. -/
def dn (r : Int) (R : Nat → Option Int) (k : Int) : Option Int := (R k.toNat).bind fun s => if nar s = rZero r then none else some (nar s)
end
section
open Go.RowKit
attribute [local irreducible] FS FO IT HS
end
section
open Go.RowKit
attribute [local irreducible] FS FO IT HS
end
end Go.Proofs.YtllpapoejafloaaGreat
