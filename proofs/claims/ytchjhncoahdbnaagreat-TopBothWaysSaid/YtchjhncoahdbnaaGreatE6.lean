/- Sums of all rows as a vector; rings spread (plain). -/
import Derived.Test.YtchjhncoahdbnaaGreatE5
namespace Go.Proofs.YtchjhncoahdbnaaGreat
section
open Go.RowKit
attribute [local irreducible] FS FO IT HS
def dn (r : Int) (R : Nat → Option Int) (k : Int) : Option Int := (R k.toNat).bind fun s => if nar s = rZero r then none else some (nar s)
theorem sumsL_tab (R : Nat → Option Int) (m : Nat) : sumsL R (List.range m) = tabL (fun k => R k.toNat) m := rfl
end
end Go.Proofs.YtchjhncoahdbnaaGreat
