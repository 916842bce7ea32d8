/- Products. -/
import Derived.Test.YtnalgofemikggaaTa
import Derived.Test.YtnalgofemikggaaOw
import Derived.Outline
namespace Go.Proofs.Ytnalgofemikggaa
open Go.RowKit
theorem infoW : (Try.prog.info? 24).map (fun i => (i.zero, i.size, i.bytes)) = some (some (.agg #[.int .i64 0, .int .u64 0]), 2, 16) := by kernel_rfl
/-- The first j products. -/
def prods (a x : List Int) (j : Nat) : List Int := (List.range j).map fun i => fac5 (a.getD i 0) * x.getD i 0
theorem prods_succ (a x : List Int) (j : Nat) : prods a x (j + 1) = prods a x j ++ [fac5 (a.getD j 0) * x.getD j 0] := by simp [prods, List.range_succ]
end Go.Proofs.Ytnalgofemikggaa
