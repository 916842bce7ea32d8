/- The laws on two sparse vectors: the program answers as the document. -/
import Derived.Test.YtckbagpdahhiiaaV8
namespace Go.Proofs.Ytckbagpdahhiiaa
section
open Go.RowKit
attribute [local irreducible] FS FO IT HS

theorem fs_same9 (n : Int) (l : List (Int × Int)) (hl : l.length ≤ 1000000000) : FS Try.prog 22 [VC n l, VC n l] (.bool true) := by
  have := fs_r9Same n n l l hl hl
  rwa [decide_eq_true rfl, decide_eq_true rfl, Bool.true_and] at this
theorem Ib.take {l : List (Int × Int)} (h : Ib l) (k : Nat) : Ib (l.take k) := fun x hx => h x (List.mem_of_mem_take hx)
end
end Go.Proofs.Ytckbagpdahhiiaa
