/- Two sparse vectors: the document's functions, further. -/
import Derived.Test.YtckbagpdahhiiaaV5
namespace Go.Proofs.Ytckbagpdahhiiaa
section
open Go.RowKit
attribute [local irreducible] FS FO IT HS

/-- An item of the first k more. -/
theorem vtake_more {l : List (Int × Int)} {k : Nat} (h : k < l.length) : l.take (k + 1) = l.take k ++ [l.getD k (0, 0)] := by
  rw [List.take_add_one, getD_some h]; rfl
end
end Go.Proofs.Ytckbagpdahhiiaa
