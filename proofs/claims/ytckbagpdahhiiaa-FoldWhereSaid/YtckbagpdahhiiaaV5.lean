/- Two sparse vectors: the document's functions. -/
import Derived.Test.YtckbagpdahhiiaaV4
namespace Go.Proofs.Ytckbagpdahhiiaa
section
open Go.RowKit
attribute [local irreducible] FS FO IT HS
end
end Go.Proofs.Ytckbagpdahhiiaa
