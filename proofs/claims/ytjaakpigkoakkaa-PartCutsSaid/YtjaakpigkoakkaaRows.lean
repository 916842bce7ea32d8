/-
  No cell of these rows narrows 'for every input' (looked for: loops, veiled, ifaces, maps, wideKeys, modest, calm, conditions, laid).
  DERIVED. THE GIVEN ROWS OF THIS SEAT. 5 by the template 'for every input the law returns true; each argument reads behind the call as it read before'; 0 by the template 'total and deterministic' (their statements: YtjaakpigkoakkaaTotals.lean).
  GIVEN WITH THE SEED: the statements are not yours to turn. If you find one false, say at which input.
  Laid BY PROGRAM, IN A SANDBOX (cutbox-rows.mjs): the forced cells as the released guide's own fill.sh prints them over the translation 5feafc4b9c5c0e58… (all of the seat's roots in one cut). By AI agents, Wed Nov 11 2026. No macro, syntax, notation, axiom, sorry.
-/
import Derived.Test.YtjaakpigkoakkaaChecked
import GoSem.Claim
import GoSem.ClaimJoined
import GoSem.ClaimMapViews
import Derived.JoinedTies
import Derived.KernelRfl
namespace Go.Proofs.Ytjaakpigkoakkaa
/- THE CELL 'sum', in the pinned program and in every row, IS THE sha256 OF THE DUMP (.gsa) THAT YtjaakpigkoakkaaProg.lean LOADS. Nothing in Lean hashes anything: it is a label: what it is worth is what the hold of that sum in a sandbox is worth. -/
noncomputable def Try.pinned : Pinned := { name := "ytjaakpigkoakkaa", sum := "5feafc4b9c5c0e58f393c612a15ae8bfed7fff4bf76e95bb623f94730cc54492", checked := Try.checked }
namespace Rows
def none {H : Type} : Left H := { results := [], args := [] }

/-- 'fretworklaw17.PartIs': WHATEVER THE INPUT: true; the input reads as it did. -/
def partIsSpec : ChangeSpec := { name := "partIs", fn := fun _ => fun
  | [d1, d2, d3] => { results := [.lit (.bool true)], args := [d1, d2, d3] }
  | _ => none }
def partIsRow : OpenClaim := { program := "ytjaakpigkoakkaa", sum := "5feafc4b9c5c0e58f393c612a15ae8bfed7fff4bf76e95bb623f94730cc54492", func := "fretwork/fretworklaw17.PartIs", spec := "partIs", unfollowed := true, recurses := true, apart := false }
def PartIsSaid : Prop := partIsRow.holds Try.pinned (OpenSpec.ofChange partIsSpec)

/-- ITS FALSE NEIGHBOUR: 'it returns false'. Refute it at one input. -/
def partIsWrong : ChangeSpec := { name := "partIs", fn := fun _ => fun
  | [d1, d2, d3] => { results := [.lit (.bool false)], args := [d1, d2, d3] }
  | _ => none }
def PartIsWrongFalsely : Prop := partIsRow.holds Try.pinned (OpenSpec.ofChange partIsWrong)

/-- 'fretworklaw17.PartSegments': WHATEVER THE INPUT: true; the input reads as it did. -/
def partSegmentsSpec : ChangeSpec := { name := "partSegments", fn := fun _ => fun
  | [d1, d2, d3] => { results := [.lit (.bool true)], args := [d1, d2, d3] }
  | _ => none }
def partSegmentsRow : OpenClaim := { program := "ytjaakpigkoakkaa", sum := "5feafc4b9c5c0e58f393c612a15ae8bfed7fff4bf76e95bb623f94730cc54492", func := "fretwork/fretworklaw17.PartSegments", spec := "partSegments", unfollowed := true, recurses := true, apart := false }
def PartSegmentsSaid : Prop := partSegmentsRow.holds Try.pinned (OpenSpec.ofChange partSegmentsSpec)

/-- ITS FALSE NEIGHBOUR: 'it returns false'. Refute it at one input. -/
def partSegmentsWrong : ChangeSpec := { name := "partSegments", fn := fun _ => fun
  | [d1, d2, d3] => { results := [.lit (.bool false)], args := [d1, d2, d3] }
  | _ => none }
def PartSegmentsWrongFalsely : Prop := partSegmentsRow.holds Try.pinned (OpenSpec.ofChange partSegmentsWrong)

/-- 'fretworklaw17.PartOnce': WHATEVER THE INPUT: true; the input reads as it did. -/
def partOnceSpec : ChangeSpec := { name := "partOnce", fn := fun _ => fun
  | [d1, d2] => { results := [.lit (.bool true)], args := [d1, d2] }
  | _ => none }
def partOnceRow : OpenClaim := { program := "ytjaakpigkoakkaa", sum := "5feafc4b9c5c0e58f393c612a15ae8bfed7fff4bf76e95bb623f94730cc54492", func := "fretwork/fretworklaw17.PartOnce", spec := "partOnce", unfollowed := true, recurses := true, apart := false }
def PartOnceSaid : Prop := partOnceRow.holds Try.pinned (OpenSpec.ofChange partOnceSpec)

/-- ITS FALSE NEIGHBOUR: 'it returns false'. Refute it at one input. -/
def partOnceWrong : ChangeSpec := { name := "partOnce", fn := fun _ => fun
  | [d1, d2] => { results := [.lit (.bool false)], args := [d1, d2] }
  | _ => none }
def PartOnceWrongFalsely : Prop := partOnceRow.holds Try.pinned (OpenSpec.ofChange partOnceWrong)

/-- 'fretworklaw17.PartCuts': WHATEVER THE INPUT: true; the input reads as it did. -/
def partCutsSpec : ChangeSpec := { name := "partCuts", fn := fun _ => fun
  | [d1, d2, d3] => { results := [.lit (.bool true)], args := [d1, d2, d3] }
  | _ => none }
def partCutsRow : OpenClaim := { program := "ytjaakpigkoakkaa", sum := "5feafc4b9c5c0e58f393c612a15ae8bfed7fff4bf76e95bb623f94730cc54492", func := "fretwork/fretworklaw17.PartCuts", spec := "partCuts", unfollowed := true, recurses := true, apart := false }
def PartCutsSaid : Prop := partCutsRow.holds Try.pinned (OpenSpec.ofChange partCutsSpec)

/-- ITS FALSE NEIGHBOUR: 'it returns false'. Refute it at one input. -/
def partCutsWrong : ChangeSpec := { name := "partCuts", fn := fun _ => fun
  | [d1, d2, d3] => { results := [.lit (.bool false)], args := [d1, d2, d3] }
  | _ => none }
def PartCutsWrongFalsely : Prop := partCutsRow.holds Try.pinned (OpenSpec.ofChange partCutsWrong)

/-- 'fretworklaw17.PartPlaces': WHATEVER THE INPUT: true; the input reads as it did. -/
def partPlacesSpec : ChangeSpec := { name := "partPlaces", fn := fun _ => fun
  | [d1, d2, d3] => { results := [.lit (.bool true)], args := [d1, d2, d3] }
  | _ => none }
def partPlacesRow : OpenClaim := { program := "ytjaakpigkoakkaa", sum := "5feafc4b9c5c0e58f393c612a15ae8bfed7fff4bf76e95bb623f94730cc54492", func := "fretwork/fretworklaw17.PartPlaces", spec := "partPlaces", unfollowed := true, recurses := true, apart := false }
def PartPlacesSaid : Prop := partPlacesRow.holds Try.pinned (OpenSpec.ofChange partPlacesSpec)

/-- ITS FALSE NEIGHBOUR: 'it returns false'. Refute it at one input. -/
def partPlacesWrong : ChangeSpec := { name := "partPlaces", fn := fun _ => fun
  | [d1, d2, d3] => { results := [.lit (.bool false)], args := [d1, d2, d3] }
  | _ => none }
def PartPlacesWrongFalsely : Prop := partPlacesRow.holds Try.pinned (OpenSpec.ofChange partPlacesWrong)

/- THE SECOND FORM. 'bulk': how many values and letters a reading holds, each counted each time it is reached (what is shared counts as often as it is met; a slice's spare places count too). A statement '..UptoSaid' is the law's where the arguments, and the package variables that the reading takes, are together of bulk at most 1048576: NARROWER than '..Said'. Prove '..Said' where nothing that the law and all that it calls make is longer than what came in: it says more and counts as full. Else prove '..UptoSaid'. A law counts once. -/
mutual
def uptoBulk {H : Type} : DataW H → Nat
  | .lit (.string bytes) => bytes.length + 1
  | .lit _ => 1
  | .nil => 1
  | .ptr d => uptoBulk d + 1
  | .slice elems spare => uptoBulkAll elems + uptoBulkAll spare + 1
  | .agg parts => uptoBulkAll parts + 1
  | .iface _ d => uptoBulk d + 1
  | .map entries => uptoBulkEntries entries + 1
  | .held _ => 1
def uptoBulkAll {H : Type} : List (DataW H) → Nat
  | [] => 0
  | d :: r => uptoBulk d + uptoBulkAll r
def uptoBulkEntries {H : Type} : List (Lit × DataW H) → Nat
  | [] => 0
  | x :: r => uptoBulkEntry x + uptoBulkEntries r
def uptoBulkEntry {H : Type} : Lit × DataW H → Nat
  | (.string bytes, d) => bytes.length + uptoBulk d + 1
  | (_, d) => uptoBulk d + 1
 end
def uptoSmall : (H : Type) → List (DataW H) → Bool := fun _ ds => decide (uptoBulkAll ds ≤ 1048576)
def OpenSpec.upto (s : _root_.Go.ChangeSpec) : _root_.Go.OpenSpec := { _root_.Go.OpenSpec.ofChange s with cond := some uptoSmall }

/-- 'fretworklaw17.PartIs', WHERE WHAT IT READS IS OF BULK AT MOST 1048576: true; the input reads as it did. -/
def partIsUptoRow : OpenClaim := { program := "ytjaakpigkoakkaa", sum := "5feafc4b9c5c0e58f393c612a15ae8bfed7fff4bf76e95bb623f94730cc54492", func := "fretwork/fretworklaw17.PartIs", spec := "partIs", unfollowed := true, recurses := true, apart := false, narrowed := true }
def PartIsUptoSaid : Prop := partIsUptoRow.holds Try.pinned (OpenSpec.upto partIsSpec)

/-- 'fretworklaw17.PartSegments', WHERE WHAT IT READS IS OF BULK AT MOST 1048576: true; the input reads as it did. -/
def partSegmentsUptoRow : OpenClaim := { program := "ytjaakpigkoakkaa", sum := "5feafc4b9c5c0e58f393c612a15ae8bfed7fff4bf76e95bb623f94730cc54492", func := "fretwork/fretworklaw17.PartSegments", spec := "partSegments", unfollowed := true, recurses := true, apart := false, narrowed := true }
def PartSegmentsUptoSaid : Prop := partSegmentsUptoRow.holds Try.pinned (OpenSpec.upto partSegmentsSpec)

/-- 'fretworklaw17.PartOnce', WHERE WHAT IT READS IS OF BULK AT MOST 1048576: true; the input reads as it did. -/
def partOnceUptoRow : OpenClaim := { program := "ytjaakpigkoakkaa", sum := "5feafc4b9c5c0e58f393c612a15ae8bfed7fff4bf76e95bb623f94730cc54492", func := "fretwork/fretworklaw17.PartOnce", spec := "partOnce", unfollowed := true, recurses := true, apart := false, narrowed := true }
def PartOnceUptoSaid : Prop := partOnceUptoRow.holds Try.pinned (OpenSpec.upto partOnceSpec)

/-- 'fretworklaw17.PartCuts', WHERE WHAT IT READS IS OF BULK AT MOST 1048576: true; the input reads as it did. -/
def partCutsUptoRow : OpenClaim := { program := "ytjaakpigkoakkaa", sum := "5feafc4b9c5c0e58f393c612a15ae8bfed7fff4bf76e95bb623f94730cc54492", func := "fretwork/fretworklaw17.PartCuts", spec := "partCuts", unfollowed := true, recurses := true, apart := false, narrowed := true }
def PartCutsUptoSaid : Prop := partCutsUptoRow.holds Try.pinned (OpenSpec.upto partCutsSpec)

/-- 'fretworklaw17.PartPlaces', WHERE WHAT IT READS IS OF BULK AT MOST 1048576: true; the input reads as it did. -/
def partPlacesUptoRow : OpenClaim := { program := "ytjaakpigkoakkaa", sum := "5feafc4b9c5c0e58f393c612a15ae8bfed7fff4bf76e95bb623f94730cc54492", func := "fretwork/fretworklaw17.PartPlaces", spec := "partPlaces", unfollowed := true, recurses := true, apart := false, narrowed := true }
def PartPlacesUptoSaid : Prop := partPlacesUptoRow.holds Try.pinned (OpenSpec.upto partPlacesSpec)

end Rows
end Go.Proofs.Ytjaakpigkoakkaa
