/-
  No cell of these rows narrows 'for every input' (looked for: loops, veiled, ifaces, maps, wideKeys, modest, calm, conditions, laid).
  DERIVED. THE GIVEN ROWS OF THIS SEAT. 4 by the template 'for every input the law returns true; each argument reads behind the call as it read before'; 0 by the template 'total and deterministic' (their statements: YtlbmjnammgffiaaTotals.lean).
  GIVEN WITH THE SEED: the statements are not yours to turn. If you find one false, say at which input.
  Laid BY PROGRAM, IN A SANDBOX (cutbox-rows.mjs): the forced cells as the released guide's own fill.sh prints them over the translation 771ea244d8220b0d… (all of the seat's roots in one cut). By AI agents, Wed Nov 11 2026. No macro, syntax, notation, axiom, sorry.
-/
import Derived.Test.YtlbmjnammgffiaaChecked
import GoSem.Claim
import GoSem.ClaimJoined
import GoSem.ClaimMapViews
import Derived.JoinedTies
import Derived.KernelRfl
namespace Go.Proofs.Ytlbmjnammgffiaa
/- THE CELL 'sum', in the pinned program and in every row, IS THE sha256 OF THE DUMP (.gsa) THAT YtlbmjnammgffiaaProg.lean LOADS. Nothing in Lean hashes anything: it is a label: what it is worth is what the hold of that sum in a sandbox is worth. -/
noncomputable def Try.pinned : Pinned := { name := "ytlbmjnammgffiaa", sum := "771ea244d8220b0d2ec606ed23712dde896020fbae403cf98fefa2298bcf8869", checked := Try.checked }
namespace Rows
def none {H : Type} : Left H := { results := [], args := [] }

/-- 'fretworklaw13.PullRaw': WHATEVER THE INPUT: true; the input reads as it did. -/
def pullRawSpec : ChangeSpec := { name := "pullRaw", fn := fun _ => fun
  | [d1, d2, d3] => { results := [.lit (.bool true)], args := [d1, d2, d3] }
  | _ => none }
def pullRawRow : OpenClaim := { program := "ytlbmjnammgffiaa", sum := "771ea244d8220b0d2ec606ed23712dde896020fbae403cf98fefa2298bcf8869", func := "fretwork/fretworklaw13.PullRaw", spec := "pullRaw", unfollowed := true, recurses := true, apart := false }
def PullRawSaid : Prop := pullRawRow.holds Try.pinned (OpenSpec.ofChange pullRawSpec)

/-- ITS FALSE NEIGHBOUR: 'it returns false'. Refute it at one input. -/
def pullRawWrong : ChangeSpec := { name := "pullRaw", fn := fun _ => fun
  | [d1, d2, d3] => { results := [.lit (.bool false)], args := [d1, d2, d3] }
  | _ => none }
def PullRawWrongFalsely : Prop := pullRawRow.holds Try.pinned (OpenSpec.ofChange pullRawWrong)

/-- 'fretworklaw13.PullSpreads': WHATEVER THE INPUT: true; the input reads as it did. -/
def pullSpreadsSpec : ChangeSpec := { name := "pullSpreads", fn := fun _ => fun
  | [d] => { results := [.lit (.bool true)], args := [d] }
  | _ => none }
def pullSpreadsRow : OpenClaim := { program := "ytlbmjnammgffiaa", sum := "771ea244d8220b0d2ec606ed23712dde896020fbae403cf98fefa2298bcf8869", func := "fretwork/fretworklaw13.PullSpreads", spec := "pullSpreads", unfollowed := true, recurses := true, apart := false }
def PullSpreadsSaid : Prop := pullSpreadsRow.holds Try.pinned (OpenSpec.ofChange pullSpreadsSpec)

/-- ITS FALSE NEIGHBOUR: 'it returns false'. Refute it at one input. -/
def pullSpreadsWrong : ChangeSpec := { name := "pullSpreads", fn := fun _ => fun
  | [d] => { results := [.lit (.bool false)], args := [d] }
  | _ => none }
def PullSpreadsWrongFalsely : Prop := pullSpreadsRow.holds Try.pinned (OpenSpec.ofChange pullSpreadsWrong)

/-- 'fretworklaw13.PullParts': WHATEVER THE INPUT: true; the input reads as it did. -/
def pullPartsSpec : ChangeSpec := { name := "pullParts", fn := fun _ => fun
  | [d] => { results := [.lit (.bool true)], args := [d] }
  | _ => none }
def pullPartsRow : OpenClaim := { program := "ytlbmjnammgffiaa", sum := "771ea244d8220b0d2ec606ed23712dde896020fbae403cf98fefa2298bcf8869", func := "fretwork/fretworklaw13.PullParts", spec := "pullParts", unfollowed := true, recurses := true, apart := false }
def PullPartsSaid : Prop := pullPartsRow.holds Try.pinned (OpenSpec.ofChange pullPartsSpec)

/-- ITS FALSE NEIGHBOUR: 'it returns false'. Refute it at one input. -/
def pullPartsWrong : ChangeSpec := { name := "pullParts", fn := fun _ => fun
  | [d] => { results := [.lit (.bool false)], args := [d] }
  | _ => none }
def PullPartsWrongFalsely : Prop := pullPartsRow.holds Try.pinned (OpenSpec.ofChange pullPartsWrong)

/-- 'fretworklaw13.PullFinds': WHATEVER THE INPUT: true; the input reads as it did. -/
def pullFindsSpec : ChangeSpec := { name := "pullFinds", fn := fun _ => fun
  | [d] => { results := [.lit (.bool true)], args := [d] }
  | _ => none }
def pullFindsRow : OpenClaim := { program := "ytlbmjnammgffiaa", sum := "771ea244d8220b0d2ec606ed23712dde896020fbae403cf98fefa2298bcf8869", func := "fretwork/fretworklaw13.PullFinds", spec := "pullFinds", unfollowed := true, recurses := true, apart := false }
def PullFindsSaid : Prop := pullFindsRow.holds Try.pinned (OpenSpec.ofChange pullFindsSpec)

/-- ITS FALSE NEIGHBOUR: 'it returns false'. Refute it at one input. -/
def pullFindsWrong : ChangeSpec := { name := "pullFinds", fn := fun _ => fun
  | [d] => { results := [.lit (.bool false)], args := [d] }
  | _ => none }
def PullFindsWrongFalsely : Prop := pullFindsRow.holds Try.pinned (OpenSpec.ofChange pullFindsWrong)

/- THE SECOND FORM. 'bulk': how many values and letters a reading holds, each counted each time it is reached (what is shared counts as often as it is met; a slice's spare places count too). A statement '..UptoSaid' is the law's where the arguments, and the package variables that the reading takes, are together of bulk at most 1048576: NARROWER than '..Said'. Prove '..Said' where nothing that the law and all that it calls make is longer than what came in: it says more and counts as full. Else prove '..UptoSaid'. A law counts once. -/
mutual
def uptoBulk {H : Type} : DataW H → Nat
  | .lit (.string bytes) => bytes.length + 1
  | .lit _ => 1
  | .nil => 1
  | .ptr d => uptoBulk d + 1
  | .slice elems spare => uptoBulkAll elems + uptoBulkAll spare + 1
  | .agg parts => uptoBulkAll parts + 1
  | .iface _ d => uptoBulk d + 1
  | .map entries => uptoBulkEntries entries + 1
  | .held _ => 1
def uptoBulkAll {H : Type} : List (DataW H) → Nat
  | [] => 0
  | d :: r => uptoBulk d + uptoBulkAll r
def uptoBulkEntries {H : Type} : List (Lit × DataW H) → Nat
  | [] => 0
  | x :: r => uptoBulkEntry x + uptoBulkEntries r
def uptoBulkEntry {H : Type} : Lit × DataW H → Nat
  | (.string bytes, d) => bytes.length + uptoBulk d + 1
  | (_, d) => uptoBulk d + 1
 end
def uptoSmall : (H : Type) → List (DataW H) → Bool := fun _ ds => decide (uptoBulkAll ds ≤ 1048576)
def OpenSpec.upto (s : _root_.Go.ChangeSpec) : _root_.Go.OpenSpec := { _root_.Go.OpenSpec.ofChange s with cond := some uptoSmall }

/-- 'fretworklaw13.PullRaw', WHERE WHAT IT READS IS OF BULK AT MOST 1048576: true; the input reads as it did. -/
def pullRawUptoRow : OpenClaim := { program := "ytlbmjnammgffiaa", sum := "771ea244d8220b0d2ec606ed23712dde896020fbae403cf98fefa2298bcf8869", func := "fretwork/fretworklaw13.PullRaw", spec := "pullRaw", unfollowed := true, recurses := true, apart := false, narrowed := true }
def PullRawUptoSaid : Prop := pullRawUptoRow.holds Try.pinned (OpenSpec.upto pullRawSpec)

/-- 'fretworklaw13.PullSpreads', WHERE WHAT IT READS IS OF BULK AT MOST 1048576: true; the input reads as it did. -/
def pullSpreadsUptoRow : OpenClaim := { program := "ytlbmjnammgffiaa", sum := "771ea244d8220b0d2ec606ed23712dde896020fbae403cf98fefa2298bcf8869", func := "fretwork/fretworklaw13.PullSpreads", spec := "pullSpreads", unfollowed := true, recurses := true, apart := false, narrowed := true }
def PullSpreadsUptoSaid : Prop := pullSpreadsUptoRow.holds Try.pinned (OpenSpec.upto pullSpreadsSpec)

/-- 'fretworklaw13.PullParts', WHERE WHAT IT READS IS OF BULK AT MOST 1048576: true; the input reads as it did. -/
def pullPartsUptoRow : OpenClaim := { program := "ytlbmjnammgffiaa", sum := "771ea244d8220b0d2ec606ed23712dde896020fbae403cf98fefa2298bcf8869", func := "fretwork/fretworklaw13.PullParts", spec := "pullParts", unfollowed := true, recurses := true, apart := false, narrowed := true }
def PullPartsUptoSaid : Prop := pullPartsUptoRow.holds Try.pinned (OpenSpec.upto pullPartsSpec)

/-- 'fretworklaw13.PullFinds', WHERE WHAT IT READS IS OF BULK AT MOST 1048576: true; the input reads as it did. -/
def pullFindsUptoRow : OpenClaim := { program := "ytlbmjnammgffiaa", sum := "771ea244d8220b0d2ec606ed23712dde896020fbae403cf98fefa2298bcf8869", func := "fretwork/fretworklaw13.PullFinds", spec := "pullFinds", unfollowed := true, recurses := true, apart := false, narrowed := true }
def PullFindsUptoSaid : Prop := pullFindsUptoRow.holds Try.pinned (OpenSpec.upto pullFindsSpec)

end Rows
end Go.Proofs.Ytlbmjnammgffiaa
