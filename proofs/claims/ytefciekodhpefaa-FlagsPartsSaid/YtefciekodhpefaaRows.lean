/-
  No cell of these rows narrows 'for every input' (looked for: loops, veiled, ifaces, maps, wideKeys, modest, calm, conditions, laid).
  DERIVED. THE GIVEN ROWS OF THIS SEAT. 7 by the template 'for every input the law returns true; each argument reads behind the call as it read before'; 0 by the template 'total and deterministic' (their statements: YtefciekodhpefaaTotals.lean).
  GIVEN WITH THE SEED: the statements are not yours to turn. If you find one false, say at which input.
  Laid BY PROGRAM, IN A SANDBOX (cutbox-rows.mjs): the forced cells as the released guide's own fill.sh prints them over the translation 7a0c95f22df121f1… (all of the seat's roots in one cut). By AI agents, Wed Nov 11 2026. No macro, syntax, notation, axiom, sorry.
-/
import Derived.Test.YtefciekodhpefaaChecked
import GoSem.Claim
import GoSem.ClaimJoined
import GoSem.ClaimMapViews
import Derived.JoinedTies
import Derived.KernelRfl
namespace Go.Proofs.Ytefciekodhpefaa
/- THE CELL 'sum', in the pinned program and in every row, IS THE sha256 OF THE DUMP (.gsa) THAT YtefciekodhpefaaProg.lean LOADS. Nothing in Lean hashes anything: it is a label: what it is worth is what the hold of that sum in a sandbox is worth. -/
noncomputable def Try.pinned : Pinned := { name := "ytefciekodhpefaa", sum := "7a0c95f22df121f1932c0c06da879701a69540af95ee01b8f8e5e98740ed3d75", checked := Try.checked }
namespace Rows
def none {H : Type} : Left H := { results := [], args := [] }

/-- 'fretworklaw03.FlagsMake': WHATEVER THE INPUT: true; the input reads as it did. -/
def flagsMakeSpec : ChangeSpec := { name := "flagsMake", fn := fun _ => fun
  | [d1, d2, d3] => { results := [.lit (.bool true)], args := [d1, d2, d3] }
  | _ => none }
def flagsMakeRow : OpenClaim := { program := "ytefciekodhpefaa", sum := "7a0c95f22df121f1932c0c06da879701a69540af95ee01b8f8e5e98740ed3d75", func := "fretwork/fretworklaw03.FlagsMake", spec := "flagsMake", unfollowed := true, recurses := true, apart := false }
def FlagsMakeSaid : Prop := flagsMakeRow.holds Try.pinned (OpenSpec.ofChange flagsMakeSpec)

/-- ITS FALSE NEIGHBOUR: 'it returns false'. Refute it at one input. -/
def flagsMakeWrong : ChangeSpec := { name := "flagsMake", fn := fun _ => fun
  | [d1, d2, d3] => { results := [.lit (.bool false)], args := [d1, d2, d3] }
  | _ => none }
def FlagsMakeWrongFalsely : Prop := flagsMakeRow.holds Try.pinned (OpenSpec.ofChange flagsMakeWrong)

/-- 'fretworklaw03.FlagsAsk': WHATEVER THE INPUT: true; the input reads as it did. -/
def flagsAskSpec : ChangeSpec := { name := "flagsAsk", fn := fun _ => fun
  | [d1, d2] => { results := [.lit (.bool true)], args := [d1, d2] }
  | _ => none }
def flagsAskRow : OpenClaim := { program := "ytefciekodhpefaa", sum := "7a0c95f22df121f1932c0c06da879701a69540af95ee01b8f8e5e98740ed3d75", func := "fretwork/fretworklaw03.FlagsAsk", spec := "flagsAsk", unfollowed := true, recurses := true, apart := false }
def FlagsAskSaid : Prop := flagsAskRow.holds Try.pinned (OpenSpec.ofChange flagsAskSpec)

/-- ITS FALSE NEIGHBOUR: 'it returns false'. Refute it at one input. -/
def flagsAskWrong : ChangeSpec := { name := "flagsAsk", fn := fun _ => fun
  | [d1, d2] => { results := [.lit (.bool false)], args := [d1, d2] }
  | _ => none }
def FlagsAskWrongFalsely : Prop := flagsAskRow.holds Try.pinned (OpenSpec.ofChange flagsAskWrong)

/-- 'fretworklaw03.FlagsJoin': WHATEVER THE INPUT: true; the input reads as it did. -/
def flagsJoinSpec : ChangeSpec := { name := "flagsJoin", fn := fun _ => fun
  | [d1, d2, d3] => { results := [.lit (.bool true)], args := [d1, d2, d3] }
  | _ => none }
def flagsJoinRow : OpenClaim := { program := "ytefciekodhpefaa", sum := "7a0c95f22df121f1932c0c06da879701a69540af95ee01b8f8e5e98740ed3d75", func := "fretwork/fretworklaw03.FlagsJoin", spec := "flagsJoin", unfollowed := true, recurses := true, apart := false }
def FlagsJoinSaid : Prop := flagsJoinRow.holds Try.pinned (OpenSpec.ofChange flagsJoinSpec)

/-- ITS FALSE NEIGHBOUR: 'it returns false'. Refute it at one input. -/
def flagsJoinWrong : ChangeSpec := { name := "flagsJoin", fn := fun _ => fun
  | [d1, d2, d3] => { results := [.lit (.bool false)], args := [d1, d2, d3] }
  | _ => none }
def FlagsJoinWrongFalsely : Prop := flagsJoinRow.holds Try.pinned (OpenSpec.ofChange flagsJoinWrong)

/-- 'fretworklaw03.FlagsRanks': WHATEVER THE INPUT: true; the input reads as it did. -/
def flagsRanksSpec : ChangeSpec := { name := "flagsRanks", fn := fun _ => fun
  | [d] => { results := [.lit (.bool true)], args := [d] }
  | _ => none }
def flagsRanksRow : OpenClaim := { program := "ytefciekodhpefaa", sum := "7a0c95f22df121f1932c0c06da879701a69540af95ee01b8f8e5e98740ed3d75", func := "fretwork/fretworklaw03.FlagsRanks", spec := "flagsRanks", unfollowed := true, recurses := true, apart := false }
def FlagsRanksSaid : Prop := flagsRanksRow.holds Try.pinned (OpenSpec.ofChange flagsRanksSpec)

/-- ITS FALSE NEIGHBOUR: 'it returns false'. Refute it at one input. -/
def flagsRanksWrong : ChangeSpec := { name := "flagsRanks", fn := fun _ => fun
  | [d] => { results := [.lit (.bool false)], args := [d] }
  | _ => none }
def FlagsRanksWrongFalsely : Prop := flagsRanksRow.holds Try.pinned (OpenSpec.ofChange flagsRanksWrong)

/-- 'fretworklaw03.FlagsSets': WHATEVER THE INPUT: true; the input reads as it did. -/
def flagsSetsSpec : ChangeSpec := { name := "flagsSets", fn := fun _ => fun
  | [d1, d2, d3] => { results := [.lit (.bool true)], args := [d1, d2, d3] }
  | _ => none }
def flagsSetsRow : OpenClaim := { program := "ytefciekodhpefaa", sum := "7a0c95f22df121f1932c0c06da879701a69540af95ee01b8f8e5e98740ed3d75", func := "fretwork/fretworklaw03.FlagsSets", spec := "flagsSets", unfollowed := true, recurses := true, apart := false }
def FlagsSetsSaid : Prop := flagsSetsRow.holds Try.pinned (OpenSpec.ofChange flagsSetsSpec)

/-- ITS FALSE NEIGHBOUR: 'it returns false'. Refute it at one input. -/
def flagsSetsWrong : ChangeSpec := { name := "flagsSets", fn := fun _ => fun
  | [d1, d2, d3] => { results := [.lit (.bool false)], args := [d1, d2, d3] }
  | _ => none }
def FlagsSetsWrongFalsely : Prop := flagsSetsRow.holds Try.pinned (OpenSpec.ofChange flagsSetsWrong)

/-- 'fretworklaw03.FlagsParts': WHATEVER THE INPUT: true; the input reads as it did. -/
def flagsPartsSpec : ChangeSpec := { name := "flagsParts", fn := fun _ => fun
  | [d1, d2] => { results := [.lit (.bool true)], args := [d1, d2] }
  | _ => none }
def flagsPartsRow : OpenClaim := { program := "ytefciekodhpefaa", sum := "7a0c95f22df121f1932c0c06da879701a69540af95ee01b8f8e5e98740ed3d75", func := "fretwork/fretworklaw03.FlagsParts", spec := "flagsParts", unfollowed := true, recurses := true, apart := false }
def FlagsPartsSaid : Prop := flagsPartsRow.holds Try.pinned (OpenSpec.ofChange flagsPartsSpec)

/-- ITS FALSE NEIGHBOUR: 'it returns false'. Refute it at one input. -/
def flagsPartsWrong : ChangeSpec := { name := "flagsParts", fn := fun _ => fun
  | [d1, d2] => { results := [.lit (.bool false)], args := [d1, d2] }
  | _ => none }
def FlagsPartsWrongFalsely : Prop := flagsPartsRow.holds Try.pinned (OpenSpec.ofChange flagsPartsWrong)

/-- 'fretworktop.TopBits': WHATEVER THE INPUT: true; the input reads as it did. -/
def topBitsSpec : ChangeSpec := { name := "topBits", fn := fun _ => fun
  | [d1, d2] => { results := [.lit (.bool true)], args := [d1, d2] }
  | _ => none }
def topBitsRow : OpenClaim := { program := "ytefciekodhpefaa", sum := "7a0c95f22df121f1932c0c06da879701a69540af95ee01b8f8e5e98740ed3d75", func := "fretwork/fretworktop.TopBits", spec := "topBits", unfollowed := true, recurses := true, apart := false }
def TopBitsSaid : Prop := topBitsRow.holds Try.pinned (OpenSpec.ofChange topBitsSpec)

/-- ITS FALSE NEIGHBOUR: 'it returns false'. Refute it at one input. -/
def topBitsWrong : ChangeSpec := { name := "topBits", fn := fun _ => fun
  | [d1, d2] => { results := [.lit (.bool false)], args := [d1, d2] }
  | _ => none }
def TopBitsWrongFalsely : Prop := topBitsRow.holds Try.pinned (OpenSpec.ofChange topBitsWrong)

/- THE SECOND FORM. 'bulk': how many values and letters a reading holds, each counted each time it is reached (what is shared counts as often as it is met; a slice's spare places count too). A statement '..UptoSaid' is the law's where the arguments, and the package variables that the reading takes, are together of bulk at most 1048576: NARROWER than '..Said'. Prove '..Said' where nothing that the law and all that it calls make is longer than what came in: it says more and counts as full. Else prove '..UptoSaid'. A law counts once. -/
mutual
def uptoBulk {H : Type} : DataW H → Nat
  | .lit (.string bytes) => bytes.length + 1
  | .lit _ => 1
  | .nil => 1
  | .ptr d => uptoBulk d + 1
  | .slice elems spare => uptoBulkAll elems + uptoBulkAll spare + 1
  | .agg parts => uptoBulkAll parts + 1
  | .iface _ d => uptoBulk d + 1
  | .map entries => uptoBulkEntries entries + 1
  | .held _ => 1
def uptoBulkAll {H : Type} : List (DataW H) → Nat
  | [] => 0
  | d :: r => uptoBulk d + uptoBulkAll r
def uptoBulkEntries {H : Type} : List (Lit × DataW H) → Nat
  | [] => 0
  | x :: r => uptoBulkEntry x + uptoBulkEntries r
def uptoBulkEntry {H : Type} : Lit × DataW H → Nat
  | (.string bytes, d) => bytes.length + uptoBulk d + 1
  | (_, d) => uptoBulk d + 1
 end
def uptoSmall : (H : Type) → List (DataW H) → Bool := fun _ ds => decide (uptoBulkAll ds ≤ 1048576)
def OpenSpec.upto (s : _root_.Go.ChangeSpec) : _root_.Go.OpenSpec := { _root_.Go.OpenSpec.ofChange s with cond := some uptoSmall }

/-- 'fretworklaw03.FlagsMake', WHERE WHAT IT READS IS OF BULK AT MOST 1048576: true; the input reads as it did. -/
def flagsMakeUptoRow : OpenClaim := { program := "ytefciekodhpefaa", sum := "7a0c95f22df121f1932c0c06da879701a69540af95ee01b8f8e5e98740ed3d75", func := "fretwork/fretworklaw03.FlagsMake", spec := "flagsMake", unfollowed := true, recurses := true, apart := false, narrowed := true }
def FlagsMakeUptoSaid : Prop := flagsMakeUptoRow.holds Try.pinned (OpenSpec.upto flagsMakeSpec)

/-- 'fretworklaw03.FlagsAsk', WHERE WHAT IT READS IS OF BULK AT MOST 1048576: true; the input reads as it did. -/
def flagsAskUptoRow : OpenClaim := { program := "ytefciekodhpefaa", sum := "7a0c95f22df121f1932c0c06da879701a69540af95ee01b8f8e5e98740ed3d75", func := "fretwork/fretworklaw03.FlagsAsk", spec := "flagsAsk", unfollowed := true, recurses := true, apart := false, narrowed := true }
def FlagsAskUptoSaid : Prop := flagsAskUptoRow.holds Try.pinned (OpenSpec.upto flagsAskSpec)

/-- 'fretworklaw03.FlagsJoin', WHERE WHAT IT READS IS OF BULK AT MOST 1048576: true; the input reads as it did. -/
def flagsJoinUptoRow : OpenClaim := { program := "ytefciekodhpefaa", sum := "7a0c95f22df121f1932c0c06da879701a69540af95ee01b8f8e5e98740ed3d75", func := "fretwork/fretworklaw03.FlagsJoin", spec := "flagsJoin", unfollowed := true, recurses := true, apart := false, narrowed := true }
def FlagsJoinUptoSaid : Prop := flagsJoinUptoRow.holds Try.pinned (OpenSpec.upto flagsJoinSpec)

/-- 'fretworklaw03.FlagsRanks', WHERE WHAT IT READS IS OF BULK AT MOST 1048576: true; the input reads as it did. -/
def flagsRanksUptoRow : OpenClaim := { program := "ytefciekodhpefaa", sum := "7a0c95f22df121f1932c0c06da879701a69540af95ee01b8f8e5e98740ed3d75", func := "fretwork/fretworklaw03.FlagsRanks", spec := "flagsRanks", unfollowed := true, recurses := true, apart := false, narrowed := true }
def FlagsRanksUptoSaid : Prop := flagsRanksUptoRow.holds Try.pinned (OpenSpec.upto flagsRanksSpec)

/-- 'fretworklaw03.FlagsSets', WHERE WHAT IT READS IS OF BULK AT MOST 1048576: true; the input reads as it did. -/
def flagsSetsUptoRow : OpenClaim := { program := "ytefciekodhpefaa", sum := "7a0c95f22df121f1932c0c06da879701a69540af95ee01b8f8e5e98740ed3d75", func := "fretwork/fretworklaw03.FlagsSets", spec := "flagsSets", unfollowed := true, recurses := true, apart := false, narrowed := true }
def FlagsSetsUptoSaid : Prop := flagsSetsUptoRow.holds Try.pinned (OpenSpec.upto flagsSetsSpec)

/-- 'fretworklaw03.FlagsParts', WHERE WHAT IT READS IS OF BULK AT MOST 1048576: true; the input reads as it did. -/
def flagsPartsUptoRow : OpenClaim := { program := "ytefciekodhpefaa", sum := "7a0c95f22df121f1932c0c06da879701a69540af95ee01b8f8e5e98740ed3d75", func := "fretwork/fretworklaw03.FlagsParts", spec := "flagsParts", unfollowed := true, recurses := true, apart := false, narrowed := true }
def FlagsPartsUptoSaid : Prop := flagsPartsUptoRow.holds Try.pinned (OpenSpec.upto flagsPartsSpec)

/-- 'fretworktop.TopBits', WHERE WHAT IT READS IS OF BULK AT MOST 1048576: true; the input reads as it did. -/
def topBitsUptoRow : OpenClaim := { program := "ytefciekodhpefaa", sum := "7a0c95f22df121f1932c0c06da879701a69540af95ee01b8f8e5e98740ed3d75", func := "fretwork/fretworktop.TopBits", spec := "topBits", unfollowed := true, recurses := true, apart := false, narrowed := true }
def TopBitsUptoSaid : Prop := topBitsUptoRow.holds Try.pinned (OpenSpec.upto topBitsSpec)

end Rows
end Go.Proofs.Ytefciekodhpefaa
