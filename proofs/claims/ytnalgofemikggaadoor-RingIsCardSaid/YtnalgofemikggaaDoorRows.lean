/-
  NARROWER THAN 'FOR EVERY INPUT', by the rows' own cells (each row's printed sentence says how): RingExact: laid · RingDoes: laid · RingIs: laid · RingSums: laid · RingSpreads: laid.
  DERIVED. THE GIVEN ROWS OF THIS SEAT. 5 by the template 'for every input the law returns true; each argument reads behind the call as it read before'; 0 by the template 'total and deterministic' (their statements: YtnalgofemikggaaDoorTotals.lean).
  GIVEN WITH THE SEED: the statements are not yours to turn. If you find one false, say at which input.
  Laid BY PROGRAM, IN A SANDBOX (cutbox-rows.mjs): the forced cells as the released guide's own fill.sh prints them over the translation b1835eed4f0af48d… (all of the seat's roots in one cut). By AI agents, Wed Nov 11 2026. No macro, syntax, notation, axiom, sorry.
-/
import Derived.Test.YtnalgofemikggaaDoorChecked
import GoSem.Claim
import GoSem.ClaimJoined
import GoSem.ClaimMapViews
import Derived.JoinedTies
import Derived.KernelRfl
namespace Go.Proofs.YtnalgofemikggaaDoor
/- THE CELL 'sum', in the pinned program and in every row, IS THE sha256 OF THE DUMP (.gsa) THAT YtnalgofemikggaaDoorProg.lean LOADS. Nothing in Lean hashes anything: it is a label: what it is worth is what the hold of that sum in a sandbox is worth. -/
noncomputable def Tryd.pinned : Pinned := { name := "ytnalgofemikggaadoor", sum := "b1835eed4f0af48d3a494f24265ed599357200c500e5be8fef7d59da34bad7a3", checked := Tryd.checked }
namespace Rows
def none {H : Type} : Left H := { results := [], args := [] }

/- WHAT THE LISTED PACKAGE-LEVEL VARIABLES READ AS WHEN THE CALL BEGINS. Each datum BY PROGRAM (the guide's laid-datum.mjs) off the statement by which the dump's own 'gosem.cut.vars' lays the variable. In a bare row this is a premise. The card (YtnalgofemikggaaDoorCards.lean) ties it to the program's text. -/
def laid_fretwork_ring_names {H : Type} : DataW H := .agg [.lit (.string []), .lit (.string [109, 105, 110, 112, 108, 117, 115]), .lit (.string [111, 114, 97, 110, 100]), .lit (.string [109, 105, 110, 102, 105, 114, 115, 116]), .lit (.string [109, 105, 110, 115, 101, 99, 111, 110, 100]), .lit (.string [112, 108, 117, 115, 116, 105, 109, 101, 115])]

/-- 'fretworklaw02.RingExact': WHATEVER THE INPUT: true; the input reads as it did. -/
def ringExactSpec : ChangeSpec := { name := "ringExact", fn := fun _ => fun
  | [d1, d2] => { results := [.lit (.bool true)], args := [d1, d2] }
  | _ => none }
def ringExactRow : OpenClaim := { program := "ytnalgofemikggaadoor", sum := "b1835eed4f0af48d3a494f24265ed599357200c500e5be8fef7d59da34bad7a3", func := "fretwork/fretworklaw02.RingExact", spec := "ringExact", named := ["fretwork/ring.names"], apart := false, laid := [("fretwork/ring.names", laid_fretwork_ring_names)] }
def RingExactSaid : Prop := ringExactRow.holds Tryd.pinned (OpenSpec.ofChange ringExactSpec)

/-- ITS FALSE NEIGHBOUR: 'it returns false'. Refute it at one input. -/
def ringExactWrong : ChangeSpec := { name := "ringExact", fn := fun _ => fun
  | [d1, d2] => { results := [.lit (.bool false)], args := [d1, d2] }
  | _ => none }
def RingExactWrongFalsely : Prop := ringExactRow.holds Tryd.pinned (OpenSpec.ofChange ringExactWrong)

/-- 'fretworklaw02.RingDoes': WHATEVER THE INPUT: true; the input reads as it did. -/
def ringDoesSpec : ChangeSpec := { name := "ringDoes", fn := fun _ => fun
  | [d1, d2, d3] => { results := [.lit (.bool true)], args := [d1, d2, d3] }
  | _ => none }
def ringDoesRow : OpenClaim := { program := "ytnalgofemikggaadoor", sum := "b1835eed4f0af48d3a494f24265ed599357200c500e5be8fef7d59da34bad7a3", func := "fretwork/fretworklaw02.RingDoes", spec := "ringDoes", named := ["fretwork/ring.names"], apart := false, laid := [("fretwork/ring.names", laid_fretwork_ring_names)] }
def RingDoesSaid : Prop := ringDoesRow.holds Tryd.pinned (OpenSpec.ofChange ringDoesSpec)

/-- ITS FALSE NEIGHBOUR: 'it returns false'. Refute it at one input. -/
def ringDoesWrong : ChangeSpec := { name := "ringDoes", fn := fun _ => fun
  | [d1, d2, d3] => { results := [.lit (.bool false)], args := [d1, d2, d3] }
  | _ => none }
def RingDoesWrongFalsely : Prop := ringDoesRow.holds Tryd.pinned (OpenSpec.ofChange ringDoesWrong)

/-- 'fretworklaw02.RingIs': WHATEVER THE INPUT: true; the input reads as it did. -/
def ringIsSpec : ChangeSpec := { name := "ringIs", fn := fun _ => fun
  | [d1, d2, d3] => { results := [.lit (.bool true)], args := [d1, d2, d3] }
  | _ => none }
def ringIsRow : OpenClaim := { program := "ytnalgofemikggaadoor", sum := "b1835eed4f0af48d3a494f24265ed599357200c500e5be8fef7d59da34bad7a3", func := "fretwork/fretworklaw02.RingIs", spec := "ringIs", named := ["fretwork/ring.names"], apart := false, laid := [("fretwork/ring.names", laid_fretwork_ring_names)] }
def RingIsSaid : Prop := ringIsRow.holds Tryd.pinned (OpenSpec.ofChange ringIsSpec)

/-- ITS FALSE NEIGHBOUR: 'it returns false'. Refute it at one input. -/
def ringIsWrong : ChangeSpec := { name := "ringIs", fn := fun _ => fun
  | [d1, d2, d3] => { results := [.lit (.bool false)], args := [d1, d2, d3] }
  | _ => none }
def RingIsWrongFalsely : Prop := ringIsRow.holds Tryd.pinned (OpenSpec.ofChange ringIsWrong)

/-- 'fretworklaw02.RingSums': WHATEVER THE INPUT: true; the input reads as it did. -/
def ringSumsSpec : ChangeSpec := { name := "ringSums", fn := fun _ => fun
  | [d1, d2] => { results := [.lit (.bool true)], args := [d1, d2] }
  | _ => none }
def ringSumsRow : OpenClaim := { program := "ytnalgofemikggaadoor", sum := "b1835eed4f0af48d3a494f24265ed599357200c500e5be8fef7d59da34bad7a3", func := "fretwork/fretworklaw02.RingSums", spec := "ringSums", named := ["fretwork/ring.names"], apart := false, laid := [("fretwork/ring.names", laid_fretwork_ring_names)] }
def RingSumsSaid : Prop := ringSumsRow.holds Tryd.pinned (OpenSpec.ofChange ringSumsSpec)

/-- ITS FALSE NEIGHBOUR: 'it returns false'. Refute it at one input. -/
def ringSumsWrong : ChangeSpec := { name := "ringSums", fn := fun _ => fun
  | [d1, d2] => { results := [.lit (.bool false)], args := [d1, d2] }
  | _ => none }
def RingSumsWrongFalsely : Prop := ringSumsRow.holds Tryd.pinned (OpenSpec.ofChange ringSumsWrong)

/-- 'fretworklaw02.RingSpreads': WHATEVER THE INPUT: true; the input reads as it did. -/
def ringSpreadsSpec : ChangeSpec := { name := "ringSpreads", fn := fun _ => fun
  | [d1, d2] => { results := [.lit (.bool true)], args := [d1, d2] }
  | _ => none }
def ringSpreadsRow : OpenClaim := { program := "ytnalgofemikggaadoor", sum := "b1835eed4f0af48d3a494f24265ed599357200c500e5be8fef7d59da34bad7a3", func := "fretwork/fretworklaw02.RingSpreads", spec := "ringSpreads", named := ["fretwork/ring.names"], apart := false, laid := [("fretwork/ring.names", laid_fretwork_ring_names)] }
def RingSpreadsSaid : Prop := ringSpreadsRow.holds Tryd.pinned (OpenSpec.ofChange ringSpreadsSpec)

/-- ITS FALSE NEIGHBOUR: 'it returns false'. Refute it at one input. -/
def ringSpreadsWrong : ChangeSpec := { name := "ringSpreads", fn := fun _ => fun
  | [d1, d2] => { results := [.lit (.bool false)], args := [d1, d2] }
  | _ => none }
def RingSpreadsWrongFalsely : Prop := ringSpreadsRow.holds Tryd.pinned (OpenSpec.ofChange ringSpreadsWrong)

/- THE SECOND FORM. 'bulk': how many values and letters a reading holds, each counted each time it is reached (what is shared counts as often as it is met; a slice's spare places count too). A statement '..UptoSaid' is the law's where the arguments, and the package variables that the reading takes, are together of bulk at most 1048576: NARROWER than '..Said'. Prove '..Said' where nothing that the law and all that it calls make is longer than what came in: it says more and counts as full. Else prove '..UptoSaid'. A law counts once. -/
mutual
def uptoBulk {H : Type} : DataW H → Nat
  | .lit (.string bytes) => bytes.length + 1
  | .lit _ => 1
  | .nil => 1
  | .ptr d => uptoBulk d + 1
  | .slice elems spare => uptoBulkAll elems + uptoBulkAll spare + 1
  | .agg parts => uptoBulkAll parts + 1
  | .iface _ d => uptoBulk d + 1
  | .map entries => uptoBulkEntries entries + 1
  | .held _ => 1
def uptoBulkAll {H : Type} : List (DataW H) → Nat
  | [] => 0
  | d :: r => uptoBulk d + uptoBulkAll r
def uptoBulkEntries {H : Type} : List (Lit × DataW H) → Nat
  | [] => 0
  | x :: r => uptoBulkEntry x + uptoBulkEntries r
def uptoBulkEntry {H : Type} : Lit × DataW H → Nat
  | (.string bytes, d) => bytes.length + uptoBulk d + 1
  | (_, d) => uptoBulk d + 1
 end
def uptoSmall : (H : Type) → List (DataW H) → Bool := fun _ ds => decide (uptoBulkAll ds ≤ 1048576)
def OpenSpec.upto (s : _root_.Go.ChangeSpec) : _root_.Go.OpenSpec := { _root_.Go.OpenSpec.ofChange s with cond := some uptoSmall }

/-- 'fretworklaw02.RingExact', WHERE WHAT IT READS IS OF BULK AT MOST 1048576: true; the input reads as it did. -/
def ringExactUptoRow : OpenClaim := { program := "ytnalgofemikggaadoor", sum := "b1835eed4f0af48d3a494f24265ed599357200c500e5be8fef7d59da34bad7a3", func := "fretwork/fretworklaw02.RingExact", spec := "ringExact", named := ["fretwork/ring.names"], apart := false, laid := [("fretwork/ring.names", laid_fretwork_ring_names)], narrowed := true }
def RingExactUptoSaid : Prop := ringExactUptoRow.holds Tryd.pinned (OpenSpec.upto ringExactSpec)

/-- 'fretworklaw02.RingDoes', WHERE WHAT IT READS IS OF BULK AT MOST 1048576: true; the input reads as it did. -/
def ringDoesUptoRow : OpenClaim := { program := "ytnalgofemikggaadoor", sum := "b1835eed4f0af48d3a494f24265ed599357200c500e5be8fef7d59da34bad7a3", func := "fretwork/fretworklaw02.RingDoes", spec := "ringDoes", named := ["fretwork/ring.names"], apart := false, laid := [("fretwork/ring.names", laid_fretwork_ring_names)], narrowed := true }
def RingDoesUptoSaid : Prop := ringDoesUptoRow.holds Tryd.pinned (OpenSpec.upto ringDoesSpec)

/-- 'fretworklaw02.RingIs', WHERE WHAT IT READS IS OF BULK AT MOST 1048576: true; the input reads as it did. -/
def ringIsUptoRow : OpenClaim := { program := "ytnalgofemikggaadoor", sum := "b1835eed4f0af48d3a494f24265ed599357200c500e5be8fef7d59da34bad7a3", func := "fretwork/fretworklaw02.RingIs", spec := "ringIs", named := ["fretwork/ring.names"], apart := false, laid := [("fretwork/ring.names", laid_fretwork_ring_names)], narrowed := true }
def RingIsUptoSaid : Prop := ringIsUptoRow.holds Tryd.pinned (OpenSpec.upto ringIsSpec)

/-- 'fretworklaw02.RingSums', WHERE WHAT IT READS IS OF BULK AT MOST 1048576: true; the input reads as it did. -/
def ringSumsUptoRow : OpenClaim := { program := "ytnalgofemikggaadoor", sum := "b1835eed4f0af48d3a494f24265ed599357200c500e5be8fef7d59da34bad7a3", func := "fretwork/fretworklaw02.RingSums", spec := "ringSums", named := ["fretwork/ring.names"], apart := false, laid := [("fretwork/ring.names", laid_fretwork_ring_names)], narrowed := true }
def RingSumsUptoSaid : Prop := ringSumsUptoRow.holds Tryd.pinned (OpenSpec.upto ringSumsSpec)

/-- 'fretworklaw02.RingSpreads', WHERE WHAT IT READS IS OF BULK AT MOST 1048576: true; the input reads as it did. -/
def ringSpreadsUptoRow : OpenClaim := { program := "ytnalgofemikggaadoor", sum := "b1835eed4f0af48d3a494f24265ed599357200c500e5be8fef7d59da34bad7a3", func := "fretwork/fretworklaw02.RingSpreads", spec := "ringSpreads", named := ["fretwork/ring.names"], apart := false, laid := [("fretwork/ring.names", laid_fretwork_ring_names)], narrowed := true }
def RingSpreadsUptoSaid : Prop := ringSpreadsUptoRow.holds Tryd.pinned (OpenSpec.upto ringSpreadsSpec)

end Rows
end Go.Proofs.YtnalgofemikggaaDoor
