/-
  DERIVED. GIVEN WITH THE SEED: THE CARDS: each row of YtnalgofemikggaaDoorRows.lean that lists a variable, with what it lists TIED to the program's text (the seventh form; the later family's looks); each row that meets fmt, with fmt's text TOLD by the authors' own Lean function (tested against real Go, not proved from fmt's source: count such statements apart). THE CARD IS WHAT COUNTS. Prove the row's statement (the work); the ties are given (YtnalgofemikggaaDoorTie.lean); close each card by the builder's one call (the guide's Derived/Test/ToyasCard.lean, 'card_holds'). Laid BY PROGRAM, IN A SANDBOX (cutbox-door.mjs). By AI agents, Wed Nov 11 2026. No macro, syntax, notation, axiom, sorry.
-/
import Derived.Test.YtnalgofemikggaaDoorRows
import GoSem.ClaimSeven
namespace Go.Proofs.YtnalgofemikggaaDoor
namespace Rows

/-- THE TIED CARD OF 'fretworklaw02.RingExact'. -/
def ringExactCard : Claim7 := { stood := { row := ringExactRow, standIns := [], harness := (true, "829aa8312bd9ca03e519d992c5a9246e723ff362fd44d5b8a9f00e0d31687c57"), looks := false }, kinds := [], alts := [], laidByText := true, laidKinds := [.data], laidTests := true, laidLooks := .later }
def RingExactCardSaid : Prop := Claim7.holds Tryd.pinned (.plain (OpenSpec.ofChange ringExactSpec)) ringExactCard

/-- THE TIED CARD OF 'fretworklaw02.RingDoes'. -/
def ringDoesCard : Claim7 := { stood := { row := ringDoesRow, standIns := [], harness := (true, "829aa8312bd9ca03e519d992c5a9246e723ff362fd44d5b8a9f00e0d31687c57"), looks := false }, kinds := [], alts := [], laidByText := true, laidKinds := [.data], laidTests := true, laidLooks := .later }
def RingDoesCardSaid : Prop := Claim7.holds Tryd.pinned (.plain (OpenSpec.ofChange ringDoesSpec)) ringDoesCard

/-- THE TIED CARD OF 'fretworklaw02.RingIs'. -/
def ringIsCard : Claim7 := { stood := { row := ringIsRow, standIns := [], harness := (true, "829aa8312bd9ca03e519d992c5a9246e723ff362fd44d5b8a9f00e0d31687c57"), looks := false }, kinds := [], alts := [], laidByText := true, laidKinds := [.data], laidTests := true, laidLooks := .later }
def RingIsCardSaid : Prop := Claim7.holds Tryd.pinned (.plain (OpenSpec.ofChange ringIsSpec)) ringIsCard

/-- THE TIED CARD OF 'fretworklaw02.RingSums'. -/
def ringSumsCard : Claim7 := { stood := { row := ringSumsRow, standIns := [], harness := (true, "829aa8312bd9ca03e519d992c5a9246e723ff362fd44d5b8a9f00e0d31687c57"), looks := false }, kinds := [], alts := [], laidByText := true, laidKinds := [.data], laidTests := true, laidLooks := .later }
def RingSumsCardSaid : Prop := Claim7.holds Tryd.pinned (.plain (OpenSpec.ofChange ringSumsSpec)) ringSumsCard

/-- THE TIED CARD OF 'fretworklaw02.RingSpreads'. -/
def ringSpreadsCard : Claim7 := { stood := { row := ringSpreadsRow, standIns := [], harness := (true, "829aa8312bd9ca03e519d992c5a9246e723ff362fd44d5b8a9f00e0d31687c57"), looks := false }, kinds := [], alts := [], laidByText := true, laidKinds := [.data], laidTests := true, laidLooks := .later }
def RingSpreadsCardSaid : Prop := Claim7.holds Tryd.pinned (.plain (OpenSpec.ofChange ringSpreadsSpec)) ringSpreadsCard

/-- THE SECOND FORM's CARD OF 'fretworklaw02.RingExact'. -/
def ringExactUptoCard : Claim7 := { stood := { row := ringExactUptoRow, standIns := [], harness := (true, "829aa8312bd9ca03e519d992c5a9246e723ff362fd44d5b8a9f00e0d31687c57"), looks := false }, kinds := [], alts := [], laidByText := true, laidKinds := [.data], laidTests := true, laidLooks := .later }
def RingExactUptoCardSaid : Prop := Claim7.holds Tryd.pinned (.plain (OpenSpec.upto ringExactSpec)) ringExactUptoCard

/-- THE SECOND FORM's CARD OF 'fretworklaw02.RingDoes'. -/
def ringDoesUptoCard : Claim7 := { stood := { row := ringDoesUptoRow, standIns := [], harness := (true, "829aa8312bd9ca03e519d992c5a9246e723ff362fd44d5b8a9f00e0d31687c57"), looks := false }, kinds := [], alts := [], laidByText := true, laidKinds := [.data], laidTests := true, laidLooks := .later }
def RingDoesUptoCardSaid : Prop := Claim7.holds Tryd.pinned (.plain (OpenSpec.upto ringDoesSpec)) ringDoesUptoCard

/-- THE SECOND FORM's CARD OF 'fretworklaw02.RingIs'. -/
def ringIsUptoCard : Claim7 := { stood := { row := ringIsUptoRow, standIns := [], harness := (true, "829aa8312bd9ca03e519d992c5a9246e723ff362fd44d5b8a9f00e0d31687c57"), looks := false }, kinds := [], alts := [], laidByText := true, laidKinds := [.data], laidTests := true, laidLooks := .later }
def RingIsUptoCardSaid : Prop := Claim7.holds Tryd.pinned (.plain (OpenSpec.upto ringIsSpec)) ringIsUptoCard

/-- THE SECOND FORM's CARD OF 'fretworklaw02.RingSums'. -/
def ringSumsUptoCard : Claim7 := { stood := { row := ringSumsUptoRow, standIns := [], harness := (true, "829aa8312bd9ca03e519d992c5a9246e723ff362fd44d5b8a9f00e0d31687c57"), looks := false }, kinds := [], alts := [], laidByText := true, laidKinds := [.data], laidTests := true, laidLooks := .later }
def RingSumsUptoCardSaid : Prop := Claim7.holds Tryd.pinned (.plain (OpenSpec.upto ringSumsSpec)) ringSumsUptoCard

/-- THE SECOND FORM's CARD OF 'fretworklaw02.RingSpreads'. -/
def ringSpreadsUptoCard : Claim7 := { stood := { row := ringSpreadsUptoRow, standIns := [], harness := (true, "829aa8312bd9ca03e519d992c5a9246e723ff362fd44d5b8a9f00e0d31687c57"), looks := false }, kinds := [], alts := [], laidByText := true, laidKinds := [.data], laidTests := true, laidLooks := .later }
def RingSpreadsUptoCardSaid : Prop := Claim7.holds Tryd.pinned (.plain (OpenSpec.upto ringSpreadsSpec)) ringSpreadsUptoCard
end Rows
end Go.Proofs.YtnalgofemikggaaDoor
