/-
  DERIVED. GIVEN WITH THE SEED: THE CARDS: each row of YtdjeokgkeejpcaaGreatDoorRows.lean that lists a variable, with what it lists TIED to the program's text (the seventh form; the later family's looks); each row that meets fmt, with fmt's text TOLD by the authors' own Lean function (tested against real Go, not proved from fmt's source: count such statements apart). THE CARD IS WHAT COUNTS. Prove the row's statement (the work); the ties are given (YtdjeokgkeejpcaaGreatDoorTie.lean); close each card by the builder's one call (the guide's Derived/Test/ToyasCard.lean, 'card_holds'). Laid BY PROGRAM, IN A SANDBOX (cutbox-door.mjs). By AI agents, Wed Nov 11 2026. No macro, syntax, notation, axiom, sorry.
-/
import Derived.Test.YtdjeokgkeejpcaaGreatDoorRows
import GoSem.ClaimSeven
namespace Go.Proofs.YtdjeokgkeejpcaaGreatDoor
namespace Rows

/-- THE TIED CARD OF 'viewportlaw19.MarksLater'. -/
def marksLaterCard : Claim7 := { stood := { row := marksLaterRow, standIns := [], harness := (true, "40b4eb62889484b44fac0c70dcb65e7f928949305a467701fcadfbb0d62f9733"), looks := true }, kinds := [], alts := [], laidByText := true, laidKinds := [.data], laidTests := true, laidLooks := .later }
def MarksLaterCardSaid : Prop := Claim7.holds Tryz.pinned (.plain (OpenSpec.ofChange marksLaterSpec)) marksLaterCard

/-- THE TIED CARD OF 'viewportlaw19.MarksWhole'. -/
def marksWholeCard : Claim7 := { stood := { row := marksWholeRow, standIns := [], harness := (true, "40b4eb62889484b44fac0c70dcb65e7f928949305a467701fcadfbb0d62f9733"), looks := true }, kinds := [], alts := [], laidByText := true, laidKinds := [.data], laidTests := true, laidLooks := .later }
def MarksWholeCardSaid : Prop := Claim7.holds Tryz.pinned (.plain (OpenSpec.ofChange marksWholeSpec)) marksWholeCard

/-- THE SECOND FORM's CARD OF 'viewportlaw19.MarksLater'. -/
def marksLaterUptoCard : Claim7 := { stood := { row := marksLaterUptoRow, standIns := [], harness := (true, "40b4eb62889484b44fac0c70dcb65e7f928949305a467701fcadfbb0d62f9733"), looks := true }, kinds := [], alts := [], laidByText := true, laidKinds := [.data], laidTests := true, laidLooks := .later }
def MarksLaterUptoCardSaid : Prop := Claim7.holds Tryz.pinned (.plain (OpenSpec.upto marksLaterSpec)) marksLaterUptoCard

/-- THE SECOND FORM's CARD OF 'viewportlaw19.MarksWhole'. -/
def marksWholeUptoCard : Claim7 := { stood := { row := marksWholeUptoRow, standIns := [], harness := (true, "40b4eb62889484b44fac0c70dcb65e7f928949305a467701fcadfbb0d62f9733"), looks := true }, kinds := [], alts := [], laidByText := true, laidKinds := [.data], laidTests := true, laidLooks := .later }
def MarksWholeUptoCardSaid : Prop := Claim7.holds Tryz.pinned (.plain (OpenSpec.upto marksWholeSpec)) marksWholeUptoCard
end Rows
end Go.Proofs.YtdjeokgkeejpcaaGreatDoor
