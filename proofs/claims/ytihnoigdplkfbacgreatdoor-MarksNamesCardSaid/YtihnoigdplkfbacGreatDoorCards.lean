/-
  DERIVED. GIVEN WITH THE SEED: THE CARDS: each row of YtihnoigdplkfbacGreatDoorRows.lean that lists a variable, with what it lists TIED to the program's text (the seventh form; the later family's looks); each row that meets fmt, with fmt's text TOLD by the authors' own Lean function (tested against real Go, not proved from fmt's source: count such statements apart). THE CARD IS WHAT COUNTS. Prove the row's statement (the work); the ties are given (YtihnoigdplkfbacGreatDoorTie.lean); close each card by the builder's one call (the guide's Derived/Test/ToyasCard.lean, 'card_holds'). Laid BY PROGRAM, IN A SANDBOX (cutbox-door.mjs). By AI agents, Wed Nov 11 2026. No macro, syntax, notation, axiom, sorry.
-/
import Derived.Test.YtihnoigdplkfbacGreatDoorRows
import GoSem.ClaimSeven
namespace Go.Proofs.YtihnoigdplkfbacGreatDoor
namespace Rows

/-- THE TIED CARD OF 'viewportlaw19.MarksNames'. -/
def marksNamesCard : Claim7 := { stood := { row := marksNamesRow, standIns := [], harness := (true, "2dca41483dd01a100569d248a3960b92bc63a4eeea491997323474c3e7ebd3ca"), looks := true }, kinds := [], alts := [], laidByText := true, laidKinds := [.data], laidTests := true, laidLooks := .later }
def MarksNamesCardSaid : Prop := Claim7.holds Tryz.pinned (.plain (OpenSpec.ofChange marksNamesSpec)) marksNamesCard

/-- THE SECOND FORM's CARD OF 'viewportlaw19.MarksNames'. -/
def marksNamesUptoCard : Claim7 := { stood := { row := marksNamesUptoRow, standIns := [], harness := (true, "2dca41483dd01a100569d248a3960b92bc63a4eeea491997323474c3e7ebd3ca"), looks := true }, kinds := [], alts := [], laidByText := true, laidKinds := [.data], laidTests := true, laidLooks := .later }
def MarksNamesUptoCardSaid : Prop := Claim7.holds Tryz.pinned (.plain (OpenSpec.upto marksNamesSpec)) marksNamesUptoCard
end Rows
end Go.Proofs.YtihnoigdplkfbacGreatDoor
