/-
  DERIVED. GIVEN WITH THE SEED: THE CARDS: each row of YtihnoigdplkfbaeGreatDoorRows.lean that lists a variable, with what it lists TIED to the program's text (the seventh form; the later family's looks); each row that meets fmt, with fmt's text TOLD by the authors' own Lean function (tested against real Go, not proved from fmt's source: count such statements apart). THE CARD IS WHAT COUNTS. Prove the row's statement (the work); the ties are given (YtihnoigdplkfbaeGreatDoorTie.lean); close each card by the builder's one call (the guide's Derived/Test/ToyasCard.lean, 'card_holds'). Laid BY PROGRAM, IN A SANDBOX (cutbox-door.mjs). By AI agents, Wed Nov 11 2026. No macro, syntax, notation, axiom, sorry.
-/
import Derived.Test.YtihnoigdplkfbaeGreatDoorRows
import GoSem.ClaimSeven
namespace Go.Proofs.YtihnoigdplkfbaeGreatDoor
namespace Rows

/-- THE TIED CARD OF 'viewportlaw18.MachineNames'. -/
def machineNamesCard : Claim7 := { stood := { row := machineNamesRow, standIns := [], harness := (true, "612ee49fa6cc4c30f38db79bbf26909cc71a21e416d30434c6dfc21bca0664f8"), looks := true }, kinds := [], alts := [], laidByText := true, laidKinds := [.data], laidTests := true, laidLooks := .later }
def MachineNamesCardSaid : Prop := Claim7.holds Tryz.pinned (.plain (OpenSpec.ofChange machineNamesSpec)) machineNamesCard

/-- THE SECOND FORM's CARD OF 'viewportlaw18.MachineNames'. -/
def machineNamesUptoCard : Claim7 := { stood := { row := machineNamesUptoRow, standIns := [], harness := (true, "612ee49fa6cc4c30f38db79bbf26909cc71a21e416d30434c6dfc21bca0664f8"), looks := true }, kinds := [], alts := [], laidByText := true, laidKinds := [.data], laidTests := true, laidLooks := .later }
def MachineNamesUptoCardSaid : Prop := Claim7.holds Tryz.pinned (.plain (OpenSpec.upto machineNamesSpec)) machineNamesUptoCard
end Rows
end Go.Proofs.YtihnoigdplkfbaeGreatDoor
