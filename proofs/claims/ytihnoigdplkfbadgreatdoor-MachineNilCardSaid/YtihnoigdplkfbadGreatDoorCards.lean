/-
  DERIVED. GIVEN WITH THE SEED: THE CARDS: each row of YtihnoigdplkfbadGreatDoorRows.lean that lists a variable, with what it lists TIED to the program's text (the seventh form; the later family's looks); each row that meets fmt, with fmt's text TOLD by the authors' own Lean function (tested against real Go, not proved from fmt's source: count such statements apart). THE CARD IS WHAT COUNTS. Prove the row's statement (the work); the ties are given (YtihnoigdplkfbadGreatDoorTie.lean); close each card by the builder's one call (the guide's Derived/Test/ToyasCard.lean, 'card_holds'). Laid BY PROGRAM, IN A SANDBOX (cutbox-door.mjs). By AI agents, Wed Nov 11 2026. No macro, syntax, notation, axiom, sorry.
-/
import Derived.Test.YtihnoigdplkfbadGreatDoorRows
import GoSem.ClaimSeven
namespace Go.Proofs.YtihnoigdplkfbadGreatDoor
namespace Rows

/-- THE TIED CARD OF 'viewportlaw18.MachineNil'. -/
def machineNilCard : Claim7 := { stood := { row := machineNilRow, standIns := [], harness := (true, "490ee01833e7b35b8ca381bfaab037c69e3d59c0efb4c1d641718a49d5789674"), looks := true }, kinds := [], alts := [], laidByText := true, laidKinds := [.data], laidTests := true, laidLooks := .later }
def MachineNilCardSaid : Prop := Claim7.holds Tryz.pinned (.plain (OpenSpec.ofChange machineNilSpec)) machineNilCard

/-- THE SECOND FORM's CARD OF 'viewportlaw18.MachineNil'. -/
def machineNilUptoCard : Claim7 := { stood := { row := machineNilUptoRow, standIns := [], harness := (true, "490ee01833e7b35b8ca381bfaab037c69e3d59c0efb4c1d641718a49d5789674"), looks := true }, kinds := [], alts := [], laidByText := true, laidKinds := [.data], laidTests := true, laidLooks := .later }
def MachineNilUptoCardSaid : Prop := Claim7.holds Tryz.pinned (.plain (OpenSpec.upto machineNilSpec)) machineNilUptoCard
end Rows
end Go.Proofs.YtihnoigdplkfbadGreatDoor
