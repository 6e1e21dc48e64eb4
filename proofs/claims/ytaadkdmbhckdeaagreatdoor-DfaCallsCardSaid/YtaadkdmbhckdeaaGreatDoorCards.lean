/-
  DERIVED. GIVEN WITH THE SEED: THE CARDS: each row of YtaadkdmbhckdeaaGreatDoorRows.lean that lists a variable, with what it lists TIED to the program's text (the seventh form; the later family's looks); each row that meets fmt, with fmt's text TOLD by the authors' own Lean function (tested against real Go, not proved from fmt's source: count such statements apart). THE CARD IS WHAT COUNTS. Prove the row's statement (the work); the ties are given (YtaadkdmbhckdeaaGreatDoorTie.lean); close each card by the builder's one call (the guide's Derived/Test/ToyasCard.lean, 'card_holds'). Laid BY PROGRAM, IN A SANDBOX (cutbox-door.mjs). By AI agents, Wed Nov 11 2026. No macro, syntax, notation, axiom, sorry.
-/
import Derived.Test.YtaadkdmbhckdeaaGreatDoorRows
import GoSem.ClaimSeven
namespace Go.Proofs.YtaadkdmbhckdeaaGreatDoor
namespace Rows

/-- THE TIED CARD OF 'viewportlaw04.DfaCalls'. -/
def dfaCallsCard : Claim7 := { stood := { row := dfaCallsRow, standIns := [], harness := (true, "95b6bc531cbcbaac441ccb5be6b22fadb3d7909df5134ca4c5a23dce0a211754"), looks := false }, kinds := [], alts := [], laidByText := true, laidKinds := [.data], laidTests := true, laidLooks := .later }
def DfaCallsCardSaid : Prop := Claim7.holds Tryz.pinned (.plain (OpenSpec.ofChange dfaCallsSpec)) dfaCallsCard

/-- THE SECOND FORM's CARD OF 'viewportlaw04.DfaCalls'. -/
def dfaCallsUptoCard : Claim7 := { stood := { row := dfaCallsUptoRow, standIns := [], harness := (true, "95b6bc531cbcbaac441ccb5be6b22fadb3d7909df5134ca4c5a23dce0a211754"), looks := false }, kinds := [], alts := [], laidByText := true, laidKinds := [.data], laidTests := true, laidLooks := .later }
def DfaCallsUptoCardSaid : Prop := Claim7.holds Tryz.pinned (.plain (OpenSpec.upto dfaCallsSpec)) dfaCallsUptoCard
end Rows
end Go.Proofs.YtaadkdmbhckdeaaGreatDoor
