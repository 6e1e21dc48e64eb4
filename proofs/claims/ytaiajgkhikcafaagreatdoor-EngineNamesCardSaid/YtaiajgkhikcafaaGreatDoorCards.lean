/-
  DERIVED. GIVEN WITH THE SEED: THE CARDS: each row of YtaiajgkhikcafaaGreatDoorRows.lean that lists a variable, with what it lists TIED to the program's text (the seventh form; the later family's looks); each row that meets fmt, with fmt's text TOLD by the authors' own Lean function (tested against real Go, not proved from fmt's source: count such statements apart). THE CARD IS WHAT COUNTS. Prove the row's statement (the work); the ties are given (YtaiajgkhikcafaaGreatDoorTie.lean); close each card by the builder's one call (the guide's Derived/Test/ToyasCard.lean, 'card_holds'). Laid BY PROGRAM, IN A SANDBOX (cutbox-door.mjs). By AI agents, Wed Nov 11 2026. No macro, syntax, notation, axiom, sorry.
-/
import Derived.Test.YtaiajgkhikcafaaGreatDoorRows
import GoSem.ClaimSeven
namespace Go.Proofs.YtaiajgkhikcafaaGreatDoor
namespace Rows

/-- THE TIED CARD OF 'viewportlaw27.EngineNames'. -/
def engineNamesCard : Claim7 := { stood := { row := engineNamesRow, standIns := [], harness := (true, "8b513cdfd13e9c63739ebd4662704941e5cb8bee822c3cf660b92fb14bde0f76"), looks := true }, kinds := [], alts := [], laidByText := true, laidKinds := [.data], laidTests := true, laidLooks := .later }
def EngineNamesCardSaid : Prop := Claim7.holds Tryz.pinned (.plain (OpenSpec.ofChange engineNamesSpec)) engineNamesCard

/-- THE SECOND FORM's CARD OF 'viewportlaw27.EngineNames'. -/
def engineNamesUptoCard : Claim7 := { stood := { row := engineNamesUptoRow, standIns := [], harness := (true, "8b513cdfd13e9c63739ebd4662704941e5cb8bee822c3cf660b92fb14bde0f76"), looks := true }, kinds := [], alts := [], laidByText := true, laidKinds := [.data], laidTests := true, laidLooks := .later }
def EngineNamesUptoCardSaid : Prop := Claim7.holds Tryz.pinned (.plain (OpenSpec.upto engineNamesSpec)) engineNamesUptoCard
end Rows
end Go.Proofs.YtaiajgkhikcafaaGreatDoor
