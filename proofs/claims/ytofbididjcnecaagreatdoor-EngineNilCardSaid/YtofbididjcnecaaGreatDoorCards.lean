/-
  DERIVED. GIVEN WITH THE SEED: THE CARDS: each row of YtofbididjcnecaaGreatDoorRows.lean that lists a variable, with what it lists TIED to the program's text (the seventh form; the later family's looks); each row that meets fmt, with fmt's text TOLD by the authors' own Lean function (tested against real Go, not proved from fmt's source: count such statements apart). THE CARD IS WHAT COUNTS. Prove the row's statement (the work); the ties are given (YtofbididjcnecaaGreatDoorTie.lean); close each card by the builder's one call (the guide's Derived/Test/ToyasCard.lean, 'card_holds'). Laid BY PROGRAM, IN A SANDBOX (cutbox-door.mjs). By AI agents, Wed Nov 11 2026. No macro, syntax, notation, axiom, sorry.
-/
import Derived.Test.YtofbididjcnecaaGreatDoorRows
import GoSem.ClaimSeven
namespace Go.Proofs.YtofbididjcnecaaGreatDoor
namespace Rows

/-- THE TIED CARD OF 'viewportlaw27.EngineNil'. -/
def engineNilCard : Claim7 := { stood := { row := engineNilRow, standIns := [], harness := (true, "e73541e69fbeecfba73808d97d7392d086b1d74470e8ebe3b7ec6080a119fa5d"), looks := true }, kinds := [], alts := [], laidByText := true, laidKinds := [.data], laidTests := true, laidLooks := .later }
def EngineNilCardSaid : Prop := Claim7.holds Tryz.pinned (.plain (OpenSpec.ofChange engineNilSpec)) engineNilCard

/-- THE SECOND FORM's CARD OF 'viewportlaw27.EngineNil'. -/
def engineNilUptoCard : Claim7 := { stood := { row := engineNilUptoRow, standIns := [], harness := (true, "e73541e69fbeecfba73808d97d7392d086b1d74470e8ebe3b7ec6080a119fa5d"), looks := true }, kinds := [], alts := [], laidByText := true, laidKinds := [.data], laidTests := true, laidLooks := .later }
def EngineNilUptoCardSaid : Prop := Claim7.holds Tryz.pinned (.plain (OpenSpec.upto engineNilSpec)) engineNilUptoCard
end Rows
end Go.Proofs.YtofbididjcnecaaGreatDoor
