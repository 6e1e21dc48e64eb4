/-
  DERIVED. GIVEN WITH THE SEED: THE CARDS: each row of YtihnoigdplkfbaaGreatDoorRows.lean that lists a variable, with what it lists TIED to the program's text (the seventh form; the later family's looks); each row that meets fmt, with fmt's text TOLD by the authors' own Lean function (tested against real Go, not proved from fmt's source: count such statements apart). THE CARD IS WHAT COUNTS. Prove the row's statement (the work); the ties are given (YtihnoigdplkfbaaGreatDoorTie.lean); close each card by the builder's one call (the guide's Derived/Test/ToyasCard.lean, 'card_holds'). Laid BY PROGRAM, IN A SANDBOX (cutbox-door.mjs). By AI agents, Wed Nov 11 2026. No macro, syntax, notation, axiom, sorry.
-/
import Derived.Test.YtihnoigdplkfbaaGreatDoorRows
import GoSem.ClaimSeven
namespace Go.Proofs.YtihnoigdplkfbaaGreatDoor
namespace Rows

/-- THE TIED CARD OF 'viewportlaw17.FreshNil'. -/
def freshNilCard : Claim7 := { stood := { row := freshNilRow, standIns := [], harness := (true, "0f29f4dcfca9377e921b6924d0bc4617ede68938e081145cbf192667217c21b7"), looks := true }, kinds := [], alts := [], laidByText := true, laidKinds := [.data], laidTests := true, laidLooks := .later }
def FreshNilCardSaid : Prop := Claim7.holds Tryz.pinned (.plain (OpenSpec.ofChange freshNilSpec)) freshNilCard

/-- THE SECOND FORM's CARD OF 'viewportlaw17.FreshNil'. -/
def freshNilUptoCard : Claim7 := { stood := { row := freshNilUptoRow, standIns := [], harness := (true, "0f29f4dcfca9377e921b6924d0bc4617ede68938e081145cbf192667217c21b7"), looks := true }, kinds := [], alts := [], laidByText := true, laidKinds := [.data], laidTests := true, laidLooks := .later }
def FreshNilUptoCardSaid : Prop := Claim7.holds Tryz.pinned (.plain (OpenSpec.upto freshNilSpec)) freshNilUptoCard
end Rows
end Go.Proofs.YtihnoigdplkfbaaGreatDoor
