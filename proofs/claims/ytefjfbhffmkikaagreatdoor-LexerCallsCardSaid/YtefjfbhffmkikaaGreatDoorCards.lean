/-
  DERIVED. GIVEN WITH THE SEED: THE CARDS: each row of YtefjfbhffmkikaaGreatDoorRows.lean that lists a variable, with what it lists TIED to the program's text (the seventh form; the later family's looks); each row that meets fmt, with fmt's text TOLD by the authors' own Lean function (tested against real Go, not proved from fmt's source: count such statements apart). THE CARD IS WHAT COUNTS. Prove the row's statement (the work); the ties are given (YtefjfbhffmkikaaGreatDoorTie.lean); close each card by the builder's one call (the guide's Derived/Test/ToyasCard.lean, 'card_holds'). Laid BY PROGRAM, IN A SANDBOX (cutbox-door.mjs). By AI agents, Wed Nov 11 2026. No macro, syntax, notation, axiom, sorry.
-/
import Derived.Test.YtefjfbhffmkikaaGreatDoorRows
import GoSem.ClaimSeven
namespace Go.Proofs.YtefjfbhffmkikaaGreatDoor
namespace Rows

/-- THE TIED CARD OF 'viewportlaw07.LexerCalls'. -/
def lexerCallsCard : Claim7 := { stood := { row := lexerCallsRow, standIns := [], harness := (true, "4cba0c9ad3a2289ba094bdee1281fed0a6f64ec0865b7d447f8850e5bc712ef5"), looks := false }, kinds := [], alts := [], laidByText := true, laidKinds := [.data], laidTests := true, laidLooks := .later }
def LexerCallsCardSaid : Prop := Claim7.holds Tryz.pinned (.plain (OpenSpec.ofChange lexerCallsSpec)) lexerCallsCard

/-- THE SECOND FORM's CARD OF 'viewportlaw07.LexerCalls'. -/
def lexerCallsUptoCard : Claim7 := { stood := { row := lexerCallsUptoRow, standIns := [], harness := (true, "4cba0c9ad3a2289ba094bdee1281fed0a6f64ec0865b7d447f8850e5bc712ef5"), looks := false }, kinds := [], alts := [], laidByText := true, laidKinds := [.data], laidTests := true, laidLooks := .later }
def LexerCallsUptoCardSaid : Prop := Claim7.holds Tryz.pinned (.plain (OpenSpec.upto lexerCallsSpec)) lexerCallsUptoCard
end Rows
end Go.Proofs.YtefjfbhffmkikaaGreatDoor
