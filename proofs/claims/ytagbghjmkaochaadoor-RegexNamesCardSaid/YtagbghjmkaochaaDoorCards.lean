/-
  DERIVED. GIVEN WITH THE SEED: THE CARDS: each row of YtagbghjmkaochaaDoorRows.lean that lists a variable, with what it lists TIED to the program's text (the seventh form; the later family's looks); each row that meets fmt, with fmt's text TOLD by the authors' own Lean function (tested against real Go, not proved from fmt's source: count such statements apart). THE CARD IS WHAT COUNTS. Prove the row's statement (the work); the ties are given (YtagbghjmkaochaaDoorTie.lean); close each card by the builder's one call (the guide's Derived/Test/ToyasCard.lean, 'card_holds'). Laid BY PROGRAM, IN A SANDBOX (cutbox-door.mjs). By AI agents, Wed Nov 11 2026. No macro, syntax, notation, axiom, sorry.
-/
import Derived.Test.YtagbghjmkaochaaDoorRows
import GoSem.ClaimSeven
namespace Go.Proofs.YtagbghjmkaochaaDoor
namespace Rows

/-- THE TIED CARD OF 'viewportlaw02.RegexNames'. -/
def regexNamesCard : Claim7 := { stood := { row := regexNamesRow, standIns := [], harness := (true, "06ae743b23084c05bf62328f8e498d5847292c6f074944b64116d434e258d962"), looks := false }, kinds := [], alts := [], laidByText := true, laidKinds := [.data], laidTests := true, laidLooks := .later }
def RegexNamesCardSaid : Prop := Claim7.holds Tryd.pinned (.plain (OpenSpec.ofChange regexNamesSpec)) regexNamesCard

/-- THE SECOND FORM's CARD OF 'viewportlaw02.RegexNames'. -/
def regexNamesUptoCard : Claim7 := { stood := { row := regexNamesUptoRow, standIns := [], harness := (true, "06ae743b23084c05bf62328f8e498d5847292c6f074944b64116d434e258d962"), looks := false }, kinds := [], alts := [], laidByText := true, laidKinds := [.data], laidTests := true, laidLooks := .later }
def RegexNamesUptoCardSaid : Prop := Claim7.holds Tryd.pinned (.plain (OpenSpec.upto regexNamesSpec)) regexNamesUptoCard
end Rows
end Go.Proofs.YtagbghjmkaochaaDoor
