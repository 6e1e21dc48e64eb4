/-
  DERIVED. GIVEN WITH THE SEED: THE CARDS: each row of YtagbghjmkaochacDoorRows.lean that lists a variable, with what it lists TIED to the program's text (the seventh form; the later family's looks); each row that meets fmt, with fmt's text TOLD by the authors' own Lean function (tested against real Go, not proved from fmt's source: count such statements apart). THE CARD IS WHAT COUNTS. Prove the row's statement (the work); the ties are given (YtagbghjmkaochacDoorTie.lean); close each card by the builder's one call (the guide's Derived/Test/ToyasCard.lean, 'card_holds'). Laid BY PROGRAM, IN A SANDBOX (cutbox-door.mjs). By AI agents, Wed Nov 11 2026. No macro, syntax, notation, axiom, sorry.
-/
import Derived.Test.YtagbghjmkaochacDoorRows
import GoSem.ClaimSeven
namespace Go.Proofs.YtagbghjmkaochacDoor
namespace Rows

/-- THE TIED CARD OF 'viewportlaw04.DfaNames'. -/
def dfaNamesCard : Claim7 := { stood := { row := dfaNamesRow, standIns := [], harness := (true, "b398a3c375d9a58605792e04801cfc114183d8dd63c8770474adc394a25e4cb8"), looks := false }, kinds := [], alts := [], laidByText := true, laidKinds := [.data], laidTests := true, laidLooks := .later }
def DfaNamesCardSaid : Prop := Claim7.holds Tryd.pinned (.plain (OpenSpec.ofChange dfaNamesSpec)) dfaNamesCard

/-- THE SECOND FORM's CARD OF 'viewportlaw04.DfaNames'. -/
def dfaNamesUptoCard : Claim7 := { stood := { row := dfaNamesUptoRow, standIns := [], harness := (true, "b398a3c375d9a58605792e04801cfc114183d8dd63c8770474adc394a25e4cb8"), looks := false }, kinds := [], alts := [], laidByText := true, laidKinds := [.data], laidTests := true, laidLooks := .later }
def DfaNamesUptoCardSaid : Prop := Claim7.holds Tryd.pinned (.plain (OpenSpec.upto dfaNamesSpec)) dfaNamesUptoCard
end Rows
end Go.Proofs.YtagbghjmkaochacDoor
