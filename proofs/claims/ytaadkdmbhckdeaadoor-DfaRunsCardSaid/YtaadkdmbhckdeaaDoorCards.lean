/-
  DERIVED. GIVEN WITH THE SEED: THE CARDS: each row of YtaadkdmbhckdeaaDoorRows.lean that lists a variable, with what it lists TIED to the program's text (the seventh form; the later family's looks); each row that meets fmt, with fmt's text TOLD by the authors' own Lean function (tested against real Go, not proved from fmt's source: count such statements apart). THE CARD IS WHAT COUNTS. Prove the row's statement (the work); the ties are given (YtaadkdmbhckdeaaDoorTie.lean); close each card by the builder's one call (the guide's Derived/Test/ToyasCard.lean, 'card_holds'). Laid BY PROGRAM, IN A SANDBOX (cutbox-door.mjs). By AI agents, Wed Nov 11 2026. No macro, syntax, notation, axiom, sorry.
-/
import Derived.Test.YtaadkdmbhckdeaaDoorRows
import GoSem.ClaimSeven
namespace Go.Proofs.YtaadkdmbhckdeaaDoor
namespace Rows

/-- THE TIED CARD OF 'viewportlaw04.DfaFound'. -/
def dfaFoundCard : Claim7 := { stood := { row := dfaFoundRow, standIns := [], harness := (true, "deddd5f4bc146ce5b41caf5f6a24b4d4233948e11efd213f1a18412c438707e0"), looks := false }, kinds := [], alts := [], laidByText := true, laidKinds := [.data], laidTests := true, laidLooks := .later }
def DfaFoundCardSaid : Prop := Claim7.holds Tryd.pinned (.plain (OpenSpec.ofChange dfaFoundSpec)) dfaFoundCard

/-- THE TIED CARD OF 'viewportlaw04.DfaRuns'. -/
def dfaRunsCard : Claim7 := { stood := { row := dfaRunsRow, standIns := [], harness := (true, "deddd5f4bc146ce5b41caf5f6a24b4d4233948e11efd213f1a18412c438707e0"), looks := false }, kinds := [], alts := [], laidByText := true, laidKinds := [.data], laidTests := true, laidLooks := .later }
def DfaRunsCardSaid : Prop := Claim7.holds Tryd.pinned (.plain (OpenSpec.ofChange dfaRunsSpec)) dfaRunsCard

/-- THE TIED CARD OF 'viewportlaw04.DfaSteps'. -/
def dfaStepsCard : Claim7 := { stood := { row := dfaStepsRow, standIns := [], harness := (true, "deddd5f4bc146ce5b41caf5f6a24b4d4233948e11efd213f1a18412c438707e0"), looks := false }, kinds := [], alts := [], laidByText := true, laidKinds := [.data], laidTests := true, laidLooks := .later }
def DfaStepsCardSaid : Prop := Claim7.holds Tryd.pinned (.plain (OpenSpec.ofChange dfaStepsSpec)) dfaStepsCard

/-- THE SECOND FORM's CARD OF 'viewportlaw04.DfaFound'. -/
def dfaFoundUptoCard : Claim7 := { stood := { row := dfaFoundUptoRow, standIns := [], harness := (true, "deddd5f4bc146ce5b41caf5f6a24b4d4233948e11efd213f1a18412c438707e0"), looks := false }, kinds := [], alts := [], laidByText := true, laidKinds := [.data], laidTests := true, laidLooks := .later }
def DfaFoundUptoCardSaid : Prop := Claim7.holds Tryd.pinned (.plain (OpenSpec.upto dfaFoundSpec)) dfaFoundUptoCard

/-- THE SECOND FORM's CARD OF 'viewportlaw04.DfaRuns'. -/
def dfaRunsUptoCard : Claim7 := { stood := { row := dfaRunsUptoRow, standIns := [], harness := (true, "deddd5f4bc146ce5b41caf5f6a24b4d4233948e11efd213f1a18412c438707e0"), looks := false }, kinds := [], alts := [], laidByText := true, laidKinds := [.data], laidTests := true, laidLooks := .later }
def DfaRunsUptoCardSaid : Prop := Claim7.holds Tryd.pinned (.plain (OpenSpec.upto dfaRunsSpec)) dfaRunsUptoCard

/-- THE SECOND FORM's CARD OF 'viewportlaw04.DfaSteps'. -/
def dfaStepsUptoCard : Claim7 := { stood := { row := dfaStepsUptoRow, standIns := [], harness := (true, "deddd5f4bc146ce5b41caf5f6a24b4d4233948e11efd213f1a18412c438707e0"), looks := false }, kinds := [], alts := [], laidByText := true, laidKinds := [.data], laidTests := true, laidLooks := .later }
def DfaStepsUptoCardSaid : Prop := Claim7.holds Tryd.pinned (.plain (OpenSpec.upto dfaStepsSpec)) dfaStepsUptoCard
end Rows
end Go.Proofs.YtaadkdmbhckdeaaDoor
