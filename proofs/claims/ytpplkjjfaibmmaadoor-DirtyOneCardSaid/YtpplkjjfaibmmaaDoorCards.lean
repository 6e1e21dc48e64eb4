/-
  DERIVED. GIVEN WITH THE SEED: THE CARDS: each row of YtpplkjjfaibmmaaDoorRows.lean that lists a variable, with what it lists TIED to the program's text (the seventh form; the later family's looks); each row that meets fmt, with fmt's text TOLD by the authors' own Lean function (tested against real Go, not proved from fmt's source: count such statements apart). THE CARD IS WHAT COUNTS. Prove the row's statement (the work); the ties are given (YtpplkjjfaibmmaaDoorTie.lean); close each card by the builder's one call (the guide's Derived/Test/ToyasCard.lean, 'card_holds'). Laid BY PROGRAM, IN A SANDBOX (cutbox-door.mjs). By AI agents, Wed Nov 11 2026. No macro, syntax, notation, axiom, sorry.
-/
import Derived.Test.YtpplkjjfaibmmaaDoorRows
import GoSem.ClaimSeven
namespace Go.Proofs.YtpplkjjfaibmmaaDoor
namespace Rows

/-- THE TIED CARD OF 'viewportlaw22.DirtyOne'. -/
def dirtyOneCard : Claim7 := { stood := { row := dirtyOneRow, standIns := [], harness := (true, "ea3dcc871272c12313020538911a075ea0195e0f9186837e827b35efacb521e4"), looks := false }, kinds := [], alts := [], laidByText := true, laidKinds := [.data], laidTests := true, laidLooks := .later }
def DirtyOneCardSaid : Prop := Claim7.holds Tryd.pinned (.plain (OpenSpec.ofChange dirtyOneSpec)) dirtyOneCard

/-- THE TIED CARD OF 'viewportlaw22.DirtyKeeps'. -/
def dirtyKeepsCard : Claim7 := { stood := { row := dirtyKeepsRow, standIns := [], harness := (true, "ea3dcc871272c12313020538911a075ea0195e0f9186837e827b35efacb521e4"), looks := false }, kinds := [], alts := [], laidByText := true, laidKinds := [.data], laidTests := true, laidLooks := .later }
def DirtyKeepsCardSaid : Prop := Claim7.holds Tryd.pinned (.plain (OpenSpec.ofChange dirtyKeepsSpec)) dirtyKeepsCard

/-- THE TIED CARD OF 'viewportlaw22.DirtyNames'. -/
def dirtyNamesCard : Claim7 := { stood := { row := dirtyNamesRow, standIns := [], harness := (true, "ea3dcc871272c12313020538911a075ea0195e0f9186837e827b35efacb521e4"), looks := false }, kinds := [], alts := [], laidByText := true, laidKinds := [.data], laidTests := true, laidLooks := .later }
def DirtyNamesCardSaid : Prop := Claim7.holds Tryd.pinned (.plain (OpenSpec.ofChange dirtyNamesSpec)) dirtyNamesCard

/-- THE SECOND FORM's CARD OF 'viewportlaw22.DirtyOne'. -/
def dirtyOneUptoCard : Claim7 := { stood := { row := dirtyOneUptoRow, standIns := [], harness := (true, "ea3dcc871272c12313020538911a075ea0195e0f9186837e827b35efacb521e4"), looks := false }, kinds := [], alts := [], laidByText := true, laidKinds := [.data], laidTests := true, laidLooks := .later }
def DirtyOneUptoCardSaid : Prop := Claim7.holds Tryd.pinned (.plain (OpenSpec.upto dirtyOneSpec)) dirtyOneUptoCard

/-- THE SECOND FORM's CARD OF 'viewportlaw22.DirtyKeeps'. -/
def dirtyKeepsUptoCard : Claim7 := { stood := { row := dirtyKeepsUptoRow, standIns := [], harness := (true, "ea3dcc871272c12313020538911a075ea0195e0f9186837e827b35efacb521e4"), looks := false }, kinds := [], alts := [], laidByText := true, laidKinds := [.data], laidTests := true, laidLooks := .later }
def DirtyKeepsUptoCardSaid : Prop := Claim7.holds Tryd.pinned (.plain (OpenSpec.upto dirtyKeepsSpec)) dirtyKeepsUptoCard

/-- THE SECOND FORM's CARD OF 'viewportlaw22.DirtyNames'. -/
def dirtyNamesUptoCard : Claim7 := { stood := { row := dirtyNamesUptoRow, standIns := [], harness := (true, "ea3dcc871272c12313020538911a075ea0195e0f9186837e827b35efacb521e4"), looks := false }, kinds := [], alts := [], laidByText := true, laidKinds := [.data], laidTests := true, laidLooks := .later }
def DirtyNamesUptoCardSaid : Prop := Claim7.holds Tryd.pinned (.plain (OpenSpec.upto dirtyNamesSpec)) dirtyNamesUptoCard
end Rows
end Go.Proofs.YtpplkjjfaibmmaaDoor
