/-
  DERIVED. GIVEN WITH THE SEED: THE CARDS: each row of YtkjgogdkdejljaaGreatDoorRows.lean that lists a variable, with what it lists TIED to the program's text (the seventh form; the later family's looks); each row that meets fmt, with fmt's text TOLD by the authors' own Lean function (tested against real Go, not proved from fmt's source: count such statements apart). THE CARD IS WHAT COUNTS. Prove the row's statement (the work); the ties are given (YtkjgogdkdejljaaGreatDoorTie.lean); close each card by the builder's one call (the guide's Derived/Test/ToyasCard.lean, 'card_holds'). Laid BY PROGRAM, IN A SANDBOX (cutbox-door.mjs). By AI agents, Wed Nov 11 2026. No macro, syntax, notation, axiom, sorry.
-/
import Derived.Test.YtkjgogdkdejljaaGreatDoorRows
import GoSem.ClaimSeven
namespace Go.Proofs.YtkjgogdkdejljaaGreatDoor
namespace Rows

/-- THE TIED CARD OF 'viewportlaw07.LexerBuilds'. -/
def lexerBuildsCard : Claim7 := { stood := { row := lexerBuildsRow, standIns := [], harness := (true, "9e6da1d1f218071baa13808b26dd098b23e6ee80befeaacc6dfedf4fb87b7f32"), looks := false }, kinds := [], alts := [], laidByText := true, laidKinds := [.data], laidTests := true, laidLooks := .later }
def LexerBuildsCardSaid : Prop := Claim7.holds Tryz.pinned (.plain (OpenSpec.ofChange lexerBuildsSpec)) lexerBuildsCard

/-- THE TIED CARD OF 'viewportlaw07.LexerKinds'. -/
def lexerKindsCard : Claim7 := { stood := { row := lexerKindsRow, standIns := [], harness := (true, "9e6da1d1f218071baa13808b26dd098b23e6ee80befeaacc6dfedf4fb87b7f32"), looks := false }, kinds := [], alts := [], laidByText := true, laidKinds := [.data], laidTests := true, laidLooks := .later }
def LexerKindsCardSaid : Prop := Claim7.holds Tryz.pinned (.plain (OpenSpec.ofChange lexerKindsSpec)) lexerKindsCard

/-- THE TIED CARD OF 'viewportlaw07.LexerLocal'. -/
def lexerLocalCard : Claim7 := { stood := { row := lexerLocalRow, standIns := [], harness := (true, "9e6da1d1f218071baa13808b26dd098b23e6ee80befeaacc6dfedf4fb87b7f32"), looks := false }, kinds := [], alts := [], laidByText := true, laidKinds := [.data], laidTests := true, laidLooks := .later }
def LexerLocalCardSaid : Prop := Claim7.holds Tryz.pinned (.plain (OpenSpec.ofChange lexerLocalSpec)) lexerLocalCard

/-- THE TIED CARD OF 'viewportlaw07.LexerFirst'. -/
def lexerFirstCard : Claim7 := { stood := { row := lexerFirstRow, standIns := [], harness := (true, "9e6da1d1f218071baa13808b26dd098b23e6ee80befeaacc6dfedf4fb87b7f32"), looks := false }, kinds := [], alts := [], laidByText := true, laidKinds := [.data], laidTests := true, laidLooks := .later }
def LexerFirstCardSaid : Prop := Claim7.holds Tryz.pinned (.plain (OpenSpec.ofChange lexerFirstSpec)) lexerFirstCard

/-- THE TIED CARD OF 'viewportlaw07.LexerTiles'. -/
def lexerTilesCard : Claim7 := { stood := { row := lexerTilesRow, standIns := [], harness := (true, "9e6da1d1f218071baa13808b26dd098b23e6ee80befeaacc6dfedf4fb87b7f32"), looks := false }, kinds := [], alts := [], laidByText := true, laidKinds := [.data], laidTests := true, laidLooks := .later }
def LexerTilesCardSaid : Prop := Claim7.holds Tryz.pinned (.plain (OpenSpec.ofChange lexerTilesSpec)) lexerTilesCard

/-- THE TIED CARD OF 'viewportlaw07.LexerOn'. -/
def lexerOnCard : Claim7 := { stood := { row := lexerOnRow, standIns := [], harness := (true, "9e6da1d1f218071baa13808b26dd098b23e6ee80befeaacc6dfedf4fb87b7f32"), looks := false }, kinds := [], alts := [], laidByText := true, laidKinds := [.data], laidTests := true, laidLooks := .later }
def LexerOnCardSaid : Prop := Claim7.holds Tryz.pinned (.plain (OpenSpec.ofChange lexerOnSpec)) lexerOnCard

/-- THE SECOND FORM's CARD OF 'viewportlaw07.LexerBuilds'. -/
def lexerBuildsUptoCard : Claim7 := { stood := { row := lexerBuildsUptoRow, standIns := [], harness := (true, "9e6da1d1f218071baa13808b26dd098b23e6ee80befeaacc6dfedf4fb87b7f32"), looks := false }, kinds := [], alts := [], laidByText := true, laidKinds := [.data], laidTests := true, laidLooks := .later }
def LexerBuildsUptoCardSaid : Prop := Claim7.holds Tryz.pinned (.plain (OpenSpec.upto lexerBuildsSpec)) lexerBuildsUptoCard

/-- THE SECOND FORM's CARD OF 'viewportlaw07.LexerKinds'. -/
def lexerKindsUptoCard : Claim7 := { stood := { row := lexerKindsUptoRow, standIns := [], harness := (true, "9e6da1d1f218071baa13808b26dd098b23e6ee80befeaacc6dfedf4fb87b7f32"), looks := false }, kinds := [], alts := [], laidByText := true, laidKinds := [.data], laidTests := true, laidLooks := .later }
def LexerKindsUptoCardSaid : Prop := Claim7.holds Tryz.pinned (.plain (OpenSpec.upto lexerKindsSpec)) lexerKindsUptoCard

/-- THE SECOND FORM's CARD OF 'viewportlaw07.LexerLocal'. -/
def lexerLocalUptoCard : Claim7 := { stood := { row := lexerLocalUptoRow, standIns := [], harness := (true, "9e6da1d1f218071baa13808b26dd098b23e6ee80befeaacc6dfedf4fb87b7f32"), looks := false }, kinds := [], alts := [], laidByText := true, laidKinds := [.data], laidTests := true, laidLooks := .later }
def LexerLocalUptoCardSaid : Prop := Claim7.holds Tryz.pinned (.plain (OpenSpec.upto lexerLocalSpec)) lexerLocalUptoCard

/-- THE SECOND FORM's CARD OF 'viewportlaw07.LexerFirst'. -/
def lexerFirstUptoCard : Claim7 := { stood := { row := lexerFirstUptoRow, standIns := [], harness := (true, "9e6da1d1f218071baa13808b26dd098b23e6ee80befeaacc6dfedf4fb87b7f32"), looks := false }, kinds := [], alts := [], laidByText := true, laidKinds := [.data], laidTests := true, laidLooks := .later }
def LexerFirstUptoCardSaid : Prop := Claim7.holds Tryz.pinned (.plain (OpenSpec.upto lexerFirstSpec)) lexerFirstUptoCard

/-- THE SECOND FORM's CARD OF 'viewportlaw07.LexerTiles'. -/
def lexerTilesUptoCard : Claim7 := { stood := { row := lexerTilesUptoRow, standIns := [], harness := (true, "9e6da1d1f218071baa13808b26dd098b23e6ee80befeaacc6dfedf4fb87b7f32"), looks := false }, kinds := [], alts := [], laidByText := true, laidKinds := [.data], laidTests := true, laidLooks := .later }
def LexerTilesUptoCardSaid : Prop := Claim7.holds Tryz.pinned (.plain (OpenSpec.upto lexerTilesSpec)) lexerTilesUptoCard

/-- THE SECOND FORM's CARD OF 'viewportlaw07.LexerOn'. -/
def lexerOnUptoCard : Claim7 := { stood := { row := lexerOnUptoRow, standIns := [], harness := (true, "9e6da1d1f218071baa13808b26dd098b23e6ee80befeaacc6dfedf4fb87b7f32"), looks := false }, kinds := [], alts := [], laidByText := true, laidKinds := [.data], laidTests := true, laidLooks := .later }
def LexerOnUptoCardSaid : Prop := Claim7.holds Tryz.pinned (.plain (OpenSpec.upto lexerOnSpec)) lexerOnUptoCard
end Rows
end Go.Proofs.YtkjgogdkdejljaaGreatDoor
