/-
  DERIVED. GIVEN WITH THE SEED: THE CARDS: each row of YtpbkgegkjglibaaDoorRows.lean that lists a variable, with what it lists TIED to the program's text (the seventh form; the later family's looks); each row that meets fmt, with fmt's text TOLD by the authors' own Lean function (tested against real Go, not proved from fmt's source: count such statements apart). THE CARD IS WHAT COUNTS. Prove the row's statement (the work); the ties are given (YtpbkgegkjglibaaDoorTie.lean); close each card by the builder's one call (the guide's Derived/Test/ToyasCard.lean, 'card_holds'). Laid BY PROGRAM, IN A SANDBOX (cutbox-door.mjs). By AI agents, Wed Nov 11 2026. No macro, syntax, notation, axiom, sorry.
-/
import Derived.Test.YtpbkgegkjglibaaDoorRows
import GoSem.ClaimSeven
namespace Go.Proofs.YtpbkgegkjglibaaDoor
namespace Rows

/-- THE TIED CARD OF 'viewportlaw02.RegexReads'. -/
def regexReadsCard : Claim7 := { stood := { row := regexReadsRow, standIns := [], harness := (true, "c277e0fbd44346db22150428dc3eb44bf575ca3c6306a9e8a2f2c195261c4681"), looks := false }, kinds := [], alts := [], laidByText := true, laidKinds := [.data], laidTests := true, laidLooks := .later }
def RegexReadsCardSaid : Prop := Claim7.holds Tryd.pinned (.plain (OpenSpec.ofChange regexReadsSpec)) regexReadsCard

/-- THE TIED CARD OF 'viewportlaw02.RegexBack'. -/
def regexBackCard : Claim7 := { stood := { row := regexBackRow, standIns := [], harness := (true, "c277e0fbd44346db22150428dc3eb44bf575ca3c6306a9e8a2f2c195261c4681"), looks := false }, kinds := [], alts := [], laidByText := true, laidKinds := [.data], laidTests := true, laidLooks := .later }
def RegexBackCardSaid : Prop := Claim7.holds Tryd.pinned (.plain (OpenSpec.ofChange regexBackSpec)) regexBackCard

/-- THE TIED CARD OF 'viewportlaw02.RegexLaws'. -/
def regexLawsCard : Claim7 := { stood := { row := regexLawsRow, standIns := [], harness := (true, "c277e0fbd44346db22150428dc3eb44bf575ca3c6306a9e8a2f2c195261c4681"), looks := false }, kinds := [], alts := [], laidByText := true, laidKinds := [.data], laidTests := true, laidLooks := .later }
def RegexLawsCardSaid : Prop := Claim7.holds Tryd.pinned (.plain (OpenSpec.ofChange regexLawsSpec)) regexLawsCard

/-- THE TIED CARD OF 'viewportlaw02.RegexKinds'. -/
def regexKindsCard : Claim7 := { stood := { row := regexKindsRow, standIns := [], harness := (true, "c277e0fbd44346db22150428dc3eb44bf575ca3c6306a9e8a2f2c195261c4681"), looks := false }, kinds := [], alts := [], laidByText := true, laidKinds := [.data], laidTests := true, laidLooks := .later }
def RegexKindsCardSaid : Prop := Claim7.holds Tryd.pinned (.plain (OpenSpec.ofChange regexKindsSpec)) regexKindsCard

/-- THE TIED CARD OF 'viewportlaw02.RegexNames'. -/
def regexNamesCard : Claim7 := { stood := { row := regexNamesRow, standIns := [], harness := (true, "c277e0fbd44346db22150428dc3eb44bf575ca3c6306a9e8a2f2c195261c4681"), looks := false }, kinds := [], alts := [], laidByText := true, laidKinds := [.data], laidTests := true, laidLooks := .later }
def RegexNamesCardSaid : Prop := Claim7.holds Tryd.pinned (.plain (OpenSpec.ofChange regexNamesSpec)) regexNamesCard

/-- THE SECOND FORM's CARD OF 'viewportlaw02.RegexReads'. -/
def regexReadsUptoCard : Claim7 := { stood := { row := regexReadsUptoRow, standIns := [], harness := (true, "c277e0fbd44346db22150428dc3eb44bf575ca3c6306a9e8a2f2c195261c4681"), looks := false }, kinds := [], alts := [], laidByText := true, laidKinds := [.data], laidTests := true, laidLooks := .later }
def RegexReadsUptoCardSaid : Prop := Claim7.holds Tryd.pinned (.plain (OpenSpec.upto regexReadsSpec)) regexReadsUptoCard

/-- THE SECOND FORM's CARD OF 'viewportlaw02.RegexBack'. -/
def regexBackUptoCard : Claim7 := { stood := { row := regexBackUptoRow, standIns := [], harness := (true, "c277e0fbd44346db22150428dc3eb44bf575ca3c6306a9e8a2f2c195261c4681"), looks := false }, kinds := [], alts := [], laidByText := true, laidKinds := [.data], laidTests := true, laidLooks := .later }
def RegexBackUptoCardSaid : Prop := Claim7.holds Tryd.pinned (.plain (OpenSpec.upto regexBackSpec)) regexBackUptoCard

/-- THE SECOND FORM's CARD OF 'viewportlaw02.RegexLaws'. -/
def regexLawsUptoCard : Claim7 := { stood := { row := regexLawsUptoRow, standIns := [], harness := (true, "c277e0fbd44346db22150428dc3eb44bf575ca3c6306a9e8a2f2c195261c4681"), looks := false }, kinds := [], alts := [], laidByText := true, laidKinds := [.data], laidTests := true, laidLooks := .later }
def RegexLawsUptoCardSaid : Prop := Claim7.holds Tryd.pinned (.plain (OpenSpec.upto regexLawsSpec)) regexLawsUptoCard

/-- THE SECOND FORM's CARD OF 'viewportlaw02.RegexKinds'. -/
def regexKindsUptoCard : Claim7 := { stood := { row := regexKindsUptoRow, standIns := [], harness := (true, "c277e0fbd44346db22150428dc3eb44bf575ca3c6306a9e8a2f2c195261c4681"), looks := false }, kinds := [], alts := [], laidByText := true, laidKinds := [.data], laidTests := true, laidLooks := .later }
def RegexKindsUptoCardSaid : Prop := Claim7.holds Tryd.pinned (.plain (OpenSpec.upto regexKindsSpec)) regexKindsUptoCard

/-- THE SECOND FORM's CARD OF 'viewportlaw02.RegexNames'. -/
def regexNamesUptoCard : Claim7 := { stood := { row := regexNamesUptoRow, standIns := [], harness := (true, "c277e0fbd44346db22150428dc3eb44bf575ca3c6306a9e8a2f2c195261c4681"), looks := false }, kinds := [], alts := [], laidByText := true, laidKinds := [.data], laidTests := true, laidLooks := .later }
def RegexNamesUptoCardSaid : Prop := Claim7.holds Tryd.pinned (.plain (OpenSpec.upto regexNamesSpec)) regexNamesUptoCard
end Rows
end Go.Proofs.YtpbkgegkjglibaaDoor
