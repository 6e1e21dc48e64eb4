/- The closed facts of the row, joined. -/
import Derived.Test.YtnlieipdeepemaaGreatDoorJ1
import Derived.Test.YtnlieipdeepemaaGreatDoorJ2
import Derived.Test.YtnlieipdeepemaaGreatDoorJ3
import Derived.Test.YtnlieipdeepemaaGreatDoorJ4
import Derived.Test.YtnlieipdeepemaaGreatDoorJ5
import Derived.Test.YtnlieipdeepemaaGreatDoorJ6
import Derived.Test.YtnlieipdeepemaaGreatDoorJ7
import Derived.Test.YtnlieipdeepemaaGreatDoorRows
import Derived.KernelRfl
import Derived.JoinedOf
import Derived.SevenTiedAt
namespace Go.Proofs.YtnlieipdeepemaaGreatDoor
open Go
set_option maxRecDepth 100000
theorem c0 : (Rows.worldNamesRow.wf (OpenSpec.ofChange Rows.worldNamesSpec)) = true := by kernel_rfl
theorem c3 : (Tryz.f3.params.all (Tryz.prog.readableRec ·)) = true := by kernel_rfl
theorem c4 : (namedTie Tryz.prog Rows.worldNamesRow.named Rows.worldNamesSpec.vars) = true := by kernel_rfl
theorem c5 : ((Rows.worldNamesRow.stops == [])) = true := by kernel_rfl
theorem c6 : ((Tryz.prog.stops == [])) = true := by kernel_rfl
theorem c7 : ((Rows.worldNamesRow.knobs == [])) = true := by kernel_rfl
theorem c8 : ((Tryz.prog.stopKnobs == [])) = true := by kernel_rfl
theorem c13 : ((Rows.worldNamesRow.maps == (Tryz.f3.params.toList ++ Rows.worldNamesSpec.plain.varTypes Tryz.prog).any (Tryz.prog.mapsRec ·))) = true := by kernel_rfl
theorem c14 : ((Rows.worldNamesRow.ifaces == (Tryz.f3.params.toList ++ Rows.worldNamesSpec.plain.varTypes Tryz.prog).any (Tryz.prog.ifacesRec ·))) = true := by kernel_rfl
theorem c15 : ((Rows.worldNamesRow.mapsOut == Tryz.prog.mapsAmong Tryz.f3.resultTypes.toList)) = true := by kernel_rfl
theorem c16 : ((Rows.worldNamesRow.loops == (Tryz.f3.params.toList ++ Rows.worldNamesSpec.plain.varTypes Tryz.prog).any (Tryz.prog.loopsFrom ·))) = true := by kernel_rfl
theorem c17 : ((Rows.worldNamesRow.wideKeys == (Tryz.f3.params.toList ++ Rows.worldNamesSpec.plain.varTypes Tryz.prog ++ Tryz.f3.resultTypes.toList).any (Tryz.prog.wideKeysFrom ·))) = true := by kernel_rfl
theorem c18 : (Rows.worldNamesSpec.vars.all (Tryz.prog.varReadable ·)) = true := by kernel_rfl
theorem c19 : (Tryz.f3.resultTypes.all (fun t => Tryz.prog.readableRec t && decide (t < Tryz.prog.types.size))) = true := by kernel_rfl
theorem c20 : ((Rows.worldNamesRow.ifacesOut == Tryz.f3.resultTypes.toList.any (Tryz.prog.ifacesRec ·))) = true := by kernel_rfl
theorem c21 : ((Rows.worldNamesRow.loopsOut == Tryz.f3.resultTypes.toList.any (Tryz.prog.loopsFrom ·))) = true := by kernel_rfl
theorem c23 : (Rows.worldNamesRow.shortTexts.isNone) = true := by kernel_rfl
theorem c25 : (Tryz.prog.mayEnter) = true := by kernel_rfl
theorem c26 : ((Rows.worldNamesRow.lifted == Tryz.prog.liftsFinal)) = true := by kernel_rfl
theorem c27 : ((Tryz.prog.make == some Rows.worldNamesRow.make)) = true := by kernel_rfl
theorem c29 : ((Rows.worldNamesRow.pinned == Rows.worldNamesRow.pinnedBy)) = true := by kernel_rfl
theorem c30 : ((Rows.worldNamesRow.veiled == (Tryz.f3.params.toList ++ Rows.worldNamesSpec.plain.varTypes Tryz.prog ++ Tryz.f3.resultTypes.toList).any (Tryz.prog.veiledRec ·))) = true := by kernel_rfl
theorem c31 : (Rows.worldNamesRow.veiledFits Tryz.prog Tryz.f3.params.toList (Tryz.f3.params.toList ++ Rows.worldNamesSpec.plain.varTypes Tryz.prog ++ Tryz.f3.resultTypes.toList)) = true := by kernel_rfl
theorem and_mk {a b : Bool} (h : a = true) (k : b = true) : (a && b) = true := by subst h; subst k; rfl
theorem closed : joinedFacts Tryz.prog 3 Tryz.f3 Rows.worldNamesSpec Rows.worldNamesRow = true := by
  unfold joinedFacts
  exact (and_mk (and_mk (and_mk (and_mk (and_mk (and_mk (and_mk (and_mk (and_mk (and_mk (and_mk (and_mk (and_mk (and_mk (and_mk (and_mk (and_mk (and_mk (and_mk (and_mk (and_mk (and_mk (and_mk (and_mk (and_mk (and_mk (and_mk (and_mk (and_mk (and_mk (and_mk c0 c1) c2) c3) c4) c5) c6) c7) c8) c9) c10) c11) c12) c13) c14) c15) c16) c17) c18) c19) c20) c21) c22) c23) c24) c25) c26) c27) (by kernel_rfl)) c29) c30) c31)
theorem inst : Func.isInstance Tryz.prog Tryz.f3 Rows.worldNamesRow.origin Rows.worldNamesRow.targs := of_decide_eq_true (by kernel_rfl)
theorem wrap : Func.isWrapper Tryz.prog Tryz.f3 Rows.worldNamesRow.wrapper Rows.worldNamesRow.mainSum := by unfold Func.isWrapper; first | (rw [if_pos (by decide +kernel)]; kernel_rfl) | (rw [if_neg (by decide +kernel)]; exact ⟨rfl, rfl⟩)
end Go.Proofs.YtnlieipdeepemaaGreatDoor
