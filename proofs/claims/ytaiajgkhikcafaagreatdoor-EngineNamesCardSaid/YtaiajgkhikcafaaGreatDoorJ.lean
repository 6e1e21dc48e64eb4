/- The closed facts of the row, joined. -/
import Derived.Test.YtaiajgkhikcafaaGreatDoorJ1
import Derived.Test.YtaiajgkhikcafaaGreatDoorJ2
import Derived.Test.YtaiajgkhikcafaaGreatDoorJ3
import Derived.Test.YtaiajgkhikcafaaGreatDoorJ4
import Derived.Test.YtaiajgkhikcafaaGreatDoorJ5
import Derived.Test.YtaiajgkhikcafaaGreatDoorJ6
import Derived.Test.YtaiajgkhikcafaaGreatDoorJ7
import Derived.Test.YtaiajgkhikcafaaGreatDoorRows
import Derived.KernelRfl
import Derived.JoinedOf
import Derived.SevenTiedAt
namespace Go.Proofs.YtaiajgkhikcafaaGreatDoor
open Go
set_option maxRecDepth 100000
theorem c0 : (Rows.engineNamesRow.wf (OpenSpec.ofChange Rows.engineNamesSpec)) = true := by kernel_rfl
theorem c3 : (Tryz.f3.params.all (Tryz.prog.readableRec ·)) = true := by kernel_rfl
theorem c4 : (namedTie Tryz.prog Rows.engineNamesRow.named Rows.engineNamesSpec.vars) = true := by kernel_rfl
theorem c5 : ((Rows.engineNamesRow.stops == [])) = true := by kernel_rfl
theorem c6 : ((Tryz.prog.stops == [])) = true := by kernel_rfl
theorem c7 : ((Rows.engineNamesRow.knobs == [])) = true := by kernel_rfl
theorem c8 : ((Tryz.prog.stopKnobs == [])) = true := by kernel_rfl
theorem c13 : ((Rows.engineNamesRow.maps == (Tryz.f3.params.toList ++ Rows.engineNamesSpec.plain.varTypes Tryz.prog).any (Tryz.prog.mapsRec ·))) = true := by kernel_rfl
theorem c14 : ((Rows.engineNamesRow.ifaces == (Tryz.f3.params.toList ++ Rows.engineNamesSpec.plain.varTypes Tryz.prog).any (Tryz.prog.ifacesRec ·))) = true := by kernel_rfl
theorem c15 : ((Rows.engineNamesRow.mapsOut == Tryz.prog.mapsAmong Tryz.f3.resultTypes.toList)) = true := by kernel_rfl
theorem c16 : ((Rows.engineNamesRow.loops == (Tryz.f3.params.toList ++ Rows.engineNamesSpec.plain.varTypes Tryz.prog).any (Tryz.prog.loopsFrom ·))) = true := by kernel_rfl
theorem c17 : ((Rows.engineNamesRow.wideKeys == (Tryz.f3.params.toList ++ Rows.engineNamesSpec.plain.varTypes Tryz.prog ++ Tryz.f3.resultTypes.toList).any (Tryz.prog.wideKeysFrom ·))) = true := by kernel_rfl
theorem c18 : (Rows.engineNamesSpec.vars.all (Tryz.prog.varReadable ·)) = true := by kernel_rfl
theorem c19 : (Tryz.f3.resultTypes.all (fun t => Tryz.prog.readableRec t && decide (t < Tryz.prog.types.size))) = true := by kernel_rfl
theorem c20 : ((Rows.engineNamesRow.ifacesOut == Tryz.f3.resultTypes.toList.any (Tryz.prog.ifacesRec ·))) = true := by kernel_rfl
theorem c21 : ((Rows.engineNamesRow.loopsOut == Tryz.f3.resultTypes.toList.any (Tryz.prog.loopsFrom ·))) = true := by kernel_rfl
theorem c23 : (Rows.engineNamesRow.shortTexts.isNone) = true := by kernel_rfl
theorem c25 : (Tryz.prog.mayEnter) = true := by kernel_rfl
theorem c26 : ((Rows.engineNamesRow.lifted == Tryz.prog.liftsFinal)) = true := by kernel_rfl
theorem c27 : ((Tryz.prog.make == some Rows.engineNamesRow.make)) = true := by kernel_rfl
theorem c29 : ((Rows.engineNamesRow.pinned == Rows.engineNamesRow.pinnedBy)) = true := by kernel_rfl
theorem c30 : ((Rows.engineNamesRow.veiled == (Tryz.f3.params.toList ++ Rows.engineNamesSpec.plain.varTypes Tryz.prog ++ Tryz.f3.resultTypes.toList).any (Tryz.prog.veiledRec ·))) = true := by kernel_rfl
theorem c31 : (Rows.engineNamesRow.veiledFits Tryz.prog Tryz.f3.params.toList (Tryz.f3.params.toList ++ Rows.engineNamesSpec.plain.varTypes Tryz.prog ++ Tryz.f3.resultTypes.toList)) = true := by kernel_rfl
theorem and_mk {a b : Bool} (h : a = true) (k : b = true) : (a && b) = true := by subst h; subst k; rfl
theorem closed : joinedFacts Tryz.prog 3 Tryz.f3 Rows.engineNamesSpec Rows.engineNamesRow = true := by
  unfold joinedFacts
  exact (and_mk (and_mk (and_mk (and_mk (and_mk (and_mk (and_mk (and_mk (and_mk (and_mk (and_mk (and_mk (and_mk (and_mk (and_mk (and_mk (and_mk (and_mk (and_mk (and_mk (and_mk (and_mk (and_mk (and_mk (and_mk (and_mk (and_mk (and_mk (and_mk (and_mk (and_mk c0 c1) c2) c3) c4) c5) c6) c7) c8) c9) c10) c11) c12) c13) c14) c15) c16) c17) c18) c19) c20) c21) c22) c23) c24) c25) c26) c27) (by kernel_rfl)) c29) c30) c31)
theorem inst : Func.isInstance Tryz.prog Tryz.f3 Rows.engineNamesRow.origin Rows.engineNamesRow.targs := of_decide_eq_true (by kernel_rfl)
theorem wrap : Func.isWrapper Tryz.prog Tryz.f3 Rows.engineNamesRow.wrapper Rows.engineNamesRow.mainSum := by unfold Func.isWrapper; first | (rw [if_pos (by decide +kernel)]; kernel_rfl) | (rw [if_neg (by decide +kernel)]; exact ⟨rfl, rfl⟩)
end Go.Proofs.YtaiajgkhikcafaaGreatDoor
