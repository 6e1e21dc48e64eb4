/- Closed facts of the row, each text a process of its own: the program is large. -/
import Derived.Test.YtofbididjcnecaaGreatDoorRows
import Derived.KernelRfl
import Derived.JoinedOf
import Derived.SevenTiedAt
namespace Go.Proofs.YtofbididjcnecaaGreatDoor
open Go
set_option maxRecDepth 100000
theorem c22 : ((Rows.engineNilRow.plainKeys == Tryz.prog.plainKeys)) = true := by kernel_rfl
theorem c24 : (Tryz.prog.stopsHeard) = true := by kernel_rfl
theorem main_is : Tryz.prog.mainIs = some (true, "e73541e69fbeecfba73808d97d7392d086b1d74470e8ebe3b7ec6080a119fa5d".toList) := by kernel_rfl
theorem looks_is : true = Tryz.prog.looks [] := by kernel_rfl
theorem wants3 : Tryz.prog.wantsStandIn 3 = false := by kernel_rfl
theorem wants9 : Tryz.prog.wantsStandIn 9 = false := by kernel_rfl
end Go.Proofs.YtofbididjcnecaaGreatDoor
