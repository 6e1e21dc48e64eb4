/- Closed facts of the row, each text a process of its own: the program is large. -/
import Derived.Test.YtaiajgkhikcafaaGreatDoorRows
import Derived.KernelRfl
import Derived.JoinedOf
import Derived.SevenTiedAt
namespace Go.Proofs.YtaiajgkhikcafaaGreatDoor
open Go
set_option maxRecDepth 100000
theorem c22 : ((Rows.engineNamesRow.plainKeys == Tryz.prog.plainKeys)) = true := by kernel_rfl
theorem c24 : (Tryz.prog.stopsHeard) = true := by kernel_rfl
theorem main_is : Tryz.prog.mainIs = some (true, "8b513cdfd13e9c63739ebd4662704941e5cb8bee822c3cf660b92fb14bde0f76".toList) := by kernel_rfl
theorem looks_is : true = Tryz.prog.looks [] := by kernel_rfl
end Go.Proofs.YtaiajgkhikcafaaGreatDoor
