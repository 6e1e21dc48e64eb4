/- Closed facts of the row, each text a process of its own: the program is large. -/
import Derived.Test.YtnlieipdeepemaaGreatDoorRows
import Derived.KernelRfl
import Derived.JoinedOf
import Derived.SevenTiedAt
namespace Go.Proofs.YtnlieipdeepemaaGreatDoor
open Go
set_option maxRecDepth 100000
theorem c22 : ((Rows.worldNamesRow.plainKeys == Tryz.prog.plainKeys)) = true := by kernel_rfl
theorem c24 : (Tryz.prog.stopsHeard) = true := by kernel_rfl
theorem main_is : Tryz.prog.mainIs = some (true, "92de1c728a873644078c76c8691bafeb1de1e0e38ca3c828713e348030e7df3c".toList) := by kernel_rfl
theorem looks_is : true = Tryz.prog.looks [] := by kernel_rfl
end Go.Proofs.YtnlieipdeepemaaGreatDoor
