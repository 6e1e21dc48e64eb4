/- Closed facts of the row, each text a process of its own: the program is large. -/
import Derived.Test.YtnlieipdeepemaaGreatDoorRows
import Derived.KernelRfl
import Derived.JoinedOf
import Derived.SevenTiedAt
namespace Go.Proofs.YtnlieipdeepemaaGreatDoor
open Go
set_option maxRecDepth 100000
theorem c2 : (mapsRowed Tryz.prog) = true := by kernel_rfl
theorem c90 : Tryz.prog.funcNamed Rows.worldNamesRow.func = some 3 := by kernel_rfl
theorem goes_all : Tryz.prog.funcs.any Func.goes = false := by kernel_rfl
end Go.Proofs.YtnlieipdeepemaaGreatDoor
