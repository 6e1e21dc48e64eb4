/- Closed facts of the row, each text a process of its own: the program is large. -/
import Derived.Test.YtnlieipdeepemaaGreatDoorRows
import Derived.KernelRfl
import Derived.JoinedOf
import Derived.SevenTiedAt
namespace Go.Proofs.YtnlieipdeepemaaGreatDoor
open Go
set_option maxRecDepth 100000
theorem c9 : ((Rows.worldNamesRow.inPlace == Tryz.prog.inPlace 3)) = true := by kernel_rfl
end Go.Proofs.YtnlieipdeepemaaGreatDoor
