/- Closed facts of the row, each text a process of its own: the program is large. -/
import Derived.Test.YtnlieipdeepemaaGreatDoorRows
import Derived.KernelRfl
import Derived.JoinedOf
import Derived.SevenTiedAt
namespace Go.Proofs.YtnlieipdeepemaaGreatDoor
open Go
set_option maxRecDepth 100000
theorem goes_any : ((Tryz.prog.closure 3).any fun g => (Tryz.prog.funcs[g]?).any Func.goes) = false := by kernel_rfl
end Go.Proofs.YtnlieipdeepemaaGreatDoor
