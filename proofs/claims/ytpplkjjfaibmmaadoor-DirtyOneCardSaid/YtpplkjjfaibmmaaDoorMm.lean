/- Contracts of slices.Min and slices.Max at this program (laid off the shelf's templates). -/
import Derived.Test.YtpplkjjfaibmmaaDoorChecked
import Derived.Lib.Strings
import Derived.Lib.Slices
import Derived.Lib.Walk
namespace Go.Proofs.YtpplkjjfaibmmaaDoor
open Go.Proofs
end Go.Proofs.YtpplkjjfaibmmaaDoor
