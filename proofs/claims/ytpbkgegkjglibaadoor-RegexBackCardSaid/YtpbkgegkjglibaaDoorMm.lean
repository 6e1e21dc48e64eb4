/- Contracts of slices.Min and slices.Max at this program (laid off the shelf's templates). -/
import Derived.Test.YtpbkgegkjglibaaDoorChecked
import Derived.Lib.Strings
import Derived.Lib.Slices
import Derived.Lib.Walk
namespace Go.Proofs.YtpbkgegkjglibaaDoor
open Go.Proofs
end Go.Proofs.YtpbkgegkjglibaaDoor
