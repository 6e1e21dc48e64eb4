/- Regex: LightRegex. -/
import Derived.Test.YtpbkgegkjglibaaDoorW6
namespace Go.Proofs.YtpbkgegkjglibaaDoor
open Go Go.Proofs Go.RowKit
attribute [local go_sem] Oper.semAt_some
end Go.Proofs.YtpbkgegkjglibaaDoor
