/- Regex: node (alt). -/
import Derived.Test.YtpbkgegkjglibaaDoorW8
import Derived.Test.YtpbkgegkjglibaaDoorRg7
namespace Go.Proofs.YtpbkgegkjglibaaDoor
open Go Go.Proofs Go.RowKit
attribute [local go_sem] Oper.semAt_some
end Go.Proofs.YtpbkgegkjglibaaDoor
