/- Regex: Matches. -/
import Derived.Test.YtpbkgegkjglibaaDoorW13
import Derived.Test.YtpbkgegkjglibaaDoorRg7
import Derived.Lib.ConvBytes
namespace Go.Proofs.YtpbkgegkjglibaaDoor
open Go Go.Proofs Go.RowKit
attribute [local go_sem] Oper.semAt_some
def bytesOf (s : ByteArray) : List Int := s.data.toList.map fun b => ((b.toNat : Nat) : Int)
end Go.Proofs.YtpbkgegkjglibaaDoor
