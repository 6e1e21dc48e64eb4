/- AX: slices.Sorted of maps.Keys, its answer known: keys that are ints. -/
import Derived.Test.YtpbkgegkjglibaaDoorOx1
import Derived.Shelf.SlIterI.Nil
namespace Go.Proofs.YtpbkgegkjglibaaDoor.AX
open Go Go.ChangeShapes Go.WideShapes Go.ChangeAt Go.RowKit
variable {P : Program} {σ : Sig} {w w' : World} {pr : Pr} {hp : Hp}

end Go.Proofs.YtpbkgegkjglibaaDoor.AX
