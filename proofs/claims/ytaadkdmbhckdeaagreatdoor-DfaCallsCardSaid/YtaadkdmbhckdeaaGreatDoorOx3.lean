/- AX: slices.Sorted of maps.Keys, its answer known: keys that are strings. -/
import Derived.Test.YtaadkdmbhckdeaaGreatDoorOx2
namespace Go.Proofs.YtaadkdmbhckdeaaGreatDoor.AX
open Go Go.ChangeShapes Go.WideShapes Go.ChangeAt Go.RowKit
open Go.Proofs (encStr)
variable {P : Program} {σ : Sig} {w w' : World} {pr : Pr} {hp : Hp}
end Go.Proofs.YtaadkdmbhckdeaaGreatDoor.AX
