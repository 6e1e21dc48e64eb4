/- OX, part 4: a call that was worked out once, told again: what it was handed, what it gave, by names of its own. -/
import Derived.Test.YtaadkdmbhckdeaaGreatDoorOx1
namespace Go.Proofs.YtaadkdmbhckdeaaGreatDoor.AX
open Go
inductive MB where
 | cells (l : List AV) (cl : Cl)
 | raw (l : List AV) (cl : Cl)
 | map (es : List (AV × AV)) (bs : List Nat) (clk : Nat)
structure Memo where
 args : List AV
 ins : List (Nat × MB)
 n0 : Nat
 out : AV
 outs : List (Nat × MB)
 n1 : Nat
end Go.Proofs.YtaadkdmbhckdeaaGreatDoor.AX
