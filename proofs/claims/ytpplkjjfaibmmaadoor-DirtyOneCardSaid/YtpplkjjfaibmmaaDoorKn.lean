/- What is known ahead of the run: slices.Min, slices.Max, slices.Sorted of maps.Keys; a deferred function that finds no panic. -/
import Derived.Test.YtpplkjjfaibmmaaDoorProg
import Derived.Test.YtpplkjjfaibmmaaDoorRows
import Derived.ProofKit
import Derived.OpenShut
import Derived.LaidMore
import Derived.Test.YtpplkjjfaibmmaaDoorMm
import Derived.Test.YtpplkjjfaibmmaaDoorOx6
import Derived.Test.YtpplkjjfaibmmaaDoorOx2
import Derived.Test.YtpplkjjfaibmmaaDoorOx3
import Derived.Shelf.SlIterI.Nil
import Derived.Shelf.SlIter.Nil
import Derived.Shelf.SortM.Plain
import Derived.Shelf.SortM.SortNone
import Derived.Ground.GgzProg
import Derived.Ground.SlgmProg
import Derived.RecoverIn
import Derived.TacticsInMore
import Derived.Tactics2
import Derived.LoopNIn
import Derived.RegionIn
import Derived.Laws.Pointers
import Derived.KernelRfl
import Derived.Test.YtpplkjjfaibmmaaDoorI4
namespace Go.Proofs.YtpplkjjfaibmmaaDoor
open Go.Proofs Go.RowKit Go.Maps Go.Sort Go.Shelf

noncomputable def dfd : AX.T (List AX.AV → AX.Hp → Nat → Option (AX.AV × AX.Hp × Nat)) := .leaf
theorem dfdOk {x : AX.T Nat} {y : AX.T (List AX.AV → AX.Hp → Nat → Option (AX.AV × AX.Hp × Nat))} {gl : AX.T AX.Cells} {b : Bool} : AX.DfdOk ⟨Tryd.prog, gl, x, y, dfd, b⟩ := AX.DfdOk.leaf

def nums : List Int := [0, 1, 56, 2, 57, 49, 28, 3, 61, 58, 42, 50, 38, 29, 17, 4, 62, 47, 59, 36, 45, 43, 51, 22, 53, 39, 33, 30, 24, 18, 12, 5, 63, 55, 48, 27, 60, 41, 37, 16, 46, 35, 44, 21, 52, 32, 23, 11, 54, 26, 40, 15, 34, 20, 31, 10, 25, 14, 19, 9, 13, 8, 7, 6]
noncomputable def glob : AX.T AX.Cells := AX.T.set .leaf 0 (AX.ofL (nums.map fun n => AX.AV.int .u8 n))
noncomputable def tab0 : AX.T (List AX.AV → AX.Hp → Nat → Option (AX.AV × AX.Hp × Nat)) := (AX.T.leaf.set 46 (AX.insertA 5))
set_option maxRecDepth 100000 in
theorem pOk : AX.POk Tryd.prog := AX.POk.of (by kernel_rfl) (by kernel_rfl)
theorem dfdAll : ∀ s, AX.DfdOk (AX.ctxOf Tryd.prog glob dfd s) := fun _ => dfdOk
theorem tab0_ok : AX.TabOk Tryd.prog glob dfd tab0 := fun _ => (AX.orc_set (AX.insertA_good (by decide) ⟨_, _, Tryd.func46, rfl⟩ insOk) AX.orc_leaf)
set_option maxRecDepth 100000 in
theorem numsAt {W : World} (h : laidMetH Tryd.prog [("math/bits.deBruijn64tab", Rows.laid_math_bits_deBruijn64tab)] W) : AX.numsAt W 0 .u8 nums := by
  rw [MakeChecks.laidMetH_plain _ _ _ (by kernel_rfl)] at h
  obtain ⟨ps, h, _⟩ := h
  exact AX.numsAt_of_laid (n := 64) (e := 5) (t := 77) (by kernel_rfl) (by kernel_rfl) Tryd.underlying77 Tryd.underlying5 (by kernel_rfl) (by kernel_rfl) h
end Go.Proofs.YtpplkjjfaibmmaaDoor
