/- LexerNames, run in the kernel with lives() known. -/
import Derived.Test.YtagbghjmkaochadGreatDoorLives
namespace Go.Proofs.YtagbghjmkaochadGreatDoor
noncomputable def cy : AX.Ctx := ⟨Tryz.prog, glob, .leaf, tab.set 4 livesA, .leaf, false⟩
theorem names_run : AX.saysTrue (AX.callS cy 80 (.fn 3) [] .leaf 0) = true := by kernel_rfl
theorem orcOk2 : AX.OrcOk cy := AX.OrcOk.of (AX.orc_set (livesA_good cy rfl rfl) (tab_ok cy rfl))
theorem lexerNames_walk (W : World) (h : AX.numsAt W 0 .u8 nums) : Calls Tryz.prog 3 #[] W (fun e w' => e = .returned (.bool true) ∧ AX.Kept W w') :=
  AX.closed_calls (C := cy) (n := 80) pOk AX.ExtOk.leaf orcOk2 AX.DfdOk.leaf (by rw [← AX.callS_eq]; exact names_run) (AX.glOk_nums h)
end Go.Proofs.YtagbghjmkaochadGreatDoor
