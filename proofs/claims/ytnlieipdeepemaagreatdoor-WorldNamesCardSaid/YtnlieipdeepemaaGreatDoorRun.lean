/- WorldNames, run in the kernel. -/
import Derived.Test.YtnlieipdeepemaaGreatDoorMe1
import Derived.KernelRfl
namespace Go.Proofs.YtnlieipdeepemaaGreatDoor
theorem names_run : AX.saysTrue (AX.callS (AX.ctxOf Tryz.prog glob dfd tab20) 90 (.fn 3) [] .leaf 0) = true := by kernel_rfl
theorem glOk (W : World) (h : AX.numsAt W 0 .u8 nums) : AX.GlOk (AX.ctxOf Tryz.prog glob dfd tab20) (AX.prOf W) := AX.glOk_nums h
theorem any_args (args : Array Value) (ha : args.size = 0) : AX.VRels (fun _ => none) [] args.toList := by
  obtain ⟨l⟩ := args
  match l, ha with
  | [], _ => exact .nil
theorem worldNames_walk (W : World) (h : AX.numsAt W 0 .u8 nums) (args : Array Value) (ha : args.size = 0) : Calls Tryz.prog 3 args W (fun e w' => e = .returned (.bool true) ∧ AX.Kept W w') :=
  AX.TabOk.run pOk dfdAll told19.1 names_run (glOk W h) (any_args args ha)
end Go.Proofs.YtnlieipdeepemaaGreatDoor
