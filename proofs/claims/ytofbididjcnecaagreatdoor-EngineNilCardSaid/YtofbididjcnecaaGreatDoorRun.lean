/- EngineNil, run in the kernel. -/
import Derived.Test.YtofbididjcnecaaGreatDoorMe2
import Derived.KernelRfl
namespace Go.Proofs.YtofbididjcnecaaGreatDoor
theorem names_run : AX.saysTrue (AX.callS (AX.ctxOf Tryz.prog glob dfd tab17) 90 (.fn 3) [.bad, .bad, .bad] .leaf 0) = true := by kernel_rfl
theorem glOk (W : World) (h : AX.numsAt W 0 .u8 nums) : AX.GlOk (AX.ctxOf Tryz.prog glob dfd tab17) (AX.prOf W) := AX.glOk_nums h
theorem any_args (args : Array Value) (ha : args.size = 3) : AX.VRels (fun _ => none) [.bad, .bad, .bad] args.toList := by
  obtain ⟨l⟩ := args
  match l, ha with
  | [_, _, _], _ => exact .cons (.bad _) (.cons (.bad _) (.cons (.bad _) (.nil)))
theorem engineNil_walk (W : World) (h : AX.numsAt W 0 .u8 nums) (args : Array Value) (ha : args.size = 3) : Calls Tryz.prog 3 args W (fun e w' => e = .returned (.bool true) ∧ AX.Kept W w') :=
  AX.TabOk.run pOk dfdAll told16.1 names_run (glOk W h) (any_args args ha)
end Go.Proofs.YtofbididjcnecaaGreatDoor
