/- DirtyNames, run in the kernel. -/
import Derived.Test.YtpplkjjfaibmmaaDoorKn
import Derived.KernelRfl
namespace Go.Proofs.YtpplkjjfaibmmaaDoor
theorem names_run : AX.saysTrue (AX.callS (AX.ctxOf Tryd.prog glob dfd tab0) 60 (.fn 5) [] .leaf 0) = true := by kernel_rfl
theorem glOk (W : World) (h : AX.numsAt W 0 .u8 nums) : AX.GlOk (AX.ctxOf Tryd.prog glob dfd tab0) (AX.prOf W) := AX.glOk_nums h
theorem any_args (args : Array Value) (ha : args.size = 0) : AX.VRels (fun _ => none) [] args.toList := by
  obtain ⟨l⟩ := args
  match l, ha with
  | [], _ => exact .nil
theorem dirtyNames_walk (W : World) (h : AX.numsAt W 0 .u8 nums) (args : Array Value) (ha : args.size = 0) : Calls Tryd.prog 5 args W (fun e w' => e = .returned (.bool true) ∧ AX.Kept W w') :=
  AX.TabOk.run pOk dfdAll tab0_ok names_run (glOk W h) (any_args args ha)
end Go.Proofs.YtpplkjjfaibmmaaDoor
