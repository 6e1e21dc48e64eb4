/- MachineNil, run in the kernel. -/
import Derived.Test.YtihnoigdplkfbadGreatDoorMe1
import Derived.KernelRfl
namespace Go.Proofs.YtihnoigdplkfbadGreatDoor
theorem names_run : AX.saysTrue (AX.callS (AX.ctxOf Tryz.prog glob dfd tab6) 80 (.fn 3) [.bad, .bad, .agg [.bad, .bad, .bad]] .leaf 0) = true := by kernel_rfl
theorem glOk (W : World) (h : AX.numsAt W 0 .u8 nums) : AX.GlOk (AX.ctxOf Tryz.prog glob dfd tab6) (AX.prOf W) := AX.glOk_nums h
theorem any_args (args : Array Value) (ha : ∃ v0 v1 a2 b2 c2 : Value, args = #[v0, v1, .agg #[a2, b2, c2]]) : AX.VRels (fun _ => none) [.bad, .bad, .agg [.bad, .bad, .bad]] args.toList := by
  obtain ⟨v0, v1, a2, b2, c2, rfl⟩ := ha
  exact .cons (.bad _) (.cons (.bad _) (.cons (.agg (.cons (.bad _) (.cons (.bad _) (.cons (.bad _) .nil)))) (.nil)))
theorem machineNil_walk (W : World) (h : AX.numsAt W 0 .u8 nums) (args : Array Value) (ha : ∃ v0 v1 a2 b2 c2 : Value, args = #[v0, v1, .agg #[a2, b2, c2]]) : Calls Tryz.prog 3 args W (fun e w' => e = .returned (.bool true) ∧ AX.Kept W w') :=
  AX.TabOk.run pOk dfdAll told5.1 names_run (glOk W h) (any_args args ha)
end Go.Proofs.YtihnoigdplkfbadGreatDoor
