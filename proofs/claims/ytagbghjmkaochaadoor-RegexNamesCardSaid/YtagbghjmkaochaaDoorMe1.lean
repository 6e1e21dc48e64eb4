/- Calls of a run without arguments, told again: each is worked out in the kernel by an abstract machine, proved sound over the model. -/
import Derived.Test.YtagbghjmkaochaaDoorKn
import Derived.KernelRfl
namespace Go.Proofs.YtagbghjmkaochaaDoor
noncomputable def memo0 : AX.Memo := { args := [], ins := [], n0 := 0, out := .bool true, outs := [], n1 := 134 }
noncomputable def memos0 : List AX.Memo := memo0 :: []
theorem form0 : AX.formOk memo0 = true := by kernel_rfl
noncomputable def tab1 : AX.T (List AX.AV → AX.Hp → Nat → Option (AX.AV × AX.Hp × Nat)) := tab0.set 4 (AX.recallL memos0)
theorem run0 : AX.memoOk (AX.callS (AX.ctxOf Tryd.prog glob dfd tab0) 60) 4 memo0 = true := by kernel_rfl
theorem body0 : ∃ (fn : Func) (c : Code), Tryd.prog.funcs[4]? = some fn ∧ fn.body = some c := ⟨_, _, Tryd.func4, rfl⟩
theorem told0 : AX.TabOk Tryd.prog glob dfd tab1 ∧ ∀ x, x ∈ memos0 → ∀ s, AX.OrcGood (AX.ctxOf Tryd.prog glob dfd s) 4 (AX.recallA x) := AX.TabOk.tell pOk dfdAll tab0_ok body0 form0 run0 (fun _ h => by cases h)
end Go.Proofs.YtagbghjmkaochaaDoor
