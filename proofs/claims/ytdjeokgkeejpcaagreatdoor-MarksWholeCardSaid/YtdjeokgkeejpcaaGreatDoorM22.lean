/- Marks: the lives() of the laws, reckoned. -/
import Derived.Test.YtdjeokgkeejpcaaGreatDoorMe1
import Derived.Test.YtdjeokgkeejpcaaGreatDoorM20
import Derived.KernelRfl
namespace Go.Proofs.YtdjeokgkeejpcaaGreatDoor
open Go Go.Proofs Go.RowKit
theorem lives_run : AX.saysTrue (AX.callS (AX.ctxOf Tryz.prog glob dfd tab5) 80 (.fn 5) [] .leaf 0) = true := by kernel_rfl
theorem lives_k {W0 : World} (h : AX.numsAt W0 0 .u8 nums) (W : World) (hB : Below W0.heap.size W0 W) : Calls Tryz.prog 5 #[] W fun e w' => e = .returned (.bool true) ∧ Below W.heap.size W w' := by
  obtain ⟨cs, e, fz, h1, h2⟩ := h
  have h' : AX.numsAt W 0 .u8 nums := ⟨cs, e, fz, (hB.block 0 (Array.getElem?_eq_some_iff.1 h1).1).trans h1, h2⟩
  have hg' : AX.GlOk (AX.ctxOf Tryz.prog glob dfd tab5) (AX.prOf W) := AX.glOk_nums h'
  refine (AX.TabOk.run pOk dfdAll told4.1 lives_run hg' (.nil : AX.VRels (fun _ => none) [] (#[] : Array Value).toList)).mono ?_
  rintro e w' ⟨rfl, hk⟩
  exact ⟨rfl, hk.below⟩
end Go.Proofs.YtdjeokgkeejpcaaGreatDoor
