/- Dfa: the lives() of the laws, reckoned. -/
import Derived.Test.YtaadkdmbhckdeaaDoorKn
import Derived.Test.YtaadkdmbhckdeaaDoorT7
import Derived.KernelRfl
namespace Go.Proofs.YtaadkdmbhckdeaaDoor
open Go Go.Proofs Go.RowKit
theorem lives_run : AX.saysTrue (AX.callS (AX.ctxOf Tryd.prog glob dfd tab0) 60 (.fn 6) [] .leaf 0) = true := by kernel_rfl
theorem lives_k {W0 : World} (h : AX.numsAt W0 0 .u8 nums) (W : World) (hB : Below W0.heap.size W0 W) : Calls Tryd.prog 6 #[] W fun e w' => e = .returned (.bool true) ∧ Below W.heap.size W w' := by
  obtain ⟨cs, e, fz, h1, h2⟩ := h
  have h' : AX.numsAt W 0 .u8 nums := ⟨cs, e, fz, (hB.block 0 (Array.getElem?_eq_some_iff.1 h1).1).trans h1, h2⟩
  have hg' : AX.GlOk (AX.ctxOf Tryd.prog glob dfd tab0) (AX.prOf W) := AX.glOk_nums h'
  refine (AX.TabOk.run pOk dfdAll tab0_ok lives_run hg' (.nil : AX.VRels (fun _ => none) [] (#[] : Array Value).toList)).mono ?_
  rintro e w' ⟨rfl, hk⟩
  exact ⟨rfl, hk.below⟩
end Go.Proofs.YtaadkdmbhckdeaaDoor
