/- class.Compare. -/
import Derived.Test.YtjaabolpdelbiaaDoorL1
import Derived.Test.YtjaabolpdelbiaaDoorAx25
namespace Go.Proofs.YtjaabolpdelbiaaDoor
open Go Go.Proofs Go.RowKit

theorem cmp_run (l m : List Nat) : AX.valOf (AX.callA cx 5 (.fn 44) [.str l, .str m] .leaf 0) = some (.int .i64 (AX.cmpB l m)) := by kernel_rfl
theorem ans_cmp (l m : List Nat) : AX.AnsOk cx (44, [.str l, .str m], .int .i64 (AX.cmpB l m)) :=
  ⟨has_body Tryd.func44 (by kernel_rfl), fun σ w vs hg ha => by
    obtain ⟨x, y, h1, h2, rfl⟩ := vrels2 ha
    obtain ⟨s, rfl, hs⟩ := h1.str_inv
    obtain ⟨t, rfl, ht⟩ := h2.str_inv
    refine callsIn_wide.2 ((AX.calls_of_val (C := cx) pOk extOk AX.OrcOk.leaf (cmp_run l m) hg (.cons (.str s hs) (.cons (.str t ht) .nil))).mono ?_)
    rintro e w' ⟨τ, v', rfl, hv, hk⟩
    obtain rfl := hv.int_inv
    exact ⟨_, rfl, .int _ _, hk⟩⟩
section
variable (a0 a1 a2 a3 b0 b1 b2 b3 : Nat)
noncomputable def cmpL : List (Option AX.Ans) := [none, none, some (22, [cA a0 a1 a2 a3], .str (bytesB a0 a1 a2 a3)), some (22, [cA b0 b1 b2 b3], .str (bytesB b0 b1 b2 b3)), some (44, [.str (bytesB a0 a1 a2 a3), .str (bytesB b0 b1 b2 b3)], .int .i64 (AX.cmpB (bytesB a0 a1 a2 a3) (bytesB b0 b1 b2 b3)))]
noncomputable def cmpRun : AX.RG := AX.callG cx (cmpL a0 a1 a2 a3 b0 b1 b2 b3) .leaf 23 [cA a0 a1 a2 a3, cA b0 b1 b2 b3] .leaf 0
theorem cmp_val : AX.gVal (cmpRun a0 a1 a2 a3 b0 b1 b2 b3) = some (.int .i64 (AX.cmpB (bytesB a0 a1 a2 a3) (bytesB b0 b1 b2 b3))) := by kernel_rfl
theorem cmp_calls : AX.gCalls (cmpRun a0 a1 a2 a3 b0 b1 b2 b3) = AX.gWant (cmpRun a0 a1 a2 a3 b0 b1 b2 b3) := by kernel_rfl
theorem cmp_vals : AX.gVals (cmpRun a0 a1 a2 a3 b0 b1 b2 b3) = AX.gAsm (cmpRun a0 a1 a2 a3 b0 b1 b2 b3) := by kernel_rfl
theorem ans_compare (ha : wlt a0 a1 a2 a3) (hb : wlt b0 b1 b2 b3) : AX.AnsOk cx (23, [cA a0 a1 a2 a3, cA b0 b1 b2 b3], .int .i64 (AX.cmpB (bytesB a0 a1 a2 a3) (bytesB b0 b1 b2 b3))) :=
  ⟨has_body Tryd.func23 (by kernel_rfl), fun σ w vs hg hv => by
    obtain ⟨x, y, h1, h2, rfl⟩ := vrels2 hv
    obtain rfl := cInv h1
    obtain rfl := cInv h2
    refine callsIn_wide.2 ((AX.calls_of_parts (C := cx) pOk extOk (cmp_val ..) (cmp_calls a0 a1 a2 a3 b0 b1 b2 b3) (cmp_vals a0 a1 a2 a3 b0 b1 b2 b3) ?_ hg (.cons (cRel _ _ _ _ _) (.cons (cRel _ _ _ _ _) .nil))).mono ?_)
    · intro y hy
      simp only [cmpL, List.mem_cons, reduceCtorEq, false_or, Option.some.injEq, List.not_mem_nil, or_false] at hy
      rcases hy with rfl | rfl | rfl
      · exact ans_bytes _ _ _ _ ha
      · exact ans_bytes _ _ _ _ hb
      · exact ans_cmp _ _
    · rintro e w' ⟨τ, v', rfl, hv, hk⟩
      obtain rfl := hv.int_inv
      exact ⟨_, rfl, .int _ _, hk⟩⟩
end
end Go.Proofs.YtjaabolpdelbiaaDoor
