import Derived.Test.YtjaabolpdelbiaaDoorC8
import Derived.Test.YtjaabolpdelbiaaDoorAx24
namespace Go.Proofs.YtjaabolpdelbiaaDoor
open Go Go.Proofs Go.RowKit Go.Shelf

noncomputable def cx0 : AX.Ctx := ⟨Tryd.prog, .leaf, .leaf, .leaf⟩
theorem pOk : AX.POk Tryd.prog := AX.POk.of (by kernel_rfl) (by kernel_rfl)
theorem glLeaf {x : AX.T Nat} {y} {pr : AX.Pr} : AX.GlOk ⟨Tryd.prog, .leaf, x, y⟩ pr := fun g c h => by simp [AX.T.get_leaf] at h
def cA (a0 a1 a2 a3 : Int) : AX.AV := .agg [.int .u64 a0, .int .u64 a1, .int .u64 a2, .int .u64 a3]
def cV (a0 a1 a2 a3 : Int) : Value := .agg #[.int .u64 a0, .int .u64 a1, .int .u64 a2, .int .u64 a3]
theorem cRel (σ : AX.Sig) (a0 a1 a2 a3 : Int) : AX.VRel σ (cA a0 a1 a2 a3) (cV a0 a1 a2 a3) := .agg (.cons (.int _ _) (.cons (.int _ _) (.cons (.int _ _) (.cons (.int _ _) .nil))))
theorem cInv {σ : AX.Sig} {a0 a1 a2 a3 : Int} {v : Value} (h : AX.VRel σ (cA a0 a1 a2 a3) v) : v = cV a0 a1 a2 a3 := by
  obtain ⟨vs, rfl, g⟩ := AX.VRel.agg_inv h
  clear h
  obtain ⟨l⟩ := vs
  have h : AX.VRels σ _ l := g
  clear g
  cases h with | cons h1 h => cases h with | cons h2 h => cases h with | cons h3 h => cases h with | cons h4 h => cases h with | nil =>
  obtain rfl := h1.int_inv; obtain rfl := h2.int_inv; obtain rfl := h3.int_inv; obtain rfl := h4.int_inv
  simp [cV]

theorem bin_calls (f : Nat) (op : Int → Int → Int) (h : ∀ a0 a1 a2 a3 b0 b1 b2 b3 : Int, AX.valOf (AX.callA cx0 3 (.fn f) [cA a0 a1 a2 a3, cA b0 b1 b2 b3] .leaf 0) = some (cA (op a0 b0) (op a1 b1) (op a2 b2) (op a3 b3)))
    (a0 a1 a2 a3 b0 b1 b2 b3 : Int) (w : World) : Calls Tryd.prog f #[cV a0 a1 a2 a3, cV b0 b1 b2 b3] w fun e w' => e = .returned (cV (op a0 b0) (op a1 b1) (op a2 b2) (op a3 b3)) ∧ Below w.heap.size w w' := by
  refine (AX.calls_of_val (C := cx0) pOk AX.ExtOk.leaf AX.OrcOk.leaf (h a0 a1 a2 a3 b0 b1 b2 b3) glLeaf (.cons (cRel _ _ _ _ _) (.cons (cRel _ _ _ _ _) .nil))).mono ?_
  rintro e w' ⟨τ, v', rfl, hv, hk⟩
  obtain rfl := cInv hv
  exact ⟨rfl, hk.below⟩
theorem union_run (a0 a1 a2 a3 b0 b1 b2 b3 : Int) : AX.valOf (AX.callA cx0 3 (.fn 14) [cA a0 a1 a2 a3, cA b0 b1 b2 b3] .leaf 0) = some (cA (bits .or .u64 a0 b0) (bits .or .u64 a1 b1) (bits .or .u64 a2 b2) (bits .or .u64 a3 b3)) := by kernel_rfl
theorem meet_run (a0 a1 a2 a3 b0 b1 b2 b3 : Int) : AX.valOf (AX.callA cx0 3 (.fn 12) [cA a0 a1 a2 a3, cA b0 b1 b2 b3] .leaf 0) = some (cA (bits .and .u64 a0 b0) (bits .and .u64 a1 b1) (bits .and .u64 a2 b2) (bits .and .u64 a3 b3)) := by kernel_rfl
theorem not_run (a0 a1 a2 a3 : Int) : AX.valOf (AX.callA cx0 3 (.fn 16) [cA a0 a1 a2 a3] .leaf 0) = some (cA (bits .xor .u64 18446744073709551615 a0) (bits .xor .u64 18446744073709551615 a1) (bits .xor .u64 18446744073709551615 a2) (bits .xor .u64 18446744073709551615 a3)) := by kernel_rfl

/-- All that is not there. -/
def nw (a : Nat) : Nat := 18446744073709551615 ^^^ a
theorem nw_lt (a : Nat) (h : a < 18446744073709551616) : nw a < 18446744073709551616 := Nat.xor_lt_two_pow (n := 64) (by decide) h
theorem xor_all (a : Nat) (ha : a < 18446744073709551616) : bits .xor .u64 18446744073709551615 (a : Int) = (nw a : Nat) := by
  have h1 : (BitVec.ofInt 64 (a : Int)).toNat = a := by
    rw [BitVec.ofInt_natCast, BitVec.toNat_ofNat]; exact Nat.mod_eq_of_lt (by omega)
  have h2 : (BitVec.ofInt 64 (18446744073709551615 : Int)).toNat = 18446744073709551615 := by decide
  have h3 := nw_lt a ha
  show IntKind.u64.wrap ((BitVec.ofInt 64 18446744073709551615 ^^^ BitVec.ofInt 64 (a : Int)).toNat : Int) = _
  rw [BitVec.toNat_xor, h1, h2, IntKind.wrap_u64]
  unfold nw at h3 ⊢
  omega

theorem union_calls (a0 a1 a2 a3 b0 b1 b2 b3 : Nat) (ha : wlt a0 a1 a2 a3) (hb : wlt b0 b1 b2 b3) (w : World) :
    Calls Tryd.prog 14 #[cV a0 a1 a2 a3, cV b0 b1 b2 b3] w fun e w' => e = .returned (cV (a0 ||| b0 : Nat) (a1 ||| b1 : Nat) (a2 ||| b2 : Nat) (a3 ||| b3 : Nat)) ∧ Below w.heap.size w w' := by
  have := bin_calls 14 (bits .or .u64) union_run a0 a1 a2 a3 b0 b1 b2 b3 w
  rwa [bits_or_u64_nat a0 b0 (ha 0) (hb 0), bits_or_u64_nat a1 b1 (ha 1) (hb 1), bits_or_u64_nat a2 b2 (ha 2) (hb 2), bits_or_u64_nat a3 b3 (ha 3) (hb 3)] at this
theorem meet_calls (a0 a1 a2 a3 b0 b1 b2 b3 : Nat) (ha : wlt a0 a1 a2 a3) (hb : wlt b0 b1 b2 b3) (w : World) :
    Calls Tryd.prog 12 #[cV a0 a1 a2 a3, cV b0 b1 b2 b3] w fun e w' => e = .returned (cV (a0 &&& b0 : Nat) (a1 &&& b1 : Nat) (a2 &&& b2 : Nat) (a3 &&& b3 : Nat)) ∧ Below w.heap.size w w' := by
  have := bin_calls 12 (bits .and .u64) meet_run a0 a1 a2 a3 b0 b1 b2 b3 w
  rwa [bits_and_u64_nat a0 b0 (ha 0) (hb 0), bits_and_u64_nat a1 b1 (ha 1) (hb 1), bits_and_u64_nat a2 b2 (ha 2) (hb 2), bits_and_u64_nat a3 b3 (ha 3) (hb 3)] at this
theorem not_calls (a0 a1 a2 a3 : Nat) (ha : wlt a0 a1 a2 a3) (w : World) :
    Calls Tryd.prog 16 #[cV a0 a1 a2 a3] w fun e w' => e = .returned (cV (nw a0 : Nat) (nw a1 : Nat) (nw a2 : Nat) (nw a3 : Nat)) ∧ Below w.heap.size w w' := by
  refine (AX.calls_of_val (C := cx0) pOk AX.ExtOk.leaf AX.OrcOk.leaf (not_run a0 a1 a2 a3) glLeaf (.cons (cRel _ _ _ _ _) .nil)).mono ?_
  rintro e w' ⟨τ, v', rfl, hv, hk⟩
  obtain rfl := cInv hv
  rw [xor_all a0 (ha 0), xor_all a1 (ha 1), xor_all a2 (ha 2), xor_all a3 (ha 3)]
  exact ⟨rfl, hk.below⟩
end Go.Proofs.YtjaabolpdelbiaaDoor
