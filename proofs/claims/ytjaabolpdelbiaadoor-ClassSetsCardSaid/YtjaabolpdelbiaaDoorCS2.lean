/- ClassSets: its pieces. -/
import Derived.Test.YtjaabolpdelbiaaDoorCS1
import Derived.Test.YtjaabolpdelbiaaDoorL3
namespace Go.Proofs.YtjaabolpdelbiaaDoor
open Go Go.Proofs Go.RowKit

def seqL (c : Code) : Code := match c with | .seq a _ => a | c => c
def seqR (c : Code) : Code := match c with | .seq _ b => b | c => c
def inner (c : Code) : Code := match c with | .block _ (.loop b) => b | c => c
def bodyOf (f : Func) : Code := match f.body with | some c => c | none => .skip
noncomputable def c8 : Code := bodyOf Tryd.f8
noncomputable def pR0 : Code := seqL c8
noncomputable def pX1 : Code := seqL (seqR c8)
noncomputable def pR3 : Code := seqL (seqR (seqR c8))
noncomputable def pR4 : Code := seqL (seqR (seqR (seqR c8)))
noncomputable def pT4 : Code := seqR (seqR (seqR (seqR c8)))
noncomputable def pR5 : Code := seqL (seqL pT4)
noncomputable def pB1 : Code := inner (seqR (seqL pT4))
noncomputable def pR13 : Code := seqL (seqR pT4)
noncomputable def pT6 : Code := seqR (seqR pT4)
noncomputable def pR14 : Code := seqL (seqL pT6)
noncomputable def pB2 : Code := inner (seqR (seqL pT6))
noncomputable def pR19 : Code := seqL (seqR pT6)
noncomputable def pR20 : Code := seqL (seqR (seqR pT6))
theorem c8_parts : Tryd.f8.body = some (.seq pR0 (.seq pX1 (.seq pR3 (.seq pR4 (.seq (.seq pR5 (.block 0 (.loop pB1))) (.seq pR13 (.seq (.seq pR14 (.block 2 (.loop pB2))) (.seq pR19 (.seq pR20 .ret))))))))) := by kernel_rfl

noncomputable def pad : Nat → List (Option AX.Ans) → List (Option AX.Ans)
  | 0, l => l
  | n + 1, l => none :: pad n l
/-- A piece's run. -/
noncomputable def pc (L : List (Option AX.Ans)) (asm : AX.T AX.AV) (c : Code) (slots : List Nat) (fr : AX.Fr) (hp : AX.Hp) (nx : Nat) : AX.RG := AX.exE cx L asm 133 c (AX.endG 0 slots) (fun i => AX.endG (i + 1) slots) AX.noneG fr ⟨[], [], [], []⟩ hp nx
section
variable (a0 a1 a2 a3 b0 b1 b2 b3 : Nat)
noncomputable def r0 : AX.RG := pc [] .leaf pR0 [2, 3] (AX.ofL [cA a0 a1 a2 a3, cA b0 b1 b2 b3]) .leaf 0
theorem r0_val : AX.gVal (r0 a0 a1 a2 a3 b0 b1 b2 b3) = some (.tup [.gptr 0 0, .ptr 0 0, .ptr 1 0]) := by kernel_rfl
theorem r0_nx : AX.gNx (r0 a0 a1 a2 a3 b0 b1 b2 b3) = some 2 := by kernel_rfl
theorem r0_calls : AX.gCalls (r0 a0 a1 a2 a3 b0 b1 b2 b3) = AX.gWant (r0 a0 a1 a2 a3 b0 b1 b2 b3) := by kernel_rfl
theorem r0_vals : AX.gVals (r0 a0 a1 a2 a3 b0 b1 b2 b3) = AX.gAsm (r0 a0 a1 a2 a3 b0 b1 b2 b3) := by kernel_rfl
noncomputable def f2 : AX.Fr := AX.frOf [2, 3] [.ptr 0 0, .ptr 1 0]
noncomputable def r1 : AX.RG := pc (pad 2 [some (9, [], .bool true)]) .leaf pX1 [2, 3] f2 (AX.gHp (r0 a0 a1 a2 a3 b0 b1 b2 b3)) 2
theorem r1_val : AX.gVal (r1 a0 a1 a2 a3 b0 b1 b2 b3) = some (.tup [.gptr 0 0, .ptr 0 0, .ptr 1 0]) := by kernel_rfl
theorem r1_nx : AX.gNx (r1 a0 a1 a2 a3 b0 b1 b2 b3) = some 3 := by kernel_rfl
theorem r1_calls : AX.gCalls (r1 a0 a1 a2 a3 b0 b1 b2 b3) = AX.gWant (r1 a0 a1 a2 a3 b0 b1 b2 b3) := by kernel_rfl
theorem r1_vals : AX.gVals (r1 a0 a1 a2 a3 b0 b1 b2 b3) = AX.gAsm (r1 a0 a1 a2 a3 b0 b1 b2 b3) := by kernel_rfl
theorem r1_hp : AX.gHp (r1 a0 a1 a2 a3 b0 b1 b2 b3) = AX.gHp (r0 a0 a1 a2 a3 b0 b1 b2 b3) := by kernel_rfl
noncomputable def cU : AX.AV := cA (a0 ||| b0 : Nat) (a1 ||| b1 : Nat) (a2 ||| b2 : Nat) (a3 ||| b3 : Nat)
noncomputable def cM : AX.AV := cA (a0 &&& b0 : Nat) (a1 &&& b1 : Nat) (a2 &&& b2 : Nat) (a3 &&& b3 : Nat)
noncomputable def cN : AX.AV := cA (nw a0 : Nat) (nw a1 : Nat) (nw a2 : Nat) (nw a3 : Nat)
noncomputable def r3 : AX.RG := pc (pad 3 [some (14, [cA a0 a1 a2 a3, cA b0 b1 b2 b3], cU a0 a1 a2 a3 b0 b1 b2 b3), some (12, [cA a0 a1 a2 a3, cA b0 b1 b2 b3], cM a0 a1 a2 a3 b0 b1 b2 b3), some (16, [cA a0 a1 a2 a3], cN a0 a1 a2 a3)]) .leaf pR3 [2, 3, 5, 6, 7] f2 (AX.gHp (r0 a0 a1 a2 a3 b0 b1 b2 b3)) 3
theorem r3_val : AX.gVal (r3 a0 a1 a2 a3 b0 b1 b2 b3) = some (.tup [.gptr 0 0, .ptr 0 0, .ptr 1 0, .ptr 6 0, .ptr 7 0, .ptr 8 0]) := by kernel_rfl
theorem r3_nx : AX.gNx (r3 a0 a1 a2 a3 b0 b1 b2 b3) = some 9 := by kernel_rfl
theorem r3_calls : AX.gCalls (r3 a0 a1 a2 a3 b0 b1 b2 b3) = AX.gWant (r3 a0 a1 a2 a3 b0 b1 b2 b3) := by kernel_rfl
theorem r3_vals : AX.gVals (r3 a0 a1 a2 a3 b0 b1 b2 b3) = AX.gAsm (r3 a0 a1 a2 a3 b0 b1 b2 b3) := by kernel_rfl
end
end Go.Proofs.YtjaabolpdelbiaaDoor
