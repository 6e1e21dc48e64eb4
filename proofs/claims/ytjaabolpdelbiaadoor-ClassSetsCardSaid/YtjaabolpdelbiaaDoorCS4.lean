/- ClassSets: the pieces behind its first loop. -/
import Derived.Test.YtjaabolpdelbiaaDoorCS3
namespace Go.Proofs.YtjaabolpdelbiaaDoor
open Go Go.Proofs Go.RowKit
section
variable (a0 a1 a2 a3 b0 b1 b2 b3 n j y z : Nat)
noncomputable def r13 : AX.RG := pc (pad 9 [some (22, [(cA a0 a1 a2 a3)], .str (bytesB a0 a1 a2 a3))]) .leaf pR13 [2, 3, 8, 12] (AX.frOf [2, 3, 8] [.ptr 0 0, .ptr 1 0, .int .i64 (n : Nat)]) (hp3 a0 a1 a2 a3 b0 b1 b2 b3) 9
theorem r13_val : AX.gVal (r13 a0 a1 a2 a3 b0 b1 b2 b3 n) = some (.tup [.gptr 0 0, .ptr 0 0, .ptr 1 0, .int .i64 (n : Nat), .str (bytesB a0 a1 a2 a3)]) := by kernel_rfl
theorem r13_nx : AX.gNx (r13 a0 a1 a2 a3 b0 b1 b2 b3 n) = some 10 := by kernel_rfl
theorem r13_calls : AX.gCalls (r13 a0 a1 a2 a3 b0 b1 b2 b3 n) = AX.gWant (r13 a0 a1 a2 a3 b0 b1 b2 b3 n) := by kernel_rfl
theorem r13_vals : AX.gVals (r13 a0 a1 a2 a3 b0 b1 b2 b3 n) = AX.gAsm (r13 a0 a1 a2 a3 b0 b1 b2 b3 n) := by kernel_rfl
theorem r13_hp : AX.gHp (r13 a0 a1 a2 a3 b0 b1 b2 b3 n) = hp3 a0 a1 a2 a3 b0 b1 b2 b3 := by kernel_rfl
noncomputable def s2 : List Nat := [2, 3, 8, 12, 13]
noncomputable def v2 : List AX.AV := [.ptr 0 0, .ptr 1 0, .int .i64 (n : Nat), .str (bytesB a0 a1 a2 a3), .int .i64 (j : Nat)]
noncomputable def r14 : AX.RG := pc [] .leaf pR14 s2 (AX.frOf [2, 3, 8, 12] [.ptr 0 0, .ptr 1 0, .int .i64 (n : Nat), .str (bytesB a0 a1 a2 a3)]) (hp3 a0 a1 a2 a3 b0 b1 b2 b3) 10
theorem r14_val : AX.gVal (r14 a0 a1 a2 a3 b0 b1 b2 b3 n) = some (.tup [.gptr 0 0, .ptr 0 0, .ptr 1 0, .int .i64 (n : Nat), .str (bytesB a0 a1 a2 a3), .int .i64 1]) := by kernel_rfl
theorem r14_nx : AX.gNx (r14 a0 a1 a2 a3 b0 b1 b2 b3 n) = some 10 := by kernel_rfl
theorem r14_calls : AX.gCalls (r14 a0 a1 a2 a3 b0 b1 b2 b3 n) = AX.gWant (r14 a0 a1 a2 a3 b0 b1 b2 b3 n) := by kernel_rfl
theorem r14_vals : AX.gVals (r14 a0 a1 a2 a3 b0 b1 b2 b3 n) = AX.gAsm (r14 a0 a1 a2 a3 b0 b1 b2 b3 n) := by kernel_rfl
theorem r14_hp : AX.gHp (r14 a0 a1 a2 a3 b0 b1 b2 b3 n) = hp3 a0 a1 a2 a3 b0 b1 b2 b3 := by kernel_rfl
noncomputable def i2 : AX.RG := pc [] (AX.T.set (AX.T.set (AX.T.set (AX.T.set (AX.T.set .leaf 87 (.bool true)) 93 (.int .u8 (y : Nat))) 96 (.int .u8 (z : Nat))) 97 (.bool false)) 89 (.int .i64 (j + 1 : Nat))) pB2 s2 (AX.frOf s2 (v2 a0 a1 a2 a3 n j)) (hp3 a0 a1 a2 a3 b0 b1 b2 b3) 10
theorem i2_val : AX.gVal (i2 a0 a1 a2 a3 b0 b1 b2 b3 n j y z) = some (.tup [.gptr 0 0, .ptr 0 0, .ptr 1 0, .int .i64 (n : Nat), .str (bytesB a0 a1 a2 a3), .int .i64 (j + 1 : Nat)]) := by kernel_rfl
theorem i2_nx : AX.gNx (i2 a0 a1 a2 a3 b0 b1 b2 b3 n j y z) = some 10 := by kernel_rfl
theorem i2_calls : AX.gCalls (i2 a0 a1 a2 a3 b0 b1 b2 b3 n j y z) = AX.gWant (i2 a0 a1 a2 a3 b0 b1 b2 b3 n j y z) := by kernel_rfl
theorem i2_vals : AX.gVals (i2 a0 a1 a2 a3 b0 b1 b2 b3 n j y z) = some [some (.int .i64 (AX.wrapA .i64 (AX.addA (j : Nat) 1))), some (.bool (AX.leI (z : Nat) (y : Nat))), AX.indexA Tryd.prog 9 (.str (bytesB a0 a1 a2 a3)) (.int .i64 (j : Nat)), AX.indexA Tryd.prog 9 (.str (bytesB a0 a1 a2 a3)) (.int .i64 (AX.wrapA .i64 (AX.subA (j : Nat) 1))), some (.bool (AX.ltI (j : Nat) (Int.ofNat (bytesB a0 a1 a2 a3).length)))] := by kernel_rfl
theorem i2_asm : AX.gAsm (i2 a0 a1 a2 a3 b0 b1 b2 b3 n j y z) = some [some (.int .i64 (j + 1 : Nat)), some (.bool false), some (.int .u8 (z : Nat)), some (.int .u8 (y : Nat)), some (.bool true)] := by kernel_rfl
theorem i2_hp : AX.gHp (i2 a0 a1 a2 a3 b0 b1 b2 b3 n j y z) = hp3 a0 a1 a2 a3 b0 b1 b2 b3 := by kernel_rfl
noncomputable def x2 : AX.RG := pc [] (AX.T.set .leaf 87 (.bool false)) pB2 s2 (AX.frOf s2 (v2 a0 a1 a2 a3 n j)) (hp3 a0 a1 a2 a3 b0 b1 b2 b3) 10
theorem x2_val : AX.gVal (x2 a0 a1 a2 a3 b0 b1 b2 b3 n j) = some (.tup [.gptr 3 0, .ptr 0 0, .ptr 1 0, .int .i64 (n : Nat), .str (bytesB a0 a1 a2 a3), .int .i64 (j : Nat)]) := by kernel_rfl
theorem x2_nx : AX.gNx (x2 a0 a1 a2 a3 b0 b1 b2 b3 n j) = some 10 := by kernel_rfl
theorem x2_calls : AX.gCalls (x2 a0 a1 a2 a3 b0 b1 b2 b3 n j) = AX.gWant (x2 a0 a1 a2 a3 b0 b1 b2 b3 n j) := by kernel_rfl
theorem x2_vals : AX.gVals (x2 a0 a1 a2 a3 b0 b1 b2 b3 n j) = some [some (.bool (AX.ltI (j : Nat) (Int.ofNat (bytesB a0 a1 a2 a3).length)))] := by kernel_rfl
theorem x2_asm : AX.gAsm (x2 a0 a1 a2 a3 b0 b1 b2 b3 n j) = some [some (.bool false)] := by kernel_rfl
theorem x2_hp : AX.gHp (x2 a0 a1 a2 a3 b0 b1 b2 b3 n j) = hp3 a0 a1 a2 a3 b0 b1 b2 b3 := by kernel_rfl
noncomputable def r19 : AX.RG := pc (pad 10 [some (23, [(cA a0 a1 a2 a3), (cA b0 b1 b2 b3)], .int .i64 (AX.cmpB (bytesB a0 a1 a2 a3) (bytesB b0 b1 b2 b3)))]) .leaf pR19 [2, 3, 8, 12, 14] (AX.frOf [2, 3, 8, 12] [.ptr 0 0, .ptr 1 0, .int .i64 (n : Nat), .str (bytesB a0 a1 a2 a3)]) (hp3 a0 a1 a2 a3 b0 b1 b2 b3) 10
theorem r19_val : AX.gVal (r19 a0 a1 a2 a3 b0 b1 b2 b3 n) = some (.tup [.gptr 0 0, .ptr 0 0, .ptr 1 0, .int .i64 (n : Nat), .str (bytesB a0 a1 a2 a3), .int .i64 (AX.cmpB (bytesB a0 a1 a2 a3) (bytesB b0 b1 b2 b3))]) := by kernel_rfl
theorem r19_nx : AX.gNx (r19 a0 a1 a2 a3 b0 b1 b2 b3 n) = some 11 := by kernel_rfl
theorem r19_calls : AX.gCalls (r19 a0 a1 a2 a3 b0 b1 b2 b3 n) = AX.gWant (r19 a0 a1 a2 a3 b0 b1 b2 b3 n) := by kernel_rfl
theorem r19_vals : AX.gVals (r19 a0 a1 a2 a3 b0 b1 b2 b3 n) = AX.gAsm (r19 a0 a1 a2 a3 b0 b1 b2 b3 n) := by kernel_rfl
theorem r19_hp : AX.gHp (r19 a0 a1 a2 a3 b0 b1 b2 b3 n) = hp3 a0 a1 a2 a3 b0 b1 b2 b3 := by kernel_rfl
noncomputable def r201 : AX.RG := pc (pad 11 [some (13, [(cA a0 a1 a2 a3)], .int .i64 ((bytesB a0 a1 a2 a3).length : Nat)), some (21, [.str (bytesB a0 a1 a2 a3)], (cA a0 a1 a2 a3)), some (23, [(cA b0 b1 b2 b3), (cA a0 a1 a2 a3)], .int .i64 (AX.cmpB (bytesB b0 b1 b2 b3) (bytesB a0 a1 a2 a3)))]) (AX.T.set (AX.T.set (AX.T.set (AX.T.set (AX.T.set (AX.T.set .leaf 104 (.bool true)) 109 (.bool true)) 115 (.bool true)) 119 (.bool true)) 122 (.bool true)) 131 (.bool true)) pR20 [4] (AX.frOf [2, 3, 8, 12, 14] [.ptr 0 0, .ptr 1 0, .int .i64 (n : Nat), .str (bytesB a0 a1 a2 a3), .int .i64 (AX.cmpB (bytesB a0 a1 a2 a3) (bytesB b0 b1 b2 b3))]) (hp3 a0 a1 a2 a3 b0 b1 b2 b3) 11
theorem r201_val : AX.gVal (r201 a0 a1 a2 a3 b0 b1 b2 b3 n) = some (.tup [.gptr 0 0, .bool true]) := by kernel_rfl
theorem r201_nx : AX.gNx (r201 a0 a1 a2 a3 b0 b1 b2 b3 n) = some 14 := by kernel_rfl
theorem r201_calls : AX.gCalls (r201 a0 a1 a2 a3 b0 b1 b2 b3 n) = AX.gWant (r201 a0 a1 a2 a3 b0 b1 b2 b3 n) := by kernel_rfl
theorem r201_vals : AX.gVals (r201 a0 a1 a2 a3 b0 b1 b2 b3 n) = some [some (.bool (AX.eqI (AX.cmpB (bytesB a0 a1 a2 a3) (bytesB b0 b1 b2 b3)) (AX.wrapA .i64 (AX.subA 0 (AX.cmpB (bytesB b0 b1 b2 b3) (bytesB a0 a1 a2 a3)))))), AX.binA Tryd.prog .eql 27 (.tmp 120) (.tmp 121) (cA a0 a1 a2 a3) (cA b0 b1 b2 b3), some (.bool (AX.eqI (AX.cmpB (bytesB a0 a1 a2 a3) (bytesB b0 b1 b2 b3)) 0)), AX.binA Tryd.prog .eql 27 (.tmp 113) (.tmp 114) (cA a0 a1 a2 a3) (cA a0 a1 a2 a3), some (cA a0 a1 a2 a3), some (.bool (AX.eqI ((bytesB a0 a1 a2 a3).length : Nat) (n : Nat))), some (.bool (AX.eqI ((bytesB a0 a1 a2 a3).length : Nat) (n : Nat)))] := by kernel_rfl
theorem r201_asm : AX.gAsm (r201 a0 a1 a2 a3 b0 b1 b2 b3 n) = some [some (.bool true), some (.bool true), some (.bool true), some (.bool true), some (cA a0 a1 a2 a3), some (.bool true), some (.bool true)] := by kernel_rfl
noncomputable def r200 : AX.RG := pc (pad 11 [some (13, [(cA a0 a1 a2 a3)], .int .i64 ((bytesB a0 a1 a2 a3).length : Nat)), some (21, [.str (bytesB a0 a1 a2 a3)], (cA a0 a1 a2 a3)), some (23, [(cA b0 b1 b2 b3), (cA a0 a1 a2 a3)], .int .i64 (AX.cmpB (bytesB b0 b1 b2 b3) (bytesB a0 a1 a2 a3)))]) (AX.T.set (AX.T.set (AX.T.set (AX.T.set (AX.T.set (AX.T.set .leaf 104 (.bool true)) 109 (.bool true)) 115 (.bool true)) 119 (.bool false)) 122 (.bool false)) 131 (.bool true)) pR20 [4] (AX.frOf [2, 3, 8, 12, 14] [.ptr 0 0, .ptr 1 0, .int .i64 (n : Nat), .str (bytesB a0 a1 a2 a3), .int .i64 (AX.cmpB (bytesB a0 a1 a2 a3) (bytesB b0 b1 b2 b3))]) (hp3 a0 a1 a2 a3 b0 b1 b2 b3) 11
theorem r200_val : AX.gVal (r200 a0 a1 a2 a3 b0 b1 b2 b3 n) = some (.tup [.gptr 0 0, .bool true]) := by kernel_rfl
theorem r200_nx : AX.gNx (r200 a0 a1 a2 a3 b0 b1 b2 b3 n) = some 14 := by kernel_rfl
theorem r200_calls : AX.gCalls (r200 a0 a1 a2 a3 b0 b1 b2 b3 n) = AX.gWant (r200 a0 a1 a2 a3 b0 b1 b2 b3 n) := by kernel_rfl
theorem r200_vals : AX.gVals (r200 a0 a1 a2 a3 b0 b1 b2 b3 n) = some [some (.bool (AX.eqI (AX.cmpB (bytesB a0 a1 a2 a3) (bytesB b0 b1 b2 b3)) (AX.wrapA .i64 (AX.subA 0 (AX.cmpB (bytesB b0 b1 b2 b3) (bytesB a0 a1 a2 a3)))))), AX.binA Tryd.prog .eql 27 (.tmp 120) (.tmp 121) (cA a0 a1 a2 a3) (cA b0 b1 b2 b3), some (.bool (AX.eqI (AX.cmpB (bytesB a0 a1 a2 a3) (bytesB b0 b1 b2 b3)) 0)), AX.binA Tryd.prog .eql 27 (.tmp 113) (.tmp 114) (cA a0 a1 a2 a3) (cA a0 a1 a2 a3), some (cA a0 a1 a2 a3), some (.bool (AX.eqI ((bytesB a0 a1 a2 a3).length : Nat) (n : Nat))), some (.bool (AX.eqI ((bytesB a0 a1 a2 a3).length : Nat) (n : Nat)))] := by kernel_rfl
theorem r200_asm : AX.gAsm (r200 a0 a1 a2 a3 b0 b1 b2 b3 n) = some [some (.bool true), some (.bool false), some (.bool false), some (.bool true), some (cA a0 a1 a2 a3), some (.bool true), some (.bool true)] := by kernel_rfl
end
end Go.Proofs.YtjaabolpdelbiaaDoor
