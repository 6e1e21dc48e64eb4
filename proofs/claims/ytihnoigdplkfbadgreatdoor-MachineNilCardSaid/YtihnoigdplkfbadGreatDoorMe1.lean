/- Calls of a run without arguments, told again: each is worked out in the kernel by an abstract machine, proved sound over the model. -/
import Derived.Test.YtihnoigdplkfbadGreatDoorKn
import Derived.KernelRfl
namespace Go.Proofs.YtihnoigdplkfbadGreatDoor
noncomputable def memo0 : AX.Memo := { args := [.agg [.opn 0 0 3 4, .opn 1 0 3 1, .opn 2 0 3 1], .int .i64 (.ofNat 512)], ins := [(0, .raw [.int .u64 (.ofNat 0), .int .u64 (.ofNat 0), .int .u64 (.ofNat 0), .int .u64 (.ofNat 0), .int .u64 (.ofNat 0), .int .u64 (.ofNat 576460743713488896), .int .u64 (.ofNat 0), .int .u64 (.ofNat 0), .int .u64 (.ofNat 4294967296), .int .u64 (.ofNat 0), .int .u64 (.ofNat 0), .int .u64 (.ofNat 0)] (.ty 169)), (1, .cells [.opn 3 0 2 1, .opn 4 0 1 1, .opn 5 0 1 1] (.ty 61)), (2, .raw [.int .i64 (.negSucc 0), .int .i64 (.ofNat 0), .int .i64 (.ofNat 1)] (.ty 3)), (3, .raw [.int .i64 (.ofNat 1), .int .i64 (.ofNat 2)] .yes), (4, .raw [.int .i64 (.ofNat 1)] .yes), (5, .raw [.int .i64 (.ofNat 2)] .yes)], n0 := 6, out := .tup [.agg [.opn 321 0 768 1, .opn 264 0 3 1], .int .i64 (.ofNat 0)], outs := [(321, .raw (AX.rlV [(32, .int .i64 (.negSucc 0)), (1, .int .i64 (.ofNat 1)), (64, .int .i64 (.negSucc 0)), (26, .int .i64 (.ofNat 2)), (165, .int .i64 (.negSucc 0)), (1, .int .i64 (.ofNat 1)), (320, .int .i64 (.negSucc 0)), (26, .int .i64 (.ofNat 2)), (133, .int .i64 (.negSucc 0))]) (.ty 3)), (264, .raw [.int .i64 (.negSucc 0), .int .i64 (.ofNat 1), .int .i64 (.ofNat 0)] (.ty 3))], n1 := 322 }
noncomputable def memos0 : List AX.Memo := memo0 :: []
theorem form0 : AX.formOk memo0 = true := by kernel_rfl
noncomputable def tab1 : AX.T (List AX.AV → AX.Hp → Nat → Option (AX.AV × AX.Hp × Nat)) := tab0.set 46 (AX.recallL memos0)
theorem run0 : AX.memoOk (AX.callS (AX.ctxOf Tryz.prog glob dfd tab0) 80) 46 memo0 = true := by kernel_rfl
theorem body0 : ∃ (fn : Func) (c : Code), Tryz.prog.funcs[46]? = some fn ∧ fn.body = some c := ⟨_, _, Tryz.func46, rfl⟩
theorem told0 : AX.TabOk Tryz.prog glob dfd tab1 ∧ ∀ x, x ∈ memos0 → ∀ s, AX.OrcGood (AX.ctxOf Tryz.prog glob dfd s) 46 (AX.recallA x) := AX.TabOk.tell pOk dfdAll tab0_ok body0 form0 run0 (fun _ h => by cases h)
noncomputable def memo1 : AX.Memo := { args := [.agg [.opn 0 0 768 1, .opn 1 0 3 1]], ins := [(0, .raw (AX.rlV [(32, .int .i64 (.negSucc 0)), (1, .int .i64 (.ofNat 1)), (64, .int .i64 (.negSucc 0)), (26, .int .i64 (.ofNat 2)), (165, .int .i64 (.negSucc 0)), (1, .int .i64 (.ofNat 1)), (320, .int .i64 (.negSucc 0)), (26, .int .i64 (.ofNat 2)), (133, .int .i64 (.negSucc 0))]) (.ty 3)), (1, .raw [.int .i64 (.negSucc 0), .int .i64 (.ofNat 1), .int .i64 (.ofNat 0)] (.ty 3))], n0 := 2, out := .tup [.agg [.opn 1569 0 768 1, .opn 1057 0 3 1], .int .i64 (.ofNat 0)], outs := [(1569, .raw (AX.rlV [(32, .int .i64 (.negSucc 0)), (1, .int .i64 (.ofNat 1)), (64, .int .i64 (.negSucc 0)), (26, .int .i64 (.ofNat 2)), (165, .int .i64 (.negSucc 0)), (1, .int .i64 (.ofNat 1)), (320, .int .i64 (.negSucc 0)), (26, .int .i64 (.ofNat 2)), (133, .int .i64 (.negSucc 0))]) (.ty 3)), (1057, .raw [.int .i64 (.negSucc 0), .int .i64 (.ofNat 1), .int .i64 (.ofNat 0)] (.ty 3))], n1 := 1570 }
noncomputable def memos1 : List AX.Memo := memo1 :: []
theorem form1 : AX.formOk memo1 = true := by kernel_rfl
noncomputable def tab2 : AX.T (List AX.AV → AX.Hp → Nat → Option (AX.AV × AX.Hp × Nat)) := tab1.set 47 (AX.recallL memos1)
theorem run1 : AX.memoOk (AX.callS (AX.ctxOf Tryz.prog glob dfd tab1) 80) 47 memo1 = true := by kernel_rfl
theorem body1 : ∃ (fn : Func) (c : Code), Tryz.prog.funcs[47]? = some fn ∧ fn.body = some c := ⟨_, _, Tryz.func47, rfl⟩
theorem told1 : AX.TabOk Tryz.prog glob dfd tab2 ∧ ∀ x, x ∈ memos1 → ∀ s, AX.OrcGood (AX.ctxOf Tryz.prog glob dfd s) 47 (AX.recallA x) := AX.TabOk.tell pOk dfdAll told0.1 body1 form1 run1 (fun _ h => by cases h)
noncomputable def memo2 : AX.Memo := { args := [.agg [.int .i64 (.ofNat 1), .int .i64 (.ofNat 1), .int .i64 (.ofNat 1), .slice 0 0 2 2]], ins := [(0, .cells [.int .i64 (.ofNat 0), .slice 1 0 2 2, .int .i64 (.ofNat 0), .nils] (.ty 85)), (1, .raw [.int .i64 (.ofNat 0), .int .i64 (.ofNat 1)] (.ty 3))], n0 := 2, out := .tup [.agg [.opn 362 0 2 1], .agg [.int .i64 (.ofNat 0), .int .i64 (.ofNat 0), .int .i64 (.ofNat 0), .str []], .int .i64 (.ofNat 0)], outs := [(362, .cells [.opn 345 0 1 1, .opn 360 0 1 1] (.ty 141)), (345, .raw [.str [0]] .yes), (360, .raw [.str [255]] .yes)], n1 := 381 }
noncomputable def memos2 : List AX.Memo := memo2 :: []
theorem form2 : AX.formOk memo2 = true := by kernel_rfl
noncomputable def tab3 : AX.T (List AX.AV → AX.Hp → Nat → Option (AX.AV × AX.Hp × Nat)) := tab2.set 25 (AX.recallL memos2)
theorem run2 : AX.memoOk (AX.callS (AX.ctxOf Tryz.prog glob dfd tab2) 80) 25 memo2 = true := by kernel_rfl
theorem body2 : ∃ (fn : Func) (c : Code), Tryz.prog.funcs[25]? = some fn ∧ fn.body = some c := ⟨_, _, Tryz.func25, rfl⟩
theorem told2 : AX.TabOk Tryz.prog glob dfd tab3 ∧ ∀ x, x ∈ memos2 → ∀ s, AX.OrcGood (AX.ctxOf Tryz.prog glob dfd s) 25 (AX.recallA x) := AX.TabOk.tell pOk dfdAll told1.1 body2 form2 run2 (fun _ h => by cases h)
noncomputable def memo3 : AX.Memo := { args := [.agg [.int .i64 (.ofNat 1), .int .i64 (.ofNat 1), .int .i64 (.ofNat 1), .slice 0 0 2 2]], ins := [(0, .cells [.int .i64 (.ofNat 0), .slice 1 0 2 2, .int .i64 (.ofNat 0), .nils] (.ty 85)), (1, .raw [.int .i64 (.ofNat 0), .int .i64 (.ofNat 1)] (.ty 3))], n0 := 2, out := .int .i64 (.ofNat 0), outs := [], n1 := 461 }
noncomputable def memos3 : List AX.Memo := memo3 :: []
theorem form3 : AX.formOk memo3 = true := by kernel_rfl
noncomputable def tab4 : AX.T (List AX.AV → AX.Hp → Nat → Option (AX.AV × AX.Hp × Nat)) := tab3.set 22 (AX.recallL memos3)
theorem run3 : AX.memoOk (AX.callS (AX.ctxOf Tryz.prog glob dfd tab3) 80) 22 memo3 = true := by kernel_rfl
theorem body3 : ∃ (fn : Func) (c : Code), Tryz.prog.funcs[22]? = some fn ∧ fn.body = some c := ⟨_, _, Tryz.func22, rfl⟩
theorem told3 : AX.TabOk Tryz.prog glob dfd tab4 ∧ ∀ x, x ∈ memos3 → ∀ s, AX.OrcGood (AX.ctxOf Tryz.prog glob dfd s) 22 (AX.recallA x) := AX.TabOk.tell pOk dfdAll told2.1 body3 form3 run3 (fun _ h => by cases h)
noncomputable def memo4 : AX.Memo := { args := [.agg [.int .i64 (.ofNat 1), .int .i64 (.ofNat 1), .int .i64 (.ofNat 1), .slice 0 0 2 2]], ins := [(0, .cells [.int .i64 (.ofNat 0), .slice 1 0 2 2, .int .i64 (.ofNat 0), .nils] (.ty 85)), (1, .raw [.int .i64 (.ofNat 0), .int .i64 (.ofNat 1)] (.ty 3))], n0 := 2, out := .int .i64 (.ofNat 4), outs := [], n1 := 970 }
noncomputable def memos4 : List AX.Memo := memo4 :: []
theorem form4 : AX.formOk memo4 = true := by kernel_rfl
noncomputable def tab5 : AX.T (List AX.AV → AX.Hp → Nat → Option (AX.AV × AX.Hp × Nat)) := tab4.set 23 (AX.recallL memos4)
theorem run4 : AX.memoOk (AX.callS (AX.ctxOf Tryz.prog glob dfd tab4) 80) 23 memo4 = true := by kernel_rfl
theorem body4 : ∃ (fn : Func) (c : Code), Tryz.prog.funcs[23]? = some fn ∧ fn.body = some c := ⟨_, _, Tryz.func23, rfl⟩
theorem told4 : AX.TabOk Tryz.prog glob dfd tab5 ∧ ∀ x, x ∈ memos4 → ∀ s, AX.OrcGood (AX.ctxOf Tryz.prog glob dfd s) 23 (AX.recallA x) := AX.TabOk.tell pOk dfdAll told3.1 body4 form4 run4 (fun _ h => by cases h)
noncomputable def memo5 : AX.Memo := { args := [], ins := [], n0 := 0, out := .bool true, outs := [], n1 := 6187 }
noncomputable def memos5 : List AX.Memo := memo5 :: []
theorem form5 : AX.formOk memo5 = true := by kernel_rfl
noncomputable def tab6 : AX.T (List AX.AV → AX.Hp → Nat → Option (AX.AV × AX.Hp × Nat)) := tab5.set 4 (AX.recallL memos5)
theorem run5 : AX.memoOk (AX.callS (AX.ctxOf Tryz.prog glob dfd tab5) 80) 4 memo5 = true := by kernel_rfl
theorem body5 : ∃ (fn : Func) (c : Code), Tryz.prog.funcs[4]? = some fn ∧ fn.body = some c := ⟨_, _, Tryz.func4, rfl⟩
theorem told5 : AX.TabOk Tryz.prog glob dfd tab6 ∧ ∀ x, x ∈ memos5 → ∀ s, AX.OrcGood (AX.ctxOf Tryz.prog glob dfd s) 4 (AX.recallA x) := AX.TabOk.tell pOk dfdAll told4.1 body5 form5 run5 (fun _ h => by cases h)
end Go.Proofs.YtihnoigdplkfbadGreatDoor
