/- Calls of a run without arguments, told again: each is worked out in the kernel by an abstract machine, proved sound over the model. -/
import Derived.Test.YtihnoigdplkfbabGreatDoorKn
import Derived.KernelRfl
namespace Go.Proofs.YtihnoigdplkfbabGreatDoor
noncomputable def memo0 : AX.Memo := { args := [.agg [.opn 0 0 3 4, .opn 1 0 3 1, .opn 2 0 3 1], .int .i64 (.ofNat 512)], ins := [(0, .raw [.int .u64 (.ofNat 0), .int .u64 (.ofNat 0), .int .u64 (.ofNat 0), .int .u64 (.ofNat 0), .int .u64 (.ofNat 0), .int .u64 (.ofNat 576460743713488896), .int .u64 (.ofNat 0), .int .u64 (.ofNat 0), .int .u64 (.ofNat 4294967296), .int .u64 (.ofNat 0), .int .u64 (.ofNat 0), .int .u64 (.ofNat 0)] (.ty 156)), (1, .cells [.opn 3 0 2 1, .opn 4 0 1 1, .opn 5 0 1 1] (.ty 32)), (2, .raw [.int .i64 (.negSucc 0), .int .i64 (.ofNat 0), .int .i64 (.ofNat 1)] (.ty 3)), (3, .raw [.int .i64 (.ofNat 1), .int .i64 (.ofNat 2)] .yes), (4, .raw [.int .i64 (.ofNat 1)] .yes), (5, .raw [.int .i64 (.ofNat 2)] .yes)], n0 := 6, out := .tup [.agg [.opn 321 0 768 1, .opn 264 0 3 1], .int .i64 (.ofNat 0)], outs := [(321, .raw (AX.rlV [(32, .int .i64 (.negSucc 0)), (1, .int .i64 (.ofNat 1)), (64, .int .i64 (.negSucc 0)), (26, .int .i64 (.ofNat 2)), (165, .int .i64 (.negSucc 0)), (1, .int .i64 (.ofNat 1)), (320, .int .i64 (.negSucc 0)), (26, .int .i64 (.ofNat 2)), (133, .int .i64 (.negSucc 0))]) (.ty 3)), (264, .raw [.int .i64 (.negSucc 0), .int .i64 (.ofNat 1), .int .i64 (.ofNat 0)] (.ty 3))], n1 := 322 }
noncomputable def memos0 : List AX.Memo := memo0 :: []
theorem form0 : AX.formOk memo0 = true := by kernel_rfl
noncomputable def tab1 : AX.T (List AX.AV → AX.Hp → Nat → Option (AX.AV × AX.Hp × Nat)) := tab0.set 38 (AX.recallL memos0)
theorem run0 : AX.memoOk (AX.callS (AX.ctxOf Tryz.prog glob dfd tab0) 80) 38 memo0 = true := by kernel_rfl
theorem body0 : ∃ (fn : Func) (c : Code), Tryz.prog.funcs[38]? = some fn ∧ fn.body = some c := ⟨_, _, Tryz.func38, rfl⟩
theorem told0 : AX.TabOk Tryz.prog glob dfd tab1 ∧ ∀ x, x ∈ memos0 → ∀ s, AX.OrcGood (AX.ctxOf Tryz.prog glob dfd s) 38 (AX.recallA x) := AX.TabOk.tell pOk dfdAll tab0_ok body0 form0 run0 (fun _ h => by cases h)
noncomputable def memo1 : AX.Memo := { args := [.agg [.opn 0 0 768 1, .opn 1 0 3 1]], ins := [(0, .raw (AX.rlV [(32, .int .i64 (.negSucc 0)), (1, .int .i64 (.ofNat 1)), (64, .int .i64 (.negSucc 0)), (26, .int .i64 (.ofNat 2)), (165, .int .i64 (.negSucc 0)), (1, .int .i64 (.ofNat 1)), (320, .int .i64 (.negSucc 0)), (26, .int .i64 (.ofNat 2)), (133, .int .i64 (.negSucc 0))]) (.ty 3)), (1, .raw [.int .i64 (.negSucc 0), .int .i64 (.ofNat 1), .int .i64 (.ofNat 0)] (.ty 3))], n0 := 2, out := .tup [.agg [.opn 1569 0 768 1, .opn 1057 0 3 1], .int .i64 (.ofNat 0)], outs := [(1569, .raw (AX.rlV [(32, .int .i64 (.negSucc 0)), (1, .int .i64 (.ofNat 1)), (64, .int .i64 (.negSucc 0)), (26, .int .i64 (.ofNat 2)), (165, .int .i64 (.negSucc 0)), (1, .int .i64 (.ofNat 1)), (320, .int .i64 (.negSucc 0)), (26, .int .i64 (.ofNat 2)), (133, .int .i64 (.negSucc 0))]) (.ty 3)), (1057, .raw [.int .i64 (.negSucc 0), .int .i64 (.ofNat 1), .int .i64 (.ofNat 0)] (.ty 3))], n1 := 1570 }
noncomputable def memos1 : List AX.Memo := memo1 :: []
theorem form1 : AX.formOk memo1 = true := by kernel_rfl
noncomputable def tab2 : AX.T (List AX.AV → AX.Hp → Nat → Option (AX.AV × AX.Hp × Nat)) := tab1.set 39 (AX.recallL memos1)
theorem run1 : AX.memoOk (AX.callS (AX.ctxOf Tryz.prog glob dfd tab1) 80) 39 memo1 = true := by kernel_rfl
theorem body1 : ∃ (fn : Func) (c : Code), Tryz.prog.funcs[39]? = some fn ∧ fn.body = some c := ⟨_, _, Tryz.func39, rfl⟩
theorem told1 : AX.TabOk Tryz.prog glob dfd tab2 ∧ ∀ x, x ∈ memos1 → ∀ s, AX.OrcGood (AX.ctxOf Tryz.prog glob dfd s) 39 (AX.recallA x) := AX.TabOk.tell pOk dfdAll told0.1 body1 form1 run1 (fun _ h => by cases h)
noncomputable def memo2 : AX.Memo := { args := [.agg [.int .i64 (.ofNat 1), .int .i64 (.ofNat 1), .int .i64 (.ofNat 1), .slice 0 0 2 2]], ins := [(0, .cells [.int .i64 (.ofNat 0), .slice 1 0 2 2, .int .i64 (.ofNat 0), .nils] (.ty 34)), (1, .raw [.int .i64 (.ofNat 0), .int .i64 (.ofNat 1)] (.ty 3))], n0 := 2, out := .tup [.agg [.opn 362 0 2 1], .agg [.int .i64 (.ofNat 0), .int .i64 (.ofNat 0), .int .i64 (.ofNat 0), .str []], .int .i64 (.ofNat 0)], outs := [(362, .cells [.opn 345 0 1 1, .opn 360 0 1 1] (.ty 128)), (345, .raw [.str [0]] .yes), (360, .raw [.str [255]] .yes)], n1 := 381 }
noncomputable def memos2 : List AX.Memo := memo2 :: []
theorem form2 : AX.formOk memo2 = true := by kernel_rfl
noncomputable def tab3 : AX.T (List AX.AV → AX.Hp → Nat → Option (AX.AV × AX.Hp × Nat)) := tab2.set 22 (AX.recallL memos2)
theorem run2 : AX.memoOk (AX.callS (AX.ctxOf Tryz.prog glob dfd tab2) 80) 22 memo2 = true := by kernel_rfl
theorem body2 : ∃ (fn : Func) (c : Code), Tryz.prog.funcs[22]? = some fn ∧ fn.body = some c := ⟨_, _, Tryz.func22, rfl⟩
theorem told2 : AX.TabOk Tryz.prog glob dfd tab3 ∧ ∀ x, x ∈ memos2 → ∀ s, AX.OrcGood (AX.ctxOf Tryz.prog glob dfd s) 22 (AX.recallA x) := AX.TabOk.tell pOk dfdAll told1.1 body2 form2 run2 (fun _ h => by cases h)
noncomputable def memo3 : AX.Memo := { args := [.agg [.int .i64 (.ofNat 1), .int .i64 (.ofNat 1), .int .i64 (.ofNat 1), .slice 0 0 2 2]], ins := [(0, .cells [.int .i64 (.ofNat 0), .slice 1 0 2 2, .int .i64 (.ofNat 0), .nils] (.ty 34)), (1, .raw [.int .i64 (.ofNat 0), .int .i64 (.ofNat 1)] (.ty 3))], n0 := 2, out := .int .i64 (.ofNat 0), outs := [], n1 := 461 }
noncomputable def memos3 : List AX.Memo := memo3 :: []
theorem form3 : AX.formOk memo3 = true := by kernel_rfl
noncomputable def tab4 : AX.T (List AX.AV → AX.Hp → Nat → Option (AX.AV × AX.Hp × Nat)) := tab3.set 19 (AX.recallL memos3)
theorem run3 : AX.memoOk (AX.callS (AX.ctxOf Tryz.prog glob dfd tab3) 80) 19 memo3 = true := by kernel_rfl
theorem body3 : ∃ (fn : Func) (c : Code), Tryz.prog.funcs[19]? = some fn ∧ fn.body = some c := ⟨_, _, Tryz.func19, rfl⟩
theorem told3 : AX.TabOk Tryz.prog glob dfd tab4 ∧ ∀ x, x ∈ memos3 → ∀ s, AX.OrcGood (AX.ctxOf Tryz.prog glob dfd s) 19 (AX.recallA x) := AX.TabOk.tell pOk dfdAll told2.1 body3 form3 run3 (fun _ h => by cases h)
noncomputable def memo4 : AX.Memo := { args := [.agg [.int .i64 (.ofNat 1), .int .i64 (.ofNat 1), .int .i64 (.ofNat 1), .slice 0 0 2 2]], ins := [(0, .cells [.int .i64 (.ofNat 0), .slice 1 0 2 2, .int .i64 (.ofNat 0), .nils] (.ty 34)), (1, .raw [.int .i64 (.ofNat 0), .int .i64 (.ofNat 1)] (.ty 3))], n0 := 2, out := .int .i64 (.ofNat 4), outs := [], n1 := 970 }
noncomputable def memos4 : List AX.Memo := memo4 :: []
theorem form4 : AX.formOk memo4 = true := by kernel_rfl
noncomputable def tab5 : AX.T (List AX.AV → AX.Hp → Nat → Option (AX.AV × AX.Hp × Nat)) := tab4.set 20 (AX.recallL memos4)
theorem run4 : AX.memoOk (AX.callS (AX.ctxOf Tryz.prog glob dfd tab4) 80) 20 memo4 = true := by kernel_rfl
theorem body4 : ∃ (fn : Func) (c : Code), Tryz.prog.funcs[20]? = some fn ∧ fn.body = some c := ⟨_, _, Tryz.func20, rfl⟩
theorem told4 : AX.TabOk Tryz.prog glob dfd tab5 ∧ ∀ x, x ∈ memos4 → ∀ s, AX.OrcGood (AX.ctxOf Tryz.prog glob dfd s) 20 (AX.recallA x) := AX.TabOk.tell pOk dfdAll told3.1 body4 form4 run4 (fun _ h => by cases h)
noncomputable def memo5 : AX.Memo := { args := [], ins := [], n0 := 0, out := .bool true, outs := [], n1 := 6481 }
noncomputable def memos5 : List AX.Memo := memo5 :: []
theorem form5 : AX.formOk memo5 = true := by kernel_rfl
noncomputable def tab6 : AX.T (List AX.AV → AX.Hp → Nat → Option (AX.AV × AX.Hp × Nat)) := tab5.set 5 (AX.recallL memos5)
theorem run5 : AX.memoOk (AX.callS (AX.ctxOf Tryz.prog glob dfd tab5) 80) 5 memo5 = true := by kernel_rfl
theorem body5 : ∃ (fn : Func) (c : Code), Tryz.prog.funcs[5]? = some fn ∧ fn.body = some c := ⟨_, _, Tryz.func5, rfl⟩
theorem told5 : AX.TabOk Tryz.prog glob dfd tab6 ∧ ∀ x, x ∈ memos5 → ∀ s, AX.OrcGood (AX.ctxOf Tryz.prog glob dfd s) 5 (AX.recallA x) := AX.TabOk.tell pOk dfdAll told4.1 body5 form5 run5 (fun _ h => by cases h)
noncomputable def memo6 : AX.Memo := { args := [.agg [.int .i64 (.ofNat 2), .int .i64 (.ofNat 1), .int .i64 (.ofNat 1), .opn 0 0 3 2]], ins := [(0, .cells [.int .i64 (.ofNat 0), .slice 1 0 2 2, .int .i64 (.ofNat 0), .nils, .int .i64 (.ofNat 0), .slice 2 0 1 1] (.ty 34)), (1, .raw [.int .i64 (.ofNat 0), .int .i64 (.ofNat 1)] (.ty 3)), (2, .raw [.int .i64 (.ofNat 1)] (.ty 3))], n0 := 3, out := .tup [.agg [.opn 421 0 3 1], .agg [.int .i64 (.ofNat 0), .int .i64 (.ofNat 0), .int .i64 (.ofNat 0), .str []], .int .i64 (.ofNat 0)], outs := [(421, .cells [.opn 379 0 1 1, .opn 396 0 1 1, .opn 419 0 1 1] (.ty 128)), (379, .raw [.str [0]] .yes), (396, .raw [.str [255]] .yes), (419, .raw [.str [1]] .yes)], n1 := 445 }
noncomputable def memos6 : List AX.Memo := memo6 :: memos2
theorem form6 : AX.formOk memo6 = true := by kernel_rfl
noncomputable def tab7 : AX.T (List AX.AV → AX.Hp → Nat → Option (AX.AV × AX.Hp × Nat)) := tab6.set 22 (AX.recallL memos6)
theorem run6 : AX.memoOk (AX.callS (AX.ctxOf Tryz.prog glob dfd tab6) 80) 22 memo6 = true := by kernel_rfl
theorem body6 : ∃ (fn : Func) (c : Code), Tryz.prog.funcs[22]? = some fn ∧ fn.body = some c := ⟨_, _, Tryz.func22, rfl⟩
theorem told6 : AX.TabOk Tryz.prog glob dfd tab7 ∧ ∀ x, x ∈ memos6 → ∀ s, AX.OrcGood (AX.ctxOf Tryz.prog glob dfd s) 22 (AX.recallA x) := AX.TabOk.tell pOk dfdAll told5.1 body6 form6 run6 told2.2
noncomputable def memo7 : AX.Memo := { args := [.agg [.int .i64 (.ofNat 2), .int .i64 (.ofNat 1), .int .i64 (.ofNat 1), .opn 0 0 3 2]], ins := [(0, .cells [.int .i64 (.ofNat 0), .slice 1 0 2 2, .int .i64 (.ofNat 0), .nils, .int .i64 (.ofNat 0), .slice 2 0 1 1] (.ty 34)), (1, .raw [.int .i64 (.ofNat 0), .int .i64 (.ofNat 1)] (.ty 3)), (2, .raw [.int .i64 (.ofNat 1)] (.ty 3))], n0 := 3, out := .int .i64 (.ofNat 0), outs := [], n1 := 550 }
noncomputable def memos7 : List AX.Memo := memo7 :: memos3
theorem form7 : AX.formOk memo7 = true := by kernel_rfl
noncomputable def tab8 : AX.T (List AX.AV → AX.Hp → Nat → Option (AX.AV × AX.Hp × Nat)) := tab7.set 19 (AX.recallL memos7)
theorem run7 : AX.memoOk (AX.callS (AX.ctxOf Tryz.prog glob dfd tab7) 80) 19 memo7 = true := by kernel_rfl
theorem body7 : ∃ (fn : Func) (c : Code), Tryz.prog.funcs[19]? = some fn ∧ fn.body = some c := ⟨_, _, Tryz.func19, rfl⟩
theorem told7 : AX.TabOk Tryz.prog glob dfd tab8 ∧ ∀ x, x ∈ memos7 → ∀ s, AX.OrcGood (AX.ctxOf Tryz.prog glob dfd s) 19 (AX.recallA x) := AX.TabOk.tell pOk dfdAll told6.1 body7 form7 run7 told3.2
noncomputable def memo8 : AX.Memo := { args := [.agg [.int .i64 (.ofNat 1), .int .i64 (.ofNat 2), .int .i64 (.ofNat 1), .slice 0 0 2 2]], ins := [(0, .cells [.int .i64 (.ofNat 0), .slice 1 0 2 2, .int .i64 (.ofNat 1), .slice 2 0 1 1] (.ty 34)), (1, .raw [.int .i64 (.ofNat 2), .int .i64 (.ofNat 0)] (.ty 3)), (2, .raw [.int .i64 (.ofNat 0)] (.ty 3))], n0 := 3, out := .tup [.agg [.opn 397 0 2 1], .agg [.int .i64 (.ofNat 0), .int .i64 (.ofNat 0), .int .i64 (.ofNat 0), .str []], .int .i64 (.ofNat 0)], outs := [(397, .cells [.opn 374 0 1 1, .opn 395 0 1 1] (.ty 128)), (374, .raw [.str [0]] .yes), (395, .raw [.str [0]] .yes)], n1 := 425 }
noncomputable def memos8 : List AX.Memo := memo8 :: memos6
theorem form8 : AX.formOk memo8 = true := by kernel_rfl
noncomputable def tab9 : AX.T (List AX.AV → AX.Hp → Nat → Option (AX.AV × AX.Hp × Nat)) := tab8.set 22 (AX.recallL memos8)
theorem run8 : AX.memoOk (AX.callS (AX.ctxOf Tryz.prog glob dfd tab8) 80) 22 memo8 = true := by kernel_rfl
theorem body8 : ∃ (fn : Func) (c : Code), Tryz.prog.funcs[22]? = some fn ∧ fn.body = some c := ⟨_, _, Tryz.func22, rfl⟩
theorem told8 : AX.TabOk Tryz.prog glob dfd tab9 ∧ ∀ x, x ∈ memos8 → ∀ s, AX.OrcGood (AX.ctxOf Tryz.prog glob dfd s) 22 (AX.recallA x) := AX.TabOk.tell pOk dfdAll told7.1 body8 form8 run8 told6.2
noncomputable def memo9 : AX.Memo := { args := [.agg [.int .i64 (.ofNat 1), .int .i64 (.ofNat 2), .int .i64 (.ofNat 1), .slice 0 0 2 2]], ins := [(0, .cells [.int .i64 (.ofNat 0), .slice 1 0 2 2, .int .i64 (.ofNat 1), .slice 2 0 1 1] (.ty 34)), (1, .raw [.int .i64 (.ofNat 2), .int .i64 (.ofNat 0)] (.ty 3)), (2, .raw [.int .i64 (.ofNat 0)] (.ty 3))], n0 := 3, out := .int .i64 (.ofNat 0), outs := [], n1 := 520 }
noncomputable def memos9 : List AX.Memo := memo9 :: memos7
theorem form9 : AX.formOk memo9 = true := by kernel_rfl
noncomputable def tab10 : AX.T (List AX.AV → AX.Hp → Nat → Option (AX.AV × AX.Hp × Nat)) := tab9.set 19 (AX.recallL memos9)
theorem run9 : AX.memoOk (AX.callS (AX.ctxOf Tryz.prog glob dfd tab9) 80) 19 memo9 = true := by kernel_rfl
theorem body9 : ∃ (fn : Func) (c : Code), Tryz.prog.funcs[19]? = some fn ∧ fn.body = some c := ⟨_, _, Tryz.func19, rfl⟩
theorem told9 : AX.TabOk Tryz.prog glob dfd tab10 ∧ ∀ x, x ∈ memos9 → ∀ s, AX.OrcGood (AX.ctxOf Tryz.prog glob dfd s) 19 (AX.recallA x) := AX.TabOk.tell pOk dfdAll told8.1 body9 form9 run9 told7.2
noncomputable def memo10 : AX.Memo := { args := [.agg [.int .i64 (.ofNat 1), .int .i64 (.ofNat 2), .int .i64 (.ofNat 1), .slice 0 0 2 2]], ins := [(0, .cells [.int .i64 (.ofNat 0), .slice 1 0 2 2, .int .i64 (.ofNat 1), .slice 2 0 1 1] (.ty 34)), (1, .raw [.int .i64 (.ofNat 2), .int .i64 (.ofNat 0)] (.ty 3)), (2, .raw [.int .i64 (.ofNat 0)] (.ty 3))], n0 := 3, out := .int .i64 (.ofNat 3), outs := [], n1 := 1089 }
noncomputable def memos10 : List AX.Memo := memo10 :: memos4
theorem form10 : AX.formOk memo10 = true := by kernel_rfl
noncomputable def tab11 : AX.T (List AX.AV → AX.Hp → Nat → Option (AX.AV × AX.Hp × Nat)) := tab10.set 20 (AX.recallL memos10)
theorem run10 : AX.memoOk (AX.callS (AX.ctxOf Tryz.prog glob dfd tab10) 80) 20 memo10 = true := by kernel_rfl
theorem body10 : ∃ (fn : Func) (c : Code), Tryz.prog.funcs[20]? = some fn ∧ fn.body = some c := ⟨_, _, Tryz.func20, rfl⟩
theorem told10 : AX.TabOk Tryz.prog glob dfd tab11 ∧ ∀ x, x ∈ memos10 → ∀ s, AX.OrcGood (AX.ctxOf Tryz.prog glob dfd s) 20 (AX.recallA x) := AX.TabOk.tell pOk dfdAll told9.1 body10 form10 run10 told4.2
end Go.Proofs.YtihnoigdplkfbabGreatDoor
