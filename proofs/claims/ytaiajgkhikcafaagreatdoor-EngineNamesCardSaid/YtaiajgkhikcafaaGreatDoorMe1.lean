/- Calls of a run without arguments, told again: each is worked out in the kernel by an abstract machine, proved sound over the model. -/
import Derived.Test.YtaiajgkhikcafaaGreatDoorKn
import Derived.KernelRfl
namespace Go.Proofs.YtaiajgkhikcafaaGreatDoor
theorem all_none {α β : Type} (l : List α) (p : β → Bool) : l.all (fun _ => ([] : List β).all p) = true := List.all_eq_true.2 fun _ _ => rfl
theorem all_more {α β : Type} {l : List α} {p : β → Bool} {x : α → β} {xs : α → List β} (h : l.all (fun b => p (x b)) = true) (h' : l.all (fun b => (xs b).all p) = true) : l.all (fun b => (x b :: xs b).all p) = true :=
  List.all_eq_true.2 fun b hb => by rw [List.all_cons, List.all_eq_true.1 h b hb, List.all_eq_true.1 h' b hb]; rfl
noncomputable def fam0ins0 : List (Nat × AX.MB) := [(0, .raw [.int .u64 (.ofNat 0), .int .u64 (.ofNat 0), .int .u64 (.ofNat 0), .int .u64 (.ofNat 0), .int .u64 (.ofNat 0), .int .u64 (.ofNat 576460743713488896), .int .u64 (.ofNat 0), .int .u64 (.ofNat 0), .int .u64 (.ofNat 4294967296), .int .u64 (.ofNat 0), .int .u64 (.ofNat 0), .int .u64 (.ofNat 0)] (.ty 325)), (1, .cells [.opn 4 0 2 1, .opn 5 0 1 1, .opn 6 0 1 1] (.ty 30)), (2, .raw [.int .i64 (.negSucc 0), .int .i64 (.ofNat 0), .int .i64 (.ofNat 1)] (.ty 3)), (3, .raw [.int .i64 (.ofNat 0)] (.ty 3)), (4, .raw [.int .i64 (.ofNat 1), .int .i64 (.ofNat 2)] (.ty 3)), (5, .raw [.int .i64 (.ofNat 1)] (.ty 3)), (6, .raw [.int .i64 (.ofNat 2)] (.ty 3))]
noncomputable def fam0v0x0 (b : Nat) : AX.Memo := { args := [.agg [.opn 0 0 3 4, .opn 1 0 3 1, .opn 2 0 3 1], .slice 3 0 1 1, .int .u8 (.ofNat b)], ins := fam0ins0, n0 := 7, out := .nils, outs := [], n1 := 11 }
noncomputable def fam0v0x1 (b : Nat) : AX.Memo := { args := [.agg [.opn 0 0 3 4, .opn 1 0 3 1, .opn 2 0 3 1], .slice 3 0 1 1, .int .u8 (.ofNat b)], ins := fam0ins0, n0 := 7, out := .opn 12 0 1 1, outs := [(12, .raw [.int .i64 (.ofNat 2)] (.ty 3))], n1 := 13 }
noncomputable def fam0v0x2 (b : Nat) : AX.Memo := { args := [.agg [.opn 0 0 3 4, .opn 1 0 3 1, .opn 2 0 3 1], .slice 3 0 1 1, .int .u8 (.ofNat b)], ins := fam0ins0, n0 := 7, out := .opn 12 0 1 1, outs := [(12, .raw [.int .i64 (.ofNat 1)] (.ty 3))], n1 := 13 }
noncomputable def fam0z0 (b : Nat) : AX.Memo := Bool.rec (Bool.rec (fam0v0x0 b) (fam0v0x2 b) (Nat.ble 97 b && Nat.ble b 122)) (fam0v0x1 b) (Nat.ble 32 b && Nat.ble b 32)
noncomputable def fam0ins1 : List (Nat × AX.MB) := [(0, .raw [.int .u64 (.ofNat 0), .int .u64 (.ofNat 0), .int .u64 (.ofNat 0), .int .u64 (.ofNat 0), .int .u64 (.ofNat 0), .int .u64 (.ofNat 576460743713488896), .int .u64 (.ofNat 0), .int .u64 (.ofNat 0), .int .u64 (.ofNat 4294967296), .int .u64 (.ofNat 0), .int .u64 (.ofNat 0), .int .u64 (.ofNat 0)] (.ty 325)), (1, .cells [.opn 4 0 2 1, .opn 5 0 1 1, .opn 6 0 1 1] (.ty 30)), (2, .raw [.int .i64 (.negSucc 0), .int .i64 (.ofNat 0), .int .i64 (.ofNat 1)] (.ty 3)), (3, .raw [.int .i64 (.ofNat 2)] (.ty 3)), (4, .raw [.int .i64 (.ofNat 1), .int .i64 (.ofNat 2)] (.ty 3)), (5, .raw [.int .i64 (.ofNat 1)] (.ty 3)), (6, .raw [.int .i64 (.ofNat 2)] (.ty 3))]
noncomputable def fam0v1x0 (b : Nat) : AX.Memo := { args := [.agg [.opn 0 0 3 4, .opn 1 0 3 1, .opn 2 0 3 1], .opn 3 0 1 1, .int .u8 (.ofNat b)], ins := fam0ins1, n0 := 7, out := .nils, outs := [], n1 := 10 }
noncomputable def fam0v1x1 (b : Nat) : AX.Memo := { args := [.agg [.opn 0 0 3 4, .opn 1 0 3 1, .opn 2 0 3 1], .opn 3 0 1 1, .int .u8 (.ofNat b)], ins := fam0ins1, n0 := 7, out := .opn 11 0 1 1, outs := [(11, .raw [.int .i64 (.ofNat 2)] (.ty 3))], n1 := 12 }
noncomputable def fam0z1 (b : Nat) : AX.Memo := Bool.rec (fam0v1x0 b) (fam0v1x1 b) (Nat.ble 32 b && Nat.ble b 32)
noncomputable def fam0ins2 : List (Nat × AX.MB) := [(0, .raw [.int .u64 (.ofNat 0), .int .u64 (.ofNat 0), .int .u64 (.ofNat 0), .int .u64 (.ofNat 0), .int .u64 (.ofNat 0), .int .u64 (.ofNat 576460743713488896), .int .u64 (.ofNat 0), .int .u64 (.ofNat 0), .int .u64 (.ofNat 4294967296), .int .u64 (.ofNat 0), .int .u64 (.ofNat 0), .int .u64 (.ofNat 0)] (.ty 325)), (1, .cells [.opn 4 0 2 1, .opn 5 0 1 1, .opn 6 0 1 1] (.ty 30)), (2, .raw [.int .i64 (.negSucc 0), .int .i64 (.ofNat 0), .int .i64 (.ofNat 1)] (.ty 3)), (3, .raw [.int .i64 (.ofNat 1)] (.ty 3)), (4, .raw [.int .i64 (.ofNat 1), .int .i64 (.ofNat 2)] (.ty 3)), (5, .raw [.int .i64 (.ofNat 1)] (.ty 3)), (6, .raw [.int .i64 (.ofNat 2)] (.ty 3))]
noncomputable def fam0v2x0 (b : Nat) : AX.Memo := { args := [.agg [.opn 0 0 3 4, .opn 1 0 3 1, .opn 2 0 3 1], .opn 3 0 1 1, .int .u8 (.ofNat b)], ins := fam0ins2, n0 := 7, out := .nils, outs := [], n1 := 10 }
noncomputable def fam0v2x1 (b : Nat) : AX.Memo := { args := [.agg [.opn 0 0 3 4, .opn 1 0 3 1, .opn 2 0 3 1], .opn 3 0 1 1, .int .u8 (.ofNat b)], ins := fam0ins2, n0 := 7, out := .opn 11 0 1 1, outs := [(11, .raw [.int .i64 (.ofNat 1)] (.ty 3))], n1 := 12 }
noncomputable def fam0z2 (b : Nat) : AX.Memo := Bool.rec (fam0v2x0 b) (fam0v2x1 b) (Nat.ble 97 b && Nat.ble b 122)
noncomputable def fam0 (b : Nat) : List AX.Memo := [fam0z0 b, fam0z1 b, fam0z2 b]
theorem fam0form : (List.range 256).all (fun b => (fam0 b).all AX.formOk) = true := by kernel_rfl
theorem fam0run0 : (List.range 256).all (fun b => AX.memoOk (AX.callS (AX.ctxOf Tryz.prog glob dfd tab0) 90) 297 (fam0z0 b)) = true := by kernel_rfl
theorem fam0run1 : (List.range 256).all (fun b => AX.memoOk (AX.callS (AX.ctxOf Tryz.prog glob dfd tab0) 90) 297 (fam0z1 b)) = true := by kernel_rfl
theorem fam0run2 : (List.range 256).all (fun b => AX.memoOk (AX.callS (AX.ctxOf Tryz.prog glob dfd tab0) 90) 297 (fam0z2 b)) = true := by kernel_rfl
theorem fam0run : (List.range 256).all (fun b => (fam0 b).all (AX.memoOk (AX.callS (AX.ctxOf Tryz.prog glob dfd tab0) 90) 297)) = true :=
  all_more fam0run0 (all_more fam0run1 (all_more fam0run2 (all_none _ _)))
theorem fam0body : ∃ (fn : Func) (c : Code), Tryz.prog.funcs[297]? = some fn ∧ fn.body = some c := ⟨_, _, Tryz.func297, rfl⟩
noncomputable def ftab0 : AX.T (List AX.AV → AX.Hp → Nat → Option (AX.AV × AX.Hp × Nat)) := tab0.set 297 (AX.famA 256 fam0)
theorem ftab0ok : AX.TabOk Tryz.prog glob dfd ftab0 := AX.TabOk.family pOk dfdAll tab0_ok fam0body fam0form fam0run
end Go.Proofs.YtaiajgkhikcafaaGreatDoor
