/- A store of a struct, of one cell, as one operation of a region in an order of one's own. -/
import Derived.Test.YtdjeokgkeejpcaaGreatDoorAx14n
import Derived.Tactics
import Derived.Below
import Derived.OwnWalkIn
namespace Go.Proofs.YtdjeokgkeejpcaaGreatDoor.AX
open Go
theorem writeC_whole : ∀ (xs : List Value) (cs : Array Value), xs.length = cs.size → writeC cs 0 xs = xs.toArray := fun xs cs h => by
  apply Array.ext
  · rw [writeC_size]; simp [h]
  · intro i h1 h2
    have := writeC_get xs cs 0 i (by omega)
    have hi : i < xs.length := by simpa using h2
    rw [if_pos ⟨Nat.zero_le _, by omega⟩] at this
    rw [Array.getElem?_eq_getElem h1, Nat.sub_zero, List.getElem?_eq_getElem hi] at this
    simpa using Option.some.inj this
theorem below_turn {n b : Nat} {w w' : World} (hn : n ≤ b) (hbl : b < w'.heap.size ∨ w.heap.size ≤ b) (h2 : ∀ k, k ≠ b → w'.heap[k]? = w.heap[k]?) (h3 : Same w w') : Go.RowKit.Below n w w' := by
  refine ⟨h3.1, (Prod.mk.inj h3.2).2, (Prod.mk.inj h3.2).1, ?_, fun k hk => h2 k (by omega)⟩
  rcases Nat.lt_or_ge w'.heap.size w.heap.size with hlt | hge
  · exfalso
    have hk := h2 w'.heap.size
    rw [Array.getElem?_eq_none (Nat.le_refl _), Array.getElem?_eq_getElem hlt] at hk
    by_cases e : w'.heap.size = b
    · omega
    · cases hk e
  · exact hge
section
variable {P : Program} {ops : Array Oper} {Q : Exit → Act → World → Prop} {a : Act} {w : World} {rest : List Oper} {t : TypeId} {x y : Operand} {ty : TypeId} {pos : String} {after : Array Edge} {b : Nat} {cs : Array Value} {e : TypeId} {vs : List Value}
theorem wpList_storeBox (hp : a.eval x = .pointer (some ⟨b, 0, none⟩)) (hy : a.eval y = .agg vs.toArray) (hsz : sizeT P t = some vs.length) (hb : w.heap[b]? = some (.cells cs e (0, 0))) (hle : cs.size = vs.length) (hone : vs.all Value.oneCell' = true)
    (h : ∀ w', w'.heap[b]? = some (.cells vs.toArray e (0, 0)) → (∀ k, k ≠ b → w'.heap[k]? = w.heap[k]?) → Same w w' → wpList P ops Q rest a w') :
    wpList P ops Q ({ dst := none, op := .store t x y, type := ty, pos := pos, after := after, guard := none } :: rest) a w := by
  obtain ⟨w', e1, e2, e3, e4⟩ := run_storeCells (P := P) (o := 0) vs 0 cs w hb (by omega) (fun j _ => by omega) (fun v hv => List.all_eq_true.1 hone v hv)
  refine wpList_plain rfl fun K hK => ?_
  have hr : (execOp a.eval { dst := none, op := .store t x y, type := ty, pos := pos, after := after, guard := none }).run P w = .ok .skip w' := by
    have hne : ¬ (vs.toArray.size ≠ vs.length) := by simp
    simp only [execOp, hp, hy, Instr.storeAt, Instr.sureAddr, Sem.run_bind, Sem.run_pure, Result.andThen_ok, storeVar, Value.cells, run_sizeOf hsz, if_neg hne]
    rw [e1]
    rfl
  unfold Oper.wp
  rw [hr]
  refine hK _ _ (h w' ?_ e3 e4)
  rw [e2, Nat.add_zero, writeC_whole vs cs hle.symm]
theorem cells_one {v : Value} (h : v.oneCell' = true) : v.cells = #[v] := by
  cases v <;> first | rfl | cases h
theorem wpList_storeCell {o : Nat} {v : Value} (hp : a.eval x = .pointer (some ⟨b, o, none⟩)) (hy : a.eval y = v) (hv : v.oneCell' = true) (hsz : sizeT P t = some 1) (hb : w.heap[b]? = some (.cells cs e (0, 0))) (ho : o < cs.size)
    (h : ∀ w', w'.heap[b]? = some (.cells (cs.setIfInBounds o v) e (0, 0)) → (∀ k, k ≠ b → w'.heap[k]? = w.heap[k]?) → Same w w' → wpList P ops Q rest a w') :
    wpList P ops Q ({ dst := none, op := .store t x y, type := ty, pos := pos, after := after, guard := none } :: rest) a w := by
  obtain ⟨w', e1, e2, e3, e4⟩ := run_storeCells (P := P) (o := o) [v] 0 cs w hb (by simp only [List.length_singleton]; omega) (fun j _ => by omega) (fun u hu => by rw [List.mem_singleton.1 hu]; exact hv)
  refine wpList_plain rfl fun K hK => ?_
  have hr : (execOp a.eval { dst := none, op := .store t x y, type := ty, pos := pos, after := after, guard := none }).run P w = .ok .skip w' := by
    have hne : ¬ (#[v].size ≠ 1) := by simp
    simp only [execOp, hp, hy, Instr.storeAt, Instr.sureAddr, Sem.run_bind, Sem.run_pure, Result.andThen_ok, storeVar, cells_one hv, run_sizeOf hsz, if_neg hne]
    rw [e1]
    rfl
  unfold Oper.wp
  rw [hr]
  exact hK _ _ (h w' e2 e3 e4)
end
end Go.Proofs.YtdjeokgkeejpcaaGreatDoor.AX

namespace Go.Proofs.YtdjeokgkeejpcaaGreatDoor.AX
open Go
section
variable {F : Fence} {m : Nat} {P : Program} {ops : Array Oper} {Q : Exit → Act → World → Prop} {a : Act} {w : World} {rest : List Oper} {t : TypeId} {x y : Operand} {ty : TypeId} {pos : String} {after : Array Edge} {b : Nat} {cs : Array Value} {e : TypeId} {vs : List Value}
theorem wpListIn_storeBox (hp : a.eval x = .pointer (some ⟨b, 0, none⟩)) (hy : a.eval y = .agg vs.toArray) (hsz : sizeT P t = some vs.length) (hb : w.heap[b]? = some (.cells cs e (0, 0))) (hle : cs.size = vs.length) (hone : vs.all Value.oneCell' = true)
    (h : ∀ w', w'.heap[b]? = some (.cells vs.toArray e (0, 0)) → (∀ k, k ≠ b → w'.heap[k]? = w.heap[k]?) → Same w w' → wpListIn F m P ops Q rest a w') :
    wpListIn F m P ops Q ({ dst := none, op := .store t x y, type := ty, pos := pos, after := after, guard := none } :: rest) a w := by
  obtain ⟨w', e1, e2, e3, e4⟩ := run_storeCells (P := P) (o := 0) vs 0 cs w hb (by omega) (fun j _ => by omega) (fun v hv => List.all_eq_true.1 hone v hv)
  refine wpListIn_plain rfl fun K hK => ?_
  have hr : (execOp a.eval { dst := none, op := .store t x y, type := ty, pos := pos, after := after, guard := none }).run P w = .ok .skip w' := by
    have hne : ¬ (vs.toArray.size ≠ vs.length) := by simp
    simp only [execOp, hp, hy, Instr.storeAt, Instr.sureAddr, Sem.run_bind, Sem.run_pure, Result.andThen_ok, storeVar, Value.cells, run_sizeOf hsz, if_neg hne]
    rw [e1]
    rfl
  unfold Oper.wpIn
  refine ⟨fun f hf => (by cases hf), ?_⟩
  rw [Oper.semAt_plain F _ _ (fun c hc => by cases hc), hr]
  refine hK _ _ (h w' ?_ e3 e4)
  rw [e2, Nat.add_zero, writeC_whole vs cs hle.symm]
theorem wpListIn_storeCell {o : Nat} {v : Value} (hp : a.eval x = .pointer (some ⟨b, o, none⟩)) (hy : a.eval y = v) (hv : v.oneCell' = true) (hsz : sizeT P t = some 1) (hb : w.heap[b]? = some (.cells cs e (0, 0))) (ho : o < cs.size)
    (h : ∀ w', w'.heap[b]? = some (.cells (cs.setIfInBounds o v) e (0, 0)) → (∀ k, k ≠ b → w'.heap[k]? = w.heap[k]?) → Same w w' → wpListIn F m P ops Q rest a w') :
    wpListIn F m P ops Q ({ dst := none, op := .store t x y, type := ty, pos := pos, after := after, guard := none } :: rest) a w := by
  obtain ⟨w', e1, e2, e3, e4⟩ := run_storeCells (P := P) (o := o) [v] 0 cs w hb (by simp only [List.length_singleton]; omega) (fun j _ => by omega) (fun u hu => by rw [List.mem_singleton.1 hu]; exact hv)
  refine wpListIn_plain rfl fun K hK => ?_
  have hr : (execOp a.eval { dst := none, op := .store t x y, type := ty, pos := pos, after := after, guard := none }).run P w = .ok .skip w' := by
    have hne : ¬ (#[v].size ≠ 1) := by simp
    simp only [execOp, hp, hy, Instr.storeAt, Instr.sureAddr, Sem.run_bind, Sem.run_pure, Result.andThen_ok, storeVar, cells_one hv, run_sizeOf hsz, if_neg hne]
    rw [e1]
    rfl
  unfold Oper.wpIn
  refine ⟨fun f hf => (by cases hf), ?_⟩
  rw [Oper.semAt_plain F _ _ (fun c hc => by cases hc), hr]
  exact hK _ _ (h w' e2 e3 e4)
end
end Go.Proofs.YtdjeokgkeejpcaaGreatDoor.AX

namespace Go.Proofs.YtdjeokgkeejpcaaGreatDoor.AX
open Go
section
variable {P : Program} {ops : Array Oper} {Q : Exit → Act → World → Prop} {a : Act} {w : World} {rest : List Oper} {t : TypeId} {x y : Operand} {ty : TypeId} {pos : String} {after : Array Edge} {b : Nat} {cs : Array Value} {e : TypeId} {vs : List Value}
theorem wpList_storeAt {o : Nat} (hp : a.eval x = .pointer (some ⟨b, o, none⟩)) (hy : a.eval y = .agg vs.toArray) (hsz : sizeT P t = some vs.length) (hb : w.heap[b]? = some (.cells cs e (0, 0))) (hle : o + vs.length ≤ cs.size) (hone : vs.all Value.oneCell' = true)
    (h : ∀ w', w'.heap[b]? = some (.cells (writeC cs o vs) e (0, 0)) → (∀ k, k ≠ b → w'.heap[k]? = w.heap[k]?) → Same w w' → wpList P ops Q rest a w') :
    wpList P ops Q ({ dst := none, op := .store t x y, type := ty, pos := pos, after := after, guard := none } :: rest) a w := by
  obtain ⟨w', e1, e2, e3, e4⟩ := run_storeCells (P := P) (o := o) vs 0 cs w hb (by omega) (fun j _ => by omega) (fun v hv => List.all_eq_true.1 hone v hv)
  refine wpList_plain rfl fun K hK => ?_
  have hr : (execOp a.eval { dst := none, op := .store t x y, type := ty, pos := pos, after := after, guard := none }).run P w = .ok .skip w' := by
    have hne : ¬ (vs.toArray.size ≠ vs.length) := by simp
    simp only [execOp, hp, hy, Instr.storeAt, Instr.sureAddr, Sem.run_bind, Sem.run_pure, Result.andThen_ok, storeVar, Value.cells, run_sizeOf hsz, if_neg hne]
    rw [e1]
    rfl
  unfold Oper.wp
  rw [hr]
  exact hK _ _ (h w' (by rw [e2, Nat.add_zero]) e3 e4)
end
end Go.Proofs.YtdjeokgkeejpcaaGreatDoor.AX

namespace Go.Proofs.YtdjeokgkeejpcaaGreatDoor.AX
open Go
section
variable {P : Program} {Q : Exit → Act → World → Prop} {K : Act → World → Prop} {a : Act} {w : World} {t : TypeId} {x y : Operand} {ty : TypeId} {pos : String} {after : Array Edge} {b : Nat} {cs : Array Value} {e : TypeId} {vs : List Value}
theorem oper_storeAt {o : Nat} (hp : a.eval x = .pointer (some ⟨b, o, none⟩)) (hy : a.eval y = .agg vs.toArray) (hsz : sizeT P t = some vs.length) (hb : w.heap[b]? = some (.cells cs e (0, 0))) (hle : o + vs.length ≤ cs.size) (hone : vs.all Value.oneCell' = true)
    (h : ∀ w', w'.heap[b]? = some (.cells (writeC cs o vs) e (0, 0)) → (∀ k, k ≠ b → w'.heap[k]? = w.heap[k]?) → Same w w' → K a w') :
    Oper.wp P { dst := none, op := .store t x y, type := ty, pos := pos, after := after, guard := none } a w K Q := by
  obtain ⟨w', e1, e2, e3, e4⟩ := run_storeCells (P := P) (o := o) vs 0 cs w hb (by omega) (fun j _ => by omega) (fun v hv => List.all_eq_true.1 hone v hv)
  have hr : (execOp a.eval { dst := none, op := .store t x y, type := ty, pos := pos, after := after, guard := none }).run P w = .ok .skip w' := by
    have hne : ¬ (vs.toArray.size ≠ vs.length) := by simp
    simp only [execOp, hp, hy, Instr.storeAt, Instr.sureAddr, Sem.run_bind, Sem.run_pure, Result.andThen_ok, storeVar, Value.cells, run_sizeOf hsz, if_neg hne]
    rw [e1]
    rfl
  unfold Oper.wp
  rw [hr]
  exact h w' (by rw [e2, Nat.add_zero]) e3 e4
theorem oper_storeBox (hp : a.eval x = .pointer (some ⟨b, 0, none⟩)) (hy : a.eval y = .agg vs.toArray) (hsz : sizeT P t = some vs.length) (hb : w.heap[b]? = some (.cells cs e (0, 0))) (hle : cs.size = vs.length) (hone : vs.all Value.oneCell' = true)
    (h : ∀ w', w'.heap[b]? = some (.cells vs.toArray e (0, 0)) → (∀ k, k ≠ b → w'.heap[k]? = w.heap[k]?) → Same w w' → K a w') :
    Oper.wp P { dst := none, op := .store t x y, type := ty, pos := pos, after := after, guard := none } a w K Q :=
  oper_storeAt hp hy hsz hb (by omega) hone fun w' h1 h2 h3 => h w' (by rw [h1, writeC_whole vs cs hle.symm]) h2 h3
theorem oper_storeCell {o : Nat} {v : Value} (hp : a.eval x = .pointer (some ⟨b, o, none⟩)) (hy : a.eval y = v) (hv : v.oneCell' = true) (hsz : sizeT P t = some 1) (hb : w.heap[b]? = some (.cells cs e (0, 0))) (ho : o < cs.size)
    (h : ∀ w', w'.heap[b]? = some (.cells (cs.setIfInBounds o v) e (0, 0)) → (∀ k, k ≠ b → w'.heap[k]? = w.heap[k]?) → Same w w' → K a w') :
    Oper.wp P { dst := none, op := .store t x y, type := ty, pos := pos, after := after, guard := none } a w K Q := by
  obtain ⟨w', e1, e2, e3, e4⟩ := run_storeCells (P := P) (o := o) [v] 0 cs w hb (by simp only [List.length_singleton]; omega) (fun j _ => by omega) (fun u hu => by rw [List.mem_singleton.1 hu]; exact hv)
  have hr : (execOp a.eval { dst := none, op := .store t x y, type := ty, pos := pos, after := after, guard := none }).run P w = .ok .skip w' := by
    have hne : ¬ (#[v].size ≠ 1) := by simp
    simp only [execOp, hp, hy, Instr.storeAt, Instr.sureAddr, Sem.run_bind, Sem.run_pure, Result.andThen_ok, storeVar, cells_one hv, run_sizeOf hsz, if_neg hne]
    rw [e1]
    rfl
  unfold Oper.wp
  rw [hr]
  exact h w' (by rw [e2]; rfl) e3 e4
end
end Go.Proofs.YtdjeokgkeejpcaaGreatDoor.AX
