/- A region that draws, walked by a tree of orders, under a fence that bars nothing; it ends normally. -/
import Derived.BigQuiet
import Derived.Below
import Derived.Deep.QuietTactic
import Derived.OrdersIn
import Derived.RangeFuncCalls
namespace Go.Proofs.YtdjeokgkeejpcaaGreatDoor.AX
open Go

/-- Builtins that answer with a value. -/
def quietB (b : Builtin) : Bool :=
  match b with
  | .len | .cap | .min | .max => true
  | _ => false
def plainB (o : Op) : Bool :=
  match o with
  | .call c => match c.callee with
    | .builtin b => quietB b
    | _ => false
  | .nilCheck _ | .move _ | .assign _ | .pick .. | .load .. | .binOp .. | .unOp .. | .convert .. | .build .. | .fieldAddr .. | .field .. | .indexAddr .. | .index .. | .extract .. | .slice .. => true
  | _ => false
theorem run_val {P : Program} {s : Sem Value} {w w' : World} {n : Next} (h : (do let x ← s; pure (Next.value x) : Sem Next).run P w = .ok n w') : ∃ u, n = .value u := by
  simp only [Sem.run_bind] at h
  cases hs : s.run P w with
  | ok x w1 => rw [hs] at h; simp at h; exact ⟨_, h.1.symm⟩
  | halt x w1 => rw [hs] at h; simp at h
theorem plain_val {P : Program} {ρ : Operand → Value} {o : Oper} {w w' : World} {n : Next} (hp : plainB o.op = true) (h : (execOp ρ o).run P w = .ok n w') : ∃ u, n = .value u := by
  obtain ⟨dst, op, type, pos, after, guard⟩ := o
  cases op <;> simp only [plainB, Bool.false_eq_true] at hp <;> simp only [execOp] at h
  case nilCheck x =>
    generalize ρ x = v at h
    repeat' split at h
    all_goals first
      | exact run_val h
      | (simp at h; exact ⟨_, h.1.symm⟩)
      | (simp [runtimePanic, goPanic] at h; done)
      | skip
    all_goals
      simp only [Sem.run_bind] at h
      unfold Result.andThen at h
      split at h
      · dsimp only at h
        split at h
        · split at h
          · simp [unsupported] at h
          · simp at h; exact ⟨_, h.1.symm⟩
        · cases h
      · cases h
  case move => simp at h; exact ⟨_, h.1.symm⟩
  case assign => simp at h; exact ⟨_, h.1.symm⟩
  case call c =>
    obtain ⟨callee, args, ats⟩ := c
    cases callee <;> simp only [Bool.false_eq_true] at hp
    rename_i b
    cases b <;> simp only [quietB, Bool.false_eq_true] at hp
    all_goals exact run_val (by simpa [resolve, invoke, builtin] using h)
  case pick => exact run_val (s := do pure (if ← asBool _ then _ else _)) (by simpa using h)
  all_goals exact run_val h

section
variable {P : Program} {ops : Array Oper} {md : Region.Mode} {C : World → Prop} {Q : Exit → Act → World → Prop}

/-- In every world of the class the operation yields v, and leaves the world alone. -/
def YieldsC (P : Program) (ops : Array Oper) (C : World → Prop) (o : Oper) (v : Value) (a : Act) : Prop :=
  (Region.wanted o (yielded ops a.tmps) = true ∧ ∀ w, C w → (execOp a.eval o).run P w = .ok (.value v) w) ∨ (Region.wanted o (yielded ops a.tmps) = false ∧ v = undef)
theorem yieldsC_of {o : Oper} {v : Value} {a : Act} (hp : plainB o.op = true) (h : YieldsIn P ops C o v a) : YieldsC P ops C o v a := by
  rcases h with ⟨h1, h2⟩ | h
  · refine .inl ⟨h1, fun w hw => ?_⟩
    have h3 := h2 w hw
    unfold Oper.quietAt at h3
    cases hr : (execOp a.eval o).run P w with
    | ok n w' =>
      obtain ⟨u, rfl⟩ := plain_val hp hr
      rw [hr] at h3
      obtain ⟨rfl, rfl⟩ := h3
      rfl
    | halt x w' => rw [hr] at h3; exact h3.elim
  · exact .inr h
theorem YieldsC.at {i : Nat} {o : Oper} {v : Value} {a : Act} (hi : ops[i]? = some o) (hy : YieldsC P ops C o v a) {K : Act → World → Prop} {w : World} (hw : C w) (h : K (a.put o.dst v) w) : wpOp P ops Q i K a w := by
  unfold wpOp
  simp only [hi]
  rcases hy with ⟨h1, h2⟩ | ⟨h1, rfl⟩
  · rw [if_pos h1]
    refine .inl ?_
    unfold Oper.wp
    rw [h2 w hw]
    exact h
  · rw [if_neg (by rw [h1]; decide)]
    exact h

/-- Whatever order is picked, and every world on the way is of the class. -/
def wpAnyC (P : Program) (md : Region.Mode) (ops : Array Oper) (C : World → Prop) (Q : Exit → Act → World → Prop) : Nat → Array Bool → Act → World → Prop
  | 0, listed, a, w => Region.ready md ops listed = [] ∧ Q .normal a w
  | fuel + 1, listed, a, w => (Region.ready md ops listed = [] → Q .normal a w) ∧
    ∀ i ∈ Region.ready md ops listed, wpOp P ops Q i (fun a' w' => C w' ∧ wpAnyC P md ops C Q fuel (listed.setIfInBounds i true) a' w') a w
theorem wpAny_of_C : ∀ (fuel : Nat) (listed : Array Bool) (a : Act) (w : World), wpAnyC P md ops C Q fuel listed a w → wpAny P md ops Q fuel listed a w
  | 0, _, _, _, h => h
  | fuel + 1, _, _, _, h => ⟨h.1, fun i hi => wpOp_mono (fun a' w' h' => wpAny_of_C fuel _ a' w' h'.2) (h.2 i hi)⟩

/-- What an operation makes of a frame: its slot is set, something may be deferred. -/
def Made1 (d : Option Tmp) (a a' : Act) : Prop := ∃ ds u, a' = ({ a with defers := ds } : Act).put d u
theorem Oper.wp_put {oj : Oper} {a : Act} {w : World} {K : Act → World → Prop} {d : Option Tmp} {v : Value} (he : execOp (a.put d v).eval oj = execOp a.eval oj) (hd : ∀ t, d = some t → oj.dst ≠ some t)
    (hQ : ∀ c a w, Q (.panic c) (a.put d v) w → Q (.panic c) a w) (h : oj.wp P (a.put d v) w K Q) : oj.wp P a w (fun a' w' => Made1 oj.dst a a' ∧ K (a'.put d v) w') Q := by
  have two : ∀ (u : Value) (w' : World), K ((a.put d v).put oj.dst u) w' → Made1 oj.dst a (a.put oj.dst u) ∧ K ((a.put oj.dst u).put d v) w' := fun u w' hk =>
    ⟨⟨a.defers, u, rfl⟩, by rw [← Act.put_comm a v u hd]; exact hk⟩
  unfold Oper.wp at h ⊢
  rw [he] at h
  cases hr : (execOp a.eval oj).run P w with
  | halt x w' =>
    rw [hr] at h
    cases x <;> simp only [Oper.upon] at h ⊢
    exact hQ _ _ _ h
  | ok n w' =>
    rw [hr] at h
    cases n <;> simp only [Oper.upon] at h ⊢
    case value u => exact two u w' h
    case skip => exact two _ w' h
    case enter f args =>
      refine Calls.mono h fun e w2 hk => ?_
      cases e with
      | returned u => exact two u w2 hk
      | panicked c => exact hQ _ _ _ hk
      | outgrown => exact hk
    case row row args => exact Rows.mono h fun u w2 hk => two u w2 hk
    case defer x =>
      refine ⟨⟨x :: a.defers, undef, rfl⟩, ?_⟩
      rw [← Act.put_comm _ v undef hd, ← Act.put_defers]
      exact h
theorem made_eval {oj oi : Oper} {a a' : Act} (h : Made1 oj.dst a a') (hs : ∀ cs b, oi.op ≠ .select cs b) (hap : ∀ d, oj.dst = some d → d ∉ oi.looksAt ops) :
    execOp a'.eval oi = execOp a.eval oi ∧ Region.wanted oi (yielded ops a'.tmps) = Region.wanted oi (yielded ops a.tmps) := by
  obtain ⟨ds, u, rfl⟩ := h
  refine ⟨(execOp_put oi hs { a with defers := ds } oj.dst u hap).trans ?_, (wanted_put oi { a with defers := ds } oj.dst u hap).trans rfl⟩
  rfl
theorem wpOp_putC {j : Nat} {oi oj : Oper} {v : Value} (hj : ops[j]? = some oj) (hap : oi.apart ops oj = true) (hsi : ∀ cs b, oi.op ≠ .select cs b) (hsj : ∀ cs b, oj.op ≠ .select cs b)
    (hQ : ∀ c a w, Q (.panic c) (a.put oi.dst v) w → Q (.panic c) a w) {K : Act → World → Prop} {a : Act} {w : World} (hy : YieldsC P ops C oi v a) (h : wpOp P ops Q j K (a.put oi.dst v) w) :
    wpOp P ops Q j (fun a' w' => YieldsC P ops C oi v a' ∧ K (a'.put oi.dst v) w') a w := by
  obtain ⟨h1, h2, h3⟩ := Oper.apart_spec hap
  have keep : ∀ a', Made1 oj.dst a a' → YieldsC P ops C oi v a' := fun a' hm => by
    obtain ⟨e1, e2⟩ := made_eval hm hsi h3
    unfold YieldsC
    rw [e1, e2]
    exact hy
  unfold wpOp at h ⊢
  simp only [hj] at h ⊢
  rw [wanted_put oj a oi.dst v h1] at h
  by_cases hw : Region.wanted oj (yielded ops a.tmps) = true
  · rw [if_pos hw] at h ⊢
    rcases h with h | ⟨h4, h5⟩
    · exact .inl (Oper.wp_mono (fun a' w' hk => ⟨keep a' hk.1, hk.2⟩) (Oper.wp_put (execOp_put oj hsj a oi.dst v h1) h2 hQ h))
    · refine .inr ⟨?_, h5⟩
      unfold Oper.asks at h4 ⊢
      rw [execOp_put oj hsj a oi.dst v h1] at h4
      exact h4
  · rw [if_neg hw] at h ⊢
    refine ⟨keep _ ⟨a.defers, _, rfl⟩, ?_⟩
    rw [← Act.put_comm a v undef h2]
    exact h
/-- A plain operation that may come up now may be taken first. -/
theorem wpAnyC_first {i : Nat} {oi : Oper} {v : Value} (hi : ops[i]? = some oi) (hsel : ∀ (j : Nat) (o : Oper) cs b, ops[j]? = some o → o.op ≠ .select cs b)
    (hQ : ∀ c a w, Q (.panic c) (a.put oi.dst v) w → Q (.panic c) a w) : ∀ (fuel : Nat) (listed : Array Bool) (a : Act) (w : World), C w →
      (∀ j oj, ops[j]? = some oj → j ≠ i → listed.getD j true = false → (∀ e ∈ oj.after, Region.binds md e = true → e.on ≠ i) → oi.apart ops oj = true) →
      i ∈ Region.ready md ops listed → YieldsC P ops C oi v a → wpAnyC P md ops C Q fuel (listed.setIfInBounds i true) (a.put oi.dst v) w → wpAnyC P md ops C Q (fuel + 1) listed a w
  | 0, listed, a, w, hC, _, hr, hy, H => by
    refine ⟨(fun h => by rw [h] at hr; cases hr), fun j hj => ?_⟩
    by_cases hji : j = i
    · subst hji; exact hy.at hi hC ⟨hC, H⟩
    · have := ready_mono hj hji
      rw [H.1] at this
      cases this
  | fuel + 1, listed, a, w, hC, hfree, hr, hy, H => by
    refine ⟨(fun h => by rw [h] at hr; cases hr), fun j hj => ?_⟩
    by_cases hji : j = i
    · subst hji; exact hy.at hi hC ⟨hC, H⟩
    · obtain ⟨hun, oj, hoj, hall⟩ := mem_ready.1 hj
      have hno : ∀ e ∈ oj.after, Region.binds md e = true → e.on ≠ i := fun e he hb e1 => by
        have g1 := hall e he hb
        have g0 := (mem_ready.1 hr).1
        rw [e1] at g1
        rcases Nat.lt_or_ge i listed.size with h' | h'
        · simp [h'] at g0 g1; rw [g0] at g1; cases g1
        · simp [Array.getElem?_eq_none h'] at g1
      refine wpOp_mono (fun a' w' h3 => ⟨h3.2.1, wpAnyC_first hi hsel hQ fuel (listed.setIfInBounds j true) a' w' h3.2.1 (fun k ok hk hki hunk hnk => hfree k ok hk hki ?_ hnk) (ready_mono hr (Ne.symm hji)) h3.1 ?_⟩)
        (wpOp_putC hoj (hfree j oj hoj hji hun hno) (fun cs b => hsel i oi cs b hi) (fun cs b => hsel j oj cs b hoj) hQ hy (H.2 j (ready_mono hj hji)))
      · by_cases hjk : j = k
        · subst hjk; exact hun
        · rw [getD_set_ne true hjk] at hunk; exact hunk
      · rw [Array.setIfInBounds_comm _ _ hji]
        exact h3.2.2

/-- A row of operations in an order of one's own ('true': a call), walked. -/
def wpMix (P : Program) (l : List Oper) (C : World → Prop) (Q : Exit → Act → World → Prop) : List (Nat × Bool) → Act → World → Prop
  | [], a, w => Q .normal a w
  | (i, false) :: r, a, w => ∃ o, l[i]? = some o ∧ wpQuiet P l.toArray C (fun a' => wpMix P l C Q r a' w) [o] a
  | (i, true) :: r, a, w => wpOp P l.toArray Q i (fun a' w' => C w' ∧ wpMix P l C Q r a' w') a w
/-- Is the order fit? Plain operations as they may come up; at a call nothing else may. -/
def mixB (ops : Array Oper) : List (Nat × Bool) → Array Bool → Bool
  | [], listed => (Region.ready .any ops listed).isEmpty
  | (i, false) :: r, listed => (match ops[i]? with | some o => plainB o.op | none => false) && (Region.ready .any ops listed).contains i && Region.free .any ops listed i && mixB ops r (listed.setIfInBounds i true)
  | (i, true) :: r, listed => (Region.ready .any ops listed == [i]) && mixB ops r (listed.setIfInBounds i true)
theorem mix_sound {l : List Oper} (hs : Region.noSelect l.toArray = true) (hQ : ∀ c a d v w, Q (.panic c) (Act.put a d v) w → Q (.panic c) a w) : ∀ (r : List (Nat × Bool)) (listed : Array Bool) (a : Act) (w : World), C w → mixB l.toArray r listed = true →
    wpMix P l C Q r a w → wpAnyC P .any l.toArray C Q r.length listed a w
  | [], listed, a, w, _, hB, h => ⟨by simpa [mixB] using hB, h⟩
  | (i, false) :: r, listed, a, w, hC, hB, h => by
    obtain ⟨o, ho, h⟩ := h
    have ho' : l.toArray[i]? = some o := by simpa using ho
    simp only [mixB, ho', Bool.and_eq_true] at hB
    obtain ⟨⟨⟨hp, hr⟩, hf⟩, hB⟩ := hB
    have hq : qOp P l.toArray C i (fun a' => wpMix P l C Q r a' w) a := by unfold qOp; simp only [ho']; exact h
    obtain ⟨v, hy, hK⟩ := yieldsIn_of_qOp ho' hq
    exact wpAnyC_first ho' (Region.noSelect_spec hs) (fun c a w => hQ c a _ _ w) r.length listed a w hC (Region.free_spec ho' hf) (by simpa using hr) (yieldsC_of hp hy) (mix_sound hs hQ r _ _ w hC hB hK)
  | (i, true) :: r, listed, a, w, hC, hB, h => by
    simp only [mixB, Bool.and_eq_true, beq_iff_eq] at hB
    obtain ⟨hr, hB⟩ := hB
    refine ⟨(fun h0 => by rw [hr] at h0; cases h0), fun j hj => ?_⟩
    rw [hr] at hj
    obtain rfl := List.mem_singleton.1 hj
    exact wpOp_mono (fun a' w' hk => ⟨hk.1, mix_sound hs hQ r _ a' w' hk.1 hB hk.2⟩) h
/-- A region that draws its order, walked in an order of one's own. -/
theorem region_mix {id : Nat} {a : Act} {w : World} {l : List Oper} (r : List (Nat × Bool)) (hm : P.follows .mixedOrders = true) (hB : (Region.noSelect l.toArray && mixB l.toArray r (Array.replicate l.length false) && r.length == l.length) = true)
    (hQ : ∀ c a d v w, Q (.panic c) (Act.put a d v) w → Q (.panic c) a w) (hC : C w.drew) (h : wpMix P l C Q r a w.drew) : (Code.region id l.toArray true).wp P Q a w := by
  simp only [Bool.and_eq_true, beq_iff_eq] at hB
  obtain ⟨⟨h1, h2⟩, h3⟩ := hB
  refine wp_region_any hm ?_
  have := wpAny_of_C _ _ _ _ (mix_sound (P := P) (C := C) (Q := Q) h1 hQ r _ a w.drew hC h2 h)
  rw [h3] at this
  simpa using this
theorem mix_plain {l : List Oper} {i : Nat} {r : List (Nat × Bool)} {a : Act} {w : World} (o : Oper) (ho : l[i]? = some o) (h : wpQuiet P l.toArray C (fun a' => wpMix P l C Q r a' w) [o] a) : wpMix P l C Q ((i, false) :: r) a w := ⟨o, ho, h⟩
theorem mix_call {l : List Oper} {i : Nat} {r : List (Nat × Bool)} {a : Act} {w : World} {o : Oper} {f : FuncId} {fn : Func} {c : Code} {xs : Array Operand} {ts : Array TypeId} (ho : l[i]? = some o)
    (hop : o.op = .call { callee := .value (.func f), args := xs, argTypes := ts }) (hw : Region.wanted o (yielded l.toArray a.tmps) = true) (hf : P.funcs[f]? = some fn) (hn : (fn.name == "runtime.NumGoroutine") = false) (hb : fn.body = some c)
    (h : Calls P f (xs.map a.eval) w fun e w' => ∃ v, e = .returned v ∧ C w' ∧ wpMix P l C Q r (a.put o.dst v) w') : wpMix P l C Q ((i, true) :: r) a w := by
  unfold wpMix wpOp
  have ho' : l.toArray[i]? = some o := by simpa using ho
  simp only [ho', hw, if_true]
  refine .inl ?_
  have hrun : (execOp a.eval o).run P w = .ok (.enter f (xs.map a.eval)) w := by
    have h1 : fn.name ≠ "runtime.NumGoroutine" := by simpa using hn
    simp [execOp, hop, resolve, invoke, Act.eval, callFunc, Deferred.ofValue, hf, h1, hb]
  unfold Oper.wp
  rw [hrun]
  refine Calls.mono h fun e w2 hk => ?_
  obtain ⟨v, rfl, h1, h2⟩ := hk
  exact ⟨h1, h2⟩
theorem mix_call2 {l : List Oper} {i : Nat} {r : List (Nat × Bool)} {a : Act} {w : World} {o : Oper} {f : FuncId} {fn : Func} {c : Code} {xs : Array Operand} {ts : Array TypeId} {vs : Array Value} {R : Ending → World → Prop} (h : Calls P f vs w R) (ho : l[i]? = some o)
    (hop : o.op = .call { callee := .value (.func f), args := xs, argTypes := ts }) (hw : Region.wanted o (yielded l.toArray a.tmps) = true) (hf : P.funcs[f]? = some fn) (hn : (fn.name == "runtime.NumGoroutine") = false) (hb : fn.body = some c) (hx : xs.map a.eval = vs)
    (hR : ∀ e w', R e w' → ∃ v, e = .returned v ∧ C w' ∧ wpMix P l C Q r (a.put o.dst v) w') : wpMix P l C Q ((i, true) :: r) a w :=
  mix_call ho hop hw hf hn hb (hx ▸ h.mono hR)
end
end Go.Proofs.YtdjeokgkeejpcaaGreatDoor.AX

namespace Go.Proofs.YtdjeokgkeejpcaaGreatDoor.AX
open Go

def bitsOf (l : List Nat) : Nat := l.foldl (fun m t => m ||| 2 ^ t) 0
theorem bitsOf_go (k : Nat) : ∀ (l : List Nat) (m : Nat), (l.foldl (fun m t => m ||| 2 ^ t) m).testBit k = (m.testBit k || decide (k ∈ l))
  | [], m => by simp
  | t :: l, m => by
    rw [List.foldl_cons, bitsOf_go k l, Nat.testBit_or, Nat.testBit_two_pow]
    by_cases e : t = k
    · subst e; simp
    · have : ¬ k = t := fun h => e h.symm
      simp [e, this]
theorem bitsOf_bit (l : List Nat) (k : Nat) : (bitsOf l).testBit k = decide (k ∈ l) := by unfold bitsOf; rw [bitsOf_go]; simp
def depsOf (o : Oper) : List Nat := (o.after.toList.filter fun e => Region.binds .any e).map (·.on)
def dstOf (o : Oper) : List Nat := o.dst.toList
/-- What must be before it, its slot, what it looks at; whether it is plain. -/
structure Inf where
  dep : Nat
  dst : Nat
  look : Nat
  plain : Bool
def infOf (ops : Array Oper) (o : Oper) : Inf := ⟨bitsOf (depsOf o), bitsOf (dstOf o), bitsOf (o.looksAt ops), plainB o.op⟩
def infos (l : List Oper) : List Inf := l.map (infOf l.toArray)
def apartF (x y : Inf) : Bool := Nat.beq (Nat.land x.dst (Nat.lor y.look y.dst)) 0 && Nat.beq (Nat.land y.dst x.look) 0
def freeF (i : Nat) (x : Inf) (mask : Nat) : List Inf → Nat → Bool
  | [], _ => true
  | y :: L, j => (Nat.beq j i || (Nat.testBit mask j || (Nat.testBit y.dep i || apartF x y))) && freeF i x mask L (j + 1)
def onlyF (i : Nat) (mask : Nat) : List Inf → Nat → Bool
  | [], _ => true
  | y :: L, j => (Nat.beq j i || (Nat.testBit mask j || !(Nat.beq (Nat.land y.dep mask) y.dep))) && onlyF i mask L (j + 1)
def mixF (L : List Inf) : List (Nat × Bool) → Nat → Bool
  | [], mask => Nat.beq mask (2 ^ L.length - 1)
  | (i, b) :: r, mask => match L[i]? with
    | none => false
    | some x => (!(Nat.testBit mask i) && Nat.beq (Nat.land x.dep mask) x.dep) && ((match b with | true => onlyF i mask L 0 | false => x.plain && freeF i x mask L 0) && mixF L r (Nat.lor mask (2 ^ i)))

theorem freeF_spec {i : Nat} {x : Inf} {mask : Nat} : ∀ (L : List Inf) (k : Nat), freeF i x mask L k = true → ∀ j y, L[j]? = some y → k + j = i ∨ mask.testBit (k + j) = true ∨ y.dep.testBit i = true ∨ apartF x y = true
  | [], _, _, j, y, hj => by simp at hj
  | z :: L, k, h, 0, y, hj => by
    simp only [freeF, Bool.and_eq_true, Bool.or_eq_true, Nat.beq_eq] at h
    obtain rfl : z = y := by simpa using hj
    simpa using h.1
  | z :: L, k, h, j + 1, y, hj => by
    simp only [freeF, Bool.and_eq_true] at h
    have := freeF_spec L (k + 1) h.2 j y (by simpa using hj)
    rwa [show k + 1 + j = k + (j + 1) by omega] at this
theorem onlyF_spec {i : Nat} {mask : Nat} : ∀ (L : List Inf) (k : Nat), onlyF i mask L k = true → ∀ j y, L[j]? = some y → k + j = i ∨ mask.testBit (k + j) = true ∨ Nat.land y.dep mask ≠ y.dep
  | [], _, _, j, y, hj => by simp at hj
  | z :: L, k, h, 0, y, hj => by
    simp only [onlyF, Bool.and_eq_true, Bool.or_eq_true, Nat.beq_eq, Bool.not_eq_true'] at h
    obtain rfl : z = y := by simpa using hj
    rcases h.1 with h1 | h1 | h1
    · exact .inl (by simpa using h1)
    · exact .inr (.inl (by simpa using h1))
    · exact .inr (.inr fun e => by rw [e] at h1; simp at h1)
  | z :: L, k, h, j + 1, y, hj => by
    simp only [onlyF, Bool.and_eq_true] at h
    have := onlyF_spec L (k + 1) h.2 j y (by simpa using hj)
    rwa [show k + 1 + j = k + (j + 1) by omega] at this
theorem land_zero_bit {a b : Nat} (h : Nat.land a b = 0) {k : Nat} (ha : a.testBit k = true) : b.testBit k = false := by
  have : (a &&& b).testBit k = false := by rw [show a &&& b = Nat.land a b from rfl, h]; simp
  rw [Nat.testBit_and, ha] at this
  simpa using this
theorem apart_of_F {ops : Array Oper} {x y : Oper} (h : apartF (infOf ops x) (infOf ops y) = true) : x.apart ops y = true := by
  simp only [apartF, Bool.and_eq_true, Nat.beq_eq, infOf] at h
  obtain ⟨h1, h2⟩ := h
  unfold Oper.apart
  rw [Bool.and_eq_true]
  constructor
  · cases hd : x.dst with
    | none => rfl
    | some d =>
      have hb : (bitsOf (dstOf x)).testBit d = true := by rw [bitsOf_bit]; simp [dstOf, hd]
      have := land_zero_bit h1 hb
      rw [show Nat.lor (bitsOf (y.looksAt ops)) (bitsOf (dstOf y)) = bitsOf (y.looksAt ops) ||| bitsOf (dstOf y) from rfl, Nat.testBit_or, Bool.or_eq_false_iff, bitsOf_bit, bitsOf_bit] at this
      obtain ⟨g1, g2⟩ := this
      simp only [Bool.and_eq_true, Bool.not_eq_true', bne_iff_ne, ne_eq]
      refine ⟨by simpa using g1, fun e => ?_⟩
      rw [decide_eq_false_iff_not] at g2
      exact g2 (by simp [dstOf, e])
  · cases hd : y.dst with
    | none => rfl
    | some d =>
      have hb : (bitsOf (dstOf y)).testBit d = true := by rw [bitsOf_bit]; simp [dstOf, hd]
      have := land_zero_bit h2 hb
      rw [bitsOf_bit] at this
      simpa using this
theorem land_sub {a m : Nat} (h : Nat.land a m = a) {k : Nat} (ha : a.testBit k = true) : m.testBit k = true := by
  have : (a &&& m).testBit k = true := by rw [show a &&& m = Nat.land a m from rfl, h]; exact ha
  rw [Nat.testBit_and] at this
  simp at this
  exact this.2
theorem sub_land {a m : Nat} (h : ∀ k, a.testBit k = true → m.testBit k = true) : Nat.land a m = a := by
  show a &&& m = a
  apply Nat.eq_of_testBit_eq
  intro k
  rw [Nat.testBit_and]
  cases ha : a.testBit k with
  | false => rfl
  | true => rw [h k ha]; rfl
/-- The listed ones as bits. -/
structure Lst (n : Nat) (listed : Array Bool) (mask : Nat) : Prop where
  size : listed.size = n
  bit : ∀ j, j < n → listed[j]? = some (mask.testBit j)
  lt : ∀ j, mask.testBit j = true → j < n
theorem Lst.start (n : Nat) : Lst n (Array.replicate n false) 0 := ⟨by simp, fun j hj => by simp [hj], fun j h => by simp at h⟩
theorem Lst.set {n : Nat} {listed : Array Bool} {mask i : Nat} (h : Lst n listed mask) (hi : i < n) : Lst n (listed.setIfInBounds i true) (Nat.lor mask (2 ^ i)) := by
  have hb : ∀ j, (Nat.lor mask (2 ^ i)).testBit j = (mask.testBit j || decide (i = j)) := fun j => by
    show (mask ||| 2 ^ i).testBit j = _
    rw [Nat.testBit_or, Nat.testBit_two_pow]
  refine ⟨by simp [h.size], fun j hj => ?_, fun j hj => ?_⟩
  · rw [hb, Array.getElem?_setIfInBounds]
    by_cases e : i = j
    · subst e; simp [h.size, hi]
    · simp [e, h.bit j hj]
  · rw [hb] at hj
    simp at hj
    rcases hj with hj | rfl
    · exact h.lt j hj
    · exact hi

section
variable {P : Program} {C : World → Prop} {Q : Exit → Act → World → Prop}
theorem dep_bit {o : Oper} {k : Nat} : (bitsOf (depsOf o)).testBit k = true ↔ ∃ e ∈ o.after, Region.binds .any e = true ∧ e.on = k := by
  rw [bitsOf_bit]
  simp [depsOf, and_assoc]
theorem mixF_sound {l : List Oper} (hs : Region.noSelect l.toArray = true) (hQ : ∀ c a d v w, Q (.panic c) (Act.put a d v) w → Q (.panic c) a w) : ∀ (r : List (Nat × Bool)) (listed : Array Bool) (mask : Nat) (a : Act) (w : World), C w → Lst l.length listed mask →
    mixF (infos l) r mask = true → wpMix P l C Q r a w → wpAnyC P .any l.toArray C Q r.length listed a w
  | [], listed, mask, a, w, _, hl, hB, h => by
    simp only [mixF, Nat.beq_eq] at hB
    refine ⟨?_, h⟩
    rw [List.eq_nil_iff_forall_not_mem]
    intro j hj
    obtain ⟨h0, o, ho, _⟩ := mem_ready.1 hj
    have hjl : j < l.length := by have := (Array.getElem?_eq_some_iff.1 ho).1; simpa using this
    have hb := hl.bit j hjl
    rw [hB] at hb
    have : (2 ^ (infos l).length - 1).testBit j = true := by rw [Nat.testBit_two_pow_sub_one]; simp [infos, hjl]
    rw [this] at hb
    rw [Array.getD_eq_getD_getElem?, hb] at h0
    cases h0
  | (i, b) :: r, listed, mask, a, w, hC, hl, hB, h => by
    simp only [mixF] at hB
    cases hx : (infos l)[i]? with
    | none => rw [hx] at hB; cases hB
    | some x =>
      rw [hx] at hB
      simp only [Bool.and_eq_true, Bool.not_eq_true', Nat.beq_eq] at hB
      obtain ⟨⟨hun, hdep⟩, hk, hB⟩ := hB
      have hil : i < l.length := by
        have := (List.getElem?_eq_some_iff.1 hx).1
        simpa [infos] using this
      have ho : l[i]? = some l[i] := List.getElem?_eq_getElem hil
      have hxe : x = infOf l.toArray l[i] := by
        simp only [infos, List.getElem?_map, ho, Option.map_some, Option.some.injEq] at hx
        exact hx.symm
      have ho' : l.toArray[i]? = some l[i] := by simp
      have hgl : ∀ k, mask.testBit k = true → listed.getD k false = true := fun k hk => by
        rw [Array.getD_eq_getD_getElem?, hl.bit k (hl.lt k hk), hk]; rfl
      have hready : i ∈ Region.ready .any l.toArray listed := mem_ready.2 ⟨by rw [Array.getD_eq_getD_getElem?, hl.bit i hil, hun]; rfl, l[i], ho', fun e he hb => hgl _ (by
        rw [hxe] at hdep
        exact land_sub hdep (dep_bit.2 ⟨e, he, hb, rfl⟩))⟩
      have hset := hl.set hil
      cases b with
      | false =>
        simp only [Bool.and_eq_true] at hk
        obtain ⟨hp, hf⟩ := hk
        obtain ⟨o, ho2, h⟩ := h
        obtain rfl : l[i] = o := by rw [ho] at ho2; exact Option.some.inj ho2
        have hq : qOp P l.toArray C i (fun a' => wpMix P l C Q r a' w) a := by unfold qOp; simp only [ho']; exact h
        obtain ⟨v, hy, hK⟩ := yieldsIn_of_qOp ho' hq
        refine wpAnyC_first ho' (Region.noSelect_spec hs) (fun c a w => hQ c a _ _ w) r.length listed a w hC (fun j oj hj hji hjun hno => ?_) hready (yieldsC_of (by rw [hxe] at hp; exact hp) hy) (mixF_sound hs hQ r _ _ _ w hC hset hB hK)
        have hjl : j < l.length := by have := (Array.getElem?_eq_some_iff.1 hj).1; simpa using this
        have hje : (infos l)[j]? = some (infOf l.toArray oj) := by
          have : l[j]? = some oj := by simpa using hj
          simp [infos, this]
        rcases freeF_spec _ 0 hf j _ hje with h1 | h1 | h1 | h1
        · omega
        · rw [Nat.zero_add] at h1
          rw [Array.getD_eq_getD_getElem?, hl.bit j hjl, h1] at hjun
          cases hjun
        · obtain ⟨e, he, hb, hon⟩ := dep_bit.1 h1
          exact absurd hon (hno e he hb)
        · rw [hxe] at h1; exact apart_of_F h1
      | true =>
        refine ⟨(fun h0 => by rw [h0] at hready; cases hready), fun j hj => ?_⟩
        obtain ⟨hj0, oj, hoj, hjd⟩ := mem_ready.1 hj
        have hjl : j < l.length := by have := (Array.getElem?_eq_some_iff.1 hoj).1; simpa using this
        have hje : (infos l)[j]? = some (infOf l.toArray oj) := by
          have : l[j]? = some oj := by simpa using hoj
          simp [infos, this]
        have hji : j = i := by
          rcases onlyF_spec _ 0 hk j _ hje with h1 | h1 | h1
          · omega
          · rw [Nat.zero_add] at h1
            rw [Array.getD_eq_getD_getElem?, hl.bit j hjl, h1] at hj0
            cases hj0
          · refine (h1 (sub_land fun k hk2 => ?_)).elim
            obtain ⟨e, he, hb, rfl⟩ := dep_bit.1 hk2
            have h2 := hjd e he hb
            cases hm : mask.testBit e.on with
            | true => rfl
            | false =>
              rcases Nat.lt_or_ge e.on l.length with h3 | h3
              · rw [Array.getD_eq_getD_getElem?, hl.bit _ h3, hm] at h2; cases h2
              · rw [Array.getD_eq_getD_getElem?, Array.getElem?_eq_none (by rw [hl.size]; exact h3)] at h2; cases h2
        subst hji
        exact wpOp_mono (fun a' w' hk => ⟨hk.1, mixF_sound hs hQ r _ _ a' w' hk.1 hset hB hk.2⟩) h
theorem region_mixF {id : Nat} {a : Act} {w : World} {l : List Oper} (r : List (Nat × Bool)) (L : List Inf) (hm : P.follows .mixedOrders = true) (hs : Region.noSelect l.toArray = true) (hL : infos l = L) (hlen : r.length = l.length) (hB : mixF L r 0 = true)
    (hQ : ∀ c a d v w, Q (.panic c) (Act.put a d v) w → Q (.panic c) a w) (hC : C w.drew) (h : wpMix P l C Q r a w.drew) : (Code.region id l.toArray true).wp P Q a w := by
  refine wp_region_any hm ?_
  have := wpAny_of_C _ _ _ _ (mixF_sound (P := P) (C := C) (Q := Q) hs hQ r _ 0 a w.drew hC (Lst.start _) (hL ▸ hB) h)
  rw [hlen] at this
  simpa using this
/-- Another operation: nothing else may come up. -/
theorem mix_op {l : List Oper} {i : Nat} {r : List (Nat × Bool)} {a : Act} {w : World} (o : Oper) (ho : l[i]? = some o) (hw : Region.wanted o (yielded l.toArray a.tmps) = true) (h : Oper.wp P o a w (fun a' w' => C w' ∧ wpMix P l C Q r a' w') Q) : wpMix P l C Q ((i, true) :: r) a w := by
  unfold wpMix wpOp
  have ho' : l.toArray[i]? = some o := by simpa using ho
  simp only [ho', hw, if_true]
  exact .inl h
/-- A world of a class. -/
structure CW (C : World → Prop) where
  W : World
  h : C W
end
end Go.Proofs.YtdjeokgkeejpcaaGreatDoor.AX

namespace Go.Proofs.YtdjeokgkeejpcaaGreatDoor.AX
open Go Go.RowKit
/-- A world that is w below w's end. -/
structure BW (w : World) where
  W : World
  h : Below w.heap.size w W
instance (w : World) : Inhabited (BW w) := ⟨⟨w, Below.refl _ w⟩⟩
theorem region_below {P : Program} {id : Nat} {Q : Exit → Act → World → Prop} {a : Act} {w : World} {l : List Oper} (hm : P.follows .mixedOrders = true) (hB : Region.lexB .any l.toArray = true)
    (h : wpQuiet P l.toArray (fun w' => ∃ p : BW w, w' = p.W) (fun a' => ∀ w', (∃ p : BW w, w' = p.W) → Q .normal a' w') l a) : (Code.region id l.toArray true).wp P Q a w :=
  wp_region_quiet (C := fun w' => ∃ p : BW w, w' = p.W) hm hB ⟨⟨w.drew, (Below.refl _ w).drew⟩, rfl⟩ (by simpa using h)
theorem below_of {P : Program} {f : FuncId} {args : Array Value} {w : World} {p : BW w} {v : Value}
    (h : Calls P f args p.W fun e w' => e = .returned v ∧ Below p.W.heap.size p.W w') : Calls P f args p.W fun e w'' => e = .returned v ∧ ∃ q : BW w, w'' = q.W :=
  h.mono fun _ w' ⟨he, hb⟩ => ⟨he, ⟨w', p.h.trans (hb.mono p.h.size)⟩, rfl⟩
theorem cell_all {w : World} {b o : Nat} {v : Value} (h : w.cell? ⟨b, o, none⟩ = some v) (hb : b < w.heap.size) : ∀ p : BW w, p.W.cell? ⟨b, o, none⟩ = some v := fun p => (p.h.cell (p := ⟨b, o, none⟩) hb).trans h
theorem bcell {W w1 : World} (hb : Below W.heap.size W w1) : (∀ b o, b < W.heap.size → w1.cell? ⟨b, o, none⟩ = W.cell? ⟨b, o, none⟩) ∧ (∀ b o, b < W.heap.size → w1.frozen? ⟨b, o, none⟩ = W.frozen? ⟨b, o, none⟩) :=
  ⟨fun b o h => hb.cell (p := ⟨b, o, none⟩) h, fun b o h => hb.frozen (p := ⟨b, o, none⟩) h⟩
end Go.Proofs.YtdjeokgkeejpcaaGreatDoor.AX

namespace Go.Proofs.YtdjeokgkeejpcaaGreatDoor.AX
open Go Go.RowKit
section
variable {P : Program} {Q : Exit → Act → World → Prop} {n : Nat} {F : Fence} {ro : Option Nat}
theorem rows_round (hF : F = { Fence.wide with round := ro }) {row : String} {args : Array Value} {w : World} {R : Value → World → Prop} (h : Rows P row args w R) : RowsIn F n P row args w R := by
  subst hF
  exact fun c cs _ => let ⟨v, w', r, s⟩ := h c cs; ⟨v, w', r, stepsIn_wide.2 s⟩
theorem calls_round (hF : F = { Fence.wide with round := ro }) {f : FuncId} {args : Array Value} {w : World} {R : Ending → World → Prop} (h : Calls P f args w R) : CallsIn F n P f args w R := by
  subst hF
  exact (callsIn_wide (n := n)).2 h
theorem oper_round (hF : F = { Fence.wide with round := ro }) {o : Oper} {a : Act} {w : World} {K : Act → World → Prop} (hd : ∀ c, o.op ≠ .defer c) (h : o.wp P a w K Q) : o.wpIn F n P a w K Q := by
  refine ⟨fun _ _ => by rw [hF]; trivial, ?_⟩
  rw [Oper.semAt_eq _ _ _ hd]
  unfold Oper.wp at h
  generalize (execOp a.eval o).run P w = r at *
  cases r with
  | ok x w' =>
    cases x <;> simp only [Oper.upon, Oper.uponIn] at h ⊢ <;>
      first
        | exact h
        | exact ⟨fun e => (by rw [hF] at e; simp [Fence.wide] at e), calls_round hF h⟩
        | exact ⟨fun e => (by rw [hF] at e; simp [Fence.wide] at e), rows_round hF h⟩
  | halt x w' => cases x <;> simp only [Oper.upon, Oper.uponIn] at h ⊢ <;> exact h
theorem any_round (hF : F = { Fence.wide with round := ro }) {ops : Array Oper} {md : Region.Mode} (hd : ∀ (i : Nat) (o : Oper) c, ops[i]? = some o → o.op ≠ .defer c) (hLO : ¬ LetsOut Q) : ∀ (fuel : Nat) (listed : Array Bool) (a : Act) (w : World),
    wpAny P md ops Q fuel listed a w → wpAnyIn F n P md ops Q fuel listed a w
  | 0, _, _, _, h => h
  | fuel + 1, listed, a, w, h => ⟨h.1, fun i hi => by
    have h1 := h.2 i hi
    unfold wpOp at h1
    unfold wpOpIn
    cases ho : ops[i]? with
    | none => simp only [ho] at h1 ⊢; exact any_round hF hd hLO fuel _ _ _ h1
    | some o =>
      simp only [ho] at h1 ⊢
      split
      · rename_i hw
        rw [if_pos hw] at h1
        rcases h1 with h1 | h1
        · exact Oper.wpIn_mono (fun a' w' hk => any_round hF hd hLO fuel _ a' w' hk) (oper_round hF (hd i o · ho) h1)
        · exact (hLO h1.2).elim
      · rename_i hw
        rw [if_neg hw] at h1
        exact ⟨fun _ _ => by rw [hF]; trivial, any_round hF hd hLO fuel _ _ _ h1⟩⟩
def notDefer (o : Op) : Bool := match o with | .defer _ => false | _ => true
def noDefer (l : List Oper) : Bool := l.all fun o => notDefer o.op
theorem noDefer_spec {l : List Oper} (h : noDefer l = true) (i : Nat) (o : Oper) (c : Call) (ho : l[i]? = some o) : o.op ≠ .defer c := fun e => by
  have h1 := List.all_eq_true.1 h o (List.mem_of_getElem? ho)
  rw [e] at h1
  exact absurd h1 (by simp [notDefer])
theorem region_mixF_in {C : World → Prop} {id : Nat} {a : Act} {w : World} {l : List Oper} (r : List (Nat × Bool)) (L : List Inf) (hm : P.follows .mixedOrders = true) (hs : Region.noSelect l.toArray = true) (hnd : noDefer l = true) (hL : infos l = L) (hlen : r.length = l.length) (hB : mixF L r 0 = true)
    (hF : F = { Fence.wide with round := ro }) (hLO : ¬ LetsOut Q) (hQ : ∀ c a d v w, Q (.panic c) (Act.put a d v) w → Q (.panic c) a w) (hC : C w.drew) (h : wpMix P l C Q r a w.drew) : (Code.region id l.toArray true).wpIn F n P Q a w := by
  refine wpIn_region_any hm ?_
  have := any_round (n := n) hF (fun i o c ho => noDefer_spec hnd i o c (by simpa using ho)) hLO _ _ _ _ (wpAny_of_C _ _ _ _ (mixF_sound (P := P) (C := C) (Q := Q) hs hQ r _ 0 a w.drew hC (Lst.start _) (hL ▸ hB) h))
  rw [hlen] at this
  simpa using this
/-- The same, whatever comes behind: the region ends normally. -/
theorem region_mixN {C : World → Prop} {id : Nat} {a : Act} {w : World} {l : List Oper} (r : List (Nat × Bool)) (L : List Inf) (hm : P.follows .mixedOrders = true) (hs : Region.noSelect l.toArray = true) (hnd : noDefer l = true) (hL : infos l = L) (hlen : r.length = l.length) (hB : mixF L r 0 = true)
    (hF : F = { Fence.wide with round := ro }) (hC : C w.drew) (h : wpMix P l C (fun e a' w' => e = .normal ∧ Q .normal a' w') r a w.drew) : (Code.region id l.toArray true).wpIn F n P Q a w := by
  refine Code.wpIn_mono (Q := fun e a' w' => e = .normal ∧ Q .normal a' w') ?_ (region_mixF_in (ro := ro) r L hm hs hnd hL hlen hB hF ?_ ?_ hC h)
  · rintro e a' w' ⟨rfl, h⟩
    exact h
  · rintro ⟨a, w, h, _⟩
    cases h
  · rintro c a d v w ⟨h, _⟩
    cases h
end
end Go.Proofs.YtdjeokgkeejpcaaGreatDoor.AX

namespace Go.Proofs.YtdjeokgkeejpcaaGreatDoor.AX
open Go
inductive Plan
  | nil
  | plain (i : Nat) (r : Plan)
  | one (i : Nat) (r : Plan)
  | two (i : Nat) (r : Plan) (j : Nat) (s : Plan)
  | three (i : Nat) (r : Plan) (j : Nat) (s : Plan) (k : Nat) (t : Plan)
def onlyS (is : List Nat) (mask : Nat) : List Inf → Nat → Bool
  | [], _ => true
  | y :: L, j => (is.any (Nat.beq j) || (Nat.testBit mask j || !(Nat.beq (Nat.land y.dep mask) y.dep))) && onlyS is mask L (j + 1)
def upF (L : List Inf) (i mask : Nat) : Bool := match L[i]? with
  | none => false
  | some x => !(Nat.testBit mask i) && Nat.beq (Nat.land x.dep mask) x.dep
def planF (L : List Inf) : Plan → Nat → Nat → Bool
  | .nil, mask, n => Nat.beq mask (2 ^ L.length - 1) && Nat.beq n 0
  | .plain i r, mask, n => match L[i]?, n with
    | some x, n + 1 => upF L i mask && (x.plain && freeF i x mask L 0 && planF L r (Nat.lor mask (2 ^ i)) n)
    | _, _ => false
  | .one i r, mask, n => match n with
    | n + 1 => upF L i mask && (onlyS [i] mask L 0 && planF L r (Nat.lor mask (2 ^ i)) n)
    | _ => false
  | .two i r j s, mask, n => match n with
    | n + 1 => upF L i mask && upF L j mask && (onlyS [i, j] mask L 0 && (planF L r (Nat.lor mask (2 ^ i)) n && planF L s (Nat.lor mask (2 ^ j)) n))
    | _ => false
  | .three i r j s k t, mask, n => match n with
    | n + 1 => upF L i mask && upF L j mask && upF L k mask && (onlyS [i, j, k] mask L 0 && (planF L r (Nat.lor mask (2 ^ i)) n && (planF L s (Nat.lor mask (2 ^ j)) n && planF L t (Nat.lor mask (2 ^ k)) n)))
    | _ => false
theorem onlyS_spec {is : List Nat} {mask : Nat} : ∀ (L : List Inf) (k : Nat), onlyS is mask L k = true → ∀ j y, L[j]? = some y → k + j ∈ is ∨ mask.testBit (k + j) = true ∨ Nat.land y.dep mask ≠ y.dep
  | [], _, _, j, y, hj => by simp at hj
  | z :: L, k, h, 0, y, hj => by
    simp only [onlyS, Bool.and_eq_true, Bool.or_eq_true, Bool.not_eq_true', List.any_eq_true] at h
    obtain rfl : z = y := by simpa using hj
    rcases h.1 with ⟨x, h1, h2⟩ | h1 | h1
    · exact .inl (by rw [Nat.beq_eq] at h2; rw [Nat.add_zero, h2]; exact h1)
    · exact .inr (.inl (by simpa using h1))
    · exact .inr (.inr fun e => by rw [e] at h1; simp at h1)
  | z :: L, k, h, j + 1, y, hj => by
    simp only [onlyS, Bool.and_eq_true] at h
    have := onlyS_spec L (k + 1) h.2 j y (by simpa using hj)
    rwa [show k + 1 + j = k + (j + 1) by omega] at this
section
variable {P : Program} {C : World → Prop} {Q : Exit → Act → World → Prop}
def wpTree (P : Program) (l : List Oper) (C : World → Prop) (Q : Exit → Act → World → Prop) : Plan → Act → World → Prop
  | .nil, a, w => Q .normal a w
  | .plain i r, a, w => ∃ o, l[i]? = some o ∧ wpQuiet P l.toArray C (fun a' => wpTree P l C Q r a' w) [o] a
  | .one i r, a, w => wpOp P l.toArray Q i (fun a' w' => C w' ∧ wpTree P l C Q r a' w') a w
  | .two i r j s, a, w => wpOp P l.toArray Q i (fun a' w' => C w' ∧ wpTree P l C Q r a' w') a w ∧ wpOp P l.toArray Q j (fun a' w' => C w' ∧ wpTree P l C Q s a' w') a w
  | .three i r j s k t, a, w => wpOp P l.toArray Q i (fun a' w' => C w' ∧ wpTree P l C Q r a' w') a w ∧ wpOp P l.toArray Q j (fun a' w' => C w' ∧ wpTree P l C Q s a' w') a w ∧ wpOp P l.toArray Q k (fun a' w' => C w' ∧ wpTree P l C Q t a' w') a w
theorem up_spec {l : List Oper} {i mask : Nat} {listed : Array Bool} (hl : Lst l.length listed mask) (h : upF (infos l) i mask = true) : i < l.length ∧ i ∈ Region.ready .any l.toArray listed := by
  unfold upF at h
  cases hx : (infos l)[i]? with
  | none => rw [hx] at h; cases h
  | some x =>
    rw [hx] at h
    simp only [Bool.and_eq_true, Bool.not_eq_true', Nat.beq_eq] at h
    obtain ⟨hun, hdep⟩ := h
    have hil : i < l.length := by
      have := (List.getElem?_eq_some_iff.1 hx).1
      simpa [infos] using this
    have ho : l[i]? = some l[i] := List.getElem?_eq_getElem hil
    have hxe : x = infOf l.toArray l[i] := by
      simp only [infos, List.getElem?_map, ho, Option.map_some, Option.some.injEq] at hx
      exact hx.symm
    have ho' : l.toArray[i]? = some l[i] := by simp
    have hgl : ∀ k, mask.testBit k = true → listed.getD k false = true := fun k hk => by
      rw [Array.getD_eq_getD_getElem?, hl.bit k (hl.lt k hk), hk]; rfl
    exact ⟨hil, mem_ready.2 ⟨by rw [Array.getD_eq_getD_getElem?, hl.bit i hil, hun]; rfl, l[i], ho', fun e he hb => hgl _ (by
      rw [hxe] at hdep
      exact land_sub hdep (dep_bit.2 ⟨e, he, hb, rfl⟩))⟩⟩
theorem only_mem {l : List Oper} {is : List Nat} {mask : Nat} {listed : Array Bool} (hl : Lst l.length listed mask) (hk : onlyS is mask (infos l) 0 = true) {j : Nat} (hj : j ∈ Region.ready .any l.toArray listed) : j ∈ is := by
  obtain ⟨hj0, oj, hoj, hjd⟩ := mem_ready.1 hj
  have hjl : j < l.length := by have := (Array.getElem?_eq_some_iff.1 hoj).1; simpa using this
  have hje : (infos l)[j]? = some (infOf l.toArray oj) := by
    have : l[j]? = some oj := by simpa using hoj
    simp [infos, this]
  rcases onlyS_spec _ 0 hk j _ hje with h1 | h1 | h1
  · rwa [Nat.zero_add] at h1
  · rw [Nat.zero_add] at h1
    rw [Array.getD_eq_getD_getElem?, hl.bit j hjl, h1] at hj0
    cases hj0
  · refine (h1 (sub_land fun k hk2 => ?_)).elim
    obtain ⟨e, he, hb, rfl⟩ := dep_bit.1 hk2
    have h2 := hjd e he hb
    cases hm : mask.testBit e.on with
    | true => rfl
    | false =>
      rcases Nat.lt_or_ge e.on l.length with h3 | h3
      · rw [Array.getD_eq_getD_getElem?, hl.bit _ h3, hm] at h2; cases h2
      · rw [Array.getD_eq_getD_getElem?, Array.getElem?_eq_none (by rw [hl.size]; exact h3)] at h2; cases h2
theorem tree_sound {l : List Oper} (hs : Region.noSelect l.toArray = true) (hQ : ∀ c a d v w, Q (.panic c) (Act.put a d v) w → Q (.panic c) a w) : ∀ (r : Plan) (n : Nat) (listed : Array Bool) (mask : Nat) (a : Act) (w : World), C w → Lst l.length listed mask →
    planF (infos l) r mask n = true → wpTree P l C Q r a w → wpAnyC P .any l.toArray C Q n listed a w
  | .nil, n, listed, mask, a, w, _, hl, hB, h => by
    simp only [planF, Nat.beq_eq, Bool.and_eq_true] at hB
    obtain ⟨hB, rfl⟩ := hB
    refine ⟨?_, h⟩
    rw [List.eq_nil_iff_forall_not_mem]
    intro j hj
    obtain ⟨h0, o, ho, _⟩ := mem_ready.1 hj
    have hjl : j < l.length := by have := (Array.getElem?_eq_some_iff.1 ho).1; simpa using this
    have hb := hl.bit j hjl
    rw [hB] at hb
    have : (2 ^ (infos l).length - 1).testBit j = true := by rw [Nat.testBit_two_pow_sub_one]; simp [infos, hjl]
    rw [this] at hb
    rw [Array.getD_eq_getD_getElem?, hb] at h0
    cases h0
  | .plain i r, n, listed, mask, a, w, hC, hl, hB, h => by
    unfold planF at hB
    cases hx : (infos l)[i]? with
    | none => rw [hx] at hB; cases hB
    | some x =>
      rw [hx] at hB
      cases n with
      | zero => cases hB
      | succ n =>
        simp only [Bool.and_eq_true] at hB
        obtain ⟨hu, ⟨hp, hf⟩, hB⟩ := hB
        obtain ⟨hil, hready⟩ := up_spec hl hu
        have ho : l[i]? = some l[i] := List.getElem?_eq_getElem hil
        have hxe : x = infOf l.toArray l[i] := by
          simp only [infos, List.getElem?_map, ho, Option.map_some, Option.some.injEq] at hx
          exact hx.symm
        have ho' : l.toArray[i]? = some l[i] := by simp
        obtain ⟨o, ho2, h⟩ := h
        obtain rfl : l[i] = o := by rw [ho] at ho2; exact Option.some.inj ho2
        have hq : qOp P l.toArray C i (fun a' => wpTree P l C Q r a' w) a := by unfold qOp; simp only [ho']; exact h
        obtain ⟨v, hy, hK⟩ := yieldsIn_of_qOp ho' hq
        refine wpAnyC_first ho' (Region.noSelect_spec hs) (fun c a w => hQ c a _ _ w) n listed a w hC (fun j oj hj hji hjun hno => ?_) hready (yieldsC_of (by rw [hxe] at hp; exact hp) hy) (tree_sound hs hQ r n _ _ _ w hC (hl.set hil) hB hK)
        have hjl : j < l.length := by have := (Array.getElem?_eq_some_iff.1 hj).1; simpa using this
        have hje : (infos l)[j]? = some (infOf l.toArray oj) := by
          have : l[j]? = some oj := by simpa using hj
          simp [infos, this]
        rcases freeF_spec _ 0 hf j _ hje with h1 | h1 | h1 | h1
        · omega
        · rw [Nat.zero_add] at h1
          rw [Array.getD_eq_getD_getElem?, hl.bit j hjl, h1] at hjun
          cases hjun
        · obtain ⟨e, he, hb, hon⟩ := dep_bit.1 h1
          exact absurd hon (hno e he hb)
        · rw [hxe] at h1; exact apart_of_F h1
  | .one i r, n, listed, mask, a, w, hC, hl, hB, h => by
    cases n with
    | zero => cases hB
    | succ n =>
      simp only [planF, Bool.and_eq_true] at hB
      obtain ⟨hu, ho, hB⟩ := hB
      obtain ⟨hil, hready⟩ := up_spec hl hu
      refine ⟨(fun h0 => by rw [h0] at hready; cases hready), fun j hj => ?_⟩
      have := only_mem hl ho hj
      simp only [List.mem_cons, List.not_mem_nil, or_false] at this
      subst this
      exact wpOp_mono (fun a' w' hk => ⟨hk.1, tree_sound hs hQ r n _ _ a' w' hk.1 (hl.set hil) hB hk.2⟩) h
  | .two i r j s, n, listed, mask, a, w, hC, hl, hB, h => by
    cases n with
    | zero => cases hB
    | succ n =>
      simp only [planF, Bool.and_eq_true] at hB
      obtain ⟨⟨hu, hv⟩, ho, hB, hB2⟩ := hB
      obtain ⟨hil, hready⟩ := up_spec hl hu
      obtain ⟨hjl, _⟩ := up_spec hl hv
      refine ⟨(fun h0 => by rw [h0] at hready; cases hready), fun x hx => ?_⟩
      have := only_mem hl ho hx
      simp only [List.mem_cons, List.not_mem_nil, or_false] at this
      rcases this with rfl | rfl
      · exact wpOp_mono (fun a' w' hk => ⟨hk.1, tree_sound hs hQ r n _ _ a' w' hk.1 (hl.set hil) hB hk.2⟩) h.1
      · exact wpOp_mono (fun a' w' hk => ⟨hk.1, tree_sound hs hQ s n _ _ a' w' hk.1 (hl.set hjl) hB2 hk.2⟩) h.2
  | .three i r j s k t, n, listed, mask, a, w, hC, hl, hB, h => by
    cases n with
    | zero => cases hB
    | succ n =>
      simp only [planF, Bool.and_eq_true] at hB
      obtain ⟨⟨⟨hu, hv⟩, hz⟩, ho, hB, hB2, hB3⟩ := hB
      obtain ⟨hil, hready⟩ := up_spec hl hu
      obtain ⟨hjl, _⟩ := up_spec hl hv
      obtain ⟨hkl, _⟩ := up_spec hl hz
      refine ⟨(fun h0 => by rw [h0] at hready; cases hready), fun x hx => ?_⟩
      have := only_mem hl ho hx
      simp only [List.mem_cons, List.not_mem_nil, or_false] at this
      rcases this with rfl | rfl | rfl
      · exact wpOp_mono (fun a' w' hk => ⟨hk.1, tree_sound hs hQ r n _ _ a' w' hk.1 (hl.set hil) hB hk.2⟩) h.1
      · exact wpOp_mono (fun a' w' hk => ⟨hk.1, tree_sound hs hQ s n _ _ a' w' hk.1 (hl.set hjl) hB2 hk.2⟩) h.2.1
      · exact wpOp_mono (fun a' w' hk => ⟨hk.1, tree_sound hs hQ t n _ _ a' w' hk.1 (hl.set hkl) hB3 hk.2⟩) h.2.2
theorem region_tree {id : Nat} {a : Act} {w : World} {l : List Oper} (r : Plan) (L : List Inf) (hm : P.follows .mixedOrders = true) (hs : Region.noSelect l.toArray = true) (hL : infos l = L) (hB : planF L r 0 l.length = true)
    (hQ : ∀ c a d v w, Q (.panic c) (Act.put a d v) w → Q (.panic c) a w) (hC : C w.drew) (h : wpTree P l C Q r a w.drew) : (Code.region id l.toArray true).wp P Q a w := by
  refine wp_region_any hm ?_
  have := wpAny_of_C _ _ _ _ (tree_sound (P := P) (C := C) (Q := Q) hs hQ r l.length _ 0 a w.drew hC (Lst.start _) (hL ▸ hB) h)
  simpa using this
theorem tree_plain {l : List Oper} {i : Nat} {r : Plan} {a : Act} {w : World} (o : Oper) (ho : l[i]? = some o) (h : wpQuiet P l.toArray C (fun a' => wpTree P l C Q r a' w) [o] a) : wpTree P l C Q (.plain i r) a w := ⟨o, ho, h⟩
/-- An operation that may come up. -/
theorem tree_op {l : List Oper} {i : Nat} {K : Act → World → Prop} {a : Act} {w : World} (o : Oper) (ho : l[i]? = some o) (hw : Region.wanted o (yielded l.toArray a.tmps) = true) (h : Oper.wp P o a w K Q) : wpOp P l.toArray Q i K a w := by
  unfold wpOp
  have ho' : l.toArray[i]? = some o := by simpa using ho
  simp only [ho', hw, if_true]
  exact .inl h
/-- A call that may come up. -/
theorem tree_call {l : List Oper} {i : Nat} {K : Act → World → Prop} {a : Act} {w : World} {o : Oper} {f : FuncId} {fn : Func} {c : Code} {xs : Array Operand} {ts : Array TypeId} {vs : Array Value} {R : Ending → World → Prop} (h : Calls P f vs w R) (ho : l[i]? = some o)
    (hop : o.op = .call { callee := .value (.func f), args := xs, argTypes := ts }) (hw : Region.wanted o (yielded l.toArray a.tmps) = true) (hf : P.funcs[f]? = some fn) (hn : (fn.name == "runtime.NumGoroutine") = false) (hb : fn.body = some c) (hx : xs.map a.eval = vs)
    (hR : ∀ e w', R e w' → ∃ v, e = .returned v ∧ K (a.put o.dst v) w') : wpOp P l.toArray Q i K a w := by
  refine tree_op o ho hw ?_
  have hrun : (execOp a.eval o).run P w = .ok (.enter f (xs.map a.eval)) w := by
    have h1 : fn.name ≠ "runtime.NumGoroutine" := by simpa using hn
    simp [execOp, hop, resolve, invoke, Act.eval, callFunc, Deferred.ofValue, hf, h1, hb]
  unfold Oper.wp
  rw [hrun]
  refine Calls.mono (hx ▸ h) fun e w2 hk => ?_
  obtain ⟨v, rfl, h1⟩ := hR _ _ hk
  exact h1
end
end Go.Proofs.YtdjeokgkeejpcaaGreatDoor.AX

namespace Go.Proofs.YtdjeokgkeejpcaaGreatDoor.AX
open Go
section
variable {P : Program} {ops : Array Oper} {md : Region.Mode} {C : World → Prop} {Q : Exit → Act → World → Prop} {K : Array Bool → Act → World → Prop} {i0 : Nat}
def wpAnyK (P : Program) (md : Region.Mode) (ops : Array Oper) (C : World → Prop) (Q : Exit → Act → World → Prop) (K : Array Bool → Act → World → Prop) : Nat → Array Bool → Act → World → Prop
  | 0, listed, a, w => K listed a w
  | fuel + 1, listed, a, w => Region.ready md ops listed ≠ [] ∧ ∀ i ∈ Region.ready md ops listed, wpOp P ops Q i (fun a' w' => C w' ∧ wpAnyK P md ops C Q K fuel (listed.setIfInBounds i true) a' w') a w
theorem wpAny_of_K {n : Nat} (hK : ∀ listed a w, K listed a w → wpAny P md ops Q n listed a w) : ∀ (fuel : Nat) (listed : Array Bool) (a : Act) (w : World), wpAnyK P md ops C Q K fuel listed a w → wpAny P md ops Q (fuel + n) listed a w
  | 0, listed, a, w, h => by rw [Nat.zero_add]; exact hK _ _ _ h
  | fuel + 1, listed, a, w, h => by
    rw [show fuel + 1 + n = (fuel + n) + 1 by omega]
    exact ⟨fun e => absurd e h.1, fun i hi => wpOp_mono (fun a' w' h' => wpAny_of_K hK fuel _ a' w' h'.2) (h.2 i hi)⟩
theorem wpAnyK_first {i : Nat} {oi : Oper} {v : Value} (hi : ops[i]? = some oi) (hsel : ∀ (j : Nat) (o : Oper) cs b, ops[j]? = some o → o.op ≠ .select cs b)
    (hQ : ∀ c a w, Q (.panic c) (a.put oi.dst v) w → Q (.panic c) a w) (hK0 : ∀ listed a w, K listed a w → ∀ j ∈ Region.ready md ops listed, j = i0) (hdep : ∀ o0, ops[i0]? = some o0 → ∃ e ∈ o0.after, Region.binds md e = true ∧ e.on = i) : ∀ (fuel : Nat) (listed : Array Bool) (a : Act) (w : World), C w →
      (∀ j oj, ops[j]? = some oj → j ≠ i → listed.getD j true = false → (∀ e ∈ oj.after, Region.binds md e = true → e.on ≠ i) → oi.apart ops oj = true) →
      i ∈ Region.ready md ops listed → YieldsC P ops C oi v a → wpAnyK P md ops C Q K fuel (listed.setIfInBounds i true) (a.put oi.dst v) w → wpAnyK P md ops C Q K (fuel + 1) listed a w
  | 0, listed, a, w, hC, _, hr, hy, H => by
    refine ⟨(fun h => by rw [h] at hr; cases hr), fun j hj => ?_⟩
    by_cases hji : j = i
    · subst hji; exact hy.at hi hC ⟨hC, H⟩
    · have h1 := ready_mono hj hji
      obtain rfl := hK0 _ _ _ H _ h1
      obtain ⟨hun, oj, hoj, hall⟩ := mem_ready.1 hj
      obtain ⟨e, he, hb, e1⟩ := hdep oj hoj
      have g1 := hall e he hb
      have g0 := (mem_ready.1 hr).1
      rw [e1] at g1
      rcases Nat.lt_or_ge i listed.size with h' | h'
      · simp [h'] at g0 g1; rw [g0] at g1; cases g1
      · simp [Array.getElem?_eq_none h'] at g1
  | fuel + 1, listed, a, w, hC, hfree, hr, hy, H => by
    refine ⟨(fun h => by rw [h] at hr; cases hr), fun j hj => ?_⟩
    by_cases hji : j = i
    · subst hji; exact hy.at hi hC ⟨hC, H⟩
    · obtain ⟨hun, oj, hoj, hall⟩ := mem_ready.1 hj
      have hno : ∀ e ∈ oj.after, Region.binds md e = true → e.on ≠ i := fun e he hb e1 => by
        have g1 := hall e he hb
        have g0 := (mem_ready.1 hr).1
        rw [e1] at g1
        rcases Nat.lt_or_ge i listed.size with h' | h'
        · simp [h'] at g0 g1; rw [g0] at g1; cases g1
        · simp [Array.getElem?_eq_none h'] at g1
      refine wpOp_mono (fun a' w' h3 => ⟨h3.2.1, wpAnyK_first hi hsel hQ hK0 hdep fuel (listed.setIfInBounds j true) a' w' h3.2.1 (fun k ok hk hki hunk hnk => hfree k ok hk hki ?_ hnk) (ready_mono hr (Ne.symm hji)) h3.1 ?_⟩)
        (wpOp_putC hoj (hfree j oj hoj hji hun hno) (fun cs b => hsel i oi cs b hi) (fun cs b => hsel j oj cs b hoj) hQ hy (H.2 j (ready_mono hj hji)))
      · by_cases hjk : j = k
        · subst hjk; exact hun
        · rw [getD_set_ne true hjk] at hunk; exact hunk
      · rw [Array.setIfInBounds_comm _ _ hji]
        exact h3.2.2
end
section
variable {P : Program} {C C2 : World → Prop} {Q : Exit → Act → World → Prop}
/-- The first part, walked; then K. -/
def wpMixK (P : Program) (l : List Oper) (C : World → Prop) (Q : Exit → Act → World → Prop) (K : Act → World → Prop) : List (Nat × Bool) → Act → World → Prop
  | [], a, w => K a w
  | (i, false) :: r, a, w => ∃ o, l[i]? = some o ∧ wpQuiet P l.toArray C (fun a' => wpMixK P l C Q K r a' w) [o] a
  | (i, true) :: r, a, w => wpOp P l.toArray Q i (fun a' w' => C w' ∧ wpMixK P l C Q K r a' w') a w
/-- Does the operation wait for all plain ones of the first part? -/
def waitsB (L : List Inf) (i0 : Nat) (r : List (Nat × Bool)) : Bool := match L[i0]? with
  | none => false
  | some x => r.all fun p => p.2 || Nat.testBit x.dep p.1
theorem only_ready {l : List Oper} {i : Nat} {listed : Array Bool} {mask : Nat} {r : List (Nat × Bool)} (hl : Lst l.length listed mask) (hB : mixF (infos l) ((i, true) :: r) mask = true) : ∀ j ∈ Region.ready .any l.toArray listed, j = i := by
  intro j hj
  simp only [mixF] at hB
  cases hx : (infos l)[i]? with
  | none => rw [hx] at hB; cases hB
  | some x =>
    rw [hx] at hB
    simp only [Bool.and_eq_true, Bool.not_eq_true', Nat.beq_eq] at hB
    obtain ⟨⟨hun, hdep⟩, hk, hB⟩ := hB
    obtain ⟨hj0, oj, hoj, hjd⟩ := mem_ready.1 hj
    have hjl : j < l.length := by have := (Array.getElem?_eq_some_iff.1 hoj).1; simpa using this
    have hje : (infos l)[j]? = some (infOf l.toArray oj) := by
      have : l[j]? = some oj := by simpa using hoj
      simp [infos, this]
    rcases onlyF_spec _ 0 hk j _ hje with h1 | h1 | h1
    · omega
    · rw [Nat.zero_add] at h1
      rw [Array.getD_eq_getD_getElem?, hl.bit j hjl, h1] at hj0
      cases hj0
    · refine (h1 (sub_land fun k hk2 => ?_)).elim
      obtain ⟨e, he, hb, rfl⟩ := dep_bit.1 hk2
      have h2 := hjd e he hb
      cases hm : mask.testBit e.on with
      | true => rfl
      | false =>
        rcases Nat.lt_or_ge e.on l.length with h3 | h3
        · rw [Array.getD_eq_getD_getElem?, hl.bit _ h3, hm] at h2; cases h2
        · rw [Array.getD_eq_getD_getElem?, Array.getElem?_eq_none (by rw [hl.size]; exact h3)] at h2; cases h2
theorem mixK_sound {l : List Oper} {i0 : Nat} {r2 : List (Nat × Bool)} (hs : Region.noSelect l.toArray = true) (hQ : ∀ c a d v w, Q (.panic c) (Act.put a d v) w → Q (.panic c) a w) : ∀ (r : List (Nat × Bool)) (listed : Array Bool) (mask : Nat) (a : Act) (w : World), C w → Lst l.length listed mask →
    mixF (infos l) (r ++ (i0, true) :: r2) mask = true → waitsB (infos l) i0 r = true → wpMixK P l C Q (fun a w => C2 w ∧ wpMix P l C2 Q ((i0, true) :: r2) a w) r a w →
      wpAnyK P .any l.toArray C Q (fun listed a w => ∃ mask, Lst l.length listed mask ∧ mixF (infos l) ((i0, true) :: r2) mask = true ∧ C2 w ∧ wpMix P l C2 Q ((i0, true) :: r2) a w) r.length listed a w
  | [], listed, mask, a, w, _, hl, hB, _, h => ⟨mask, hl, hB, h⟩
  | (i, b) :: r, listed, mask, a, w, hC, hl, hB, hW, h => by
    have hB0 := hB
    simp only [List.cons_append, mixF] at hB
    cases hx : (infos l)[i]? with
    | none => rw [hx] at hB; cases hB
    | some x =>
      rw [hx] at hB
      simp only [Bool.and_eq_true, Bool.not_eq_true', Nat.beq_eq] at hB
      obtain ⟨⟨hun, hdep⟩, hk, hB⟩ := hB
      have hil : i < l.length := by
        have := (List.getElem?_eq_some_iff.1 hx).1
        simpa [infos] using this
      have ho : l[i]? = some l[i] := List.getElem?_eq_getElem hil
      have hxe : x = infOf l.toArray l[i] := by
        simp only [infos, List.getElem?_map, ho, Option.map_some, Option.some.injEq] at hx
        exact hx.symm
      have ho' : l.toArray[i]? = some l[i] := by simp
      have hgl : ∀ k, mask.testBit k = true → listed.getD k false = true := fun k hk => by
        rw [Array.getD_eq_getD_getElem?, hl.bit k (hl.lt k hk), hk]; rfl
      have hready : i ∈ Region.ready .any l.toArray listed := mem_ready.2 ⟨by rw [Array.getD_eq_getD_getElem?, hl.bit i hil, hun]; rfl, l[i], ho', fun e he hb => hgl _ (by
        rw [hxe] at hdep
        exact land_sub hdep (dep_bit.2 ⟨e, he, hb, rfl⟩))⟩
      have hset := hl.set hil
      have hW' : waitsB (infos l) i0 r = true := by
        unfold waitsB at hW ⊢
        cases h0 : (infos l)[i0]? with
        | none => rw [h0] at hW; cases hW
        | some x0 => rw [h0] at hW; simp only [List.all_cons, Bool.and_eq_true] at hW ⊢; exact hW.2
      cases b with
      | false =>
        simp only [Bool.and_eq_true] at hk
        obtain ⟨hp, hf⟩ := hk
        obtain ⟨o, ho2, h⟩ := h
        obtain rfl : l[i] = o := by rw [ho] at ho2; exact Option.some.inj ho2
        have hq : qOp P l.toArray C i (fun a' => wpMixK P l C Q (fun a w => C2 w ∧ wpMix P l C2 Q ((i0, true) :: r2) a w) r a' w) a := by unfold qOp; simp only [ho']; exact h
        obtain ⟨v, hy, hK⟩ := yieldsIn_of_qOp ho' hq
        refine wpAnyK_first (i0 := i0) ho' (Region.noSelect_spec hs) (fun c a w => hQ c a _ _ w) (fun listed a w ⟨m, h1, h2, _⟩ => only_ready h1 h2) (fun o0 h0 => ?_) r.length listed a w hC (fun j oj hj hji hjun hno => ?_) hready (yieldsC_of (by rw [hxe] at hp; exact hp) hy) (mixK_sound hs hQ r _ _ _ w hC hset hB hW' hK)
        · have h0l : l[i0]? = some o0 := by simpa using h0
          have h0i : (infos l)[i0]? = some (infOf l.toArray o0) := by simp [infos, h0l]
          unfold waitsB at hW
          rw [h0i] at hW
          simp only [List.all_cons, Bool.and_eq_true, Bool.false_or] at hW
          exact dep_bit.1 hW.1
        · have hjl : j < l.length := by have := (Array.getElem?_eq_some_iff.1 hj).1; simpa using this
          have hje : (infos l)[j]? = some (infOf l.toArray oj) := by
            have : l[j]? = some oj := by simpa using hj
            simp [infos, this]
          rcases freeF_spec _ 0 hf j _ hje with h1 | h1 | h1 | h1
          · omega
          · rw [Nat.zero_add] at h1
            rw [Array.getD_eq_getD_getElem?, hl.bit j hjl, h1] at hjun
            cases hjun
          · obtain ⟨e, he, hb, hon⟩ := dep_bit.1 h1
            exact absurd hon (hno e he hb)
          · rw [hxe] at h1; exact apart_of_F h1
      | true =>
        refine ⟨(fun h0 => by rw [h0] at hready; cases hready), fun j hj => ?_⟩
        have hji := only_ready hl hB0 j hj
        subst hji
        exact wpOp_mono (fun a' w' hk => ⟨hk.1, mixK_sound hs hQ r _ _ a' w' hk.1 hset hB hW' hk.2⟩) h
/-- A region that draws, in two parts. -/
theorem region_mix2 {id : Nat} {a : Act} {w : World} {l : List Oper} (r : List (Nat × Bool)) (i0 : Nat) (r2 : List (Nat × Bool)) (L : List Inf) (hm : P.follows .mixedOrders = true) (hs : Region.noSelect l.toArray = true) (hL : infos l = L) (hlen : r.length + (r2.length + 1) = l.length) (hB : mixF L (r ++ (i0, true) :: r2) 0 = true) (hW : waitsB L i0 r = true)
    (hQ : ∀ c a d v w, Q (.panic c) (Act.put a d v) w → Q (.panic c) a w) (hC : C w.drew) (h : wpMixK P l C Q (fun a w => C2 w ∧ wpMix P l C2 Q ((i0, true) :: r2) a w) r a w.drew) : (Code.region id l.toArray true).wp P Q a w := by
  refine wp_region_any hm ?_
  have := wpAny_of_K (n := r2.length + 1) (fun listed a w ⟨mask, h1, h2, h3, h4⟩ => wpAny_of_C _ _ _ _ (mixF_sound (P := P) (C := C2) (Q := Q) hs hQ ((i0, true) :: r2) listed mask a w h3 h1 h2 h4)) _ _ _ _ (mixK_sound (P := P) (C := C) (C2 := C2) (Q := Q) hs hQ r _ 0 a w.drew hC (Lst.start _) (hL ▸ hB) (hL ▸ hW) h)
  rw [hlen] at this
  simpa using this
end
section
variable {P : Program} {C : World → Prop} {Q : Exit → Act → World → Prop} {K : Act → World → Prop}
theorem mixK_plain {l : List Oper} {i : Nat} {r : List (Nat × Bool)} {a : Act} {w : World} (o : Oper) (ho : l[i]? = some o) (h : wpQuiet P l.toArray C (fun a' => wpMixK P l C Q K r a' w) [o] a) : wpMixK P l C Q K ((i, false) :: r) a w := ⟨o, ho, h⟩
theorem mixK_call {l : List Oper} {i : Nat} {r : List (Nat × Bool)} {a : Act} {w : World} {o : Oper} {f : FuncId} {fn : Func} {c : Code} {xs : Array Operand} {ts : Array TypeId} (ho : l[i]? = some o)
    (hop : o.op = .call { callee := .value (.func f), args := xs, argTypes := ts }) (hw : Region.wanted o (yielded l.toArray a.tmps) = true) (hf : P.funcs[f]? = some fn) (hn : (fn.name == "runtime.NumGoroutine") = false) (hb : fn.body = some c)
    (h : Calls P f (xs.map a.eval) w fun e w' => ∃ v, e = .returned v ∧ C w' ∧ wpMixK P l C Q K r (a.put o.dst v) w') : wpMixK P l C Q K ((i, true) :: r) a w := by
  unfold wpMixK wpOp
  have ho' : l.toArray[i]? = some o := by simpa using ho
  simp only [ho', hw, if_true]
  refine .inl ?_
  have hrun : (execOp a.eval o).run P w = .ok (.enter f (xs.map a.eval)) w := by
    have h1 : fn.name ≠ "runtime.NumGoroutine" := by simpa using hn
    simp [execOp, hop, resolve, invoke, Act.eval, callFunc, Deferred.ofValue, hf, h1, hb]
  unfold Oper.wp
  rw [hrun]
  refine Calls.mono h fun e w2 hk => ?_
  obtain ⟨v, rfl, h1, h2⟩ := hk
  exact ⟨h1, h2⟩
theorem mixK_call2 {l : List Oper} {i : Nat} {r : List (Nat × Bool)} {a : Act} {w : World} {o : Oper} {f : FuncId} {fn : Func} {c : Code} {xs : Array Operand} {ts : Array TypeId} {vs : Array Value} {R : Ending → World → Prop} (h : Calls P f vs w R) (ho : l[i]? = some o)
    (hop : o.op = .call { callee := .value (.func f), args := xs, argTypes := ts }) (hw : Region.wanted o (yielded l.toArray a.tmps) = true) (hf : P.funcs[f]? = some fn) (hn : (fn.name == "runtime.NumGoroutine") = false) (hb : fn.body = some c) (hx : xs.map a.eval = vs)
    (hR : ∀ e w', R e w' → ∃ v, e = .returned v ∧ C w' ∧ wpMixK P l C Q K r (a.put o.dst v) w') : wpMixK P l C Q K ((i, true) :: r) a w :=
  mixK_call ho hop hw hf hn hb (hx ▸ h.mono hR)
end
section
variable {P : Program} {ops : Array Oper} {md : Region.Mode} {C CT : World → Prop} {Q : Exit → Act → World → Prop} {K : Array Bool → Act → World → Prop}
theorem wpAnyC_of_K {n : Nat} (hC : ∀ w, C w → CT w) (hK : ∀ listed a w, K listed a w → wpAnyC P md ops CT Q n listed a w) : ∀ (fuel : Nat) (listed : Array Bool) (a : Act) (w : World), wpAnyK P md ops C Q K fuel listed a w → wpAnyC P md ops CT Q (fuel + n) listed a w
  | 0, listed, a, w, h => by rw [Nat.zero_add]; exact hK _ _ _ h
  | fuel + 1, listed, a, w, h => by
    rw [show fuel + 1 + n = (fuel + n) + 1 by omega]
    exact ⟨fun e => absurd e h.1, fun i hi => wpOp_mono (fun a' w' h' => ⟨hC _ h'.1, wpAnyC_of_K hC hK fuel _ a' w' h'.2⟩) (h.2 i hi)⟩
theorem pre_sound {l : List Oper} {rest : List (Nat × Bool)} {n : Nat} {Kst : Act → World → Prop} (hs : Region.noSelect l.toArray = true) (hQ : ∀ c a d v w, Q (.panic c) (Act.put a d v) w → Q (.panic c) a w)
    (hrest : ∀ (listed : Array Bool) (mask : Nat) (a : Act) (w : World), Lst l.length listed mask → mixF (infos l) rest mask = true → Kst a w → wpAnyC P .any l.toArray CT Q n listed a w) : ∀ (r : List (Nat × Bool)) (listed : Array Bool) (mask : Nat) (a : Act) (w : World), CT w → Lst l.length listed mask →
    mixF (infos l) (r ++ rest) mask = true → (r.all fun p => !p.2) = true → wpMixK P l CT Q Kst r a w → wpAnyC P .any l.toArray CT Q (r.length + n) listed a w
  | [], listed, mask, a, w, _, hl, hB, _, h => by rw [List.length_nil, Nat.zero_add]; exact hrest _ _ _ _ hl hB h
  | (i, true) :: r, listed, mask, a, w, hC, hl, hB, hW, h => by simp at hW
  | (i, false) :: r, listed, mask, a, w, hC, hl, hB, hW, h => by
    simp only [List.cons_append, mixF] at hB
    cases hx : (infos l)[i]? with
    | none => rw [hx] at hB; cases hB
    | some x =>
      rw [hx] at hB
      simp only [Bool.and_eq_true, Bool.not_eq_true', Nat.beq_eq] at hB
      obtain ⟨⟨hun, hdep⟩, hk, hB⟩ := hB
      have hil : i < l.length := by
        have := (List.getElem?_eq_some_iff.1 hx).1
        simpa [infos] using this
      have ho : l[i]? = some l[i] := List.getElem?_eq_getElem hil
      have hxe : x = infOf l.toArray l[i] := by
        simp only [infos, List.getElem?_map, ho, Option.map_some, Option.some.injEq] at hx
        exact hx.symm
      have ho' : l.toArray[i]? = some l[i] := by simp
      have hgl : ∀ k, mask.testBit k = true → listed.getD k false = true := fun k hk => by
        rw [Array.getD_eq_getD_getElem?, hl.bit k (hl.lt k hk), hk]; rfl
      have hready : i ∈ Region.ready .any l.toArray listed := mem_ready.2 ⟨by rw [Array.getD_eq_getD_getElem?, hl.bit i hil, hun]; rfl, l[i], ho', fun e he hb => hgl _ (by
        rw [hxe] at hdep
        exact land_sub hdep (dep_bit.2 ⟨e, he, hb, rfl⟩))⟩
      have hset := hl.set hil
      have hW' : (r.all fun p => !p.2) = true := by simpa using hW
      obtain ⟨hp, hf⟩ := hk
      obtain ⟨o, ho2, h⟩ := h
      obtain rfl : l[i] = o := by rw [ho] at ho2; exact Option.some.inj ho2
      have hq : qOp P l.toArray CT i (fun a' => wpMixK P l CT Q Kst r a' w) a := by unfold qOp; simp only [ho']; exact h
      obtain ⟨v, hy, hK⟩ := yieldsIn_of_qOp ho' hq
      rw [show ((i, false) :: r).length + n = (r.length + n) + 1 by simp; omega]
      refine wpAnyC_first ho' (Region.noSelect_spec hs) (fun c a w => hQ c a _ _ w) (r.length + n) listed a w hC (fun j oj hj hji hjun hno => ?_) hready (yieldsC_of (by rw [hxe] at hp; exact hp) hy) (pre_sound hs hQ hrest r _ _ _ w hC hset hB hW' hK)
      have hjl : j < l.length := by have := (Array.getElem?_eq_some_iff.1 hj).1; simpa using this
      have hje : (infos l)[j]? = some (infOf l.toArray oj) := by
        have : l[j]? = some oj := by simpa using hj
        simp [infos, this]
      rcases freeF_spec _ 0 hf j _ hje with h1 | h1 | h1 | h1
      · omega
      · rw [Nat.zero_add] at h1
        rw [Array.getD_eq_getD_getElem?, hl.bit j hjl, h1] at hjun
        cases hjun
      · obtain ⟨e, he, hb, hon⟩ := dep_bit.1 h1
        exact absurd hon (hno e he hb)
      · rw [hxe] at h1; exact apart_of_F h1
/-- A region that draws, in three parts: plain operations that read what stays all along; those that read what stays up to i0; the rest. -/
theorem region_mix3 {id : Nat} {a : Act} {w : World} {l : List Oper} (r0 r : List (Nat × Bool)) (i0 : Nat) (r2 : List (Nat × Bool)) (L : List Inf) (hm : P.follows .mixedOrders = true) (hs : Region.noSelect l.toArray = true) (hL : infos l = L) (hlen : r0.length + (r.length + (r2.length + 1)) = l.length) (hB : mixF L (r0 ++ (r ++ (i0, true) :: r2)) 0 = true) (h0 : (r0.all fun p => !p.2) = true) (hW : waitsB L i0 r = true)
    (hQ : ∀ c a d v w, Q (.panic c) (Act.put a d v) w → Q (.panic c) a w) (hCT : ∀ w, C w → CT w) (hC : CT w.drew) (h : wpMixK P l CT Q (fun a w => C w ∧ wpMixK P l C Q (fun a w => CT w ∧ wpMix P l CT Q ((i0, true) :: r2) a w) r a w) r0 a w.drew) : (Code.region id l.toArray true).wp P Q a w := by
  refine wp_region_any hm ?_
  have := wpAny_of_C _ _ _ _ (pre_sound (P := P) (CT := CT) (Q := Q) (n := r.length + (r2.length + 1)) hs hQ (fun listed mask a w h1 h2 h3 => wpAnyC_of_K hCT (fun listed a w ⟨mask, g1, g2, g3, g4⟩ => mixF_sound (P := P) (C := CT) (Q := Q) hs hQ ((i0, true) :: r2) listed mask a w g3 g1 g2 g4) _ _ _ _ (mixK_sound (P := P) (C := C) (C2 := CT) (Q := Q) hs hQ r listed mask a w h3.1 h1 h2 (hL ▸ hW) h3.2)) r0 _ 0 a w.drew hC (Lst.start _) (hL ▸ hB) h0 h)
  rw [hlen] at this
  simpa using this
end
end Go.Proofs.YtdjeokgkeejpcaaGreatDoor.AX

namespace Go.Proofs.YtdjeokgkeejpcaaGreatDoor.AX
open Go
section
variable {P : Program} {ops : Array Oper} {md : Region.Mode} {D : Array Bool → World → Prop} {Q : Exit → Act → World → Prop}
def wpAnyL (P : Program) (md : Region.Mode) (ops : Array Oper) (D : Array Bool → World → Prop) (Q : Exit → Act → World → Prop) : Nat → Array Bool → Act → World → Prop
  | 0, listed, a, w => Region.ready md ops listed = [] ∧ Q .normal a w
  | fuel + 1, listed, a, w => (Region.ready md ops listed = [] → Q .normal a w) ∧
    ∀ i ∈ Region.ready md ops listed, wpOp P ops Q i (fun a' w' => D (listed.setIfInBounds i true) w' ∧ wpAnyL P md ops D Q fuel (listed.setIfInBounds i true) a' w') a w
theorem wpAny_of_L : ∀ (fuel : Nat) (listed : Array Bool) (a : Act) (w : World), wpAnyL P md ops D Q fuel listed a w → wpAny P md ops Q fuel listed a w
  | 0, _, _, _, h => h
  | fuel + 1, _, _, _, h => ⟨h.1, fun i hi => wpOp_mono (fun a' w' h' => wpAny_of_L fuel _ a' w' h'.2) (h.2 i hi)⟩
theorem wpAnyL_first {i : Nat} {oi : Oper} {v : Value} {Y : World → Prop} (good : Array Bool → Prop) (hi : ops[i]? = some oi) (hsel : ∀ (j : Nat) (o : Oper) cs b, ops[j]? = some o → o.op ≠ .select cs b)
    (hQ : ∀ c a w, Q (.panic c) (a.put oi.dst v) w → Q (.panic c) a w) (hY : ∀ listed w, good listed → D listed w → Y w) (hg : ∀ listed j, good listed → i ∈ Region.ready md ops listed → j ∈ Region.ready md ops listed → j ≠ i → good (listed.setIfInBounds j true))
    (hD : ∀ listed w, D (listed.setIfInBounds i true) w ↔ D listed w) : ∀ (fuel : Nat) (listed : Array Bool) (a : Act) (w : World), D listed w → good listed →
      (∀ j oj, ops[j]? = some oj → j ≠ i → listed.getD j true = false → (∀ e ∈ oj.after, Region.binds md e = true → e.on ≠ i) → oi.apart ops oj = true) →
      i ∈ Region.ready md ops listed → YieldsC P ops Y oi v a → wpAnyL P md ops D Q fuel (listed.setIfInBounds i true) (a.put oi.dst v) w → wpAnyL P md ops D Q (fuel + 1) listed a w
  | 0, listed, a, w, hC, hgd, _, hr, hy, H => by
    refine ⟨(fun h => by rw [h] at hr; cases hr), fun j hj => ?_⟩
    by_cases hji : j = i
    · subst hji; exact hy.at hi (hY _ _ hgd hC) ⟨(hD _ _).2 hC, H⟩
    · have := ready_mono hj hji
      rw [H.1] at this
      cases this
  | fuel + 1, listed, a, w, hC, hgd, hfree, hr, hy, H => by
    refine ⟨(fun h => by rw [h] at hr; cases hr), fun j hj => ?_⟩
    by_cases hji : j = i
    · subst hji; exact hy.at hi (hY _ _ hgd hC) ⟨(hD _ _).2 hC, H⟩
    · obtain ⟨hun, oj, hoj, hall⟩ := mem_ready.1 hj
      have hno : ∀ e ∈ oj.after, Region.binds md e = true → e.on ≠ i := fun e he hb e1 => by
        have g1 := hall e he hb
        have g0 := (mem_ready.1 hr).1
        rw [e1] at g1
        rcases Nat.lt_or_ge i listed.size with h' | h'
        · simp [h'] at g0 g1; rw [g0] at g1; cases g1
        · simp [Array.getElem?_eq_none h'] at g1
      refine wpOp_mono (fun a' w' h3 => ?_) (wpOp_putC hoj (hfree j oj hoj hji hun hno) (fun cs b => hsel i oi cs b hi) (fun cs b => hsel j oj cs b hoj) hQ hy (H.2 j (ready_mono hj hji)))
      have h4 := h3.2.1
      rw [Array.setIfInBounds_comm _ _ (Ne.symm hji)] at h4
      have h5 := (hD _ _).1 h4
      refine ⟨h5, wpAnyL_first good hi hsel hQ hY hg hD fuel (listed.setIfInBounds j true) a' w' h5 (hg _ _ hgd hr hj hji) (fun k ok hk hki hunk hnk => hfree k ok hk hki ?_ hnk) (ready_mono hr (Ne.symm hji)) h3.1 ?_⟩
      · by_cases hjk : j = k
        · subst hjk; exact hun
        · rw [getD_set_ne true hjk] at hunk; exact hunk
      · rw [Array.setIfInBounds_comm _ _ hji]
        exact h3.2.2
end
section
variable {P : Program} {C CT : World → Prop} {Q : Exit → Act → World → Prop} {i0 : Nat}
/-- What stays: CT all along, C too while i0 has not come up. -/
def Dl (C CT : World → Prop) (i0 : Nat) (listed : Array Bool) (w : World) : Prop := CT w ∧ (listed.getD i0 false = false → C w)
/-- A row of operations: 0: plain, reads what stays up to i0; 1: plain, reads what stays all along; 2: any, and nothing else may come up. -/
def wpMixL (P : Program) (l : List Oper) (C CT : World → Prop) (i0 : Nat) (Q : Exit → Act → World → Prop) : Bool → List (Nat × Nat) → Act → World → Prop
  | _, [], a, w => Q .normal a w
  | d, (i, 0) :: r, a, w => d = false ∧ ∃ o, l[i]? = some o ∧ wpQuiet P l.toArray C (fun a' => wpMixL P l C CT i0 Q d r a' w) [o] a
  | d, (i, 1) :: r, a, w => ∃ o, l[i]? = some o ∧ wpQuiet P l.toArray CT (fun a' => wpMixL P l C CT i0 Q d r a' w) [o] a
  | d, (i, _ + 2) :: r, a, w => wpOp P l.toArray Q i (fun a' w' => (CT w' ∧ ((d || Nat.beq i i0) = false → C w')) ∧ wpMixL P l C CT i0 Q (d || Nat.beq i i0) r a' w') a w
def asF (r : List (Nat × Nat)) : List (Nat × Bool) := r.map fun p => (p.1, Nat.ble 2 p.2)
/-- Is the row fit with i0? -/
def fitL (L : List Inf) (i0 : Nat) (r : List (Nat × Nat)) : Bool := match L[i0]? with
  | none => false
  | some x => r.all fun p => Nat.ble 2 p.2 || (!(Nat.beq p.1 i0) && (Nat.beq p.2 1 || Nat.testBit x.dep p.1))
theorem mixL_sound {l : List Oper} (hi0 : i0 < l.length) (hs : Region.noSelect l.toArray = true) (hQ : ∀ c a d v w, Q (.panic c) (Act.put a d v) w → Q (.panic c) a w) : ∀ (r : List (Nat × Nat)) (listed : Array Bool) (mask : Nat) (a : Act) (w : World), Dl C CT i0 listed w → Lst l.length listed mask →
    mixF (infos l) (asF r) mask = true → fitL (infos l) i0 r = true → wpMixL P l C CT i0 Q (mask.testBit i0) r a w → wpAnyL P .any l.toArray (Dl C CT i0) Q r.length listed a w
  | [], listed, mask, a, w, _, hl, hB, _, h => by
    simp only [asF, List.map_nil, mixF, Nat.beq_eq] at hB
    refine ⟨?_, h⟩
    rw [List.eq_nil_iff_forall_not_mem]
    intro j hj
    obtain ⟨h0, o, ho, _⟩ := mem_ready.1 hj
    have hjl : j < l.length := by have := (Array.getElem?_eq_some_iff.1 ho).1; simpa using this
    have hb := hl.bit j hjl
    rw [hB] at hb
    have : (2 ^ (infos l).length - 1).testBit j = true := by rw [Nat.testBit_two_pow_sub_one]; simp [infos, hjl]
    rw [this] at hb
    rw [Array.getD_eq_getD_getElem?, hb] at h0
    cases h0
  | (i, b) :: r, listed, mask, a, w, hC, hl, hB, hW, h => by
    have hB0 := hB
    simp only [asF, List.map_cons, mixF] at hB
    cases hx : (infos l)[i]? with
    | none => rw [hx] at hB; cases hB
    | some x =>
      rw [hx] at hB
      simp only [Bool.and_eq_true, Bool.not_eq_true', Nat.beq_eq] at hB
      obtain ⟨⟨hun, hdep⟩, hk, hB⟩ := hB
      have hil : i < l.length := by
        have := (List.getElem?_eq_some_iff.1 hx).1
        simpa [infos] using this
      have ho : l[i]? = some l[i] := List.getElem?_eq_getElem hil
      have hxe : x = infOf l.toArray l[i] := by
        simp only [infos, List.getElem?_map, ho, Option.map_some, Option.some.injEq] at hx
        exact hx.symm
      have ho' : l.toArray[i]? = some l[i] := by simp
      have hgl : ∀ k, mask.testBit k = true → listed.getD k false = true := fun k hk => by
        rw [Array.getD_eq_getD_getElem?, hl.bit k (hl.lt k hk), hk]; rfl
      have hready : i ∈ Region.ready .any l.toArray listed := mem_ready.2 ⟨by rw [Array.getD_eq_getD_getElem?, hl.bit i hil, hun]; rfl, l[i], ho', fun e he hb => hgl _ (by
        rw [hxe] at hdep
        exact land_sub hdep (dep_bit.2 ⟨e, he, hb, rfl⟩))⟩
      have hset := hl.set hil
      have hmb : ∀ k, (Nat.lor mask (2 ^ i)).testBit k = (mask.testBit k || decide (i = k)) := fun k => by
        show (mask ||| 2 ^ i).testBit k = _
        rw [Nat.testBit_or, Nat.testBit_two_pow]
      obtain ⟨x0, hx0⟩ : ∃ x0, (infos l)[i0]? = some x0 := ⟨(infos l)[i0]'(by simpa [infos] using hi0), by simp [infos, hi0]⟩
      have hW' : fitL (infos l) i0 r = true := by
        unfold fitL at hW ⊢
        rw [hx0] at hW ⊢
        simp only [List.all_cons, Bool.and_eq_true] at hW ⊢
        exact hW.2
      have hWi : (Nat.ble 2 b || (!(Nat.beq i i0) && (Nat.beq b 1 || Nat.testBit x0.dep i))) = true := by
        unfold fitL at hW
        rw [hx0] at hW
        simp only [List.all_cons, Bool.and_eq_true] at hW
        exact hW.1
      have free : ∀ (hf : freeF i x mask (infos l) 0 = true) (j : Nat) (oj : Oper), l.toArray[j]? = some oj → j ≠ i → listed.getD j true = false → (∀ e ∈ oj.after, Region.binds .any e = true → e.on ≠ i) → l[i].apart l.toArray oj = true := fun hf j oj hj hji hjun hno => by
        have hjl : j < l.length := by have := (Array.getElem?_eq_some_iff.1 hj).1; simpa using this
        have hje : (infos l)[j]? = some (infOf l.toArray oj) := by
          have : l[j]? = some oj := by simpa using hj
          simp [infos, this]
        rcases freeF_spec _ 0 hf j _ hje with h1 | h1 | h1 | h1
        · omega
        · rw [Nat.zero_add] at h1
          rw [Array.getD_eq_getD_getElem?, hl.bit j hjl, h1] at hjun
          cases hjun
        · obtain ⟨e, he, hb, hon⟩ := dep_bit.1 h1
          exact absurd hon (hno e he hb)
        · rw [hxe] at h1; exact apart_of_F h1
      have hDi : i ≠ i0 → ∀ listed w, Dl C CT i0 (listed.setIfInBounds i true) w ↔ Dl C CT i0 listed w := fun hne listed w => by
        unfold Dl
        rw [getD_set_ne false hne]
      match b, hk, hB, h, hWi with
      | 0, hk, hB, h, hWi =>
        have hk : (x.plain && freeF i x mask (infos l) 0) = true := hk
        simp only [Bool.and_eq_true] at hk
        obtain ⟨hp, hf⟩ := hk
        have hWi : (!(Nat.beq i i0) && Nat.testBit x0.dep i) = true := hWi
        simp only [Bool.and_eq_true, Bool.not_eq_true'] at hWi
        have hne : i ≠ i0 := fun e => by rw [e] at hWi; simp at hWi
        obtain ⟨hm0, o, ho2, h⟩ := h
        obtain rfl : l[i] = o := by rw [ho] at ho2; exact Option.some.inj ho2
        have hq : qOp P l.toArray C i (fun a' => wpMixL P l C CT i0 Q (mask.testBit i0) r a' w) a := by unfold qOp; simp only [ho']; exact h
        obtain ⟨v, hy, hK⟩ := yieldsIn_of_qOp ho' hq
        have hx0e : x0 = infOf l.toArray l[i0] := by
          have : l[i0]? = some l[i0] := List.getElem?_eq_getElem hi0
          simp only [infos, List.getElem?_map, this, Option.map_some, Option.some.injEq] at hx0
          exact hx0.symm
        have hd0 := hWi.2
        rw [hx0e] at hd0
        obtain ⟨e, he, hb, hon⟩ := dep_bit.1 hd0
        have notBoth : ∀ listed, i ∈ Region.ready .any l.toArray listed → i0 ∉ Region.ready .any l.toArray listed := fun listed hr h0 => by
          obtain ⟨_, o0, ho0, hall⟩ := mem_ready.1 h0
          have : l.toArray[i0]? = some l[i0] := by simp [hi0]
          rw [this] at ho0
          obtain rfl := Option.some.inj ho0
          have g1 := hall e he hb
          have g0 := (mem_ready.1 hr).1
          rw [hon] at g1
          rcases Nat.lt_or_ge i listed.size with h' | h'
          · simp [h'] at g0 g1; rw [g0] at g1; cases g1
          · simp [Array.getElem?_eq_none h'] at g1
        refine wpAnyL_first (Y := C) (fun listed => listed.getD i0 false = false) ho' (Region.noSelect_spec hs) (fun c a w => hQ c a _ _ w) (fun listed w h1 h2 => h2.2 h1) (fun listed j h1 hr hj hji => ?_) (hDi hne) r.length listed a w hC ?_ (free hf) hready (yieldsC_of (by rw [hxe] at hp; exact hp) hy) (mixL_sound hi0 hs hQ r _ _ _ w ((hDi hne _ _).2 hC) hset hB hW' ?_)
        · rw [getD_set_ne false (fun e => by subst e; exact notBoth _ hr hj)]
          exact h1
        · rw [Array.getD_eq_getD_getElem?, hl.bit i0 hi0, hm0]; rfl
        · rw [hmb, show decide (i = i0) = false by simpa using hne, Bool.or_false]
          exact hK
      | 1, hk, hB, h, hWi =>
        have hk : (x.plain && freeF i x mask (infos l) 0) = true := hk
        simp only [Bool.and_eq_true] at hk
        obtain ⟨hp, hf⟩ := hk
        have hWi : (!(Nat.beq i i0) && true) = true := hWi
        simp only [Bool.and_eq_true, Bool.not_eq_true'] at hWi
        have hne : i ≠ i0 := fun e => by rw [e] at hWi; simp at hWi
        obtain ⟨o, ho2, h⟩ := h
        obtain rfl : l[i] = o := by rw [ho] at ho2; exact Option.some.inj ho2
        have hq : qOp P l.toArray CT i (fun a' => wpMixL P l C CT i0 Q (mask.testBit i0) r a' w) a := by unfold qOp; simp only [ho']; exact h
        obtain ⟨v, hy, hK⟩ := yieldsIn_of_qOp ho' hq
        refine wpAnyL_first (Y := CT) (fun _ => True) ho' (Region.noSelect_spec hs) (fun c a w => hQ c a _ _ w) (fun listed w _ h2 => h2.1) (fun _ _ _ _ _ _ => trivial) (hDi hne) r.length listed a w hC trivial (free hf) hready (yieldsC_of (by rw [hxe] at hp; exact hp) hy) (mixL_sound hi0 hs hQ r _ _ _ w ((hDi hne _ _).2 hC) hset hB hW' ?_)
        rw [hmb, show decide (i = i0) = false by simpa using hne, Bool.or_false]
        exact hK
      | b + 2, hk, hB, h, hWi =>
        refine ⟨(fun h0 => by rw [h0] at hready; cases hready), fun j hj => ?_⟩
        have hji := only_ready (r := asF r) hl hB0 j hj
        subst hji
        have hbq : (mask.testBit i0 || Nat.beq j i0) = (Nat.lor mask (2 ^ j)).testBit i0 := by
          rw [hmb]
          congr 1
          rw [Bool.eq_iff_iff, Nat.beq_eq, decide_eq_true_eq]
        rw [show wpMixL P l C CT i0 Q (mask.testBit i0) ((j, b + 2) :: r) a w = wpOp P l.toArray Q j (fun a' w' => (CT w' ∧ ((mask.testBit i0 || Nat.beq j i0) = false → C w')) ∧ wpMixL P l C CT i0 Q (mask.testBit i0 || Nat.beq j i0) r a' w') a w from rfl, hbq] at h
        refine wpOp_mono (fun a' w' hk => ?_) h
        have hd : Dl C CT i0 (listed.setIfInBounds j true) w' := ⟨hk.1.1, fun h0 => hk.1.2 (by
          have := hset.bit i0 hi0
          rw [Array.getD_eq_getD_getElem?, this] at h0
          exact h0)⟩
        exact ⟨hd, mixL_sound hi0 hs hQ r _ _ a' w' hd hset hB hW' hk.2⟩
/-- A region that draws, with an operation behind which less stays. -/
theorem region_mixL {id : Nat} {a : Act} {w : World} {l : List Oper} (i0 : Nat) (r : List (Nat × Nat)) (L : List Inf) (hm : P.follows .mixedOrders = true) (hs : Region.noSelect l.toArray = true) (hL : infos l = L) (hlen : r.length = l.length) (hi0 : i0 < l.length) (hB : mixF L (asF r) 0 = true) (hW : fitL L i0 r = true)
    (hQ : ∀ c a d v w, Q (.panic c) (Act.put a d v) w → Q (.panic c) a w) (hC : CT w.drew ∧ C w.drew) (h : wpMixL P l C CT i0 Q false r a w.drew) : (Code.region id l.toArray true).wp P Q a w := by
  refine wp_region_any hm ?_
  have := wpAny_of_L _ _ _ _ (mixL_sound (P := P) (C := C) (CT := CT) (Q := Q) hi0 hs hQ r _ 0 a w.drew ⟨hC.1, fun _ => hC.2⟩ (Lst.start _) (hL ▸ hB) (hL ▸ hW) (by simpa using h))
  rw [hlen] at this
  simpa using this
theorem mixL_own {l : List Oper} {i : Nat} {r : List (Nat × Nat)} {a : Act} {w : World} (o : Oper) (ho : l[i]? = some o) (h : wpQuiet P l.toArray C (fun a' => wpMixL P l C CT i0 Q false r a' w) [o] a) : wpMixL P l C CT i0 Q false ((i, 0) :: r) a w := ⟨rfl, o, ho, h⟩
theorem mixL_all {l : List Oper} {d : Bool} {i : Nat} {r : List (Nat × Nat)} {a : Act} {w : World} (o : Oper) (ho : l[i]? = some o) (h : wpQuiet P l.toArray CT (fun a' => wpMixL P l C CT i0 Q d r a' w) [o] a) : wpMixL P l C CT i0 Q d ((i, 1) :: r) a w := ⟨o, ho, h⟩
theorem mixL_op {l : List Oper} {d : Bool} {i : Nat} {r : List (Nat × Nat)} {a : Act} {w : World} (o : Oper) (ho : l[i]? = some o) (hw : Region.wanted o (yielded l.toArray a.tmps) = true) (h : Oper.wp P o a w (fun a' w' => (CT w' ∧ ((d || Nat.beq i i0) = false → C w')) ∧ wpMixL P l C CT i0 Q (d || Nat.beq i i0) r a' w') Q) : wpMixL P l C CT i0 Q d ((i, 2) :: r) a w := by
  show wpOp P l.toArray Q i (fun a' w' => (CT w' ∧ ((d || Nat.beq i i0) = false → C w')) ∧ wpMixL P l C CT i0 Q (d || Nat.beq i i0) r a' w') a w
  unfold wpOp
  have ho' : l.toArray[i]? = some o := by simpa using ho
  simp only [ho', hw, if_true]
  exact .inl h
theorem mixL_call {l : List Oper} {d : Bool} {i : Nat} {r : List (Nat × Nat)} {a : Act} {w : World} {o : Oper} {f : FuncId} {fn : Func} {c : Code} {xs : Array Operand} {ts : Array TypeId} {vs : Array Value} {R : Ending → World → Prop} (h : Calls P f vs w R) (ho : l[i]? = some o)
    (hop : o.op = .call { callee := .value (.func f), args := xs, argTypes := ts }) (hw : Region.wanted o (yielded l.toArray a.tmps) = true) (hf : P.funcs[f]? = some fn) (hn : (fn.name == "runtime.NumGoroutine") = false) (hb : fn.body = some c) (hx : xs.map a.eval = vs)
    (hR : ∀ e w', R e w' → ∃ v, e = .returned v ∧ (CT w' ∧ ((d || Nat.beq i i0) = false → C w')) ∧ wpMixL P l C CT i0 Q (d || Nat.beq i i0) r (a.put o.dst v) w') : wpMixL P l C CT i0 Q d ((i, 2) :: r) a w := by
  refine mixL_op o ho hw ?_
  have hrun : (execOp a.eval o).run P w = .ok (.enter f (xs.map a.eval)) w := by
    have h1 : fn.name ≠ "runtime.NumGoroutine" := by simpa using hn
    simp [execOp, hop, resolve, invoke, Act.eval, callFunc, Deferred.ofValue, hf, h1, hb]
  unfold Oper.wp
  rw [hrun]
  refine Calls.mono (hx ▸ h) fun e w2 hk => ?_
  obtain ⟨v, rfl, h1, h2⟩ := hR _ _ hk
  exact ⟨h1, h2⟩
end
end Go.Proofs.YtdjeokgkeejpcaaGreatDoor.AX

namespace Go.Proofs.YtdjeokgkeejpcaaGreatDoor.AX
open Go
section
variable {P : Program} {Q : Exit → Act → World → Prop} {n : Nat} {F : Fence} {ro : Option Nat}
theorem region_treeN {C : World → Prop} {id : Nat} {a : Act} {w : World} {l : List Oper} (r : Plan) (L : List Inf) (hm : P.follows .mixedOrders = true) (hs : Region.noSelect l.toArray = true) (hnd : noDefer l = true) (hL : infos l = L) (hB : planF L r 0 l.length = true)
    (hF : F = { Fence.wide with round := ro }) (hC : C w.drew) (h : wpTree P l C (fun e a' w' => e = .normal ∧ Q .normal a' w') r a w.drew) : (Code.region id l.toArray true).wpIn F n P Q a w := by
  refine Code.wpIn_mono (Q := fun e a' w' => e = .normal ∧ Q .normal a' w') ?_ ?_
  · rintro e a' w' ⟨rfl, h⟩
    exact h
  refine wpIn_region_any hm ?_
  have := any_round (n := n) (Q := fun e a' w' => e = .normal ∧ Q .normal a' w') hF (fun i o c ho => noDefer_spec hnd i o c (by simpa using ho)) (by rintro ⟨a, w, h, _⟩; cases h) _ _ _ _ (wpAny_of_C _ _ _ _ (tree_sound (P := P) (C := C) hs (by rintro c a d v w ⟨h, _⟩; cases h) r l.length _ 0 a w.drew hC (Lst.start _) (hL ▸ hB) h))
  simpa using this
theorem region_mixLN {C CT : World → Prop} {id : Nat} {a : Act} {w : World} {l : List Oper} (i0 : Nat) (r : List (Nat × Nat)) (L : List Inf) (hm : P.follows .mixedOrders = true) (hs : Region.noSelect l.toArray = true) (hnd : noDefer l = true) (hL : infos l = L) (hlen : r.length = l.length) (hi0 : i0 < l.length) (hB : mixF L (asF r) 0 = true) (hW : fitL L i0 r = true)
    (hF : F = { Fence.wide with round := ro }) (hC : CT w.drew ∧ C w.drew) (h : wpMixL P l C CT i0 (fun e a' w' => e = .normal ∧ Q .normal a' w') false r a w.drew) : (Code.region id l.toArray true).wpIn F n P Q a w := by
  refine Code.wpIn_mono (Q := fun e a' w' => e = .normal ∧ Q .normal a' w') ?_ ?_
  · rintro e a' w' ⟨rfl, h⟩
    exact h
  refine wpIn_region_any hm ?_
  have := any_round (n := n) (Q := fun e a' w' => e = .normal ∧ Q .normal a' w') hF (fun i o c ho => noDefer_spec hnd i o c (by simpa using ho)) (by rintro ⟨a, w, h, _⟩; cases h) _ _ _ _ (wpAny_of_L _ _ _ _ (mixL_sound (P := P) (C := C) (CT := CT) hi0 hs (by rintro c a d v w ⟨h, _⟩; cases h) r _ 0 a w.drew ⟨hC.1, fun _ => hC.2⟩ (Lst.start _) (hL ▸ hB) (hL ▸ hW) (by simpa using h)))
  rw [hlen] at this
  simpa using this
/-- What a statement comes to, told apart from what follows. -/
theorem wpIn_meet {s : Code} {a : Act} {w : World} (R : Act → World → Prop) (first : s.wpIn F n P (fun e a' w' => e = .normal ∧ R a' w') a w) (rest : ∀ a' w', R a' w' → Q .normal a' w') : s.wpIn F n P Q a w :=
  Code.wpIn_mono (by rintro e a' w' ⟨rfl, h⟩; exact rest _ _ h) first
end
end Go.Proofs.YtdjeokgkeejpcaaGreatDoor.AX
