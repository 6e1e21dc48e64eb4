/- AX, part 10: the abstract memory and the model's heap. -/
import Derived.Test.YtaadkdmbhckdeaaDoorAx9
namespace Go.Proofs.YtaadkdmbhckdeaaDoor.AX
open Go
variable {P : Program} {σ : Sig} {w : World}

/-- What a frame's slots hold. -/
def FrRel (σ : Sig) (fr : Fr) (sz : Nat) (tm : Array Value) : Prop :=
  tm.size = sz ∧ ∀ t v, fr.get t = some v → ∃ x, tm[t]? = some x ∧ VRel σ v x
/-- A map's entries. -/
def EntsRel (σ : Sig) : List (AV × AV) → List MapEntry → Prop
  | [], [] => True
  | e :: es, m :: ms => VRel σ e.1 m.key ∧ VRel σ e.2 m.val ∧ EntsRel σ es ms
  | _, _ => False
theorem EntsRel.mono {σ τ : Sig} (hs : σ ≤ τ) : ∀ {es : List (AV × AV)} {ms : List MapEntry}, EntsRel σ es ms → EntsRel τ es ms
  | [], [], _ => trivial
  | _ :: _, _ :: _, ⟨h1, h2, h3⟩ => ⟨h1.mono hs, h2.mono hs, EntsRel.mono hs h3⟩
  | [], _ :: _, h => h.elim
  | _ :: _, [], h => h.elim
/-- What is known of a row of cells. -/
def ClOk (cl : Cl) (e : TypeId) (fz : Nat × Nat) (base sz n : Nat) : Prop := (cl.is = true → fz = (0, 0) ∧ base = 0) ∧ (∀ t, cl = .ty t → e = t) ∧ ∀ t, cl = .whole t → e = t ∧ sz = n
/-- What a block holds. -/
def BlkRel (σ : Sig) (b : Blk) (i : Info) (h : Array Obj) : Prop :=
  match b with
  | .cells c n cl => ∃ cs e fz, h[i.blk]? = some (.cells cs e fz) ∧ cs.size = i.base + i.room ∧ n ≤ i.room ∧ (∀ j, j < cs.size → ¬ (fz.1 ≤ j ∧ j < fz.2)) ∧
      ClOk cl e fz i.base cs.size n ∧ ∀ j v, j < n → c.get j = some v → ∃ x, cs[i.base + j]? = some x ∧ VRel σ v x
  | .map es bs clk => ∃ ms, h[i.blk]? = some (.map ms clk) ∧ EntsRel σ es ms.toList ∧ ms.toList.map (·.born) = bs
  | .mapIter m since seen last => ∃ mo, h[i.blk]? = some (.mapIter mo since seen.toArray last) ∧ i.base = 0 ∧ (match m with
    | none => mo = none
    | some id => ∃ j, σ id = some j ∧ mo = some j.blk)
  | .loop st pend _ fr sz ps as bd d => ∃ fn tm di, h[i.blk]? = some (.loop { state := st, pending := pend, fn := fn, tmps := tm, params := ps.toArray, assign := as, body := bd, defers := di.blk }) ∧
      σ d = some di ∧ FrRel σ fr sz tm
  | .dfr done => h[i.blk]? = some (.deferred (if done then none else some []))
  | .strIter s pos => ∃ bs, h[i.blk]? = some (.stringIter bs pos) ∧ bytesOf bs = s
/-- What may not turn: blocks, and what the world holds beside its blocks. -/
structure Pr where
  old : Nat → Option Obj
  os : Os
  out : Array (Nat × ByteArray) × (Nat → Question → Nat)
instance : CoeFun Pr (fun _ => Nat → Option Obj) := ⟨Pr.old⟩
def Same (w w' : World) : Prop := w'.os = w.os ∧ (w'.output, w'.tape) = (w.output, w.tape)
theorem Same.refl (w : World) : Same w w := ⟨rfl, rfl⟩
theorem Same.trans {a b c : World} (h : Same a b) (k : Same b c) : Same a c := ⟨k.1.trans h.1, k.2.trans h.2⟩
/-- The whole: what is live lies apart, and what 'pr' names lies as it lay. -/
structure R (pr : Pr) (σ : Sig) (hp : Hp) (w : World) : Prop where
  blk : ∀ id b, hp.get id = some b → ∃ i, σ id = some i ∧ BlkRel σ b i w.heap
  inj : ∀ id id' b b' i i', hp.get id = some b → hp.get id' = some b' → σ id = some i → σ id' = some i' → i.blk = i'.blk → id = id'
  prot : ∀ k o, pr k = some o → w.heap[k]? = some o
  free : ∀ id b i, hp.get id = some b → σ id = some i → pr i.blk = none
  same : w.os = pr.os ∧ (w.output, w.tape) = pr.out
/-- What the package-level variables hold. -/
def GlOk (C : Ctx) (pr : Pr) : Prop :=
  ∀ g c, C.gl.get g = some c → ∃ cs e fz, pr g = some (.cells cs e fz) ∧ ∀ j v, c.get j = some v → ∃ x, cs[j]? = some x ∧ ∀ τ : Sig, VRel τ v x

theorem FrRel.mono {τ : Sig} (hs : σ ≤ τ) {fr : Fr} {sz : Nat} {tm : Array Value} (h : FrRel σ fr sz tm) : FrRel τ fr sz tm :=
  ⟨h.1, fun t v ht => let ⟨x, h1, h2⟩ := h.2 t v ht; ⟨x, h1, h2.mono hs⟩⟩
/-- What is there stays there. -/
theorem BlkRel.grow {b : Blk} {i : Info} {h h' : Array Obj} (hk : ∀ (k : Nat) (o : Obj), h[k]? = some o → h'[k]? = some o) (hb : BlkRel σ b i h) : BlkRel σ b i h' := by
  cases b with
  | cells c n cl =>
    obtain ⟨cs, e, fz, h1, h2⟩ := hb
    exact ⟨cs, e, fz, hk _ _ h1, h2⟩
  | map es bs clk =>
    obtain ⟨ms, h1, h2⟩ := hb
    exact ⟨ms, hk _ _ h1, h2⟩
  | mapIter m since seen last =>
    obtain ⟨mo, h1, h2⟩ := hb
    exact ⟨mo, hk _ _ h1, h2⟩
  | loop st pend f fr sz ps as bd d =>
    obtain ⟨fn, tm, di, h1, h2⟩ := hb
    exact ⟨fn, tm, di, hk _ _ h1, h2⟩
  | dfr done => exact hk _ _ hb
  | strIter s pos =>
    obtain ⟨bs, h1, h2⟩ := hb
    exact ⟨bs, hk _ _ h1, h2⟩
/-- Nothing of what was there has turned. -/
structure Kept (w w' : World) : Prop where
  os : w'.os = w.os
  out : w'.output = w.output
  tape : w'.tape = w.tape
  block : ∀ (k : Nat) (o : Obj), w.heap[k]? = some o → w'.heap[k]? = some o
theorem R.kept {pr : Pr} {hp : Hp} {w w' : World} (r : R pr σ hp w) (k : Kept w w') : R pr σ hp w' :=
  ⟨fun id b hb => let ⟨i, h1, h2⟩ := r.blk id b hb; ⟨i, h1, h2.grow k.block⟩, r.inj, fun j o h => k.block j o (r.prot j o h), r.free, k.os.trans r.same.1, by rw [k.out, k.tape]; exact r.same.2⟩
theorem BlkRel.mono {τ : Sig} (hs : σ ≤ τ) {b : Blk} {i : Info} {h : Array Obj} (hb : BlkRel σ b i h) : BlkRel τ b i h := by
  cases b with
  | cells c n cl =>
    obtain ⟨cs, e, fz, h1, h2, h3, h4, h5, h6⟩ := hb
    exact ⟨cs, e, fz, h1, h2, h3, h4, h5, fun j v hj hv => let ⟨x, a, b⟩ := h6 j v hj hv; ⟨x, a, b.mono hs⟩⟩
  | map es bs clk =>
    obtain ⟨ms, h1, h2, h3⟩ := hb
    exact ⟨ms, h1, h2.mono hs, h3⟩
  | mapIter m since seen last =>
    obtain ⟨mo, h1, h0, h2⟩ := hb
    refine ⟨mo, h1, h0, ?_⟩
    cases m with
    | none => exact h2
    | some id => obtain ⟨j, h3, h4⟩ := h2; exact ⟨j, hs _ _ h3, h4⟩
  | loop st pend f fr sz ps as bd d =>
    obtain ⟨fn, tm, di, h1, h2, h3⟩ := hb
    exact ⟨fn, tm, di, h1, hs _ _ h2, h3.mono hs⟩
  | dfr done => exact hb
  | strIter s pos => exact hb
theorem BlkRel.heap {b : Blk} {i : Info} {h h' : Array Obj} (hb : BlkRel σ b i h) (he : h'[i.blk]? = h[i.blk]?) : BlkRel σ b i h' := by
  cases b with
  | cells c n cl =>
    obtain ⟨cs, e, fz, h1, h2⟩ := hb
    exact ⟨cs, e, fz, by rw [he]; exact h1, h2⟩
  | map es bs clk =>
    obtain ⟨ms, h1, h2⟩ := hb
    exact ⟨ms, by rw [he]; exact h1, h2⟩
  | mapIter m since seen last =>
    obtain ⟨mo, h1, h2⟩ := hb
    exact ⟨mo, by rw [he]; exact h1, h2⟩
  | loop st pend f fr sz ps as bd d =>
    obtain ⟨fn, tm, di, h1, h2⟩ := hb
    exact ⟨fn, tm, di, by rw [he]; exact h1, h2⟩
  | dfr done => exact he.trans hb
  | strIter s pos =>
    obtain ⟨bs, h1, h2⟩ := hb
    exact ⟨bs, by rw [he]; exact h1, h2⟩
theorem BlkRel.lt {b : Blk} {i : Info} {h : Array Obj} (hb : BlkRel σ b i h) : i.blk < h.size := by
  have : ∃ o, h[i.blk]? = some o := by
    cases b with
    | cells c n cl => obtain ⟨cs, e, fz, h1, _⟩ := hb; exact ⟨_, h1⟩
    | map es bs clk => obtain ⟨ms, h1, _⟩ := hb; exact ⟨_, h1⟩
    | mapIter m since seen last => obtain ⟨mo, h1, _⟩ := hb; exact ⟨_, h1⟩
    | loop st pend f fr sz ps as bd d => obtain ⟨fn, tm, di, h1, _⟩ := hb; exact ⟨_, h1⟩
    | dfr done => exact ⟨_, hb⟩
    | strIter s pos => obtain ⟨bs, h1, _⟩ := hb; exact ⟨_, h1⟩
  obtain ⟨o, ho⟩ := this
  exact (Array.getElem?_eq_some_iff.1 ho).1

/-- σ with one more place. -/
def Sig.put (σ : Sig) (id : Nat) (i : Info) : Sig := fun k => if k = id then some i else σ k
theorem Sig.put_same (σ : Sig) (id : Nat) (i : Info) : (σ.put id i) id = some i := by simp [Sig.put]
theorem Sig.put_other (σ : Sig) {id k : Nat} (i : Info) (h : k ≠ id) : (σ.put id i) k = σ k := by simp [Sig.put, h]
theorem Sig.put_le {σ : Sig} {id : Nat} (i : Info) (h : σ id = none) : σ ≤ σ.put id i := by
  intro k j hk
  by_cases e : k = id
  · subst e; rw [h] at hk; cases hk
  · rw [Sig.put_other σ i e]; exact hk

variable {pr : Pr} {hp : Hp} {w' : World}
theorem R.out (r : R pr σ hp w) (hs : Same w w') : w'.os = pr.os ∧ (w'.output, w'.tape) = pr.out := ⟨hs.1.trans r.same.1, hs.2.trans r.same.2⟩
/-- Draws, counts: the heap is all that counts. -/
theorem R.of_heap (r : R pr σ hp w) (hh : w'.heap = w.heap) (hs : Same w w') : R pr σ hp w' :=
  ⟨by rw [hh]; exact r.blk, r.inj, by rw [hh]; exact r.prot, r.free, r.out hs⟩
/-- One live block turns. -/
theorem R.turn (r : R pr σ hp w) {id : Nat} {b b' : Blk} {i : Info} (hg : hp.get id = some b) (hi : σ id = some i)
    (hb : BlkRel σ b' i w'.heap) (hk : ∀ k, k ≠ i.blk → w'.heap[k]? = w.heap[k]?) (hs : Same w w') : R pr σ (hp.set id b') w' where
  same := r.out hs
  blk := fun k c hc => by
    rw [T.get_set] at hc
    split at hc
    · rename_i e; subst e; cases hc; exact ⟨i, hi, hb⟩
    · rename_i e
      obtain ⟨j, hj, hbj⟩ := r.blk k c hc
      refine ⟨j, hj, hbj.heap (hk _ fun e' => e (r.inj _ _ _ _ _ _ hc hg hj hi e'))⟩
  inj := fun k k' c c' j j' hc hc' hj hj' e => by
    rw [T.get_set] at hc hc'
    have f : ∀ k c, (if k = id then some b' else hp.get k) = some c → ∃ c', hp.get k = some c' := fun k c h => by
      split at h
      · rename_i e; subst e; exact ⟨_, hg⟩
      · exact ⟨_, h⟩
    obtain ⟨d, hd⟩ := f _ _ hc
    obtain ⟨d', hd'⟩ := f _ _ hc'
    exact r.inj _ _ _ _ _ _ hd hd' hj hj' e
  prot := fun k o ho => by
    have hne : k ≠ i.blk := fun e => by have := r.free _ _ _ hg hi; rw [← e, ho] at this; cases this
    rw [hk k hne]; exact r.prot k o ho
  free := fun k c j hc hj => by
    rw [T.get_set] at hc
    split at hc
    · rename_i e; subst e; exact r.free _ _ _ hg hj
    · exact r.free _ _ _ hc hj
/-- One new block. -/
theorem R.new (r : R pr σ hp w) {id : Nat} {b : Blk} {o : Obj} {room : Nat} (hf : σ id = none)
    (hb : BlkRel (σ.put id ⟨w.heap.size, 0, room⟩) b ⟨w.heap.size, 0, room⟩ (w.heap.push o)) (hh : w'.heap = w.heap.push o) (hs : Same w w') : R pr (σ.put id ⟨w.heap.size, 0, room⟩) (hp.set id b) w' where
  same := r.out hs
  blk := fun k c hc => by
    rw [T.get_set] at hc
    split at hc
    · rename_i e; subst e; cases hc; exact ⟨_, Sig.put_same _ _ _, by rw [hh]; exact hb⟩
    · rename_i e
      obtain ⟨j, hj, hbj⟩ := r.blk k c hc
      refine ⟨j, Sig.put_le _ hf _ _ hj, (hbj.mono (Sig.put_le _ hf)).heap ?_⟩
      rw [hh, Array.getElem?_push_lt hbj.lt, Array.getElem?_eq_getElem hbj.lt]
  inj := fun k k' c c' j j' hc hc' hj hj' e => by
    rw [T.get_set] at hc hc'
    by_cases e1 : k = id <;> by_cases e2 : k' = id
    · rw [e1, e2]
    · rw [if_neg e2] at hc'
      obtain ⟨j2, hj2, hbj⟩ := r.blk _ _ hc'
      rw [Sig.put_other _ _ e2, hj2] at hj'
      cases hj'
      subst e1
      rw [Sig.put_same] at hj
      cases hj
      have := hbj.lt
      simp only at e
      omega
    · rw [if_neg e1] at hc
      obtain ⟨j2, hj2, hbj⟩ := r.blk _ _ hc
      rw [Sig.put_other _ _ e1, hj2] at hj
      cases hj
      subst e2
      rw [Sig.put_same] at hj'
      cases hj'
      have := hbj.lt
      simp only at e
      omega
    · rw [if_neg e1] at hc
      rw [if_neg e2] at hc'
      rw [Sig.put_other _ _ e1] at hj
      rw [Sig.put_other _ _ e2] at hj'
      exact r.inj _ _ _ _ _ _ hc hc' hj hj' e
  prot := fun k o' ho => by
    have h1 := r.prot k o' ho
    have hlt := (Array.getElem?_eq_some_iff.1 h1).1
    rw [hh, Array.getElem?_push_lt hlt, ← Array.getElem?_eq_getElem hlt]; exact h1
  free := fun k c j hc hj => by
    rw [T.get_set] at hc
    by_cases e : k = id
    · subst e
      rw [Sig.put_same] at hj
      cases hj
      cases hp' : pr w.heap.size with
      | none => rfl
      | some o' =>
        have h1 := r.prot _ _ hp'
        have hlt := (Array.getElem?_eq_some_iff.1 h1).1
        omega
    · rw [if_neg e] at hc
      rw [Sig.put_other _ _ e] at hj
      exact r.free _ _ _ hc hj
/-- A block is let go. -/
theorem R.drop (r : R pr σ hp w) (id : Nat) : R pr σ (hp.put id none) w where
  same := r.same
  blk := fun k c hc => by
    rw [T.get_put] at hc
    split at hc
    · cases hc
    · exact r.blk k c hc
  inj := fun k k' c c' j j' hc hc' hj hj' e => by
    rw [T.get_put] at hc hc'
    split at hc
    · cases hc
    · split at hc'
      · cases hc'
      · exact r.inj _ _ _ _ _ _ hc hc' hj hj' e
  prot := r.prot
  free := fun k c j hc hj => by
    rw [T.get_put] at hc
    split at hc
    · cases hc
    · exact r.free _ _ _ hc hj
/-- A block that was let go gets a new name; what lies there turns. -/
theorem R.rename (r : R pr σ hp w) {id nx : Nat} {b b' : Blk} {i i' : Info} (hg : hp.get id = some b) (hi : σ id = some i) (hf : σ nx = none) (hib : i'.blk = i.blk)
    (hb : BlkRel (σ.put nx i') b' i' w'.heap) (hk : ∀ k, k ≠ i.blk → w'.heap[k]? = w.heap[k]?) (hs : Same w w') : R pr (σ.put nx i') ((hp.put id none).set nx b') w' := by
  have hle := Sig.put_le i' hf
  refine ⟨fun k c hc => ?_, fun k k' c c' j j' hc hc' hj hj' e => ?_, fun k o ho => ?_, fun k c j hc hj => ?_, r.out hs⟩
  · rw [T.get_set, T.get_put] at hc
    split at hc
    · rename_i e; subst e; cases hc; exact ⟨i', Sig.put_same _ _ _, hb⟩
    · split at hc
      · cases hc
      · rename_i e1 e2
        obtain ⟨j, hj, hbj⟩ := r.blk k c hc
        exact ⟨j, hle _ _ hj, (hbj.mono hle).heap (hk _ fun e' => e2 (r.inj _ _ _ _ _ _ hc hg hj hi e'))⟩
  · rw [T.get_set, T.get_put] at hc hc'
    by_cases e1 : k = nx <;> by_cases e2 : k' = nx
    · rw [e1, e2]
    · rw [if_neg e2] at hc'
      split at hc'
      · cases hc'
      · rename_i e3
        rw [Sig.put_other _ _ e2] at hj'
        subst e1
        rw [Sig.put_same] at hj
        cases hj
        exact absurd (r.inj _ _ _ _ _ _ hc' hg hj' hi (by rw [← e]; exact hib)) e3
    · rw [if_neg e1] at hc
      split at hc
      · cases hc
      · rename_i e3
        rw [Sig.put_other _ _ e1] at hj
        subst e2
        rw [Sig.put_same] at hj'
        cases hj'
        exact absurd (r.inj _ _ _ _ _ _ hc hg hj hi (by rw [e]; exact hib)) e3
    · rw [if_neg e1] at hc
      rw [if_neg e2] at hc'
      split at hc
      · cases hc
      · split at hc'
        · cases hc'
        · rw [Sig.put_other _ _ e1] at hj
          rw [Sig.put_other _ _ e2] at hj'
          exact r.inj _ _ _ _ _ _ hc hc' hj hj' e
  · have hne : k ≠ i.blk := fun e => by have := r.free _ _ _ hg hi; rw [← e, ho] at this; cases this
    rw [hk k hne]; exact r.prot k o ho
  · rw [T.get_set, T.get_put] at hc
    by_cases e1 : k = nx
    · subst e1
      rw [Sig.put_same] at hj
      cases hj
      rw [hib]
      exact r.free _ _ _ hg hi
    · rw [if_neg e1] at hc
      split at hc
      · cases hc
      · rw [Sig.put_other _ _ e1] at hj
        exact r.free _ _ _ hc hj
end Go.Proofs.YtaadkdmbhckdeaaDoor.AX
