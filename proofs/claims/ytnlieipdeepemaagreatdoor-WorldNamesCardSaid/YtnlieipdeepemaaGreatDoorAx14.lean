/- AX, part 14: stores, append, copy. -/
import Derived.Test.YtnlieipdeepemaaGreatDoorAx13
namespace Go.Proofs.YtnlieipdeepemaaGreatDoor.AX
open Go
variable {P : Program} {σ : Sig} {w : World} {pr : Pr} {hp : Hp}

/-- Values laid into a row of cells from a place on. -/
def writeC (cs : Array Value) (o : Nat) : List Value → Array Value
  | [] => cs
  | x :: xs => writeC (cs.setIfInBounds o x) (o + 1) xs
theorem writeC_size : ∀ (xs : List Value) (cs : Array Value) (o : Nat), (writeC cs o xs).size = cs.size
  | [], _, _ => rfl
  | x :: xs, cs, o => by rw [writeC, writeC_size xs]; simp
theorem writeC_get : ∀ (xs : List Value) (cs : Array Value) (o j : Nat), o + xs.length ≤ cs.size → (writeC cs o xs)[j]? = if o ≤ j ∧ j < o + xs.length then xs[j - o]? else cs[j]?
  | [], cs, o, j, _ => by rw [writeC, if_neg (by simp)]
  | x :: xs, cs, o, j, h => by
    simp only [List.length_cons] at h
    rw [writeC, writeC_get xs _ _ _ (by simp; omega)]
    by_cases h0 : j = o
    · subst h0
      have hlt : j < cs.size := by omega
      rw [if_neg (by omega), if_pos (by simp)]
      simp [hlt]
    · by_cases h1 : o + 1 ≤ j ∧ j < o + 1 + xs.length
      · rw [if_pos h1, if_pos (by simp; omega)]
        rw [show j - o = (j - (o + 1)) + 1 from by omega]
        simp
      · rw [if_neg h1, if_neg (by simp; omega)]
        exact Array.getElem?_setIfInBounds_ne (by omega)
theorem heap_setCell {h : Array Obj} {b o : Nat} {x : Value} {cs : Array Value} {e : TypeId} {fz : Nat × Nat} (hw : w.heap = h) (hb : h[b]? = some (.cells cs e fz)) :
    (w.setCell ⟨b, o, none⟩ x).heap[b]? = some (.cells (cs.setIfInBounds o x) e fz) ∧ ∀ k, k ≠ b → (w.setCell ⟨b, o, none⟩ x).heap[k]? = h[k]? := by
  subst hw
  simp only [World.setCell, Array.getElem?_modify]
  refine ⟨by simp [hb], fun k hk => by rw [if_neg (Ne.symm hk)]⟩
theorem run_storeCells {b o : Nat} {e : TypeId} {fz : Nat × Nat} : ∀ (xs : List Value) (i : Nat) (cs : Array Value) (w : World), w.heap[b]? = some (.cells cs e fz) →
    o + i + xs.length ≤ cs.size → (∀ j, j < cs.size → ¬ (fz.1 ≤ j ∧ j < fz.2)) → (∀ x ∈ xs, x.oneCell' = true) →
    ∃ w', (storeCells ⟨b, o, none⟩ xs i).run P w = .ok () w' ∧ w'.heap[b]? = some (.cells (writeC cs (o + i) xs) e fz) ∧ (∀ k, k ≠ b → w'.heap[k]? = w.heap[k]?) ∧ Same w w' := by
  intro xs
  induction xs with
  | nil => intro i cs w hb _ _ _; exact ⟨w, rfl, hb, fun _ _ => rfl, Same.refl w⟩
  | cons x xs ih =>
    intro i cs w hb hle hfz hone
    simp only [List.length_cons] at hle
    have hlt : o + i < cs.size := by omega
    have hc : w.cell? ⟨b, o + i, none⟩ = some cs[o + i] := cell_at rfl hb (by simp [hlt])
    have hf : w.frozen? ⟨b, o + i, none⟩ = false := by
      have := hfz (o + i) hlt
      obtain ⟨lo, hi⟩ := fz
      simp only [World.frozen?, hb]
      simp only at this
      cases hh : (decide (lo ≤ o + i) && decide (o + i < hi)) with
      | false => rfl
      | true => simp only [Bool.and_eq_true, decide_eq_true_eq] at hh; exact absurd hh this
    obtain ⟨h1, h2⟩ := heap_setCell (w := w) (o := o + i) (x := x) rfl hb
    obtain ⟨w', g1, g2, g3, g4⟩ := ih (i + 1) (cs.setIfInBounds (o + i) x) (w.setCell ⟨b, o + i, none⟩ x) h1 (by simp; omega) (by simpa using hfz) (fun y hy => hone y (by simp [hy]))
    refine ⟨w', ?_, ?_, fun k hk => by rw [g3 k hk, h2 k hk], Same.trans ⟨rfl, rfl⟩ g4⟩
    · simp only [storeCells, Sem.run_bind, addr_add]
      rw [run_store P w _ x .plain (hone x (by simp)), hc]
      simp only [hf, Bool.false_eq_true, if_false, Result.andThen_ok]
      exact g1
    · rw [g2]; rfl
theorem atomB_sound {v : AV} {x : Value} (h : atomB v = true) (hx : VRel σ v x) : x.oneCell' = true := by
  cases hx <;> first | rfl | (cases h; done) | skip
  rename_i hc ht
  cases x <;> first | rfl | (exact absurd rfl (ht _)) | skip
  rename_i vs
  exfalso
  have hc' : vs = #[Value.agg vs] := hc
  have hs := congrArg (fun v : Array Value => SizeOf.sizeOf v) hc'
  simp at hs
  omega
theorem atomsB_sound : ∀ {l : List AV} {xs : List Value}, atomsB l = true → VRels σ l xs → ∀ x ∈ xs, x.oneCell' = true
  | _, _, _, .nil => fun x hx => by cases hx
  | v :: l, y :: xs, h, .cons hv hr => by
    simp only [atomsB] at h
    split at h
    · rename_i ha
      intro x hx
      rcases List.mem_cons.1 hx with rfl | hx
      · exact atomB_sound ha hv
      · exact atomsB_sound h hr x hx
    · cases h

/-- Nothing but new names between two counts. -/
structure Ext (σ τ : Sig) (a b : Nat) : Prop where
  le : σ ≤ τ
  nx : a ≤ b
  out : ∀ id, (id < a ∨ b ≤ id) → τ id = σ id
theorem Ext.refl (σ : Sig) (n : Nat) : Ext σ σ n n := ⟨Sig.refl _, Nat.le_refl _, fun _ _ => rfl⟩
theorem Ext.trans {σ τ υ : Sig} {a b c : Nat} (h : Ext σ τ a b) (h' : Ext τ υ b c) : Ext σ υ a c :=
  ⟨Sig.trans h.le h'.le, Nat.le_trans h.nx h'.nx, fun id hid => by
    have := h.nx; have := h'.nx
    rw [h'.out id (by omega), h.out id (by omega)]⟩
theorem Ext.one {σ : Sig} {n : Nat} (i : Info) (h : σ n = none) : Ext σ (σ.put n i) n (n + 1) :=
  ⟨Sig.put_le i h, Nat.le_succ _, fun id hid => Sig.put_other _ _ (by omega)⟩
def Fresh (σ : Sig) (a b : Nat) : Prop := ∀ id, a ≤ id → id < b → σ id = none
theorem Fresh.after {σ τ : Sig} {a b c : Nat} (h : Fresh σ a c) (e : Ext σ τ a b) : Fresh τ b c := fun id h1 h2 => by
  have := e.nx
  rw [e.out id (.inr h1)]; exact h id (by omega) h2
theorem Fresh.upto {σ : Sig} {a b c : Nat} (h : Fresh σ a c) (hb : b ≤ c) : Fresh σ a b := fun id h1 h2 => h id h1 (by omega)

/-- The step yields this value: its own, or none. -/
def YieldsV (n : Next) (v : Value) : Prop := n = .value v ∨ (n = .skip ∧ v = undef)
/-- What a step that calls nothing comes to. -/
def StepOk (P : Program) (pr : Pr) (σ : Sig) (nx : Nat) (s : Sem Next) (w : World) (v : AV) (hp' : Hp) (nx' : Nat) : Prop :=
  ∃ n w' τ v', s.run P w = .ok n w' ∧ YieldsV n v' ∧ VRel τ v v' ∧ Ext σ τ nx nx' ∧ R pr τ hp' w'

/-- Cells of a live block turn. -/
theorem cells_turn {id : Nat} {c : Cells} {n off : Nat} {cl : Cl} {i : Info} {l : List AV} {xs : List Value} {w w' : World} {cs : Array Value} {e : TypeId} {fz : Nat × Nat}
    (r : R pr σ hp w) (hb : hp.get id = some (.cells c n cl)) (hi : σ id = some i) (_hblk : w.heap[i.blk]? = some (.cells cs e fz)) (hsz : cs.size = i.base + i.room)
    (hn : n ≤ i.room) (hfz : ∀ j, j < cs.size → ¬ (fz.1 ≤ j ∧ j < fz.2)) (hcl : ClOk cl e fz i.base cs.size n) (hk : ∀ j v, j < n → c.get j = some v → ∃ x, cs[i.base + j]? = some x ∧ VRel σ v x)
    (hl : VRels σ l xs) (hle : off + l.length ≤ n) (h1 : w'.heap[i.blk]? = some (.cells (writeC cs (i.base + off) xs) e fz)) (h2 : ∀ k, k ≠ i.blk → w'.heap[k]? = w.heap[k]?) (h3 : Same w w') :
    R pr σ (hp.set id (.cells (writeL c off l) n cl)) w' := by
  have hlen := hl.length
  refine r.turn hb hi ⟨_, e, fz, h1, by rw [writeC_size]; exact hsz, hn, by rw [writeC_size]; exact hfz, by rw [writeC_size]; exact hcl, fun j v hj hv => ?_⟩ h2 h3
  rw [writeL_get] at hv
  rw [writeC_get _ _ _ _ (by omega)]
  split at hv
  · rename_i hin
    obtain ⟨x, hx, hr⟩ := hl.get hv
    refine ⟨x, ?_, hr⟩
    rw [if_pos (by omega), show i.base + j - (i.base + off) = j - off from by omega]
    exact hx
  · rename_i hin
    obtain ⟨x, hx, hr⟩ := hk j v hj hv
    exact ⟨x, by rw [if_neg (by omega)]; exact hx, hr⟩

theorem storeA_sound {C : Ctx} {t : TypeId} {a v r0 : AV} {x y : Value} {nx : Nat} {hp' : Hp} {nx' : Nat} (h : storeA C t a v hp nx = .done r0 hp' nx') (hx : VRel σ a x) (hy : VRel σ v y)
    (r : R pr σ hp w) : ∃ w', (Instr.storeAt t x y).run C.P w = .ok () w' ∧ r0 = .tup [] ∧ nx' = nx ∧ R pr σ hp' w' := by
  unfold storeA at h
  split at h
  · rename_i id off
    split at h
    · rename_i c n cl hb
      split at h
      · rename_i l hl
        split at h
        · rename_i hle hat
          have hle := Nat.le_of_ble_eq_true hle
          cases h
          obtain ⟨i, hi, rfl⟩ := hx.ptr_inv
          obtain ⟨i', hi', hblk⟩ := r.blk _ _ hb
          rw [hi] at hi'
          cases hi'
          obtain ⟨cs, e, fz, h1, h2, h3, h4, h5, h6⟩ := hblk
          obtain ⟨g1, g2, _⟩ := varCells_sound hl hy
          have hone := atomsB_sound hat g1
          have hlen : l.length = y.cells.size := by simpa using g1.length
          have hle : off + l.length ≤ n := hle
          obtain ⟨w', e1, e2, e3, e4⟩ := run_storeCells (P := C.P) (o := i.base + off) y.cells.toList 0 cs w h1 (by simp; omega) h4 hone
          refine ⟨w', ?_, rfl, rfl, cells_turn r hb hi h1 h2 h3 h4 h5 h6 g1 hle e2 e3 e4⟩
          have hne : ¬ y.cells.size ≠ l.length := by omega
          simp only [Instr.storeAt, Instr.sureAddr, Sem.run_bind, Sem.run_pure, Result.andThen_ok, storeVar, run_sizeOf g2, if_neg hne]
          exact e1
        · cases h
      · cases h
    · cases h
  · cases h

theorem nextslicecap_le {need c : Nat} (h : c < need) : Builtin.nextslicecap need c ≤ need * 2 + 1000 := by
  have g : ∀ n c, c < need * 2 + 1000 → c ≤ need + (need + 768) / 4 + 1 → Builtin.growBy need n c ≤ need + (need + 768) / 4 + 1 := by
    intro n
    induction n with
    | zero => intro c _ h; exact h
    | succ n ih =>
      intro c h1 h2
      unfold Builtin.growBy
      split
      · exact h2
      · exact ih _ (by omega) (by omega)
  unfold Builtin.nextslicecap
  split
  · omega
  · split
    · omega
    · have := g 4 c (by omega) (by omega); omega
theorem zeroCells_toList (z : Array Value) (n : Nat) : (Builtin.zeroCells z n).size = n * z.size := by simp [Builtin.zeroCells]

/-- 'append' where what is appended is no 'make'. -/
theorem run_append {t t' e : TypeId} {d : TypeDesc} {i : TypeInfo} {ts : Array TypeId} {ty : TypeId} {args : Array Value} {base : Option Addr} {sLen sCap n : Nat} {x : Value}
    (h0 : ts[0]? = some t) (h1 : ts[1]? = some t') (hu : P.underlying t = some (.slice e)) (hu' : P.underlying t' = some d) (hd : ∀ k, d ≠ .int k)
    (hi : P.info? e = some i) (a0 : args[0]? = some (.slice base sLen sCap)) (a1 : args[1]? = some x) (hn : (Builtin.lenOf x).run P w = .ok n w) :
    (Builtin.append_ ts ty args).run P w = (if sLen + n ≤ sCap then
        (do let new ← Builtin.firstCells i.size n x
            if let some a := base then storeCells (a.add (sLen * i.size)) new.toList
            pure (Value.slice base (sLen + n) sCap) : Sem Value).run P w
      else if Builtin.nextslicecap (sLen + n) sCap * i.bytes > 2 ^ 48 ∨ ((sLen + n : Nat) : Int) > IntKind.i64.max then (Builtin.append_ ts ty args).run P w
      else
        (do let newCap ← choose (.appendCap (sLen + n) sCap e)
            let old ← Builtin.firstCells i.size sLen (.slice base sLen sCap)
            let new ← Builtin.firstCells i.size n x
            let rest := Builtin.zeroCells (← zeroValue e).cells (newCap - (sLen + n))
            pure (Value.slice (some (← newRow e (old ++ new ++ rest))) (sLen + n) newCap) : Sem Value).run P w) := by
  have hsz : sizeT P e = some i.size := by simp [sizeT, hi]
  have hz : (match d with | .int _ => true | _ => false) = false := by cases d <;> first | rfl | exact absurd rfl (hd _)
  by_cases hc : sLen + n ≤ sCap
  · rw [if_pos hc]
    cases d <;> first | (exact absurd rfl (hd _)) | skip
    all_goals
      cases base <;>
      simp only [Builtin.append_, h0, h1, a0, a1, Sem.run_bind, run_underlying_some hu, run_underlying_some hu', Result.andThen_ok, run_sizeOf hsz, Sem.run_pure, Bool.false_eq_true, if_false, hn, if_pos hc, Bool.not_false, if_true]
  · rw [if_neg hc]
    by_cases hb : Builtin.nextslicecap (sLen + n) sCap * i.bytes > 2 ^ 48 ∨ ((sLen + n : Nat) : Int) > IntKind.i64.max
    · rw [if_pos hb]
    · rw [if_neg hb]
      have hb1 : ¬ (Builtin.nextslicecap (sLen + n) sCap * i.bytes > 2 ^ 48) := fun h => hb (.inl h)
      have hb2 : ¬ (((sLen + n : Nat) : Int) > IntKind.i64.max) := fun h => hb (.inr h)
      cases d <;> first | (exact absurd rfl (hd _)) | skip
      all_goals
        simp only [Builtin.append_, h0, h1, a0, a1, Sem.run_bind, run_underlying_some hu, run_underlying_some hu', Result.andThen_ok, run_sizeOf hsz, Sem.run_pure, Bool.false_eq_true, if_false, hn, if_neg hc, Bool.not_false, if_true, run_typeInfo hi, hb2, false_and, hb1, run_askRoom, false_or]
end Go.Proofs.YtnlieipdeepemaaGreatDoor.AX
