/- AX, part 21: code. -/
import Derived.Test.YtnlieipdeepemaaGreatDoorAx20p
import Derived.RangeFuncNested
import Derived.Scope
namespace Go.Proofs.YtnlieipdeepemaaGreatDoor.AX
open Go
variable {P : Program} {σ : Sig} {w : World} {pr : Pr} {hp : Hp} {C : Ctx} {cl : CallF} {ro : Option Nat}

/-- A loop, its body at hand. -/
def LoopAt (ro : Option Nat) (P : Program) (c : Code) (Q : Exit → Act → World → Prop) (a : Act) (w : World) : Prop :=
  ∀ (b : Frame) (k : List Item) (cs : List Frame), b.roundOf = ro →
    ∃ e a' w', Q e a' w' ∧ ArrivesIn (Machine.fenced P (FF ro)) P (lone (b.atR a (.code c :: .inLoop c :: k)) cs w) b k cs e a' w'
theorem room_any (ro : Option Nat) (n : Nat) : (FF ro).room n := fun _ h => by cases h
theorem LoopAt.wp {c : Code} {Q : Exit → Act → World → Prop} {a : Act} (h : LoopAt ro P c Q a w) : (Code.loop c).wpIn (FF ro) 0 P Q a w := by
  intro b k cs hro hb hr
  obtain ⟨e, a', w', hq, harr⟩ := h b k cs hro
  exact ⟨e, a', w', hq, .of_steps (.one (fenced_calm hb hr rfl) stepR_loop) harr⟩
theorem LoopAt.round {c : Code} {Q : Exit → Act → World → Prop} {a : Act} (h : c.wpIn (FF ro) 0 P (Exit.then (LoopAt ro P c Q) Q) a w) : LoopAt ro P c Q a w := by
  intro b k cs hro
  have hb : (FF ro).fn b.fn := trivial
  have hr := room_any ro (cs.length + 1 + 0)
  obtain ⟨e, a₁, w₁, hq, harr⟩ := h b (.inLoop c :: k) cs hro hb hr
  cases e with
  | normal =>
    obtain ⟨e₂, a₂, w₂, hq₂, harr₂⟩ := hq b k cs hro
    exact ⟨e₂, a₂, w₂, hq₂, .of_steps (StepsIn.trans harr (.one (fenced_calm hb hr rfl) stepR_inLoop)) harr₂⟩
  | exit id => exact ⟨_, a₁, w₁, hq, .pass (x := .inLoop c) rfl (fun _ _ => .inl (by simp)) harr⟩
  | goto l => exact ⟨_, a₁, w₁, hq, .pass (x := .inLoop c) rfl (fun _ _ => .inl (by simp)) harr⟩
  | ret => exact ⟨_, a₁, w₁, hq, .pass (x := .inLoop c) rfl (fun _ _ => .inl (by simp)) harr⟩
  | panic ch => exact ⟨_, a₁, w₁, hq, .pass (x := .inLoop c) rfl (fun _ _ => .inl (by simp)) harr⟩
  | outgrown => exact ⟨_, a₁, w₁, hq, .pass (x := .inLoop c) rfl (fun _ _ => .inl (by simp)) harr⟩

theorem stepR_scope {b : Frame} {a : Act} {k : List Item} {cs : List Frame} {w : World} {c : Code} : step P (lone (b.atR a (.code (.scope c) :: k)) cs w) = .next (lone (b.atR a (.code c :: .inScope c :: k)) cs w) :=
  step_lone_go (by simp [stepG, stepG.exec, Frame.atR])
theorem stepR_inScope {b : Frame} {a : Act} {k : List Item} {cs : List Frame} {w : World} {c : Code} : step P (lone (b.atR a (.inScope c :: k)) cs w) = .next (lone (b.atR a k) cs w) :=
  step_lone_go (by simp [stepG, stepG.exec, Frame.atR])
/-- A body with labels, none of which is gone to. -/
theorem wpIn_scope {c : Code} {Q : Exit → Act → World → Prop} {a : Act} (h : c.wpIn (FF ro) 0 P (Exit.noGoto Q) a w) : (Code.scope c).wpIn (FF ro) 0 P Q a w := by
  intro b k cs hro hb hr
  obtain ⟨e, a₁, w₁, hq, harr⟩ := h b (.inScope c :: k) cs hro hb hr
  have h0 : StepsIn (Machine.fenced P (FF ro)) P (lone (b.atR a (.code (.scope c) :: k)) cs w) (lone (b.atR a (.code c :: .inScope c :: k)) cs w) := .one (fenced_calm hb hr rfl) stepR_scope
  cases e with
  | normal => exact ⟨.normal, a₁, w₁, hq, h0.trans (StepsIn.trans harr (.one (fenced_calm hb hr rfl) stepR_inScope))⟩
  | exit id => exact ⟨.exit id, a₁, w₁, hq, .of_steps h0 ⟨fun k' hk => harr.1 k' hk, fun hr hk => harr.2 hr hk⟩⟩
  | goto l => exact hq.elim
  | ret => exact ⟨_, a₁, w₁, hq, .of_steps h0 harr⟩
  | panic ch => exact ⟨_, a₁, w₁, hq, .of_steps h0 harr⟩
  | outgrown => exact ⟨_, a₁, w₁, hq, .of_steps h0 harr⟩
/-- The round's loop, abstract and true. -/
def RoRel (σ : Sig) : Option Nat → Option Nat → Prop
  | none, none => True
  | some l, some b => ∃ i, σ l = some i ∧ i.blk = b
  | _, _ => False
theorem RoRel.mono {τ : Sig} (hs : σ ≤ τ) : ∀ {x y : Option Nat}, RoRel σ x y → RoRel τ x y
  | none, none, _ => trivial
  | some _, some _, ⟨i, h1, h2⟩ => ⟨i, hs _ _ h1, h2⟩
  | none, some _, h => h.elim
  | some _, none, h => h.elim

section
variable {vf : AV} {hf : Hp} {nf : Nat}
theorem regionK_sound [RdOk C ro] (hP : POk C.P) (hX : ExtOk C) (hc : CallsOk C cl) (hg : GlOk C pr) {sz id : Nat} {ops : Array Oper} {draw : Bool} {kn : KN} {kp : List APan → KN} (hm : KM (.done vf hf nf) nf kn)
    (hkp : ∀ c fr ds hp nx, kp c fr ds hp nx ≠ .done vf hf nf) {Q : Exit → Act → World → Prop} {fr : Fr} {ds : List ADef} {nx : Nat} {a : Act}
    (h : regionK C cl sz ops draw kn kp fr ds hp nx = .done vf hf nf) (s : St pr σ sz nf fr ds hp nx a w) (hn : Next_ pr σ sz nf nx vf hf kn (Q .normal)) :
    (Code.region id ops draw).wpIn (FF ro) 0 C.P Q a w := by
  cases draw with
  | false =>
    have := opsK_sound (ro := ro) (Q := Q) hP hX hc hg hm hkp ops.toList 0 (fun k => by simp) (h : opsK C cl sz ops ops.toList kn kp fr ds hp nx = _) s hn
    refine wpIn_region ?_
    rw [List.range_eq_range']
    simpa using this
  | true =>
    simp only [regionK] at h
    split at h
    · rename_i m hb
      split at h
      · rename_i s' hs'
        have hle := hm _ _ _ _ h
        exact draw_sound hP hX hc hg hb hs' hle s fun σ' a' w' h1 h2 => hn _ _ _ _ _ _ _ h h1 h2
      · cases h
    · split at h
      · rename_i ops' m ht
        split at h
        · rename_i s' hs'
          have hle := hm _ _ _ _ h
          exact draw_turned hP hX hc hg ht hs' hle s fun σ' a' w' h1 h2 => hn _ _ _ _ _ _ _ h h1 h2
        · cases h
      · cases h

theorem heap_putObj {r : Nat} {o o' : Obj} (h : w.heap[r]? = some o') : (w.putObj r o).heap[r]? = some o ∧ ∀ k, k ≠ r → (w.putObj r o).heap[k]? = w.heap[k]? :=
  ⟨World.putObj_heap_same (Array.getElem?_eq_some_iff.1 h).1, fun _ hk => World.putObj_heap_other hk⟩

/-- Behind the function that was ranged over. -/
theorem endLoopK_sound {sz l : Nat} {i : Info} {kn : KN} {kx : Nat → KN} {kr : KN} {Q : Exit → Act → World → Prop} {fr : Fr} {ds : List ADef} {nx : Nat} {a : Act}
    (h : endLoopK l fr ds hp nx kn kx kr = .done vf hf nf) (s : St pr σ sz nf fr ds hp nx a w) (hl : σ l = some i) (hn : Next_ pr σ sz nf nx vf hf kn (Q .normal)) (hx : ∀ id, Next_ pr σ sz nf nx vf hf (kx id) (Q (.exit id)))
    (hr : Next_ pr σ sz nf nx vf hf kr (Q .ret)) :
    ∃ jump w₄, (Instr.endLoop i.blk).run C.P w = .ok jump w₄ ∧ (match jump with
       | none => Q .normal a w₄
       | some c => c.wpIn (FF ro) 0 C.P Q a w₄) := by
  have go : ∀ (st : LoopState) (p : Option Code) (f : FuncId) (fr' : Fr) (sz' : Nat) (ps : List Nat) (as bd : Code) (d : Nat), hp.get l = some (.loop st p f fr' sz' ps as bd d) → st ≠ .busy →
      (match p with
        | none => kn fr ds (hp.set l (.loop .exhausted p f fr' sz' ps as bd d)) nx
        | some (.exit id) => kx id fr ds (hp.set l (.loop .exhausted p f fr' sz' ps as bd d)) nx
        | some .ret => kr fr ds (hp.set l (.loop .exhausted p f fr' sz' ps as bd d)) nx
        | _ => .fail none) = .done vf hf nf → ∃ jump w₄, (Instr.endLoop i.blk).run C.P w = .ok jump w₄ ∧ (match jump with
       | none => Q .normal a w₄
       | some c => c.wpIn (FF ro) 0 C.P Q a w₄) := by
    intro st p f fr' sz' ps as bd d hb hst hk
    obtain ⟨i', hi', fn, tm, di, h1, h2, h3⟩ := s.r.blk _ _ hb
    rw [hl] at hi'
    cases hi'
    have hrun := run_endLoop (P := C.P) h1 hst
    obtain ⟨g1, g2⟩ := heap_putObj (o := .loop { state := .exhausted, pending := p, fn := fn, tmps := tm, params := ps.toArray, assign := as, body := bd, defers := di.blk }) h1
    have s' : St pr σ sz nf fr ds (hp.set l (.loop .exhausted p f fr' sz' ps as bd d)) nx a (w.putObj i.blk (.loop { state := .exhausted, pending := p, fn := fn, tmps := tm, params := ps.toArray, assign := as, body := bd, defers := di.blk })) :=
      ⟨s.fr, s.ds, s.r.turn hb hl ⟨fn, tm, di, g1, h2, h3⟩ g2 ⟨rfl, rfl⟩, s.fresh⟩
    refine ⟨_, _, hrun, ?_⟩
    split at hk
    · exact hn _ _ _ _ _ _ _ hk (Ext.refl _ _) s'
    · exact wpIn_exit (hx _ _ _ _ _ _ _ _ hk (Ext.refl _ _) s')
    · exact wpIn_ret (hr _ _ _ _ _ _ _ hk (Ext.refl _ _) s')
    · cases hk
  unfold endLoopK at h
  split at h
  · rename_i p f fr' sz' ps as bd d hb
    exact go _ _ _ _ _ _ _ _ _ hb (by simp) h
  · rename_i p f fr' sz' ps as bd d hb
    exact go _ _ _ _ _ _ _ _ _ hb (by simp) h
  · cases h

theorem DsRel.cons {r : Nat} {i : Info} {l : List ADef} {ds : List Deferred} (hr : σ r = some i) (h : DsRel σ l ds) : DsRel σ (.mark r :: l) ({ target := .collected i.blk, args := #[] } :: ds) := ⟨⟨i, hr, rfl⟩, h⟩

theorem rangeK_sound (hP : POk C.P) (_hX : ExtOk C) (hc : CallsOk C cl) (hg : GlOk C pr) {sz : Nat} {f : FuncId} {roA : Option Nat} {g : Operand} {ps : Array Tmp} {as bd : Code} {kn : KN} {kx : Nat → KN} {kr : KN} {kp : List APan → KN}
    (hmn : KM (.done vf hf nf) nf kn) (hmx : ∀ i, KM (.done vf hf nf) nf (kx i)) (hmr : KM (.done vf hf nf) nf kr)
    (hkp : ∀ c fr ds hp nx, kp c fr ds hp nx ≠ .done vf hf nf) {Q : Exit → Act → World → Prop} {fr : Fr} {ds : List ADef} {nx : Nat} {a : Act}
    (h : rangeK cl f sz roA g ps as bd fr ds hp nx kn kx kr kp = .done vf hf nf) (s : St pr σ sz nf fr ds hp nx a w) (hro : RoRel σ roA ro)
    (hn : Next_ pr σ sz nf nx vf hf kn (Q .normal)) (hx : ∀ id, Next_ pr σ sz nf nx vf hf (kx id) (Q (.exit id))) (hr : Next_ pr σ sz nf nx vf hf kr (Q .ret)) :
    (Code.rangeFunc g ps as bd).wpIn (FF ro) 0 C.P Q a w := by
  refine wpIn_rangeFunc fun fn _ => ?_
  unfold rangeK at h
  split at h
  · -- an outermost loop
    cases ro with
    | some b => exact hro.elim
    | none =>
    split at h
    · rename_i v1 hp1 nx1 hcall
      have hle1 := callFn_mono hc.mono _ _ _ hcall
      have hle2 := endLoopK_mono hmn hmx hmr h
      simp only [Nat.succ_eq_add_one] at hle1
      -- the block and the record
      have f1 : σ nx = none := s.fresh nx (Nat.le_refl _) (by omega)
      let σ1 := σ.put nx ⟨w.heap.size, 0, 0⟩
      have x1 : Ext σ σ1 nx (nx + 1) := Ext.one _ f1
      have r1 : R pr σ1 (hp.set nx (.dfr false)) (w.alloc (.deferred (some []))) := s.r.new f1 (by simp [BlkRel]) rfl ⟨rfl, rfl⟩
      have f2 : σ1 (nx + 1) = none := (s.fresh.after x1) (nx + 1) (Nat.le_refl _) (by omega)
      let w1 : World := w.alloc (.deferred (some []))
      let lp : Loop := { state := .ready, pending := none, fn := fn, tmps := a.tmps, params := ps, assign := as, body := bd, defers := w.heap.size }
      let w2 : World := w1.alloc (.loop lp)
      have hw1 : w1.heap.size = w.heap.size + 1 := by show (w.heap.push _).size = _; simp
      let σ2 := σ1.put (nx + 1) ⟨w1.heap.size, 0, 0⟩
      have x2 : Ext σ1 σ2 (nx + 1) (nx + 2) := Ext.one _ f2
      have x12 := x1.trans x2
      have r2 : R pr σ2 ((hp.set nx (.dfr false)).set (nx + 1) (.loop .ready none f fr sz ps.toList as bd nx)) w2 := by
        refine r1.new (o := .loop lp) (w' := w2) f2 ⟨fn, a.tmps, ⟨w.heap.size, 0, 0⟩, ?_, ?_, s.fr.mono x12.le⟩ rfl ⟨rfl, rfl⟩
        · exact World.alloc_heap_new w1 (.loop lp)
        · exact x2.le _ _ (Sig.put_same _ _ _)
      have hg2 : VRel σ2 (opd fr g) (a.eval g) := (opd_rel s.fr g).mono x12.le
      have hy : VRels σ2 [.yld (nx + 1)] (#[Value.func (.yield w1.heap.size) #[] #[]] : Array Value).toList := .cons (VRel.yld (i := ⟨w1.heap.size, 0, 0⟩) (Sig.put_same _ _ _)) .nil
      have fr2 : Fresh σ2 (nx + 2) nx1 := (s.fresh.after x12).upto hle2
      obtain ⟨d, gf, gas, e1, e2, e3⟩ := callFn_sound (w := w2) hP hc hg hcall hg2 hy r2 fr2
      refine ⟨w.heap.size + 1, [{ target := .collected w.heap.size, args := #[] }], w2, d, w2, gf, gas, w2, run_enterLoop_outer fn a.tmps ps as bd, ?_, fun _ _ => trivial, e2, fun h => by simp at h, ?_⟩
      · simp only [resolve]
        rw [hw1] at e1
        simpa [Act.eval] using e1
      · refine CallsIn.mono e3 ?_
        rintro e w' ⟨τ, v', rfl, h1, h2, h3⟩
        have x3 := x12.trans h2
        have s3 : St pr τ sz nf fr (.mark nx :: ds) hp1 nx1 { a with defers := [{ target := .collected w.heap.size, args := #[] }] ++ a.defers } w' :=
          ⟨s.fr.mono x3.le, DsRel.cons (i := ⟨w.heap.size, 0, 0⟩) (h2.le _ _ (x2.le _ _ (Sig.put_same _ _ _))) (s.ds.mono x3.le), h3, s.fresh.after x3⟩
        have hlp : τ (nx + 1) = some ⟨w.heap.size + 1, 0, 0⟩ := by
          have := h2.le (nx + 1) ⟨w1.heap.size, 0, 0⟩ (Sig.put_same _ _ _)
          rw [hw1] at this; exact this
        exact endLoopK_sound (ro := none) (i := ⟨w.heap.size + 1, 0, 0⟩) h s3 hlp (hn.later x3) (fun id => (hx id).later x3) (hr.later x3)
    · exact absurd h (hkp _ _ _ _ _)
    · cases h
  · -- within a round
    rename_i l0
    cases ro with
    | none => exact hro.elim
    | some b =>
    split at h
    · rename_i st0 p0 f0 fr0 sz0 ps0 as0 bd0 d0 hl0
      split at h
      · rename_i v1 hp1 nx1 hcall
        have hle1 := callFn_mono hc.mono _ _ _ hcall
        have hle2 := endLoopK_mono hmn hmx hmr h
        simp only [Nat.succ_eq_add_one] at hle1
        obtain ⟨i0, hi0, rfl⟩ := hro
        obtain ⟨i0', hi0', fn0, tm0, di0, g1, g2, g3⟩ := s.r.blk _ _ hl0
        rw [hi0] at hi0'
        cases hi0'
        have f1 : σ nx = none := s.fresh nx (Nat.le_refl _) (by omega)
        let lp : Loop := { state := .ready, pending := none, fn := fn, tmps := a.tmps, params := ps, assign := as, body := bd, defers := di0.blk }
        let w2 : World := w.alloc (.loop lp)
        let σ2 := σ.put nx ⟨w.heap.size, 0, 0⟩
        have x2 : Ext σ σ2 nx (nx + 1) := Ext.one _ f1
        have r2 : R pr σ2 (hp.set nx (.loop .ready none f fr sz ps.toList as bd d0)) w2 := by
          refine s.r.new (o := .loop lp) (w' := w2) f1 ⟨fn, a.tmps, di0, ?_, x2.le _ _ g2, s.fr.mono x2.le⟩ rfl ⟨rfl, rfl⟩
          simp [lp]
        have hg2 : VRel σ2 (opd fr g) (a.eval g) := (opd_rel s.fr g).mono x2.le
        have hy : VRels σ2 [.yld nx] (#[Value.func (.yield w.heap.size) #[] #[]] : Array Value).toList := .cons (VRel.yld (i := ⟨w.heap.size, 0, 0⟩) (Sig.put_same _ _ _)) .nil
        have fr2 : Fresh σ2 (nx + 1) nx1 := (s.fresh.after x2).upto hle2
        obtain ⟨d, gf, gas, e1, e2, e3⟩ := callFn_sound (w := w2) hP hc hg hcall hg2 hy r2 fr2
        refine ⟨w.heap.size, [], w2, d, w2, gf, gas, w2, run_enterLoop_inner g1 fn a.tmps ps as bd, ?_, fun _ _ => trivial, e2, fun h => by simp at h, ?_⟩
        · simp only [resolve]
          simpa [Act.eval] using e1
        · refine CallsIn.mono (show CallsIn (FF (some i0.blk)) 0 C.P gf gas w2 _ from e3) ?_
          rintro e w' ⟨τ, v', rfl, h1, h2, h3⟩
          have x3 := x2.trans h2
          have s3 : St pr τ sz nf fr ds hp1 nx1 { a with defers := [] ++ a.defers } w' := ⟨s.fr.mono x3.le, s.ds.mono x3.le, h3, s.fresh.after x3⟩
          exact endLoopK_sound (ro := some i0.blk) (i := ⟨w.heap.size, 0, 0⟩) h s3 (h2.le _ _ (Sig.put_same _ _ _)) (hn.later x3) (fun id => (hx id).later x3) (hr.later x3)
      · exact absurd h (hkp _ _ _ _ _)
      · cases h
    · cases h
end
end Go.Proofs.YtnlieipdeepemaaGreatDoor.AX
