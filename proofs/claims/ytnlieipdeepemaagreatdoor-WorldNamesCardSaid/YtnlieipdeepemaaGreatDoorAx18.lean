/- AX, part 18: an operation of a region, in the walk's terms. -/
import Derived.Test.YtnlieipdeepemaaGreatDoorAx17
import Derived.Lib.Bytealg
import Derived.RangeFuncLeaves
import Derived.DefersIn
import Derived.RangeFuncRecord
namespace Go.Proofs.YtnlieipdeepemaaGreatDoor.AX
open Go
variable {P : Program} {σ : Sig} {w : World} {pr : Pr} {hp : Hp}

/-- No wall: every function, any depth; in a round of this loop, or in none. -/
abbrev FF (ro : Option Nat) : Fence := { fn := fun _ => True, depth := none, alive := false, round := ro }
theorem FF_wide : FF none = Fence.wide := rfl

/-- What a frame has deferred. -/
def DsRel (σ : Sig) : List ADef → List Deferred → Prop
  | [], [] => True
  | .mark r :: l, d :: ds => (∃ i, σ r = some i ∧ d = { target := .collected i.blk, args := #[] }) ∧ DsRel σ l ds
  | .call f args :: l, d :: ds => (∃ g p q vs ws as, f = .fn (.func g) p q ∧ d = { target := .fn (.func g) ws, args := vs ++ as } ∧ VRels σ p vs.toList ∧ VRels σ q ws.toList ∧ VRels σ args as.toList) ∧ DsRel σ l ds
  | _, _ => False
theorem DsRel.mono {τ : Sig} (hs : σ ≤ τ) : ∀ {l : List ADef} {ds : List Deferred}, DsRel σ l ds → DsRel τ l ds
  | [], [], _ => trivial
  | .mark _ :: _, _ :: _, ⟨⟨i, h1, h2⟩, h⟩ => ⟨⟨i, hs _ _ h1, h2⟩, DsRel.mono hs h⟩
  | .call _ _ :: _, _ :: _, ⟨⟨g, p, q, vs, ws, as, h1, h2, h3, h4, h5⟩, h⟩ => ⟨⟨g, p, q, vs, ws, as, h1, h2, h3.mono hs, h4.mono hs, h5.mono hs⟩, DsRel.mono hs h⟩
  | [], _ :: _, h => h.elim
  | .call _ _ :: _, [], h => h.elim
  | .mark _ :: _, [], h => h.elim

/-- The state of a frame, abstract and true. -/
structure St (pr : Pr) (σ : Sig) (sz : Nat) (nf : Nat) (fr : Fr) (ds : List ADef) (hp : Hp) (nx : Nat) (a : Act) (w : World) : Prop where
  fr : FrRel σ fr sz a.tmps
  ds : DsRel σ ds a.defers
  r : R pr σ hp w
  fresh : Fresh σ nx nf

theorem opd_rel {fr : Fr} {sz : Nat} {a : Act} (h : FrRel σ fr sz a.tmps) (x : Operand) : VRel σ (opd fr x) (a.eval x) := by
  unfold opd
  split
  · rename_i t
    split
    · rename_i v hv
      obtain ⟨y, h1, h2⟩ := h.2 t v hv
      have : a.eval (.tmp t) = y := by simp [Act.eval, h1]
      rw [this]; exact h2
    · exact .bad _
  · exact ofVal_rel _
  · exact .gptr _ _
  · exact .fn _ .nil .nil
theorem FrRel.set {fr : Fr} {sz : Nat} {tm : Array Value} (h : FrRel σ fr sz tm) {t : Nat} {v : AV} {x : Value} (ht : t < sz) (hv : VRel σ v x) : FrRel σ (fr.set t v) sz (tm.setIfInBounds t x) := by
  refine ⟨by simpa using h.1, fun k u hk => ?_⟩
  rw [Fr.get_set] at hk
  split at hk
  · rename_i e; subst e; obtain rfl := nb_some hk
    refine ⟨x, ?_, hv⟩
    have : k < tm.size := by rw [h.1]; exact ht
    simp [this]
  · rename_i e
    obtain ⟨y, h1, h2⟩ := h.2 k u hk
    exact ⟨y, by rw [Array.getElem?_setIfInBounds_ne (Ne.symm e)]; exact h1, h2⟩
/-- A result laid into its slot. -/
theorem put_rel {fr : Fr} {sz : Nat} {a : Act} (h : FrRel σ fr sz a.tmps) {d : Option Tmp} {v : AV} {x : Value} (hv : VRel σ v x) {k : Fr → Res} {r : Res} (hk : putK sz d v fr k = r) (hr : ∀ s, r ≠ .fail s) :
    ∃ fr', k fr' = r ∧ FrRel σ fr' sz (a.put d x).tmps := by
  rcases putK_done hk hr with ⟨rfl, h1⟩ | ⟨t, rfl, ht, h1⟩
  · exact ⟨fr, h1, h⟩
  · exact ⟨_, h1, h.set ht hv⟩
theorem put_defers (a : Act) (d : Option Tmp) (x : Value) : (a.put d x).defers = a.defers := by cases d <;> rfl

/-- What a call comes to. -/
def Post (pr : Pr) (σ : Sig) (nx : Nat) (v : AV) (hp' : Hp) (nx' : Nat) : Ending → World → Prop := fun e w' =>
  ∃ τ v', e = .returned v' ∧ VRel τ v v' ∧ Ext σ τ nx nx' ∧ R pr τ hp' w'
/-- yield's temporaries. -/
def setPs (r : Loop) (args : Array Value) : Array Value := (r.params.zip args).foldl (fun tmps (t, a) => tmps.setIfInBounds t a) r.tmps
/-- What is known of the calls a level below. -/
structure CallsOk (C : Ctx) (cl : CallF) : Prop where
  mono : ClM cl
  fn : ∀ f args hp nx v hp' nx', cl (.fn f) args hp nx = .done v hp' nx' → ∀ (pr : Pr) (σ : Sig) (w : World) (args' : Array Value), R pr σ hp w → GlOk C pr → Fresh σ nx nx' → VRels σ args args'.toList →
    (∃ (fn : Func) (c : Code), C.P.funcs[f]? = some fn ∧ fn.body = some c) ∧ CallsIn (FF none) 0 C.P f args' w (Post pr σ nx v hp' nx')
  dfd : ∀ f args hp nx v hp' nx', cl (.dfd f) args hp nx = .done v hp' nx' → ∀ (pr : Pr) (σ : Sig) (w : World) (args' : Array Value), R pr σ hp w → GlOk C pr → Fresh σ nx nx' → VRels σ args args'.toList →
    (∃ (fn : Func) (c : Code), C.P.funcs[f]? = some fn ∧ fn.body = some c) ∧ CallsDIn (FF none) 0 C.P f args' .returning w fun e u' w' => u' = .returning ∧ Post pr σ nx v hp' nx' e w'
  rnd : ∀ l args hp nx v hp' nx', cl (.rnd l) args hp nx = .done v hp' nx' → ∀ (pr : Pr) (σ : Sig) (w : World) (args' : Array Value) (i : Info), R pr σ hp w → GlOk C pr → Fresh σ nx nx' → VRels σ args args'.toList → σ l = some i →
    ∃ r : Loop, w.heap[i.blk]? = some (.loop r) ∧ args'.size = r.params.size ∧ RoundIn (FF none) 0 C.P i.blk r.fn (setPs r args') r.assign r.body w (Post pr σ nx v hp' nx')
/-- What a function without a body is, of each kind. -/
def ExtFn (k : Nat) (fn : Func) : Prop :=
  match k with
  | 0 => Extern.find fn = some Extern.BytealgCompare.compare
  | _ => False
/-- What is asked of the table of functions without a body. -/
def ExtOk (C : Ctx) : Prop := ∀ g k, C.ext.get g = some k → ∃ fn, C.P.funcs[g]? = some fn ∧ (fn.name == "runtime.NumGoroutine") = false ∧ fn.body.isNone = true ∧ Extern.findNext fn = none ∧ ExtFn k fn
/-- What is asked of the functions whose answer is known. -/
def OrcOk (C : Ctx) : Prop := ∀ f o, C.orc.get f = some o → (∃ (fn : Func) (c : Code), C.P.funcs[f]? = some fn ∧ fn.body = some c) ∧
  ∀ args hp nx v hp' nx', o args hp nx = some (v, hp', nx') → nx ≤ nx' ∧ ∀ (pr : Pr) (σ : Sig) (w : World) (args' : Array Value), R pr σ hp w → GlOk C pr → Fresh σ nx nx' → VRels σ args args'.toList →
    CallsIn (FF none) 0 C.P f args' w (Post pr σ nx v hp' nx')
/-- What is asked of the deferred functions whose answer is known. -/
def DfdOk (C : Ctx) : Prop := ∀ f o, C.dfd.get f = some o → (∃ (fn : Func) (c : Code), C.P.funcs[f]? = some fn ∧ fn.body = some c) ∧
  ∀ args hp nx v hp' nx', o args hp nx = some (v, hp', nx') → nx ≤ nx' ∧ ∀ (pr : Pr) (σ : Sig) (w : World) (args' : Array Value), R pr σ hp w → GlOk C pr → Fresh σ nx nx' → VRels σ args args'.toList →
    CallsDIn (FF none) 0 C.P f args' .returning w fun e u' w' => u' = .returning ∧ Post pr σ nx v hp' nx' e w'
/-- No 'defer' is met in a round. -/
class RdOk (C : Ctx) (ro : Option Nat) : Prop where
  ok : C.rd = true ∨ ro = none
structure POk (P : Program) : Prop where
  name : ∀ (f : FuncId) (fn : Func), P.funcs[f]? = some fn → fn.body.isSome = true → (fn.name == "runtime.NumGoroutine") = false
  mixed : P.follows .mixedOrders = true

theorem run_callFunc (hP : POk P) {f : FuncId} {fn : Func} {c : Code} (hf : P.funcs[f]? = some fn) (hb : fn.body = some c) (args : Array Value) : (callFunc f args).run P w = .ok (.enter f args) w := by
  have h1 := hP.name f fn hf (by simp [hb])
  simp only [callFunc, Sem.run_bind, run_program, Result.andThen_ok, hf, h1, Bool.false_eq_true, if_false, hb, Option.isNone_some]
  rfl
theorem cmpB_eq : ∀ (x y : List UInt8), cmpB (x.map UInt8.toNat) (y.map UInt8.toNat) = Lib.compareBytes x y
  | [], [] => rfl
  | [], _ :: _ => rfl
  | _ :: _, [] => rfl
  | a :: x, b :: y => by
    simp only [List.map_cons, cmpB, Lib.compareBytes, UInt8.lt_iff_toNat_lt]
    cases hab : Nat.beq a.toNat b.toNat with
    | true =>
      have hab := Nat.eq_of_beq_eq_true hab
      rw [if_neg (by omega), if_neg (by omega)]
      exact cmpB_eq x y
    | false =>
      have hne : a.toNat ≠ b.toNat := fun e => by rw [e] at hab; simp at hab
      cases hle : Nat.ble a.toNat b.toNat with
      | true =>
        have := Nat.le_of_ble_eq_true hle
        rw [if_pos (by omega)]
      | false =>
        have hn : ¬ a.toNat ≤ b.toNat := fun h => by rw [Nat.ble_eq_true_of_le h] at hle; cases hle
        rw [if_neg (by omega), if_pos (by omega)]
theorem ext_sound {C : Ctx} (hx : ExtOk C) {g k : Nat} {args : List AV} {args' : Array Value} {v : AV} (hg : C.ext.get g = some k) (h : extA k args = some v) (ha : VRels σ args args'.toList) :
    ∃ v', (callFunc g args').run C.P w = .ok (.value v') w ∧ VRel σ v v' := by
  obtain ⟨fn, h1, h2, h3, h4, h5⟩ := hx g k hg
  unfold extA at h
  split at h
  · split at h
    · rename_i a b
      cases h
      have h5 : Extern.find fn = some Extern.BytealgCompare.compare := h5
      obtain ⟨x, y, he, hx1, hy1⟩ : ∃ x y, args' = #[x, y] ∧ VRel σ (.str a) x ∧ VRel σ (.str b) y := by
        obtain ⟨l⟩ := args'
        cases ha with
        | cons p t =>
          cases t with
          | cons q t => cases t with
            | nil => exact ⟨_, _, rfl, p, q⟩
      obtain ⟨s, rfl, hs⟩ := hx1.str_inv
      obtain ⟨u, rfl, hu⟩ := hy1.str_inv
      subst he
      refine ⟨.int .i64 (cmpB a b), ?_, .int _ _⟩
      have hrun := Lib.run_compareString (P := C.P) s u w
      simp only [callFunc, Sem.run_bind, run_program, Result.andThen_ok, h1, h2, Bool.false_eq_true, if_false, h3, if_true, h4, h5]
      have e : cmpB a b = Lib.compareBytes s.data.toList u.data.toList := by
        rw [← hs, ← hu]
        exact cmpB_eq _ _
      rw [e]
      have hmark : (mark (.extern g) : Sem Unit).run C.P w = .ok () w := rfl
      rw [hmark]
      simp only [Result.andThen_ok]
      rw [hrun]
      rfl
    · cases h
  · cases h
theorem maps_rel {ρ : Operand → AV} {ρ' : Operand → Value} (xs : Array Operand) (h : ∀ x ∈ xs, VRel σ (ρ x) (ρ' x)) : VRels σ (xs.toList.map ρ) (xs.map ρ').toList := by
  have := VRels.map (σ := σ) (f := ρ) (g := ρ') (l := xs.toList) fun x hx => h x (by simpa using hx)
  simpa using this

variable {C : Ctx} {cl : CallF} {ro : Option Nat}
theorem callFn_sound (hP : POk C.P) (hc : CallsOk C cl) (hg : GlOk C pr) {f v : AV} {fv : Value} {args : List AV} {args' : Array Value} {nx nx' : Nat} {hp' : Hp}
    (h : callFn cl f args hp nx = .done v hp' nx') (hf : VRel σ f fv) (ha : VRels σ args args'.toList) (r : R pr σ hp w) (hfr : Fresh σ nx nx') :
    ∃ d g as, (Deferred.ofValue fv args').run C.P w = .ok d w ∧ (invoke d.target d.args).run C.P w = .ok (.enter g as) w ∧ CallsIn (FF none) 0 C.P g as w (Post pr σ nx v hp' nx') := by
  unfold callFn at h
  split at h
  · rename_i g first captured
    obtain ⟨vs, ws, rfl, h1, h2⟩ := hf.fn_inv
    have hall : VRels σ (first ++ args ++ captured) ((vs ++ args') ++ ws).toList := by
      simpa using (h1.append ha).append h2
    obtain ⟨⟨fn, c, e1, e2⟩, e3⟩ := hc.fn _ _ _ _ _ _ _ h pr σ w _ r hg hfr hall
    exact ⟨{ target := .fn (.func g) ws, args := vs ++ args' }, g, _, rfl, run_callFunc hP e1 e2 _, e3⟩
  · cases h
theorem callVal_sound (hP : POk C.P) (hX : ExtOk C) (hc : CallsOk C cl) (hg : GlOk C pr) {f v : AV} {fv : Value} {args : List AV} {args' : Array Value} {nx nx' : Nat} {hp' : Hp}
    (h : callVal C.ext cl f args hp nx = .done v hp' nx') (hf : VRel σ f fv) (ha : VRels σ args args'.toList) (r : R pr σ hp w) (hfr : Fresh σ nx nx') {o : Oper} {a : Act} {next : Act → World → Prop} {Q : Exit → Act → World → Prop}
    (hn : ∀ v' w' τ, VRel τ v v' → Ext σ τ nx nx' → R pr τ hp' w' → next (a.put o.dst v') w') :
    o.uponIn (FF ro) 0 C.P a next Q ((do let d ← Deferred.ofValue fv args'; invoke d.target d.args : Sem Next).run C.P w) := by
  have post : ∀ e w', Post pr σ nx v hp' nx' e w' → (match e, w' with
      | .returned v, w'' => next (a.put o.dst v) w''
      | .panicked chain, w'' => Q (.panic chain) a w''
      | .outgrown, _ => LetsOut Q) := by
    rintro e w' ⟨τ, v', rfl, h1, h2, h3⟩
    exact hn v' w' τ h1 h2 h3
  unfold callVal at h
  split at h
  · rename_i g first captured
    obtain ⟨vs, ws, rfl, h1, h2⟩ := hf.fn_inv
    have hall : VRels σ (first ++ args ++ captured) ((vs ++ args') ++ ws).toList := by
      simpa using (h1.append ha).append h2
    split at h
    · obtain ⟨⟨fn, c, e1, e2⟩, e3⟩ := hc.fn _ _ _ _ _ _ _ h pr σ w _ r hg hfr hall
      simp only [Deferred.ofValue, Sem.run_bind, Sem.run_pure, Result.andThen_ok, invoke, run_callFunc hP e1 e2]
      rw [Oper.uponIn_enter]
      exact ⟨fun h => by simp at h, CallsIn.mono e3 post⟩
    · rename_i k hk
      split at h
      · rename_i v0 hv0
        cases h
        obtain ⟨v', e1, e2⟩ := ext_sound (w := w) hX hk hv0 hall
        simp only [Deferred.ofValue, Sem.run_bind, Sem.run_pure, Result.andThen_ok, invoke, e1]
        rw [Oper.uponIn_value]
        exact hn v' w σ e2 (Ext.refl _ _) r
      · cases h
  · rename_i id
    obtain ⟨i, hi, rfl⟩ := hf.yld_inv
    obtain ⟨lr, e1, e2, e3⟩ := hc.rnd _ _ _ _ _ _ _ h pr σ w args' i r hg hfr ha hi
    simp only [Deferred.ofValue, Sem.run_bind, Sem.run_pure, Result.andThen_ok, invoke]
    rw [show (#[] : Array Value) ++ args' = args' from by simp]
    rw [run_yield e1 e2]
    rw [Oper.uponIn_round]
    exact ⟨fun h => by simp at h, RoundIn.mono e3 post⟩
  · cases h
theorem methodA_sound {t : TypeId} {name : String} {f : FuncId} (h : methodA P t name = some f) (n : Nat) (v : Value) : (method (n + 1) t v name).run P w = .ok (f, v) w := by
  unfold methodA at h
  split at h
  · rename_i i hi
    split at h
    · rename_i m hm
      split at h
      · rename_i f' ptr hpath hfunc
        have hpath : m.path = #[] := by simpa using hpath
        unfold method
        simp only [Sem.run_bind, run_typeInfo hi, Result.andThen_ok, hm, hpath, follow, Sem.run_pure, hfunc]
        split at h
        · rename_i e hu
          split at h
          · cases h
            simp only [receiverAt, Sem.run_bind, run_underlying_some hu, Result.andThen_ok, Place.get, Sem.run_pure]
          · cases h
        · rename_i d hd hu
          split at h
          · cases h
          · cases h
            have hne : ∀ e, d ≠ .pointer e := hd
            cases d <;> first | (exact absurd rfl (hne _)) | skip
            all_goals simp only [receiverAt, Sem.run_bind, run_underlying_some hu, Result.andThen_ok, Place.get, Sem.run_pure]
        · cases h
      · cases h
    · cases h
  · cases h
theorem invokeA_sound (hP : POk C.P) (hc : CallsOk C cl) (hg : GlOk C pr) {x v : AV} {xv : Value} {name : String} {args : List AV} {args' : Array Value} {nx nx' : Nat} {hp' : Hp}
    (h : invokeA C cl x name args hp nx = .done v hp' nx') (hf : VRel σ x xv) (ha : VRels σ args args'.toList) (r : R pr σ hp w) (hfr : Fresh σ nx nx') {o : Oper} {a : Act} {next : Act → World → Prop} {Q : Exit → Act → World → Prop}
    (hn : ∀ v' w' τ, VRel τ v v' → Ext σ τ nx nx' → R pr τ hp' w' → next (a.put o.dst v') w') :
    o.uponIn (FF ro) 0 C.P a next Q ((invoke (.fn (.method name) #[]) (#[xv] ++ args') : Sem Next).run C.P w) := by
  have post : ∀ e w', Post pr σ nx v hp' nx' e w' → (match e, w' with
      | .returned v, w'' => next (a.put o.dst v) w''
      | .panicked chain, w'' => Q (.panic chain) a w''
      | .outgrown, _ => LetsOut Q) := by
    rintro e w' ⟨τ, v', rfl, h1, h2, h3⟩
    exact hn v' w' τ h1 h2 h3
  unfold invokeA at h
  split at h
  · rename_i t u
    obtain ⟨y, rfl, hy⟩ := hf.iface_inv
    split at h
    · rename_i f hm
      have hall : VRels σ (u :: args) (#[y] ++ args').toList := by simpa using VRels.cons hy ha
      obtain ⟨⟨fn, c, e1, e2⟩, e3⟩ := hc.fn _ _ _ _ _ _ _ h pr σ w _ r hg hfr hall
      have h0 : (#[Value.iface t y] ++ args')[0]? = some (.iface t y) := by rw [Array.getElem?_append_left (by simp)]; rfl
      have hx : (#[Value.iface t y] ++ args').extract 1 (#[Value.iface t y] ++ args').size = args' := by
        apply Array.ext'
        simp
      have hd : C.P.types.size + Made.depth = (C.P.types.size + (Made.depth - 1)) + 1 := by
        have : 0 < Made.depth := by decide
        omega
      simp only [invoke, h0, hx, callMethod, Sem.run_bind, run_program, Result.andThen_ok]
      rw [hd, methodA_sound hm]
      simp only [Result.andThen_ok, run_callFunc hP e1 e2]
      rw [Oper.uponIn_enter]
      exact ⟨fun h => by simp at h, CallsIn.mono e3 post⟩
    · cases h
  · cases h
theorem wA_sound (hP : POk C.P) (hX : ExtOk C) (hc : CallsOk C cl) (hg : GlOk C pr) {o : Oper} {ρ : Operand → AV} {a : Act} {v : AV} {nx nx' : Nat} {hp' : Hp}
    (h : wA C cl o.op ρ hp nx = .done v hp' nx') (hr : ∀ x ∈ o.op.operands, VRel σ (ρ x) (a.eval x)) (r : R pr σ hp w) (hfr : Fresh σ nx nx') {next : Act → World → Prop} {Q : Exit → Act → World → Prop}
    (hn : ∀ v' w' τ, VRel τ v v' → Ext σ τ nx nx' → R pr τ hp' w' → next (a.put o.dst v') w') :
    o.uponIn (FF ro) 0 C.P a next Q ((o.semAt ro a.eval).run C.P w) := by
  unfold wA at h
  split at h
  · rename_i t x y ho
    rw [ho] at hr
    obtain ⟨w', h1, rfl, rfl, h2⟩ := storeA_sound h (hr x (by simp [Op.operands])) (hr y (by simp [Op.operands])) r
    rw [Oper.semAt_eq ro _ _ (fun c hcc => by rw [ho] at hcc; cases hcc)]
    have : (execOp a.eval o).run C.P w = .ok .skip w' := by simp [execOp, ho, h1]
    rw [this, Oper.uponIn_skip]
    exact hn undef w' σ (.tup .nil) (Ext.refl _ _) h2
  · rename_i t x y z ho
    rw [ho] at hr
    obtain ⟨w', h1, rfl, rfl, h2⟩ := mapUpdateA_sound h (hr x (by simp [Op.operands])) (hr y (by simp [Op.operands])) (hr z (by simp [Op.operands])) r
    rw [Oper.semAt_eq ro _ _ (fun c hcc => by rw [ho] at hcc; cases hcc)]
    have : (execOp a.eval o).run C.P w = .ok .skip w' := by simp [execOp, ho, h1]
    rw [this, Oper.uponIn_skip]
    exact hn undef w' σ (.tup .nil) (Ext.refl _ _) h2
  · rename_i t x y z ho
    rw [ho] at hr
    obtain ⟨w', h1, rfl, rfl, h2⟩ := mapUpdateA_sound h (hr x (by simp [Op.operands])) (hr y (by simp [Op.operands])) (hr z (by simp [Op.operands])) r
    rw [Oper.semAt_eq ro _ _ (fun c hcc => by rw [ho] at hcc; cases hcc)]
    have : (execOp a.eval o).run C.P w = .ok .skip w' := by simp [execOp, ho, h1]
    rw [this, Oper.uponIn_skip]
    exact hn undef w' σ (.tup .nil) (Ext.refl _ _) h2
  · rename_i t x ho
    rw [ho] at hr
    obtain ⟨v', w', τ, e1, e2, e3, e4⟩ := rangeA_sound h (hr x (by simp [Op.operands])) r hfr
    rw [Oper.semAt_eq ro _ _ (fun c hcc => by rw [ho] at hcc; cases hcc)]
    have : (execOp a.eval o).run C.P w = .ok (.value v') w' := by simp [execOp, ho, e1]
    rw [this, Oper.uponIn_value]
    exact hn v' w' τ e2 e3 e4
  · rename_i it str ho
    rw [ho] at hr
    split at h
    · obtain ⟨v', w', e1, e2, rfl, e4⟩ := nextA_sound (P := C.P) (ty := o.type) h (hr it (by simp [Op.operands])) r
      rw [Oper.semAt_eq ro _ _ (fun c hcc => by rw [ho] at hcc; cases hcc)]
      have : (execOp a.eval o).run C.P w = .ok (.value v') w' := by simp [execOp, ho, e1]
      rw [this, Oper.uponIn_value]
      exact hn v' w' σ e2 (Ext.refl _ _) e4
    · cases h
  · rename_i c ho
    rw [ho] at hr
    rw [Oper.semAt_eq ro _ _ (fun c hcc => by rw [ho] at hcc; cases hcc)]
    split at h
    · rename_i f hcal
      have ha := maps_rel (σ := σ) (ρ := ρ) (ρ' := a.eval) c.args fun x hx => hr x (by simp [Op.operands, Call.operands, hcal, hx])
      have hf := hr f (by simp [Op.operands, Call.operands, hcal])
      have := callVal_sound (ro := ro) hP hX hc hg h hf ha r hfr (o := o) (a := a) (Q := Q) hn
      simpa [execOp, ho, resolve, hcal] using this
    · rename_i hcal
      split at h
      · rename_i s x hs hx
        have hrs := hr s (by simp [Op.operands, Call.operands, hcal, Array.mem_of_getElem? hs])
        have hrx := hr x (by simp [Op.operands, Call.operands, hcal, Array.mem_of_getElem? hx])
        obtain ⟨v', w', τ, e1, e2, e3, e4⟩ := appendA_sound (ty := o.type) (args := c.args.map a.eval) h (by simp [hs]) (by simp [hx]) hrs hrx r hfr
        have : (execOp a.eval o).run C.P w = .ok (.value v') w' := by simp [execOp, ho, resolve, hcal, invoke, builtin, e1]
        rw [this, Oper.uponIn_value]
        exact hn v' w' τ e2 e3 e4
      · cases h
    · rename_i hcal
      split at h
      · rename_i d s hd hs
        have hrd := hr d (by simp [Op.operands, Call.operands, hcal, Array.mem_of_getElem? hd])
        have hrs := hr s (by simp [Op.operands, Call.operands, hcal, Array.mem_of_getElem? hs])
        obtain ⟨v', w', e1, e2, rfl, e4⟩ := copyA_sound (ty := o.type) (args := c.args.map a.eval) h (by simp [hd]) (by simp [hs]) hrd hrs r
        have : (execOp a.eval o).run C.P w = .ok (.value v') w' := by simp [execOp, ho, resolve, hcal, invoke, builtin, e1]
        rw [this, Oper.uponIn_value]
        exact hn v' w' σ e2 (Ext.refl _ _) e4
      · cases h
    · rename_i hcal
      split at h
      · rename_i m k hd hs
        have hrd := hr m (by simp [Op.operands, Call.operands, hcal, Array.mem_of_getElem? hd])
        have hrs := hr k (by simp [Op.operands, Call.operands, hcal, Array.mem_of_getElem? hs])
        obtain ⟨v', w', e1, e2, rfl, e4⟩ := deleteA_sound (ty := o.type) (args := c.args.map a.eval) h (by simp [hd]) (by simp [hs]) hrd hrs r
        have : (execOp a.eval o).run C.P w = .ok (.value v') w' := by simp [execOp, ho, resolve, hcal, invoke, builtin, e1]
        rw [this, Oper.uponIn_value]
        exact hn v' w' σ e2 (Ext.refl _ _) e4
      · cases h
    · rename_i hcal
      split at h
      · rename_i x hargs
        have hrd := hr x (by simp [Op.operands, Call.operands, hcal, ← Array.mem_toList_iff, hargs])
        obtain ⟨v', w', e1, e2, rfl, e4⟩ := dataA_sound (P := C.P) (ts := c.argTypes) (ty := o.type) h hrd r
        have hmap : c.args.map a.eval = #[a.eval x] := by apply Array.ext'; simp [hargs]
        have : (execOp a.eval o).run C.P w = .ok (.value v') w' := by simp [execOp, ho, resolve, hcal, invoke, builtin, hmap, e1]
        rw [this, Oper.uponIn_value]
        exact hn v' w' σ e2 (Ext.refl _ _) e4
      · cases h
    · rename_i hcal
      split at h
      · rename_i x y hargs
        have hrx := hr x (by simp [Op.operands, Call.operands, hcal, ← Array.mem_toList_iff, hargs])
        have hry := hr y (by simp [Op.operands, Call.operands, hcal, ← Array.mem_toList_iff, hargs])
        obtain ⟨v', w', e1, e2, rfl, e4⟩ := ustrA_sound (ts := c.argTypes) (ty := o.type) h hrx hry r
        have hmap : c.args.map a.eval = #[a.eval x, a.eval y] := by apply Array.ext'; simp [hargs]
        have : (execOp a.eval o).run C.P w = .ok (.value v') w' := by simp [execOp, ho, resolve, hcal, invoke, builtin, hmap, e1]
        rw [this, Oper.uponIn_value]
        exact hn v' w' σ e2 (Ext.refl _ _) e4
      · cases h
    · rename_i hcal
      split at h
      · rename_i d hd
        have hrd := hr d (by simp [Op.operands, Call.operands, hcal, Array.mem_of_getElem? hd])
        obtain ⟨v', w', e1, e2, rfl, e4⟩ := clearA_sound (ty := o.type) (args := c.args.map a.eval) h (by simp [hd]) hrd r
        have : (execOp a.eval o).run C.P w = .ok (.value v') w' := by simp [execOp, ho, resolve, hcal, invoke, builtin, e1]
        rw [this, Oper.uponIn_value]
        exact hn v' w' σ e2 (Ext.refl _ _) e4
      · cases h
    · rename_i recv name hcal
      have ha := maps_rel (σ := σ) (ρ := ρ) (ρ' := a.eval) c.args fun x hx => hr x (by simp [Op.operands, Call.operands, hcal, hx])
      have hf := hr recv (by simp [Op.operands, Call.operands, hcal])
      have := invokeA_sound (ro := ro) hP hc hg h hf ha r hfr (o := o) (a := a) (Q := Q) hn
      simpa [execOp, ho, resolve, hcal] using this
    · cases h
  · cases h
end Go.Proofs.YtnlieipdeepemaaGreatDoor.AX
