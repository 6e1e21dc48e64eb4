/- AX, part 19: a region in the text's order. -/
import Derived.Test.YtnlieipdeepemaaGreatDoorAx18
namespace Go.Proofs.YtnlieipdeepemaaGreatDoor.AX
open Go
variable {P : Program} {σ : Sig} {w : World} {pr : Pr} {hp : Hp} {C : Ctx} {cl : CallF} {ro : Option Nat}

theorem wantedA_sound {all : Array Oper} {fr : Fr} {sz : Nat} {a : Act} {o : Oper} {b : Bool} (h : wantedA all fr o = some b) (hf : FrRel σ fr sz a.tmps) :
    Region.wanted o (yielded all a.tmps) = b := by
  unfold wantedA at h
  unfold Region.wanted
  split at h
  · rename_i hg; cases h; rw [hg]
  · rename_i j u hg
    rw [hg]
    simp only
    split at h
    · rename_i d hd
      split at h
      · rename_i x hx
        cases h
        obtain ⟨y, h1, h2⟩ := hf.2 d _ hx
        obtain rfl := h2.bool_inv
        simp [yielded, hd, h1]
      · rename_i x hx
        cases h
        obtain ⟨y, h1, h2⟩ := hf.2 d _ hx
        obtain ⟨vs, rfl, _⟩ := h2.tup_inv
        simp [yielded, hd, h1]
      · cases h
    · cases h
theorem about_any (o : Oper) (P : Program) (w : World) (ρ : Operand → Value) : ∀ f, o.about P w ρ = some f → (FF ro).fn f := fun _ _ => trivial

section
variable {vf : AV} {hf : Hp} {nf : Nat}
theorem res_ne : ∀ s, (Res.done vf hf nf) ≠ .fail s := fun s h => by cases h
theorem St.step {σ τ : Sig} {sz : Nat} {fr fr' : Fr} {ds : List ADef} {hp hp' : Hp} {nx nx' : Nat} {a : Act} {w w' : World} {d : Option Tmp} {x : Value} (s : St pr σ sz nf fr ds hp nx a w)
    (e : Ext σ τ nx nx') (hfr : FrRel τ fr' sz (a.put d x).tmps) (hr : R pr τ hp' w') : St pr τ sz nf fr' ds hp' nx' (a.put d x) w' :=
  ⟨hfr, by rw [put_defers]; exact s.ds.mono e.le, hr, s.fresh.after e⟩
/-- What 'kn' must be good for. -/
def Next_ (pr : Pr) (σ : Sig) (sz nf : Nat) (nx : Nat) (vf : AV) (hf : Hp) (kn : KN) (next : Act → World → Prop) : Prop :=
  ∀ fr' ds' hp' nx' σ' a' w', kn fr' ds' hp' nx' = .done vf hf nf → Ext σ σ' nx nx' → St pr σ' sz nf fr' ds' hp' nx' a' w' → next a' w'
theorem Next_.later {σ τ : Sig} {sz nx nx' : Nat} {kn : KN} {next : Act → World → Prop} (h : Next_ pr σ sz nf nx vf hf kn next) (e : Ext σ τ nx nx') : Next_ pr τ sz nf nx' vf hf kn next :=
  fun fr' ds' hp' nx'' σ' a' w' h1 h2 h3 => h fr' ds' hp' nx'' σ' a' w' h1 (e.trans h2) h3

theorem deferA_sound [hrd : RdOk C ro] {o : Oper} {ρ : Operand → AV} {a : Act} {d : ADef} (h : deferA C o.op ρ = some d) (hr : ∀ x ∈ o.op.operands, VRel σ (ρ x) (a.eval x)) :
    ∃ d', (o.semAt ro a.eval).run C.P w = .ok (.defer d') w ∧ ∀ l ds, DsRel σ l ds → DsRel σ (d :: l) (d' :: ds) := by
  unfold deferA at h
  split at h
  · rename_i c ho
    rw [ho] at hr
    split at h
    · rename_i f hcal hrf
      split at h
      · rename_i g p q hf
        cases h
        have ha := maps_rel (σ := σ) (ρ := ρ) (ρ' := a.eval) c.args fun x hx => hr x (by simp [Op.operands, Call.operands, hcal, hx])
        have hfv := hr f (by simp [Op.operands, Call.operands, hcal])
        rw [hf] at hfv
        obtain ⟨vs, ws, hX, h1, h2⟩ := hfv.fn_inv
        have hro : ro = none := hrd.ok.resolve_left (by rw [hrf]; simp)
        subst hro
        refine ⟨{ target := .fn (.func g) ws, args := vs ++ c.args.map a.eval }, ?_, fun l ds hl => ⟨⟨g, p, q, vs, ws, _, rfl, rfl, h1, h2, ha⟩, hl⟩⟩
        rw [Oper.semAt_none]
        simp [execOp, ho, resolve, hcal, hX, Deferred.ofValue]
      · cases h
    · cases h
  · cases h
theorem opK_sound [RdOk C ro] (hP : POk C.P) (hX : ExtOk C) (hc : CallsOk C cl) (hg : GlOk C pr) {sz : Nat} {all : Array Oper} {o : Oper} {kn : KN} {kp : List APan → KN} {fr : Fr} {ds : List ADef} {nx : Nat} {a : Act}
    (h : opK C cl sz all o fr ds hp nx kn kp = .done vf hf nf) (s : St pr σ sz nf fr ds hp nx a w) (hm : KM (.done vf hf nf) nf kn) (hkp : ∀ c fr ds hp nx, kp c fr ds hp nx ≠ .done vf hf nf)
    {next : Act → World → Prop} {Q : Exit → Act → World → Prop} (hn : Next_ pr σ sz nf nx vf hf kn next) :
    if Region.wanted o (yielded all a.tmps) then o.wpIn (FF ro) 0 C.P a w next Q else (∀ f, o.about C.P w a.eval = some f → (FF ro).fn f) ∧ next (a.put o.dst undef) w := by
  have hops : ∀ x ∈ o.op.operands, VRel σ (opd fr x) (a.eval x) := fun x _ => opd_rel s.fr x
  unfold opK at h
  split at h
  · cases h
  · rename_i hw
    rw [wantedA_sound hw s.fr, if_neg (by simp)]
    obtain ⟨fr', h1, h2⟩ := put_rel (x := undef) s.fr (.tup .nil) h res_ne
    exact ⟨fun _ _ => trivial, hn _ _ _ _ σ _ _ h1 (Ext.refl _ _) (s.step (Ext.refl _ _) h2 s.r)⟩
  · rename_i hw
    rw [wantedA_sound hw s.fr, if_pos rfl]
    refine ⟨fun _ _ => trivial, ?_⟩
    split at h
    · rename_i hcls
      split at h
      · rename_i v hv
        obtain ⟨v', e1, e2⟩ := pure_sound (w := w) hv hops
        obtain ⟨fr', h1, h2⟩ := put_rel (x := v') s.fr e2 h res_ne
        rw [Oper.semAt_eq _ _ _ (fun c hcc => by rw [hcc] at hv; simp [pureA] at hv), e1, Oper.uponIn_value]
        exact hn _ _ _ _ σ _ _ h1 (Ext.refl _ _) (s.step (Ext.refl _ _) h2 s.r)
      · cases h
    · rename_i hcls
      split at h
      · rename_i v hv
        obtain ⟨v', e1, e2⟩ := readA_sound (w := w) hv hops s.r hg
        obtain ⟨fr', h1, h2⟩ := put_rel (x := v') s.fr e2 h res_ne
        rw [Oper.semAt_eq _ _ _ (fun c hcc => by rw [hcc] at hv; simp [readA] at hv), e1, Oper.uponIn_value]
        exact hn _ _ _ _ σ _ _ h1 (Ext.refl _ _) (s.step (Ext.refl _ _) h2 s.r)
      · cases h
    · rename_i hcls
      split at h
      · rename_i b mk hv
        obtain ⟨v', w', ob, room, e1, e2, es, e3⟩ := alloc_sound (w := w) hv hops
        have hlt : nx < nf := by
          rcases putK_done h res_ne with ⟨_, h⟩ | ⟨_, _, _, h⟩
          · rw [forceN_eq] at h; have := hm _ _ _ _ h; omega
          · rw [forceN_eq] at h; have := hm _ _ _ _ h; omega
        have hfr : σ nx = none := s.fresh nx (Nat.le_refl _) hlt
        have hext := Ext.one (σ := σ) (n := nx) ⟨w.heap.size, 0, room⟩ hfr
        obtain ⟨g1, g2⟩ := e3 _ hext.le
        obtain ⟨fr', h1, h2⟩ := put_rel (x := v') (s.fr.mono hext.le) (g2 nx (Sig.put_same _ _ _)) h res_ne
        rw [forceN_eq] at h1
        rw [Oper.semAt_eq _ _ _ (fun c hcc => by rw [hcc] at hv; simp [allocA] at hv), e1, Oper.uponIn_value]
        refine hn _ _ _ _ _ _ _ h1 hext (s.step hext h2 ?_)
        exact s.r.new hfr g1 e2 es
      · cases h
    · split at h
      · rename_i d hd
        obtain ⟨d', e1, e2⟩ := deferA_sound (ro := ro) (w := w) hd hops
        obtain ⟨fr', h1, h2⟩ := put_rel (x := undef) s.fr (.tup .nil) h res_ne
        rw [e1, Oper.uponIn_defer]
        have hds : ({ a with defers := d' :: a.defers }.put o.dst undef).defers = d' :: a.defers := put_defers _ _ _
        have htm : ({ a with defers := d' :: a.defers }.put o.dst undef).tmps = (a.put o.dst undef).tmps := by cases o.dst <;> rfl
        exact hn _ _ _ _ σ _ _ h1 (Ext.refl _ _) ⟨by rw [htm]; exact h2, by rw [hds]; exact e2 _ _ s.ds, s.r, s.fresh⟩
      · cases h
    · split at h
      · rename_i v hp1 nx1 hw1
        have hle : nx1 ≤ nf := by
          rcases putK_done h res_ne with ⟨_, h⟩ | ⟨_, _, _, h⟩
          · exact hm _ _ _ _ h
          · exact hm _ _ _ _ h
        refine wA_sound hP hX hc hg hw1 hops s.r (s.fresh.upto hle) fun v' w' τ e1 e2 e3 => ?_
        obtain ⟨fr', h1, h2⟩ := put_rel (x := v') (s.fr.mono e2.le) e1 h res_ne
        exact hn _ _ _ _ τ _ _ h1 e2 (s.step e2 h2 e3)
      · exact absurd h (hkp _ _ _ _ _)
      · cases h
      · cases h
theorem opsK_sound [RdOk C ro] (hP : POk C.P) (hX : ExtOk C) (hc : CallsOk C cl) (hg : GlOk C pr) {sz : Nat} {all : Array Oper} {kn : KN} {kp : List APan → KN} (hm : KM (.done vf hf nf) nf kn)
    (hkp : ∀ c fr ds hp nx, kp c fr ds hp nx ≠ .done vf hf nf) {Q : Exit → Act → World → Prop} : ∀ (l : List Oper) (i : Nat), (∀ k, l[k]? = all[i + k]?) → ∀ {fr : Fr} {ds : List ADef} {hp : Hp} {nx : Nat} {a : Act} {w : World} {σ : Sig},
    opsK C cl sz all l kn kp fr ds hp nx = .done vf hf nf → St pr σ sz nf fr ds hp nx a w → Next_ pr σ sz nf nx vf hf kn (Q .normal) →
    wpOpsIn (FF ro) 0 C.P all Q (List.range' i l.length) a w := by
  intro l
  induction l with
  | nil => intro i hi fr ds hp nx a w σ h s hn; exact hn _ _ _ _ σ _ _ h (Ext.refl _ _) s
  | cons o l ih =>
    intro i hi fr ds hp nx a w σ h s hn
    have h0 : all[i]? = some o := by have := hi 0; simpa using this.symm
    rw [List.length_cons, List.range'_succ]
    simp only [wpOpsIn, h0]
    refine opK_sound (kn := opsK C cl sz all l kn kp) hP hX hc hg h s (opsK_mono hc.mono hm hkp l) hkp ?_
    intro fr' ds' hp' nx' σ' a' w' h1 h2 h3
    exact ih (i + 1) (fun k => by have := hi (k + 1); rw [show i + 1 + k = i + (k + 1) from by omega, ← this]; simp) h1 h3 (hn.later h2)
end
end Go.Proofs.YtnlieipdeepemaaGreatDoor.AX
