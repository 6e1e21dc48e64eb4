/- AX, part 22: code, calls: the whole. -/
import Derived.Test.YtnlieipdeepemaaGreatDoorAx21
namespace Go.Proofs.YtnlieipdeepemaaGreatDoor.AX
open Go
variable {P : Program} {σ : Sig} {w : World} {pr : Pr} {hp : Hp} {C : Ctx} {cl : CallF} {ro : Option Nat}
section
variable {vf : AV} {hf : Hp} {nf : Nat}

/-- Rounds with fuel. -/
noncomputable def loopN (body : KN → KN) (n : Nat) : KN := Nat.rec (motive := fun _ => KN) (fun _ _ _ _ => .fail none) (fun _ ih => body ih) n
theorem loopK_eq (body : KN → KN) : loopK body = loopN body 1000000000 := rfl
attribute [local irreducible] loopK
theorem loopN_mono {body : KN → KN} (hmb : ∀ k, KM (.done vf hf nf) nf k → KM (.done vf hf nf) nf (body k)) : ∀ n, KM (.done vf hf nf) nf (loopN body n)
  | 0 => fun _ _ _ _ h => by cases h
  | n + 1 => hmb _ (loopN_mono hmb n)
theorem loopK_sound {body : KN → KN} {c : Code} {sz : Nat} {Q : Exit → Act → World → Prop} (hmb : ∀ k, KM (.done vf hf nf) nf k → KM (.done vf hf nf) nf (body k)) {σ0 : Sig} {nx0 : Nat}
    (hb : ∀ (k : KN) (Q' : Exit → Act → World → Prop) (fr : Fr) (ds : List ADef) (hp : Hp) (nx : Nat) (a : Act) (w : World) (σ : Sig), KM (.done vf hf nf) nf k → body k fr ds hp nx = .done vf hf nf → St pr σ sz nf fr ds hp nx a w → Ext σ0 σ nx0 nx →
      Next_ pr σ sz nf nx vf hf k (Q' .normal) → (∀ e, e ≠ .normal → Q' e = Q e) → c.wpIn (FF ro) 0 P Q' a w) {fr : Fr} {ds : List ADef} {nx : Nat} {a : Act}
    (h : loopK body fr ds hp nx = .done vf hf nf) (s : St pr σ sz nf fr ds hp nx a w) (e : Ext σ0 σ nx0 nx) : (Code.loop c).wpIn (FF ro) 0 P Q a w := by
  have key : ∀ (n : Nat) (fr : Fr) (ds : List ADef) (hp : Hp) (nx : Nat) (a : Act) (w : World) (σ : Sig), loopN body n fr ds hp nx = .done vf hf nf → St pr σ sz nf fr ds hp nx a w → Ext σ0 σ nx0 nx → LoopAt ro P c Q a w := by
    intro n
    induction n with
    | zero => intro fr ds hp nx a w σ h; cases h
    | succ n ih =>
      intro fr ds hp nx a w σ h s e
      refine LoopAt.round (hb _ _ _ _ _ _ _ _ _ (loopN_mono hmb n) h s e (fun fr' ds' hp' nx' σ' a' w' h1 h2 h3 => ih _ _ _ _ _ _ _ h1 h3 (e.trans h2)) fun x hx => ?_)
      cases x <;> first | rfl | exact absurd rfl hx
  rw [loopK_eq] at h
  exact (key _ _ _ _ _ _ _ _ h s e).wp

theorem ex_sound [RdOk C ro] (hP : POk C.P) (hX : ExtOk C) (hc : CallsOk C cl) (hg : GlOk C pr) {sz : Nat} {f : FuncId} {roA : Option Nat} : ∀ (c : Code) {kn : KN} {kx : Nat → KN} {kr : KN} {kp : List APan → KN},
    KM (.done vf hf nf) nf kn → (∀ i, KM (.done vf hf nf) nf (kx i)) → KM (.done vf hf nf) nf kr → (∀ c fr ds hp nx, kp c fr ds hp nx ≠ .done vf hf nf) →
    ∀ {Q : Exit → Act → World → Prop} {fr : Fr} {ds : List ADef} {hp : Hp} {nx : Nat} {a : Act} {w : World} {σ : Sig}, ex C cl f sz roA c kn kx kr kp fr ds hp nx = .done vf hf nf → St pr σ sz nf fr ds hp nx a w → RoRel σ roA ro →
    Next_ pr σ sz nf nx vf hf kn (Q .normal) → (∀ id, Next_ pr σ sz nf nx vf hf (kx id) (Q (.exit id))) → Next_ pr σ sz nf nx vf hf kr (Q .ret) → c.wpIn (FF ro) 0 C.P Q a w := by
  intro c
  induction c with
  | skip => intro kn kx kr kp hmn hmx hmr hkp Q fr ds hp nx a w σ h s hro hn hx hr; exact wpIn_skip (hn _ _ _ _ _ _ _ h (Ext.refl _ _) s)
  | region id ops draw => intro kn kx kr kp hmn hmx hmr hkp Q fr ds hp nx a w σ h s hro hn hx hr; exact regionK_sound hP hX hc hg hmn hkp h s hn
  | seq x y ihx ihy =>
    intro kn kx kr kp hmn hmx hmr hkp Q fr ds hp nx a w σ h s hro hn hx hr
    refine wpIn_seq (ihx (kn := ex C cl f sz roA y kn kx kr kp) (ex_mono hc.mono y hmn hmx hmr hkp) hmx hmr hkp h s hro ?_ hx hr)
    intro fr' ds' hp' nx' σ' a' w' h1 h2 h3
    exact ihy hmn hmx hmr hkp h1 h3 (hro.mono h2.le) (hn.later h2) (fun id => (hx id).later h2) (hr.later h2)
  | cond c x y ihx ihy =>
    intro kn kx kr kp hmn hmx hmr hkp Q fr ds hp nx a w σ h s hro hn hx hr
    have h : condK c (ex C cl f sz roA x kn kx kr kp) (ex C cl f sz roA y kn kx kr kp) fr ds hp nx = .done vf hf nf := h
    have hv := opd_rel s.fr c
    unfold condK at h
    split at h
    · rename_i hb
      rw [hb] at hv
      exact wpIn_cond_true hv.bool_inv (ihx hmn hmx hmr hkp h s hro hn hx hr)
    · rename_i hb
      rw [hb] at hv
      exact wpIn_cond_false hv.bool_inv (ihy hmn hmx hmr hkp h s hro hn hx hr)
    · cases h
  | block id x ihx =>
    intro kn kx kr kp hmn hmx hmr hkp Q fr ds hp nx a w σ h s hro hn hx hr
    have h : ex C cl f sz roA x kn (fun i => Bool.rec (kx i) kn (Nat.beq i id)) kr kp fr ds hp nx = .done vf hf nf := h
    refine wpIn_block (ihx hmn (fun i => ?_) hmr hkp h s hro hn (fun i => ?_) hr)
    · cases hb : Nat.beq i id
      · exact hmx i
      · exact hmn
    · show Next_ pr σ sz nf nx vf hf (Bool.rec (kx i) kn (Nat.beq i id)) (Exit.inBlock id Q (.exit i))
      cases hb : Nat.beq i id
      · have hne := ne_of_beq hb
        have : Exit.inBlock id Q (.exit i) = Q (.exit i) := by funext a w; simp [Exit.inBlock, hne]
        rw [this]; exact hx i
      · have he := Nat.eq_of_beq_eq_true hb
        have : Exit.inBlock id Q (.exit i) = Q .normal := by funext a w; simp [Exit.inBlock, he]
        rw [this]; exact hn
  | loop x ihx =>
    intro kn kx kr kp hmn hmx hmr hkp Q fr ds hp nx a w σ h s hro hn hx hr
    refine loopK_sound (body := fun k => ex C cl f sz roA x k kx kr kp) (fun k hk => ex_mono hc.mono x hk hmx hmr hkp) ?_ h s (Ext.refl _ _)
    intro k Q' fr' ds' hp' nx' a' w' σ' hmk h1 h2 h3 h4 h5
    exact ihx hmk hmx hmr hkp h1 h2 (hro.mono h3.le) h4 (fun id => by rw [h5 _ (by simp)]; exact (hx id).later h3) (by rw [h5 _ (by simp)]; exact hr.later h3)
  | rangeFunc g ps as bd _ _ =>
    intro kn kx kr kp hmn hmx hmr hkp Q fr ds hp nx a w σ h s hro hn hx hr
    exact rangeK_sound hP hX hc hg hmn hmx hmr hkp h s hro hn hx hr
  | exit id => intro kn kx kr kp hmn hmx hmr hkp Q fr ds hp nx a w σ h s hro hn hx hr; exact wpIn_exit (hx id _ _ _ _ _ _ _ h (Ext.refl _ _) s)
  | scope x ihx =>
    intro kn kx kr kp hmn hmx hmr hkp Q fr ds hp nx a w σ h s hro hn hx hr
    exact wpIn_scope (ihx (Q := Exit.noGoto Q) hmn hmx hmr hkp h s hro hn hx hr)
  | label l => intro kn kx kr kp hmn hmx hmr hkp Q fr ds hp nx a w σ h s hro hn hx hr; exact wpIn_label (hn _ _ _ _ _ _ _ h (Ext.refl _ _) s)
  | goto l => intro kn kx kr kp hmn hmx hmr hkp Q fr ds hp nx a w σ h; cases h
  | ret => intro kn kx kr kp hmn hmx hmr hkp Q fr ds hp nx a w σ h s hro hn hx hr; exact wpIn_ret (hr _ _ _ _ _ _ _ h (Ext.refl _ _) s)
  | refuse y => intro kn kx kr kp hmn hmx hmr hkp Q fr ds hp nx a w σ h; cases h
end

/- LEAVING -/
def resOf (tm : Array Value) (x : ResultVar) : Sem Value :=
  match x with
  | .tmp t => pure (tm.getD t undef)
  | .cell a t => do loadVar t (← asAddr (tm.getD a undef))
theorem resultsA_sound {fr : Fr} {sz : Nat} {a : Act} (s : FrRel σ fr sz a.tmps) (r : R pr σ hp w) (hg : GlOk C pr) : ∀ {l : List ResultVar} {vs : List AV}, resultsA C fr hp l = some vs →
    ∃ xs : List Value, (l.mapM (resOf a.tmps)).run C.P w = .ok xs w ∧ VRels σ vs xs := by
  intro l
  induction l with
  | nil => intro vs h; simp only [resultsA, Option.some.injEq] at h; subst h; exact ⟨[], rfl, .nil⟩
  | cons x l ih =>
    intro vs h
    cases x with
    | tmp t =>
      simp only [resultsA] at h
      split at h
      · rename_i l' hl
        cases h
        obtain ⟨xs, h1, h2⟩ := ih hl
        have h0 : (resOf a.tmps (.tmp t)).run C.P w = .ok (a.tmps.getD t undef) w := rfl
        refine ⟨a.tmps.getD t undef :: xs, ?_, .cons (opd_rel s (.tmp t)) h2⟩
        rw [List.mapM_cons]
        simp only [Sem.run_bind, h0, Sem.run_pure, Result.andThen_ok, h1]
      · cases h
    | cell c t =>
      simp only [resultsA] at h
      split at h
      · rename_i v l' hv hl
        cases h
        obtain ⟨xs, h1, h2⟩ := ih hl
        obtain ⟨b, o, v', e1, e2, e3⟩ := loadA_sound hv (opd_rel s (.tmp c)) r hg
        have e1 : a.tmps.getD c undef = .pointer (some ⟨b, o, none⟩) := e1
        have h0 : (resOf a.tmps (.cell c t)).run C.P w = .ok v' w := by simp only [resOf, Sem.run_bind, e1, asAddr, Sem.run_pure, Result.andThen_ok, e2]
        refine ⟨v' :: xs, ?_, .cons e3 h2⟩
        rw [List.mapM_cons]
        simp only [Sem.run_bind, h0, Sem.run_pure, Result.andThen_ok, h1]
      · cases h
theorem results_eq (fn : Func) (tm : Array Value) : results fn tm = (do let vs ← fn.results.mapM (resOf tm); pure (if h : vs.size = 1 then vs[0] else .tuple vs)) := rfl
theorem resultA_sound {fn : Func} {fr : Fr} {sz : Nat} {a : Act} {v : AV} (h : resultA C fn fr hp = some v) (s : FrRel σ fr sz a.tmps) (r : R pr σ hp w) (hg : GlOk C pr) :
    ∃ v', (results fn a.tmps).run C.P w = .ok v' w ∧ VRel σ v v' := by
  unfold resultA at h
  have fin : ∀ {xs : List Value}, (fn.results.toList.mapM (resOf a.tmps)).run C.P w = .ok xs w →
      (results fn a.tmps).run C.P w = .ok (if h : xs.toArray.size = 1 then xs.toArray[0] else .tuple xs.toArray) w := by
    intro xs hm
    rw [results_eq, Array.mapM_eq_mapM_toList]
    simp only [Sem.run_bind, Sem.run_map, hm, Result.andThen_ok, Sem.run_pure]
  split at h
  · rename_i u hu
    cases h
    obtain ⟨xs, h1, h2⟩ := resultsA_sound s r hg hu
    have h3 := fin h1
    cases h2 with
    | cons hv ht =>
    cases ht
    exact ⟨_, h3, hv⟩
  · rename_i l hne hu
    cases h
    obtain ⟨xs, h1, h2⟩ := resultsA_sound s r hg hu
    have h3 := fin h1
    have hlen := h2.length
    have : ¬ xs.toArray.size = 1 := by
      simp only [List.size_toArray]
      intro e
      rw [e] at hlen
      match l, hlen with
      | [y], _ => exact hne y rfl
    rw [dif_neg this] at h3
    exact ⟨_, h3, .tup (by simpa using h2)⟩
  · cases h
end Go.Proofs.YtnlieipdeepemaaGreatDoor.AX
