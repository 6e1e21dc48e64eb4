/- AX, part 23: calls at every level. -/
import Derived.Test.YtnlieipdeepemaaGreatDoorAx22
namespace Go.Proofs.YtnlieipdeepemaaGreatDoor.AX
open Go
variable {P : Program} {σ : Sig} {w : World} {pr : Pr} {hp : Hp} {C : Ctx} {cl : CallF}

theorem leaveA_nil (hp : Hp) (nx : Nat) (k : Hp → Nat → Res) : leaveA cl [] hp nx k = k hp nx := rfl
theorem leaveA_cons (d : ADef) (ds : List ADef) (hp : Hp) (nx : Nat) (k : Hp → Nat → Res) : leaveA cl (d :: ds) hp nx k = (match d with
    | .mark r => match hp.get r with
      | some (.dfr false) => leaveA cl ds (hp.set r (.dfr true)) nx k
      | _ => .fail none
    | .call f args => match f with
      | .fn (.func g) l m => match cl (.dfd g) (l ++ args ++ m) hp nx with
        | .done _ hp nx => leaveA cl ds hp nx k
        | .fail s => .fail s
        | _ => .fail none
      | _ => .fail none) := rfl
theorem leaveA_nx (hc : ClM cl) {vf : AV} {hf : Hp} {nf : Nat} {k : Hp → Nat → Res} (hk : ∀ hp nx, k hp nx = .done vf hf nf → nx ≤ nf) : ∀ (ds : List ADef) (hp : Hp) (nx : Nat), leaveA cl ds hp nx k = .done vf hf nf → nx ≤ nf
  | [], hp, nx, h => hk hp nx h
  | d :: ds, hp, nx, h => by
    rw [leaveA_cons] at h
    split at h
    · split at h
      · exact leaveA_nx hc hk ds _ _ h
      · cases h
    · split at h
      · split at h
        · rename_i hcall
          have h1 := hc _ _ _ _ _ _ _ hcall
          have h2 := leaveA_nx hc hk ds _ _ h
          omega
        · cases h
        · cases h
      · cases h
/-- What is read at the end. -/
noncomputable def endA (C : Ctx) (fn : Func) (fr : Fr) : Hp → Nat → Res := fun hp nx => match resultA C fn fr hp with
  | some v => forceV v fun v => .done v hp nx
  | none => .fail none
theorem endA_nx {vf : AV} {hf : Hp} {nf : Nat} {fn : Func} {fr : Fr} : ∀ hp nx, endA C fn fr hp nx = .done vf hf nf → nx ≤ nf := by
  intro hp nx h
  unfold endA at h
  split at h
  · rw [forceV_eq] at h; cases h; exact Nat.le_refl _
  · cases h
/-- The marks are taken, the deferred calls made, one by one; then the results are read. -/
theorem leaveA_sound (hP : POk C.P) (hc : CallsOk C cl) {vf : AV} {hf : Hp} {nf nx0 : Nat} {σ0 : Sig} {fn : Func} {fr : Fr} {sz : Nat} {a : Act} {RR : Ending → World → Prop} (hg : GlOk C pr)
    (hR : ∀ τ v' w', Ext σ0 τ nx0 nf → VRel τ vf v' → R pr τ hf w' → RR (.returned v') w') : ∀ (ds : List ADef) (dfs : List Deferred) (hp : Hp) (nx : Nat) (w : World) (σ : Sig),
    leaveA cl ds hp nx (endA C fn fr) = .done vf hf nf → Ext σ0 σ nx0 nx → FrRel σ fr sz a.tmps → DsRel σ ds dfs → R pr σ hp w → Fresh σ nx nf → LeavesInM (FF none) 0 C.P fn a.tmps RR dfs .returning w := by
  intro ds
  induction ds with
  | nil =>
    intro dfs hp nx w σ h he hf hd r hfr
    rw [leaveA_nil] at h
    cases dfs with
    | cons d dfs => exact hd.elim
    | nil =>
    unfold endA at h
    split at h
    · rename_i v hv
      rw [forceV_eq] at h
      cases h
      obtain ⟨v', h1, h2⟩ := resultA_sound hv hf r hg
      exact ⟨v', h1, hR σ v' w he h2 r⟩
    · cases h
  | cons d ds ih =>
    intro dfs hp nx w σ h he hf hd r hfr
    rw [leaveA_cons] at h
    split at h
    · rename_i q
      cases dfs with
      | nil => exact hd.elim
      | cons d dfs =>
      obtain ⟨⟨i, hi, rfl⟩, hd⟩ := hd
      split at h
      · rename_i hq
        obtain ⟨i', hi', hb⟩ := r.blk _ _ hq
        rw [hi] at hi'
        cases hi'
        have hb : w.heap[i.blk]? = some (.deferred (some [])) := hb
        obtain ⟨g1, g2⟩ := heap_putObj (o := .deferred none) hb
        exact ⟨by simp, .inl ⟨i.blk, _, rfl, run_takeDeferred hb, ih dfs _ _ _ σ h he hf hd (r.turn hq hi g1 g2 ⟨rfl, rfl⟩) hfr⟩⟩
      · cases h
    · rename_i f args
      cases dfs with
      | nil => exact hd.elim
      | cons d dfs =>
      obtain ⟨⟨g, p, q, vs, ws, as, rfl, rfl, h1, h2, h3⟩, hd⟩ := hd
      simp only at h
      split at h
      · rename_i v1 hp1 nx1 hcall
        have hle := leaveA_nx hc.mono endA_nx ds _ _ h
        have hall : VRels σ (p ++ args ++ q) ((vs ++ as) ++ ws).toList := by simpa using (h1.append h3).append h2
        obtain ⟨⟨fn', c', e1, e2⟩, e3⟩ := hc.dfd _ _ _ _ _ _ _ hcall pr σ w _ r hg (hfr.upto hle) hall
        refine ⟨by simp, .inr ⟨fun h => by simp at h, .func g, ws, g, (vs ++ as) ++ ws, rfl, ?_, fun _ _ => trivial, ?_⟩⟩
        · simp only [invoke]
          exact run_callFunc hP e1 e2 _
        · refine CallsDIn.mono e3 ?_
          rintro e u' w' ⟨rfl, τ, v', rfl, k1, k2, k3⟩
          exact ih dfs _ _ _ τ h (he.trans k2) (hf.mono k2.le) (hd.mono k2.le) k3 (hfr.after k2)
      · cases h
      · cases h
theorem retK_eq (fn : Func) (fr : Fr) (ds : List ADef) (hp : Hp) (nx : Nat) : retK C cl fn fr ds hp nx = leaveA cl ds hp nx (endA C fn fr) := rfl
theorem retK_mono (hc : ClM cl) {vf : AV} {hf : Hp} {nf : Nat} (fn : Func) : KM (.done vf hf nf) nf (retK C cl fn) := by
  intro fr ds hp nx h
  rw [retK_eq] at h
  exact leaveA_nx hc endA_nx ds hp nx h
theorem retD_mono {vf : AV} {hf : Hp} {nf : Nat} (fn : Func) : KM (.done vf hf nf) nf (retD C fn) := by
  intro fr ds hp nx h
  unfold retD at h
  split at h
  · exact endA_nx (C := C) (fn := fn) (fr := fr) hp nx h
  · cases h
theorem panK_not {vf : AV} {hf : Hp} {nf : Nat} : ∀ c fr ds hp nx, panK c fr ds hp nx ≠ .done vf hf nf := fun _ _ _ _ _ h => by cases h

theorem callA_zero (t : Tgt) (args : List AV) (hp : Hp) (nx : Nat) : callA C 0 t args hp nx = .fail none := rfl
theorem callA_fn (n : Nat) (f : FuncId) (args : List AV) (hp : Hp) (nx : Nat) : callA C (n + 1) (.fn f) args hp nx = orcOr C f args hp nx (match C.P.funcs[f]? with
      | some fn => match fn.body with
        | some c => match Nat.ble args.length fn.ntmps with
          | true => ex C (callA C n) f fn.ntmps none c (retK C (callA C n) fn) (fun _ => failK) (retK C (callA C n) fn) panK (frL args) [] hp nx
          | false => .fail none
        | none => .fail none
      | none => .fail none) := rfl
theorem callA_dfd (n : Nat) (f : FuncId) (args : List AV) (hp : Hp) (nx : Nat) : callA C (n + 1) (.dfd f) args hp nx = dfdOr C f args hp nx (match C.P.funcs[f]? with
      | some fn => match fn.body with
        | some c => match Nat.ble args.length fn.ntmps with
          | true => ex C (callA C n) f fn.ntmps none c (retD C fn) (fun _ => failK) (retD C fn) panK (frL args) [] hp nx
          | false => .fail none
        | none => .fail none
      | none => .fail none) := rfl
theorem dfdOr_done {f : FuncId} {args : List AV} {nx : Nat} {r : Res} {v : AV} {hp' : Hp} {nx' : Nat} (h : dfdOr C f args hp nx r = .done v hp' nx') :
    (C.dfd.get f = none ∧ r = .done v hp' nx') ∨ ∃ o, C.dfd.get f = some o ∧ o args hp nx = some (v, hp', nx') := by
  unfold dfdOr at h
  split at h
  · exact .inl ⟨‹_›, h⟩
  · rename_i o ho
    split at h
    · rename_i u hu
      cases h
      exact .inr ⟨o, ho, hu⟩
    · cases h
theorem orcOr_done {f : FuncId} {args : List AV} {nx : Nat} {r : Res} {v : AV} {hp' : Hp} {nx' : Nat} (h : orcOr C f args hp nx r = .done v hp' nx') :
    (True ∧ r = .done v hp' nx') ∨ ∃ o, C.orc.get f = some o ∧ o args hp nx = some (v, hp', nx') := by
  unfold orcOr at h
  split at h
  · exact .inl ⟨trivial, h⟩
  · rename_i o ho
    split at h
    · rename_i u hu
      cases h
      exact .inr ⟨o, ho, hu⟩
    · exact .inl ⟨trivial, h⟩
theorem callA_rnd (n : Nat) (l : Nat) (args : List AV) (hp : Hp) (nx : Nat) : callA C (n + 1) (.rnd l) args hp nx = (match hp.get l with
      | some (.loop _ _ f fr sz ps as bd _) => match setAll sz fr ps args with
        | some fr => ex { C with rd := true } (callA C n) f sz (some l) as
            (fun fr ds hp nx => match hp.get l with
              | some (.loop .ready p f' fr' sz' ps' as' bd' d') =>
                ex { C with rd := true } (callA C n) f sz (some l) bd (fun _ _ hp nx => endRoundA l hp nx none) (fun id _ _ hp nx => endRoundA l hp nx (some (.exit id)))
                  (fun _ _ hp nx => endRoundA l hp nx (some .ret)) (fun _ => failK) fr ds (hp.set l (.loop .busy p f' fr' sz' ps' as' bd' d')) nx
              | _ => .fail none)
            (fun _ => failK) failK (fun _ => failK) fr [] hp nx
        | none => .fail none
      | _ => .fail none) := rfl

section
variable {vf : AV} {hf : Hp} {nf : Nat}
theorem failP : ∀ (c : List APan) fr ds hp nx, (fun _ => failK : List APan → KN) c fr ds hp nx ≠ .done vf hf nf := fun _ _ _ _ _ h => by cases h
theorem endRoundA_mono {l : Nat} {j : Option Code} : KM (.done vf hf nf) nf (fun _ _ hp nx => endRoundA l hp nx j) := by
  intro fr ds hp nx h
  simp only [endRoundA] at h
  split at h
  · split at h <;> (cases h; exact Nat.le_refl _)
  · cases h
theorem bodyK_mono (hc : ClM cl) {l : Nat} {f : FuncId} {sz : Nat} {bd : Code} : KM (.done vf hf nf) nf (fun fr ds hp nx => match hp.get l with
              | some (.loop .ready p f' fr' sz' ps' as' bd' d') =>
                ex C cl f sz (some l) bd (fun _ _ hp nx => endRoundA l hp nx none) (fun id _ _ hp nx => endRoundA l hp nx (some (.exit id)))
                  (fun _ _ hp nx => endRoundA l hp nx (some .ret)) (fun _ => failK) fr ds (hp.set l (.loop .busy p f' fr' sz' ps' as' bd' d')) nx
              | _ => .fail none) := by
  intro fr ds hp nx h
  simp only at h
  split at h
  · exact ex_mono hc bd endRoundA_mono (fun _ => endRoundA_mono) endRoundA_mono failP _ _ _ _ h
  · cases h
end
theorem callA_mono (hO : OrcOk C) (hD : DfdOk C) : ∀ n, ClM (callA C n)
  | 0 => fun t args hp nx v hp' nx' h => by cases h
  | n + 1 => fun t args hp nx v hp' nx' h => by
    cases t with
    | fn f =>
      rw [callA_fn] at h
      rcases orcOr_done h with ⟨_, h⟩ | ⟨o, ho, hv⟩
      rotate_left
      · exact ((hO f o ho).2 _ _ _ _ _ _ hv).1
      split at h
      · split at h
        · split at h
          · exact ex_mono (callA_mono hO hD n) _ (retK_mono (callA_mono hO hD n) _) (fun _ => failK_mono) (retK_mono (callA_mono hO hD n) _) panK_not _ _ _ _ h
          · cases h
        · cases h
      · cases h
    | dfd f =>
      rw [callA_dfd] at h
      rcases dfdOr_done h with ⟨_, h⟩ | ⟨o, ho, hv⟩
      rotate_left
      · exact ((hD f o ho).2 _ _ _ _ _ _ hv).1
      split at h
      · split at h
        · split at h
          · exact ex_mono (callA_mono hO hD n) _ (retD_mono _) (fun _ => failK_mono) (retD_mono _) panK_not _ _ _ _ h
          · cases h
        · cases h
      · cases h
    | rnd l =>
      rw [callA_rnd] at h
      split at h
      · split at h
        · exact ex_mono (callA_mono hO hD n) _ (bodyK_mono (callA_mono hO hD n)) (fun _ => failK_mono) failK_mono failP _ _ _ _ h
        · cases h
      · cases h
theorem Ext.wide {σ τ : Sig} {a b c : Nat} (h : Ext σ τ a b) (hb : b ≤ c) : Ext σ τ a c := ⟨h.le, Nat.le_trans h.nx hb, fun id hid => h.out id (by omega)⟩
theorem frW_get : ∀ (l : List AV) (fr : Fr) (off j : Nat) (v : AV), (frW fr off l).get j = some v → (off ≤ j ∧ l[j - off]? = some v) ∨ fr.get j = some v
  | [], fr, off, j, v, h => .inr h
  | u :: l, fr, off, j, v, h => by
    have h : (frW (fr.set off u) (off + 1) l).get j = some v := h
    rcases frW_get l _ _ _ _ h with ⟨h1, h2⟩ | h1
    · refine .inl ⟨by omega, ?_⟩
      rw [show j - off = (j - (off + 1)) + 1 from by omega]
      simpa using h2
    · rw [Fr.get_set] at h1
      split at h1
      · rename_i e
        subst e
        obtain rfl := nb_some h1
        exact .inl ⟨Nat.le_refl _, by simp⟩
      · exact .inr h1
theorem frL_get {l : List AV} {j : Nat} {v : AV} (h : (frL l).get j = some v) : l[j]? = some v := by
  rcases frW_get l _ _ _ _ h with ⟨_, h2⟩ | h1
  · simpa using h2
  · rw [Fr.get_leaf] at h1; cases h1
theorem enter_rel {args : List AV} {args' : Array Value} {sz : Nat} (ha : VRels σ args args'.toList) (hl : args.length ≤ sz) :
    FrRel σ (frL args) sz (args' ++ Array.replicate (sz - args'.size) undef) := by
  have hlen := ha.length
  simp only [Array.length_toList] at hlen
  refine ⟨by simp; omega, fun t v ht => ?_⟩
  obtain ⟨x, h1, h2⟩ := ha.get (frL_get ht)
  refine ⟨x, ?_, h2⟩
  have hlt : t < args'.size := by rw [← hlen]; exact (List.getElem?_eq_some_iff.1 (frL_get ht)).1
  rw [Array.getElem?_append_left hlt]
  simpa using h1
theorem setAll_rel {sz : Nat} : ∀ {ps : List Nat} {args : List AV} {xs : List Value} {fr fr' : Fr} {tm : Array Value}, setAll sz fr ps args = some fr' → VRels σ args xs → FrRel σ fr sz tm →
    ps.length = xs.length ∧ FrRel σ fr' sz ((ps.zip xs).foldl (fun tmps (p : Nat × Value) => tmps.setIfInBounds p.1 p.2) tm) := by
  intro ps
  induction ps with
  | nil =>
    intro args xs fr fr' tm h hr hf
    cases args with
    | nil => cases hr; simp only [setAll, Option.some.injEq] at h; subst h; exact ⟨rfl, hf⟩
    | cons a args => cases h
  | cons t ps ih =>
    intro args xs fr fr' tm h hr hf
    cases args with
    | nil => cases h
    | cons a args =>
      cases hr with
      | cons hv hr =>
      simp only [setAll] at h
      split at h
      · rename_i ht
        obtain ⟨h1, h2⟩ := ih h hr (hf.set (Nat.le_of_ble_eq_true ht) hv)
        exact ⟨by simp [h1], h2⟩
      · cases h
theorem endRound_sound {vf : AV} {hf : Hp} {nf nx nx0 l : Nat} {σ0 : Sig} {i : Info} {j : Option Code} (h : endRoundA l hp nx j = .done vf hf nf) (hl : σ l = some i) (r : R pr σ hp w) (e : Ext σ0 σ nx0 nx) :
    ∃ v w', (Instr.endRound i.blk j).run C.P w = .ok v w' ∧ Post pr σ0 nx0 vf hf nf (.returned v) w' := by
  unfold endRoundA at h
  split at h
  · rename_i st p f fr sz ps as bd d hb
    obtain ⟨i', hi', fn, tm, di, h1, h2, h3⟩ := r.blk _ _ hb
    rw [hl] at hi'
    cases hi'
    have hrun := run_endRound (P := C.P) j h1
    obtain ⟨g1, g2⟩ := heap_putObj (o := .loop { state := if j.isNone then .ready else .done, pending := j, fn := fn, tmps := tm, params := ps.toArray, assign := as, body := bd, defers := di.blk }) h1
    split at h
    · cases h
      exact ⟨_, _, hrun, σ, _, rfl, .bool _, e, r.turn hb hl ⟨fn, tm, di, g1, h2, h3⟩ g2 ⟨rfl, rfl⟩⟩
    · cases h
      exact ⟨_, _, hrun, σ, _, rfl, .bool _, e, r.turn hb hl ⟨fn, tm, di, g1, h2, h3⟩ g2 ⟨rfl, rfl⟩⟩
  · cases h
theorem CallsOk.rd (h : CallsOk C cl) : CallsOk { C with rd := true } cl := ⟨h.mono, h.fn, h.dfd, h.rnd⟩
theorem callA_ok (hP : POk C.P) (hX : ExtOk C) (hO : OrcOk C) (hD : DfdOk C) : ∀ n, CallsOk C (callA C n) := by
  intro n
  induction n with
  | zero => exact ⟨callA_mono hO hD 0, (by intro f args hp nx v hp' nx' h; cases h), (by intro f args hp nx v hp' nx' h; cases h), (by intro l args hp nx v hp' nx' h; cases h)⟩
  | succ n ih =>
    haveI : RdOk C none := ⟨.inr rfl⟩
    refine ⟨callA_mono hO hD (n + 1), ?_, ?_, ?_⟩
    · intro f args hp nx v hp' nx' h pr σ w args' r hg hfr ha
      rw [callA_fn] at h
      rcases orcOr_done h with ⟨_, h⟩ | ⟨o, ho, hv⟩
      rotate_left
      · obtain ⟨hb, hO⟩ := hO f o ho
        exact ⟨hb, (hO args hp nx v hp' nx' hv).2 pr σ w args' r hg hfr ha⟩
      split at h
      · rename_i fn hfn
        split at h
        · rename_i c hb
          split at h
          · rename_i hl
            have hl := Nat.le_of_ble_eq_true hl
            refine ⟨⟨fn, c, hfn, hb⟩, callsIn_of_wp_marks hfn hb trivial ?_⟩
            have fin : Next_ pr σ fn.ntmps nx' nx v hp' (retK C (callA C n) fn) (bodyPostM (FF none) 0 C.P fn (Post pr σ nx v hp' nx') .normal) := by
              intro fr' ds' hp1 nx1 σ' a' w' h1 h2 h3
              rw [retK_eq] at h1
              refine leaveA_sound (σ0 := σ) (nx0 := nx) hP ih hg (fun τ v' w'' g0 g1 g2 => ?_) ds' a'.defers hp1 nx1 w' σ' h1 h2 h3.fr h3.ds h3.r h3.fresh
              exact ⟨τ, v', rfl, g1, g0, g2⟩
            exact ex_sound hP hX ih hg c (retK_mono ih.mono fn) (fun _ => failK_mono) (retK_mono ih.mono fn) panK_not h
              ⟨enter_rel ha hl, trivial, r, hfr⟩ (show RoRel σ none none from trivial) fin (fun id fr' ds' hp1 nx1 σ' a' w' h1 => by cases h1) fin
          · cases h
        · cases h
      · cases h
    · intro f args hp nx v hp' nx' h pr σ w args' r hg hfr ha
      rw [callA_dfd] at h
      rcases dfdOr_done h with ⟨_, h⟩ | ⟨o, ho, hv⟩
      rotate_left
      · obtain ⟨hb, hD⟩ := hD f o ho
        exact ⟨hb, (hD args hp nx v hp' nx' hv).2 pr σ w args' r hg hfr ha⟩
      split at h
      · rename_i fn hfn
        split at h
        · rename_i c hb
          split at h
          · rename_i hl
            have hl := Nat.le_of_ble_eq_true hl
            refine ⟨⟨fn, c, hfn, hb⟩, callsDIn_of_wp hfn hb trivial ?_⟩
            have fin : Next_ pr σ fn.ntmps nx' nx v hp' (retD C fn) (bodyPost C.P fn (Post pr σ nx v hp' nx') .normal) := by
              intro fr' ds' hp1 nx1 σ' a' w' h1 h2 h3
              unfold retD at h1
              split at h1
              · split at h1
                · rename_i u hu
                  rw [forceV_eq] at h1
                  cases h1
                  obtain ⟨v', k1, k2⟩ := resultA_sound hu h3.fr h3.r hg
                  have hds : a'.defers = [] := by
                    have := h3.ds
                    cases hq : a'.defers with
                    | nil => rfl
                    | cons d l => rw [hq] at this; exact this.elim
                  exact ⟨hds, v', k1, σ', v', rfl, k2, h2, h3.r⟩
                · cases h1
              · cases h1
            exact ex_sound hP hX ih hg c (retD_mono fn) (fun _ => failK_mono) (retD_mono fn) panK_not h
              ⟨enter_rel ha hl, trivial, r, hfr⟩ (show RoRel σ none none from trivial) fin (fun id fr' ds' hp1 nx1 σ' a' w' h1 => by cases h1) fin
          · cases h
        · cases h
      · cases h
    · intro l args hp nx v hp' nx' h pr σ w args' i r hg hfr ha hl
      rw [callA_rnd] at h
      split at h
      · rename_i st p f fr sz ps as bd d hb
        split at h
        · rename_i fr2 hset
          obtain ⟨i', hi', fn, tm, di, h1, h2, h3⟩ := r.blk _ _ hb
          rw [hl] at hi'
          cases hi'
          obtain ⟨hlen, hfr2⟩ := setAll_rel hset ha h3
          refine ⟨_, h1, by simpa using hlen.symm, ?_⟩
          refine roundIn_of_wpIn trivial ?_
          have hfr3 : FrRel σ fr2 sz (setPs { state := st, pending := p, fn := fn, tmps := tm, params := ps.toArray, assign := as, body := bd, defers := di.blk } args') := by
            unfold setPs
            rw [← Array.foldl_toList, Array.toList_zip]
            simpa using hfr2
          haveI : RdOk { C with rd := true } (some i.blk) := ⟨.inl rfl⟩
          refine ex_sound (C := { C with rd := true }) (ro := some i.blk) hP hX ih.rd hg as (bodyK_mono ih.mono) (fun _ => failK_mono) failK_mono failP h ⟨hfr3, trivial, r, hfr⟩ (show RoRel σ (some l) (some i.blk) from ⟨i, hl, rfl⟩) ?_
            (fun id fr' ds' hp1 nx1 σ' a' w' h1 => by cases h1) (fun fr' ds' hp1 nx1 σ' a' w' h1 => by cases h1)
          intro fr' ds' hp1 nx1 σ1 a1 w1 g1 g2 g3
          simp only at g1
          split at g1
          · rename_i p' f' fr'' sz' ps' as' bd' d' hb1
            have hl1 := g2.le _ _ hl
            obtain ⟨i1, hi1, fn1, tm1, di1, e1, e2, e3⟩ := g3.r.blk _ _ hb1
            rw [hl1] at hi1
            cases hi1
            have hrun := run_beginRound (P := C.P) e1 rfl
            obtain ⟨k1, k2⟩ := heap_putObj (o := .loop { state := .busy, pending := p', fn := fn1, tmps := tm1, params := ps'.toArray, assign := as', body := bd', defers := di1.blk }) e1
            refine ⟨_, hrun, ?_⟩
            have s2 : St pr σ1 sz nx' fr' ds' (hp1.set l (.loop .busy p' f' fr'' sz' ps' as' bd' d')) nx1 a1 (w1.putObj i.blk (.loop { state := .busy, pending := p', fn := fn1, tmps := tm1, params := ps'.toArray, assign := as', body := bd', defers := di1.blk })) :=
              ⟨g3.fr, g3.ds, g3.r.turn hb1 hl1 ⟨fn1, tm1, di1, k1, e2, e3⟩ k2 ⟨rfl, rfl⟩, g3.fresh⟩
            refine ex_sound (C := { C with rd := true }) (ro := some i.blk) hP hX ih.rd hg bd endRoundA_mono (fun _ => endRoundA_mono) endRoundA_mono failP g1 s2 (show RoRel σ1 (some l) (some i.blk) from ⟨i, hl1, rfl⟩) ?_ ?_ ?_
            · intro fr3 ds3 hp3 nx3 σ3 a3 w3 m1 m2 m3
              exact endRound_sound m1 (m2.le _ _ hl1) m3.r (g2.trans m2)
            · intro id fr3 ds3 hp3 nx3 σ3 a3 w3 m1 m2 m3
              exact endRound_sound m1 (m2.le _ _ hl1) m3.r (g2.trans m2)
            · intro fr3 ds3 hp3 nx3 σ3 a3 w3 m1 m2 m3
              exact endRound_sound m1 (m2.le _ _ hl1) m3.r (g2.trans m2)
          · cases g1
        · cases h
      · cases h
end Go.Proofs.YtnlieipdeepemaaGreatDoor.AX
