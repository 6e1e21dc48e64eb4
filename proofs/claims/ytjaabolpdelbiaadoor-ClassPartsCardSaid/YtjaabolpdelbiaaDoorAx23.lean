/- AX, part 23: calls at every level. -/
import Derived.Test.YtjaabolpdelbiaaDoorAx22
namespace Go.Proofs.YtjaabolpdelbiaaDoor.AX
open Go
variable {P : Program} {σ : Sig} {w : World} {pr : Pr} {hp : Hp} {C : Ctx} {cl : CallF}

theorem leaveA_nil (hp : Hp) (k : Hp → Res) : leaveA [] hp k = k hp := rfl
theorem leaveA_cons (d : ADef) (ds : List ADef) (hp : Hp) (k : Hp → Res) : leaveA (d :: ds) hp k = (match d with
    | .mark r => match hp.get r with
      | some (.dfr false) => leaveA ds (hp.set r (.dfr true)) k
      | _ => .fail none
    | _ => .fail none) := rfl
/-- The marks are taken, one by one; then the results are read. -/
theorem leaveA_sound {vf : AV} {hf : Hp} {nf : Nat} {fn : Func} {fr : Fr} {sz : Nat} {a : Act} {nx : Nat} {RR : Ending → World → Prop} (hg : GlOk C pr)
    (hR : ∀ v' w', VRel σ vf v' → R pr σ hf w' → RR (.returned v') w') : ∀ (ds : List ADef) (dfs : List Deferred) (hp : Hp) (w : World),
    leaveA ds hp (fun hp => match resultA C fn fr hp with
      | some v => forceV v fun v => .done v hp nx
      | none => .fail none) = .done vf hf nf → FrRel σ fr sz a.tmps → DsRel σ ds dfs → R pr σ hp w → LeavesInM (FF none) 0 C.P fn a.tmps RR dfs .returning w := by
  intro ds
  induction ds with
  | nil =>
    intro dfs hp w h hf hd r
    rw [leaveA_nil] at h
    cases dfs with
    | cons d dfs => exact hd.elim
    | nil =>
    split at h
    · rename_i v hv
      rw [forceV_eq] at h
      cases h
      obtain ⟨v', h1, h2⟩ := resultA_sound hv hf r hg
      exact ⟨v', h1, hR v' w h2 r⟩
    · cases h
  | cons d ds ih =>
    intro dfs hp w h hf hd r
    rw [leaveA_cons] at h
    split at h
    · rename_i q
      cases dfs with
      | nil => exact hd.elim
      | cons d dfs =>
      obtain ⟨⟨i, hi, rfl⟩, hd⟩ := hd
      split at h
      · rename_i hq
        obtain ⟨i', hi', hb⟩ := r.blk _ _ hq
        rw [hi] at hi'
        cases hi'
        have hb : w.heap[i.blk]? = some (.deferred (some [])) := hb
        obtain ⟨g1, g2⟩ := heap_putObj (o := .deferred none) hb
        exact ⟨by simp, .inl ⟨i.blk, _, rfl, run_takeDeferred hb, ih dfs _ _ h hf hd (r.turn hq hi g1 g2 ⟨rfl, rfl⟩)⟩⟩
      · cases h
    · cases h
theorem leaveA_nx {vf : AV} {hf : Hp} {nf nx : Nat} {k : Hp → Res} (hk : ∀ hp, k hp = .done vf hf nf → nx ≤ nf) : ∀ (ds : List ADef) (hp : Hp), leaveA ds hp k = .done vf hf nf → nx ≤ nf
  | [], hp, h => hk hp h
  | d :: ds, hp, h => by
    rw [leaveA_cons] at h
    split at h
    · split at h
      · exact leaveA_nx hk ds _ h
      · cases h
    · cases h
theorem retK_mono {vf : AV} {hf : Hp} {nf : Nat} (fn : Func) : KM (.done vf hf nf) nf (retK C fn) := by
  intro fr ds hp nx h
  unfold retK at h
  refine leaveA_nx (fun hp h => ?_) ds hp h
  split at h
  · rw [forceV_eq] at h; cases h; exact Nat.le_refl _
  · cases h
theorem leaveA_pan {vf : AV} {hf : Hp} {nf nx : Nat} {c : List APan} : ∀ (ds : List ADef) (hp : Hp), leaveA ds hp (fun hp => .pan c hp nx) ≠ .done vf hf nf
  | [], _, h => by cases h
  | d :: ds, hp, h => by
    rw [leaveA_cons] at h
    split at h
    · split at h
      · exact leaveA_pan ds _ h
      · cases h
    · cases h
theorem panK_not {vf : AV} {hf : Hp} {nf : Nat} : ∀ c fr ds hp nx, panK c fr ds hp nx ≠ .done vf hf nf := fun _ _ ds hp _ h => leaveA_pan ds hp h

theorem callA_zero (t : Tgt) (args : List AV) (hp : Hp) (nx : Nat) : callA C 0 t args hp nx = .fail none := rfl
theorem callA_fn (n : Nat) (f : FuncId) (args : List AV) (hp : Hp) (nx : Nat) : callA C (n + 1) (.fn f) args hp nx = orcOr C f args hp nx (match C.P.funcs[f]? with
      | some fn => match fn.body with
        | some c => match Nat.ble args.length fn.ntmps with
          | true => ex C (callA C n) f fn.ntmps none c (retK C fn) (fun _ => failK) (retK C fn) panK (ofL args) [] hp nx
          | false => .fail none
        | none => .fail none
      | none => .fail none) := rfl
theorem orcOr_done {f : FuncId} {args : List AV} {nx : Nat} {r : Res} {v : AV} {hp' : Hp} {nx' : Nat} (h : orcOr C f args hp nx r = .done v hp' nx') :
    (C.orc.get f = none ∧ r = .done v hp' nx') ∨ ∃ o, C.orc.get f = some o ∧ o args = some v ∧ hp' = hp ∧ nx' = nx := by
  unfold orcOr at h
  split at h
  · exact .inl ⟨‹_›, h⟩
  · rename_i o ho
    split at h
    · rename_i u hu
      cases h
      exact .inr ⟨o, ho, hu, rfl, rfl⟩
    · cases h
theorem callA_rnd (n : Nat) (l : Nat) (args : List AV) (hp : Hp) (nx : Nat) : callA C (n + 1) (.rnd l) args hp nx = (match hp.get l with
      | some (.loop _ _ f fr sz ps as bd _) => match setAll sz fr ps args with
        | some fr => ex C (callA C n) f sz (some l) as
            (fun fr ds hp nx => match hp.get l with
              | some (.loop .ready p f' fr' sz' ps' as' bd' d') =>
                ex C (callA C n) f sz (some l) bd (fun _ _ hp nx => endRoundA l hp nx none) (fun id _ _ hp nx => endRoundA l hp nx (some (.exit id)))
                  (fun _ _ hp nx => endRoundA l hp nx (some .ret)) (fun _ => failK) fr ds (hp.set l (.loop .busy p f' fr' sz' ps' as' bd' d')) nx
              | _ => .fail none)
            (fun _ => failK) failK (fun _ => failK) fr [] hp nx
        | none => .fail none
      | _ => .fail none) := rfl

section
variable {vf : AV} {hf : Hp} {nf : Nat}
theorem failP : ∀ (c : List APan) fr ds hp nx, (fun _ => failK : List APan → KN) c fr ds hp nx ≠ .done vf hf nf := fun _ _ _ _ _ h => by cases h
theorem endRoundA_mono {l : Nat} {j : Option Code} : KM (.done vf hf nf) nf (fun _ _ hp nx => endRoundA l hp nx j) := by
  intro fr ds hp nx h
  simp only [endRoundA] at h
  split at h
  · split at h <;> (cases h; exact Nat.le_refl _)
  · cases h
theorem bodyK_mono (hc : ClM cl) {l : Nat} {f : FuncId} {sz : Nat} {bd : Code} : KM (.done vf hf nf) nf (fun fr ds hp nx => match hp.get l with
              | some (.loop .ready p f' fr' sz' ps' as' bd' d') =>
                ex C cl f sz (some l) bd (fun _ _ hp nx => endRoundA l hp nx none) (fun id _ _ hp nx => endRoundA l hp nx (some (.exit id)))
                  (fun _ _ hp nx => endRoundA l hp nx (some .ret)) (fun _ => failK) fr ds (hp.set l (.loop .busy p f' fr' sz' ps' as' bd' d')) nx
              | _ => .fail none) := by
  intro fr ds hp nx h
  simp only at h
  split at h
  · exact ex_mono hc bd endRoundA_mono (fun _ => endRoundA_mono) endRoundA_mono failP _ _ _ _ h
  · cases h
end
theorem callA_mono : ∀ n, ClM (callA C n)
  | 0 => fun t args hp nx v hp' nx' h => by cases h
  | n + 1 => fun t args hp nx v hp' nx' h => by
    cases t with
    | fn f =>
      rw [callA_fn] at h
      rcases orcOr_done h with ⟨_, h⟩ | ⟨o, _, _, _, rfl⟩
      rotate_left
      · exact Nat.le_refl _
      split at h
      · split at h
        · split at h
          · exact ex_mono (callA_mono n) _ (retK_mono _) (fun _ => failK_mono) (retK_mono _) panK_not _ _ _ _ h
          · cases h
        · cases h
      · cases h
    | rnd l =>
      rw [callA_rnd] at h
      split at h
      · split at h
        · exact ex_mono (callA_mono n) _ (bodyK_mono (callA_mono n)) (fun _ => failK_mono) failK_mono failP _ _ _ _ h
        · cases h
      · cases h
theorem Ext.wide {σ τ : Sig} {a b c : Nat} (h : Ext σ τ a b) (hb : b ≤ c) : Ext σ τ a c := ⟨h.le, Nat.le_trans h.nx hb, fun id hid => h.out id (by omega)⟩
theorem enter_rel {args : List AV} {args' : Array Value} {sz : Nat} (ha : VRels σ args args'.toList) (hl : args.length ≤ sz) :
    FrRel σ (ofL args) sz (args' ++ Array.replicate (sz - args'.size) undef) := by
  have hlen := ha.length
  simp only [Array.length_toList] at hlen
  refine ⟨by simp; omega, fun t v ht => ?_⟩
  rw [ofL_get] at ht
  obtain ⟨x, h1, h2⟩ := ha.get ht
  refine ⟨x, ?_, h2⟩
  have hlt : t < args'.size := by rw [← hlen]; exact (List.getElem?_eq_some_iff.1 ht).1
  rw [Array.getElem?_append_left hlt]
  simpa using h1
theorem setAll_rel {sz : Nat} : ∀ {ps : List Nat} {args : List AV} {xs : List Value} {fr fr' : Fr} {tm : Array Value}, setAll sz fr ps args = some fr' → VRels σ args xs → FrRel σ fr sz tm →
    ps.length = xs.length ∧ FrRel σ fr' sz ((ps.zip xs).foldl (fun tmps (p : Nat × Value) => tmps.setIfInBounds p.1 p.2) tm) := by
  intro ps
  induction ps with
  | nil =>
    intro args xs fr fr' tm h hr hf
    cases args with
    | nil => cases hr; simp only [setAll, Option.some.injEq] at h; subst h; exact ⟨rfl, hf⟩
    | cons a args => cases h
  | cons t ps ih =>
    intro args xs fr fr' tm h hr hf
    cases args with
    | nil => cases h
    | cons a args =>
      cases hr with
      | cons hv hr =>
      simp only [setAll] at h
      split at h
      · rename_i ht
        obtain ⟨h1, h2⟩ := ih h hr (hf.set (Nat.le_of_ble_eq_true ht) hv)
        exact ⟨by simp [h1], h2⟩
      · cases h
theorem endRound_sound {vf : AV} {hf : Hp} {nf nx nx0 l : Nat} {σ0 : Sig} {i : Info} {j : Option Code} (h : endRoundA l hp nx j = .done vf hf nf) (hl : σ l = some i) (r : R pr σ hp w) (e : Ext σ0 σ nx0 nx) :
    ∃ v w', (Instr.endRound i.blk j).run C.P w = .ok v w' ∧ Post pr σ0 nx0 vf hf nf (.returned v) w' := by
  unfold endRoundA at h
  split at h
  · rename_i st p f fr sz ps as bd d hb
    obtain ⟨i', hi', fn, tm, di, h1, h2, h3⟩ := r.blk _ _ hb
    rw [hl] at hi'
    cases hi'
    have hrun := run_endRound (P := C.P) j h1
    obtain ⟨g1, g2⟩ := heap_putObj (o := .loop { state := if j.isNone then .ready else .done, pending := j, fn := fn, tmps := tm, params := ps.toArray, assign := as, body := bd, defers := di.blk }) h1
    split at h
    · cases h
      exact ⟨_, _, hrun, σ, _, rfl, .bool _, e, r.turn hb hl ⟨fn, tm, di, g1, h2, h3⟩ g2 ⟨rfl, rfl⟩⟩
    · cases h
      exact ⟨_, _, hrun, σ, _, rfl, .bool _, e, r.turn hb hl ⟨fn, tm, di, g1, h2, h3⟩ g2 ⟨rfl, rfl⟩⟩
  · cases h
theorem callA_ok (hP : POk C.P) (hX : ExtOk C) (hO : OrcOk C) : ∀ n, CallsOk C (callA C n) := by
  intro n
  induction n with
  | zero => exact ⟨callA_mono 0, (by intro f args hp nx v hp' nx' h; cases h), (by intro l args hp nx v hp' nx' h; cases h)⟩
  | succ n ih =>
    refine ⟨callA_mono (n + 1), ?_, ?_⟩
    · intro f args hp nx v hp' nx' h pr σ w args' r hg hfr ha
      rw [callA_fn] at h
      rcases orcOr_done h with ⟨_, h⟩ | ⟨o, ho, hv, rfl, rfl⟩
      rotate_left
      · obtain ⟨hb, hO⟩ := hO f o ho
        refine ⟨hb, (hO args v hv pr σ w args' hg r.prot ha).mono ?_⟩
        rintro e w' ⟨v', rfl, g1, g2⟩
        exact ⟨σ, v', rfl, g1, Ext.refl _ _, r.kept g2⟩
      split at h
      · rename_i fn hfn
        split at h
        · rename_i c hb
          split at h
          · rename_i hl
            have hl := Nat.le_of_ble_eq_true hl
            refine ⟨⟨fn, c, hfn, hb⟩, callsIn_of_wp_marks hfn hb trivial ?_⟩
            have fin : Next_ pr σ fn.ntmps nx' nx v hp' (retK C fn) (bodyPostM (FF none) 0 C.P fn (Post pr σ nx v hp' nx') .normal) := by
              intro fr' ds' hp1 nx1 σ' a' w' h1 h2 h3
              refine leaveA_sound hg (fun v' w'' g1 g2 => ?_) ds' a'.defers hp1 w' h1 h3.fr h3.ds h3.r
              exact ⟨σ', v', rfl, g1, h2.wide (retK_mono fn _ _ _ _ h1), g2⟩
            exact ex_sound hP hX ih hg c (retK_mono fn) (fun _ => failK_mono) (retK_mono fn) panK_not h
              ⟨enter_rel ha hl, trivial, r, hfr⟩ (show RoRel σ none none from trivial) fin (fun id fr' ds' hp1 nx1 σ' a' w' h1 => by cases h1) fin
          · cases h
        · cases h
      · cases h
    · intro l args hp nx v hp' nx' h pr σ w args' i r hg hfr ha hl
      rw [callA_rnd] at h
      split at h
      · rename_i st p f fr sz ps as bd d hb
        split at h
        · rename_i fr2 hset
          obtain ⟨i', hi', fn, tm, di, h1, h2, h3⟩ := r.blk _ _ hb
          rw [hl] at hi'
          cases hi'
          obtain ⟨hlen, hfr2⟩ := setAll_rel hset ha h3
          refine ⟨_, h1, by simpa using hlen.symm, ?_⟩
          refine roundIn_of_wpIn trivial ?_
          have hfr3 : FrRel σ fr2 sz (setPs { state := st, pending := p, fn := fn, tmps := tm, params := ps.toArray, assign := as, body := bd, defers := di.blk } args') := by
            unfold setPs
            rw [← Array.foldl_toList, Array.toList_zip]
            simpa using hfr2
          refine ex_sound (ro := some i.blk) hP hX ih hg as (bodyK_mono ih.mono) (fun _ => failK_mono) failK_mono failP h ⟨hfr3, trivial, r, hfr⟩ (show RoRel σ (some l) (some i.blk) from ⟨i, hl, rfl⟩) ?_
            (fun id fr' ds' hp1 nx1 σ' a' w' h1 => by cases h1) (fun fr' ds' hp1 nx1 σ' a' w' h1 => by cases h1)
          intro fr' ds' hp1 nx1 σ1 a1 w1 g1 g2 g3
          simp only at g1
          split at g1
          · rename_i p' f' fr'' sz' ps' as' bd' d' hb1
            have hl1 := g2.le _ _ hl
            obtain ⟨i1, hi1, fn1, tm1, di1, e1, e2, e3⟩ := g3.r.blk _ _ hb1
            rw [hl1] at hi1
            cases hi1
            have hrun := run_beginRound (P := C.P) e1 rfl
            obtain ⟨k1, k2⟩ := heap_putObj (o := .loop { state := .busy, pending := p', fn := fn1, tmps := tm1, params := ps'.toArray, assign := as', body := bd', defers := di1.blk }) e1
            refine ⟨_, hrun, ?_⟩
            have s2 : St pr σ1 sz nx' fr' ds' (hp1.set l (.loop .busy p' f' fr'' sz' ps' as' bd' d')) nx1 a1 (w1.putObj i.blk (.loop { state := .busy, pending := p', fn := fn1, tmps := tm1, params := ps'.toArray, assign := as', body := bd', defers := di1.blk })) :=
              ⟨g3.fr, g3.ds, g3.r.turn hb1 hl1 ⟨fn1, tm1, di1, k1, e2, e3⟩ k2 ⟨rfl, rfl⟩, g3.fresh⟩
            refine ex_sound (ro := some i.blk) hP hX ih hg bd endRoundA_mono (fun _ => endRoundA_mono) endRoundA_mono failP g1 s2 (show RoRel σ1 (some l) (some i.blk) from ⟨i, hl1, rfl⟩) ?_ ?_ ?_
            · intro fr3 ds3 hp3 nx3 σ3 a3 w3 m1 m2 m3
              exact endRound_sound m1 (m2.le _ _ hl1) m3.r (g2.trans m2)
            · intro id fr3 ds3 hp3 nx3 σ3 a3 w3 m1 m2 m3
              exact endRound_sound m1 (m2.le _ _ hl1) m3.r (g2.trans m2)
            · intro fr3 ds3 hp3 nx3 σ3 a3 w3 m1 m2 m3
              exact endRound_sound m1 (m2.le _ _ hl1) m3.r (g2.trans m2)
          · cases g1
        · cases h
      · cases h
end Go.Proofs.YtjaabolpdelbiaaDoor.AX
