/- AX, part 26: pieces of a function: run with known answers and settled values (as in part 25; regions that draw may write, too), from one state to the next. -/
import Derived.Test.YtjaabolpdelbiaaDoorAx25
namespace Go.Proofs.YtjaabolpdelbiaaDoor.AX
open Go
variable {P : Program} {σ : Sig} {w : World} {pr : Pr} {hp : Hp} {C : Ctx} {cl : CallF}

noncomputable def backG (C : Ctx) (b : Nat) (o : Op) (ρ : Operand → AV) (v : AV) : List (Nat × Hp) → GS → GS
  | [], s => s
  | (w, h) :: r, s => match Nat.testBit b w with
    | true => backG C b o ρ v r s
    | false => backG C b o ρ v r { s with cgot := readA C o ρ h :: s.cgot, cwant := some v :: s.cwant }
noncomputable def onG (C : Ctx) (b : Nat) (h : Hp) : List (Nat × Op × Fr × AV) → GS → GS
  | [], s => s
  | (r, o, fr, v) :: l, s => match Nat.testBit b r with
    | true => onG C b h l s
    | false => onG C b h l { s with cgot := readA C o (opd fr) h :: s.cgot, cwant := some v :: s.cwant }
noncomputable def putE (sz : Nat) (d : Option Tmp) (v : AV) (fr : Fr) (k : Fr → Dr) (s : GS) : Option (Dr × GS) :=
  match putD sz d v fr with
  | some fr => some (k fr, s)
  | none => none
noncomputable def drawOpE (C : Ctx) (L : List (Option Ans)) (asm : T AV) (sz : Nat) (all : Array Oper) (o : Oper) (i b : Nat) (d : Dr) (s : GS) : Option (Dr × GS) :=
  match wantedA all d.fr o with
  | none => none
  | some false => putE sz o.dst (.tup []) d.fr (fun fr => { d with fr := fr }) s
  | some true => match isCall o.op with
    | some (f, args) => match calleeOf C.ext (opd d.fr f), nthL L d.nx with
      | some g, some (h, zs, v) => putE sz o.dst v d.fr (fun fr => { fr := fr, hb := d.hp, hp := d.hp, nx := d.nx + 1, wl := (i, d.hb) :: d.wl, rl := d.rl })
          (onG C b d.hp d.rl { s with got := some (g, args.map (opd d.fr), v) :: s.got, want := some (h, zs, v) :: s.want })
      | _, _ => none
    | none => match cls C.P o.op with
      | 0 => match asmOf asm o.dst with
        | some e => putE sz o.dst e d.fr (fun fr => { d with fr := fr }) { s with cgot := pureA C.P o.op (opd d.fr) :: s.cgot, cwant := some e :: s.cwant }
        | none => match pureA C.P o.op (opd d.fr) with
          | some v => putE sz o.dst v d.fr (fun fr => { d with fr := fr }) s
          | none => none
      | 1 => match readA C o.op (opd d.fr) d.hb with
        | some v => match avRefl v with
          | true => putE sz o.dst v d.fr (fun fr => { d with fr := fr, rl := (i, o.op, d.fr, v) :: d.rl }) (backG C b o.op (opd d.fr) v d.wl s)
          | false => none
        | none => none
      | 2 => match allocA C o.op (opd d.fr) with
        | some (bl, mk) => putE sz o.dst (mk d.nx) d.fr (fun fr => { d with fr := fr, hp := d.hp.set d.nx bl, nx := Nat.succ d.nx }) s
        | none => none
      | _ => match wA C (fun _ _ _ _ => .fail none) o.op (opd d.fr) d.hp d.nx with
        | .done v hp nx => putE sz o.dst v d.fr (fun fr => { fr := fr, hb := hp, hp := hp, nx := nx, wl := (i, d.hb) :: d.wl, rl := d.rl }) (onG C b hp d.rl s)
        | _ => none
noncomputable def drawOpsE (C : Ctx) (L : List (Option Ans)) (asm : T AV) (sz : Nat) (all : Array Oper) (m : T Nat) : List Oper → Nat → Dr → GS → Option (Dr × GS)
  | [], _, d, s => some (d, s)
  | o :: r, i, d, s => match m.get i with
    | some b => match drawOpE C L asm sz all o i b d s with
      | some (d, s) => drawOpsE C L asm sz all m r (i + 1) d s
      | none => none
    | none => none
noncomputable def drawE (C : Ctx) (L : List (Option Ans)) (asm : T AV) (sz : Nat) (ops : Array Oper) (k : KG) : KG := fun fr s hp nx =>
  match drawBefs C.P ops with
  | some m => match drawOpsE C L asm sz ops m ops.toList 0 ⟨fr, hp, hp, nx, [], []⟩ s with
    | some (d, s) => k d.fr s d.hp d.nx
    | none => none
  | none => none
noncomputable def exE (C : Ctx) (L : List (Option Ans)) (asm : T AV) (sz : Nat) (c : Code) : KG → (Nat → KG) → KG → KG :=
  Code.rec (motive := fun _ => KG → (Nat → KG) → KG → KG)
    (fun kn _ _ => kn)
    (fun _ ops draw kn _ _ => match draw with
      | false => opsG C L asm sz ops ops.toList kn
      | true => drawE C L asm sz ops kn)
    (fun _ _ a b kn kx kr => a (b kn kx kr) kx kr)
    (fun c _ _ a b kn kx kr => condG c (a kn kx kr) (b kn kx kr))
    (fun id _ a kn kx kr => a kn (fun i => Bool.rec (kx i) kn (Nat.beq i id)) kr)
    (fun _ _ _ _ _ => noneG)
    (fun _ _ _ _ _ _ _ _ _ => noneG)
    (fun id _ kx _ => kx id)
    (fun _ _ _ _ _ => noneG)
    (fun _ kn _ _ => kn)
    (fun _ _ _ _ => noneG)
    (fun _ _ kr => kr)
    (fun _ _ _ _ => noneG)
    c

theorem backG_ok {b : Nat} {o : Op} {ρ : Operand → AV} {v : AV} (hv : avRefl v = true) : ∀ (wl : List (Nat × Hp)) (s : GS), (backG C b o ρ v wl s).ok → s.ok ∧ readBack C b o ρ v wl = true
  | [], s, h => ⟨h, rfl⟩
  | (w, h') :: r, s, h => by
    simp only [backG] at h
    simp only [readBack]
    split at h
    · rename_i hb
      simp only [hb]
      exact ⟨(backG_ok hv r s h).1, trivial⟩
    · rename_i hb
      simp only [hb]
      obtain ⟨⟨h1, h2⟩, h3⟩ := backG_ok hv r _ h
      obtain ⟨h4, h5⟩ := List.cons.inj h2
      refine ⟨⟨h1, h5⟩, ?_⟩
      simp [sameRead, h4, avEq_self hv, h3]
theorem onG_ok {b : Nat} {h' : Hp} : ∀ (rl : List (Nat × Op × Fr × AV)) (s : GS), (onG C b h' rl s).ok → (∀ y ∈ rl, avRefl y.2.2.2 = true) → s.ok ∧ readOn C b h' rl = true
  | [], s, h, _ => ⟨h, rfl⟩
  | (r, o, fr, v) :: l, s, h, hr => by
    simp only [onG] at h
    have hv := hr _ (List.mem_cons_self ..)
    have hl := fun y hy => hr y (List.mem_cons_of_mem _ hy)
    simp only at hv
    simp only [readOn]
    split at h
    · rename_i hb
      obtain ⟨h1, h2⟩ := onG_ok l s h hl
      exact ⟨h1, by simp [hb, h2]⟩
    · rename_i hb
      obtain ⟨⟨h1, h2⟩, h3⟩ := onG_ok l _ h hl
      obtain ⟨h4, h5⟩ := List.cons.inj h2
      refine ⟨⟨h1, h5⟩, ?_⟩
      simp [sameRead, h4, avEq_self hv, h3]
theorem putE_some {pos : String} {sz : Nat} {dd : Option Tmp} {v : AV} {d : Dr} {k : Fr → Dr} {s s' : GS} {d' : Dr} (h : putE sz dd v d.fr k s = some (d', s')) : s = s' ∧ putR pos sz dd v d k = .ok d' ∧ ∃ fr, d' = k fr := by
  unfold putE at h
  split at h
  · rename_i fr hfr
    cases h
    exact ⟨rfl, by simp [putR, hfr], fr, rfl⟩
  · cases h
theorem drawOpE_sim {L : List (Option Ans)} {asm : T AV} {sz : Nat} {all : Array Oper} {o : Oper} {i b : Nat} {d d' : Dr} {s s' : GS} (h : drawOpE C L asm sz all o i b d s = some (d', s')) (hs : s'.ok) (hd : ∀ y ∈ d.rl, avRefl y.2.2.2 = true) :
    s.ok ∧ drawOp C (clL L) sz all o i b d = .ok d' ∧ ∀ y ∈ d'.rl, avRefl y.2.2.2 = true := by
  unfold drawOpE at h
  unfold drawOp
  split at h
  · cases h
  · rename_i hw
    simp only [hw]
    obtain ⟨rfl, h2, fr, rfl⟩ := putE_some (pos := o.pos) h
    exact ⟨hs, h2, hd⟩
  · rename_i hw
    simp only [hw]
    split at h
    · rename_i f args hcall
      split at h
      · rename_i g h' zs u hg hL
        obtain ⟨e, h2, fr, rfl⟩ := putE_some (pos := o.pos) h
        rw [← e] at hs
        obtain ⟨⟨h3, h4⟩, h5⟩ := onG_ok _ _ hs hd
        obtain ⟨h6, h7⟩ := List.cons.inj h3
        cases h6
        obtain ⟨k1, k2⟩ := wA_call (hp := d.hp) hcall hg hL
        simp only [k1, k2, h5]
        exact ⟨⟨h7, h4⟩, h2, hd⟩
      · cases h
    · rename_i hcall
      generalize cls C.P o.op = q at h ⊢
      rcases q with _ | _ | _ | q
      · simp only at h ⊢
        split at h
        · obtain ⟨e, h2, fr, rfl⟩ := putE_some (pos := o.pos) h
          rw [← e] at hs
          obtain ⟨h3, h4⟩ := hs
          obtain ⟨h6, h7⟩ := List.cons.inj h4
          simp only [h6]
          exact ⟨⟨h3, h7⟩, h2, hd⟩
        · split at h
          · rename_i v hv
            obtain ⟨rfl, h2, fr, rfl⟩ := putE_some (pos := o.pos) h
            simp only [hv]
            exact ⟨hs, h2, hd⟩
          · cases h
      · simp only at h ⊢
        split at h
        · rename_i v hv
          split at h
          · rename_i hvr
            obtain ⟨e, h2, fr, rfl⟩ := putE_some (pos := o.pos) h
            rw [← e] at hs
            obtain ⟨h3, h4⟩ := backG_ok hvr _ _ hs
            simp only [hv, h4]
            refine ⟨h3, h2, fun y hy => ?_⟩
            rcases List.mem_cons.1 hy with rfl | hy
            · exact hvr
            · exact hd y hy
          · cases h
        · cases h
      · simp only at h ⊢
        split at h
        · rename_i bl mk hv
          obtain ⟨rfl, h2, fr, rfl⟩ := putE_some (pos := o.pos) h
          simp only [hv]
          exact ⟨hs, h2, hd⟩
        · cases h
      · simp only at h ⊢
        split at h
        · rename_i v hp1 nx1 hv
          obtain ⟨e, h2, fr, rfl⟩ := putE_some (pos := o.pos) h
          rw [← e] at hs
          obtain ⟨h3, h4⟩ := onG_ok _ _ hs hd
          have hv := wA_other (cl' := clL L) hcall hv
          simp only [hv, h4]
          exact ⟨h3, h2, hd⟩
        · cases h
theorem rl_refl {L : List (Option Ans)} {asm : T AV} {sz : Nat} {all : Array Oper} {o : Oper} {i b : Nat} {d d' : Dr} {s s' : GS} (h : drawOpE C L asm sz all o i b d s = some (d', s')) (hd : ∀ y ∈ d.rl, avRefl y.2.2.2 = true) :
    ∀ y ∈ d'.rl, avRefl y.2.2.2 = true := by
  unfold drawOpE at h
  split at h
  · cases h
  · obtain ⟨_, _, fr, rfl⟩ := putE_some (pos := o.pos) h; exact hd
  · split at h
    · split at h
      · obtain ⟨_, _, fr, rfl⟩ := putE_some (pos := o.pos) h; exact hd
      · cases h
    · generalize cls C.P o.op = q at h
      rcases q with _ | _ | _ | q
      · simp only at h
        split at h
        · obtain ⟨_, _, fr, rfl⟩ := putE_some (pos := o.pos) h; exact hd
        · split at h
          · obtain ⟨_, _, fr, rfl⟩ := putE_some (pos := o.pos) h; exact hd
          · cases h
      · simp only at h
        split at h
        · split at h
          · rename_i hvr
            obtain ⟨_, _, fr, rfl⟩ := putE_some (pos := o.pos) h
            intro y hy
            rcases List.mem_cons.1 hy with rfl | hy
            · exact hvr
            · exact hd y hy
          · cases h
        · cases h
      · simp only at h
        split at h
        · obtain ⟨_, _, fr, rfl⟩ := putE_some (pos := o.pos) h; exact hd
        · cases h
      · simp only at h
        split at h
        · obtain ⟨_, _, fr, rfl⟩ := putE_some (pos := o.pos) h; exact hd
        · cases h
theorem drawOpsE_sim {L : List (Option Ans)} {asm : T AV} {sz : Nat} {all : Array Oper} {m : T Nat} : ∀ (l : List Oper) (i : Nat) {d d' : Dr} {s s' : GS}, drawOpsE C L asm sz all m l i d s = some (d', s') → s'.ok → (∀ y ∈ d.rl, avRefl y.2.2.2 = true) →
    s.ok ∧ drawOps C (clL L) sz all m l i d = .ok d'
  | [], i, d, d', s, s', h, hs, hd => by
    simp only [drawOpsE] at h
    cases h
    exact ⟨hs, rfl⟩
  | o :: r, i, d, d', s, s', h, hs, hd => by
    simp only [drawOpsE] at h
    split at h
    · rename_i b hb
      split at h
      · rename_i d1 s1 h1
        have hd1 : ∀ y ∈ d1.rl, avRefl y.2.2.2 = true := by
          exact rl_refl h1 hd
        obtain ⟨g1, g2⟩ := drawOpsE_sim r (i + 1) h hs hd1
        obtain ⟨g3, g4, _⟩ := drawOpE_sim h1 g1 hd
        exact ⟨g3, by simp only [drawOps, hb, g4]; exact g2⟩
      · cases h
    · cases h
theorem drawE_sim {L : List (Option Ans)} {asm : T AV} {sz : Nat} {ops : Array Oper} {k : KG} {kn : KN} {kp : List APan → KN} (hk : Sim k kn) : Sim (drawE C L asm sz ops k) (regionK C (clL L) sz ops true kn kp) := by
  intro fr s hp nx v s' hp' nx' h hs
  simp only [drawE] at h
  simp only [regionK]
  split at h
  · rename_i m hm
    split at h
    · rename_i d s1 h1
      obtain ⟨g1, g2⟩ := hk _ _ _ _ _ _ _ _ h hs
      obtain ⟨g3, g4⟩ := drawOpsE_sim _ _ h1 g1 (fun y hy => by cases hy)
      refine ⟨g3, ?_⟩
      simp only [hm, g4]
      exact g2
    · cases h
  · cases h
theorem exE_sim {L : List (Option Ans)} {asm : T AV} {sz : Nat} {f : FuncId} {kp : List APan → KN} : ∀ (c : Code) {kn : KG} {kx : Nat → KG} {kr : KG} {kn' : KN} {kx' : Nat → KN} {kr' : KN}, Sim kn kn' → (∀ i, Sim (kx i) (kx' i)) → Sim kr kr' →
    Sim (exE C L asm sz c kn kx kr) (ex C (clL L) f sz none c kn' kx' kr' kp) := by
  intro c
  induction c with
  | skip => intro kn kx kr kn' kx' kr' hn hx hr; exact hn
  | region id ops draw =>
    intro kn kx kr kn' kx' kr' hn hx hr
    cases draw with
    | false => exact opsG_sim hn _
    | true => exact drawE_sim (kp := kp) hn
  | seq x y ihx ihy => intro kn kx kr kn' kx' kr' hn hx hr; exact ihx (ihy hn hx hr) hx hr
  | cond c x y ihx ihy =>
    intro kn kx kr kn' kx' kr' hn hx hr fr s hp nx v s' hp' nx' h hs
    have h : condG c (exE C L asm sz x kn kx kr) (exE C L asm sz y kn kx kr) fr s hp nx = some (v, s', hp', nx') := h
    show s.ok ∧ condK c (ex C (clL L) f sz none x kn' kx' kr' kp) (ex C (clL L) f sz none y kn' kx' kr' kp) fr [] hp nx = _
    unfold condG at h
    unfold condK
    split at h
    · rename_i hb; rw [hb]; exact ihx hn hx hr _ _ _ _ _ _ _ _ h hs
    · rename_i hb; rw [hb]; exact ihy hn hx hr _ _ _ _ _ _ _ _ h hs
    · cases h
  | block id x ihx =>
    intro kn kx kr kn' kx' kr' hn hx hr
    refine ihx hn (fun i => ?_) hr
    show Sim (Bool.rec (kx i) kn (Nat.beq i id)) (Bool.rec (kx' i) kn' (Nat.beq i id))
    cases Nat.beq i id
    · exact hx i
    · exact hn
  | loop x ihx => intro kn kx kr kn' kx' kr' hn hx hr; exact Sim.none _
  | rangeFunc g ps as bd _ _ => intro kn kx kr kn' kx' kr' hn hx hr; exact Sim.none _
  | exit id => intro kn kx kr kn' kx' kr' hn hx hr; exact hx id
  | scope x _ => intro kn kx kr kn' kx' kr' hn hx hr; exact Sim.none _
  | label l => intro kn kx kr kn' kx' kr' hn hx hr; exact hn
  | goto l => intro kn kx kr kn' kx' kr' hn hx hr; exact Sim.none _
  | ret => intro kn kx kr kn' kx' kr' hn hx hr; exact hr
  | refuse y => intro kn kx kr kn' kx' kr' hn hx hr; exact Sim.none _

/-! A PIECE: from one state to the next. -/
/-- Where a piece ends: how it ends (0: it goes on; i + 1: it leaves block i), and what stands in the slots that are asked for. -/
noncomputable def endG (tag : Nat) (slots : List Nat) : KG := fun fr s hp nx => some (.tup (.gptr tag 0 :: slots.map fun t => opd fr (.tmp t)), s, hp, nx)
noncomputable def endK (tag : Nat) (slots : List Nat) : KN := fun fr ds hp nx => match ds with
  | [] => .done (.tup (.gptr tag 0 :: slots.map fun t => opd fr (.tmp t))) hp nx
  | _ => .fail none
theorem endG_sim (tag : Nat) (slots : List Nat) : Sim (endG tag slots) (endK tag slots) := fun fr s hp nx v s' hp' nx' h hs => by
  unfold endG at h
  cases h
  exact ⟨hs, rfl⟩
theorem endK_mono {tag : Nat} {slots : List Nat} {vf : AV} {hf : Hp} {nf : Nat} : KM (.done vf hf nf) nf (endK tag slots) := fun fr ds hp nx h => by
  unfold endK at h
  split at h
  · cases h
    exact Nat.le_refl _
  · cases h
/-- The slots' values as a frame. -/
noncomputable def frOf : List Nat → List AV → Fr
  | t :: ts, v :: vs => (frOf ts vs).set t v
  | _, _ => .leaf
theorem frOf_rel {fr : Fr} {sz : Nat} {a : Act} (h : FrRel σ fr sz a.tmps) : ∀ (slots : List Nat) (vs : List AV), (∀ t ∈ slots, t < sz) → slots.map (fun t => opd fr (.tmp t)) = vs → FrRel σ (frOf slots vs) sz a.tmps
  | [], _, _, _ => ⟨h.1, fun t v ht => by simp [frOf, T.get_leaf] at ht⟩
  | t :: ts, _, hl, rfl => by
    have ih := frOf_rel h ts _ (fun u hu => hl u (List.mem_cons_of_mem _ hu)) rfl
    refine ⟨h.1, fun u v hu => ?_⟩
    simp only [List.map_cons, frOf, T.get_set] at hu
    split at hu
    · rename_i e
      cases hu
      subst e
      have hlt : u < a.tmps.size := by rw [h.1]; exact hl u (List.mem_cons_self ..)
      refine ⟨a.tmps[u], Array.getElem?_eq_getElem hlt, ?_⟩
      have := opd_rel h (.tmp u)
      simpa [Act.eval, Array.getD_eq_getD_getElem?, Array.getElem?_eq_getElem hlt] using this
    · exact ih.2 u v hu
/-- A state between two pieces. -/
structure Mid (pr : Pr) (σ : Sig) (sz : Nat) (fr : Fr) (hp : Hp) (nx : Nat) (a : Act) (w : World) : Prop where
  fr : FrRel σ fr sz a.tmps
  ds : a.defers = []
  r : R pr σ hp w
  fresh : ∀ id, nx ≤ id → σ id = none
theorem Mid.st {sz : Nat} {fr : Fr} {nx nf : Nat} {a : Act} (m : Mid pr σ sz fr hp nx a w) : St pr σ sz nf fr [] hp nx a w := ⟨m.fr, by rw [m.ds]; trivial, m.r, fun id h _ => m.fresh id h⟩
theorem Mid.of {τ : Sig} {sz : Nat} {fr : Fr} {hp' : Hp} {nx nx' : Nat} {a a' : Act} {w' : World} (m : Mid pr σ sz fr hp nx a w) (e : Ext σ τ nx nx') {fr' : Fr} (h1 : FrRel τ fr' sz a'.tmps) (h2 : DsRel τ [] a'.defers) (h3 : R pr τ hp' w') : Mid pr τ sz fr' hp' nx' a' w' :=
  ⟨h1, by cases hd : a'.defers with
    | nil => rfl
    | cons d l => rw [hd] at h2; exact h2.elim, h3, fun id hid => by rw [e.out id (.inr hid)]; exact m.fresh id (Nat.le_trans e.nx hid)⟩
def exitOf : Nat → Exit
  | 0 => .normal
  | i + 1 => .exit i
theorem nopan {vf : AV} {hf : Hp} {nf : Nat} : ∀ (c : List APan) fr ds hp nx, (fun _ => failK : List APan → KN) c fr ds hp nx ≠ .done vf hf nf := fun _ _ _ _ _ h => by cases h
/-- **A PIECE.** -/
theorem piece_ok (hP : POk C.P) (hX : ExtOk C) {L : List (Option Ans)} (hL : ∀ x, some x ∈ L → AnsOk C x) (hg : GlOk C pr) {asm : T AV} {sz : Nat} {c : Code} {slots : List Nat} {fr : Fr} {nx : Nat} {a : Act} {s : GS} {tag : Nat} {vs : List AV} {hp' : Hp} {nx' : Nat}
    (h : exE C L asm sz c (endG 0 slots) (fun i => endG (i + 1) slots) noneG fr ⟨[], [], [], []⟩ hp nx = some (.tup (.gptr tag 0 :: vs), s, hp', nx')) (hs : s.ok) (hsl : ∀ t ∈ slots, t < sz) (m : Mid pr σ sz fr hp nx a w) :
    c.wpIn (FF none) 0 C.P (fun e a' w' => e = exitOf tag ∧ ∃ τ, Ext σ τ nx nx' ∧ Mid pr τ sz (frOf slots vs) hp' nx' a' w') a w := by
  obtain ⟨_, he⟩ := exE_sim (C := C) (f := 0) (kp := fun _ => failK) c (endG_sim 0 slots) (fun i => endG_sim (i + 1) slots) (Sim.none failK) _ _ _ _ _ _ _ _ h hs
  have fin : ∀ tg (Q : Act → World → Prop), (tg = tag → ∀ a' w', (∃ τ, Ext σ τ nx nx' ∧ Mid pr τ sz (frOf slots vs) hp' nx' a' w') → Q a' w') → Next_ pr σ sz nx' nx (.tup (.gptr tag 0 :: vs)) hp' (endK tg slots) Q := by
    intro tg Q hQ fr' ds' hp1 nx1 σ' a' w' h1 h2 h3
    unfold endK at h1
    split at h1
    · cases h1
      exact hQ rfl a' w' ⟨σ', h2, m.of h2 (frOf_rel h3.fr slots _ hsl rfl) h3.ds h3.r⟩
    · cases h1
  exact ex_sound (ro := none) hP hX (clL_ok hL) hg c endK_mono (fun _ => endK_mono) failK_mono nopan he m.st (show RoRel σ none none from trivial)
    (fin 0 _ fun e a' w' hq => ⟨by rw [← e]; rfl, hq⟩) (fun id => fin (id + 1) _ fun e a' w' hq => ⟨by rw [← e]; rfl, hq⟩) (fun fr' ds' hp1 nx1 σ' a' w' h1 => by cases h1)
end Go.Proofs.YtjaabolpdelbiaaDoor.AX
