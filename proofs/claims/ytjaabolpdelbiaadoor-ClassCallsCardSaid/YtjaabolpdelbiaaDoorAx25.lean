/- AX, part 25: a function without loops, run with known answers of its calls and with tests that are settled ahead; what was taken on trust is collected. -/
import Derived.Test.YtjaabolpdelbiaaDoorAx24
namespace Go.Proofs.YtjaabolpdelbiaaDoor.AX
open Go
variable {P : Program} {σ : Sig} {w : World} {pr : Pr} {hp : Hp} {C : Ctx} {cl : CallF}

/-- A call's answer: the function, its arguments, what it returns. -/
abbrev Ans := FuncId × List AV × AV
/-- What is taken on trust: the calls as they came, as they are listed; the values as they came, as they are settled. -/
structure GS where
  got : List (Option Ans)
  want : List (Option Ans)
  cgot : List (Option AV)
  cwant : List (Option AV)
def GS.ok (s : GS) : Prop := s.got = s.want ∧ s.cgot = s.cwant
abbrev RG := Option (AV × GS × Hp × Nat)
abbrev KG := Fr → GS → Hp → Nat → RG

noncomputable def nthL (L : List (Option Ans)) (n : Nat) : Option Ans :=
  List.rec (motive := fun _ => Nat → Option Ans) (fun _ => none) (fun x _ ih n => Nat.rec x (fun m _ => ih m) n) L n
/-- The calls' answers, by 'nx'. -/
noncomputable def clL (L : List (Option Ans)) : CallF := fun t args hp nx =>
  match t with
  | .fn f => match nthL L nx with
    | some (g, as, v) => open Classical in if g = f ∧ as = args then .done v hp (nx + 1) else .fail none
    | none => .fail none
  | .rnd _ => .fail none
noncomputable def calleeOf (ext : T Nat) (f : AV) : Option FuncId :=
  match f with
  | .fn (.func g) [] [] => match ext.get g with
    | none => some g
    | some _ => none
  | _ => none
noncomputable def putG (sz : Nat) (d : Option Tmp) (v : AV) (fr : Fr) (k : Fr → RG) : RG :=
  match d with
  | none => k fr
  | some t => match Nat.ble (Nat.succ t) sz with
    | true => k (fr.set t v)
    | false => none
noncomputable def asmOf (asm : T AV) (d : Option Tmp) : Option AV :=
  match d with
  | none => none
  | some t => asm.get t
def isCall (o : Op) : Option (Operand × List Operand) :=
  match o with
  | .call c => match c.callee with
    | .value f => some (f, c.args.toList)
    | _ => none
  | _ => none
/-- 'append' to a slice whose capacity is not known, its length perhaps not known either: its two tests are told. -/
noncomputable def appU (C : Ctx) (o : Op) (ρ : Operand → AV) (hp : Hp) (nx : Nat) : Option (Bool × Bool × AV × Hp × Nat) :=
  match o with
  | .call c => match c.callee with
    | .builtin .append => match c.args[0]?, c.args[1]?, c.argTypes[0]?, c.argTypes[1]? with
      | some s, some x, some t, some t' => match C.P.underlying t, C.P.underlying t' with
        | some (.slice e), some (.slice _) => match C.P.info? e, lenOfA (ρ x) with
          | some i, some (n + 1) => match elemsA i.size (n + 1) (ρ x) hp, ρ s with
            | some new, .opn id 0 len z => match hp.get id, zeroOk C.P e i.size, i.size, Nat.beq z i.size, Nat.beq new.length (Nat.mul (n + 1) i.size), atomsB new with
              | some (.cells c m cl), true, _ + 1, true, true, true => some (Nat.ble (Nat.add 0 (Nat.mul len z)) m, roomOk i.bytes (Nat.add len (n + 1)), .opn nx 0 (Nat.add len (n + 1)) z,
                  (hp.put id none).set nx (.cells (writeL c (Nat.mul len z) new) (Nat.mul (Nat.add len (n + 1)) z) cl), Nat.succ nx)
              | _, _, _, _, _, _ => none
            | _, _ => none
          | _, _ => none
        | _, _ => none
      | _, _, _, _ => none
    | _ => none
  | _ => none
theorem appU_ok {o : Op} {ρ : Operand → AV} {hp : Hp} {nx : Nat} {v : AV} {hp' : Hp} {nx' : Nat} (h : appU C o ρ hp nx = some (true, true, v, hp', nx')) : wA C cl o ρ hp nx = .done v hp' nx' := by
  unfold appU at h
  split at h
  case h_2 => cases h
  split at h
  case h_2 => cases h
  rename_i c hc
  split at h
  case h_2 => cases h
  rename_i s x t t' e1 e2 e3 e4
  split at h
  case h_2 => cases h
  rename_i e e' e5 e6
  split at h
  case h_2 => cases h
  rename_i i n e7 e8
  split at h
  case h_2 => cases h
  rename_i new id len z e9 e10
  split at h
  case h_2 => cases h
  rename_i cs m cl' q h1 h2 h3 h4 h5 h6
  simp only [Option.some.injEq, Prod.mk.injEq] at h
  obtain ⟨b1, b2, rfl, rfl, rfl⟩ := h
  simp only [wA, hc, e1, e2, appendA, e3, e4, e5, e6, e7, e8, h3] at *
  simp only [e9, h5, h2, e10, h4, opnA, h1, b1, b2, h6]
noncomputable def opG (C : Ctx) (L : List (Option Ans)) (asm : T AV) (sz : Nat) (all : Array Oper) (o : Oper) (fr : Fr) (s : GS) (hp : Hp) (nx : Nat) (k : KG) : RG :=
  match wantedA all fr o with
  | none => none
  | some false => putG sz o.dst (.tup []) fr fun fr => k fr s hp nx
  | some true => match isCall o.op with
    | some (f, args) => match calleeOf C.ext (opd fr f), nthL L nx with
      | some g, some (h, as, v) => putG sz o.dst v fr fun fr' => k fr' { s with got := some (g, args.map (opd fr), v) :: s.got, want := some (h, as, v) :: s.want } hp (nx + 1)
      | _, _ => none
    | none => match cls C.P o.op with
      | 0 => match asmOf asm o.dst with
        | some e => putG sz o.dst e fr fun fr' => k fr' { s with cgot := pureA C.P o.op (opd fr) :: s.cgot, cwant := some e :: s.cwant } hp nx
        | none => match pureA C.P o.op (opd fr) with
          | some v => putG sz o.dst v fr fun fr => k fr s hp nx
          | none => none
      | 1 => match asmOf asm o.dst with
        | some e => putG sz o.dst e fr fun fr' => k fr' { s with cgot := readA C o.op (opd fr) hp :: s.cgot, cwant := some e :: s.cwant } hp nx
        | none => match readA C o.op (opd fr) hp with
          | some v => putG sz o.dst v fr fun fr => k fr s hp nx
          | none => none
      | 2 => match allocA C o.op (opd fr) with
        | some (b, mk) => putG sz o.dst (mk nx) fr fun fr => k fr s (hp.set nx b) (Nat.succ nx)
        | none => none
      | _ => match asmOf asm o.dst with
        | some _ => match appU C o.op (opd fr) hp nx with
          | some (b, b', v, hp, nx) => putG sz o.dst v fr fun fr => k fr { s with cgot := some (.bool b) :: some (.bool b') :: s.cgot, cwant := some (.bool true) :: some (.bool true) :: s.cwant } hp nx
          | none => none
        | none => match wA C (fun _ _ _ _ => .fail none) o.op (opd fr) hp nx with
          | .done v hp nx => putG sz o.dst v fr fun fr => k fr s hp nx
          | _ => none
noncomputable def opsG (C : Ctx) (L : List (Option Ans)) (asm : T AV) (sz : Nat) (all : Array Oper) (l : List Oper) (k : KG) : KG :=
  List.rec (motive := fun _ => KG) k (fun o _ ih fr s hp nx => opG C L asm sz all o fr s hp nx ih) l
def atomRefl (a : AV) : Bool :=
  match a with
  | .bool _ => true | .int _ _ => true | .str _ => true | .nilp => true | .ptr _ _ => true | .gptr _ _ => true | .nils => true | .slice _ _ _ _ => true | .opn _ _ _ _ => true | .gsl _ _ _ _ => true
  | .nilm => true | .map _ => true | .yld _ => true | .nilf => true | .nili => true | .one => true
  | _ => false
def avRefl (a : AV) : Bool :=
  match a with
  | .agg l => l.all atomRefl
  | .iface _ x => atomRefl x
  | a => atomRefl a
/-- An operation of a region that draws its order; memory stays as it is. -/
noncomputable def drawOpG (C : Ctx) (L : List (Option Ans)) (asm : T AV) (sz : Nat) (all : Array Oper) (o : Oper) (fr : Fr) (s : GS) (hp : Hp) (nx : Nat) : Option (Fr × GS × Nat) :=
  match wantedA all fr o with
  | none => none
  | some false => match putD sz o.dst (.tup []) fr with
    | some fr => some (fr, s, nx)
    | none => none
  | some true => match isCall o.op with
    | some (f, args) => match calleeOf C.ext (opd fr f), nthL L nx with
      | some g, some (h, zs, v) => match putD sz o.dst v fr with
        | some fr' => some (fr', { s with got := some (g, args.map (opd fr), v) :: s.got, want := some (h, zs, v) :: s.want }, nx + 1)
        | none => none
      | _, _ => none
    | none => match cls C.P o.op with
      | 0 => match asmOf asm o.dst with
        | some e => match putD sz o.dst e fr with
          | some fr' => some (fr', { s with cgot := pureA C.P o.op (opd fr) :: s.cgot, cwant := some e :: s.cwant }, nx)
          | none => none
        | none => match pureA C.P o.op (opd fr) with
          | some v => match putD sz o.dst v fr with
            | some fr => some (fr, s, nx)
            | none => none
          | none => none
      | 1 => match readA C o.op (opd fr) hp with
        | some v => match avRefl v with
          | true => match putD sz o.dst v fr with
            | some fr => some (fr, s, nx)
            | none => none
          | false => none
        | none => none
      | _ => none
noncomputable def drawOpsG (C : Ctx) (L : List (Option Ans)) (asm : T AV) (sz : Nat) (all : Array Oper) (m : T Nat) (hp : Hp) : List Oper → Nat → Fr → GS → Nat → Option (Fr × GS × Nat)
  | [], _, fr, s, nx => some (fr, s, nx)
  | o :: r, i, fr, s, nx => match m.get i with
    | some _ => match drawOpG C L asm sz all o fr s hp nx with
      | some (fr, s, nx) => drawOpsG C L asm sz all m hp r (i + 1) fr s nx
      | none => none
    | none => none
noncomputable def drawG (C : Ctx) (L : List (Option Ans)) (asm : T AV) (sz : Nat) (ops : Array Oper) (k : KG) : KG := fun fr s hp nx =>
  match drawBefs C.P ops with
  | some m => match drawOpsG C L asm sz ops m hp ops.toList 0 fr s nx with
    | some (fr, s, nx) => k fr s hp nx
    | none => none
  | none => none
noncomputable def condG (c : Operand) (a b : KG) : KG := fun fr s hp nx =>
  match opd fr c with
  | .bool true => a fr s hp nx
  | .bool false => b fr s hp nx
  | _ => none
def noneG : KG := fun _ _ _ _ => none
noncomputable def exG (C : Ctx) (L : List (Option Ans)) (asm : T AV) (sz : Nat) (c : Code) : KG → (Nat → KG) → KG → KG :=
  Code.rec (motive := fun _ => KG → (Nat → KG) → KG → KG)
    (fun kn _ _ => kn)
    (fun _ ops draw kn _ _ => match draw with
      | false => opsG C L asm sz ops ops.toList kn
      | true => drawG C L asm sz ops kn)
    (fun _ _ a b kn kx kr => a (b kn kx kr) kx kr)
    (fun c _ _ a b kn kx kr => condG c (a kn kx kr) (b kn kx kr))
    (fun id _ a kn kx kr => a kn (fun i => Bool.rec (kx i) kn (Nat.beq i id)) kr)
    (fun _ _ _ _ _ => noneG)
    (fun _ _ _ _ _ _ _ _ _ => noneG)
    (fun id _ kx _ => kx id)
    (fun _ _ _ _ _ => noneG)
    (fun _ kn _ _ => kn)
    (fun _ _ _ _ => noneG)
    (fun _ _ kr => kr)
    (fun _ _ _ _ => noneG)
    c
noncomputable def retG (C : Ctx) (fn : Func) : KG := fun fr s hp nx =>
  match resultA C fn fr hp with
  | some v => some (v, s, hp, nx)
  | none => none
/-- A function's call, run so. -/
noncomputable def callG (C : Ctx) (L : List (Option Ans)) (asm : T AV) (f : FuncId) (args : List AV) (hp : Hp) (nx : Nat) : RG :=
  match C.P.funcs[f]? with
  | some fn => match fn.body with
    | some c => match Nat.ble args.length fn.ntmps with
      | true => exG C L asm fn.ntmps c (retG C fn) (fun _ => noneG) (retG C fn) (ofL args) ⟨[], [], [], []⟩ hp nx
      | false => none
    | none => none
  | none => none

/-! It is what 'ex' does, if what was taken on trust is so. -/
def Sim (k : KG) (k' : KN) : Prop := ∀ fr s hp nx v s' hp' nx', k fr s hp nx = some (v, s', hp', nx') → s'.ok → s.ok ∧ k' fr [] hp nx = .done v hp' nx'
theorem Sim.none (k' : KN) : Sim noneG k' := fun _ _ _ _ _ _ _ _ h => by cases h
theorem putG_sim {sz : Nat} {d : Option Tmp} {v : AV} {fr : Fr} {k : Fr → RG} {k' : Fr → Res} {x : AV × GS × Hp × Nat} {y : Res} (h : putG sz d v fr k = some x) (hk : ∀ fr, k fr = some x → k' fr = y) : putK sz d v fr k' = y := by
  unfold putG at h
  unfold putK
  split at h
  · exact hk _ h
  · split at h
    · simp only
      rw [‹Nat.ble _ _ = true›]
      exact hk _ h
    · cases h
theorem putG_some {sz : Nat} {d : Option Tmp} {v : AV} {fr : Fr} {k : Fr → RG} {x : AV × GS × Hp × Nat} (h : putG sz d v fr k = some x) : ∃ fr, k fr = some x := by
  unfold putG at h
  split at h
  · exact ⟨_, h⟩
  · split at h
    · exact ⟨_, h⟩
    · cases h
theorem clL_eq {L : List (Option Ans)} {nx : Nat} {f : FuncId} {args : List AV} {v : AV} (h : nthL L nx = some (f, args, v)) : clL L (.fn f) args hp nx = .done v hp (nx + 1) := by
  simp [clL, h]
theorem wA_other {cl' : CallF} {o : Op} {ρ : Operand → AV} {hp : Hp} {nx : Nat} {v : AV} {hp' : Hp} {nx' : Nat} (hn : isCall o = none) (h : wA C (fun _ _ _ _ => .fail none) o ρ hp nx = .done v hp' nx') : wA C cl' o ρ hp nx = .done v hp' nx' := by
  unfold wA at h ⊢
  cases o <;> try exact h
  rename_i c
  simp only at h ⊢
  simp only [isCall] at hn
  split at hn
  · cases hn
  · rename_i hne
    cases hc : c.callee with
    | value f => exact absurd hc (by simpa using hne f)
    | builtin b => rw [hc] at h; cases b <;> exact h
    | _ => rw [hc] at h; exact h
theorem opG_sim {L : List (Option Ans)} {asm : T AV} {sz : Nat} {all : Array Oper} {o : Oper} {k : KG} {kn : KN} {kp : List APan → KN} (hk : Sim k kn) :
    Sim (fun fr s hp nx => opG C L asm sz all o fr s hp nx k) (fun fr ds hp nx => opK C (clL L) sz all o fr ds hp nx kn kp) := by
  intro fr s hp nx v s' hp' nx' h hs
  simp only [opG] at h
  simp only [opK]
  split at h
  · cases h
  · rename_i hw
    rw [hw]
    obtain ⟨_, hf⟩ := putG_some h
    exact ⟨(hk _ _ _ _ _ _ _ _ hf hs).1, putG_sim h fun fr hf => (hk _ _ _ _ _ _ _ _ hf hs).2⟩
  · rename_i hw
    rw [hw]
    simp only
    split at h
    · rename_i f args hcall
      have hop : ∃ c, o.op = .call c ∧ c.callee = .value f ∧ c.args.toList = args := by
        unfold isCall at hcall
        split at hcall
        · rename_i c hc
          split at hcall
          · rename_i f' hf
            cases hcall
            exact ⟨c, hc, hf, rfl⟩
          · cases hcall
        · cases hcall
      obtain ⟨c, hc, hcf, rfl⟩ := hop
      split at h
      · rename_i g h' as u hg hL
        obtain ⟨_, hf⟩ := putG_some h
        obtain ⟨⟨h1, h2⟩, _⟩ := hk _ _ _ _ _ _ _ _ hf hs
        obtain ⟨h3, h4⟩ := List.cons.inj h1
        cases h3
        refine ⟨⟨h4, h2⟩, ?_⟩
        have hcls : cls C.P o.op = 3 := by rw [hc]; simp [cls, hcf]
        have hw3 : wA C (clL L) o.op (opd fr) hp nx = .done u hp (nx + 1) := by
          rw [hc]
          unfold wA
          simp only [hcf]
          unfold calleeOf at hg
          split at hg
          · rename_i g' he
            split at hg
            · rename_i hx
              cases hg
              rw [he]
              simp only [callVal, hx, List.nil_append, List.append_nil]
              exact clL_eq hL
            · cases hg
          · cases hg
        rw [hcls]
        simp only [hw3]
        exact putG_sim h fun fr hf => (hk _ _ _ _ _ _ _ _ hf hs).2
      · cases h
    · rename_i hcall
      generalize cls C.P o.op = q at h ⊢
      rcases q with _ | _ | _ | q
      · simp only at h ⊢
        split at h
        · rename_i e he
          obtain ⟨_, hf⟩ := putG_some h
          obtain ⟨⟨h1, h2⟩, _⟩ := hk _ _ _ _ _ _ _ _ hf hs
          obtain ⟨h3, h4⟩ := List.cons.inj h2
          refine ⟨⟨h1, h4⟩, ?_⟩
          rw [h3]
          exact putG_sim h fun fr hf => (hk _ _ _ _ _ _ _ _ hf hs).2
        · split at h
          · rename_i hv
            simp only [hv]
            obtain ⟨_, hf⟩ := putG_some h
            exact ⟨(hk _ _ _ _ _ _ _ _ hf hs).1, putG_sim h fun fr hf => (hk _ _ _ _ _ _ _ _ hf hs).2⟩
          · cases h
      · simp only at h ⊢
        split at h
        · rename_i e he
          obtain ⟨_, hf⟩ := putG_some h
          obtain ⟨⟨h1, h2⟩, _⟩ := hk _ _ _ _ _ _ _ _ hf hs
          obtain ⟨h3, h4⟩ := List.cons.inj h2
          refine ⟨⟨h1, h4⟩, ?_⟩
          rw [h3]
          exact putG_sim h fun fr hf => (hk _ _ _ _ _ _ _ _ hf hs).2
        · split at h
          · rename_i hv
            simp only [hv]
            obtain ⟨_, hf⟩ := putG_some h
            exact ⟨(hk _ _ _ _ _ _ _ _ hf hs).1, putG_sim h fun fr hf => (hk _ _ _ _ _ _ _ _ hf hs).2⟩
          · cases h
      · simp only at h ⊢
        split at h
        · rename_i hv
          simp only [hv]
          obtain ⟨_, hf⟩ := putG_some h
          exact ⟨(hk _ _ _ _ _ _ _ _ hf hs).1, putG_sim h fun fr hf => (hk _ _ _ _ _ _ _ _ hf hs).2⟩
        · cases h
      · simp only at h ⊢
        split at h
        · split at h
          · rename_i b b' u hp1 nx1 hu
            obtain ⟨_, hf⟩ := putG_some h
            obtain ⟨⟨h1, h2⟩, _⟩ := hk _ _ _ _ _ _ _ _ hf hs
            obtain ⟨h3, h4⟩ := List.cons.inj h2
            obtain ⟨h5, h6⟩ := List.cons.inj h4
            simp only [Option.some.injEq, AV.bool.injEq] at h3 h5
            subst h3
            subst h5
            simp only [appU_ok hu]
            exact ⟨⟨h1, h6⟩, putG_sim h fun fr hf => (hk _ _ _ _ _ _ _ _ hf hs).2⟩
          · cases h
        · split at h
          · rename_i hv
            have hv := wA_other (cl' := clL L) hcall hv
            simp only [hv]
            obtain ⟨_, hf⟩ := putG_some h
            exact ⟨(hk _ _ _ _ _ _ _ _ hf hs).1, putG_sim h fun fr hf => (hk _ _ _ _ _ _ _ _ hf hs).2⟩
          · cases h
theorem opsG_sim {L : List (Option Ans)} {asm : T AV} {sz : Nat} {all : Array Oper} {k : KG} {kn : KN} {kp : List APan → KN} (hk : Sim k kn) : ∀ l, Sim (opsG C L asm sz all l k) (opsK C (clL L) sz all l kn kp)
  | [] => hk
  | _ :: l => opG_sim (opsG_sim hk l)
theorem kindEq_self (k : IntKind) : kindEq k k = true := by cases k <;> rfl
theorem eqI_self (a : Int) : eqI a a = true := by rw [eqI_eq]; simp
theorem eqB_self : ∀ l : List Nat, eqB l l = true
  | [] => rfl
  | a :: l => by simp [eqB, eqB_self l]
theorem atomEq_self {a : AV} (h : atomRefl a = true) : atomEq a a = true := by
  cases a <;> simp_all [atomRefl, atomEq, kindEq_self, eqI_self, eqB_self]
theorem atomsEq_self : ∀ {l : List AV}, l.all atomRefl = true → atomsEq l l = true
  | [], _ => rfl
  | a :: l, h => by
    simp only [List.all_cons, Bool.and_eq_true] at h
    simp [atomsEq, atomEq_self h.1, atomsEq_self h.2]
theorem avEq_self {a : AV} (h : avRefl a = true) : avEq a a = true := by
  cases a <;> simp only [avRefl] at h <;> simp only [avEq]
  all_goals first
    | exact atomEq_self h
    | exact atomsEq_self h
    | simp [atomEq_self h]
/-- Memory has stayed as it is. -/
structure DrG (C : Ctx) (h : Hp) (fr : Fr) (nx : Nat) (d : Dr) : Prop where
  efr : d.fr = fr
  ehb : d.hb = h
  ehp : d.hp = h
  enx : d.nx = nx
  ewl : ∀ x ∈ d.wl, x.2 = h
  erl : ∀ y ∈ d.rl, readA C y.2.1 (opd y.2.2.1) h = some y.2.2.2 ∧ avRefl y.2.2.2 = true
theorem readBack_self {b : Nat} {o : Op} {ρ : Operand → AV} {v : AV} (h : readA C o ρ hp = some v) (hv : avRefl v = true) (wl : List (Nat × Hp)) (hw : ∀ x ∈ wl, x.2 = hp) : readBack C b o ρ v wl = true := by
  induction wl with
  | nil => rfl
  | cons y r ih =>
    obtain ⟨w, h'⟩ := y
    have e : h' = hp := hw (w, h') (List.mem_cons_self ..)
    subst e
    simp only [readBack]
    split
    · rfl
    · simp only [sameRead, h, avEq_self hv, Bool.true_and]
      exact ih fun x hx => hw x (List.mem_cons_of_mem _ hx)
theorem readOn_self {b : Nat} : ∀ {rl : List (Nat × Op × Fr × AV)}, (∀ y ∈ rl, readA C y.2.1 (opd y.2.2.1) hp = some y.2.2.2 ∧ avRefl y.2.2.2 = true) → readOn C b hp rl = true
  | [], _ => rfl
  | (r, o, fr, v) :: l, h => by
    obtain ⟨h1, h2⟩ := h _ (List.mem_cons_self ..)
    simp only at h1 h2
    simp only [readOn, sameRead, h1, avEq_self h2, Bool.or_true, Bool.true_and]
    exact readOn_self fun y hy => h y (List.mem_cons_of_mem _ hy)
theorem isCall_of {o : Op} {f : Operand} {args : List Operand} (h : isCall o = some (f, args)) : ∃ c, o = .call c ∧ c.callee = .value f ∧ c.args.toList = args := by
  unfold isCall at h
  split at h
  · rename_i c
    split at h
    · rename_i f' hf
      cases h
      exact ⟨c, rfl, hf, rfl⟩
    · cases h
  · cases h
theorem wA_call {L : List (Option Ans)} {o : Op} {f : Operand} {args : List Operand} {ρ : Operand → AV} {g : FuncId} {v : AV} {nx : Nat} (h : isCall o = some (f, args)) (hg : calleeOf C.ext (ρ f) = some g) (hL : nthL L nx = some (g, args.map ρ, v)) :
    cls C.P o = 3 ∧ wA C (clL L) o ρ hp nx = .done v hp (nx + 1) := by
  obtain ⟨c, rfl, hcf, rfl⟩ := isCall_of h
  refine ⟨by simp [cls, hcf], ?_⟩
  unfold wA
  simp only [hcf]
  unfold calleeOf at hg
  split at hg
  · rename_i g' he
    split at hg
    · rename_i hx
      cases hg
      rw [he]
      simp only [callVal, hx, List.nil_append, List.append_nil]
      exact clL_eq hL
    · cases hg
  · cases hg
theorem drawOpG_sim {L : List (Option Ans)} {asm : T AV} {sz : Nat} {all : Array Oper} {o : Oper} {i b : Nat} {fr fr' : Fr} {s s' : GS} {nx nx' : Nat} {d : Dr} (h : drawOpG C L asm sz all o fr s hp nx = some (fr', s', nx')) (hs : s'.ok) (hd : DrG C hp fr nx d) :
    s.ok ∧ ∃ d', drawOp C (clL L) sz all o i b d = .ok d' ∧ DrG C hp fr' nx' d' := by
  obtain ⟨e1, e2, e3, e4, e5, e6⟩ := hd
  obtain ⟨dfr, dhb, dhp, dnx, dwl, drl⟩ := d
  simp only at e1 e2 e3 e4 e5 e6
  subst e1 e2 e3 e4
  unfold drawOpG at h
  unfold drawOp
  simp only
  split at h
  · cases h
  · rename_i hw
    simp only [hw]
    split at h
    · rename_i u hu
      cases h
      exact ⟨hs, _, by simp only [putR, hu]; rfl, rfl, rfl, rfl, rfl, e5, e6⟩
    · cases h
  · rename_i hw
    simp only [hw]
    split at h
    · rename_i f args hcall
      split at h
      · rename_i g h' zs u hg hL
        split at h
        · rename_i fr2 hfr2
          cases h
          obtain ⟨h1, h2⟩ := hs
          obtain ⟨h3, h4⟩ := List.cons.inj h1
          cases h3
          obtain ⟨k1, k2⟩ := wA_call (hp := dhp) hcall hg hL
          refine ⟨⟨h4, h2⟩, ?_⟩
          simp only [k1, k2, readOn_self e6, putR, hfr2]
          exact ⟨_, rfl, rfl, rfl, rfl, rfl, fun x hx => by
            rcases List.mem_cons.1 hx with rfl | hx
            · rfl
            · exact e5 x hx, e6⟩
        · cases h
      · cases h
    · rename_i hcall
      generalize cls C.P o.op = q at h ⊢
      rcases q with _ | _ | q
      · simp only at h ⊢
        split at h
        · rename_i e he
          split at h
          · rename_i fr2 hfr2
            cases h
            obtain ⟨h1, h2⟩ := hs
            obtain ⟨h3, h4⟩ := List.cons.inj h2
            refine ⟨⟨h1, h4⟩, ?_⟩
            simp only [h3, putR, hfr2]
            exact ⟨_, rfl, rfl, rfl, rfl, rfl, e5, e6⟩
          · cases h
        · split at h
          · rename_i v hv
            split at h
            · rename_i fr2 hfr2
              cases h
              refine ⟨hs, ?_⟩
              simp only [hv, putR, hfr2]
              exact ⟨_, rfl, rfl, rfl, rfl, rfl, e5, e6⟩
            · cases h
          · cases h
      · simp only at h ⊢
        split at h
        · rename_i v hv
          split at h
          · rename_i hvr
            split at h
            · rename_i fr2 hfr2
              cases h
              refine ⟨hs, ?_⟩
              simp only [hv, readBack_self hv hvr _ e5, putR, hfr2]
              exact ⟨_, rfl, rfl, rfl, rfl, rfl, e5, fun y hy => by
                rcases List.mem_cons.1 hy with rfl | hy
                · exact ⟨hv, hvr⟩
                · exact e6 y hy⟩
            · cases h
          · cases h
        · cases h
      · cases h
theorem drawOpsG_sim {L : List (Option Ans)} {asm : T AV} {sz : Nat} {all : Array Oper} {m : T Nat} : ∀ (l : List Oper) (i : Nat) {fr fr' : Fr} {s s' : GS} {nx nx' : Nat} {d : Dr}, drawOpsG C L asm sz all m hp l i fr s nx = some (fr', s', nx') → s'.ok → DrG C hp fr nx d →
    s.ok ∧ ∃ d', drawOps C (clL L) sz all m l i d = .ok d' ∧ DrG C hp fr' nx' d'
  | [], i, fr, fr', s, s', nx, nx', d, h, hs, hd => by
    simp only [drawOpsG] at h
    cases h
    exact ⟨hs, d, rfl, hd⟩
  | o :: r, i, fr, fr', s, s', nx, nx', d, h, hs, hd => by
    simp only [drawOpsG] at h
    split at h
    · rename_i b hb
      split at h
      · rename_i fr1 s1 nx1 h1
        -- the rest first: it says that what came is as it is wanted
        have key : s1.ok := by
          have aux : ∀ (l : List Oper) (i : Nat) {fr : Fr} {s : GS} {nx : Nat}, drawOpsG C L asm sz all m hp l i fr s nx = some (fr', s', nx') → s.ok := by
            intro l
            induction l with
            | nil => intro i fr s nx h; simp only [drawOpsG] at h; cases h; exact hs
            | cons o r ih =>
              intro i fr s nx h
              simp only [drawOpsG] at h
              split at h
              · split at h
                · rename_i h2
                  have := ih _ h
                  exact (drawOpG_sim (i := 0) (b := 0) (d := ⟨fr, hp, hp, nx, [], []⟩) h2 this ⟨rfl, rfl, rfl, rfl, (fun x hx => by cases hx), (fun y hy => by cases hy)⟩).1
                · cases h
              · cases h
          exact aux _ _ h
        obtain ⟨g1, d1, g2, g3⟩ := drawOpG_sim (i := i) (b := b) h1 key hd
        obtain ⟨_, d2, g4, g5⟩ := drawOpsG_sim r (i + 1) h hs g3
        refine ⟨g1, d2, ?_, g5⟩
        simp only [drawOps, hb, g2]
        exact g4
      · cases h
    · cases h
theorem drawG_sim {L : List (Option Ans)} {asm : T AV} {sz : Nat} {ops : Array Oper} {k : KG} {kn : KN} {kp : List APan → KN} (hk : Sim k kn) : Sim (drawG C L asm sz ops k) (regionK C (clL L) sz ops true kn kp) := by
  intro fr s hp nx v s' hp' nx' h hs
  simp only [drawG] at h
  simp only [regionK]
  split at h
  · rename_i m hm
    split at h
    · rename_i fr1 s1 nx1 h1
      obtain ⟨g1, g2⟩ := hk _ _ _ _ _ _ _ _ h hs
      obtain ⟨g3, d, g4, g5⟩ := drawOpsG_sim _ _ h1 g1 (d := ⟨fr, hp, hp, nx, [], []⟩) ⟨rfl, rfl, rfl, rfl, (fun x hx => by cases hx), (fun y hy => by cases hy)⟩
      refine ⟨g3, ?_⟩
      simp only [hm, g4]
      rw [g5.efr, g5.ehp, g5.enx]
      exact g2
    · cases h
  · cases h
theorem exG_sim {L : List (Option Ans)} {asm : T AV} {sz : Nat} {f : FuncId} {kp : List APan → KN} : ∀ (c : Code) {kn : KG} {kx : Nat → KG} {kr : KG} {kn' : KN} {kx' : Nat → KN} {kr' : KN}, Sim kn kn' → (∀ i, Sim (kx i) (kx' i)) → Sim kr kr' →
    Sim (exG C L asm sz c kn kx kr) (ex C (clL L) f sz none c kn' kx' kr' kp) := by
  intro c
  induction c with
  | skip => intro kn kx kr kn' kx' kr' hn hx hr; exact hn
  | region id ops draw =>
    intro kn kx kr kn' kx' kr' hn hx hr
    cases draw with
    | false => exact opsG_sim hn _
    | true => exact drawG_sim (kp := kp) hn
  | seq x y ihx ihy => intro kn kx kr kn' kx' kr' hn hx hr; exact ihx (ihy hn hx hr) hx hr
  | cond c x y ihx ihy =>
    intro kn kx kr kn' kx' kr' hn hx hr fr s hp nx v s' hp' nx' h hs
    have h : condG c (exG C L asm sz x kn kx kr) (exG C L asm sz y kn kx kr) fr s hp nx = some (v, s', hp', nx') := h
    show s.ok ∧ condK c (ex C (clL L) f sz none x kn' kx' kr' kp) (ex C (clL L) f sz none y kn' kx' kr' kp) fr [] hp nx = _
    unfold condG at h
    unfold condK
    split at h
    · rename_i hb; rw [hb]; exact ihx hn hx hr _ _ _ _ _ _ _ _ h hs
    · rename_i hb; rw [hb]; exact ihy hn hx hr _ _ _ _ _ _ _ _ h hs
    · cases h
  | block id x ihx =>
    intro kn kx kr kn' kx' kr' hn hx hr
    refine ihx hn (fun i => ?_) hr
    show Sim (Bool.rec (kx i) kn (Nat.beq i id)) (Bool.rec (kx' i) kn' (Nat.beq i id))
    cases Nat.beq i id
    · exact hx i
    · exact hn
  | loop x ihx => intro kn kx kr kn' kx' kr' hn hx hr; exact Sim.none _
  | rangeFunc g ps as bd _ _ => intro kn kx kr kn' kx' kr' hn hx hr; exact Sim.none _
  | exit id => intro kn kx kr kn' kx' kr' hn hx hr; exact hx id
  | scope x _ => intro kn kx kr kn' kx' kr' hn hx hr; exact Sim.none _
  | label l => intro kn kx kr kn' kx' kr' hn hx hr; exact hn
  | goto l => intro kn kx kr kn' kx' kr' hn hx hr; exact Sim.none _
  | ret => intro kn kx kr kn' kx' kr' hn hx hr; exact hr
  | refuse y => intro kn kx kr kn' kx' kr' hn hx hr; exact Sim.none _
theorem retG_sim (fn : Func) : Sim (retG C fn) (retK C fn) := by
  intro fr s hp nx v s' hp' nx' h hs
  unfold retG at h
  split at h
  · rename_i u hu
    cases h
    refine ⟨hs, ?_⟩
    simp only [retK, leaveA_nil, hu, forceV_eq]
  · cases h

/-- What an answer says. -/
def AnsOk (C : Ctx) (x : Ans) : Prop := (∃ (fn : Func) (c : Code), C.P.funcs[x.1]? = some fn ∧ fn.body = some c) ∧
  ∀ (σ : Sig) (w : World) (args' : Array Value), GlOk C (prOf w) → VRels σ x.2.1 args'.toList → CallsIn (FF none) 0 C.P x.1 args' w fun e w' => ∃ v', e = .returned v' ∧ VRel σ x.2.2 v' ∧ Kept w w'
theorem GlOk.of_prot {pr : Pr} {w : World} (hg : GlOk C pr) (h : ∀ k ob, pr k = some ob → w.heap[k]? = some ob) : GlOk C (prOf w) := fun g c hc =>
  let ⟨cs, e, fz, h1, h2⟩ := hg g c hc
  ⟨cs, e, fz, h _ _ h1, h2⟩
theorem nthL_mem : ∀ (L : List (Option Ans)) (n : Nat) (x : Ans), nthL L n = some x → some x ∈ L
  | [], n, x, h => by cases h
  | y :: L, 0, x, h => by
    have h : y = some x := h
    simp [h]
  | y :: L, n + 1, x, h => List.mem_cons_of_mem _ (nthL_mem L n x h)
theorem clL_done {L : List (Option Ans)} {t : Tgt} {args : List AV} {nx : Nat} {v : AV} {hp' : Hp} {nx' : Nat} (h : clL L t args hp nx = .done v hp' nx') : ∃ f, t = .fn f ∧ some (f, args, v) ∈ L ∧ hp' = hp ∧ nx' = nx + 1 := by
  unfold clL at h
  split at h
  · rename_i f
    split at h
    · rename_i g as u hL
      split at h
      · rename_i hc
        obtain ⟨rfl, rfl⟩ := hc
        cases h
        exact ⟨_, rfl, nthL_mem _ _ _ hL, rfl, rfl⟩
      · cases h
    · cases h
  · cases h
/-- The body of a function, where the calls are known: as in 'callA_ok'. -/
theorem body_ok (hP : POk C.P) (hX : ExtOk C) (hc : CallsOk C cl) {fn : Func} {c : Code} {f : FuncId} (hfn : C.P.funcs[f]? = some fn) (hb : fn.body = some c) {args : List AV} {nx : Nat} {v : AV} {hp' : Hp} {nx' : Nat}
    (hl : args.length ≤ fn.ntmps) (h : ex C cl f fn.ntmps none c (retK C fn) (fun _ => failK) (retK C fn) panK (ofL args) [] hp nx = .done v hp' nx') {args' : Array Value} (r : R pr σ hp w) (hg : GlOk C pr) (hfr : Fresh σ nx nx') (ha : VRels σ args args'.toList) :
    CallsIn (FF none) 0 C.P f args' w (Post pr σ nx v hp' nx') := by
  refine callsIn_of_wp_marks hfn hb trivial ?_
  have fin : Next_ pr σ fn.ntmps nx' nx v hp' (retK C fn) (bodyPostM (FF none) 0 C.P fn (Post pr σ nx v hp' nx') .normal) := by
    intro fr' ds' hp1 nx1 σ' a' w' h1 h2 h3
    refine leaveA_sound hg (fun v' w'' g1 g2 => ?_) ds' a'.defers hp1 w' h1 h3.fr h3.ds h3.r
    exact ⟨σ', v', rfl, g1, h2.wide (retK_mono fn _ _ _ _ h1), g2⟩
  exact ex_sound hP hX hc hg c (retK_mono fn) (fun _ => failK_mono) (retK_mono fn) panK_not h
    ⟨enter_rel ha hl, trivial, r, hfr⟩ (show RoRel σ none none from trivial) fin (fun id fr' ds' hp1 nx1 σ' a' w' h1 => by cases h1) fin
theorem clL_ok {L : List (Option Ans)} (hL : ∀ x, some x ∈ L → AnsOk C x) : CallsOk C (clL L) := by
  refine ⟨?_, ?_, ?_⟩
  · intro t args hp nx v hp' nx' h
    obtain ⟨f, _, _, _, rfl⟩ := clL_done h
    exact Nat.le_succ _
  · intro f args hp nx v hp' nx' h pr σ w args' r hg hfr ha
    obtain ⟨g, hg', hm, rfl, rfl⟩ := clL_done h
    cases hg'
    obtain ⟨h1, h2⟩ := hL _ hm
    refine ⟨h1, (h2 σ w args' (hg.of_prot r.prot) ha).mono ?_⟩
    rintro e w' ⟨v', rfl, g1, g2⟩
    exact ⟨σ, v', rfl, g1, ⟨Sig.refl _, Nat.le_succ _, fun _ _ => rfl⟩, r.kept g2⟩
  · intro l args hp nx v hp' nx' h
    obtain ⟨g, hg', _⟩ := clL_done h
    cases hg'
/-- A call of a function without loops, its callees' answers known. -/
theorem calls_of_G (hP : POk C.P) (hX : ExtOk C) {L : List (Option Ans)} {asm : T AV} {f : FuncId} {args : List AV} {w : World} {args' : Array Value} {v : AV} {s : GS} {hp' : Hp} {nx' : Nat}
    (h : callG C L asm f args .leaf 0 = some (v, s, hp', nx')) (hs : s.ok) (hL : ∀ x, some x ∈ L → AnsOk C x) (hg : GlOk C (prOf w)) (ha : VRels (fun _ => none) args args'.toList) :
    Calls C.P f args' w (fun e w' => ∃ τ v', e = .returned v' ∧ VRel τ v v' ∧ Kept w w') := by
  unfold callG at h
  split at h
  · rename_i fn hfn
    split at h
    · rename_i c hb
      split at h
      · rename_i hl
        have hl := Nat.le_of_ble_eq_true hl
        obtain ⟨_, he⟩ := exG_sim (C := C) (f := f) (kp := panK) c (retG_sim fn) (fun _ => Sim.none failK) (retG_sim fn) _ _ _ _ _ _ _ _ h hs
        exact (callsIn_wide.1 (body_ok hP hX (clL_ok hL) hfn hb hl he (R.start w) hg (fun _ _ _ => rfl) ha)).mono fun e w' hp => hp.kept
      · cases h
    · cases h
  · cases h
/-- The parts of such a run, for the kernel. -/
noncomputable def gVal (r : RG) : Option AV := match r with | some (v, _, _, _) => some v | none => none
noncomputable def gCalls (r : RG) : Option (List (Option Ans)) := match r with | some (_, s, _, _) => some s.got | none => none
noncomputable def gWant (r : RG) : Option (List (Option Ans)) := match r with | some (_, s, _, _) => some s.want | none => none
noncomputable def gVals (r : RG) : Option (List (Option AV)) := match r with | some (_, s, _, _) => some s.cgot | none => none
noncomputable def gAsm (r : RG) : Option (List (Option AV)) := match r with | some (_, s, _, _) => some s.cwant | none => none
theorem calls_of_parts (hP : POk C.P) (hX : ExtOk C) {L : List (Option Ans)} {asm : T AV} {f : FuncId} {args : List AV} {w : World} {args' : Array Value} {v : AV}
    (h1 : gVal (callG C L asm f args .leaf 0) = some v) (h2 : gCalls (callG C L asm f args .leaf 0) = gWant (callG C L asm f args .leaf 0)) (h3 : gVals (callG C L asm f args .leaf 0) = gAsm (callG C L asm f args .leaf 0))
    (hL : ∀ x, some x ∈ L → AnsOk C x) (hg : GlOk C (prOf w)) (ha : VRels (fun _ => none) args args'.toList) :
    Calls C.P f args' w (fun e w' => ∃ τ v', e = .returned v' ∧ VRel τ v v' ∧ Kept w w') := by
  cases hr : callG C L asm f args .leaf 0 with
  | none => rw [hr] at h1; cases h1
  | some r =>
    obtain ⟨u, s, hp', nx'⟩ := r
    rw [hr] at h1 h2 h3
    cases h1
    exact calls_of_G hP hX hr ⟨by simpa [gCalls, gWant] using h2, by simpa [gVals, gAsm] using h3⟩ hL hg ha
end Go.Proofs.YtjaabolpdelbiaaDoor.AX
