/- SX, part 5: the rest of the operations at hand; regions, code, calls. -/
import Derived.Test.YtefjfbhffmkikaaGreatDoorSx4
import Derived.Test.YtefjfbhffmkikaaGreatDoorAx24
namespace Go.Proofs.YtefjfbhffmkikaaGreatDoor.AX
open Go
section
variable {C : Ctx} {cl : CallF} {sz : Nat} {o : Oper}
theorem good_cv {src dst : TypeId} {x : Operand} {k0 k : IntKind} (ho : o.op = .convert src dst x) (hs : C.P.underlying src = some (.int k0)) (hd : C.P.underlying dst = some (.int k)) :
    Good C cl sz o (kop2 (kt sz o.dst) (kx x) (.cv (kt sz o.dst) k (kx x))) := by
  refine kop2_ind good_slow fun ht hx fr ds hp nx kn kp => ?_
  have ex := opd_gx hx fr
  show aCv (kt sz o.dst) k (kx x) C cl sz o fr ds hp nx kn kp = _
  unfold aCv
  cases hgx : gx (kx x) fr <;> try rfl
  rename_i k' n
  rw [hgx] at ex
  have ex : opd fr x = .int k' (.ofNat n) := ex.symm
  show (Bool.rec (opT C cl sz o fr ds hp nx kn kp) (kn (putT (kt sz o.dst) (.nat k n) fr) ds hp nx) (Nat.ble n (limF k)) : Res) = _
  rw [brecR]
  split
  · rename_i h
    refine (opT_pure (v := .int k (.ofNat n)) (by rw [ho]; simp [cls, hs]) ?_ ht).symm
    rw [ho]
    show convA C.P src dst (opd fr x) = _
    rw [ex]
    show (match C.P.underlying src, C.P.underlying dst with | some (.int _), some (.int k) => some (AV.int k (wrapA k (.ofNat n))) | _, _ => none) = _
    rw [hs, hd]
    show some (AV.int k (wrapA k (.ofNat n))) = _
    rw [wrapA_of h]
  · rfl
theorem good_ld {t : TypeId} {x : Operand} (ho : o.op = .load t x) (ha : isAggT C.P t = some false) : Good C cl sz o (kop2 (kt sz o.dst) (kx x) (.ld (kt sz o.dst) (kx x))) := by
  refine kop2_ind good_slow fun ht hx fr ds hp nx kn kp => ?_
  have ex := opd_gx hx fr
  show aLd (kt sz o.dst) (kx x) C cl sz o fr ds hp nx kn kp = _
  unfold aLd
  cases hgx : gx (kx x) fr <;> try rfl
  rename_i id off
  rw [hgx] at ex
  have ex : opd fr x = .ptr id off := ex.symm
  show (Option.rec lSlow lBlk (hp.get id) : LF) off (kt sz o.dst) C cl sz o fr ds hp nx kn kp = _
  cases hb : hp.get id with
  | none => rfl
  | some b =>
    cases b <;> try rfl
    rename_i c n f
    show (Bool.rec (opT C cl sz o fr ds hp nx kn kp) (Option.rec (opT C cl sz o fr ds hp nx kn kp) (fun v => tTo v (kt sz o.dst) fr ds hp nx kn) (c.t.get off)) (Nat.ble (Nat.succ off) n) : Res) = _
    rw [brecR]
    split
    · rename_i h
      cases hg : c.t.get off with
      | none => rfl
      | some v =>
        show tTo v (kt sz o.dst) fr ds hp nx kn = _
        rw [tTo_eq]
        have hr : readA C o.op (opd fr) hp = some v.up := by
          rw [ho]
          show loadA C t (opd fr x) hp = _
          rw [ex]
          show (match hp.get id with | some (.cells c n _) => loadCells C.P t c n off | _ => none) = _
          rw [hb]
          show loadCells C.P t c n off = _
          unfold loadCells
          simp only [ha, h]
          show (Option.rec none (fun v => some v.up) (c.t.get off) : Option AV) = _
          rw [hg]
        have hc : cls C.P o.op = 1 := by rw [ho]; rfl
        unfold opT
        simp only [hc, hr]
        exact (putT_put (k := fun fr => kn fr ds hp nx) ht).symm
    · rfl
theorem good_st {t : TypeId} {x v : Operand} (ho : o.op = .store t x v) (hd : o.dst = none) (h1 : isOne C.P t = true) : Good C cl sz o (kop1 (kx x) (kop1 (kx v) (.st (kx x) (kx v)))) := by
  refine kop1_ind good_slow fun hx => kop1_ind good_slow fun hv fr ds hp nx kn kp => ?_
  have ex := opd_gx hx fr
  have ev := opd_gx hv fr
  show aSt (kx x) (kx v) C cl sz o fr ds hp nx kn kp = _
  unfold aSt
  cases hgx : gx (kx x) fr <;> try rfl
  rename_i id off
  rw [hgx] at ex
  have ex : opd fr x = .ptr id off := ex.symm
  obtain ⟨ha, hz⟩ : isAggT C.P t = some false ∧ sizeT C.P t = some 1 := by
    unfold isOne at h1
    split at h1
    · rename_i h2
      split at h1
      · rename_i h3; exact ⟨h2, h3⟩
      · cases h1
    · cases h1
  have hc : cls C.P o.op = 3 := by rw [ho]; rfl
  have go : ∀ (u : FV), (gx (kx v) fr).up = u.up → varCells C.P t u.up = some [u.up] → atomB u.up = true → u.up.down = u → sAt u id off C cl sz o fr ds hp nx kn kp = opT C cl sz o fr ds hp nx kn kp := by
    intro u hu hvc hat hud
    show (Option.rec sSlow sBlk (hp.get id) : SF) id off u C cl sz o fr ds hp nx kn kp = _
    cases hb : hp.get id with
    | none => rfl
    | some b =>
      cases b <;> try rfl
      rename_i c n f
      show (Bool.rec (opT C cl sz o fr ds hp nx kn kp) (kn fr ds (hp.set id (.cells ⟨c.t.set off u⟩ n f)) nx) (Nat.ble (Nat.succ off) n) : Res) = _
      rw [brecR]
      split
      · rename_i h
        have hw : wA C cl o.op (opd fr) hp nx = .done (.tup []) (hp.set id (.cells ⟨c.t.set off u⟩ n f)) nx := by
          rw [ho]
          show storeA C t (opd fr x) (opd fr v) hp nx = _
          rw [ex, ← ev, hu]
          show (match hp.get id with
            | some (.cells c n cl) => match varCells C.P t u.up with
              | some l => match Nat.ble (Nat.add off l.length) n, atomsB l with
                | true, true => Res.done (.tup []) (hp.set id (.cells (writeL c off l) n cl)) nx
                | _, _ => .fail none
              | none => .fail none
            | _ => .fail none) = _
          rw [hb, hvc]
          have h' : Nat.ble (Nat.add off [u.up].length) n = true := h
          have ha' : atomsB [u.up] = true := by simp [atomsB, hat]
          simp only [h', ha']
          show Res.done _ (hp.set id (.cells ⟨c.t.set off u.up.down⟩ n f)) nx = _
          rw [hud]
        unfold opT
        simp only [hc, hw, hd]
        rfl
      · rfl
  show (sV (gx (kx v) fr)) id off C cl sz o fr ds hp nx kn kp = _
  cases hgv : gx (kx v) fr with
  | nat k n => exact go (.nat k n) (by rw [hgv]) (by simp [FV.up, varCells, ha, hz]) rfl rfl
  | bool b => exact go (.bool b) (by rw [hgv]) (by simp [FV.up, varCells, ha, hz]) rfl rfl
  | ptr i q => exact go (.ptr i q) (by rw [hgv]) (by simp [FV.up, varCells, ha, hz]) rfl rfl
  | slc i q l c => exact go (.slc i q l c) (by rw [hgv]) (by simp [FV.up, varCells, ha, hz]) rfl rfl
  | opn i q l z => exact go (.opn i q l z) (by rw [hgv]) (by simp [FV.up, varCells, ha, hz]) rfl rfl
  | oth v => rfl
theorem good_fa {s : TypeId} {x : Operand} {n : Nat} {fs : Array Field} {f : Field} {m : Nat} (ho : o.op = .fieldAddr s x n) (hu : C.P.underlying s = some (.struct fs)) (hf : fs[n]? = some f) (hz : sizeT C.P f.type = some (m + 1)) :
    Good C cl sz o (kop2 (kt sz o.dst) (kx x) (.fa (kt sz o.dst) f.offset (kx x))) := by
  refine kop2_ind good_slow fun ht hx fr ds hp nx kn kp => ?_
  have ex := opd_gx hx fr
  show aFa (kt sz o.dst) f.offset (kx x) C cl sz o fr ds hp nx kn kp = _
  unfold aFa
  cases hgx : gx (kx x) fr <;> try rfl
  rename_i id off
  rw [hgx] at ex
  have ex : opd fr x = .ptr id off := ex.symm
  refine (opT_pure (v := .ptr id (Nat.add off f.offset)) (by rw [ho]; rfl) ?_ ht).symm
  rw [ho]
  show fieldAddrA C.P s (opd fr x) n = _
  rw [ex]
  simp [fieldAddrA, hu, hf, hz]
theorem iAt_good {t : TypeId} {x i : Operand} {n id off len : Nat} {k : IntKind} {j : Nat} (ho : o.op = .indexAddr t x i) (ht : kt sz o.dst ≠ .z) {fr : Fr} {ds : List ADef} {hp : Hp} {nx : Nat} {kn : KN} {kp : List APan → KN} (ei : opd fr i = .int k (.ofNat j))
    (h : ∀ b : Bool, inB (.ofNat j) len = b → b = true → indexAddrA C.P t (opd fr x) (.int k (.ofNat j)) = some (.ptr id (Nat.add off (Nat.mul j n)))) :
    iAt id off len j (kt sz o.dst) n C cl sz o fr ds hp nx kn kp = opT C cl sz o fr ds hp nx kn kp := by
  show (Bool.rec (opT C cl sz o fr ds hp nx kn kp) (kn (putT (kt sz o.dst) (.ptr id (Nat.add off (Nat.mul j n))) fr) ds hp nx) (Nat.ble (Nat.succ j) len) : Res) = _
  rw [brecR]
  split
  · rename_i hb
    refine (opT_pure (v := .ptr id (Nat.add off (Nat.mul j n))) (by rw [ho]; rfl) ?_ ht).symm
    rw [ho]
    show indexAddrA C.P t (opd fr x) (opd fr i) = _
    rw [ei]
    exact h true hb rfl
  · rfl
theorem good_ia {t e : TypeId} {x i : Operand} {n : Nat} (ho : o.op = .indexAddr t x i) (hu : C.P.underlying t = some (.slice e)) (hz : sizeT C.P e = some n) :
    Good C cl sz o (kop2 (kt sz o.dst) (kx x) (kop1 (kx i) (.ia (kt sz o.dst) n (kx x) (kx i)))) := by
  refine kop2_ind good_slow fun ht hx => kop1_ind good_slow fun hi fr ds hp nx kn kp => ?_
  have ex := opd_gx hx fr
  have ei := opd_gx hi fr
  show aIa (kt sz o.dst) n (kx x) (kx i) C cl sz o fr ds hp nx kn kp = _
  unfold aIa
  cases hgi : gx (kx i) fr <;> try rfl
  rename_i k j
  rw [hgi] at ei
  show (iX (gx (kx x) fr)) j (kt sz o.dst) n C cl sz o fr ds hp nx kn kp = _
  cases hgx : gx (kx x) fr <;> try rfl
  · rename_i id off len cap
    rw [hgx] at ex
    refine iAt_good ho ht ei.symm fun b hb hbt => ?_
    subst hbt
    rw [← ex]
    simp only [indexAddrA, hu, hz, FV.up, hb]
    rfl
  · rename_i id off len z
    rw [hgx] at ex
    refine iAt_good ho ht ei.symm fun b hb hbt => ?_
    subst hbt
    rw [← ex]
    simp only [indexAddrA, hu, hz, FV.up, hb]
    rfl
theorem good_iaa {t e : TypeId} {x i : Operand} {n len : Nat} (ho : o.op = .indexAddr t x i) (hu : C.P.underlying t = some (.array len e)) (hz : sizeT C.P e = some n) :
    Good C cl sz o (kop2 (kt sz o.dst) (kx x) (kop1 (kx i) (.iaa (kt sz o.dst) len n (kx x) (kx i)))) := by
  refine kop2_ind good_slow fun ht hx => kop1_ind good_slow fun hi fr ds hp nx kn kp => ?_
  have ex := opd_gx hx fr
  have ei := opd_gx hi fr
  show aIaa (kt sz o.dst) len n (kx x) (kx i) C cl sz o fr ds hp nx kn kp = _
  unfold aIaa
  cases hgi : gx (kx i) fr <;> try rfl
  rename_i k j
  rw [hgi] at ei
  show (iA len (gx (kx x) fr)) j (kt sz o.dst) n C cl sz o fr ds hp nx kn kp = _
  cases hgx : gx (kx x) fr <;> try rfl
  rename_i id off
  rw [hgx] at ex
  refine iAt_good ho ht ei.symm fun b hb hbt => ?_
  subst hbt
  rw [← ex]
  simp only [indexAddrA, hu, hz, FV.up, hb]
  rfl
theorem good_len {c : Call} {t e : TypeId} {x : Operand} (ho : o.op = .call c) (hc : c.callee = .builtin .len) (h1 : c.argTypes[0]? = some t) (h2 : c.args[0]? = some x) (hu : C.P.underlying t = some (.slice e)) :
    Good C cl sz o (kop2 (kt sz o.dst) (kx x) (.len (kt sz o.dst) (kx x))) := by
  refine kop2_ind good_slow fun ht hx fr ds hp nx kn kp => ?_
  have ex := opd_gx hx fr
  have hcl : cls C.P o.op = 0 := by rw [ho]; simp [cls, hc, h1, hu]
  have hp0 : pureA C.P o.op (opd fr) = lenA C.P t (opd fr x) := by
    rw [ho]
    show (match c.callee with
      | .builtin .len => match c.argTypes[0]?, c.args[0]? with
        | some t, some x => lenA C.P t (opd fr x)
        | _, _ => none
      | .builtin .max => match c.args.toList.map (opd fr) with
        | x :: l => maxL x l
        | [] => none
      | .builtin .min => match c.args.toList.map (opd fr) with
        | x :: l => minL x l
        | [] => none
      | .builtin .cap => match c.argTypes[0]?, c.args[0]? with
        | some t, some x => capA C.P t (opd fr x)
        | _, _ => none
      | _ => none) = _
    rw [hc, h1, h2]
  show aLen (kt sz o.dst) (kx x) C cl sz o fr ds hp nx kn kp = _
  unfold aLen
  cases hgx : gx (kx x) fr <;> try rfl
  · rename_i id off l cap
    rw [hgx] at ex
    refine (opT_pure (v := .int .i64 (.ofNat l)) hcl ?_ ht).symm
    rw [hp0, ← ex]
    simp only [lenA, hu, FV.up]
  · rename_i id off l z
    rw [hgx] at ex
    refine (opT_pure (v := .int .i64 (.ofNat l)) hcl ?_ ht).symm
    rw [hp0, ← ex]
    simp only [lenA, hu, FV.up]
theorem good_kop : Good C cl sz o (kop C sz o) := by
  unfold kop
  split
  · rename_i ho; exact good_mv (.inl ho)
  · rename_i ho; exact good_mv (.inr ho)
  · rename_i ho; exact good_bin ho
  · rename_i ho; exact good_nt ho
  · rename_i ho; exact good_pick ho
  · rename_i ho
    split
    · rename_i h1 h2; exact good_cv ho h1 h2
    · exact good_slow
  · rename_i ho
    split
    · rename_i h1; exact good_ld ho h1
    · exact good_slow
  · rename_i ho
    split
    · rename_i h1 h2; exact good_st ho h1 h2
    · exact good_slow
  · rename_i ho
    split
    · rename_i h1
      split
      · rename_i h2
        split
        · rename_i h3; exact good_fa ho h1 h2 h3
        · exact good_slow
      · exact good_slow
    · exact good_slow
  · rename_i ho
    split
    · rename_i h1
      split
      · rename_i h2; exact good_ia ho h1 h2
      · exact good_slow
    · rename_i h1
      split
      · rename_i h2; exact good_iaa ho h1 h2
      · exact good_slow
    · exact good_slow
  · rename_i ho
    split
    · rename_i h0
      split
      · rename_i h1 h2
        split
        · rename_i h3; exact good_len ho h0 h1 h2 h3
        · exact good_slow
      · exact good_slow
    · exact good_slow
  · exact good_slow
theorem opW_eq (fr : Fr) (ds : List ADef) (hp : Hp) (nx : Nat) (kn : KN) (kp : List APan → KN) : opW C cl sz o fr ds hp nx kn kp = opT C cl sz o fr ds hp nx kn kp := good_kop fr ds hp nx kn kp
theorem opK_T {all : Array Oper} (fr : Fr) (ds : List ADef) (hp : Hp) (nx : Nat) (kn : KN) (kp : List APan → KN) : opK C cl sz all o fr ds hp nx kn kp = (match wantedA all fr o with
    | none => .fail (some o.pos)
    | some false => putK sz o.dst (.tup []) fr fun fr => kn fr ds hp nx
    | some true => opT C cl sz o fr ds hp nx kn kp) := rfl
theorem kx_at {x : Operand} {y : KX} (h : kx x = y) (hy : y ≠ .z) (fr : Fr) : (gx y fr).up = opd fr x := by
  subst h; exact opd_gx hy fr
theorem opS_eq {all : Array Oper} (fr : Fr) (ds : List ADef) (hp : Hp) (nx : Nat) (kn : KN) (kp : List APan → KN) : opS all C cl sz o fr ds hp nx kn kp = opK C cl sz all o fr ds hp nx kn kp := by
  show (KG.rec gNo gAt gSlow (kg all o) : GF) all C cl sz o fr ds hp nx kn kp = _
  have at_ : ∀ (j : Nat) (w : Bool) (d : Tmp) (x : KX), o.guard = some (j, w) → (all[j]?).bind (·.dst) = some d → kx (.tmp d) = x → x ≠ .z → gAt x w all C cl sz o fr ds hp nx kn kp = opK C cl sz all o fr ds hp nx kn kp := by
    intro j w d x hg hd hx hz
    have ex := kx_at hx hz fr
    have hw : wantedA all fr o = (match fr.get d with
      | some (.bool b) => some (b == w)
      | some (.tup _) => some false
      | _ => none) := by
      unfold wantedA
      simp only [hg, hd]
      rfl
    have hget : ∀ v, opd fr (.tmp d) = v → v ≠ .bad → fr.get d = some v := by
      intro v hv hb
      have hv : (match fr.get d with | some v => v | none => .bad) = v := hv
      cases hq : fr.get d with
      | none => rw [hq] at hv; exact absurd hv.symm hb
      | some u => rw [hq] at hv; exact congrArg some hv
    show (FV.rec (motive := fun _ => HF) (fun _ _ => hSlow) hB (fun _ _ => hSlow) (fun _ _ _ _ => hSlow) (fun _ _ _ _ => hSlow) hV (gx x fr)) w all C cl sz o fr ds hp nx kn kp = _
    cases hgx : gx x fr <;> try rfl
    · rename_i b
      rw [hgx] at ex
      have hgt := hget (.bool b) ex.symm (by simp)
      rw [opK_T, hw, hgt]
      cases b <;> cases w
      · exact opW_eq fr ds hp nx kn kp
      · rfl
      · rfl
      · exact opW_eq fr ds hp nx kn kp
    · rename_i v
      rw [hgx] at ex
      show (Bool.rec (gSlow all) skipT (isTup v) : OpF) C cl sz o fr ds hp nx kn kp = _
      cases hv : isTup v with
      | false => rfl
      | true =>
        unfold isTup at hv
        split at hv
        · rename_i l
          have hgt := hget (.tup l) ex.symm (by simp)
          rw [opK_T, hw, hgt]
          rfl
        · cases hv
  unfold kg
  split
  · rename_i hg
    show opW C cl sz o fr ds hp nx kn kp = _
    rw [opW_eq, opK_T]
    unfold wantedA
    simp only [hg]
  · rename_i j w hg
    split
    · rename_i d hd
      split
      · rfl
      · rename_i x hx
        exact at_ j w d _ hg hd rfl hx
    · rfl
end
theorem opsS_eq (C : Ctx) (cl : CallF) (sz : Nat) (all : Array Oper) (kn : KN) (kp : List APan → KN) : ∀ l, opsS C cl sz all l kn kp = opsK C cl sz all l kn kp
  | [] => rfl
  | o :: l => by
    funext fr ds hp nx
    show opS all C cl sz o fr ds hp nx (opsS C cl sz all l kn kp) kp = opK C cl sz all o fr ds hp nx (opsK C cl sz all l kn kp) kp
    rw [opsS_eq C cl sz all kn kp l, opS_eq]
theorem regionS_eq (C : Ctx) (cl : CallF) (sz : Nat) (ops : Array Oper) (draw : Bool) (kn : KN) (kp : List APan → KN) : regionS C cl sz ops draw kn kp = regionK C cl sz ops draw kn kp := by
  cases draw
  · exact opsS_eq C cl sz ops kn kp _
  · rfl
theorem condS_eq (c : Operand) (a b : KN) : condS c a b = condK c a b := by
  funext fr ds hp nx
  unfold condS
  cases hg : gx (kx c) fr <;> try rfl
  rename_i q
  have hz : kx c ≠ .z := by
    intro h
    rw [h] at hg
    cases hg
  have ec := opd_gx hz fr
  rw [hg] at ec
  have ec : opd fr c = .bool q := ec.symm
  show (Bool.rec b a q : KN) fr ds hp nx = condK c a b fr ds hp nx
  unfold condK
  rw [ec]
  cases q <;> rfl
theorem exS_eq (C : Ctx) (cl : CallF) (f : FuncId) (sz : Nat) (ro : Option Nat) : ∀ (c : Code), exS C cl f sz ro c = ex C cl f sz ro c := by
  intro c
  induction c with
  | skip => rfl
  | region id ops draw => funext kn kx kr kp; exact regionS_eq C cl sz ops draw kn kp
  | seq a b iha ihb =>
    funext kn kx kr kp
    show exS C cl f sz ro a (exS C cl f sz ro b kn kx kr kp) kx kr kp = ex C cl f sz ro a (ex C cl f sz ro b kn kx kr kp) kx kr kp
    rw [iha, ihb]
  | cond c a b iha ihb =>
    funext kn kx kr kp
    show condS c (exS C cl f sz ro a kn kx kr kp) (exS C cl f sz ro b kn kx kr kp) = condK c (ex C cl f sz ro a kn kx kr kp) (ex C cl f sz ro b kn kx kr kp)
    rw [iha, ihb, condS_eq]
  | block id a iha =>
    funext kn kx kr kp
    show exS C cl f sz ro a kn (fun i => Bool.rec (kx i) kn (Nat.beq i id)) kr kp = ex C cl f sz ro a kn (fun i => Bool.rec (kx i) kn (Nat.beq i id)) kr kp
    rw [iha]
  | loop a iha =>
    funext kn kx kr kp
    show loopK (fun kn => exS C cl f sz ro a kn kx kr kp) = loopK (fun kn => ex C cl f sz ro a kn kx kr kp)
    rw [iha]
  | rangeFunc g ps as bd _ _ => rfl
  | exit id => rfl
  | scope a iha =>
    funext kn kx kr kp
    show exS C cl f sz ro a kn kx kr kp = ex C cl f sz ro a kn kx kr kp
    rw [iha]
  | label l => rfl
  | goto l => rfl
  | ret => rfl
  | refuse w => rfl
theorem callS_eq (C : Ctx) : ∀ n, callS C n = callA C n := by
  intro n
  induction n with
  | zero => rfl
  | succ n ih =>
    funext t args hp nx
    cases t with
    | fn f =>
      rw [callA_fn, ← ih]
      simp only [← exS_eq]
      rfl
    | dfd f =>
      rw [callA_dfd, ← ih]
      simp only [← exS_eq]
      rfl
    | rnd l =>
      rw [callA_rnd, ← ih]
      simp only [← exS_eq]
      rfl
end Go.Proofs.YtefjfbhffmkikaaGreatDoor.AX
