/- SX, part 4: an operation at hand is the operation. -/
import Derived.Test.YtefjfbhffmkikaaGreatDoorSx3
namespace Go.Proofs.YtefjfbhffmkikaaGreatDoor.AX
open Go

theorem eqT {α : Sort _} {a b c : α} (h : b = c) (g : a = b) : a = c := g.trans h
theorem opd_gx {o : Operand} (h : kx o ≠ .z) (fr : Fr) : (gx (kx o) fr).up = opd fr o := by
  cases o with
  | tmp t =>
    rw [kx_tmp] at h ⊢
    by_cases ht : t ≤ 255
    · rw [if_pos ht] at h ⊢
      obtain ⟨g, h1, h2⟩ := getOk t ht
      rw [h1]
      show (g fr).up = _
      rw [h2]
      show (fr.slot t).up = (match ((fr.slot t).up.nb) with | some v => v | none => .bad)
      have := nb_getD (fr.slot t).up
      cases hn : (fr.slot t).up.nb with
      | none => rw [hn] at this; exact this.symm
      | some v => rw [hn] at this; exact this.symm
    · rw [if_neg ht] at h; exact absurd rfl h
  | const v => exact up_down _
  | global g => exact absurd rfl h
  | func f => exact absurd rfl h
theorem putT_put {sz : Nat} {d : Option Tmp} (h : kt sz d ≠ .z) {v : AV} {fr : Fr} {k : Fr → Res} : putK sz d v fr k = k (putT (kt sz d) v.down fr) := by
  cases d with
  | none => exact absurd rfl h
  | some t =>
    rw [kt_some] at h ⊢
    by_cases h1 : t ≤ 255
    · rw [if_pos h1] at h ⊢
      by_cases h2 : t + 1 ≤ sz
      · rw [if_pos h2]
        obtain ⟨g, e1, e2⟩ := setOk t h1
        rw [e1]
        have hb : Nat.ble (Nat.succ t) sz = true := Nat.ble_eq_true_of_le h2
        unfold putK
        simp only [hb]
        show k (fr.put t v.down) = k (g v.down fr)
        rw [e2]
      · rw [if_neg h2] at h; exact absurd rfl h
    · rw [if_neg h1] at h; exact absurd rfl h
theorem tTo_eq (v : FV) (t : KT) (fr : Fr) (ds : List ADef) (hp : Hp) (nx : Nat) (kn : KN) : tTo v t fr ds hp nx kn = kn (putT t v.up.down fr) ds hp nx := by
  cases v <;> rfl
theorem kop1_ind {F : KOp → Prop} {x : KX} {k : KOp} (h0 : F .slow) (h : x ≠ .z → F k) : F (kop1 x k) := by
  cases x with
  | z => exact h0
  | s g => exact h (by simp)
  | c v => exact h (by simp)
theorem kop2_ind {F : KOp → Prop} {t : KT} {x : KX} {k : KOp} (h0 : F .slow) (h : t ≠ .z → x ≠ .z → F k) : F (kop2 t x k) := by
  cases t with
  | z => exact h0
  | s f => cases x with
    | z => exact h0
    | s g => exact h (by simp) (by simp)
    | c v => exact h (by simp) (by simp)
/-- What is to be shown of each. -/
def Good (C : Ctx) (cl : CallF) (sz : Nat) (o : Oper) (k : KOp) : Prop := ∀ fr ds hp nx kn kp, kdo k C cl sz o fr ds hp nx kn kp = opT C cl sz o fr ds hp nx kn kp
theorem good_slow {C : Ctx} {cl : CallF} {sz : Nat} {o : Oper} : Good C cl sz o .slow := fun _ _ _ _ _ _ => rfl
section
variable {C : Ctx} {cl : CallF} {sz : Nat} {o : Oper}
/-- A pure operation, with its value. -/
theorem opT_pure {fr : Fr} {ds : List ADef} {hp : Hp} {nx : Nat} {kn : KN} {kp : List APan → KN} {v : AV} (hc : cls C.P o.op = 0) (hv : pureA C.P o.op (opd fr) = some v) (ht : kt sz o.dst ≠ .z) :
    opT C cl sz o fr ds hp nx kn kp = kn (putT (kt sz o.dst) v.down fr) ds hp nx := by
  unfold opT
  simp only [hc, hv]
  exact putT_put ht
theorem good_mv {x : Operand} (ho : o.op = .move x ∨ o.op = .assign x) : Good C cl sz o (kop2 (kt sz o.dst) (kx x) (.mv (kt sz o.dst) (kx x))) := by
  refine kop2_ind good_slow fun ht hx fr ds hp nx kn kp => ?_
  show tTo (gx (kx x) fr) (kt sz o.dst) fr ds hp nx kn = _
  rw [tTo_eq, opd_gx hx]
  rcases ho with ho | ho <;> exact (opT_pure (by rw [ho]; rfl) (by rw [ho]; rfl) ht).symm
theorem brecR (a b : Res) (c : Bool) : (Bool.rec a b c : Res) = if c = true then b else a := by cases c <;> rfl
theorem limF_eq (k : IntKind) : limF k = lim k := by cases k <;> rfl
theorem kc_eq {k k' : IntKind} (h : Nat.beq (kc k) (kc k') = true) : k = k' := by
  have h := Nat.eq_of_beq_eq_true h
  cases k <;> cases k' <;> first | rfl | (exfalso; revert h; decide)
theorem kindEq_refl (k : IntKind) : kindEq k k = true := by cases k <;> rfl
theorem wrapA_of {k : IntKind} {n : Nat} (h : Nat.ble n (limF k) = true) : wrapA k (.ofNat n) = .ofNat n := by
  rw [limF_eq] at h; unfold wrapA; simp only [h]
theorem bOp_good {op : BinOp} {t : TypeId} {x y : Operand} {yt : TypeId} (ho : o.op = .binOp op t x y yt) (ht : kt sz o.dst ≠ .z) {k : IntKind} {a b : Nat} {fr : Fr} {ds : List ADef} {hp : Hp} {nx : Nat} {kn : KN} {kp : List APan → KN}
    (hx : opd fr x = .int k (.ofNat a)) (hy : opd fr y = .int k (.ofNat b)) : bOp op k a b (kt sz o.dst) C cl sz o fr ds hp nx kn kp = opT C cl sz o fr ds hp nx kn kp := by
  have key : ∀ v, intBin op k (.ofNat a) (.ofNat b) = some v → (op ≠ .shl ∧ op ≠ .shr) → opT C cl sz o fr ds hp nx kn kp = kn (putT (kt sz o.dst) v.down fr) ds hp nx := by
    intro v hv hne
    refine opT_pure (by rw [ho]; rfl) ?_ ht
    rw [ho]
    show binA C.P op t x y (opd fr x) (opd fr y) = some v
    rw [hx, hy]
    show intOp op k (.ofNat a) k (.ofNat b) = some v
    unfold intOp
    split
    · exact absurd rfl hne.1
    · exact absurd rfl hne.2
    · rw [kindEq_refl]; exact hv
  cases op <;> try rfl
  case add =>
    show (Bool.rec (opT C cl sz o fr ds hp nx kn kp) (kn (putT (kt sz o.dst) (.nat k (Nat.add a b)) fr) ds hp nx) (Nat.ble (Nat.add a b) (limF k)) : Res) = _
    rw [brecR]
    split
    · rename_i h
      exact (key (.int k (.ofNat (Nat.add a b))) (by show some (AV.int k (wrapA k (.ofNat (Nat.add a b)))) = _; rw [wrapA_of h]) (by simp)).symm
    · rfl
  case sub =>
    show (Bool.rec (opT C cl sz o fr ds hp nx kn kp) (Bool.rec (opT C cl sz o fr ds hp nx kn kp) (kn (putT (kt sz o.dst) (.nat k (Nat.sub a b)) fr) ds hp nx) (Nat.ble (Nat.sub a b) (limF k))) (Nat.ble b a) : Res) = _
    rw [brecR, brecR]
    split
    · rename_i h0
      split
      · rename_i h
        refine (key (.int k (.ofNat (Nat.sub a b))) ?_ (by simp)).symm
        show some (AV.int k (wrapA k (match Nat.ble b a with | true => .ofNat (Nat.sub a b) | false => Int.sub (.ofNat a) (.ofNat b)))) = _
        simp only [h0]
        rw [wrapA_of h]
      · rfl
    · rfl
  case mul =>
    show (Bool.rec (opT C cl sz o fr ds hp nx kn kp) (kn (putT (kt sz o.dst) (.nat k (Nat.mul a b)) fr) ds hp nx) (Nat.ble (Nat.mul a b) (limF k)) : Res) = _
    rw [brecR]
    split
    · rename_i h
      exact (key (.int k (.ofNat (Nat.mul a b))) (by show some (AV.int k (wrapA k (.ofNat (Nat.mul a b)))) = _; rw [wrapA_of h]) (by simp)).symm
    · rfl
  case eql => exact (key (.bool (Nat.beq a b)) rfl (by simp)).symm
  case neq =>
    refine eqT (key (.bool (!(Nat.beq a b))) rfl (by simp)).symm ?_
    show kn (putT _ (.bool (Bool.rec true false (Nat.beq a b))) fr) ds hp nx = _
    cases Nat.beq a b <;> rfl
  case lss =>
    refine eqT (key (.bool (!(Nat.ble b a))) rfl (by simp)).symm ?_
    show kn (putT _ (.bool (Bool.rec true false (Nat.ble b a))) fr) ds hp nx = _
    cases Nat.ble b a <;> rfl
  case leq => exact (key (.bool (Nat.ble a b)) rfl (by simp)).symm
  case gtr =>
    refine eqT (key (.bool (!(Nat.ble a b))) rfl (by simp)).symm ?_
    show kn (putT _ (.bool (Bool.rec true false (Nat.ble a b))) fr) ds hp nx = _
    cases Nat.ble a b <;> rfl
  case geq => exact (key (.bool (Nat.ble b a)) rfl (by simp)).symm
theorem good_bin {op : BinOp} {t : TypeId} {x y : Operand} {yt : TypeId} (ho : o.op = .binOp op t x y yt) : Good C cl sz o (kop2 (kt sz o.dst) (kx x) (kop1 (kx y) (.bin op (kt sz o.dst) (kx x) (kx y)))) := by
  refine kop2_ind good_slow fun ht hx => kop1_ind good_slow fun hy fr ds hp nx kn kp => ?_
  have ex := opd_gx hx fr
  have ey := opd_gx hy fr
  show aBin op (kt sz o.dst) (kx x) (kx y) C cl sz o fr ds hp nx kn kp = _
  unfold aBin
  cases hgx : gx (kx x) fr <;> try rfl
  rename_i k a
  rw [hgx] at ex
  show xN k a op (kt sz o.dst) (kx y) C cl sz o fr ds hp nx kn kp = _
  unfold xN
  cases hgy : gx (kx y) fr <;> try rfl
  rename_i k' b
  rw [hgy] at ey
  show (Bool.rec opT (bOp op k a b (kt sz o.dst)) (Nat.beq (kc k) (kc k')) : OpF) C cl sz o fr ds hp nx kn kp = _
  cases hk : Nat.beq (kc k) (kc k') with
  | false => rfl
  | true =>
    obtain rfl := kc_eq hk
    exact bOp_good ho ht ex.symm ey.symm
theorem good_nt {t : TypeId} {x : Operand} (ho : o.op = .unOp .not t x) : Good C cl sz o (kop2 (kt sz o.dst) (kx x) (.nt (kt sz o.dst) (kx x))) := by
  refine kop2_ind good_slow fun ht hx fr ds hp nx kn kp => ?_
  have ex := opd_gx hx fr
  show aNt (kt sz o.dst) (kx x) C cl sz o fr ds hp nx kn kp = _
  unfold aNt
  cases hgx : gx (kx x) fr <;> try rfl
  rename_i b
  rw [hgx] at ex
  have ex : opd fr x = .bool b := ex.symm
  refine eqT (opT_pure (v := .bool (!b)) (by rw [ho]; rfl) (by rw [ho]; show unA .not (opd fr x) = _; rw [ex]; rfl) ht).symm ?_
  cases b <;> rfl
theorem good_pick {c a b : Operand} (ho : o.op = .pick c a b) : Good C cl sz o (kop2 (kt sz o.dst) (kx c) (kop1 (kx a) (kop1 (kx b) (.pick (kt sz o.dst) (kx c) (kx a) (kx b))))) := by
  refine kop2_ind good_slow fun ht hc => kop1_ind good_slow fun ha => kop1_ind good_slow fun hb fr ds hp nx kn kp => ?_
  have ec := opd_gx hc fr
  show aPick (kt sz o.dst) (kx c) (kx a) (kx b) C cl sz o fr ds hp nx kn kp = _
  unfold aPick
  cases hgc : gx (kx c) fr <;> try rfl
  rename_i q
  rw [hgc] at ec
  have ec : opd fr c = .bool q := ec.symm
  show tTo (gx (Bool.rec (kx b) (kx a) q) fr) (kt sz o.dst) fr ds hp nx kn = _
  cases q with
  | true =>
    show tTo (gx (kx a) fr) (kt sz o.dst) fr ds hp nx kn = _
    rw [tTo_eq, opd_gx ha]
    exact (opT_pure (by rw [ho]; rfl) (by rw [ho]; show pickA (opd fr c) (opd fr a) (opd fr b) = _; rw [ec]; rfl) ht).symm
  | false =>
    show tTo (gx (kx b) fr) (kt sz o.dst) fr ds hp nx kn = _
    rw [tTo_eq, opd_gx hb]
    exact (opT_pure (by rw [ho]; rfl) (by rw [ho]; show pickA (opd fr c) (opd fr a) (opd fr b) = _; rw [ec]; rfl) ht).symm
end
end Go.Proofs.YtefjfbhffmkikaaGreatDoor.AX
