/- SX, part 1: the same machine, its commonest operations at hand: what an operation is worked out once (KOp), and carried out in few steps. -/
import Derived.Test.YtefjfbhffmkikaaGreatDoorSx0
namespace Go.Proofs.YtefjfbhffmkikaaGreatDoor.AX

noncomputable def kx (o : Operand) : KX :=
  Operand.rec (fun t => Bool.rec .z (getT t) (Nat.ble t 255)) (fun v => .c (ofVal v).down) (fun _ => .z) (fun _ => .z) o
noncomputable def kt (sz : Nat) (d : Option Tmp) : KT :=
  Option.rec .z (fun t => Bool.rec .z (Bool.rec .z (setT t) (Nat.ble (Nat.succ t) sz)) (Nat.ble t 255)) d
noncomputable def gx (x : KX) (fr : Fr) : FV := KX.rec (fun g fr => g fr) (fun v _ => v) (fun _ => .oth .bad) x fr
noncomputable def putT (t : KT) (v : FV) (fr : Fr) : Fr := KT.rec (fun g => g) (fun _ fr => fr) t v fr

/-- What an operation is. -/
inductive KOp where
  | slow
  | mv (t : KT) (x : KX)
  | bin (op : BinOp) (t : KT) (x y : KX)
  | nt (t : KT) (x : KX)
  | pick (t : KT) (c a b : KX)
  | cv (t : KT) (k : IntKind) (x : KX)
  | ld (t : KT) (x : KX)
  | st (x v : KX)
  | fa (t : KT) (off : Nat) (x : KX)
  | ia (t : KT) (n : Nat) (x i : KX)
  | iaa (t : KT) (len n : Nat) (x i : KX)
  | len (t : KT) (x : KX)

def isOne (P : Program) (t : TypeId) : Bool :=
  match isAggT P t with
  | some false => match sizeT P t with
    | some 1 => true
    | _ => false
  | _ => false
def kop2 (t : KT) (x : KX) (k : KOp) : KOp :=
  match t with
  | .z => .slow
  | _ => match x with
    | .z => .slow
    | _ => k
def kop1 (x : KX) (k : KOp) : KOp :=
  match x with
  | .z => .slow
  | _ => k
noncomputable def kop (C : Ctx) (sz : Nat) (o : Oper) : KOp :=
  match o.op with
  | .move x => kop2 (kt sz o.dst) (kx x) (.mv (kt sz o.dst) (kx x))
  | .assign x => kop2 (kt sz o.dst) (kx x) (.mv (kt sz o.dst) (kx x))
  | .binOp op _ x y _ => kop2 (kt sz o.dst) (kx x) (kop1 (kx y) (.bin op (kt sz o.dst) (kx x) (kx y)))
  | .unOp .not _ x => kop2 (kt sz o.dst) (kx x) (.nt (kt sz o.dst) (kx x))
  | .pick c a b => kop2 (kt sz o.dst) (kx c) (kop1 (kx a) (kop1 (kx b) (.pick (kt sz o.dst) (kx c) (kx a) (kx b))))
  | .convert src dst x => match C.P.underlying src, C.P.underlying dst with
    | some (.int _), some (.int k) => kop2 (kt sz o.dst) (kx x) (.cv (kt sz o.dst) k (kx x))
    | _, _ => .slow
  | .load t x => match isAggT C.P t with
    | some false => kop2 (kt sz o.dst) (kx x) (.ld (kt sz o.dst) (kx x))
    | _ => .slow
  | .store t x v => match o.dst, isOne C.P t with
    | none, true => kop1 (kx x) (kop1 (kx v) (.st (kx x) (kx v)))
    | _, _ => .slow
  | .fieldAddr s x n => match C.P.underlying s with
    | some (.struct fs) => match fs[n]? with
      | some f => match sizeT C.P f.type with
        | some (_ + 1) => kop2 (kt sz o.dst) (kx x) (.fa (kt sz o.dst) f.offset (kx x))
        | _ => .slow
      | none => .slow
    | _ => .slow
  | .indexAddr t x i => match C.P.underlying t with
    | some (.slice e) => match sizeT C.P e with
      | some n => kop2 (kt sz o.dst) (kx x) (kop1 (kx i) (.ia (kt sz o.dst) n (kx x) (kx i)))
      | none => .slow
    | some (.array len e) => match sizeT C.P e with
      | some n => kop2 (kt sz o.dst) (kx x) (kop1 (kx i) (.iaa (kt sz o.dst) len n (kx x) (kx i)))
      | none => .slow
    | _ => .slow
  | .call c => match c.callee with
    | .builtin .len => match c.argTypes[0]?, c.args[0]? with
      | some t, some x => match C.P.underlying t with
        | some (.slice _) => kop2 (kt sz o.dst) (kx x) (.len (kt sz o.dst) (kx x))
        | _ => .slow
      | _, _ => .slow
    | _ => .slow
  | _ => .slow

/-- An operation that is wanted, the long way. -/
noncomputable def opT (C : Ctx) (cl : CallF) (sz : Nat) (o : Oper) (fr : Fr) (ds : List ADef) (hp : Hp) (nx : Nat) (kn : KN) (kp : List APan → KN) : Res :=
  match cls C.P o.op with
    | 0 => match pureA C.P o.op (opd fr) with
      | some v => putK sz o.dst v fr fun fr => kn fr ds hp nx
      | none => .fail (some o.pos)
    | 1 => match readA C o.op (opd fr) hp with
      | some v => putK sz o.dst v fr fun fr => kn fr ds hp nx
      | none => .fail (some o.pos)
    | 2 => match allocA C o.op (opd fr) with
      | some (b, mk) => putK sz o.dst (mk nx) fr fun fr => forceN nx fun nx => kn fr ds (hp.set nx b) (Nat.succ nx)
      | none => .fail (some o.pos)
    | 4 => match deferA C o.op (opd fr) with
      | some d => putK sz o.dst (.tup []) fr fun fr => kn fr (d :: ds) hp nx
      | none => .fail (some o.pos)
    | _ => match wA C cl o.op (opd fr) hp nx with
      | .done v hp nx => putK sz o.dst v fr fun fr => kn fr ds hp nx
      | .pan c hp nx => kp c fr ds hp nx
      | .fail (some s) => .fail (some s)
      | .fail none => .fail (some o.pos)
abbrev OpF := Ctx → CallF → Nat → Oper → Fr → List ADef → Hp → Nat → KN → (List APan → KN) → Res

/- A value goes to its slot. -/
noncomputable def tN (k : IntKind) (n : Nat) (t : KT) (fr : Fr) (ds : List ADef) (hp : Hp) (nx : Nat) (kn : KN) : Res := kn (putT t (.nat k n) fr) ds hp nx
noncomputable def tB (b : Bool) (t : KT) (fr : Fr) (ds : List ADef) (hp : Hp) (nx : Nat) (kn : KN) : Res := kn (putT t (.bool b) fr) ds hp nx
noncomputable def tP (i o : Nat) (t : KT) (fr : Fr) (ds : List ADef) (hp : Hp) (nx : Nat) (kn : KN) : Res := kn (putT t (.ptr i o) fr) ds hp nx
noncomputable def tS (i o l c : Nat) (t : KT) (fr : Fr) (ds : List ADef) (hp : Hp) (nx : Nat) (kn : KN) : Res := kn (putT t (.slc i o l c) fr) ds hp nx
noncomputable def tO (i o l z : Nat) (t : KT) (fr : Fr) (ds : List ADef) (hp : Hp) (nx : Nat) (kn : KN) : Res := kn (putT t (.opn i o l z) fr) ds hp nx
noncomputable def tV (v : AV) (t : KT) (fr : Fr) (ds : List ADef) (hp : Hp) (nx : Nat) (kn : KN) : Res := kn (putT t v.down fr) ds hp nx
noncomputable def tTo (v : FV) : KT → Fr → List ADef → Hp → Nat → KN → Res := FV.rec tN tB tP tS tO tV v
noncomputable def aMv (t : KT) (x : KX) : OpF := fun _ _ _ _ fr ds hp nx kn _ => tTo (gx x fr) t fr ds hp nx kn

/-- The kind's number. -/
noncomputable def kc (k : IntKind) : Nat := IntKind.rec 0 1 2 3 4 5 6 7 k
noncomputable def limF (k : IntKind) : Nat := IntKind.rec 127 32767 2147483647 9223372036854775807 255 65535 4294967295 18446744073709551615 k
abbrev BinF := IntKind → Nat → Nat → KT → OpF
noncomputable def bSlow : BinF := fun _ _ _ _ => opT
noncomputable def bAdd : BinF := fun k a b t C cl sz o fr ds hp nx kn kp => Bool.rec (opT C cl sz o fr ds hp nx kn kp) (kn (putT t (.nat k (Nat.add a b)) fr) ds hp nx) (Nat.ble (Nat.add a b) (limF k))
noncomputable def bMul : BinF := fun k a b t C cl sz o fr ds hp nx kn kp => Bool.rec (opT C cl sz o fr ds hp nx kn kp) (kn (putT t (.nat k (Nat.mul a b)) fr) ds hp nx) (Nat.ble (Nat.mul a b) (limF k))
noncomputable def bSub : BinF := fun k a b t C cl sz o fr ds hp nx kn kp => Bool.rec (opT C cl sz o fr ds hp nx kn kp) (Bool.rec (opT C cl sz o fr ds hp nx kn kp) (kn (putT t (.nat k (Nat.sub a b)) fr) ds hp nx) (Nat.ble (Nat.sub a b) (limF k))) (Nat.ble b a)
noncomputable def bEql : BinF := fun _ a b t _ _ _ _ fr ds hp nx kn _ => kn (putT t (.bool (Nat.beq a b)) fr) ds hp nx
noncomputable def bNeq : BinF := fun _ a b t _ _ _ _ fr ds hp nx kn _ => kn (putT t (.bool (Bool.rec true false (Nat.beq a b))) fr) ds hp nx
noncomputable def bLss : BinF := fun _ a b t _ _ _ _ fr ds hp nx kn _ => kn (putT t (.bool (Bool.rec true false (Nat.ble b a))) fr) ds hp nx
noncomputable def bLeq : BinF := fun _ a b t _ _ _ _ fr ds hp nx kn _ => kn (putT t (.bool (Nat.ble a b)) fr) ds hp nx
noncomputable def bGtr : BinF := fun _ a b t _ _ _ _ fr ds hp nx kn _ => kn (putT t (.bool (Bool.rec true false (Nat.ble a b))) fr) ds hp nx
noncomputable def bGeq : BinF := fun _ a b t _ _ _ _ fr ds hp nx kn _ => kn (putT t (.bool (Nat.ble b a)) fr) ds hp nx
noncomputable def bOp (op : BinOp) : BinF := BinOp.rec bAdd bSub bMul bSlow bSlow bSlow bSlow bSlow bSlow bSlow bSlow bEql bNeq bLss bLeq bGtr bGeq op
end Go.Proofs.YtefjfbhffmkikaaGreatDoor.AX
