/- SX, part 2: carrying out. -/
import Derived.Test.YtefjfbhffmkikaaGreatDoorSx1
namespace Go.Proofs.YtefjfbhffmkikaaGreatDoor.AX

abbrev YF := IntKind → Nat → BinOp → KT → OpF
noncomputable def yNN (k' : IntKind) (b : Nat) : YF := fun k a op t C cl sz o fr ds hp nx kn kp =>
  Bool.rec opT (bOp op k a b t) (Nat.beq (kc k) (kc k')) C cl sz o fr ds hp nx kn kp
noncomputable def ySlow : YF := fun _ _ _ _ => opT
abbrev XF := BinOp → KT → KX → OpF
noncomputable def xN (k : IntKind) (a : Nat) : XF := fun op t y C cl sz o fr ds hp nx kn kp =>
  FV.rec (motive := fun _ => YF) yNN (fun _ => ySlow) (fun _ _ => ySlow) (fun _ _ _ _ => ySlow) (fun _ _ _ _ => ySlow) (fun _ => ySlow) (gx y fr) k a op t C cl sz o fr ds hp nx kn kp
noncomputable def xSlow : XF := fun _ _ _ => opT
noncomputable def aBin (op : BinOp) (t : KT) (x y : KX) : OpF := fun C cl sz o fr ds hp nx kn kp =>
  FV.rec (motive := fun _ => XF) xN (fun _ => xSlow) (fun _ _ => xSlow) (fun _ _ _ _ => xSlow) (fun _ _ _ _ => xSlow) (fun _ => xSlow) (gx x fr) op t y C cl sz o fr ds hp nx kn kp
noncomputable def aNt (t : KT) (x : KX) : OpF := fun C cl sz o fr ds hp nx kn kp =>
  FV.rec (motive := fun _ => Res) (fun _ _ => opT C cl sz o fr ds hp nx kn kp) (fun b => kn (putT t (.bool (Bool.rec true false b)) fr) ds hp nx) (fun _ _ => opT C cl sz o fr ds hp nx kn kp) (fun _ _ _ _ => opT C cl sz o fr ds hp nx kn kp)
    (fun _ _ _ _ => opT C cl sz o fr ds hp nx kn kp) (fun _ => opT C cl sz o fr ds hp nx kn kp) (gx x fr)
abbrev PF := KT → KX → KX → OpF
noncomputable def pB (c : Bool) : PF := fun t a b _ _ _ _ fr ds hp nx kn _ => tTo (gx (Bool.rec b a c) fr) t fr ds hp nx kn
noncomputable def pSlow : PF := fun _ _ _ => opT
noncomputable def aPick (t : KT) (c a b : KX) : OpF := fun C cl sz o fr ds hp nx kn kp =>
  FV.rec (motive := fun _ => PF) (fun _ _ => pSlow) pB (fun _ _ => pSlow) (fun _ _ _ _ => pSlow) (fun _ _ _ _ => pSlow) (fun _ => pSlow) (gx c fr) t a b C cl sz o fr ds hp nx kn kp
abbrev CF := IntKind → KT → OpF
noncomputable def cN (_k : IntKind) (n : Nat) : CF := fun k t C cl sz o fr ds hp nx kn kp => Bool.rec (opT C cl sz o fr ds hp nx kn kp) (kn (putT t (.nat k n) fr) ds hp nx) (Nat.ble n (limF k))
noncomputable def cSlow : CF := fun _ _ => opT
noncomputable def aCv (t : KT) (k : IntKind) (x : KX) : OpF := fun C cl sz o fr ds hp nx kn kp =>
  FV.rec (motive := fun _ => CF) cN (fun _ => cSlow) (fun _ _ => cSlow) (fun _ _ _ _ => cSlow) (fun _ _ _ _ => cSlow) (fun _ => cSlow) (gx x fr) k t C cl sz o fr ds hp nx kn kp
/- Loads of one cell. -/
abbrev LF := Nat → KT → OpF
noncomputable def lC (c : Cells) (n : Nat) (_cl : Cl) : LF := fun off t C cl sz o fr ds hp nx kn kp =>
  Bool.rec (opT C cl sz o fr ds hp nx kn kp) (Option.rec (opT C cl sz o fr ds hp nx kn kp) (fun v => tTo v t fr ds hp nx kn) (c.t.get off)) (Nat.ble (Nat.succ off) n)
noncomputable def lSlow : LF := fun _ _ => opT
noncomputable def lBlk (b : Blk) : LF := Blk.rec lC (fun _ _ _ => lSlow) (fun _ _ _ _ => lSlow) (fun _ _ _ _ _ _ _ _ _ => lSlow) (fun _ => lSlow) (fun _ _ => lSlow) b
abbrev LP := KT → OpF
noncomputable def lP (id off : Nat) : LP := fun t C cl sz o fr ds hp nx kn kp => Option.rec lSlow lBlk (hp.get id) off t C cl sz o fr ds hp nx kn kp
noncomputable def lpSlow : LP := fun _ => opT
noncomputable def aLd (t : KT) (x : KX) : OpF := fun C cl sz o fr ds hp nx kn kp =>
  FV.rec (motive := fun _ => LP) (fun _ _ => lpSlow) (fun _ => lpSlow) lP (fun _ _ _ _ => lpSlow) (fun _ _ _ _ => lpSlow) (fun _ => lpSlow) (gx x fr) t C cl sz o fr ds hp nx kn kp
/- Stores of one cell. -/
abbrev SF := Nat → Nat → FV → OpF
noncomputable def sC (c : Cells) (n : Nat) (f : Cl) : SF := fun id off v C cl sz o fr ds hp nx kn kp =>
  Bool.rec (opT C cl sz o fr ds hp nx kn kp) (kn fr ds (hp.set id (.cells ⟨c.t.set off v⟩ n f)) nx) (Nat.ble (Nat.succ off) n)
noncomputable def sSlow : SF := fun _ _ _ => opT
noncomputable def sBlk (b : Blk) : SF := Blk.rec sC (fun _ _ _ => sSlow) (fun _ _ _ _ => sSlow) (fun _ _ _ _ _ _ _ _ _ => sSlow) (fun _ => sSlow) (fun _ _ => sSlow) b
noncomputable def sAt (v : FV) (id off : Nat) : OpF := fun C cl sz o fr ds hp nx kn kp => Option.rec sSlow sBlk (hp.get id) id off v C cl sz o fr ds hp nx kn kp
noncomputable def sV (v : FV) : Nat → Nat → OpF :=
  FV.rec (motive := fun _ => Nat → Nat → OpF) (fun k n => sAt (.nat k n)) (fun b => sAt (.bool b)) (fun i o => sAt (.ptr i o)) (fun i o l c => sAt (.slc i o l c)) (fun i o l z => sAt (.opn i o l z)) (fun _ _ _ => opT) v
abbrev SP := KX → OpF
noncomputable def sP (id off : Nat) : SP := fun v C cl sz o fr ds hp nx kn kp => sV (gx v fr) id off C cl sz o fr ds hp nx kn kp
noncomputable def spSlow : SP := fun _ => opT
noncomputable def aSt (x v : KX) : OpF := fun C cl sz o fr ds hp nx kn kp =>
  FV.rec (motive := fun _ => SP) (fun _ _ => spSlow) (fun _ => spSlow) sP (fun _ _ _ _ => spSlow) (fun _ _ _ _ => spSlow) (fun _ => spSlow) (gx x fr) v C cl sz o fr ds hp nx kn kp
noncomputable def aFa (t : KT) (off : Nat) (x : KX) : OpF := fun C cl sz o fr ds hp nx kn kp =>
  FV.rec (motive := fun _ => Res) (fun _ _ => opT C cl sz o fr ds hp nx kn kp) (fun _ => opT C cl sz o fr ds hp nx kn kp) (fun id a => kn (putT t (.ptr id (Nat.add a off)) fr) ds hp nx) (fun _ _ _ _ => opT C cl sz o fr ds hp nx kn kp)
    (fun _ _ _ _ => opT C cl sz o fr ds hp nx kn kp) (fun _ => opT C cl sz o fr ds hp nx kn kp) (gx x fr)
/- Addresses of elements. -/
abbrev IF := Nat → KT → Nat → OpF
noncomputable def iAt (id off len : Nat) : IF := fun i t n C cl sz o fr ds hp nx kn kp =>
  Bool.rec (opT C cl sz o fr ds hp nx kn kp) (kn (putT t (.ptr id (Nat.add off (Nat.mul i n))) fr) ds hp nx) (Nat.ble (Nat.succ i) len)
noncomputable def iSlow : IF := fun _ _ _ => opT
noncomputable def iX (x : FV) : IF := FV.rec (motive := fun _ => IF) (fun _ _ => iSlow) (fun _ => iSlow) (fun _ _ => iSlow) (fun id off len _ => iAt id off len) (fun id off len _ => iAt id off len) (fun _ => iSlow) x
noncomputable def iA (len : Nat) (x : FV) : IF := FV.rec (motive := fun _ => IF) (fun _ _ => iSlow) (fun _ => iSlow) (fun id off => iAt id off len) (fun _ _ _ _ => iSlow) (fun _ _ _ _ => iSlow) (fun _ => iSlow) x
abbrev JF := KT → Nat → KX → OpF
noncomputable def jN (_k : IntKind) (i : Nat) : JF := fun t n x C cl sz o fr ds hp nx kn kp => iX (gx x fr) i t n C cl sz o fr ds hp nx kn kp
noncomputable def jSlow : JF := fun _ _ _ => opT
noncomputable def aIa (t : KT) (n : Nat) (x i : KX) : OpF := fun C cl sz o fr ds hp nx kn kp =>
  FV.rec (motive := fun _ => JF) jN (fun _ => jSlow) (fun _ _ => jSlow) (fun _ _ _ _ => jSlow) (fun _ _ _ _ => jSlow) (fun _ => jSlow) (gx i fr) t n x C cl sz o fr ds hp nx kn kp
abbrev JA := KT → Nat → Nat → KX → OpF
noncomputable def jaN (_k : IntKind) (i : Nat) : JA := fun t len n x C cl sz o fr ds hp nx kn kp => iA len (gx x fr) i t n C cl sz o fr ds hp nx kn kp
noncomputable def jaSlow : JA := fun _ _ _ _ => opT
noncomputable def aIaa (t : KT) (len n : Nat) (x i : KX) : OpF := fun C cl sz o fr ds hp nx kn kp =>
  FV.rec (motive := fun _ => JA) jaN (fun _ => jaSlow) (fun _ _ => jaSlow) (fun _ _ _ _ => jaSlow) (fun _ _ _ _ => jaSlow) (fun _ => jaSlow) (gx i fr) t len n x C cl sz o fr ds hp nx kn kp
noncomputable def aLen (t : KT) (x : KX) : OpF := fun C cl sz o fr ds hp nx kn kp =>
  FV.rec (motive := fun _ => Res) (fun _ _ => opT C cl sz o fr ds hp nx kn kp) (fun _ => opT C cl sz o fr ds hp nx kn kp) (fun _ _ => opT C cl sz o fr ds hp nx kn kp) (fun _ _ l _ => kn (putT t (.nat .i64 l) fr) ds hp nx)
    (fun _ _ l _ => kn (putT t (.nat .i64 l) fr) ds hp nx) (fun _ => opT C cl sz o fr ds hp nx kn kp) (gx x fr)

/-- A wanted operation. -/
noncomputable def kdo (k : KOp) : OpF := KOp.rec (motive := fun _ => OpF) opT aMv aBin aNt aPick aCv aLd aSt aFa aIa aIaa aLen k
noncomputable def opW : OpF := fun C cl sz o fr ds hp nx kn kp => kdo (kop C sz o) C cl sz o fr ds hp nx kn kp

/- Guards. -/
inductive KG where
  | no
  | at (x : KX) (w : Bool)
  | slow
noncomputable def kg (all : Array Oper) (o : Oper) : KG :=
  match o.guard with
  | none => .no
  | some (j, w) => match (all[j]?).bind (·.dst) with
    | some d => match kx (.tmp d) with
      | .z => .slow
      | x => .at x w
    | none => .slow
abbrev GF := Array Oper → OpF
noncomputable def gNo : GF := fun _ => opW
noncomputable def gSlow : GF := fun all C cl sz o fr ds hp nx kn kp => opK C cl sz all o fr ds hp nx kn kp
noncomputable def skipT : OpF := fun _ _ sz o fr ds hp nx kn _ => putK sz o.dst (.tup []) fr fun fr => kn fr ds hp nx
abbrev HF := Bool → GF
noncomputable def hB (b : Bool) : HF := fun w _ => Bool.rec (Bool.rec opW skipT w) (Bool.rec skipT opW w) b
def isTup (v : AV) : Bool :=
  match v with
  | .tup _ => true
  | _ => false
noncomputable def hV (v : AV) : HF := fun _ all => Bool.rec (gSlow all) skipT (isTup v)
noncomputable def hSlow : HF := fun _ all => gSlow all
noncomputable def gAt (x : KX) (w : Bool) : GF := fun all C cl sz o fr ds hp nx kn kp =>
  FV.rec (motive := fun _ => HF) (fun _ _ => hSlow) hB (fun _ _ => hSlow) (fun _ _ _ _ => hSlow) (fun _ _ _ _ => hSlow) hV (gx x fr) w all C cl sz o fr ds hp nx kn kp
/-- One operation. -/
noncomputable def opS : GF := fun all C cl sz o fr ds hp nx kn kp => KG.rec (motive := fun _ => GF) gNo gAt gSlow (kg all o) all C cl sz o fr ds hp nx kn kp

noncomputable def opsS (C : Ctx) (cl : CallF) (sz : Nat) (all : Array Oper) (l : List Oper) (kn : KN) (kp : List APan → KN) : KN :=
  List.rec (motive := fun _ => KN) kn (fun o _ ih fr ds hp nx => opS all C cl sz o fr ds hp nx ih kp) l
noncomputable def regionS (C : Ctx) (cl : CallF) (sz : Nat) (ops : Array Oper) (draw : Bool) (kn : KN) (kp : List APan → KN) : KN :=
  Bool.rec (opsS C cl sz ops ops.toList kn kp) (regionK C cl sz ops true kn kp) draw
abbrev CnF := Operand → KN → KN → KN
noncomputable def cnB (t : Bool) : CnF := fun _ a b => Bool.rec b a t
noncomputable def cnSlow : CnF := condK
noncomputable def condS (c : Operand) (a b : KN) : KN := fun fr ds hp nx =>
  FV.rec (motive := fun _ => CnF) (fun _ _ => cnSlow) cnB (fun _ _ => cnSlow) (fun _ _ _ _ => cnSlow) (fun _ _ _ _ => cnSlow) (fun _ => cnSlow) (gx (kx c) fr) c a b fr ds hp nx
noncomputable def exS (C : Ctx) (cl : CallF) (f : FuncId) (sz : Nat) (ro : Option Nat) (c : Code) : KN → (Nat → KN) → KN → (List APan → KN) → KN :=
  Code.rec (motive := fun _ => KN → (Nat → KN) → KN → (List APan → KN) → KN)
    (fun kn _ _ _ => kn)
    (fun _ ops draw kn _ _ kp => regionS C cl sz ops draw kn kp)
    (fun _ _ a b kn kx kr kp => a (b kn kx kr kp) kx kr kp)
    (fun c _ _ a b kn kx kr kp => condS c (a kn kx kr kp) (b kn kx kr kp))
    (fun id _ a kn kx kr kp => a kn (fun i => Bool.rec (kx i) kn (Nat.beq i id)) kr kp)
    (fun _ a _ kx kr kp => loopK fun kn => a kn kx kr kp)
    (fun g ps as bd _ _ kn kx kr kp fr ds hp nx => rangeK cl f sz ro g ps as bd fr ds hp nx kn kx kr kp)
    (fun id _ kx _ _ => kx id)
    (fun _ a kn kx kr kp => a kn kx kr kp)
    (fun _ kn _ _ _ => kn)
    (fun _ _ _ _ _ => failK)
    (fun _ _ kr _ => kr)
    (fun _ _ _ _ _ => failK)
    c
/-- A call with so many levels to spare. -/
noncomputable def callS (C : Ctx) (n : Nat) : CallF :=
  Nat.rec (motive := fun _ => CallF) (fun _ _ _ _ => .fail none) (fun _ cl t args hp nx => match t with
    | .fn f => orcOr C f args hp nx (match C.P.funcs[f]? with
      | some fn => match fn.body with
        | some c => match Nat.ble args.length fn.ntmps with
          | true => exS C cl f fn.ntmps none c (retK C cl fn) (fun _ => failK) (retK C cl fn) panK (frL args) [] hp nx
          | false => .fail none
        | none => .fail none
      | none => .fail none)
    | .dfd f => dfdOr C f args hp nx (match C.P.funcs[f]? with
      | some fn => match fn.body with
        | some c => match Nat.ble args.length fn.ntmps with
          | true => exS C cl f fn.ntmps none c (retD C fn) (fun _ => failK) (retD C fn) panK (frL args) [] hp nx
          | false => .fail none
        | none => .fail none
      | none => .fail none)
    | .rnd l => match hp.get l with
      | some (.loop _ _ f fr sz ps as bd _) => match setAll sz fr ps args with
        | some fr => exS { C with rd := true } cl f sz (some l) as
            (fun fr ds hp nx => match hp.get l with
              | some (.loop .ready p f' fr' sz' ps' as' bd' d') =>
                exS { C with rd := true } cl f sz (some l) bd (fun _ _ hp nx => endRoundA l hp nx none) (fun id _ _ hp nx => endRoundA l hp nx (some (.exit id)))
                  (fun _ _ hp nx => endRoundA l hp nx (some .ret)) (fun _ => failK) fr ds (hp.set l (.loop .busy p f' fr' sz' ps' as' bd' d')) nx
              | _ => .fail none)
            (fun _ => failK) failK (fun _ => failK) fr [] hp nx
        | none => .fail none
      | _ => .fail none) n
end Go.Proofs.YtefjfbhffmkikaaGreatDoor.AX
