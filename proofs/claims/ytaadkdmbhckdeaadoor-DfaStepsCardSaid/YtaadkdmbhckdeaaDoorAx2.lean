/- AX, part 2: the operations that touch no memory, on abstract values. -/
import Derived.Test.YtaadkdmbhckdeaaDoorAx1
namespace Go.Proofs.YtaadkdmbhckdeaaDoor.AX

/- NUMBERS, with a short way for what is small. -/
def lim : IntKind → Nat
  | .i8 => 127 | .i16 => 32767 | .i32 => 2147483647 | .i64 => 9223372036854775807
  | .u8 => 255 | .u16 => 65535 | .u32 => 4294967295 | .u64 => 18446744073709551615
def wrapA (k : IntKind) (n : Int) : Int :=
  match n with
  | .ofNat m => match Nat.ble m (lim k) with
    | true => .ofNat m
    | false => k.wrap (.ofNat m)
  | .negSucc m => k.wrap (.negSucc m)
def addA (a b : Int) : Int :=
  match a, b with
  | .ofNat m, .ofNat n => .ofNat (Nat.add m n)
  | a, b => Int.add a b
def mulA (a b : Int) : Int :=
  match a, b with
  | .ofNat m, .ofNat n => .ofNat (Nat.mul m n)
  | a, b => Int.mul a b
def subA (a b : Int) : Int :=
  match a, b with
  | .ofNat m, .ofNat n => match Nat.ble n m with
    | true => .ofNat (Nat.sub m n)
    | false => Int.sub (.ofNat m) (.ofNat n)
  | a, b => Int.sub a b
def eqI (a b : Int) : Bool :=
  match a, b with
  | .ofNat m, .ofNat n => Nat.beq m n
  | .negSucc m, .negSucc n => Nat.beq m n
  | _, _ => false
def leI (a b : Int) : Bool :=
  match a, b with
  | .ofNat m, .ofNat n => Nat.ble m n
  | .negSucc m, .negSucc n => Nat.ble n m
  | .negSucc _, .ofNat _ => true
  | .ofNat _, .negSucc _ => false
def ltI (a b : Int) : Bool := !(leI b a)
def natOf (a : Int) : Nat :=
  match a with
  | .ofNat m => m
  | .negSucc _ => 0

def bitsA (op : BinOp) (k : IntKind) (x y : Int) : Option Int :=
  let a := BitVec.ofInt k.bits x
  let b := BitVec.ofInt k.bits y
  match op with
  | .and => some (k.wrap (a &&& b).toNat)
  | .or => some (k.wrap (a ||| b).toNat)
  | .xor => some (k.wrap (a ^^^ b).toNat)
  | .andNot => some (k.wrap (a &&& ~~~b).toNat)
  | _ => none
def bitsF (op : BinOp) (k : IntKind) (x y : Int) : Option Int := bitsA op k x y
def shlA (k : IntKind) (x : Int) (y : Nat) : Int :=
  match x with
  | .ofNat m => wrapA k (.ofNat (Nat.mul m (Nat.pow 2 (Nat.min y k.bits))))
  | .negSucc m => k.wrap (.negSucc m * 2 ^ (min y k.bits))
def shrA (k : IntKind) (x : Int) (y : Nat) : Int :=
  match x with
  | .ofNat m => .ofNat (Nat.div m (Nat.pow 2 (Nat.min y k.bits)))
  | .negSucc m => (Int.negSucc m).fdiv (2 ^ (min y k.bits))
def quoA (k : IntKind) (x y : Int) : Int :=
  match x, y with
  | .ofNat m, .ofNat n => wrapA k (.ofNat (Nat.div m n))
  | x, y => k.wrap (x.tdiv y)
def remA (x y : Int) : Int :=
  match x, y with
  | .ofNat m, .ofNat n => .ofNat (Nat.mod m n)
  | x, y => x.tmod y

/-- Two numbers of one kind. -/
def intBin (op : BinOp) (k : IntKind) (a b : Int) : Option AV :=
  match op with
  | .add => some (.int k (wrapA k (addA a b)))
  | .sub => some (.int k (wrapA k (subA a b)))
  | .mul => some (.int k (wrapA k (mulA a b)))
  | .quo => match eqI b 0 with
    | true => none
    | false => some (.int k (quoA k a b))
  | .rem => match eqI b 0 with
    | true => none
    | false => some (.int k (remA a b))
  | .and => (bitsF .and k a b).map (.int k ·)
  | .or => (bitsF .or k a b).map (.int k ·)
  | .xor => (bitsF .xor k a b).map (.int k ·)
  | .andNot => (bitsF .andNot k a b).map (.int k ·)
  | .eql => some (.bool (eqI a b))
  | .neq => some (.bool (!(eqI a b)))
  | .lss => some (.bool (ltI a b))
  | .leq => some (.bool (leI a b))
  | .gtr => some (.bool (ltI b a))
  | .geq => some (.bool (leI b a))
  | .shl => none
  | .shr => none
def kindEq : IntKind → IntKind → Bool
  | .i8, .i8 => true | .i16, .i16 => true | .i32, .i32 => true | .i64, .i64 => true
  | .u8, .u8 => true | .u16, .u16 => true | .u32, .u32 => true | .u64, .u64 => true
  | _, _ => false
def intOp (op : BinOp) (k : IntKind) (a : Int) (k' : IntKind) (b : Int) : Option AV :=
  match op with
  | .shl => match leI 0 b with
    | true => some (.int k (shlA k a (natOf b)))
    | false => none
  | .shr => match leI 0 b with
    | true => some (.int k (shrA k a (natOf b)))
    | false => none
  | op => match kindEq k k' with
    | true => intBin op k a b
    | false => none

/- STRINGS. -/
def lessB : List Nat → List Nat → Bool
  | _, [] => false
  | [], _ :: _ => true
  | a :: x, b :: y => match Nat.beq a b with
    | true => lessB x y
    | false => Nat.ble a b
def eqB : List Nat → List Nat → Bool
  | [], [] => true
  | a :: x, b :: y => match Nat.beq a b with
    | true => eqB x y
    | false => false
  | _, _ => false
/-- The order of two strings, as a number. -/
def cmpB : List Nat → List Nat → Int
  | [], [] => 0
  | [], _ :: _ => -1
  | _ :: _, [] => 1
  | a :: x, b :: y => match Nat.beq a b with
    | true => cmpB x y
    | false => match Nat.ble a b with
      | true => -1
      | false => 1
def strOp (op : BinOp) (x y : List Nat) : Option AV :=
  match op with
  | .add => match Nat.ble (x.length + y.length) 1000000000 with
    | true => some (.str (x ++ y))
    | false => none
  | .eql => some (.bool (eqB x y))
  | .neq => some (.bool (!(eqB x y)))
  | .lss => some (.bool (lessB x y))
  | .leq => some (.bool (lessB x y || eqB x y))
  | .gtr => some (.bool (!(lessB x y || eqB x y)))
  | .geq => some (.bool (!(lessB x y)))
  | _ => none

/- EQUAL VALUES. 'none': not known here. -/
def arrEq (f : Nat → Option Bool) : (n i : Nat) → Option Bool
  | 0, _ => some true
  | n + 1, i => match f i with
    | some true => arrEq f n (i + 1)
    | some false => some false
    | none => none
def fldEq (f : Field → Option Bool) : List Field → Option Bool
  | [] => some true
  | x :: l => match x.name == "_" with
    | true => fldEq f l
    | false => match f x with
      | some true => fldEq f l
      | some false => some false
      | none => none
def isAggT (P : Program) (t : TypeId) : Option Bool :=
  match P.underlying t with
  | some (.struct _) => some true
  | some (.array _ _) => some true
  | some _ => some false
  | none => none
def sizeT (P : Program) (t : TypeId) : Option Nat := (P.info? t).map (·.size)
/-- A part of a row of cells. -/
def partA (P : Program) (t : TypeId) (cs : List AV) (off : Nat) : Option AV :=
  match isAggT P t with
  | some true => match sizeT P t with
    | some n => some (.agg ((cs.drop off).take n))
    | none => none
  | some false => cs[off]?
  | none => none
def both (f : AV → AV → Option Bool) : Option AV → Option AV → Option Bool
  | some x, some y => f x y
  | _, _ => none
noncomputable def eqA (P : Program) : Nat → TypeId → AV → AV → Option Bool
  | 0, _, _, _ => none
  | d + 1, t, x, y =>
    match P.underlying t with
    | some .bool => match x, y with
      | .bool a, .bool b => some (a == b)
      | _, _ => none
    | some (.int _) => match x, y with
      | .int k a, .int k' b => match kindEq k k' with
        | true => some (eqI a b)
        | false => none
      | _, _ => none
    | some .string => match x, y with
      | .str a, .str b => some (eqB a b)
      | _, _ => none
    | some (.pointer _) => match x, y with
      | .nilp, .nilp => some true
      | .nilp, .ptr _ _ => some false
      | .nilp, .gptr _ _ => some false
      | .ptr _ _, .nilp => some false
      | .gptr _ _, .nilp => some false
      | _, _ => none
    | some (.slice _) => match x, y with
      | .nils, .nils => some true
      | .nils, .slice _ _ _ _ => some false
      | .nils, .opn _ _ _ _ => some false
      | .slice _ _ _ _, .nils => some false
      | .opn _ _ _ _, .nils => some false
      | _, _ => none
    | some (.map _ _) => match x, y with
      | .nilm, .nilm => some true
      | .nilm, .map _ => some false
      | .map _, .nilm => some false
      | _, _ => none
    | some (.func _ _ _) => match x, y with
      | .nilf, .nilf => some true
      | .nilf, .fn _ _ _ => some false
      | .nilf, .yld _ => some false
      | .fn _ _ _, .nilf => some false
      | .yld _, .nilf => some false
      | _, _ => none
    | some (.interface _) => match x, y with
      | .nili, .nili => some true
      | .nili, .iface _ _ => some false
      | .iface _ _, .nili => some false
      | .iface tx vx, .iface ty vy => match Nat.beq tx ty with
        | true => match P.info? tx with
          | some i => match i.comparable with
            | true => eqA P d tx vx vy
            | false => none
          | none => none
        | false => some false
      | _, _ => none
    | some (.struct fs) => match x, y with
      | .agg xs, .agg ys => match P.stoodInHeld t with
        | false => fldEq (fun f => both (eqA P d f.type) (partA P f.type xs f.offset) (partA P f.type ys f.offset)) fs.toList
        | true => none
      | _, _ => none
    | some (.array len e) => match x, y with
      | .agg xs, .agg ys => match sizeT P e with
        | some n => arrEq (fun i => both (eqA P d e) (partA P e xs (i * n)) (partA P e ys (i * n))) len 0
        | none => none
      | _, _ => none
    | _ => none
/-- Is the model's look at two nil interface values out of the way? -/
def guardOk (P : Program) (t : TypeId) (x y : Operand) (a b : AV) : Bool :=
  match a with
  | .nili => match b with
    | .nili => match x with
      | .const _ => true
      | _ => match y with
        | .const _ => true
        | _ => false
    | .bad => false
    | .one => false
    | _ => true
  | .agg _ => match b with
    | .agg _ => !(P.eqGuardType P.depth t)
    | .bad => false
    | .one => false
    | _ => true
  | .bad => false
  | .one => false
  | _ => match b with
    | .bad => false
    | .one => false
    | _ => true
noncomputable def eqOp (P : Program) (neg : Bool) (t : TypeId) (x y : Operand) (a b : AV) : Option AV :=
  match guardOk P t x y a b with
  | true => match eqA P 10000 t a b with
    | some r => some (.bool (r != neg))
    | none => none
  | false => none
noncomputable def binA (P : Program) (op : BinOp) (t : TypeId) (x y : Operand) (a b : AV) : Option AV :=
  match a with
  | .int k m => match b with
    | .int k' n => intOp op k m k' n
    | _ => none
  | .str s => match b with
    | .str u => strOp op s u
    | _ => none
  | _ => match op with
    | .eql => eqOp P false t x y a b
    | .neq => eqOp P true t x y a b
    | _ => none

def unA (op : UnOp) (x : AV) : Option AV :=
  match x with
  | .int k n => match op with
    | .neg => some (.int k (wrapA k (subA 0 n)))
    | .xor => match k.signed with
      | true => (bitsA .xor k (-1) n).map (.int k ·)
      | false => (bitsF .xor k (.ofNat (lim k)) n).map (.int k ·)
    | _ => none
  | .bool b => match op with
    | .not => some (.bool (!b))
    | _ => none
  | _ => none

def convA (P : Program) (src dst : TypeId) (x : AV) : Option AV :=
  match x with
  | .int _ n => match P.underlying src, P.underlying dst with
    | some (.int _), some (.int k) => some (.int k (wrapA k n))
    | _, _ => none
  | .str s => match P.underlying src, P.underlying dst with
    | some .string, some .string => some (.str s)
    | _, _ => none
  | _ => none

def fieldAddrA (P : Program) (s : TypeId) (x : AV) (n : Nat) : Option AV :=
  match P.underlying s with
  | some (.struct fs) => match fs[n]? with
    | some f => match sizeT P f.type with
      | some (_ + 1) => match x with
        | .ptr id off => some (.ptr id (Nat.add off f.offset))
        | _ => none
      | _ => none
    | none => none
  | _ => none
def fieldA (P : Program) (t : TypeId) (x : AV) (n : Nat) : Option AV :=
  match P.underlying t with
  | some (.struct fs) => match fs[n]? with
    | some f => match x with
      | .agg cs => partA P f.type cs f.offset
      | _ => none
    | none => none
  | _ => none
def inB (i : Int) (len : Nat) : Bool :=
  match i with
  | .ofNat m => Nat.ble (Nat.succ m) len
  | .negSucc _ => false
def indexAddrA (P : Program) (t : TypeId) (x ix : AV) : Option AV :=
  match ix with
  | .int _ i => match P.underlying t with
    | some (.slice e) => match sizeT P e with
      | some n => match x with
        | .slice id off len _ => match inB i len with
          | true => some (.ptr id (Nat.add off (Nat.mul (natOf i) n)))
          | false => none
        | .opn id off len _ => match inB i len with
          | true => some (.ptr id (Nat.add off (Nat.mul (natOf i) n)))
          | false => none
        | .gsl g off len _ => match inB i len with
          | true => some (.gptr g (Nat.add off (Nat.mul (natOf i) n)))
          | false => none
        | _ => none
      | none => none
    | some (.array len e) => match sizeT P e with
      | some n => match inB i len with
        | true => match x with
          | .ptr id off => some (.ptr id (Nat.add off (Nat.mul (natOf i) n)))
          | .gptr g off => some (.gptr g (Nat.add off (Nat.mul (natOf i) n)))
          | _ => none
        | false => none
      | none => none
    | _ => none
  | _ => none
def indexA (P : Program) (t : TypeId) (x ix : AV) : Option AV :=
  match ix with
  | .int _ i => match P.underlying t with
    | some (.array len e) => match sizeT P e with
      | some n => match inB i len with
        | true => match x with
          | .agg cs => partA P e cs (Nat.mul (natOf i) n)
          | _ => none
        | false => none
      | none => none
    | some .string => match x with
      | .str s => match i with
        | .ofNat m => match s[m]? with
          | some b => some (.int .u8 (.ofNat b))
          | none => none
        | .negSucc _ => none
      | _ => none
    | _ => none
  | _ => none
/-- A bound of a slice expression: at most y. -/
def boundA (y : Nat) (d : Nat) : Option AV → Option Nat
  | none => some d
  | some (.int _ i) => match leI 0 i with
    | true => match Nat.ble (natOf i) y with
      | true => some (natOf i)
      | false => none
    | false => none
  | some _ => none
/-- The bounds of a slice expression. -/
def bndA (cap len : Nat) (lo hi mx : Option AV) : Option (Nat × Nat × Nat) :=
  match mx with
  | none => match boundA cap len hi with
    | some h => match boundA h 0 lo with
      | some l => some (l, h, cap)
      | none => none
    | none => none
  | some mv => match hi with
    | some hv => match boundA cap 0 (some mv) with
      | some m => match boundA m 0 (some hv) with
        | some h => match boundA h 0 lo with
          | some l => some (l, h, m)
          | none => none
        | none => none
      | none => none
    | none => none
def sliceA (P : Program) (t : TypeId) (x : AV) (lo hi mx : Option AV) : Option AV :=
  match P.underlying t with
  | some .string => match x with
    | .str s => match mx with
      | none => match bndA s.length s.length lo hi none with
        | some (l, h, _) => some (.str ((s.take h).drop l))
        | none => none
      | some _ => none
    | _ => none
  | some (.slice e) => match sizeT P e with
    | some n => match x with
      | .nils => match bndA 0 0 lo hi mx with
        | some _ => some .nils
        | none => none
      | .slice id off len cap => match bndA cap len lo hi mx with
        | some (l, h, m) => some (.slice id (Nat.add off (Nat.mul l n)) (Nat.sub h l) (Nat.sub m l))
        | none => none
      | .opn id off len sz => match Nat.beq sz n with
        | true => match bndA len len lo hi mx with
          | some (l, h, m) => match mx with
            | none => some (.opn id (Nat.add off (Nat.mul l n)) (Nat.sub h l) sz)
            | some _ => some (.slice id (Nat.add off (Nat.mul l n)) (Nat.sub h l) (Nat.sub m l))
          | none => none
        | false => none
      | _ => none
    | none => none
  | some (.array n e) => match sizeT P e with
    | some z => match x with
      | .ptr id off => match mx with
        | none => match bndA n n lo hi none with
          | some (l, h, _) => some (.slice id (Nat.add off (Nat.mul l z)) (Nat.sub h l) (Nat.sub n l))
          | none => none
        | some _ => none
      | _ => none
    | none => none
  | _ => none

/-- The model's constant as an abstract value; addresses are not known here. -/
def atomOf (v : Value) : AV :=
  match v with
  | .bool b => .bool b
  | .int k n => .int k n
  | .string s => .str (bytesOf s)
  | .pointer none => .nilp
  | .slice none 0 0 => .nils
  | .map none => .nilm
  | .nilFunc => .nilf
  | .nilIface => .nili
  | _ => .bad
def ofVal (v : Value) : AV :=
  match v with
  | .agg cs => .agg (cs.toList.map atomOf)
  | .func f ⟨[]⟩ ⟨[]⟩ => match f with
    | .yield _ => .bad
    | f => .fn f [] []
  | .tuple ⟨[]⟩ => .tup []
  | v => atomOf v
/-- A type's zero value. -/
def zeroA (P : Program) (t : TypeId) : Option AV :=
  match P.info? t with
  | some i => match i.zero with
    | some v => some (ofVal v)
    | none => none
  | none => none
def cellsA : AV → Option (List AV)
  | .agg l => some l
  | .bad => none
  | .tup _ => none
  | v => some [v]
/-- Parts laid into a row of cells. -/
def layA (cs : List AV) (off : Nat) (new : List AV) : List AV := cs.take off ++ new ++ cs.drop (off + new.length)
def fillA (place : Nat → Option (Nat × Nat)) (cs : List AV) : List (Nat × AV) → Option (List AV)
  | [] => some cs
  | (i, v) :: rest => match place i with
    | some (off, size) => match cellsA v with
      | some new => match Nat.beq new.length size, Nat.ble (off + new.length) cs.length with
        | true, true => fillA place (layA cs off new) rest
        | _, _ => none
      | none => none
    | none => none
def fieldPlaces (P : Program) : List Field → Option (List (Nat × Nat))
  | [] => some []
  | f :: l => match sizeT P f.type, fieldPlaces P l with
    | some n, some r => some ((f.offset, n) :: r)
    | _, _ => none
def buildA (P : Program) (t : TypeId) (parts : List (Nat × AV)) : Option AV :=
  match zeroA P t with
  | some (.agg z) => match P.underlying t with
    | some (.struct fs) => match fieldPlaces P fs.toList with
      | some pl => match fillA (fun i => pl[i]?) z parts with
        | some cs => some (.agg cs)
        | none => none
      | none => none
    | some (.array _ e) => match sizeT P e with
      | some n => match fillA (fun i => some (i * n, n)) z parts with
        | some cs => some (.agg cs)
        | none => none
      | none => none
    | _ => none
  | _ => none
def pickA (c a b : AV) : Option AV :=
  match c with
  | .bool true => some a
  | .bool false => some b
  | _ => none
def nilCheckA (x : AV) : Option AV :=
  match x with
  | .ptr id off => some (.ptr id off)
  | .gptr g off => some (.gptr g off)
  | .fn (.func f) l m => some (.fn (.func f) l m)
  | .yld id => some (.yld id)
  | .slice a b c d => some (.slice a b c d)
  | .opn a b c d => some (.opn a b c d)
  | .iface t v => some (.iface t v)
  | .map id => some (.map id)
  | _ => none
def extractA (x : AV) (i : Nat) : Option AV :=
  match x with
  | .tup l => l[i]?
  | _ => none
def mkIfaceA (P : Program) (t : TypeId) (x : AV) : Option AV :=
  match P.underlying t with
  | some (.interface _) => none
  | some _ => some (.iface t x)
  | none => none
def lenA (P : Program) (t : TypeId) (x : AV) : Option AV :=
  match P.underlying t with
  | some .string => match x with
    | .str s => some (.int .i64 (.ofNat s.length))
    | _ => none
  | some (.array n _) => some (.int .i64 (.ofNat n))
  | some (.slice _) => match x with
    | .nils => some (.int .i64 0)
    | .slice _ _ n _ => some (.int .i64 (.ofNat n))
    | .opn _ _ n _ => some (.int .i64 (.ofNat n))
    | .gsl _ _ n _ => some (.int .i64 (.ofNat n))
    | _ => none
  | _ => none

def maxL (x : AV) (l : List AV) : Option AV :=
  match l with
  | [] => some x
  | y :: l => match x, y with
    | .int k a, .int _ b => maxL (.int k (match ltI a b with | true => b | false => a)) l
    | _, _ => none
def minL (x : AV) (l : List AV) : Option AV :=
  match l with
  | [] => some x
  | y :: l => match x, y with
    | .int k a, .int _ b => minL (.int k (match ltI b a with | true => b | false => a)) l
    | _, _ => none
def capA (P : Program) (t : TypeId) (x : AV) : Option AV :=
  match P.underlying t with
  | some (.array n _) => some (.int .i64 (.ofNat n))
  | some (.slice _) => match x with
    | .nils => some (.int .i64 0)
    | .slice _ _ _ n => some (.int .i64 (.ofNat n))
    | .gsl _ _ _ n => some (.int .i64 (.ofNat n))
    | _ => none
  | _ => none
/-- An interface value's type is looked at: a type that is no interface. -/
def typeAssertA (P : Program) (x : AV) (asserted : TypeId) (ok : Bool) : Option AV :=
  match P.underlying asserted with
  | some (.interface _) => none
  | some _ => match x with
    | .nili => match ok with
      | true => match zeroA P asserted with
        | some z => some (.tup [z, .bool false])
        | none => none
      | false => none
    | .iface t v => match Nat.beq t asserted with
      | true => match ok with
        | true => some (.tup [v, .bool true])
        | false => some v
      | false => match ok with
        | true => match zeroA P asserted with
          | some z => some (.tup [z, .bool false])
          | none => none
        | false => none
    | _ => none
  | none => none
/-- Is it an operation that touches no memory (0), that reads (1), that makes one block (2), or another (3)? -/
def cls (P : Program) (o : Op) : Nat :=
  match o with
  | .move _ | .assign _ | .pick .. | .nilCheck _ | .unOp .. | .fieldAddr .. | .field .. | .indexAddr .. | .index .. | .extract .. | .slice .. | .build .. | .makeInterface .. | .makeFunc .. | .typeAssert .. => 0
  | .binOp _ _ _ _ _ => 0
  | .convert src dst _ => match P.underlying src, P.underlying dst with
    | some (.slice _), _ => 1
    | some .string, some (.slice _) => 2
    | _, _ => 0
  | .load .. | .lookup .. | .entry _ => 1
  | .alloc _ | .box .. | .buildSlice .. | .makeMap .. | .makeSlice .. => 2
  | .call c => match c.callee with
    | .builtin .len => match (c.argTypes[0]?).bind P.underlying with
      | some (.map _ _) => 1
      | _ => 0
    | .builtin .cap | .builtin .min | .builtin .max => 0
    | _ => 3
  | .defer _ => 4
  | _ => 3
/-- An operation of class 0. -/
noncomputable def pureA (P : Program) (o : Op) (ρ : Operand → AV) : Option AV :=
  match o with
  | .move x => some (ρ x)
  | .assign x => some (ρ x)
  | .pick c a b => pickA (ρ c) (ρ a) (ρ b)
  | .binOp op t x y _ => binA P op t x y (ρ x) (ρ y)
  | .unOp op _ x => unA op (ρ x)
  | .convert src dst x => convA P src dst (ρ x)
  | .nilCheck x => nilCheckA (ρ x)
  | .fieldAddr s x f => fieldAddrA P s (ρ x) f
  | .field t x f => fieldA P t (ρ x) f
  | .indexAddr t x i => indexAddrA P t (ρ x) (ρ i)
  | .index t x i => indexA P t (ρ x) (ρ i)
  | .slice t x lo hi mx => sliceA P t (ρ x) (lo.map ρ) (hi.map ρ) (mx.map ρ)
  | .extract x i => extractA (ρ x) i
  | .build t ps => buildA P t (ps.toList.map fun p => (p.1, ρ p.2))
  | .makeInterface t x => mkIfaceA P t (ρ x)
  | .makeFunc fn first captured => match fn with
    | .yield _ => none
    | fn => some (.fn fn (first.toList.map ρ) (captured.toList.map ρ))
  | .typeAssert x _ asserted ok => typeAssertA P (ρ x) asserted ok
  | .call c => match c.callee with
    | .builtin .len => match c.argTypes[0]?, c.args[0]? with
      | some t, some x => lenA P t (ρ x)
      | _, _ => none
    | .builtin .max => match c.args.toList.map ρ with
      | x :: l => maxL x l
      | [] => none
    | .builtin .min => match c.args.toList.map ρ with
      | x :: l => minL x l
      | [] => none
    | .builtin .cap => match c.argTypes[0]?, c.args[0]? with
      | some t, some x => capA P t (ρ x)
      | _, _ => none
    | _ => none
  | _ => none
end Go.Proofs.YtaadkdmbhckdeaaDoor.AX
