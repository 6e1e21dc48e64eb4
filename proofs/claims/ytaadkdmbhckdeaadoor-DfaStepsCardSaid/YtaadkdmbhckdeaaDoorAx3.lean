/- AX, part 3: memory, calls, regions, code. -/
import Derived.Test.YtaadkdmbhckdeaaDoorAx2
namespace Go.Proofs.YtaadkdmbhckdeaaDoor.AX

/-- A panic under way. -/
structure APan where
  v : AV
  recovered : Bool

/-- What a call comes to. -/
inductive Res where
  | fail (why : Option String)
  | done (v : AV) (hp : Hp) (nx : Nat)
  | pan (c : List APan) (hp : Hp) (nx : Nat)

/-- What is called: a function, or a round of a range over a function. -/
inductive Tgt where
  | fn (f : FuncId)
  | dfd (f : FuncId)
  | rnd (l : Nat)

/-- What a frame has deferred: the mark of a range over a function; a call. -/
inductive ADef where
  | mark (r : Nat)
  | call (f : AV) (args : List AV)

abbrev CallF := Tgt → List AV → Hp → Nat → Res
abbrev KN := Fr → List ADef → Hp → Nat → Res

/-- The fixed things: the program, and what package-level variables hold. -/
structure Ctx where
  P : Program
  gl : T Cells
  ext : T Nat := .leaf
  orc : T (List AV → Hp → Nat → Option (AV × Hp × Nat)) := .leaf
  dfd : T (List AV → Hp → Nat → Option (AV × Hp × Nat)) := .leaf
  rd : Bool := false

noncomputable def readN (c : Cells) (off : Nat) (n : Nat) : Option (List AV) :=
  Nat.rec (motive := fun _ => Nat → Option (List AV)) (fun _ => some []) (fun _ ih off => match c.get off with
    | some v => match ih (Nat.succ off) with
      | some l => some (v :: l)
      | none => none
    | none => none) n off
noncomputable def writeL (c : Cells) (off : Nat) (l : List AV) : Cells :=
  List.rec (motive := fun _ => Cells → Nat → Cells) (fun c _ => c) (fun v _ ih c off => ih (c.set off v) (Nat.succ off)) l c off
noncomputable def ofL (l : List AV) : Cells := writeL .leaf 0 l
/-- A frame whose first slots are set. -/
noncomputable def frW (fr : Fr) (off : Nat) (l : List AV) : Fr :=
  List.rec (motive := fun _ => Fr → Nat → Fr) (fun c _ => c) (fun v _ ih c off => ih (c.set off v) (Nat.succ off)) l fr off
noncomputable def frL (l : List AV) : Fr := frW .leaf 0 l

/-- The cells that a variable of type t takes, of a value. -/
def varCells (P : Program) (t : TypeId) (v : AV) : Option (List AV) :=
  match isAggT P t with
  | some true => match v with
    | .agg l => match sizeT P t with
      | some n => match Nat.beq l.length n with
        | true => some l
        | false => none
      | none => none
    | _ => none
  | some false => match v with
    | .bad => none
    | .agg _ => none
    | .tup _ => none
    | v => match sizeT P t with
      | some 1 => some [v]
      | _ => none
  | none => none

/- FORCING: what is kept is kept worked out. -/
def forceN {β : Type} (n : Nat) (k : Nat → β) : β := k n
def forceI {β : Type} (n : Int) (k : Int → β) : β := k n
def forceB {β : Type} (b : Bool) (k : Bool → β) : β := k b
def forceLN {β : Type} (l : List Nat) (k : List Nat → β) : β := k l
def forceV {β : Type} (v : AV) (k : AV → β) : β := k v

/- MAPS whose keys are numbers, strings or bools. -/
def keyD (d : TypeDesc) : Bool :=
  match d with
  | .int _ => true
  | .string => true
  | .bool => true
  | _ => false
/-- Two keys, told apart at once. 'none': not known. -/
def keyEq (d : TypeDesc) (a b : AV) : Option Bool :=
  match d with
  | .int _ => match a, b with
    | .int k x, .int k' y => match kindEq k k' with
      | true => some (eqI x y)
      | false => none
    | _, _ => none
  | .string => match a, b with
    | .str x, .str y => some (eqB x y)
    | _, _ => none
  | .bool => match a, b with
    | .bool x, .bool y => some (x == y)
    | _, _ => none
  | _ => none
noncomputable def findA (d : TypeDesc) (k : AV) (es : List (AV × AV)) : Option (Option AV) :=
  List.rec (motive := fun _ => Option (Option AV)) (some none)
    (fun e _ ih => Option.rec none (fun b => Bool.rec ih (some (some e.2)) b) (keyEq d k e.1)) es
noncomputable def updA (d : TypeDesc) (k v : AV) (es : List (AV × AV)) : (Bool → List (AV × AV) → Res) → Res :=
  List.rec (motive := fun _ => (Bool → List (AV × AV) → Res) → Res) (fun g => g true [(k, v)])
    (fun e l ih g => Option.rec (.fail none) (fun b => Bool.rec (ih fun n l' => g n (e :: l')) (g false ((k, v) :: l)) b) (keyEq d k e.1)) es
def numOf (v : AV) : Option Int :=
  match v with
  | .int .i64 n => some n
  | _ => none
noncomputable def numsOf (l : List AV) : Option (List Int) :=
  List.rec (some []) (fun v _ ih => match numOf v, ih with
    | some n, some r => some (n :: r)
    | _, _ => none) l
/-- Types all of whose cells are ints: how many. -/
def flatFs (f sz : TypeId → Option Nat) : List Field → Nat → Option Nat
  | [], off => some off
  | x :: l, off => match x.name == "_", Nat.beq x.offset off, f x.type, sz x.type with
    | false, true, some k, some k' => match Nat.beq k k' with
      | true => flatFs f sz l (off + k)
      | false => none
    | _, _, _, _ => none
def flatI (P : Program) : Nat → TypeId → Option Nat
  | 0, _ => none
  | d + 1, t => match P.underlying t with
    | some (.int .i64) => match sizeT P t with
      | some 1 => some 1
      | _ => none
    | some (.array len e) => match flatI P d e, sizeT P e with
      | some k, some k' => match Nat.beq k k' with
        | true => some (len * k)
        | false => none
      | _, _ => none
    | some (.struct fs) => match P.stoodInHeld t with
      | false => flatFs (flatI P d) (sizeT P) fs.toList 0
      | true => none
    | _ => none
noncomputable def eqL (l : List Int) : List Int → Bool :=
  List.rec (motive := fun _ => List Int → Bool) (fun m => List.rec true (fun _ _ _ => false) m) (fun a _ ih m => List.rec false (fun b m' _ => Bool.rec false (ih m') (eqI a b)) m) l
/-- A key of n ints. -/
noncomputable def keyX (n : Nat) (a : AV) : Option (List Int) :=
  match a with
  | .agg l => match numsOf l with
    | some x => match Nat.beq x.length n with
      | true => some x
      | false => none
    | none => none
  | _ => none
noncomputable def findX (n : Nat) (x : List Int) (es : List (AV × AV)) : Option (Option AV) :=
  List.rec (motive := fun _ => Option (Option AV)) (some none)
    (fun e _ ih => Option.rec none (fun y => Bool.rec ih (some (some e.2)) (eqL x y)) (keyX n e.1)) es
noncomputable def findF (n : Nat) (k : AV) (es : List (AV × AV)) : Option (Option AV) :=
  match keyX n k with
  | some x => findX n x es
  | none => none
/-- The kind of a map's keys: of one cell; or of so many ints. -/
inductive KKind where
  | one (d : TypeDesc)
  | flat (n : Nat)
  | no
def kkind (P : Program) (kt : TypeId) : KKind :=
  match P.underlying kt with
  | some d => match keyD d with
    | true => .one d
    | false => match isAggT P kt, flatI P 10 kt with
      | some true, some n => .flat n
      | _, _ => .no
  | none => .no
noncomputable def entsA (x : AV) (hp : Hp) : Option (List (AV × AV)) :=
  match x with
  | .nilm => some []
  | .map id => match hp.get id with
    | some (.map es _ _) => some es
    | _ => none
  | _ => none
def okA (ok : Bool) (v : AV) (b : Bool) : AV :=
  match ok with
  | true => .tup [v, .bool b]
  | false => v
noncomputable def lookupA (P : Program) (t : TypeId) (x k : AV) (ok : Bool) (hp : Hp) : Option AV :=
  match P.underlying t with
  | some (.map kt e) => match kkind P kt, entsA x hp with
    | .one d, some es => match findA d k es with
      | some (some v) => some (okA ok v true)
      | some none => match zeroA P e with
        | some z => some (okA ok z false)
        | none => none
      | _ => none
    | .flat n, some es => match findF n k es with
      | some (some v) => some (okA ok v true)
      | some none => match zeroA P e with
        | some z => some (okA ok z false)
        | none => none
      | _ => none
    | _, _ => none
  | _ => none
noncomputable def mapUpdateA (P : Program) (t : TypeId) (m k v : AV) (hp : Hp) (nx : Nat) : Res :=
  match P.underlying t with
  | some (.map kt _) => match kkind P kt, m with
    | .one d, .map id => match hp.get id with
      | some (.map es bs clk) => forceV k fun k => forceV v fun v => updA d k v es fun n es' => .done (.tup []) (hp.set id (.map es' (Bool.rec bs (bs ++ [clk]) n) (Bool.rec clk (Nat.succ clk) n))) nx
      | _ => .fail none
    | .flat n, .map id => match hp.get id with
      | some (.map es bs clk) => match findF n k es with
        | some none => .done (.tup []) (hp.set id (.map (es ++ [(k, v)]) (bs ++ [clk]) (Nat.succ clk))) nx
        | _ => .fail none
      | _ => .fail none
    | _, _ => .fail none
  | _ => .fail none

/-- The beginning of a range over a map. -/
noncomputable def rangeA (P : Program) (t : TypeId) (x : AV) (hp : Hp) (nx : Nat) : Res :=
  match P.underlying t with
  | some (.map _ _) => match x with
    | .nilm => .done (.ptr nx 0) (hp.set nx (.mapIter none 0 [] 0)) (Nat.succ nx)
    | .map id => match hp.get id with
      | some (.map _ _ clk) => .done (.ptr nx 0) (hp.set nx (.mapIter (some id) clk [] clk)) (Nat.succ nx)
      | _ => .fail none
    | _ => .fail none
  | _ => .fail none
/-- Which entries may come next: those that were there at the beginning, and newer ones. -/
def leftA (seen : List Nat) : List (AV × AV) → List Nat → List ((AV × AV) × Nat)
  | e :: es, b :: bs => match seen.contains b with
    | true => leftA seen es bs
    | false => (e, b) :: leftA seen es bs
  | _, _ => []
/-- The next entry of a range over a map, where there is no choice. -/
noncomputable def nextA (it : AV) (hp : Hp) (nx : Nat) : Res :=
  match it with
  | .ptr id 0 => match hp.get id with
    | some (.mapIter none _ _ _) => .done (.tup [.bool false]) hp nx
    | some (.mapIter (some m) since seen last) => match hp.get m with
      | some (.map es bs clk) => match bs.all (fun b => Nat.ble (Nat.succ b) since) && Nat.ble since last with
        | false => .fail none
        | true => match leftA seen es bs with
          | [] => .done (.tup [.bool false]) hp nx
          | [(e, b)] => .done (.tup [.bool true, e.1, e.2]) (hp.set id (.mapIter (some m) since (seen ++ [b]) clk)) nx
          | _ => .fail none
      | _ => .fail none
    | _ => .fail none
  | _ => .fail none

def findB (b : Nat) : List (AV × AV) → List Nat → Option (AV × AV)
  | e :: es, c :: bs => match Nat.beq c b with
    | true => some e
    | false => findB b es bs
  | _, _ => none
def lastN : List Nat → Option Nat
  | [] => none
  | [b] => some b
  | _ :: l => lastN l
/-- The entry that a range over a map has come to. -/
noncomputable def entryA (it : AV) (hp : Hp) : Option AV :=
  match it with
  | .ptr id 0 => match hp.get id with
    | some (.mapIter (some m) _ seen last) => match hp.get m, lastN seen with
      | some (.map es bs clk), some b => match Nat.beq clk last, findB b es bs with
        | true, some e => some (.tup [e.1, e.2])
        | _, _ => none
      | _, _ => none
    | _ => none
  | _ => none

noncomputable def loadCells (P : Program) (t : TypeId) (c : Cells) (n off : Nat) : Option AV :=
  match isAggT P t with
  | some false => match Nat.ble (Nat.succ off) n with
    | true => c.get off
    | false => none
  | some true => match sizeT P t with
    | some z => match Nat.ble (Nat.add off z) n with
      | true => match readN c off z with
        | some l => some (.agg l)
        | none => none
      | false => none
    | none => none
  | none => none
noncomputable def loadA (C : Ctx) (t : TypeId) (x : AV) (hp : Hp) : Option AV :=
  match x with
  | .ptr id off => match hp.get id with
    | some (.cells c n _) => loadCells C.P t c n off
    | _ => none
  | .gptr g off => match C.gl.get g with
    | some c => match isAggT C.P t with
      | some false => c.get off
      | some true => match sizeT C.P t with
        | some z => match readN c off z with
          | some l => some (.agg l)
          | none => none
        | none => none
      | none => none
    | none => none
  | _ => none
/-- The first n elements (of z cells) of a slice, or a string's bytes. -/
noncomputable def elemsA (z : Nat) (n : Nat) (x : AV) (hp : Hp) : Option (List AV) :=
  match x with
  | .nils => some []
  | .slice id off _ _ => match hp.get id with
    | some (.cells c m _) => match Nat.ble (Nat.add off (Nat.mul n z)) m with
      | true => readN c off (Nat.mul n z)
      | false => none
    | _ => none
  | .opn id off _ _ => match hp.get id with
    | some (.cells c m _) => match Nat.ble (Nat.add off (Nat.mul n z)) m with
      | true => readN c off (Nat.mul n z)
      | false => none
    | _ => none
  | .str s => some ((s.take n).map fun b => .int .u8 (.ofNat b))
  | _ => none
def lenOfA (x : AV) : Option Nat :=
  match x with
  | .nils => some 0
  | .slice _ _ n _ => some n
  | .opn _ _ n _ => some n
  | .str s => some s.length
  | _ => none
def sliceLen (x : AV) : Option Nat :=
  match x with
  | .nils => some 0
  | .slice _ _ n _ => some n
  | .opn _ _ n _ => some n
  | _ => none
def byteOf (v : AV) : Option Nat :=
  match v with
  | .int .u8 (.ofNat n) => match Nat.ble n 255 with
    | true => some n
    | false => none
  | _ => none
def bytesA : List AV → Option (List Nat)
  | [] => some []
  | v :: l => match byteOf v, bytesA l with
    | some b, some r => some (b :: r)
    | _, _ => none
/-- An operation of class 1. -/
noncomputable def readA (C : Ctx) (o : Op) (ρ : Operand → AV) (hp : Hp) : Option AV :=
  match o with
  | .load t x => loadA C t (ρ x) hp
  | .convert src dst x => match C.P.underlying src, C.P.underlying dst with
    | some (.slice e), some .string => match C.P.underlying e with
      | some (.int .u8) => match sliceLen (ρ x) with
        | some n => match elemsA 1 n (ρ x) hp with
          | some l => match bytesA l with
            | some s => some (.str s)
            | none => none
          | none => none
        | none => none
      | _ => none
    | _, _ => none
  | .lookup t x k ok => lookupA C.P t (ρ x) (ρ k) ok hp
  | .entry it => entryA (ρ it) hp
  | .call c => match c.callee with
    | .builtin .len => match c.argTypes[0]?, c.args[0]? with
      | some t, some x => match C.P.underlying t, entsA (ρ x) hp with
        | some (.map _ _), some es => some (.int .i64 (.ofNat es.length))
        | _, _ => none
      | _, _ => none
    | _ => none
  | _ => none

def rep (z : List AV) : Nat → List AV
  | 0 => []
  | n + 1 => z ++ rep z n
/-- An operation of class 2: the block, and the value, by the block's number. -/
noncomputable def allocA (C : Ctx) (o : Op) (ρ : Operand → AV) : Option (Blk × (Nat → AV)) :=
  match o with
  | .alloc t => match zeroA C.P t with
    | some v => match cellsA v with
      | some l => some (.cells (ofL l) l.length (.whole t), fun id => .ptr id 0)
      | none => none
    | none => none
  | .box t x => match varCells C.P t (ρ x) with
    | some l => some (.cells (ofL l) l.length (.whole t), fun id => .ptr id 0)
    | none => none
  | .buildSlice t len ps => match C.P.underlying t with
    | some (.slice e) => match sizeT C.P e, zeroA C.P e with
      | some n, some v => match cellsA v with
        | some z => match Nat.beq z.length n, Nat.ble (len * n) 1000000, fillA (fun i => some (i * n, n)) (rep z len) (ps.toList.map fun p => (p.1, ρ p.2)) with
          | true, true, some cs => some (.cells (ofL cs) (len * n) (.ty e), fun id => .slice id 0 len len)
          | _, _, _ => none
        | none => none
      | _, _ => none
    | _ => none
  | .makeSlice t l c => match C.P.underlying t with
    | some (.slice e) => match C.P.info? e, zeroA C.P e with
      | some i, some v => match cellsA v, ρ l, ρ c with
        | some z, .int _ (.ofNat l), .int _ (.ofNat c) => match Nat.beq z.length i.size, Nat.ble l c, Nat.ble c 1000000, Nat.ble (i.bytes * c) 281474976710656 with
          | true, true, true, true => some (.cells (ofL (rep z c)) (c * i.size) (.ty e), fun id => .slice id 0 l c)
          | _, _, _, _ => none
        | _, _, _ => none
      | _, _ => none
    | _ => none
  | .convert src dst x => match C.P.underlying src, C.P.underlying dst with
    | some .string, some (.slice e) => match C.P.underlying e with
      | some (.int .u8) => match ρ x with
        | .str s => some (.cells (ofL (s.map fun b => .int .u8 (.ofNat b))) s.length .no, fun id => .opn id 0 s.length 1)
        | _ => none
      | _ => none
    | _, _ => none
  | .makeMap t r => match r with
    | none => some (.map [] [] 0, fun id => .map id)
    | some r => match C.P.underlying t, ρ r with
      | some (.map _ _), .int _ _ => some (.map [] [] 0, fun id => .map id)
      | _, _ => none
  | _ => none

def atomB (v : AV) : Bool :=
  match v with
  | .agg _ => false
  | .tup _ => false
  | .bad => false
  | _ => true
def atomsB : List AV → Bool
  | [] => true
  | v :: l => match atomB v with
    | true => atomsB l
    | false => false
noncomputable def storeA (C : Ctx) (t : TypeId) (x v : AV) (hp : Hp) (nx : Nat) : Res :=
  match x with
  | .ptr id off => match hp.get id with
    | some (.cells c n cl) => match varCells C.P t v with
      | some l => match Nat.ble (Nat.add off l.length) n, atomsB l with
        | true, true => .done (.tup []) (hp.set id (.cells (writeL c off l) n cl)) nx
        | _, _ => .fail none
      | none => .fail none
    | _ => .fail none
  | _ => .fail none

/-- The element type's zero value has so many cells. -/
def zeroOk (P : Program) (e : TypeId) (z : Nat) : Bool :=
  match zeroA P e with
  | some v => match cellsA v with
    | some l => Nat.beq l.length z
    | none => false
  | none => false
/-- May a slice grow to so many elements? -/
def roomOk (bytes need : Nat) : Bool :=
  match Nat.ble need 1000000000000 with
  | true => Nat.ble (Nat.mul (Nat.add (Nat.mul need 2) 1000) bytes) 140737488355328
  | false => false
/-- 'append' where it must grow: the cells are at hand. -/
noncomputable def growA (e z bytes need : Nat) (old new : List AV) (hp : Hp) (nx : Nat) : Res :=
  match roomOk bytes need with
  | true => .done (.opn nx 0 need z) (hp.set nx (.cells (ofL (old ++ new)) (Nat.mul need z) (.ty e))) (Nat.succ nx)
  | false => .fail none
/-- 'append' to a slice whose capacity is not known: the old name goes. -/
noncomputable def opnA (e id off len z bytes n : Nat) (new : List AV) (hp : Hp) (nx : Nat) : Res :=
  match hp.get id with
  | some (.cells c m cl) => match Nat.ble (Nat.add off (Nat.mul len z)) m, roomOk bytes (Nat.add len n), atomsB new with
    | true, true, true => match off with
      | 0 => .done (.opn nx 0 (Nat.add len n) z) ((hp.put id none).set nx (.cells (writeL c (Nat.mul len z) new) (Nat.mul (Nat.add len n) z) (cl.row e))) (Nat.succ nx)
      | off + 1 => match readN c (off + 1) (Nat.mul len z) with
        | some old => .done (.opn nx 0 (Nat.add len n) z) ((hp.put id none).set nx (.cells (ofL (old ++ new)) (Nat.mul (Nat.add len n) z) .no)) (Nat.succ nx)
        | none => .fail none
    | _, _, _ => .fail none
  | _ => .fail none
noncomputable def sliceAppA (e id off len cap z bytes n : Nat) (new : List AV) (hp : Hp) (nx : Nat) : Res :=
  match Nat.ble (Nat.add len n) cap with
  | true => match hp.get id with
    | some (.cells c m cl) => match Nat.ble (Nat.add off (Nat.mul (Nat.add len n) z)) m, atomsB new with
      | true, true => .done (.slice id off (Nat.add len n) cap) (hp.set id (.cells (writeL c (Nat.add off (Nat.mul len z)) new) m cl)) nx
      | _, _ => .fail none
    | _ => .fail none
  | false => match elemsA z len (.slice id off len cap) hp with
    | some old => growA e z bytes (Nat.add len n) old new hp nx
    | none => .fail none
noncomputable def appendA (C : Ctx) (ts : Array TypeId) (s x : AV) (hp : Hp) (nx : Nat) : Res :=
  match ts[0]?, ts[1]? with
  | some t, some t' => match C.P.underlying t, C.P.underlying t' with
    | some (.slice e), some (.int _) => match C.P.info? e, x with
      | some i, .int _ (.ofNat (n + 1)) => match s, zeroA C.P e with
        | .nils, some zv => match cellsA zv with
          | some zs => match zeroOk C.P e i.size, i.size, Nat.beq zs.length i.size with
            | true, _ + 1, true => growA e i.size i.bytes (n + 1) [] (rep zs (n + 1)) hp nx
            | _, _, _ => .fail none
          | none => .fail none
        | _, _ => .fail none
      | _, _ => .fail none
    | some (.slice e), some _ => match C.P.info? e, lenOfA x with
      | some i, some n => match elemsA i.size n x hp with
        | some new => match Nat.beq new.length (Nat.mul n i.size), zeroOk C.P e i.size, i.size with
          | true, true, _ + 1 => match n with
            | 0 => match s with
              | .nils => .done .nils hp nx
              | .slice id off len cap => .done (.slice id off len cap) hp nx
              | .opn id off len z => .done (.opn id off len z) hp nx
              | _ => .fail none
            | _ + 1 => match s with
              | .nils => growA e i.size i.bytes n [] new hp nx
              | .slice id off len cap => sliceAppA e id off len cap i.size i.bytes n new hp nx
              | .opn id off len z => match Nat.beq z i.size with
                | true => opnA e id off len z i.bytes n new hp nx
                | false => .fail none
              | _ => .fail none
          | _, _, _ => .fail none
        | none => .fail none
      | _, _ => .fail none
    | _, _ => .fail none
  | _, _ => .fail none
noncomputable def copyA (C : Ctx) (ts : Array TypeId) (d s : AV) (hp : Hp) (nx : Nat) : Res :=
  match ts[0]? with
  | some t => match C.P.underlying t with
    | some (.slice e) => match sizeT C.P e, lenOfA s with
      | some z, some n => match d with
        | .nils => match elemsA z 0 s hp with
          | some _ => .done (.int .i64 0) hp nx
          | none => .fail none
        | .slice id off len _ => match elemsA z (Nat.min n len) s hp, hp.get id with
          | some l, some (.cells c m cl) => match (Nat.ble (Nat.add off (Nat.mul (Nat.min n len) z)) m && atomsB l && Nat.beq l.length (Nat.mul (Nat.min n len) z)) with
            | true => .done (.int .i64 (.ofNat (Nat.min n len))) (hp.set id (.cells (writeL c off l) m cl)) nx
            | false => .fail none
          | _, _ => .fail none
        | .opn id off len _ => match elemsA z (Nat.min n len) s hp, hp.get id with
          | some l, some (.cells c m cl) => match (Nat.ble (Nat.add off (Nat.mul (Nat.min n len) z)) m && atomsB l && Nat.beq l.length (Nat.mul (Nat.min n len) z)) with
            | true => .done (.int .i64 (.ofNat (Nat.min n len))) (hp.set id (.cells (writeL c off l) m cl)) nx
            | false => .fail none
          | _, _ => .fail none
        | _ => .fail none
      | _, _ => .fail none
    | _ => .fail none
  | none => .fail none
/-- Without the entry of that key. -/
def delE (d : TypeDesc) (k : AV) : List (AV × AV) → List Nat → Option (List (AV × AV) × List Nat)
  | [], bs => some ([], bs)
  | e :: es, b :: bs => match keyEq d k e.1 with
    | some true => some (es, bs)
    | some false => match delE d k es bs with
      | some (es', bs') => some (e :: es', b :: bs')
      | none => none
    | none => none
  | _ :: _, [] => none
noncomputable def deleteA (C : Ctx) (ts : Array TypeId) (m k : AV) (hp : Hp) (nx : Nat) : Res :=
  match ts[0]? with
  | some t => match C.P.underlying t with
    | some (.map kt _) => match kkind C.P kt, m with
      | .one d, .map id => match hp.get id with
        | some (.map es bs clk) => match delE d k es bs with
          | some (es', bs') => .done (.tup []) (hp.set id (.map es' bs' clk)) nx
          | none => .fail none
        | _ => .fail none
      | _, _ => .fail none
    | _ => .fail none
  | none => .fail none
noncomputable def clearA (C : Ctx) (ts : Array TypeId) (x : AV) (hp : Hp) (nx : Nat) : Res :=
  match ts[0]? with
  | some t => match C.P.underlying t with
    | some (.slice e) => match sizeT C.P e, zeroA C.P e with
      | some z, some zv => match cellsA zv with
        | some zs => match x with
          | .nils => .done (.tup []) hp nx
          | .slice id off len _ => match hp.get id with
            | some (.cells c m cl) => match (Nat.ble (Nat.add off (Nat.mul len z)) m && atomsB (rep zs len) && Nat.beq zs.length z) with
              | true => .done (.tup []) (hp.set id (.cells (writeL c off (rep zs len)) m cl)) nx
              | false => .fail none
            | _ => .fail none
          | .opn id off len _ => match hp.get id with
            | some (.cells c m cl) => match (Nat.ble (Nat.add off (Nat.mul len z)) m && atomsB (rep zs len) && Nat.beq zs.length z) with
              | true => .done (.tup []) (hp.set id (.cells (writeL c off (rep zs len)) m cl)) nx
              | false => .fail none
            | _ => .fail none
          | _ => .fail none
        | none => .fail none
      | _, _ => .fail none
    | _ => .fail none
  | none => .fail none
/-- unsafe.SliceData. -/
def dataA (x : AV) (hp : Hp) (nx : Nat) : Res :=
  match x with
  | .nils => .done .nilp hp nx
  | .slice id off (_ + 1) _ => .done (.ptr id off) hp nx
  | .opn id off (_ + 1) _ => .done (.ptr id off) hp nx
  | _ => .fail none
/-- unsafe.String of the head of a row of bytes: the row is let go. -/
noncomputable def ustrA (C : Ctx) (ts : Array TypeId) (p n : AV) (hp : Hp) (nx : Nat) : Res :=
  match n with
  | .int .i64 (.ofNat 0) => match p, ts[0]? with
    | .nilp, some _ => .done (.str []) hp nx
    | .ptr _ _, some _ => .done (.str []) hp nx
    | _, _ => .fail none
  | .int .i64 (.ofNat (n + 1)) => match p, (ts[0]?).bind C.P.underlying with
    | .ptr id 0, some (.pointer e) => match hp.get id with
      | some (.cells c m (.ty t)) => match Nat.beq t e && Nat.beq (C.P.cellsOf e) 1 && Nat.ble (n + 1) m && Nat.ble (n + 1) 1000000000, readN c 0 (n + 1) with
        | true, some l => match bytesA l with
          | some s => .done (.str s) (hp.put id none) nx
          | none => .fail none
        | _, _ => .fail none
      | _ => .fail none
    | _, _ => .fail none
  | _ => .fail none
/-- A function without a body, of a known kind. -/
def extA (k : Nat) (args : List AV) : Option AV :=
  match k with
  | 0 => match args with
    | [.str a, .str b] => some (.int .i64 (cmpB a b))
    | _ => none
  | _ => none
noncomputable def callVal (ext : T Nat) (cl : CallF) (f : AV) (args : List AV) (hp : Hp) (nx : Nat) : Res :=
  match f with
  | .fn (.func g) first captured => match ext.get g with
    | none => cl (.fn g) (first ++ args ++ captured) hp nx
    | some k => match extA k (first ++ args ++ captured) with
      | some v => .done v hp nx
      | none => .fail none
  | .yld id => cl (.rnd id) args hp nx
  | _ => .fail none
/-- Which function a method of a type is; of a value that holds its receiver. -/
def methodA (P : Program) (t : TypeId) (name : String) : Option FuncId :=
  match P.info? t with
  | some i => match i.methods.find? (·.name == name) with
    | some m => match m.path.isEmpty, m.func with
      | true, some (f, ptr) => match P.underlying t with
        | some (.pointer _) => match ptr with
          | true => some f
          | false => none
        | some _ => match ptr with
          | true => none
          | false => some f
        | none => none
      | _, _ => none
    | none => none
  | none => none
noncomputable def invokeA (C : Ctx) (cl : CallF) (recv : AV) (name : String) (args : List AV) (hp : Hp) (nx : Nat) : Res :=
  match recv with
  | .iface t v => match methodA C.P t name with
    | some f => cl (.fn f) (v :: args) hp nx
    | none => .fail none
  | _ => .fail none
/-- A function's value alone is called. -/
noncomputable def callFn (cl : CallF) (f : AV) (args : List AV) (hp : Hp) (nx : Nat) : Res :=
  match f with
  | .fn (.func g) first captured => cl (.fn g) (first ++ args ++ captured) hp nx
  | _ => .fail none
/-- An operation of class 3, but 'defer'. -/
noncomputable def wA (C : Ctx) (cl : CallF) (o : Op) (ρ : Operand → AV) (hp : Hp) (nx : Nat) : Res :=
  match o with
  | .store t x v => storeA C t (ρ x) (ρ v) hp nx
  | .mapUpdate t m k v => mapUpdateA C.P t (ρ m) (ρ k) (ρ v) hp nx
  | .insert t m k v => mapUpdateA C.P t (ρ m) (ρ k) (ρ v) hp nx
  | .range t x => rangeA C.P t (ρ x) hp nx
  | .next it str => match str with
    | false => nextA (ρ it) hp nx
    | true => .fail none
  | .call c => match c.callee with
    | .value f => callVal C.ext cl (ρ f) (c.args.toList.map ρ) hp nx
    | .builtin .append => match c.args[0]?, c.args[1]? with
      | some s, some x => appendA C c.argTypes (ρ s) (ρ x) hp nx
      | _, _ => .fail none
    | .builtin .copy => match c.args[0]?, c.args[1]? with
      | some d, some s => copyA C c.argTypes (ρ d) (ρ s) hp nx
      | _, _ => .fail none
    | .builtin .delete => match c.args[0]?, c.args[1]? with
      | some m, some k => deleteA C c.argTypes (ρ m) (ρ k) hp nx
      | _, _ => .fail none
    | .builtin .unsafeSliceData => match c.args.toList with
      | [x] => dataA (ρ x) hp nx
      | _ => .fail none
    | .builtin .unsafeString => match c.args.toList with
      | [x, y] => ustrA C c.argTypes (ρ x) (ρ y) hp nx
      | _ => .fail none
    | .builtin .clear => match c.args[0]? with
      | some x => clearA C c.argTypes (ρ x) hp nx
      | none => .fail none
    | .invoke recv name => invokeA C cl (ρ recv) name (c.args.toList.map ρ) hp nx
    | _ => .fail none
  | _ => .fail none

noncomputable def opd (fr : Fr) (o : Operand) : AV :=
  match o with
  | .tmp t => match fr.get t with
    | some v => v
    | none => .bad
  | .const v => ofVal v
  | .global g => .gptr g 0
  | .func f => .fn (.func f) [] []

/-- A 'defer' of a function's value. -/
noncomputable def deferA (C : Ctx) (o : Op) (ρ : Operand → AV) : Option ADef :=
  match o with
  | .defer c => match c.callee, C.rd with
    | .value f, false => match ρ f with
      | .fn (.func g) l m => some (.call (.fn (.func g) l m) (c.args.toList.map ρ))
      | _ => none
    | _, _ => none
  | _ => none

noncomputable def wantedA (ops : Array Oper) (fr : Fr) (o : Oper) : Option Bool :=
  match o.guard with
  | none => some true
  | some (j, w) => match (ops[j]?).bind (·.dst) with
    | some d => match fr.get d with
      | some (.bool b) => some (b == w)
      | some (.tup _) => some false
      | _ => none
    | none => none
noncomputable def putK (sz : Nat) (d : Option Tmp) (v : AV) (fr : Fr) (k : Fr → Res) : Res :=
  match d with
  | none => k fr
  | some t => match Nat.ble (Nat.succ t) sz with
    | true => forceV v fun v => k (fr.set t v)
    | false => .fail none

/-- One operation. -/
noncomputable def opK (C : Ctx) (cl : CallF) (sz : Nat) (all : Array Oper) (o : Oper) (fr : Fr) (ds : List ADef) (hp : Hp) (nx : Nat) (kn : KN) (kp : List APan → KN) : Res :=
  match wantedA all fr o with
  | none => .fail (some o.pos)
  | some false => putK sz o.dst (.tup []) fr fun fr => kn fr ds hp nx
  | some true => match cls C.P o.op with
    | 0 => match pureA C.P o.op (opd fr) with
      | some v => putK sz o.dst v fr fun fr => kn fr ds hp nx
      | none => .fail (some o.pos)
    | 1 => match readA C o.op (opd fr) hp with
      | some v => putK sz o.dst v fr fun fr => kn fr ds hp nx
      | none => .fail (some o.pos)
    | 2 => match allocA C o.op (opd fr) with
      | some (b, mk) => putK sz o.dst (mk nx) fr fun fr => forceN nx fun nx => kn fr ds (hp.set nx b) (Nat.succ nx)
      | none => .fail (some o.pos)
    | 4 => match deferA C o.op (opd fr) with
      | some d => putK sz o.dst (.tup []) fr fun fr => kn fr (d :: ds) hp nx
      | none => .fail (some o.pos)
    | _ => match wA C cl o.op (opd fr) hp nx with
      | .done v hp nx => putK sz o.dst v fr fun fr => kn fr ds hp nx
      | .pan c hp nx => kp c fr ds hp nx
      | .fail (some s) => .fail (some s)
      | .fail none => .fail (some o.pos)
noncomputable def opsK (C : Ctx) (cl : CallF) (sz : Nat) (all : Array Oper) (l : List Oper) (kn : KN) (kp : List APan → KN) : KN :=
  List.rec (motive := fun _ => KN) kn (fun o _ ih fr ds hp nx => opK C cl sz all o fr ds hp nx ih kp) l

/- A REGION THAT DRAWS ITS ORDER: run in the text's order, and held against every other. -/
/-- Which operations come before each by the edges, as bits. -/
noncomputable def befOf (m : T Nat) (es : List Edge) (acc : Nat) : Option Nat :=
  match es with
  | [] => some acc
  | e :: r => match Region.binds .any e with
    | true => match T.get m e.on with
      | some b => befOf m r (Nat.lor (Nat.lor acc b) (Nat.pow 2 e.on))
      | none => none
    | false => befOf m r acc
noncomputable def befs : List Oper → Nat → T Nat → Option (T Nat)
  | [], _, m => some m
  | o :: r, i, m => match befOf m o.after.toList 0 with
    | some b => befs r (i + 1) (m.set i b)
    | none => none
def isTmp (t : Nat) : Operand → Bool
  | .tmp u => Nat.beq u t
  | _ => false
/-- Does the operation look at slot t? -/
def looks (all : Array Oper) (o : Oper) (t : Nat) : Bool :=
  o.op.operands.toList.any (isTmp t) || match o.guard with
    | some (g, _) => match (all[g]?).bind (·.dst) with
      | some d => Nat.beq d t
      | none => false
    | none => false
/-- k stands ahead of i in the text: must it be before it? -/
noncomputable def tied (P : Program) (all : Array Oper) (ok oi : Oper) : Bool :=
  (match ok.dst with
    | some t => looks all oi t
    | none => false) ||
  (match oi.dst with
    | some t => looks all ok t
    | none => false) ||
  (Nat.ble 3 (cls P oi.op) && Nat.ble 2 (cls P ok.op))
def sameDst (a b : Oper) : Bool :=
  match a.dst, b.dst with
  | some t, some u => Nat.beq t u
  | _, _ => false
noncomputable def pairsOk (P : Program) (all : Array Oper) (oi : Oper) (b : Nat) : List Oper → Nat → Bool
  | [], _ => true
  | ok :: r, k => (!(sameDst ok oi)) && (!(tied P all ok oi) || Nat.testBit b k) && pairsOk P all oi b r (k + 1)
noncomputable def drawOkGo (P : Program) (all : Array Oper) (m : T Nat) (before : List Oper) : List Oper → Nat → Bool
  | [], _ => true
  | o :: r, i => match m.get i with
    | some b => pairsOk P all o b before 0 && drawOkGo P all m (before ++ [o]) r (i + 1)
    | none => false
/-- The edges' bits, where the region is in order. -/
noncomputable def drawBefs (P : Program) (ops : Array Oper) : Option (T Nat) :=
  match befs ops.toList 0 .leaf with
  | some m => match drawOkGo P ops m [] ops.toList 0 with
    | true => some m
    | false => none
  | none => none

def atomEq (a b : AV) : Bool :=
  match a, b with
  | .bool x, .bool y => x == y
  | .int k m, .int k' n => kindEq k k' && eqI m n
  | .str x, .str y => eqB x y
  | .nilp, .nilp => true
  | .ptr a b, .ptr c d => Nat.beq a c && Nat.beq b d
  | .gptr a b, .gptr c d => Nat.beq a c && Nat.beq b d
  | .nils, .nils => true
  | .slice a b c d, .slice e f g h => Nat.beq a e && Nat.beq b f && Nat.beq c g && Nat.beq d h
  | .opn a b c d, .opn e f g h => Nat.beq a e && Nat.beq b f && Nat.beq c g && Nat.beq d h
  | .gsl a b c d, .gsl e f g h => Nat.beq a e && Nat.beq b f && Nat.beq c g && Nat.beq d h
  | .nilm, .nilm => true
  | .map a, .map b => Nat.beq a b
  | .yld a, .yld b => Nat.beq a b
  | .nilf, .nilf => true
  | .nili, .nili => true
  | .one, .one => true
  | _, _ => false
def atomsEq : List AV → List AV → Bool
  | [], [] => true
  | a :: l, b :: m => atomEq a b && atomsEq l m
  | _, _ => false
def avEq (a b : AV) : Bool :=
  match a, b with
  | .agg l, .agg m => atomsEq l m
  | .iface t x, .iface u y => Nat.beq t u && atomEq x y
  | .fn (.func f) l m, .fn (.func g) l' m' => Nat.beq f g && atomsEq l l' && atomsEq m m'
  | a, b => atomEq a b
def sameRead (r : Option AV) (v : AV) : Bool :=
  match r with
  | some u => avEq u v
  | none => false

/-- Where a region that draws has come to. 'hb': the heap behind the last operation of class 3. -/
structure Dr where
  fr : Fr
  hb : Hp
  hp : Hp
  nx : Nat
  wl : List (Nat × Hp)
  rl : List (Nat × Op × Fr × AV)
  al : List (Nat × Nat × Blk)
/-- A read of a block that was made at a place from p on, and must be made before it. -/
noncomputable def readOwn (C : Ctx) (b p : Nat) (o : Op) (ρ : Operand → AV) (v : AV) : List (Nat × Nat × Blk) → Bool
  | [] => false
  | (k, id, bl) :: r => (Nat.ble p k && Nat.testBit b k && sameRead (readA C o ρ (T.set .leaf id bl)) v) || readOwn C b p o ρ v r
def baseW : List (Nat × Hp) → Nat
  | [] => 0
  | (q, _) :: _ => Nat.succ q
/-- A read gives the same behind each operation of class 3 that may come later than it. -/
noncomputable def readBack (C : Ctx) (b : Nat) (o : Op) (ρ : Operand → AV) (v : AV) (al : List (Nat × Nat × Blk)) : List (Nat × Hp) → Bool
  | [] => true
  | (w, h) :: r => match Nat.testBit b w with
    | true => true
    | false => (sameRead (readA C o ρ h) v || readOwn C b (baseW r) o ρ v al) && readBack C b o ρ v al r
noncomputable def readOn (C : Ctx) (b : Nat) (h : Hp) : List (Nat × Op × Fr × AV) → Bool
  | [] => true
  | (r, o, fr, v) :: l => (Nat.testBit b r || sameRead (readA C o (opd fr) h) v) && readOn C b h l
noncomputable def putD (sz : Nat) (d : Option Tmp) (v : AV) (fr : Fr) : Option Fr :=
  match d with
  | none => some fr
  | some t => match Nat.ble (Nat.succ t) sz with
    | true => forceV v fun v => some (fr.set t v)
    | false => none
inductive DRes where
  | bad (why : Option String)
  | ok (s : Dr)
noncomputable def putR (pos : String) (sz : Nat) (d : Option Tmp) (v : AV) (s : Dr) (k : Fr → Dr) : DRes :=
  match putD sz d v s.fr with
  | some fr => .ok (k fr)
  | none => .bad (some pos)
noncomputable def drawOp (C : Ctx) (cl : CallF) (sz : Nat) (all : Array Oper) (o : Oper) (i b : Nat) (s : Dr) : DRes :=
  match wantedA all s.fr o with
  | none => .bad (some o.pos)
  | some false => putR o.pos sz o.dst (.tup []) s fun fr => { s with fr := fr }
  | some true => match cls C.P o.op with
    | 0 => match pureA C.P o.op (opd s.fr) with
      | some v => putR o.pos sz o.dst v s fun fr => { s with fr := fr }
      | none => .bad (some o.pos)
    | 1 => match readA C o.op (opd s.fr) s.hb with
      | some v => match readBack C b o.op (opd s.fr) v s.al s.wl with
        | true => putR o.pos sz o.dst v s fun fr => { s with fr := fr, rl := (i, o.op, s.fr, v) :: s.rl }
        | false => .bad (some o.pos)
      | none => match readA C o.op (opd s.fr) s.hp with
        | some v => match readOwn C b (baseW s.wl) o.op (opd s.fr) v s.al && readBack C b o.op (opd s.fr) v s.al s.wl with
          | true => putR o.pos sz o.dst v s fun fr => { s with fr := fr, rl := (i, o.op, s.fr, v) :: s.rl }
          | false => .bad (some o.pos)
        | none => .bad (some o.pos)
    | 2 => match allocA C o.op (opd s.fr) with
      | some (bl, mk) => putR o.pos sz o.dst (mk s.nx) s fun fr => { s with fr := fr, hp := s.hp.set s.nx bl, nx := Nat.succ s.nx, al := (i, s.nx, bl) :: s.al }
      | none => .bad (some o.pos)
    | _ => match wA C cl o.op (opd s.fr) s.hp s.nx with
      | .done v hp nx => match readOn C b hp s.rl with
        | true => putR o.pos sz o.dst v s fun fr => { fr := fr, hb := hp, hp := hp, nx := nx, wl := (i, s.hb) :: s.wl, rl := s.rl, al := s.al }
        | false => .bad (some o.pos)
      | .fail (some w) => .bad (some w)
      | _ => .bad (some o.pos)
noncomputable def drawOps (C : Ctx) (cl : CallF) (sz : Nat) (all : Array Oper) (m : T Nat) : List Oper → Nat → Dr → DRes
  | [], _, s => .ok s
  | o :: r, i, s => match m.get i with
    | some b => match drawOp C cl sz all o i b s with
      | .ok s => drawOps C cl sz all m r (i + 1) s
      | .bad w => .bad w
    | none => .bad none

/- A REGION IN ANOTHER ORDER OF ITS TEXT: what writes comes as soon as it may. -/
def idxN (i : Nat) : List Nat → Nat
  | [] => 0
  | x :: l => match Nat.beq x i with
    | true => 0
    | false => Nat.succ (idxN i l)
def emitN (l : List Nat) (k : Nat) : List Nat :=
  match l.any (fun x => Nat.beq x k) with
  | true => l
  | false => l ++ [k]
def emitB (b : Nat) : List Nat → List Nat → List Nat
  | [], l => l
  | k :: r, l => match Nat.testBit b k with
    | true => emitB b r (emitN l k)
    | false => emitB b r l
noncomputable def orderA (P : Program) (m : T Nat) (n : Nat) : List Oper → Nat → List Nat → List Nat
  | [], _, l => l
  | o :: r, i, l => match Nat.ble 3 (cls P o.op), m.get i with
    | true, some b => orderA P m n r (i + 1) (emitN (emitB b (List.range n) l) i)
    | _, _ => orderA P m n r (i + 1) l
def remap (p : Nat → Nat) (o : Oper) : Oper := { o with after := o.after.map (fun e => { e with on := p e.on }), guard := o.guard.map fun g => (p g.1, g.2) }
def permOk (l : List Nat) (n : Nat) : Bool :=
  Nat.beq l.length n && l.all (fun i => Nat.ble (Nat.succ i) n) && (List.range n).all (fun i => l.any (fun x => Nat.beq x i)) && (List.range n).all (fun k => match l[k]? with
    | some i => Nat.beq (idxN i l) k
    | none => false)
def permA (l : List Nat) (ops : Array Oper) : Array Oper := (l.map fun i => remap (fun j => idxN j l) ops[i]!).toArray
noncomputable def turned (P : Program) (ops : Array Oper) : Option (Array Oper × T Nat) :=
  match befs ops.toList 0 .leaf with
  | some m => match (List.range ops.size).foldl emitN (orderA P m ops.size ops.toList 0 []) with
    | l => match permOk l ops.size with
      | true => match drawBefs P (permA l ops) with
        | some m' => some (permA l ops, m')
        | none => none
      | false => none
  | none => none

/-- CODE. f: the function; sz: its slots; ro: the round's loop. -/
noncomputable def loopK (body : KN → KN) : KN :=
  Nat.rec (motive := fun _ => KN) (fun _ _ _ _ => .fail none) (fun _ ih => body ih) 1000000000
noncomputable def endLoopK (l : Nat) (fr : Fr) (ds : List ADef) (hp : Hp) (nx : Nat) (kn : KN) (kx : Nat → KN) (kr : KN) : Res :=
  match hp.get l with
  | some (.loop .ready p f fr' sz ps as bd d) => match p with
    | none => kn fr ds (hp.set l (.loop .exhausted p f fr' sz ps as bd d)) nx
    | some (.exit id) => kx id fr ds (hp.set l (.loop .exhausted p f fr' sz ps as bd d)) nx
    | some .ret => kr fr ds (hp.set l (.loop .exhausted p f fr' sz ps as bd d)) nx
    | _ => .fail none
  | some (.loop .done p f fr' sz ps as bd d) => match p with
    | none => kn fr ds (hp.set l (.loop .exhausted p f fr' sz ps as bd d)) nx
    | some (.exit id) => kx id fr ds (hp.set l (.loop .exhausted p f fr' sz ps as bd d)) nx
    | some .ret => kr fr ds (hp.set l (.loop .exhausted p f fr' sz ps as bd d)) nx
    | _ => .fail none
  | _ => .fail none
noncomputable def rangeK (cl : CallF) (f : FuncId) (sz : Nat) (ro : Option Nat) (g : Operand) (ps : Array Tmp) (as bd : Code)
    (fr : Fr) (ds : List ADef) (hp : Hp) (nx : Nat) (kn : KN) (kx : Nat → KN) (kr : KN) (kp : List APan → KN) : Res :=
  match ro with
  | none => match callFn cl (opd fr g) [.yld (Nat.succ nx)] ((hp.set nx (.dfr false)).set (Nat.succ nx) (.loop .ready none f fr sz ps.toList as bd nx)) (Nat.succ (Nat.succ nx)) with
    | .done _ hp nx' => endLoopK (Nat.succ nx) fr (.mark nx :: ds) hp nx' kn kx kr
    | .pan c hp nx' => kp c fr (.mark nx :: ds) hp nx'
    | .fail s => .fail s
  | some l => match hp.get l with
    | some (.loop _ _ _ _ _ _ _ _ d) => match callFn cl (opd fr g) [.yld nx] (hp.set nx (.loop .ready none f fr sz ps.toList as bd d)) (Nat.succ nx) with
      | .done _ hp nx' => endLoopK nx fr ds hp nx' kn kx kr
      | .pan c hp nx' => kp c fr ds hp nx'
      | .fail s => .fail s
    | _ => .fail none
noncomputable def regionK (C : Ctx) (cl : CallF) (sz : Nat) (ops : Array Oper) (draw : Bool) (kn : KN) (kp : List APan → KN) : KN :=
  match draw with
  | false => opsK C cl sz ops ops.toList kn kp
  | true => fun fr ds hp nx => match drawBefs C.P ops with
    | some m => match drawOps C cl sz ops m ops.toList 0 ⟨fr, hp, hp, nx, [], [], []⟩ with
      | .ok s => kn s.fr ds s.hp s.nx
      | .bad w => .fail w
    | none => match turned C.P ops with
      | some (ops', m) => match drawOps C cl sz ops' m ops'.toList 0 ⟨fr, hp, hp, nx, [], [], []⟩ with
        | .ok s => kn s.fr ds s.hp s.nx
        | .bad w => .fail w
      | none => .fail ((ops[0]?).map (·.pos))
noncomputable def condK (c : Operand) (a b : KN) : KN := fun fr ds hp nx =>
  match opd fr c with
  | .bool true => a fr ds hp nx
  | .bool false => b fr ds hp nx
  | _ => .fail none
/-- The ways on from a piece of code. -/
structure Ks where
  kn : KN
  kx : Nat → KN
  kr : KN
  kp : List APan → KN
def failK : KN := fun _ _ _ _ => .fail none
noncomputable def ex (C : Ctx) (cl : CallF) (f : FuncId) (sz : Nat) (ro : Option Nat) (c : Code) : KN → (Nat → KN) → KN → (List APan → KN) → KN :=
  Code.rec (motive := fun _ => KN → (Nat → KN) → KN → (List APan → KN) → KN)
    (fun kn _ _ _ => kn)
    (fun _ ops draw kn _ _ kp => regionK C cl sz ops draw kn kp)
    (fun _ _ a b kn kx kr kp => a (b kn kx kr kp) kx kr kp)
    (fun c _ _ a b kn kx kr kp => condK c (a kn kx kr kp) (b kn kx kr kp))
    (fun id _ a kn kx kr kp => a kn (fun i => Bool.rec (kx i) kn (Nat.beq i id)) kr kp)
    (fun _ a _ kx kr kp => loopK fun kn => a kn kx kr kp)
    (fun g ps as bd _ _ kn kx kr kp fr ds hp nx => rangeK cl f sz ro g ps as bd fr ds hp nx kn kx kr kp)
    (fun id _ kx _ _ => kx id)
    (fun _ a kn kx kr kp => a kn kx kr kp)
    (fun _ kn _ _ _ => kn)
    (fun _ _ _ _ _ => failK)
    (fun _ _ kr _ => kr)
    (fun _ _ _ _ _ => failK)
    c

/- LEAVING A FUNCTION. -/
noncomputable def resultsA (C : Ctx) (fr : Fr) (hp : Hp) : List ResultVar → Option (List AV)
  | [] => some []
  | .tmp t :: r => match resultsA C fr hp r with
    | some l => some (opd fr (.tmp t) :: l)
    | none => none
  | .cell a t :: r => match loadA C t (opd fr (.tmp a)) hp, resultsA C fr hp r with
    | some v, some l => some (v :: l)
    | _, _ => none
noncomputable def resultA (C : Ctx) (fn : Func) (fr : Fr) (hp : Hp) : Option AV :=
  match resultsA C fr hp fn.results.toList with
  | some [v] => some v
  | some l => some (.tup l)
  | none => none
/-- The deferred calls, from the last one on: marks, and calls of functions. -/
noncomputable def leaveA (cl : CallF) (ds : List ADef) (hp : Hp) (nx : Nat) (k : Hp → Nat → Res) : Res :=
  List.rec (motive := fun _ => Hp → Nat → Res) k (fun d _ ih hp nx => match d with
    | .mark r => match hp.get r with
      | some (.dfr false) => ih (hp.set r (.dfr true)) nx
      | _ => .fail none
    | .call f args => match f with
      | .fn (.func g) l m => match cl (.dfd g) (l ++ args ++ m) hp nx with
        | .done _ hp nx => ih hp nx
        | .fail s => .fail s
        | _ => .fail none
      | _ => .fail none) ds hp nx
noncomputable def retK (C : Ctx) (cl : CallF) (fn : Func) : KN := fun fr ds hp nx =>
  leaveA cl ds hp nx fun hp nx => match resultA C fn fr hp with
    | some v => forceV v fun v => .done v hp nx
    | none => .fail none
def panK : List APan → KN := fun _ _ _ _ _ => .fail none
/-- The end of a deferred call: it has deferred nothing. -/
noncomputable def retD (C : Ctx) (fn : Func) : KN := fun fr ds hp nx => match ds with
  | [] => match resultA C fn fr hp with
    | some v => forceV v fun v => .done v hp nx
    | none => .fail none
  | _ => .fail none
noncomputable def setAll (sz : Nat) (fr : Fr) : List Nat → List AV → Option Fr
  | [], [] => some fr
  | t :: ts, v :: vs => match Nat.ble (Nat.succ t) sz with
    | true => setAll sz (fr.set t v) ts vs
    | false => none
  | _, _ => none
noncomputable def endRoundA (l : Nat) (hp : Hp) (nx : Nat) (jump : Option Code) : Res :=
  match hp.get l with
  | some (.loop _ _ f fr sz ps as bd d) => match jump with
    | none => .done (.bool true) (hp.set l (.loop .ready none f fr sz ps as bd d)) nx
    | some j => .done (.bool false) (hp.set l (.loop .done (some j) f fr sz ps as bd d)) nx
  | _ => .fail none
/-- A function whose answer is known: see OrcOk. -/
noncomputable def orcOr (C : Ctx) (f : FuncId) (args : List AV) (hp : Hp) (nx : Nat) (r : Res) : Res :=
  match C.orc.get f with
  | none => r
  | some o => match o args hp nx with
    | some r => .done r.1 r.2.1 r.2.2
    | none => r
/-- A deferred function whose answer is known: see DfdOk. -/
noncomputable def dfdOr (C : Ctx) (f : FuncId) (args : List AV) (hp : Hp) (nx : Nat) (r : Res) : Res :=
  match C.dfd.get f with
  | none => r
  | some o => match o args hp nx with
    | some r => .done r.1 r.2.1 r.2.2
    | none => .fail none
/-- A call with so many levels to spare. -/
noncomputable def callA (C : Ctx) (n : Nat) : CallF :=
  Nat.rec (motive := fun _ => CallF) (fun _ _ _ _ => .fail none) (fun _ cl t args hp nx => match t with
    | .fn f => orcOr C f args hp nx (match C.P.funcs[f]? with
      | some fn => match fn.body with
        | some c => match Nat.ble args.length fn.ntmps with
          | true => ex C cl f fn.ntmps none c (retK C cl fn) (fun _ => failK) (retK C cl fn) panK (frL args) [] hp nx
          | false => .fail none
        | none => .fail none
      | none => .fail none)
    | .dfd f => dfdOr C f args hp nx (match C.P.funcs[f]? with
      | some fn => match fn.body with
        | some c => match Nat.ble args.length fn.ntmps with
          | true => ex C cl f fn.ntmps none c (retD C fn) (fun _ => failK) (retD C fn) panK (frL args) [] hp nx
          | false => .fail none
        | none => .fail none
      | none => .fail none)
    | .rnd l => match hp.get l with
      | some (.loop _ _ f fr sz ps as bd _) => match setAll sz fr ps args with
        | some fr => ex { C with rd := true } cl f sz (some l) as
            (fun fr ds hp nx => match hp.get l with
              | some (.loop .ready p f' fr' sz' ps' as' bd' d') =>
                ex { C with rd := true } cl f sz (some l) bd (fun _ _ hp nx => endRoundA l hp nx none) (fun id _ _ hp nx => endRoundA l hp nx (some (.exit id)))
                  (fun _ _ hp nx => endRoundA l hp nx (some .ret)) (fun _ => failK) fr ds (hp.set l (.loop .busy p f' fr' sz' ps' as' bd' d')) nx
              | _ => .fail none)
            (fun _ => failK) failK (fun _ => failK) fr [] hp nx
        | none => .fail none
      | _ => .fail none) n

/-- Does a call return true? -/
noncomputable def saysTrue (r : Res) : Bool :=
  match r with
  | .done (.bool true) _ _ => true
  | _ => false
end Go.Proofs.YtaadkdmbhckdeaaDoor.AX
