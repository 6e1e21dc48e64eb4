/- OX, part 4: a call that was worked out once, told again: what it was handed, what it gave, by names of its own. -/
import Derived.Test.YtdjeokgkeejpcaaGreatDoorOx1
namespace Go.Proofs.YtdjeokgkeejpcaaGreatDoor.AX
open Go

/-- A block, told: cells; cells without names; a map. -/
inductive MB where
  | cells (l : List AV) (cl : Cl)
  | raw (l : List AV) (cl : Cl)
  | map (es : List (AV × AV)) (bs : List Nat) (clk : Nat)
/-- A call, told. -/
structure Memo where
  args : List AV
  ins : List (Nat × MB)
  n0 : Nat
  out : AV
  outs : List (Nat × MB)
  n1 : Nat

/- OTHER NAMES. -/
def ren0 (ρ : Nat → Option Nat) (v : AV) : Option AV :=
  match v with
  | .ptr i o => match ρ i with
    | some k => some (.ptr k o)
    | none => none
  | .slice i o l c => match ρ i with
    | some k => some (.slice k o l c)
    | none => none
  | .opn i o l z => match ρ i with
    | some k => some (.opn k o l z)
    | none => none
  | .map i => match ρ i with
    | some k => some (.map k)
    | none => none
  | .bool b => some (.bool b)
  | .int k n => some (.int k n)
  | .str s => some (.str s)
  | .nilp => some .nilp
  | .gptr g o => some (.gptr g o)
  | .nils => some .nils
  | .gsl g o l c => some (.gsl g o l c)
  | .nilm => some .nilm
  | .nilf => some .nilf
  | .nili => some .nili
  | _ => none
def renL (ρ : Nat → Option Nat) : List AV → Option (List AV)
  | [] => some []
  | v :: l => match ren0 ρ v, renL ρ l with
    | some u, some r => some (u :: r)
    | _, _ => none
def ren1 (ρ : Nat → Option Nat) (v : AV) : Option AV :=
  match v with
  | .agg l => match renL ρ l with
    | some l => some (.agg l)
    | none => none
  | .fn (.func g) l m => match renL ρ l, renL ρ m with
    | some l, some m => some (.fn (.func g) l m)
    | _, _ => none
  | .iface t x => match ren0 ρ x with
    | some x => some (.iface t x)
    | none => none
  | v => ren0 ρ v
noncomputable def renL1 (ρ : Nat → Option Nat) (l : List AV) : Option (List AV) :=
  List.rec (some []) (fun v _ ih => match ren1 ρ v with
    | some u => match ih with
      | some r => some (u :: r)
      | none => none
    | none => none) l
noncomputable def ren2 (ρ : Nat → Option Nat) (v : AV) : Option AV :=
  match v with
  | .tup l => match renL1 ρ l with
    | some l => some (.tup l)
    | none => none
  | v => ren1 ρ v
noncomputable def renE (ρ : Nat → Option Nat) (l : List (AV × AV)) : Option (List (AV × AV)) :=
  List.rec (some []) (fun e _ ih => match ren1 ρ e.1, ren1 ρ e.2 with
    | some a, some b => match ih with
      | some r => some ((a, b) :: r)
      | none => none
    | _, _ => none) l
noncomputable def renB (ρ : Nat → Option Nat) (b : MB) : Option Blk :=
  match b with
  | .cells l cl => match renL1 ρ l with
    | some l => some (.cells (ofL l) l.length cl)
    | none => none
  | .raw l cl => some (.cells (ofL l) l.length cl)
  | .map es bs clk => match renE ρ es with
    | some es => some (.map es bs clk)
    | none => none

/- IS IT THE SAME, BY OTHER NAMES? -/
noncomputable def eqV (ρ : Nat → Option Nat) (a b : AV) : Bool :=
  match ren1 ρ a with
  | some u => avEq u b
  | none => false
noncomputable def eqV2 (a b : AV) : Bool :=
  match a, b with
  | .tup l, .tup m => List.rec (motive := fun _ => List AV → Bool) (fun m => List.rec true (fun _ _ _ => false) m) (fun a _ ih m => List.rec false (fun b m' _ => Bool.rec false (ih m') (avEq a b)) m) l m
  | a, b => avEq a b
noncomputable def eqLs (ρ : Nat → Option Nat) (l : List AV) : List AV → Bool :=
  List.rec (motive := fun _ => List AV → Bool) (fun m => List.rec true (fun _ _ _ => false) m) (fun a _ ih m => List.rec false (fun b m' _ => Bool.rec false (ih m') (eqV ρ a b)) m) l
noncomputable def eqCs (ρ : Nat → Option Nat) (c : Cells) (l : List AV) : Nat → Bool :=
  List.rec (motive := fun _ => Nat → Bool) (fun _ => true) (fun a _ ih j => Option.rec false (fun b => Bool.rec false (ih (Nat.succ j)) (eqV ρ a b)) (c.get j)) l
noncomputable def eqRs (c : Cells) (l : List AV) : Nat → Bool :=
  List.rec (motive := fun _ => Nat → Bool) (fun _ => true) (fun a _ ih j => Option.rec false (fun b => Bool.rec false (ih (Nat.succ j)) (atomEq a b)) (c.get j)) l
noncomputable def eqEs (ρ : Nat → Option Nat) (l : List (AV × AV)) : List (AV × AV) → Bool :=
  List.rec (motive := fun _ => List (AV × AV) → Bool) (fun m => List.rec true (fun _ _ _ => false) m) (fun a _ ih m => List.rec false (fun b m' _ => Bool.rec false (Bool.rec false (ih m') (eqV ρ a.2 b.2)) (eqV ρ a.1 b.1)) m) l
noncomputable def eqNs (l : List Nat) : List Nat → Bool :=
  List.rec (motive := fun _ => List Nat → Bool) (fun m => List.rec true (fun _ _ _ => false) m) (fun a _ ih m => List.rec false (fun b m' _ => Bool.rec false (ih m') (Nat.beq a b)) m) l
def eqCl (a b : Cl) : Bool := match a, b with
  | .no, .no => true
  | .yes, .yes => true
  | .ty t, .ty u => Nat.beq t u
  | .whole t, .whole u => Nat.beq t u
  | _, _ => false
noncomputable def eqBk (ρ : Nat → Option Nat) (m : MB) (b : Blk) : Bool :=
  match m, b with
  | .cells l cl, .cells c n cl' => Nat.beq l.length n && eqCl cl cl' && eqCs ρ c l 0
  | .raw l cl, .cells c n cl' => Nat.beq l.length n && eqCl cl cl' && eqRs c l 0
  | .map es bs clk, .map es' bs' clk' => Nat.beq clk clk' && eqNs bs bs' && eqEs ρ es es'
  | _, _ => false

/- WHICH NAMES? -/
noncomputable def bnd (t : T Nat) (i k : Nat) : T Nat :=
  match t.get i with
  | some _ => t
  | none => t.set i k
noncomputable def uni0 (a b : AV) (t : T Nat) : T Nat :=
  match a, b with
  | .ptr i _, .ptr k _ => bnd t i k
  | .slice i _ _ _, .slice k _ _ _ => bnd t i k
  | .opn i _ _ _, .opn k _ _ _ => bnd t i k
  | .map i, .map k => bnd t i k
  | _, _ => t
noncomputable def uniL : List AV → List AV → T Nat → T Nat
  | a :: l, b :: m, t => uniL l m (uni0 a b t)
  | _, _, t => t
noncomputable def uni1 (a b : AV) (t : T Nat) : T Nat :=
  match a, b with
  | .agg l, .agg m => uniL l m t
  | .fn _ l m, .fn _ l' m' => uniL m m' (uniL l l' t)
  | .iface _ x, .iface _ y => uni0 x y t
  | a, b => uni0 a b t
noncomputable def uniL1 : List AV → List AV → T Nat → T Nat
  | a :: l, b :: m, t => uniL1 l m (uni1 a b t)
  | _, _, t => t
noncomputable def uniC (c : Cells) (l : List AV) : Nat → T Nat → T Nat :=
  List.rec (motive := fun _ => Nat → T Nat → T Nat) (fun _ t => t) (fun a _ ih j t => Option.rec t (fun b => ih (Nat.succ j) (uni1 a b t)) (c.get j)) l
noncomputable def uniE : List (AV × AV) → List (AV × AV) → T Nat → T Nat
  | a :: l, b :: m, t => uniE l m (uni1 a.2 b.2 (uni1 a.1 b.1 t))
  | _, _, t => t
noncomputable def uniB (m : MB) (b : Blk) (t : T Nat) : T Nat :=
  match m, b with
  | .cells l _, .cells c _ _ => uniC c l 0 t
  | .map es _ _, .map es' _ _ => uniE es es' t
  | _, _ => t
noncomputable def uniI (hp : Hp) : List (Nat × MB) → T Nat → T Nat
  | [], t => t
  | (i, m) :: r, t => match t.get i with
    | some k => match hp.get k with
      | some b => uniI hp r (uniB m b t)
      | none => t
    | none => t

/-- The names of what was handed in. -/
noncomputable def rho (n0 : Nat) (t : T Nat) (i : Nat) : Option Nat := Bool.rec none (t.get i) (Nat.ble (Nat.succ i) n0)
/-- .. and of what is new. -/
noncomputable def rho' (n0 nx : Nat) (t : T Nat) (i : Nat) : Option Nat := Bool.rec (some (Nat.add nx (Nat.sub i n0))) (t.get i) (Nat.ble (Nat.succ i) n0)
noncomputable def insOk (n0 : Nat) (t : T Nat) (hp : Hp) : List (Nat × MB) → Bool
  | [] => true
  | (i, m) :: r => match rho n0 t i with
    | some k => match hp.get k with
      | some b => eqBk (rho n0 t) m b && insOk n0 t hp r
      | none => false
    | none => false
noncomputable def invOf (t : T Nat) : List (Nat × MB) → T Nat → T Nat
  | [], u => u
  | (i, _) :: r, u => match t.get i with
    | some k => invOf t r (u.set k i)
    | none => u
def isAt (o : Option Nat) (i : Nat) : Bool := match o with
  | some k => Nat.beq k i
  | none => false
noncomputable def injOk (t u : T Nat) : List (Nat × MB) → Bool
  | [] => true
  | (i, _) :: r => match t.get i with
    | some k => isAt (u.get k) i && injOk t u r
    | none => false
noncomputable def layO (ρ : Nat → Option Nat) (hp : Hp) : List (Nat × MB) → Option Hp
  | [] => some hp
  | (i, m) :: r => match ρ i, renB ρ m with
    | some k, some b => layO ρ (hp.set k b) r
    | _, _ => none
/-- The call, told again. -/
noncomputable def recallA (m : Memo) (args : List AV) (hp : Hp) (nx : Nat) : Option (AV × Hp × Nat) :=
  match uniI hp m.ins (uniL1 m.args args .leaf) with
  | t => match eqLs (rho m.n0 t) m.args args && insOk m.n0 t hp m.ins && injOk t (invOf t m.ins .leaf) m.ins with
    | true => match ren2 (rho' m.n0 nx t) m.out, layO (rho' m.n0 nx t) hp m.outs with
      | some v, some hp => some (v, hp, Nat.add nx (Nat.sub m.n1 m.n0))
      | _, _ => none
    | false => none
noncomputable def recallL : List Memo → List AV → Hp → Nat → Option (AV × Hp × Nat)
  | [], _, _, _ => none
  | m :: l, args, hp, nx => match recallA m args hp nx with
    | some r => some r
    | none => recallL l args hp nx

/- THE CALL ITSELF. -/
noncomputable def blkOf (m : MB) : Blk :=
  match m with
  | .cells l cl => .cells (ofL l) l.length cl
  | .raw l cl => .cells (ofL l) l.length cl
  | .map es bs clk => .map es bs clk
noncomputable def layI : List (Nat × MB) → Hp
  | [] => .leaf
  | (i, m) :: r => (layI r).set i (blkOf m)
noncomputable def toldIn (hp : Hp) : List (Nat × MB) → Bool
  | [] => true
  | (i, m) :: r => match hp.get i with
    | some b => eqBk some m b && toldIn hp r
    | none => false
def rawL : List AV → Bool
  | [] => true
  | v :: l => match v with
    | .bool _ => rawL l
    | .int _ _ => rawL l
    | .str _ => rawL l
    | .nilp => rawL l
    | .nils => rawL l
    | .nilm => rawL l
    | .nilf => rawL l
    | .nili => rawL l
    | _ => false
def rawOk : List (Nat × MB) → Bool
  | [] => true
  | (_, m) :: r => match m with
    | .raw l _ => rawL l && rawOk r
    | _ => rawOk r
def idsOk (a b : Nat) : List (Nat × MB) → Bool
  | [] => true
  | (i, _) :: r => Nat.ble a i && Nat.ble (Nat.succ i) b && idsOk a b r
noncomputable def memoOk (cl : CallF) (f : FuncId) (m : Memo) : Bool :=
  match cl (.fn f) m.args (layI m.ins) m.n0 with
  | .done v hp nx => eqV2 v m.out && Nat.beq nx m.n1 && toldIn hp m.ins && toldIn hp m.outs
  | _ => false
def formOk (m : Memo) : Bool := rawOk m.ins && rawOk m.outs && idsOk 0 m.n0 m.ins && idsOk m.n0 m.n1 m.outs && Nat.ble m.n0 m.n1
/-- Rows told short. -/
noncomputable def rlV (l : List (Nat × AV)) : List AV := List.rec [] (fun x _ ih => Nat.rec ih (fun _ r => x.2 :: r) x.1) l
noncomputable def catV (l : List (List AV)) : List AV := List.rec [] (fun x _ ih => x ++ ih) l
end Go.Proofs.YtdjeokgkeejpcaaGreatDoor.AX
