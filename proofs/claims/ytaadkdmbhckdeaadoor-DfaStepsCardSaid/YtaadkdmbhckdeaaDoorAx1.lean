/- AX, part 1: abstract values, abstract memory, and what a value of the model is to an abstract one. -/
import Derived.CallsIn
namespace Go.Proofs.YtaadkdmbhckdeaaDoor.AX

/-- A digit by four; four of a kind. -/
inductive D where
  | a | b | c | d
  deriving DecidableEq
structure Q (α : Type) where
  a : α
  b : α
  c : α
  d : α
noncomputable def sel {α : Type} (i : D) (q : Q α) : α := Q.rec (fun a b c d => D.rec a b c d i) q
noncomputable def upd {α : Type} (i : D) (f : α → α) (q : Q α) : Q α := Q.rec (fun a b c d => D.rec ⟨f a, b, c, d⟩ ⟨a, f b, c, d⟩ ⟨a, b, f c, d⟩ ⟨a, b, c, f d⟩ i) q
def Q.of {α : Type} (x : α) : Q α := ⟨x, x, x, x⟩
noncomputable def dg (n : Nat) : D := Bool.rec (Bool.rec .d .c (Nat.beq (Nat.mod n 4) 2)) (Bool.rec .b .a (Nat.beq (Nat.mod n 4) 0)) (Nat.ble (Nat.mod n 4) 1)
/-- A binary tree by the number's digits. -/
inductive TB (α : Type) where
  | leaf
  | node (l : TB α) (v : Option α) (r : TB α)
namespace TB
variable {α : Type}
noncomputable def get (t : TB α) : Nat → Option α :=
  TB.rec (fun _ => none) (fun _ v _ ihl ihr n => Nat.rec v (fun m _ => Bool.rec (ihr (Nat.div m 2)) (ihl (Nat.div m 2)) (Nat.beq (Nat.mod m 2) 0)) n) t
noncomputable def lf (ih : TB α → Nat → Option α → TB α) (n : Nat) (x : Option α) : TB α :=
  Nat.rec (.node .leaf x .leaf) (fun m _ => Bool.rec (.node .leaf none (ih .leaf (Nat.div m 2) x)) (.node (ih .leaf (Nat.div m 2) x) none .leaf) (Nat.beq (Nat.mod m 2) 0)) n
noncomputable def nd (ih : TB α → Nat → Option α → TB α) (l : TB α) (v : Option α) (r : TB α) (n : Nat) (x : Option α) : TB α :=
  Nat.rec (.node l x r) (fun m _ => Bool.rec (.node l v (ih r (Nat.div m 2) x)) (.node (ih l (Nat.div m 2) x) v r) (Nat.beq (Nat.mod m 2) 0)) n
noncomputable def put (t : TB α) (n : Nat) (x : Option α) : TB α :=
  Nat.rec (motive := fun _ => TB α → Nat → Option α → TB α) (fun t _ _ => t)
    (fun _ ih t n x => TB.rec (lf ih n x) (fun l v r _ _ => nd ih l v r n x) t) (Nat.succ n) t n x
noncomputable def set (t : TB α) (n : Nat) (x : α) : TB α := put t n (some x)
end TB

/-- Where a number lies: in a row of 16, of 256, of 4096, of 262144, or beyond. -/
inductive Pth where
  | s (d0 d1 : D)
  | m (d0 d1 d2 d3 : D)
  | l (d0 d1 d2 d3 d4 d5 : D)
  | x (d0 d1 d2 d3 d4 d5 d6 d7 d8 : D)
  | r (n : Nat)
  deriving DecidableEq
noncomputable def ptOf (n : Nat) : Pth := Bool.rec (Bool.rec (Bool.rec (Bool.rec (.r n) (.x (dg (Nat.div n 65536)) (dg (Nat.div n 16384)) (dg (Nat.div n 4096)) (dg (Nat.div n 1024)) (dg (Nat.div n 256)) (dg (Nat.div n 64)) (dg (Nat.div n 16)) (dg (Nat.div n 4)) (dg n)) (Nat.ble n 262143)) (.l (dg (Nat.div n 1024)) (dg (Nat.div n 256)) (dg (Nat.div n 64)) (dg (Nat.div n 16)) (dg (Nat.div n 4)) (dg n)) (Nat.ble n 4095)) (.m (dg (Nat.div n 64)) (dg (Nat.div n 16)) (dg (Nat.div n 4)) (dg n)) (Nat.ble n 255)) (.s (dg (Nat.div n 4)) (dg n)) (Nat.ble n 15)
/-- A map from numbers. -/
structure T (α : Type) where
  s : Q (Q (Option α))
  m : Q (Q (Q (Q (Option α))))
  l : Q (Q (Q (Q (Q (Q (Option α))))))
  x : Q (Q (Q (Q (Q (Q (Q (Q (Q (Option α)))))))))
  r : TB α
namespace T
variable {α : Type}
def leaf : T α := ⟨(.of (.of none)), (.of (.of (.of (.of none)))), (.of (.of (.of (.of (.of (.of none)))))), (.of (.of (.of (.of (.of (.of (.of (.of (.of none))))))))), .leaf⟩
noncomputable def getP (p : Pth) : T α → Option α := Pth.rec (fun d0 d1 t => sel d1 (sel d0 t.s)) (fun d0 d1 d2 d3 t => sel d3 (sel d2 (sel d1 (sel d0 t.m)))) (fun d0 d1 d2 d3 d4 d5 t => sel d5 (sel d4 (sel d3 (sel d2 (sel d1 (sel d0 t.l)))))) (fun d0 d1 d2 d3 d4 d5 d6 d7 d8 t => sel d8 (sel d7 (sel d6 (sel d5 (sel d4 (sel d3 (sel d2 (sel d1 (sel d0 t.x))))))))) (fun n t => t.r.get n) p
noncomputable def putP (p : Pth) (t : T α) (y : Option α) : T α := T.rec (fun s m l x r => Pth.rec (fun d0 d1 => ⟨upd d0 (upd d1 (fun _ => y)) s, m, l, x, r⟩) (fun d0 d1 d2 d3 => ⟨s, upd d0 (upd d1 (upd d2 (upd d3 (fun _ => y)))) m, l, x, r⟩) (fun d0 d1 d2 d3 d4 d5 => ⟨s, m, upd d0 (upd d1 (upd d2 (upd d3 (upd d4 (upd d5 (fun _ => y)))))) l, x, r⟩) (fun d0 d1 d2 d3 d4 d5 d6 d7 d8 => ⟨s, m, l, upd d0 (upd d1 (upd d2 (upd d3 (upd d4 (upd d5 (upd d6 (upd d7 (upd d8 (fun _ => y))))))))) x, r⟩) (fun n => ⟨s, m, l, x, r.put n y⟩) p) t
noncomputable def get (t : T α) (n : Nat) : Option α := getP (ptOf n) t
noncomputable def put (t : T α) (n : Nat) (x : Option α) : T α := putP (ptOf n) t x
noncomputable def set (t : T α) (n : Nat) (x : α) : T α := put t n (some x)
end T

/-- An abstract value. 'bad': any value at all; 'one': any value of one cell. A block is named by an abstract number. -/
inductive AV where
  | bad
  | one
  | bool (b : Bool)
  | int (k : IntKind) (n : Int)
  | str (s : List Nat)
  | nilp
  | ptr (id off : Nat)
  | gptr (g off : Nat)
  | nils
  | slice (id off len cap : Nat)
  | opn (id off len sz : Nat)
  | gsl (g off len cap : Nat)
  | nilm
  | map (id : Nat)
  | fn (f : Fn) (first captured : List AV)
  | yld (id : Nat)
  | nilf
  | iface (t : Nat) (v : AV)
  | nili
  | agg (l : List AV)
  | tup (l : List AV)

/-- A value in a frame or a row of cells: a small type, quick to tell apart. -/
inductive FV where
  | nat (k : IntKind) (n : Nat)
  | bool (b : Bool)
  | ptr (id off : Nat)
  | slc (id off len cap : Nat)
  | opn (id off len sz : Nat)
  | oth (v : AV)
noncomputable def FV.up (v : FV) : AV := FV.rec (fun k n => .int k (.ofNat n)) (fun b => .bool b) (fun i o => .ptr i o) (fun i o l c => .slice i o l c) (fun i o l z => .opn i o l z) (fun v => v) v
def AV.down (v : AV) : FV :=
  match v with
  | .int k (.ofNat n) => .nat k n
  | .bool b => .bool b
  | .ptr i o => .ptr i o
  | .slice i o l c => .slc i o l c
  | .opn i o l z => .opn i o l z
  | v => .oth v
def AV.nb (v : AV) : Option AV :=
  match v with
  | .bad => none
  | v => some v
theorem up_down (v : AV) : v.down.up = v := by
  cases v <;> try rfl
  rename_i k n
  cases n <;> rfl
theorem nb_some {v u : AV} (h : v.nb = some u) : v = u := by
  cases v <;> simp [AV.nb] at h <;> exact h
theorem nb_getD (v : AV) : v.nb.getD .bad = v := by cases v <;> rfl

/-- A row of cells. -/
structure Cells where
  t : T FV
def Cells.leaf : Cells := ⟨.leaf⟩
noncomputable def Cells.get (c : Cells) (n : Nat) : Option AV := Option.rec none (fun v => some v.up) (c.t.get n)
noncomputable def Cells.set (c : Cells) (n : Nat) (v : AV) : Cells := ⟨c.t.set n v.down⟩
/-- A frame: 256 slots at hand, and others. -/
structure Fr where
  lo : Q (Q (Q (Q FV)))
  hi : T FV
def Fr.leaf : Fr := ⟨.of (.of (.of (.of (.oth .bad)))), .leaf⟩
noncomputable def Fr.slot (fr : Fr) (t : Nat) : FV := Bool.rec (Option.rec (.oth .bad) (fun v => v) (fr.hi.get t)) (sel (dg t) (sel (dg (Nat.div t 4)) (sel (dg (Nat.div t 16)) (sel (dg (Nat.div t 64)) fr.lo)))) (Nat.ble t 255)
noncomputable def Fr.put (fr : Fr) (t : Nat) (v : FV) : Fr := Fr.rec (fun lo hi => Bool.rec ⟨lo, hi.set t v⟩ ⟨upd (dg (Nat.div t 64)) (upd (dg (Nat.div t 16)) (upd (dg (Nat.div t 4)) (upd (dg t) (fun _ => v)))) lo, hi⟩ (Nat.ble t 255)) fr
noncomputable def Fr.get (fr : Fr) (t : Nat) : Option AV := (fr.slot t).up.nb
noncomputable def Fr.set (fr : Fr) (t : Nat) (v : AV) : Fr := fr.put t v.down

/-- What is known of a row of cells beside its cells: nothing; no string has to do with it; and it is of that type; and these are all. -/
inductive Cl where
  | no
  | yes
  | ty (t : Nat)
  | whole (t : Nat)
def Cl.is : Cl → Bool
  | .no => false
  | _ => true
def Cl.row (e : Nat) (c : Cl) : Cl :=
  match c with
  | .no => .no
  | .yes => .yes
  | .ty t => match Nat.beq t e with
    | true => .ty e
    | false => .yes
  | .whole t => match Nat.beq t e with
    | true => .ty e
    | false => .yes
/-- What stands in an abstract block. 'cells c n cl': the cells below n are known; 'cl': no string has to do with it. -/
inductive Blk where
  | cells (c : Cells) (n : Nat) (cl : Cl)
  | map (es : List (AV × AV)) (bs : List Nat) (clk : Nat)
  | mapIter (m : Option Nat) (since : Nat) (seen : List Nat) (last : Nat)
  | loop (st : LoopState) (pend : Option Code) (f : FuncId) (fr : Fr) (sz : Nat) (ps : List Nat) (assign body : Code) (d : Nat)
  | dfr (done : Bool)
  | strIter (s : List Nat) (pos : Nat)

abbrev Hp := T Blk

/-- Where an abstract block lies: its number in the heap, its first cell, how many cells it has. -/
structure Info where
  blk : Nat
  base : Nat
  room : Nat

abbrev Sig := Nat → Option Info

def bytesOf (s : ByteArray) : List Nat := s.data.toList.map UInt8.toNat

mutual
inductive VRel (σ : Sig) : AV → Value → Prop
  | bad (v : Value) : VRel σ .bad v
  | one {v : Value} (h : v.cells = #[v]) (h' : ∀ l, v ≠ .tuple l) : VRel σ .one v
  | bool (b : Bool) : VRel σ (.bool b) (.bool b)
  | int (k : IntKind) (n : Int) : VRel σ (.int k n) (.int k n)
  | str (s : ByteArray) {l : List Nat} (h : bytesOf s = l) : VRel σ (.str l) (.string s)
  | nilp : VRel σ .nilp (.pointer none)
  | ptr {id off : Nat} {i : Info} (h : σ id = some i) : VRel σ (.ptr id off) (.pointer (some ⟨i.blk, i.base + off, none⟩))
  | gptr (g off : Nat) : VRel σ (.gptr g off) (.pointer (some ⟨g, off, none⟩))
  | nils : VRel σ .nils (.slice none 0 0)
  | slice {id off len cap off' : Nat} {i : Info} (h : σ id = some i) (hl : len ≤ cap) (ho : off' = i.base + off ∨ cap = 0) : VRel σ (.slice id off len cap) (.slice (some ⟨i.blk, off', none⟩) len cap)
  | opn {id off len sz c off' : Nat} {i : Info} (h : σ id = some i) (hl : len ≤ c) (hr : off + c * sz ≤ i.room) (ho : off' = i.base + off ∨ c = 0) : VRel σ (.opn id off len sz) (.slice (some ⟨i.blk, off', none⟩) len c)
  | gsl (g off : Nat) {len cap : Nat} (hl : len ≤ cap) : VRel σ (.gsl g off len cap) (.slice (some ⟨g, off, none⟩) len cap)
  | nilm : VRel σ .nilm (.map none)
  | map {id : Nat} {i : Info} (h : σ id = some i) : VRel σ (.map id) (.map (some i.blk))
  | fn (f : Fn) {l m : List AV} {vs ws : Array Value} (h : VRels σ l vs.toList) (h' : VRels σ m ws.toList) : VRel σ (.fn f l m) (.func f vs ws)
  | yld {id : Nat} {i : Info} (h : σ id = some i) : VRel σ (.yld id) (.func (.yield i.blk) #[] #[])
  | nilf : VRel σ .nilf .nilFunc
  | iface (t : Nat) {v : AV} {x : Value} (h : VRel σ v x) : VRel σ (.iface t v) (.iface t x)
  | nili : VRel σ .nili .nilIface
  | agg {l : List AV} {vs : Array Value} (h : VRels σ l vs.toList) : VRel σ (.agg l) (.agg vs)
  | tup {l : List AV} {vs : Array Value} (h : VRels σ l vs.toList) : VRel σ (.tup l) (.tuple vs)
inductive VRels (σ : Sig) : List AV → List Value → Prop
  | nil : VRels σ [] []
  | cons {v : AV} {x : Value} {l : List AV} {xs : List Value} (h : VRel σ v x) (t : VRels σ l xs) : VRels σ (v :: l) (x :: xs)
end

def Sig.le (σ τ : Sig) : Prop := ∀ id i, σ id = some i → τ id = some i
instance : LE Sig := ⟨Sig.le⟩
theorem Sig.refl (σ : Sig) : σ ≤ σ := fun _ _ h => h
theorem Sig.trans {σ τ υ : Sig} (h : σ ≤ τ) (h' : τ ≤ υ) : σ ≤ υ := fun _ _ x => h' _ _ (h _ _ x)

mutual
theorem VRel.mono {σ τ : Sig} (hs : σ ≤ τ) : ∀ {v : AV} {x : Value}, VRel σ v x → VRel τ v x
  | _, _, .bad v => .bad v
  | _, _, .one h h' => .one h h'
  | _, _, .bool b => .bool b
  | _, _, .int k n => .int k n
  | _, _, .str s h => .str s h
  | _, _, .nilp => .nilp
  | _, _, .ptr h => .ptr (hs _ _ h)
  | _, _, .gptr g o => .gptr g o
  | _, _, .nils => .nils
  | _, _, .slice h hl ho => .slice (hs _ _ h) hl ho
  | _, _, .opn h hl hr ho => .opn (hs _ _ h) hl hr ho
  | _, _, .gsl g o hl => .gsl g o hl
  | _, _, .nilm => .nilm
  | _, _, .map h => .map (hs _ _ h)
  | _, _, .fn f h h' => .fn f (VRels.mono hs h) (VRels.mono hs h')
  | _, _, .yld h => .yld (hs _ _ h)
  | _, _, .nilf => .nilf
  | _, _, .iface t h => .iface t (VRel.mono hs h)
  | _, _, .nili => .nili
  | _, _, .agg h => .agg (VRels.mono hs h)
  | _, _, .tup h => .tup (VRels.mono hs h)
theorem VRels.mono {σ τ : Sig} (hs : σ ≤ τ) : ∀ {l : List AV} {xs : List Value}, VRels σ l xs → VRels τ l xs
  | _, _, .nil => .nil
  | _, _, .cons h t => .cons (VRel.mono hs h) (VRels.mono hs t)
end

namespace TB
variable {α : Type}
theorem get_leaf (n : Nat) : (TB.leaf : TB α).get n = none := rfl
theorem get_zero (l : TB α) (v : Option α) (r : TB α) : (TB.node l v r).get 0 = v := rfl
theorem brec {β : Type} (a b : β) (c : Bool) : (Bool.rec a b c : β) = if c = true then b else a := by cases c <;> rfl
theorem beq0 (m : Nat) : (Nat.beq (Nat.mod m 2) 0 = true) = (m % 2 = 0) := by
  show (Nat.beq (m % 2) 0 = true) = _
  simp
theorem get_succ (l : TB α) (v : Option α) (r : TB α) (m : Nat) : (TB.node l v r).get (m + 1) = if m % 2 = 0 then l.get (m / 2) else r.get (m / 2) := by
  have : (TB.node l v r).get (m + 1) = Bool.rec (r.get (m / 2)) (l.get (m / 2)) (Nat.beq (Nat.mod m 2) 0) := rfl
  rw [this, brec]; simp only [beq0]
/-- 'put' with its fuel. -/
noncomputable def putF (f : Nat) (t : TB α) (n : Nat) (x : Option α) : TB α :=
  Nat.rec (motive := fun _ => TB α → Nat → Option α → TB α) (fun t _ _ => t)
    (fun _ ih t n x => TB.rec (lf ih n x) (fun l v r _ _ => nd ih l v r n x) t) f t n x
theorem put_eq (t : TB α) (n : Nat) (x : Option α) : t.put n x = putF (n + 1) t n x := rfl
theorem putF_leaf (f : Nat) (n : Nat) (x : Option α) : putF (f + 1) .leaf n x = lf (putF f) n x := rfl
theorem putF_node (f : Nat) (l : TB α) (v : Option α) (r : TB α) (n : Nat) (x : Option α) : putF (f + 1) (.node l v r) n x = nd (putF f) l v r n x := rfl
theorem lf_zero (ih : TB α → Nat → Option α → TB α) (x : Option α) : lf ih 0 x = .node .leaf x .leaf := rfl
theorem lf_succ (ih : TB α → Nat → Option α → TB α) (m : Nat) (x : Option α) : lf ih (m + 1) x = if m % 2 = 0 then .node (ih .leaf (m / 2) x) none .leaf else .node .leaf none (ih .leaf (m / 2) x) := by
  have : lf ih (m + 1) x = Bool.rec (.node .leaf none (ih .leaf (m / 2) x)) (.node (ih .leaf (m / 2) x) none .leaf) (Nat.beq (Nat.mod m 2) 0) := rfl
  rw [this, brec]; simp only [beq0]
theorem nd_zero (ih : TB α → Nat → Option α → TB α) (l : TB α) (v : Option α) (r : TB α) (x : Option α) : nd ih l v r 0 x = .node l x r := rfl
theorem nd_succ (ih : TB α → Nat → Option α → TB α) (l : TB α) (v : Option α) (r : TB α) (m : Nat) (x : Option α) : nd ih l v r (m + 1) x = if m % 2 = 0 then .node (ih l (m / 2) x) v r else .node l v (ih r (m / 2) x) := by
  have : nd ih l v r (m + 1) x = Bool.rec (.node l v (ih r (m / 2) x)) (.node (ih l (m / 2) x) v r) (Nat.beq (Nat.mod m 2) 0) := rfl
  rw [this, brec]; simp only [beq0]
theorem get_putF (x : Option α) : ∀ (f n : Nat) (t : TB α) (k : Nat), n < f → (putF f t n x).get k = if k = n then x else t.get k := by
  intro f
  induction f with
  | zero => intro n t k h; omega
  | succ f ih =>
    intro n t k h
    cases t with
    | leaf =>
      rw [putF_leaf]
      cases n with
      | zero =>
        rw [lf_zero]
        cases k with
        | zero => rfl
        | succ k => rw [get_succ]; split <;> simp [get_leaf]
      | succ n =>
        rw [lf_succ]
        cases k with
        | zero => split <;> simp [get_zero, get_leaf]
        | succ k =>
          have hh := fun s => ih (n / 2) s (k / 2) (by omega)
          by_cases e : n % 2 = 0 <;> by_cases e' : k % 2 = 0 <;> simp only [e, e', if_true, if_false, get_succ, get_leaf, hh]
          · have : (k / 2 = n / 2) = (k + 1 = n + 1) := by apply propext; omega
            simp only [this]
          · have : ¬ (k + 1 = n + 1) := by omega
            simp only [this, if_false]
          · have : ¬ (k + 1 = n + 1) := by omega
            simp only [this, if_false]
          · have : (k / 2 = n / 2) = (k + 1 = n + 1) := by apply propext; omega
            simp only [this]
    | node l v r =>
      rw [putF_node]
      cases n with
      | zero =>
        rw [nd_zero]
        cases k with
        | zero => rfl
        | succ k => rw [get_succ, get_succ]; simp
      | succ n =>
        rw [nd_succ]
        cases k with
        | zero => split <;> simp [get_zero]
        | succ k =>
          have hh := fun s => ih (n / 2) s (k / 2) (by omega)
          by_cases e : n % 2 = 0 <;> by_cases e' : k % 2 = 0 <;> simp only [e, e', if_true, if_false, get_succ, hh]
          · have : (k / 2 = n / 2) = (k + 1 = n + 1) := by apply propext; omega
            simp only [this]
          · have : ¬ (k + 1 = n + 1) := by omega
            simp only [this, if_false]
          · have : ¬ (k + 1 = n + 1) := by omega
            simp only [this, if_false]
          · have : (k / 2 = n / 2) = (k + 1 = n + 1) := by apply propext; omega
            simp only [this]
theorem get_put (t : TB α) (n : Nat) (x : Option α) (k : Nat) : (t.put n x).get k = if k = n then x else t.get k := by
  rw [put_eq]; exact get_putF x _ _ _ _ (Nat.lt_succ_self n)
theorem get_set (t : TB α) (n : Nat) (x : α) (k : Nat) : (t.set n x).get k = if k = n then some x else t.get k := get_put t n _ k
end TB


theorem sel_upd {α : Type} (i j : D) (f : α → α) (q : Q α) : sel i (upd j f q) = if i = j then f (sel i q) else sel i q := by
  cases i <;> cases j <;> rfl
theorem sel_of {α : Type} (i : D) (x : α) : sel i (Q.of x) = x := by cases i <;> rfl
theorem dg_inj {m n : Nat} (h : dg m = dg n) : m % 4 = n % 4 := by
  have hm : m % 4 < 4 := Nat.mod_lt _ (by omega)
  have hn : n % 4 < 4 := Nat.mod_lt _ (by omega)
  have e : ∀ k : Nat, dg k = (Bool.rec (Bool.rec .d .c (Nat.beq (k % 4) 2)) (Bool.rec .b .a (Nat.beq (k % 4) 0)) (Nat.ble (k % 4) 1) : D) := fun _ => rfl
  rw [e, e] at h
  generalize m % 4 = x at *
  generalize n % 4 = y at *
  match x, y, hm, hn with
  | 0, 0, _, _ | 1, 1, _, _ | 2, 2, _, _ | 3, 3, _, _ => rfl
  | 0, 1, _, _ | 0, 2, _, _ | 0, 3, _, _ | 1, 0, _, _ | 1, 2, _, _ | 1, 3, _, _ | 2, 0, _, _ | 2, 1, _, _ | 2, 3, _, _ | 3, 0, _, _ | 3, 1, _, _ | 3, 2, _, _ => cases h
  | x + 4, _, h, _ => omega
  | _, y + 4, _, h => omega
noncomputable def ptSel (n : Nat) : Pth := if n ≤ 15 then .s (dg (Nat.div n 4)) (dg n) else if n ≤ 255 then .m (dg (Nat.div n 64)) (dg (Nat.div n 16)) (dg (Nat.div n 4)) (dg n) else if n ≤ 4095 then .l (dg (Nat.div n 1024)) (dg (Nat.div n 256)) (dg (Nat.div n 64)) (dg (Nat.div n 16)) (dg (Nat.div n 4)) (dg n) else if n ≤ 262143 then .x (dg (Nat.div n 65536)) (dg (Nat.div n 16384)) (dg (Nat.div n 4096)) (dg (Nat.div n 1024)) (dg (Nat.div n 256)) (dg (Nat.div n 64)) (dg (Nat.div n 16)) (dg (Nat.div n 4)) (dg n) else .r n
theorem brecP (a b : Pth) (c : Bool) : (Bool.rec a b c : Pth) = if c = true then b else a := by cases c <;> rfl
theorem ptOf_eq (n : Nat) : ptOf n = ptSel n := by
  unfold ptOf ptSel
  simp only [brecP, Nat.ble_eq]
theorem ptOf_inj {m n : Nat} (h : ptOf m = ptOf n) : m = n := by
  rw [ptOf_eq, ptOf_eq] at h
  have d4 : ∀ a b : Nat, Nat.div a b = a / b := fun _ _ => rfl
  unfold ptSel at h
  simp only [d4] at h
  by_cases a1 : m ≤ 15 <;> by_cases b1 : n ≤ 15 <;> simp only [a1, b1, if_true, if_false] at h
  · injection h with x0 x1
    have := dg_inj x0; have := dg_inj x1; omega
  · by_cases b2 : n ≤ 255 <;> simp only [b2, if_true, if_false] at h
    · cases h
    by_cases b3 : n ≤ 4095 <;> simp only [b3, if_true, if_false] at h
    · cases h
    by_cases b4 : n ≤ 262143 <;> simp only [b4, if_true, if_false] at h <;> cases h
  · by_cases a2 : m ≤ 255 <;> simp only [a2, if_true, if_false] at h
    · cases h
    by_cases a3 : m ≤ 4095 <;> simp only [a3, if_true, if_false] at h
    · cases h
    by_cases a4 : m ≤ 262143 <;> simp only [a4, if_true, if_false] at h <;> cases h
  by_cases a2 : m ≤ 255 <;> by_cases b2 : n ≤ 255 <;> simp only [a2, b2, if_true, if_false] at h
  · injection h with x0 x1 x2 x3
    have := dg_inj x0; have := dg_inj x1; have := dg_inj x2; have := dg_inj x3; omega
  · by_cases b3 : n ≤ 4095 <;> simp only [b3, if_true, if_false] at h
    · cases h
    by_cases b4 : n ≤ 262143 <;> simp only [b4, if_true, if_false] at h <;> cases h
  · by_cases a3 : m ≤ 4095 <;> simp only [a3, if_true, if_false] at h
    · cases h
    by_cases a4 : m ≤ 262143 <;> simp only [a4, if_true, if_false] at h <;> cases h
  by_cases a3 : m ≤ 4095 <;> by_cases b3 : n ≤ 4095 <;> simp only [a3, b3, if_true, if_false] at h
  · injection h with x0 x1 x2 x3 x4 x5
    have := dg_inj x0; have := dg_inj x1; have := dg_inj x2; have := dg_inj x3; have := dg_inj x4; have := dg_inj x5; omega
  · by_cases b4 : n ≤ 262143 <;> simp only [b4, if_true, if_false] at h <;> cases h
  · by_cases a4 : m ≤ 262143 <;> simp only [a4, if_true, if_false] at h <;> cases h
  by_cases a4 : m ≤ 262143 <;> by_cases b4 : n ≤ 262143 <;> simp only [a4, b4, if_true, if_false] at h
  · injection h with x0 x1 x2 x3 x4 x5 x6 x7 x8
    have := dg_inj x0; have := dg_inj x1; have := dg_inj x2; have := dg_inj x3; have := dg_inj x4; have := dg_inj x5; have := dg_inj x6; have := dg_inj x7; have := dg_inj x8; omega
  · cases h
  · cases h
  · injection h
namespace T
variable {α : Type}
theorem gp_s (d0 d1 e0 e1 : D) (t : T α) (x : Option α) : getP (.s d0 d1) (putP (.s e0 e1) t x) = if Pth.s d0 d1 = .s e0 e1 then x else getP (.s d0 d1) t := by
  show sel d1 (sel d0 (upd e0 (upd e1 (fun _ => x)) t.s)) = if _ then x else sel d1 (sel d0 t.s)
  by_cases h0 : d0 = e0
  rotate_left
  · simp only [sel_upd, h0, if_false, Pth.s.injEq, false_and]
  subst h0
  by_cases h1 : d1 = e1
  rotate_left
  · simp only [sel_upd, h1, if_true, if_false, Pth.s.injEq, and_false]
  subst h1
  simp only [sel_upd, if_true]
theorem gp_m (d0 d1 d2 d3 e0 e1 e2 e3 : D) (t : T α) (x : Option α) : getP (.m d0 d1 d2 d3) (putP (.m e0 e1 e2 e3) t x) = if Pth.m d0 d1 d2 d3 = .m e0 e1 e2 e3 then x else getP (.m d0 d1 d2 d3) t := by
  show sel d3 (sel d2 (sel d1 (sel d0 (upd e0 (upd e1 (upd e2 (upd e3 (fun _ => x)))) t.m)))) = if _ then x else sel d3 (sel d2 (sel d1 (sel d0 t.m)))
  by_cases h0 : d0 = e0
  rotate_left
  · simp only [sel_upd, h0, if_false, Pth.m.injEq, false_and]
  subst h0
  by_cases h1 : d1 = e1
  rotate_left
  · simp only [sel_upd, h1, if_true, if_false, Pth.m.injEq, false_and, and_false]
  subst h1
  by_cases h2 : d2 = e2
  rotate_left
  · simp only [sel_upd, h2, if_true, if_false, Pth.m.injEq, false_and, and_false]
  subst h2
  by_cases h3 : d3 = e3
  rotate_left
  · simp only [sel_upd, h3, if_true, if_false, Pth.m.injEq, and_false]
  subst h3
  simp only [sel_upd, if_true]
theorem gp_l (d0 d1 d2 d3 d4 d5 e0 e1 e2 e3 e4 e5 : D) (t : T α) (x : Option α) : getP (.l d0 d1 d2 d3 d4 d5) (putP (.l e0 e1 e2 e3 e4 e5) t x) = if Pth.l d0 d1 d2 d3 d4 d5 = .l e0 e1 e2 e3 e4 e5 then x else getP (.l d0 d1 d2 d3 d4 d5) t := by
  show sel d5 (sel d4 (sel d3 (sel d2 (sel d1 (sel d0 (upd e0 (upd e1 (upd e2 (upd e3 (upd e4 (upd e5 (fun _ => x)))))) t.l)))))) = if _ then x else sel d5 (sel d4 (sel d3 (sel d2 (sel d1 (sel d0 t.l)))))
  by_cases h0 : d0 = e0
  rotate_left
  · simp only [sel_upd, h0, if_false, Pth.l.injEq, false_and]
  subst h0
  by_cases h1 : d1 = e1
  rotate_left
  · simp only [sel_upd, h1, if_true, if_false, Pth.l.injEq, false_and, and_false]
  subst h1
  by_cases h2 : d2 = e2
  rotate_left
  · simp only [sel_upd, h2, if_true, if_false, Pth.l.injEq, false_and, and_false]
  subst h2
  by_cases h3 : d3 = e3
  rotate_left
  · simp only [sel_upd, h3, if_true, if_false, Pth.l.injEq, false_and, and_false]
  subst h3
  by_cases h4 : d4 = e4
  rotate_left
  · simp only [sel_upd, h4, if_true, if_false, Pth.l.injEq, false_and, and_false]
  subst h4
  by_cases h5 : d5 = e5
  rotate_left
  · simp only [sel_upd, h5, if_true, if_false, Pth.l.injEq, and_false]
  subst h5
  simp only [sel_upd, if_true]
theorem gp_x (d0 d1 d2 d3 d4 d5 d6 d7 d8 e0 e1 e2 e3 e4 e5 e6 e7 e8 : D) (t : T α) (x : Option α) : getP (.x d0 d1 d2 d3 d4 d5 d6 d7 d8) (putP (.x e0 e1 e2 e3 e4 e5 e6 e7 e8) t x) = if Pth.x d0 d1 d2 d3 d4 d5 d6 d7 d8 = .x e0 e1 e2 e3 e4 e5 e6 e7 e8 then x else getP (.x d0 d1 d2 d3 d4 d5 d6 d7 d8) t := by
  show sel d8 (sel d7 (sel d6 (sel d5 (sel d4 (sel d3 (sel d2 (sel d1 (sel d0 (upd e0 (upd e1 (upd e2 (upd e3 (upd e4 (upd e5 (upd e6 (upd e7 (upd e8 (fun _ => x))))))))) t.x))))))))) = if _ then x else sel d8 (sel d7 (sel d6 (sel d5 (sel d4 (sel d3 (sel d2 (sel d1 (sel d0 t.x))))))))
  by_cases h0 : d0 = e0
  rotate_left
  · simp only [sel_upd, h0, if_false, Pth.x.injEq, false_and]
  subst h0
  by_cases h1 : d1 = e1
  rotate_left
  · simp only [sel_upd, h1, if_true, if_false, Pth.x.injEq, false_and, and_false]
  subst h1
  by_cases h2 : d2 = e2
  rotate_left
  · simp only [sel_upd, h2, if_true, if_false, Pth.x.injEq, false_and, and_false]
  subst h2
  by_cases h3 : d3 = e3
  rotate_left
  · simp only [sel_upd, h3, if_true, if_false, Pth.x.injEq, false_and, and_false]
  subst h3
  by_cases h4 : d4 = e4
  rotate_left
  · simp only [sel_upd, h4, if_true, if_false, Pth.x.injEq, false_and, and_false]
  subst h4
  by_cases h5 : d5 = e5
  rotate_left
  · simp only [sel_upd, h5, if_true, if_false, Pth.x.injEq, false_and, and_false]
  subst h5
  by_cases h6 : d6 = e6
  rotate_left
  · simp only [sel_upd, h6, if_true, if_false, Pth.x.injEq, false_and, and_false]
  subst h6
  by_cases h7 : d7 = e7
  rotate_left
  · simp only [sel_upd, h7, if_true, if_false, Pth.x.injEq, false_and, and_false]
  subst h7
  by_cases h8 : d8 = e8
  rotate_left
  · simp only [sel_upd, h8, if_true, if_false, Pth.x.injEq, and_false]
  subst h8
  simp only [sel_upd, if_true]
theorem getP_putP (p q : Pth) (t : T α) (x : Option α) : getP p (putP q t x) = if p = q then x else getP p t := by
  cases p <;> cases q <;> first | exact gp_s .. | exact gp_m .. | exact gp_l .. | exact gp_x .. | skip
  all_goals first | (rw [if_neg (by intro h; cases h)]; rfl) | skip
  rename_i m n
  show (t.r.put n x).get m = if _ then x else t.r.get m
  rw [TB.get_put]
  simp only [Pth.r.injEq]
theorem get_put (t : T α) (n : Nat) (x : Option α) (k : Nat) : (t.put n x).get k = if k = n then x else t.get k := by
  show getP (ptOf k) (putP (ptOf n) t x) = _
  rw [getP_putP]
  by_cases h : k = n
  · subst h; simp
  · rw [if_neg h, if_neg fun e => h (ptOf_inj e)]; rfl
theorem get_set (t : T α) (n : Nat) (x : α) (k : Nat) : (t.set n x).get k = if k = n then some x else t.get k := get_put t n _ k
theorem get_leaf (n : Nat) : (T.leaf : T α).get n = none := by
  show getP (ptOf n) leaf = none
  cases ptOf n
  · rename_i d0 d1
    show sel d1 (sel d0 (T.leaf : T α).s) = none
    simp only [T.leaf, sel_of]
  · rename_i d0 d1 d2 d3
    show sel d3 (sel d2 (sel d1 (sel d0 (T.leaf : T α).m))) = none
    simp only [T.leaf, sel_of]
  · rename_i d0 d1 d2 d3 d4 d5
    show sel d5 (sel d4 (sel d3 (sel d2 (sel d1 (sel d0 (T.leaf : T α).l))))) = none
    simp only [T.leaf, sel_of]
  · rename_i d0 d1 d2 d3 d4 d5 d6 d7 d8
    show sel d8 (sel d7 (sel d6 (sel d5 (sel d4 (sel d3 (sel d2 (sel d1 (sel d0 (T.leaf : T α).x)))))))) = none
    simp only [T.leaf, sel_of]
  · rfl
end T
theorem Cells.get_set (c : Cells) (n : Nat) (v : AV) (k : Nat) : (c.set n v).get k = if k = n then some v else c.get k := by
  show (Option.rec none (fun v => some v.up) ((c.t.set n v.down).get k) : Option AV) = _
  rw [T.get_set]
  split
  · show some v.down.up = _; rw [up_down]
  · rfl
theorem Cells.get_leaf (k : Nat) : Cells.leaf.get k = none := by
  show (Option.rec none (fun v => some v.up) ((T.leaf : T FV).get k) : Option AV) = _
  rw [T.get_leaf]
theorem brecV (a b : FV) (c : Bool) : (Bool.rec a b c : FV) = if c = true then b else a := by cases c <;> rfl
theorem brecF (a b : Fr) (c : Bool) : (Bool.rec a b c : Fr) = if c = true then b else a := by cases c <;> rfl
theorem slot_eq (fr : Fr) (t : Nat) : fr.slot t = if t ≤ 255 then sel (dg t) (sel (dg (t / 4)) (sel (dg (t / 16)) (sel (dg (t / 64)) fr.lo))) else Option.rec (.oth .bad) (fun v => v) (fr.hi.get t) := by
  unfold Fr.slot; simp only [brecV, Nat.ble_eq]; rfl
theorem put_eq (fr : Fr) (t : Nat) (v : FV) : fr.put t v = if t ≤ 255 then ⟨upd (dg (t / 64)) (upd (dg (t / 16)) (upd (dg (t / 4)) (upd (dg t) (fun _ => v)))) fr.lo, fr.hi⟩ else ⟨fr.lo, fr.hi.set t v⟩ := by
  unfold Fr.put; simp only [brecF, Nat.ble_eq]; rfl
theorem slot_put (fr : Fr) (t : Nat) (v : FV) (k : Nat) : (fr.put t v).slot k = if k = t then v else fr.slot k := by
  rw [slot_eq, put_eq, slot_eq]
  by_cases h1 : k ≤ 255 <;> by_cases h2 : t ≤ 255 <;> simp only [h1, h2, if_true, if_false]
  · by_cases e3 : dg (k / 64) = dg (t / 64)
    rotate_left
    · have : k ≠ t := by intro e; subst e; exact e3 rfl
      simp only [sel_upd, e3, this, if_false]
    by_cases e2 : dg (k / 16) = dg (t / 16)
    rotate_left
    · have : k ≠ t := by intro e; subst e; exact e2 rfl
      simp only [sel_upd, e3, e2, this, if_true, if_false]
    by_cases e1 : dg (k / 4) = dg (t / 4)
    rotate_left
    · have : k ≠ t := by intro e; subst e; exact e1 rfl
      simp only [sel_upd, e3, e2, e1, this, if_true, if_false]
    by_cases e0 : dg k = dg t
    rotate_left
    · have : k ≠ t := by intro e; subst e; exact e0 rfl
      simp only [sel_upd, e3, e2, e1, e0, this, if_true, if_false]
    have : k = t := by
      have := dg_inj e3; have := dg_inj e2; have := dg_inj e1; have := dg_inj e0; omega
    simp only [sel_upd, this, if_true]
  · have : k ≠ t := by omega
    simp only [this, if_false]
  · have : k ≠ t := by omega
    simp only [this, if_false]
  · rw [T.get_set]
    split <;> rfl
theorem Fr.get_set (fr : Fr) (t : Nat) (v : AV) (k : Nat) : (fr.set t v).get k = if k = t then v.nb else fr.get k := by
  show ((fr.put t v.down).slot k).up.nb = _
  rw [slot_put]
  split
  · rw [up_down]
  · rfl
theorem Fr.get_leaf (k : Nat) : Fr.leaf.get k = none := by
  show (Fr.leaf.slot k).up.nb = none
  rw [slot_eq]
  split
  · simp only [Fr.leaf, sel_of]; rfl
  · simp only [Fr.leaf, T.get_leaf]; rfl
end Go.Proofs.YtaadkdmbhckdeaaDoor.AX
