/- AX, part 10: the abstract memory and the model's heap. -/
import Derived.CallsIn
import Derived.Laws.Sem
import Derived.Lib.Strings
import Derived.Laws.StructEq
namespace Go.Proofs.YtdjeokgkeejpcaaGreatDoor.AX

/-- A digit by four; four of a kind. -/
inductive D where
  | a | b | c | d
  deriving DecidableEq
structure Q (α : Type) where
  a : α
  b : α
  c : α
  d : α
noncomputable def sel {α : Type} (i : D) (q : Q α) : α := Q.rec (fun a b c d => D.rec a b c d i) q
noncomputable def upd {α : Type} (i : D) (f : α → α) (q : Q α) : Q α := Q.rec (fun a b c d => D.rec ⟨f a, b, c, d⟩ ⟨a, f b, c, d⟩ ⟨a, b, f c, d⟩ ⟨a, b, c, f d⟩ i) q
def Q.of {α : Type} (x : α) : Q α := ⟨x, x, x, x⟩
noncomputable def dg (n : Nat) : D := Bool.rec (Bool.rec .d .c (Nat.beq (Nat.mod n 4) 2)) (Bool.rec .b .a (Nat.beq (Nat.mod n 4) 0)) (Nat.ble (Nat.mod n 4) 1)
/-- A binary tree by the number's digits. -/
inductive TB (α : Type) where
  | leaf
  | node (l : TB α) (v : Option α) (r : TB α)
namespace TB
variable {α : Type}
noncomputable def get (t : TB α) : Nat → Option α :=
  TB.rec (fun _ => none) (fun _ v _ ihl ihr n => Nat.rec v (fun m _ => Bool.rec (ihr (Nat.div m 2)) (ihl (Nat.div m 2)) (Nat.beq (Nat.mod m 2) 0)) n) t
noncomputable def lf (ih : TB α → Nat → Option α → TB α) (n : Nat) (x : Option α) : TB α :=
  Nat.rec (.node .leaf x .leaf) (fun m _ => Bool.rec (.node .leaf none (ih .leaf (Nat.div m 2) x)) (.node (ih .leaf (Nat.div m 2) x) none .leaf) (Nat.beq (Nat.mod m 2) 0)) n
noncomputable def nd (ih : TB α → Nat → Option α → TB α) (l : TB α) (v : Option α) (r : TB α) (n : Nat) (x : Option α) : TB α :=
  Nat.rec (.node l x r) (fun m _ => Bool.rec (.node l v (ih r (Nat.div m 2) x)) (.node (ih l (Nat.div m 2) x) v r) (Nat.beq (Nat.mod m 2) 0)) n
noncomputable def put (t : TB α) (n : Nat) (x : Option α) : TB α :=
  Nat.rec (motive := fun _ => TB α → Nat → Option α → TB α) (fun t _ _ => t)
    (fun _ ih t n x => TB.rec (lf ih n x) (fun l v r _ _ => nd ih l v r n x) t) (Nat.succ n) t n x
noncomputable def set (t : TB α) (n : Nat) (x : α) : TB α := put t n (some x)
end TB

/-- Where a number lies: in a row of 16, of 256, of 4096, of 262144, or beyond. -/
inductive Pth where
  | s (d0 d1 : D)
  | m (d0 d1 d2 d3 : D)
  | l (d0 d1 d2 d3 d4 d5 : D)
  | x (d0 d1 d2 d3 d4 d5 d6 d7 d8 : D)
  | r (n : Nat)
  deriving DecidableEq
noncomputable def ptOf (n : Nat) : Pth := Bool.rec (Bool.rec (Bool.rec (Bool.rec (.r n) (.x (dg (Nat.div n 65536)) (dg (Nat.div n 16384)) (dg (Nat.div n 4096)) (dg (Nat.div n 1024)) (dg (Nat.div n 256)) (dg (Nat.div n 64)) (dg (Nat.div n 16)) (dg (Nat.div n 4)) (dg n)) (Nat.ble n 262143)) (.l (dg (Nat.div n 1024)) (dg (Nat.div n 256)) (dg (Nat.div n 64)) (dg (Nat.div n 16)) (dg (Nat.div n 4)) (dg n)) (Nat.ble n 4095)) (.m (dg (Nat.div n 64)) (dg (Nat.div n 16)) (dg (Nat.div n 4)) (dg n)) (Nat.ble n 255)) (.s (dg (Nat.div n 4)) (dg n)) (Nat.ble n 15)
/-- A map from numbers. -/
structure T (α : Type) where
  s : Q (Q (Option α))
  m : Q (Q (Q (Q (Option α))))
  l : Q (Q (Q (Q (Q (Q (Option α))))))
  x : Q (Q (Q (Q (Q (Q (Q (Q (Q (Option α)))))))))
  r : TB α
namespace T
variable {α : Type}
def leaf : T α := ⟨(.of (.of none)), (.of (.of (.of (.of none)))), (.of (.of (.of (.of (.of (.of none)))))), (.of (.of (.of (.of (.of (.of (.of (.of (.of none))))))))), .leaf⟩
noncomputable def getP (p : Pth) : T α → Option α := Pth.rec (fun d0 d1 t => sel d1 (sel d0 t.s)) (fun d0 d1 d2 d3 t => sel d3 (sel d2 (sel d1 (sel d0 t.m)))) (fun d0 d1 d2 d3 d4 d5 t => sel d5 (sel d4 (sel d3 (sel d2 (sel d1 (sel d0 t.l)))))) (fun d0 d1 d2 d3 d4 d5 d6 d7 d8 t => sel d8 (sel d7 (sel d6 (sel d5 (sel d4 (sel d3 (sel d2 (sel d1 (sel d0 t.x))))))))) (fun n t => t.r.get n) p
noncomputable def putP (p : Pth) (t : T α) (y : Option α) : T α := T.rec (fun s m l x r => Pth.rec (fun d0 d1 => ⟨upd d0 (upd d1 (fun _ => y)) s, m, l, x, r⟩) (fun d0 d1 d2 d3 => ⟨s, upd d0 (upd d1 (upd d2 (upd d3 (fun _ => y)))) m, l, x, r⟩) (fun d0 d1 d2 d3 d4 d5 => ⟨s, m, upd d0 (upd d1 (upd d2 (upd d3 (upd d4 (upd d5 (fun _ => y)))))) l, x, r⟩) (fun d0 d1 d2 d3 d4 d5 d6 d7 d8 => ⟨s, m, l, upd d0 (upd d1 (upd d2 (upd d3 (upd d4 (upd d5 (upd d6 (upd d7 (upd d8 (fun _ => y))))))))) x, r⟩) (fun n => ⟨s, m, l, x, r.put n y⟩) p) t
noncomputable def get (t : T α) (n : Nat) : Option α := getP (ptOf n) t
noncomputable def put (t : T α) (n : Nat) (x : Option α) : T α := putP (ptOf n) t x
noncomputable def set (t : T α) (n : Nat) (x : α) : T α := put t n (some x)
end T

/-- An abstract value. 'bad': any value at all; 'one': any value of one cell. A block is named by an abstract number. -/
inductive AV where
  | bad
  | one
  | bool (b : Bool)
  | int (k : IntKind) (n : Int)
  | str (s : List Nat)
  | nilp
  | ptr (id off : Nat)
  | gptr (g off : Nat)
  | nils
  | slice (id off len cap : Nat)
  | opn (id off len sz : Nat)
  | gsl (g off len cap : Nat)
  | nilm
  | map (id : Nat)
  | fn (f : Fn) (first captured : List AV)
  | yld (id : Nat)
  | nilf
  | iface (t : Nat) (v : AV)
  | nili
  | agg (l : List AV)
  | tup (l : List AV)

/-- A value in a frame or a row of cells: a small type, quick to tell apart. -/
inductive FV where
  | nat (k : IntKind) (n : Nat)
  | bool (b : Bool)
  | ptr (id off : Nat)
  | slc (id off len cap : Nat)
  | opn (id off len sz : Nat)
  | oth (v : AV)
noncomputable def FV.up (v : FV) : AV := FV.rec (fun k n => .int k (.ofNat n)) (fun b => .bool b) (fun i o => .ptr i o) (fun i o l c => .slice i o l c) (fun i o l z => .opn i o l z) (fun v => v) v
def AV.down (v : AV) : FV :=
  match v with
  | .int k (.ofNat n) => .nat k n
  | .bool b => .bool b
  | .ptr i o => .ptr i o
  | .slice i o l c => .slc i o l c
  | .opn i o l z => .opn i o l z
  | v => .oth v
def AV.nb (v : AV) : Option AV :=
  match v with
  | .bad => none
  | v => some v
theorem up_down (v : AV) : v.down.up = v := by
  cases v <;> try rfl
  rename_i k n
  cases n <;> rfl
theorem nb_some {v u : AV} (h : v.nb = some u) : v = u := by
  cases v <;> simp [AV.nb] at h <;> exact h
theorem nb_getD (v : AV) : v.nb.getD .bad = v := by cases v <;> rfl

/-- A row of cells. -/
structure Cells where
  t : T FV
def Cells.leaf : Cells := ⟨.leaf⟩
noncomputable def Cells.get (c : Cells) (n : Nat) : Option AV := Option.rec none (fun v => some v.up) (c.t.get n)
noncomputable def Cells.set (c : Cells) (n : Nat) (v : AV) : Cells := ⟨c.t.set n v.down⟩
/-- A frame: 256 slots at hand, and others. -/
structure Fr where
  lo : Q (Q (Q (Q FV)))
  hi : T FV
def Fr.leaf : Fr := ⟨.of (.of (.of (.of (.oth .bad)))), .leaf⟩
noncomputable def Fr.slot (fr : Fr) (t : Nat) : FV := Bool.rec (Option.rec (.oth .bad) (fun v => v) (fr.hi.get t)) (sel (dg t) (sel (dg (Nat.div t 4)) (sel (dg (Nat.div t 16)) (sel (dg (Nat.div t 64)) fr.lo)))) (Nat.ble t 255)
noncomputable def Fr.put (fr : Fr) (t : Nat) (v : FV) : Fr := Fr.rec (fun lo hi => Bool.rec ⟨lo, hi.set t v⟩ ⟨upd (dg (Nat.div t 64)) (upd (dg (Nat.div t 16)) (upd (dg (Nat.div t 4)) (upd (dg t) (fun _ => v)))) lo, hi⟩ (Nat.ble t 255)) fr
noncomputable def Fr.get (fr : Fr) (t : Nat) : Option AV := (fr.slot t).up.nb
noncomputable def Fr.set (fr : Fr) (t : Nat) (v : AV) : Fr := fr.put t v.down

/-- What is known of a row of cells beside its cells: nothing; no string has to do with it; and it is of that type; and these are all. -/
inductive Cl where
  | no
  | yes
  | ty (t : Nat)
  | whole (t : Nat)
def Cl.is : Cl → Bool
  | .no => false
  | _ => true
def Cl.row (e : Nat) (c : Cl) : Cl :=
  match c with
  | .no => .no
  | .yes => .yes
  | .ty t => match Nat.beq t e with
    | true => .ty e
    | false => .yes
  | .whole t => match Nat.beq t e with
    | true => .ty e
    | false => .yes
/-- What stands in an abstract block. 'cells c n cl': the cells below n are known; 'cl': no string has to do with it. -/
inductive Blk where
  | cells (c : Cells) (n : Nat) (cl : Cl)
  | map (es : List (AV × AV)) (bs : List Nat) (clk : Nat)
  | mapIter (m : Option Nat) (since : Nat) (seen : List Nat) (last : Nat)
  | loop (st : LoopState) (pend : Option Code) (f : FuncId) (fr : Fr) (sz : Nat) (ps : List Nat) (assign body : Code) (d : Nat)
  | dfr (done : Bool)
  | strIter (s : List Nat) (pos : Nat)

abbrev Hp := T Blk

/-- Where an abstract block lies: its number in the heap, its first cell, how many cells it has. -/
structure Info where
  blk : Nat
  base : Nat
  room : Nat

abbrev Sig := Nat → Option Info

def bytesOf (s : ByteArray) : List Nat := s.data.toList.map UInt8.toNat

mutual
inductive VRel (σ : Sig) : AV → Value → Prop
  | bad (v : Value) : VRel σ .bad v
  | one {v : Value} (h : v.cells = #[v]) (h' : ∀ l, v ≠ .tuple l) : VRel σ .one v
  | bool (b : Bool) : VRel σ (.bool b) (.bool b)
  | int (k : IntKind) (n : Int) : VRel σ (.int k n) (.int k n)
  | str (s : ByteArray) {l : List Nat} (h : bytesOf s = l) : VRel σ (.str l) (.string s)
  | nilp : VRel σ .nilp (.pointer none)
  | ptr {id off : Nat} {i : Info} (h : σ id = some i) : VRel σ (.ptr id off) (.pointer (some ⟨i.blk, i.base + off, none⟩))
  | gptr (g off : Nat) : VRel σ (.gptr g off) (.pointer (some ⟨g, off, none⟩))
  | nils : VRel σ .nils (.slice none 0 0)
  | slice {id off len cap off' : Nat} {i : Info} (h : σ id = some i) (hl : len ≤ cap) (ho : off' = i.base + off ∨ cap = 0) : VRel σ (.slice id off len cap) (.slice (some ⟨i.blk, off', none⟩) len cap)
  | opn {id off len sz c off' : Nat} {i : Info} (h : σ id = some i) (hl : len ≤ c) (hr : off + c * sz ≤ i.room) (ho : off' = i.base + off ∨ c = 0) : VRel σ (.opn id off len sz) (.slice (some ⟨i.blk, off', none⟩) len c)
  | gsl (g off : Nat) {len cap : Nat} (hl : len ≤ cap) : VRel σ (.gsl g off len cap) (.slice (some ⟨g, off, none⟩) len cap)
  | nilm : VRel σ .nilm (.map none)
  | map {id : Nat} {i : Info} (h : σ id = some i) : VRel σ (.map id) (.map (some i.blk))
  | fn (f : Fn) {l m : List AV} {vs ws : Array Value} (h : VRels σ l vs.toList) (h' : VRels σ m ws.toList) : VRel σ (.fn f l m) (.func f vs ws)
  | yld {id : Nat} {i : Info} (h : σ id = some i) : VRel σ (.yld id) (.func (.yield i.blk) #[] #[])
  | nilf : VRel σ .nilf .nilFunc
  | iface (t : Nat) {v : AV} {x : Value} (h : VRel σ v x) : VRel σ (.iface t v) (.iface t x)
  | nili : VRel σ .nili .nilIface
  | agg {l : List AV} {vs : Array Value} (h : VRels σ l vs.toList) : VRel σ (.agg l) (.agg vs)
  | tup {l : List AV} {vs : Array Value} (h : VRels σ l vs.toList) : VRel σ (.tup l) (.tuple vs)
inductive VRels (σ : Sig) : List AV → List Value → Prop
  | nil : VRels σ [] []
  | cons {v : AV} {x : Value} {l : List AV} {xs : List Value} (h : VRel σ v x) (t : VRels σ l xs) : VRels σ (v :: l) (x :: xs)
end

def Sig.le (σ τ : Sig) : Prop := ∀ id i, σ id = some i → τ id = some i
instance : LE Sig := ⟨Sig.le⟩
theorem Sig.refl (σ : Sig) : σ ≤ σ := fun _ _ h => h
theorem Sig.trans {σ τ υ : Sig} (h : σ ≤ τ) (h' : τ ≤ υ) : σ ≤ υ := fun _ _ x => h' _ _ (h _ _ x)

mutual
theorem VRel.mono {σ τ : Sig} (hs : σ ≤ τ) : ∀ {v : AV} {x : Value}, VRel σ v x → VRel τ v x
  | _, _, .bad v => .bad v
  | _, _, .one h h' => .one h h'
  | _, _, .bool b => .bool b
  | _, _, .int k n => .int k n
  | _, _, .str s h => .str s h
  | _, _, .nilp => .nilp
  | _, _, .ptr h => .ptr (hs _ _ h)
  | _, _, .gptr g o => .gptr g o
  | _, _, .nils => .nils
  | _, _, .slice h hl ho => .slice (hs _ _ h) hl ho
  | _, _, .opn h hl hr ho => .opn (hs _ _ h) hl hr ho
  | _, _, .gsl g o hl => .gsl g o hl
  | _, _, .nilm => .nilm
  | _, _, .map h => .map (hs _ _ h)
  | _, _, .fn f h h' => .fn f (VRels.mono hs h) (VRels.mono hs h')
  | _, _, .yld h => .yld (hs _ _ h)
  | _, _, .nilf => .nilf
  | _, _, .iface t h => .iface t (VRel.mono hs h)
  | _, _, .nili => .nili
  | _, _, .agg h => .agg (VRels.mono hs h)
  | _, _, .tup h => .tup (VRels.mono hs h)
theorem VRels.mono {σ τ : Sig} (hs : σ ≤ τ) : ∀ {l : List AV} {xs : List Value}, VRels σ l xs → VRels τ l xs
  | _, _, .nil => .nil
  | _, _, .cons h t => .cons (VRel.mono hs h) (VRels.mono hs t)
end

namespace TB
variable {α : Type}
theorem get_leaf (n : Nat) : (TB.leaf : TB α).get n = none := rfl
theorem get_zero (l : TB α) (v : Option α) (r : TB α) : (TB.node l v r).get 0 = v := rfl
theorem brec {β : Type} (a b : β) (c : Bool) : (Bool.rec a b c : β) = if c = true then b else a := by cases c <;> rfl
theorem beq0 (m : Nat) : (Nat.beq (Nat.mod m 2) 0 = true) = (m % 2 = 0) := by
  show (Nat.beq (m % 2) 0 = true) = _
  simp
theorem get_succ (l : TB α) (v : Option α) (r : TB α) (m : Nat) : (TB.node l v r).get (m + 1) = if m % 2 = 0 then l.get (m / 2) else r.get (m / 2) := by
  have : (TB.node l v r).get (m + 1) = Bool.rec (r.get (m / 2)) (l.get (m / 2)) (Nat.beq (Nat.mod m 2) 0) := rfl
  rw [this, brec]; simp only [beq0]
/-- 'put' with its fuel. -/
noncomputable def putF (f : Nat) (t : TB α) (n : Nat) (x : Option α) : TB α :=
  Nat.rec (motive := fun _ => TB α → Nat → Option α → TB α) (fun t _ _ => t)
    (fun _ ih t n x => TB.rec (lf ih n x) (fun l v r _ _ => nd ih l v r n x) t) f t n x
theorem put_eq (t : TB α) (n : Nat) (x : Option α) : t.put n x = putF (n + 1) t n x := rfl
theorem putF_leaf (f : Nat) (n : Nat) (x : Option α) : putF (f + 1) .leaf n x = lf (putF f) n x := rfl
theorem putF_node (f : Nat) (l : TB α) (v : Option α) (r : TB α) (n : Nat) (x : Option α) : putF (f + 1) (.node l v r) n x = nd (putF f) l v r n x := rfl
theorem lf_zero (ih : TB α → Nat → Option α → TB α) (x : Option α) : lf ih 0 x = .node .leaf x .leaf := rfl
theorem lf_succ (ih : TB α → Nat → Option α → TB α) (m : Nat) (x : Option α) : lf ih (m + 1) x = if m % 2 = 0 then .node (ih .leaf (m / 2) x) none .leaf else .node .leaf none (ih .leaf (m / 2) x) := by
  have : lf ih (m + 1) x = Bool.rec (.node .leaf none (ih .leaf (m / 2) x)) (.node (ih .leaf (m / 2) x) none .leaf) (Nat.beq (Nat.mod m 2) 0) := rfl
  rw [this, brec]; simp only [beq0]
theorem nd_zero (ih : TB α → Nat → Option α → TB α) (l : TB α) (v : Option α) (r : TB α) (x : Option α) : nd ih l v r 0 x = .node l x r := rfl
theorem nd_succ (ih : TB α → Nat → Option α → TB α) (l : TB α) (v : Option α) (r : TB α) (m : Nat) (x : Option α) : nd ih l v r (m + 1) x = if m % 2 = 0 then .node (ih l (m / 2) x) v r else .node l v (ih r (m / 2) x) := by
  have : nd ih l v r (m + 1) x = Bool.rec (.node l v (ih r (m / 2) x)) (.node (ih l (m / 2) x) v r) (Nat.beq (Nat.mod m 2) 0) := rfl
  rw [this, brec]; simp only [beq0]
theorem get_putF (x : Option α) : ∀ (f n : Nat) (t : TB α) (k : Nat), n < f → (putF f t n x).get k = if k = n then x else t.get k := by
  intro f
  induction f with
  | zero => intro n t k h; omega
  | succ f ih =>
    intro n t k h
    cases t with
    | leaf =>
      rw [putF_leaf]
      cases n with
      | zero =>
        rw [lf_zero]
        cases k with
        | zero => rfl
        | succ k => rw [get_succ]; split <;> simp [get_leaf]
      | succ n =>
        rw [lf_succ]
        cases k with
        | zero => split <;> simp [get_zero, get_leaf]
        | succ k =>
          have hh := fun s => ih (n / 2) s (k / 2) (by omega)
          by_cases e : n % 2 = 0 <;> by_cases e' : k % 2 = 0 <;> simp only [e, e', if_true, if_false, get_succ, get_leaf, hh]
          · have : (k / 2 = n / 2) = (k + 1 = n + 1) := by apply propext; omega
            simp only [this]
          · have : ¬ (k + 1 = n + 1) := by omega
            simp only [this, if_false]
          · have : ¬ (k + 1 = n + 1) := by omega
            simp only [this, if_false]
          · have : (k / 2 = n / 2) = (k + 1 = n + 1) := by apply propext; omega
            simp only [this]
    | node l v r =>
      rw [putF_node]
      cases n with
      | zero =>
        rw [nd_zero]
        cases k with
        | zero => rfl
        | succ k => rw [get_succ, get_succ]; simp
      | succ n =>
        rw [nd_succ]
        cases k with
        | zero => split <;> simp [get_zero]
        | succ k =>
          have hh := fun s => ih (n / 2) s (k / 2) (by omega)
          by_cases e : n % 2 = 0 <;> by_cases e' : k % 2 = 0 <;> simp only [e, e', if_true, if_false, get_succ, hh]
          · have : (k / 2 = n / 2) = (k + 1 = n + 1) := by apply propext; omega
            simp only [this]
          · have : ¬ (k + 1 = n + 1) := by omega
            simp only [this, if_false]
          · have : ¬ (k + 1 = n + 1) := by omega
            simp only [this, if_false]
          · have : (k / 2 = n / 2) = (k + 1 = n + 1) := by apply propext; omega
            simp only [this]
theorem get_put (t : TB α) (n : Nat) (x : Option α) (k : Nat) : (t.put n x).get k = if k = n then x else t.get k := by
  rw [put_eq]; exact get_putF x _ _ _ _ (Nat.lt_succ_self n)
theorem get_set (t : TB α) (n : Nat) (x : α) (k : Nat) : (t.set n x).get k = if k = n then some x else t.get k := get_put t n _ k
end TB


theorem sel_upd {α : Type} (i j : D) (f : α → α) (q : Q α) : sel i (upd j f q) = if i = j then f (sel i q) else sel i q := by
  cases i <;> cases j <;> rfl
theorem sel_of {α : Type} (i : D) (x : α) : sel i (Q.of x) = x := by cases i <;> rfl
theorem dg_inj {m n : Nat} (h : dg m = dg n) : m % 4 = n % 4 := by
  have hm : m % 4 < 4 := Nat.mod_lt _ (by omega)
  have hn : n % 4 < 4 := Nat.mod_lt _ (by omega)
  have e : ∀ k : Nat, dg k = (Bool.rec (Bool.rec .d .c (Nat.beq (k % 4) 2)) (Bool.rec .b .a (Nat.beq (k % 4) 0)) (Nat.ble (k % 4) 1) : D) := fun _ => rfl
  rw [e, e] at h
  generalize m % 4 = x at *
  generalize n % 4 = y at *
  match x, y, hm, hn with
  | 0, 0, _, _ | 1, 1, _, _ | 2, 2, _, _ | 3, 3, _, _ => rfl
  | 0, 1, _, _ | 0, 2, _, _ | 0, 3, _, _ | 1, 0, _, _ | 1, 2, _, _ | 1, 3, _, _ | 2, 0, _, _ | 2, 1, _, _ | 2, 3, _, _ | 3, 0, _, _ | 3, 1, _, _ | 3, 2, _, _ => cases h
  | x + 4, _, h, _ => omega
  | _, y + 4, _, h => omega
noncomputable def ptSel (n : Nat) : Pth := if n ≤ 15 then .s (dg (Nat.div n 4)) (dg n) else if n ≤ 255 then .m (dg (Nat.div n 64)) (dg (Nat.div n 16)) (dg (Nat.div n 4)) (dg n) else if n ≤ 4095 then .l (dg (Nat.div n 1024)) (dg (Nat.div n 256)) (dg (Nat.div n 64)) (dg (Nat.div n 16)) (dg (Nat.div n 4)) (dg n) else if n ≤ 262143 then .x (dg (Nat.div n 65536)) (dg (Nat.div n 16384)) (dg (Nat.div n 4096)) (dg (Nat.div n 1024)) (dg (Nat.div n 256)) (dg (Nat.div n 64)) (dg (Nat.div n 16)) (dg (Nat.div n 4)) (dg n) else .r n
theorem brecP (a b : Pth) (c : Bool) : (Bool.rec a b c : Pth) = if c = true then b else a := by cases c <;> rfl
theorem ptOf_eq (n : Nat) : ptOf n = ptSel n := by
  unfold ptOf ptSel
  simp only [brecP, Nat.ble_eq]
theorem ptOf_inj {m n : Nat} (h : ptOf m = ptOf n) : m = n := by
  rw [ptOf_eq, ptOf_eq] at h
  have d4 : ∀ a b : Nat, Nat.div a b = a / b := fun _ _ => rfl
  unfold ptSel at h
  simp only [d4] at h
  by_cases a1 : m ≤ 15 <;> by_cases b1 : n ≤ 15 <;> simp only [a1, b1, if_true, if_false] at h
  · injection h with x0 x1
    have := dg_inj x0; have := dg_inj x1; omega
  · by_cases b2 : n ≤ 255 <;> simp only [b2, if_true, if_false] at h
    · cases h
    by_cases b3 : n ≤ 4095 <;> simp only [b3, if_true, if_false] at h
    · cases h
    by_cases b4 : n ≤ 262143 <;> simp only [b4, if_true, if_false] at h <;> cases h
  · by_cases a2 : m ≤ 255 <;> simp only [a2, if_true, if_false] at h
    · cases h
    by_cases a3 : m ≤ 4095 <;> simp only [a3, if_true, if_false] at h
    · cases h
    by_cases a4 : m ≤ 262143 <;> simp only [a4, if_true, if_false] at h <;> cases h
  by_cases a2 : m ≤ 255 <;> by_cases b2 : n ≤ 255 <;> simp only [a2, b2, if_true, if_false] at h
  · injection h with x0 x1 x2 x3
    have := dg_inj x0; have := dg_inj x1; have := dg_inj x2; have := dg_inj x3; omega
  · by_cases b3 : n ≤ 4095 <;> simp only [b3, if_true, if_false] at h
    · cases h
    by_cases b4 : n ≤ 262143 <;> simp only [b4, if_true, if_false] at h <;> cases h
  · by_cases a3 : m ≤ 4095 <;> simp only [a3, if_true, if_false] at h
    · cases h
    by_cases a4 : m ≤ 262143 <;> simp only [a4, if_true, if_false] at h <;> cases h
  by_cases a3 : m ≤ 4095 <;> by_cases b3 : n ≤ 4095 <;> simp only [a3, b3, if_true, if_false] at h
  · injection h with x0 x1 x2 x3 x4 x5
    have := dg_inj x0; have := dg_inj x1; have := dg_inj x2; have := dg_inj x3; have := dg_inj x4; have := dg_inj x5; omega
  · by_cases b4 : n ≤ 262143 <;> simp only [b4, if_true, if_false] at h <;> cases h
  · by_cases a4 : m ≤ 262143 <;> simp only [a4, if_true, if_false] at h <;> cases h
  by_cases a4 : m ≤ 262143 <;> by_cases b4 : n ≤ 262143 <;> simp only [a4, b4, if_true, if_false] at h
  · injection h with x0 x1 x2 x3 x4 x5 x6 x7 x8
    have := dg_inj x0; have := dg_inj x1; have := dg_inj x2; have := dg_inj x3; have := dg_inj x4; have := dg_inj x5; have := dg_inj x6; have := dg_inj x7; have := dg_inj x8; omega
  · cases h
  · cases h
  · injection h
namespace T
variable {α : Type}
theorem gp_s (d0 d1 e0 e1 : D) (t : T α) (x : Option α) : getP (.s d0 d1) (putP (.s e0 e1) t x) = if Pth.s d0 d1 = .s e0 e1 then x else getP (.s d0 d1) t := by
  show sel d1 (sel d0 (upd e0 (upd e1 (fun _ => x)) t.s)) = if _ then x else sel d1 (sel d0 t.s)
  by_cases h0 : d0 = e0
  rotate_left
  · simp only [sel_upd, h0, if_false, Pth.s.injEq, false_and]
  subst h0
  by_cases h1 : d1 = e1
  rotate_left
  · simp only [sel_upd, h1, if_true, if_false, Pth.s.injEq, and_false]
  subst h1
  simp only [sel_upd, if_true]
theorem gp_m (d0 d1 d2 d3 e0 e1 e2 e3 : D) (t : T α) (x : Option α) : getP (.m d0 d1 d2 d3) (putP (.m e0 e1 e2 e3) t x) = if Pth.m d0 d1 d2 d3 = .m e0 e1 e2 e3 then x else getP (.m d0 d1 d2 d3) t := by
  show sel d3 (sel d2 (sel d1 (sel d0 (upd e0 (upd e1 (upd e2 (upd e3 (fun _ => x)))) t.m)))) = if _ then x else sel d3 (sel d2 (sel d1 (sel d0 t.m)))
  by_cases h0 : d0 = e0
  rotate_left
  · simp only [sel_upd, h0, if_false, Pth.m.injEq, false_and]
  subst h0
  by_cases h1 : d1 = e1
  rotate_left
  · simp only [sel_upd, h1, if_true, if_false, Pth.m.injEq, false_and, and_false]
  subst h1
  by_cases h2 : d2 = e2
  rotate_left
  · simp only [sel_upd, h2, if_true, if_false, Pth.m.injEq, false_and, and_false]
  subst h2
  by_cases h3 : d3 = e3
  rotate_left
  · simp only [sel_upd, h3, if_true, if_false, Pth.m.injEq, and_false]
  subst h3
  simp only [sel_upd, if_true]
theorem gp_l (d0 d1 d2 d3 d4 d5 e0 e1 e2 e3 e4 e5 : D) (t : T α) (x : Option α) : getP (.l d0 d1 d2 d3 d4 d5) (putP (.l e0 e1 e2 e3 e4 e5) t x) = if Pth.l d0 d1 d2 d3 d4 d5 = .l e0 e1 e2 e3 e4 e5 then x else getP (.l d0 d1 d2 d3 d4 d5) t := by
  show sel d5 (sel d4 (sel d3 (sel d2 (sel d1 (sel d0 (upd e0 (upd e1 (upd e2 (upd e3 (upd e4 (upd e5 (fun _ => x)))))) t.l)))))) = if _ then x else sel d5 (sel d4 (sel d3 (sel d2 (sel d1 (sel d0 t.l)))))
  by_cases h0 : d0 = e0
  rotate_left
  · simp only [sel_upd, h0, if_false, Pth.l.injEq, false_and]
  subst h0
  by_cases h1 : d1 = e1
  rotate_left
  · simp only [sel_upd, h1, if_true, if_false, Pth.l.injEq, false_and, and_false]
  subst h1
  by_cases h2 : d2 = e2
  rotate_left
  · simp only [sel_upd, h2, if_true, if_false, Pth.l.injEq, false_and, and_false]
  subst h2
  by_cases h3 : d3 = e3
  rotate_left
  · simp only [sel_upd, h3, if_true, if_false, Pth.l.injEq, false_and, and_false]
  subst h3
  by_cases h4 : d4 = e4
  rotate_left
  · simp only [sel_upd, h4, if_true, if_false, Pth.l.injEq, false_and, and_false]
  subst h4
  by_cases h5 : d5 = e5
  rotate_left
  · simp only [sel_upd, h5, if_true, if_false, Pth.l.injEq, and_false]
  subst h5
  simp only [sel_upd, if_true]
theorem gp_x (d0 d1 d2 d3 d4 d5 d6 d7 d8 e0 e1 e2 e3 e4 e5 e6 e7 e8 : D) (t : T α) (x : Option α) : getP (.x d0 d1 d2 d3 d4 d5 d6 d7 d8) (putP (.x e0 e1 e2 e3 e4 e5 e6 e7 e8) t x) = if Pth.x d0 d1 d2 d3 d4 d5 d6 d7 d8 = .x e0 e1 e2 e3 e4 e5 e6 e7 e8 then x else getP (.x d0 d1 d2 d3 d4 d5 d6 d7 d8) t := by
  show sel d8 (sel d7 (sel d6 (sel d5 (sel d4 (sel d3 (sel d2 (sel d1 (sel d0 (upd e0 (upd e1 (upd e2 (upd e3 (upd e4 (upd e5 (upd e6 (upd e7 (upd e8 (fun _ => x))))))))) t.x))))))))) = if _ then x else sel d8 (sel d7 (sel d6 (sel d5 (sel d4 (sel d3 (sel d2 (sel d1 (sel d0 t.x))))))))
  by_cases h0 : d0 = e0
  rotate_left
  · simp only [sel_upd, h0, if_false, Pth.x.injEq, false_and]
  subst h0
  by_cases h1 : d1 = e1
  rotate_left
  · simp only [sel_upd, h1, if_true, if_false, Pth.x.injEq, false_and, and_false]
  subst h1
  by_cases h2 : d2 = e2
  rotate_left
  · simp only [sel_upd, h2, if_true, if_false, Pth.x.injEq, false_and, and_false]
  subst h2
  by_cases h3 : d3 = e3
  rotate_left
  · simp only [sel_upd, h3, if_true, if_false, Pth.x.injEq, false_and, and_false]
  subst h3
  by_cases h4 : d4 = e4
  rotate_left
  · simp only [sel_upd, h4, if_true, if_false, Pth.x.injEq, false_and, and_false]
  subst h4
  by_cases h5 : d5 = e5
  rotate_left
  · simp only [sel_upd, h5, if_true, if_false, Pth.x.injEq, false_and, and_false]
  subst h5
  by_cases h6 : d6 = e6
  rotate_left
  · simp only [sel_upd, h6, if_true, if_false, Pth.x.injEq, false_and, and_false]
  subst h6
  by_cases h7 : d7 = e7
  rotate_left
  · simp only [sel_upd, h7, if_true, if_false, Pth.x.injEq, false_and, and_false]
  subst h7
  by_cases h8 : d8 = e8
  rotate_left
  · simp only [sel_upd, h8, if_true, if_false, Pth.x.injEq, and_false]
  subst h8
  simp only [sel_upd, if_true]
theorem getP_putP (p q : Pth) (t : T α) (x : Option α) : getP p (putP q t x) = if p = q then x else getP p t := by
  cases p <;> cases q <;> first | exact gp_s .. | exact gp_m .. | exact gp_l .. | exact gp_x .. | skip
  all_goals first | (rw [if_neg (by intro h; cases h)]; rfl) | skip
  rename_i m n
  show (t.r.put n x).get m = if _ then x else t.r.get m
  rw [TB.get_put]
  simp only [Pth.r.injEq]
theorem get_put (t : T α) (n : Nat) (x : Option α) (k : Nat) : (t.put n x).get k = if k = n then x else t.get k := by
  show getP (ptOf k) (putP (ptOf n) t x) = _
  rw [getP_putP]
  by_cases h : k = n
  · subst h; simp
  · rw [if_neg h, if_neg fun e => h (ptOf_inj e)]; rfl
theorem get_set (t : T α) (n : Nat) (x : α) (k : Nat) : (t.set n x).get k = if k = n then some x else t.get k := get_put t n _ k
theorem get_leaf (n : Nat) : (T.leaf : T α).get n = none := by
  show getP (ptOf n) leaf = none
  cases ptOf n
  · rename_i d0 d1
    show sel d1 (sel d0 (T.leaf : T α).s) = none
    simp only [T.leaf, sel_of]
  · rename_i d0 d1 d2 d3
    show sel d3 (sel d2 (sel d1 (sel d0 (T.leaf : T α).m))) = none
    simp only [T.leaf, sel_of]
  · rename_i d0 d1 d2 d3 d4 d5
    show sel d5 (sel d4 (sel d3 (sel d2 (sel d1 (sel d0 (T.leaf : T α).l))))) = none
    simp only [T.leaf, sel_of]
  · rename_i d0 d1 d2 d3 d4 d5 d6 d7 d8
    show sel d8 (sel d7 (sel d6 (sel d5 (sel d4 (sel d3 (sel d2 (sel d1 (sel d0 (T.leaf : T α).x)))))))) = none
    simp only [T.leaf, sel_of]
  · rfl
end T
theorem Cells.get_set (c : Cells) (n : Nat) (v : AV) (k : Nat) : (c.set n v).get k = if k = n then some v else c.get k := by
  show (Option.rec none (fun v => some v.up) ((c.t.set n v.down).get k) : Option AV) = _
  rw [T.get_set]
  split
  · show some v.down.up = _; rw [up_down]
  · rfl
theorem Cells.get_leaf (k : Nat) : Cells.leaf.get k = none := by
  show (Option.rec none (fun v => some v.up) ((T.leaf : T FV).get k) : Option AV) = _
  rw [T.get_leaf]
theorem brecV (a b : FV) (c : Bool) : (Bool.rec a b c : FV) = if c = true then b else a := by cases c <;> rfl
theorem brecF (a b : Fr) (c : Bool) : (Bool.rec a b c : Fr) = if c = true then b else a := by cases c <;> rfl
theorem slot_eq (fr : Fr) (t : Nat) : fr.slot t = if t ≤ 255 then sel (dg t) (sel (dg (t / 4)) (sel (dg (t / 16)) (sel (dg (t / 64)) fr.lo))) else Option.rec (.oth .bad) (fun v => v) (fr.hi.get t) := by
  unfold Fr.slot; simp only [brecV, Nat.ble_eq]; rfl
theorem put_eq (fr : Fr) (t : Nat) (v : FV) : fr.put t v = if t ≤ 255 then ⟨upd (dg (t / 64)) (upd (dg (t / 16)) (upd (dg (t / 4)) (upd (dg t) (fun _ => v)))) fr.lo, fr.hi⟩ else ⟨fr.lo, fr.hi.set t v⟩ := by
  unfold Fr.put; simp only [brecF, Nat.ble_eq]; rfl
theorem slot_put (fr : Fr) (t : Nat) (v : FV) (k : Nat) : (fr.put t v).slot k = if k = t then v else fr.slot k := by
  rw [slot_eq, put_eq, slot_eq]
  by_cases h1 : k ≤ 255 <;> by_cases h2 : t ≤ 255 <;> simp only [h1, h2, if_true, if_false]
  · by_cases e3 : dg (k / 64) = dg (t / 64)
    rotate_left
    · have : k ≠ t := by intro e; subst e; exact e3 rfl
      simp only [sel_upd, e3, this, if_false]
    by_cases e2 : dg (k / 16) = dg (t / 16)
    rotate_left
    · have : k ≠ t := by intro e; subst e; exact e2 rfl
      simp only [sel_upd, e3, e2, this, if_true, if_false]
    by_cases e1 : dg (k / 4) = dg (t / 4)
    rotate_left
    · have : k ≠ t := by intro e; subst e; exact e1 rfl
      simp only [sel_upd, e3, e2, e1, this, if_true, if_false]
    by_cases e0 : dg k = dg t
    rotate_left
    · have : k ≠ t := by intro e; subst e; exact e0 rfl
      simp only [sel_upd, e3, e2, e1, e0, this, if_true, if_false]
    have : k = t := by
      have := dg_inj e3; have := dg_inj e2; have := dg_inj e1; have := dg_inj e0; omega
    simp only [sel_upd, this, if_true]
  · have : k ≠ t := by omega
    simp only [this, if_false]
  · have : k ≠ t := by omega
    simp only [this, if_false]
  · rw [T.get_set]
    split <;> rfl
theorem Fr.get_set (fr : Fr) (t : Nat) (v : AV) (k : Nat) : (fr.set t v).get k = if k = t then v.nb else fr.get k := by
  show ((fr.put t v.down).slot k).up.nb = _
  rw [slot_put]
  split
  · rw [up_down]
  · rfl
theorem Fr.get_leaf (k : Nat) : Fr.leaf.get k = none := by
  show (Fr.leaf.slot k).up.nb = none
  rw [slot_eq]
  split
  · simp only [Fr.leaf, sel_of]; rfl
  · simp only [Fr.leaf, T.get_leaf]; rfl
end Go.Proofs.YtdjeokgkeejpcaaGreatDoor.AX

namespace Go.Proofs.YtdjeokgkeejpcaaGreatDoor.AX

/- NUMBERS, with a short way for what is small. -/
def lim : IntKind → Nat
  | .i8 => 127 | .i16 => 32767 | .i32 => 2147483647 | .i64 => 9223372036854775807
  | .u8 => 255 | .u16 => 65535 | .u32 => 4294967295 | .u64 => 18446744073709551615
def wrapA (k : IntKind) (n : Int) : Int :=
  match n with
  | .ofNat m => match Nat.ble m (lim k) with
    | true => .ofNat m
    | false => k.wrap (.ofNat m)
  | .negSucc m => k.wrap (.negSucc m)
def addA (a b : Int) : Int :=
  match a, b with
  | .ofNat m, .ofNat n => .ofNat (Nat.add m n)
  | a, b => Int.add a b
def mulA (a b : Int) : Int :=
  match a, b with
  | .ofNat m, .ofNat n => .ofNat (Nat.mul m n)
  | a, b => Int.mul a b
def subA (a b : Int) : Int :=
  match a, b with
  | .ofNat m, .ofNat n => match Nat.ble n m with
    | true => .ofNat (Nat.sub m n)
    | false => Int.sub (.ofNat m) (.ofNat n)
  | a, b => Int.sub a b
def eqI (a b : Int) : Bool :=
  match a, b with
  | .ofNat m, .ofNat n => Nat.beq m n
  | .negSucc m, .negSucc n => Nat.beq m n
  | _, _ => false
def leI (a b : Int) : Bool :=
  match a, b with
  | .ofNat m, .ofNat n => Nat.ble m n
  | .negSucc m, .negSucc n => Nat.ble n m
  | .negSucc _, .ofNat _ => true
  | .ofNat _, .negSucc _ => false
def ltI (a b : Int) : Bool := !(leI b a)
def natOf (a : Int) : Nat :=
  match a with
  | .ofNat m => m
  | .negSucc _ => 0

def bitsA (op : BinOp) (k : IntKind) (x y : Int) : Option Int :=
  let a := BitVec.ofInt k.bits x
  let b := BitVec.ofInt k.bits y
  match op with
  | .and => some (k.wrap (a &&& b).toNat)
  | .or => some (k.wrap (a ||| b).toNat)
  | .xor => some (k.wrap (a ^^^ b).toNat)
  | .andNot => some (k.wrap (a &&& ~~~b).toNat)
  | _ => none
def bitsF (op : BinOp) (k : IntKind) (x y : Int) : Option Int := bitsA op k x y
def shlA (k : IntKind) (x : Int) (y : Nat) : Int :=
  match x with
  | .ofNat m => wrapA k (.ofNat (Nat.mul m (Nat.pow 2 (Nat.min y k.bits))))
  | .negSucc m => k.wrap (.negSucc m * 2 ^ (min y k.bits))
def shrA (k : IntKind) (x : Int) (y : Nat) : Int :=
  match x with
  | .ofNat m => .ofNat (Nat.div m (Nat.pow 2 (Nat.min y k.bits)))
  | .negSucc m => (Int.negSucc m).fdiv (2 ^ (min y k.bits))
def quoA (k : IntKind) (x y : Int) : Int :=
  match x, y with
  | .ofNat m, .ofNat n => wrapA k (.ofNat (Nat.div m n))
  | x, y => k.wrap (x.tdiv y)
def remA (x y : Int) : Int :=
  match x, y with
  | .ofNat m, .ofNat n => .ofNat (Nat.mod m n)
  | x, y => x.tmod y

/-- Two numbers of one kind. -/
def intBin (op : BinOp) (k : IntKind) (a b : Int) : Option AV :=
  match op with
  | .add => some (.int k (wrapA k (addA a b)))
  | .sub => some (.int k (wrapA k (subA a b)))
  | .mul => some (.int k (wrapA k (mulA a b)))
  | .quo => match eqI b 0 with
    | true => none
    | false => some (.int k (quoA k a b))
  | .rem => match eqI b 0 with
    | true => none
    | false => some (.int k (remA a b))
  | .and => (bitsF .and k a b).map (.int k ·)
  | .or => (bitsF .or k a b).map (.int k ·)
  | .xor => (bitsF .xor k a b).map (.int k ·)
  | .andNot => (bitsF .andNot k a b).map (.int k ·)
  | .eql => some (.bool (eqI a b))
  | .neq => some (.bool (!(eqI a b)))
  | .lss => some (.bool (ltI a b))
  | .leq => some (.bool (leI a b))
  | .gtr => some (.bool (ltI b a))
  | .geq => some (.bool (leI b a))
  | .shl => none
  | .shr => none
def kindEq : IntKind → IntKind → Bool
  | .i8, .i8 => true | .i16, .i16 => true | .i32, .i32 => true | .i64, .i64 => true
  | .u8, .u8 => true | .u16, .u16 => true | .u32, .u32 => true | .u64, .u64 => true
  | _, _ => false
def intOp (op : BinOp) (k : IntKind) (a : Int) (k' : IntKind) (b : Int) : Option AV :=
  match op with
  | .shl => match leI 0 b with
    | true => some (.int k (shlA k a (natOf b)))
    | false => none
  | .shr => match leI 0 b with
    | true => some (.int k (shrA k a (natOf b)))
    | false => none
  | op => match kindEq k k' with
    | true => intBin op k a b
    | false => none

/- STRINGS. -/
def lessB : List Nat → List Nat → Bool
  | _, [] => false
  | [], _ :: _ => true
  | a :: x, b :: y => match Nat.beq a b with
    | true => lessB x y
    | false => Nat.ble a b
def eqB : List Nat → List Nat → Bool
  | [], [] => true
  | a :: x, b :: y => match Nat.beq a b with
    | true => eqB x y
    | false => false
  | _, _ => false
/-- The order of two strings, as a number. -/
def cmpB : List Nat → List Nat → Int
  | [], [] => 0
  | [], _ :: _ => -1
  | _ :: _, [] => 1
  | a :: x, b :: y => match Nat.beq a b with
    | true => cmpB x y
    | false => match Nat.ble a b with
      | true => -1
      | false => 1
def strOp (op : BinOp) (x y : List Nat) : Option AV :=
  match op with
  | .add => match Nat.ble (x.length + y.length) 1000000000 with
    | true => some (.str (x ++ y))
    | false => none
  | .eql => some (.bool (eqB x y))
  | .neq => some (.bool (!(eqB x y)))
  | .lss => some (.bool (lessB x y))
  | .leq => some (.bool (lessB x y || eqB x y))
  | .gtr => some (.bool (!(lessB x y || eqB x y)))
  | .geq => some (.bool (!(lessB x y)))
  | _ => none

/- EQUAL VALUES. 'none': not known here. -/
def arrEq (f : Nat → Option Bool) : (n i : Nat) → Option Bool
  | 0, _ => some true
  | n + 1, i => match f i with
    | some true => arrEq f n (i + 1)
    | some false => some false
    | none => none
def fldEq (f : Field → Option Bool) : List Field → Option Bool
  | [] => some true
  | x :: l => match x.name == "_" with
    | true => fldEq f l
    | false => match f x with
      | some true => fldEq f l
      | some false => some false
      | none => none
def isAggT (P : Program) (t : TypeId) : Option Bool :=
  match P.underlying t with
  | some (.struct _) => some true
  | some (.array _ _) => some true
  | some _ => some false
  | none => none
def sizeT (P : Program) (t : TypeId) : Option Nat := (P.info? t).map (·.size)
/-- A part of a row of cells. -/
def partA (P : Program) (t : TypeId) (cs : List AV) (off : Nat) : Option AV :=
  match isAggT P t with
  | some true => match sizeT P t with
    | some n => some (.agg ((cs.drop off).take n))
    | none => none
  | some false => cs[off]?
  | none => none
def both (f : AV → AV → Option Bool) : Option AV → Option AV → Option Bool
  | some x, some y => f x y
  | _, _ => none
noncomputable def eqA (P : Program) : Nat → TypeId → AV → AV → Option Bool
  | 0, _, _, _ => none
  | d + 1, t, x, y =>
    match P.underlying t with
    | some .bool => match x, y with
      | .bool a, .bool b => some (a == b)
      | _, _ => none
    | some (.int _) => match x, y with
      | .int k a, .int k' b => match kindEq k k' with
        | true => some (eqI a b)
        | false => none
      | _, _ => none
    | some .string => match x, y with
      | .str a, .str b => some (eqB a b)
      | _, _ => none
    | some (.pointer _) => match x, y with
      | .nilp, .nilp => some true
      | .nilp, .ptr _ _ => some false
      | .nilp, .gptr _ _ => some false
      | .ptr _ _, .nilp => some false
      | .gptr _ _, .nilp => some false
      | _, _ => none
    | some (.slice _) => match x, y with
      | .nils, .nils => some true
      | .nils, .slice _ _ _ _ => some false
      | .nils, .opn _ _ _ _ => some false
      | .slice _ _ _ _, .nils => some false
      | .opn _ _ _ _, .nils => some false
      | _, _ => none
    | some (.map _ _) => match x, y with
      | .nilm, .nilm => some true
      | .nilm, .map _ => some false
      | .map _, .nilm => some false
      | _, _ => none
    | some (.func _ _ _) => match x, y with
      | .nilf, .nilf => some true
      | .nilf, .fn _ _ _ => some false
      | .nilf, .yld _ => some false
      | .fn _ _ _, .nilf => some false
      | .yld _, .nilf => some false
      | _, _ => none
    | some (.interface _) => match x, y with
      | .nili, .nili => some true
      | .nili, .iface _ _ => some false
      | .iface _ _, .nili => some false
      | .iface tx vx, .iface ty vy => match Nat.beq tx ty with
        | true => match P.info? tx with
          | some i => match i.comparable with
            | true => eqA P d tx vx vy
            | false => none
          | none => none
        | false => some false
      | _, _ => none
    | some (.struct fs) => match x, y with
      | .agg xs, .agg ys => match P.stoodInHeld t with
        | false => fldEq (fun f => both (eqA P d f.type) (partA P f.type xs f.offset) (partA P f.type ys f.offset)) fs.toList
        | true => none
      | _, _ => none
    | some (.array len e) => match x, y with
      | .agg xs, .agg ys => match sizeT P e with
        | some n => arrEq (fun i => both (eqA P d e) (partA P e xs (i * n)) (partA P e ys (i * n))) len 0
        | none => none
      | _, _ => none
    | _ => none
/-- Is the model's look at two nil interface values out of the way? -/
def guardOk (P : Program) (t : TypeId) (x y : Operand) (a b : AV) : Bool :=
  match a with
  | .nili => match b with
    | .nili => match x with
      | .const _ => true
      | _ => match y with
        | .const _ => true
        | _ => false
    | .bad => false
    | .one => false
    | _ => true
  | .agg _ => match b with
    | .agg _ => !(P.eqGuardType P.depth t)
    | .bad => false
    | .one => false
    | _ => true
  | .bad => false
  | .one => false
  | _ => match b with
    | .bad => false
    | .one => false
    | _ => true
noncomputable def eqOp (P : Program) (neg : Bool) (t : TypeId) (x y : Operand) (a b : AV) : Option AV :=
  match guardOk P t x y a b with
  | true => match eqA P 10000 t a b with
    | some r => some (.bool (r != neg))
    | none => none
  | false => none
noncomputable def binA (P : Program) (op : BinOp) (t : TypeId) (x y : Operand) (a b : AV) : Option AV :=
  match a with
  | .int k m => match b with
    | .int k' n => intOp op k m k' n
    | _ => none
  | .str s => match b with
    | .str u => strOp op s u
    | _ => none
  | _ => match op with
    | .eql => eqOp P false t x y a b
    | .neq => eqOp P true t x y a b
    | _ => none

def unA (op : UnOp) (x : AV) : Option AV :=
  match x with
  | .int k n => match op with
    | .neg => some (.int k (wrapA k (subA 0 n)))
    | .xor => match k.signed with
      | true => (bitsA .xor k (-1) n).map (.int k ·)
      | false => (bitsF .xor k (.ofNat (lim k)) n).map (.int k ·)
    | _ => none
  | .bool b => match op with
    | .not => some (.bool (!b))
    | _ => none
  | _ => none

def convA (P : Program) (src dst : TypeId) (x : AV) : Option AV :=
  match x with
  | .int _ n => match P.underlying src, P.underlying dst with
    | some (.int _), some (.int k) => some (.int k (wrapA k n))
    | _, _ => none
  | .str s => match P.underlying src, P.underlying dst with
    | some .string, some .string => some (.str s)
    | _, _ => none
  | _ => none

def fieldAddrA (P : Program) (s : TypeId) (x : AV) (n : Nat) : Option AV :=
  match P.underlying s with
  | some (.struct fs) => match fs[n]? with
    | some f => match sizeT P f.type with
      | some (_ + 1) => match x with
        | .ptr id off => some (.ptr id (Nat.add off f.offset))
        | _ => none
      | _ => none
    | none => none
  | _ => none
def fieldA (P : Program) (t : TypeId) (x : AV) (n : Nat) : Option AV :=
  match P.underlying t with
  | some (.struct fs) => match fs[n]? with
    | some f => match x with
      | .agg cs => partA P f.type cs f.offset
      | _ => none
    | none => none
  | _ => none
def inB (i : Int) (len : Nat) : Bool :=
  match i with
  | .ofNat m => Nat.ble (Nat.succ m) len
  | .negSucc _ => false
def indexAddrA (P : Program) (t : TypeId) (x ix : AV) : Option AV :=
  match ix with
  | .int _ i => match P.underlying t with
    | some (.slice e) => match sizeT P e with
      | some n => match x with
        | .slice id off len _ => match inB i len with
          | true => some (.ptr id (Nat.add off (Nat.mul (natOf i) n)))
          | false => none
        | .opn id off len _ => match inB i len with
          | true => some (.ptr id (Nat.add off (Nat.mul (natOf i) n)))
          | false => none
        | .gsl g off len _ => match inB i len with
          | true => some (.gptr g (Nat.add off (Nat.mul (natOf i) n)))
          | false => none
        | _ => none
      | none => none
    | some (.array len e) => match sizeT P e with
      | some n => match inB i len with
        | true => match x with
          | .ptr id off => some (.ptr id (Nat.add off (Nat.mul (natOf i) n)))
          | .gptr g off => some (.gptr g (Nat.add off (Nat.mul (natOf i) n)))
          | _ => none
        | false => none
      | none => none
    | _ => none
  | _ => none
def indexA (P : Program) (t : TypeId) (x ix : AV) : Option AV :=
  match ix with
  | .int _ i => match P.underlying t with
    | some (.array len e) => match sizeT P e with
      | some n => match inB i len with
        | true => match x with
          | .agg cs => partA P e cs (Nat.mul (natOf i) n)
          | _ => none
        | false => none
      | none => none
    | some .string => match x with
      | .str s => match i with
        | .ofNat m => match s[m]? with
          | some b => some (.int .u8 (.ofNat b))
          | none => none
        | .negSucc _ => none
      | _ => none
    | _ => none
  | _ => none
/-- A bound of a slice expression: at most y. -/
def boundA (y : Nat) (d : Nat) : Option AV → Option Nat
  | none => some d
  | some (.int _ i) => match leI 0 i with
    | true => match Nat.ble (natOf i) y with
      | true => some (natOf i)
      | false => none
    | false => none
  | some _ => none
/-- The bounds of a slice expression. -/
def bndA (cap len : Nat) (lo hi mx : Option AV) : Option (Nat × Nat × Nat) :=
  match mx with
  | none => match boundA cap len hi with
    | some h => match boundA h 0 lo with
      | some l => some (l, h, cap)
      | none => none
    | none => none
  | some mv => match hi with
    | some hv => match boundA cap 0 (some mv) with
      | some m => match boundA m 0 (some hv) with
        | some h => match boundA h 0 lo with
          | some l => some (l, h, m)
          | none => none
        | none => none
      | none => none
    | none => none
def sliceA (P : Program) (t : TypeId) (x : AV) (lo hi mx : Option AV) : Option AV :=
  match P.underlying t with
  | some .string => match x with
    | .str s => match mx with
      | none => match bndA s.length s.length lo hi none with
        | some (l, h, _) => some (.str ((s.take h).drop l))
        | none => none
      | some _ => none
    | _ => none
  | some (.slice e) => match sizeT P e with
    | some n => match x with
      | .nils => match bndA 0 0 lo hi mx with
        | some _ => some .nils
        | none => none
      | .slice id off len cap => match bndA cap len lo hi mx with
        | some (l, h, m) => some (.slice id (Nat.add off (Nat.mul l n)) (Nat.sub h l) (Nat.sub m l))
        | none => none
      | .opn id off len sz => match Nat.beq sz n with
        | true => match bndA len len lo hi mx with
          | some (l, h, m) => match mx with
            | none => some (.opn id (Nat.add off (Nat.mul l n)) (Nat.sub h l) sz)
            | some _ => some (.slice id (Nat.add off (Nat.mul l n)) (Nat.sub h l) (Nat.sub m l))
          | none => none
        | false => none
      | _ => none
    | none => none
  | some (.array n e) => match sizeT P e with
    | some z => match x with
      | .ptr id off => match mx with
        | none => match bndA n n lo hi none with
          | some (l, h, _) => some (.slice id (Nat.add off (Nat.mul l z)) (Nat.sub h l) (Nat.sub n l))
          | none => none
        | some _ => none
      | _ => none
    | none => none
  | _ => none

/-- The model's constant as an abstract value; addresses are not known here. -/
def atomOf (v : Value) : AV :=
  match v with
  | .bool b => .bool b
  | .int k n => .int k n
  | .string s => .str (bytesOf s)
  | .pointer none => .nilp
  | .slice none 0 0 => .nils
  | .map none => .nilm
  | .nilFunc => .nilf
  | .nilIface => .nili
  | _ => .bad
def ofVal (v : Value) : AV :=
  match v with
  | .agg cs => .agg (cs.toList.map atomOf)
  | .func f ⟨[]⟩ ⟨[]⟩ => match f with
    | .yield _ => .bad
    | f => .fn f [] []
  | .tuple ⟨[]⟩ => .tup []
  | v => atomOf v
/-- A type's zero value. -/
def zeroA (P : Program) (t : TypeId) : Option AV :=
  match P.info? t with
  | some i => match i.zero with
    | some v => some (ofVal v)
    | none => none
  | none => none
def cellsA : AV → Option (List AV)
  | .agg l => some l
  | .bad => none
  | .tup _ => none
  | v => some [v]
/-- Parts laid into a row of cells. -/
def layA (cs : List AV) (off : Nat) (new : List AV) : List AV := cs.take off ++ new ++ cs.drop (off + new.length)
def fillA (place : Nat → Option (Nat × Nat)) (cs : List AV) : List (Nat × AV) → Option (List AV)
  | [] => some cs
  | (i, v) :: rest => match place i with
    | some (off, size) => match cellsA v with
      | some new => match Nat.beq new.length size, Nat.ble (off + new.length) cs.length with
        | true, true => fillA place (layA cs off new) rest
        | _, _ => none
      | none => none
    | none => none
def fieldPlaces (P : Program) : List Field → Option (List (Nat × Nat))
  | [] => some []
  | f :: l => match sizeT P f.type, fieldPlaces P l with
    | some n, some r => some ((f.offset, n) :: r)
    | _, _ => none
def buildA (P : Program) (t : TypeId) (parts : List (Nat × AV)) : Option AV :=
  match zeroA P t with
  | some (.agg z) => match P.underlying t with
    | some (.struct fs) => match fieldPlaces P fs.toList with
      | some pl => match fillA (fun i => pl[i]?) z parts with
        | some cs => some (.agg cs)
        | none => none
      | none => none
    | some (.array _ e) => match sizeT P e with
      | some n => match fillA (fun i => some (i * n, n)) z parts with
        | some cs => some (.agg cs)
        | none => none
      | none => none
    | _ => none
  | _ => none
def pickA (c a b : AV) : Option AV :=
  match c with
  | .bool true => some a
  | .bool false => some b
  | _ => none
def nilCheckA (x : AV) : Option AV :=
  match x with
  | .ptr id off => some (.ptr id off)
  | .gptr g off => some (.gptr g off)
  | .fn (.func f) l m => some (.fn (.func f) l m)
  | .yld id => some (.yld id)
  | .slice a b c d => some (.slice a b c d)
  | .opn a b c d => some (.opn a b c d)
  | .iface t v => some (.iface t v)
  | .map id => some (.map id)
  | _ => none
def extractA (x : AV) (i : Nat) : Option AV :=
  match x with
  | .tup l => l[i]?
  | _ => none
def mkIfaceA (P : Program) (t : TypeId) (x : AV) : Option AV :=
  match P.underlying t with
  | some (.interface _) => none
  | some _ => some (.iface t x)
  | none => none
def lenA (P : Program) (t : TypeId) (x : AV) : Option AV :=
  match P.underlying t with
  | some .string => match x with
    | .str s => some (.int .i64 (.ofNat s.length))
    | _ => none
  | some (.array n _) => some (.int .i64 (.ofNat n))
  | some (.slice _) => match x with
    | .nils => some (.int .i64 0)
    | .slice _ _ n _ => some (.int .i64 (.ofNat n))
    | .opn _ _ n _ => some (.int .i64 (.ofNat n))
    | .gsl _ _ n _ => some (.int .i64 (.ofNat n))
    | _ => none
  | _ => none

def maxL (x : AV) (l : List AV) : Option AV :=
  match l with
  | [] => some x
  | y :: l => match x, y with
    | .int k a, .int _ b => maxL (.int k (match ltI a b with | true => b | false => a)) l
    | _, _ => none
def minL (x : AV) (l : List AV) : Option AV :=
  match l with
  | [] => some x
  | y :: l => match x, y with
    | .int k a, .int _ b => minL (.int k (match ltI b a with | true => b | false => a)) l
    | _, _ => none
def capA (P : Program) (t : TypeId) (x : AV) : Option AV :=
  match P.underlying t with
  | some (.array n _) => some (.int .i64 (.ofNat n))
  | some (.slice _) => match x with
    | .nils => some (.int .i64 0)
    | .slice _ _ _ n => some (.int .i64 (.ofNat n))
    | .gsl _ _ _ n => some (.int .i64 (.ofNat n))
    | _ => none
  | _ => none
/-- An interface value's type is looked at: a type that is no interface. -/
def typeAssertA (P : Program) (x : AV) (asserted : TypeId) (ok : Bool) : Option AV :=
  match P.underlying asserted with
  | some (.interface _) => none
  | some _ => match x with
    | .nili => match ok with
      | true => match zeroA P asserted with
        | some z => some (.tup [z, .bool false])
        | none => none
      | false => none
    | .iface t v => match Nat.beq t asserted with
      | true => match ok with
        | true => some (.tup [v, .bool true])
        | false => some v
      | false => match ok with
        | true => match zeroA P asserted with
          | some z => some (.tup [z, .bool false])
          | none => none
        | false => none
    | _ => none
  | none => none
/-- Is it an operation that touches no memory (0), that reads (1), that makes one block (2), or another (3)? -/
def cls (P : Program) (o : Op) : Nat :=
  match o with
  | .move _ | .assign _ | .pick .. | .nilCheck _ | .unOp .. | .fieldAddr .. | .field .. | .indexAddr .. | .index .. | .extract .. | .slice .. | .build .. | .makeInterface .. | .makeFunc .. | .typeAssert .. => 0
  | .binOp _ _ _ _ _ => 0
  | .convert src dst _ => match P.underlying src, P.underlying dst with
    | some (.slice _), _ => 1
    | some .string, some (.slice _) => 2
    | _, _ => 0
  | .load .. | .lookup .. | .entry _ => 1
  | .alloc _ | .box .. | .buildSlice .. | .makeMap .. | .makeSlice .. => 2
  | .call c => match c.callee with
    | .builtin .len => match (c.argTypes[0]?).bind P.underlying with
      | some (.map _ _) => 1
      | _ => 0
    | .builtin .cap | .builtin .min | .builtin .max => 0
    | _ => 3
  | .defer _ => 4
  | _ => 3
/-- An operation of class 0. -/
noncomputable def pureA (P : Program) (o : Op) (ρ : Operand → AV) : Option AV :=
  match o with
  | .move x => some (ρ x)
  | .assign x => some (ρ x)
  | .pick c a b => pickA (ρ c) (ρ a) (ρ b)
  | .binOp op t x y _ => binA P op t x y (ρ x) (ρ y)
  | .unOp op _ x => unA op (ρ x)
  | .convert src dst x => convA P src dst (ρ x)
  | .nilCheck x => nilCheckA (ρ x)
  | .fieldAddr s x f => fieldAddrA P s (ρ x) f
  | .field t x f => fieldA P t (ρ x) f
  | .indexAddr t x i => indexAddrA P t (ρ x) (ρ i)
  | .index t x i => indexA P t (ρ x) (ρ i)
  | .slice t x lo hi mx => sliceA P t (ρ x) (lo.map ρ) (hi.map ρ) (mx.map ρ)
  | .extract x i => extractA (ρ x) i
  | .build t ps => buildA P t (ps.toList.map fun p => (p.1, ρ p.2))
  | .makeInterface t x => mkIfaceA P t (ρ x)
  | .makeFunc fn first captured => match fn with
    | .yield _ => none
    | fn => some (.fn fn (first.toList.map ρ) (captured.toList.map ρ))
  | .typeAssert x _ asserted ok => typeAssertA P (ρ x) asserted ok
  | .call c => match c.callee with
    | .builtin .len => match c.argTypes[0]?, c.args[0]? with
      | some t, some x => lenA P t (ρ x)
      | _, _ => none
    | .builtin .max => match c.args.toList.map ρ with
      | x :: l => maxL x l
      | [] => none
    | .builtin .min => match c.args.toList.map ρ with
      | x :: l => minL x l
      | [] => none
    | .builtin .cap => match c.argTypes[0]?, c.args[0]? with
      | some t, some x => capA P t (ρ x)
      | _, _ => none
    | _ => none
  | _ => none
end Go.Proofs.YtdjeokgkeejpcaaGreatDoor.AX

namespace Go.Proofs.YtdjeokgkeejpcaaGreatDoor.AX

/-- A panic under way. -/
structure APan where
  v : AV
  recovered : Bool

/-- What a call comes to. -/
inductive Res where
  | fail (why : Option String)
  | done (v : AV) (hp : Hp) (nx : Nat)
  | pan (c : List APan) (hp : Hp) (nx : Nat)

/-- What is called: a function, or a round of a range over a function. -/
inductive Tgt where
  | fn (f : FuncId)
  | dfd (f : FuncId)
  | rnd (l : Nat)

/-- What a frame has deferred: the mark of a range over a function; a call. -/
inductive ADef where
  | mark (r : Nat)
  | call (f : AV) (args : List AV)

abbrev CallF := Tgt → List AV → Hp → Nat → Res
abbrev KN := Fr → List ADef → Hp → Nat → Res

/-- The fixed things: the program, and what package-level variables hold. -/
structure Ctx where
  P : Program
  gl : T Cells
  ext : T Nat := .leaf
  orc : T (List AV → Hp → Nat → Option (AV × Hp × Nat)) := .leaf
  dfd : T (List AV → Hp → Nat → Option (AV × Hp × Nat)) := .leaf
  rd : Bool := false

noncomputable def readN (c : Cells) (off : Nat) (n : Nat) : Option (List AV) :=
  Nat.rec (motive := fun _ => Nat → Option (List AV)) (fun _ => some []) (fun _ ih off => match c.get off with
    | some v => match ih (Nat.succ off) with
      | some l => some (v :: l)
      | none => none
    | none => none) n off
noncomputable def writeL (c : Cells) (off : Nat) (l : List AV) : Cells :=
  List.rec (motive := fun _ => Cells → Nat → Cells) (fun c _ => c) (fun v _ ih c off => ih (c.set off v) (Nat.succ off)) l c off
noncomputable def ofL (l : List AV) : Cells := writeL .leaf 0 l
/-- A frame whose first slots are set. -/
noncomputable def frW (fr : Fr) (off : Nat) (l : List AV) : Fr :=
  List.rec (motive := fun _ => Fr → Nat → Fr) (fun c _ => c) (fun v _ ih c off => ih (c.set off v) (Nat.succ off)) l fr off
noncomputable def frL (l : List AV) : Fr := frW .leaf 0 l

/-- The cells that a variable of type t takes, of a value. -/
def varCells (P : Program) (t : TypeId) (v : AV) : Option (List AV) :=
  match isAggT P t with
  | some true => match v with
    | .agg l => match sizeT P t with
      | some n => match Nat.beq l.length n with
        | true => some l
        | false => none
      | none => none
    | _ => none
  | some false => match v with
    | .bad => none
    | .agg _ => none
    | .tup _ => none
    | v => match sizeT P t with
      | some 1 => some [v]
      | _ => none
  | none => none

/- FORCING: what is kept is kept worked out. -/
def forceN {β : Type} (n : Nat) (k : Nat → β) : β := k n
def forceI {β : Type} (n : Int) (k : Int → β) : β := k n
def forceB {β : Type} (b : Bool) (k : Bool → β) : β := k b
def forceLN {β : Type} (l : List Nat) (k : List Nat → β) : β := k l
def forceV {β : Type} (v : AV) (k : AV → β) : β := k v

/- MAPS whose keys are numbers, strings or bools. -/
def keyD (d : TypeDesc) : Bool :=
  match d with
  | .int _ => true
  | .string => true
  | .bool => true
  | _ => false
/-- Two keys, told apart at once. 'none': not known. -/
def keyEq (d : TypeDesc) (a b : AV) : Option Bool :=
  match d with
  | .int _ => match a, b with
    | .int k x, .int k' y => match kindEq k k' with
      | true => some (eqI x y)
      | false => none
    | _, _ => none
  | .string => match a, b with
    | .str x, .str y => some (eqB x y)
    | _, _ => none
  | .bool => match a, b with
    | .bool x, .bool y => some (x == y)
    | _, _ => none
  | _ => none
noncomputable def findA (d : TypeDesc) (k : AV) (es : List (AV × AV)) : Option (Option AV) :=
  List.rec (motive := fun _ => Option (Option AV)) (some none)
    (fun e _ ih => Option.rec none (fun b => Bool.rec ih (some (some e.2)) b) (keyEq d k e.1)) es
noncomputable def updA (d : TypeDesc) (k v : AV) (es : List (AV × AV)) : (Bool → List (AV × AV) → Res) → Res :=
  List.rec (motive := fun _ => (Bool → List (AV × AV) → Res) → Res) (fun g => g true [(k, v)])
    (fun e l ih g => Option.rec (.fail none) (fun b => Bool.rec (ih fun n l' => g n (e :: l')) (g false ((k, v) :: l)) b) (keyEq d k e.1)) es
def numOf (v : AV) : Option Int :=
  match v with
  | .int .i64 n => some n
  | _ => none
noncomputable def numsOf (l : List AV) : Option (List Int) :=
  List.rec (some []) (fun v _ ih => match numOf v, ih with
    | some n, some r => some (n :: r)
    | _, _ => none) l
/-- Types all of whose cells are ints: how many. -/
def flatFs (f sz : TypeId → Option Nat) : List Field → Nat → Option Nat
  | [], off => some off
  | x :: l, off => match x.name == "_", Nat.beq x.offset off, f x.type, sz x.type with
    | false, true, some k, some k' => match Nat.beq k k' with
      | true => flatFs f sz l (off + k)
      | false => none
    | _, _, _, _ => none
def flatI (P : Program) : Nat → TypeId → Option Nat
  | 0, _ => none
  | d + 1, t => match P.underlying t with
    | some (.int .i64) => match sizeT P t with
      | some 1 => some 1
      | _ => none
    | some (.array len e) => match flatI P d e, sizeT P e with
      | some k, some k' => match Nat.beq k k' with
        | true => some (len * k)
        | false => none
      | _, _ => none
    | some (.struct fs) => match P.stoodInHeld t with
      | false => flatFs (flatI P d) (sizeT P) fs.toList 0
      | true => none
    | _ => none
noncomputable def eqL (l : List Int) : List Int → Bool :=
  List.rec (motive := fun _ => List Int → Bool) (fun m => List.rec true (fun _ _ _ => false) m) (fun a _ ih m => List.rec false (fun b m' _ => Bool.rec false (ih m') (eqI a b)) m) l
/-- A key of n ints. -/
noncomputable def keyX (n : Nat) (a : AV) : Option (List Int) :=
  match a with
  | .agg l => match numsOf l with
    | some x => match Nat.beq x.length n with
      | true => some x
      | false => none
    | none => none
  | _ => none
noncomputable def findX (n : Nat) (x : List Int) (es : List (AV × AV)) : Option (Option AV) :=
  List.rec (motive := fun _ => Option (Option AV)) (some none)
    (fun e _ ih => Option.rec none (fun y => Bool.rec ih (some (some e.2)) (eqL x y)) (keyX n e.1)) es
noncomputable def findF (n : Nat) (k : AV) (es : List (AV × AV)) : Option (Option AV) :=
  match keyX n k with
  | some x => findX n x es
  | none => none
/-- The kind of a map's keys: of one cell; or of so many ints. -/
inductive KKind where
  | one (d : TypeDesc)
  | flat (n : Nat)
  | no
def kkind (P : Program) (kt : TypeId) : KKind :=
  match P.underlying kt with
  | some d => match keyD d with
    | true => .one d
    | false => match isAggT P kt, flatI P 10 kt with
      | some true, some n => .flat n
      | _, _ => .no
  | none => .no
noncomputable def entsA (x : AV) (hp : Hp) : Option (List (AV × AV)) :=
  match x with
  | .nilm => some []
  | .map id => match hp.get id with
    | some (.map es _ _) => some es
    | _ => none
  | _ => none
def okA (ok : Bool) (v : AV) (b : Bool) : AV :=
  match ok with
  | true => .tup [v, .bool b]
  | false => v
noncomputable def lookupA (P : Program) (t : TypeId) (x k : AV) (ok : Bool) (hp : Hp) : Option AV :=
  match P.underlying t with
  | some (.map kt e) => match kkind P kt, entsA x hp with
    | .one d, some es => match findA d k es with
      | some (some v) => some (okA ok v true)
      | some none => match zeroA P e with
        | some z => some (okA ok z false)
        | none => none
      | _ => none
    | .flat n, some es => match findF n k es with
      | some (some v) => some (okA ok v true)
      | some none => match zeroA P e with
        | some z => some (okA ok z false)
        | none => none
      | _ => none
    | _, _ => none
  | _ => none
noncomputable def mapUpdateA (P : Program) (t : TypeId) (m k v : AV) (hp : Hp) (nx : Nat) : Res :=
  match P.underlying t with
  | some (.map kt _) => match kkind P kt, m with
    | .one d, .map id => match hp.get id with
      | some (.map es bs clk) => forceV k fun k => forceV v fun v => updA d k v es fun n es' => .done (.tup []) (hp.set id (.map es' (Bool.rec bs (bs ++ [clk]) n) (Bool.rec clk (Nat.succ clk) n))) nx
      | _ => .fail none
    | .flat n, .map id => match hp.get id with
      | some (.map es bs clk) => match findF n k es with
        | some none => .done (.tup []) (hp.set id (.map (es ++ [(k, v)]) (bs ++ [clk]) (Nat.succ clk))) nx
        | _ => .fail none
      | _ => .fail none
    | _, _ => .fail none
  | _ => .fail none

/-- The beginning of a range over a map. -/
noncomputable def rangeA (P : Program) (t : TypeId) (x : AV) (hp : Hp) (nx : Nat) : Res :=
  match P.underlying t with
  | some (.map _ _) => match x with
    | .nilm => .done (.ptr nx 0) (hp.set nx (.mapIter none 0 [] 0)) (Nat.succ nx)
    | .map id => match hp.get id with
      | some (.map _ _ clk) => .done (.ptr nx 0) (hp.set nx (.mapIter (some id) clk [] clk)) (Nat.succ nx)
      | _ => .fail none
    | _ => .fail none
  | _ => .fail none
/-- Which entries may come next: those that were there at the beginning, and newer ones. -/
def leftA (seen : List Nat) : List (AV × AV) → List Nat → List ((AV × AV) × Nat)
  | e :: es, b :: bs => match seen.contains b with
    | true => leftA seen es bs
    | false => (e, b) :: leftA seen es bs
  | _, _ => []
/-- The next entry of a range over a map, where there is no choice. -/
noncomputable def nextA (it : AV) (hp : Hp) (nx : Nat) : Res :=
  match it with
  | .ptr id 0 => match hp.get id with
    | some (.mapIter none _ _ _) => .done (.tup [.bool false]) hp nx
    | some (.mapIter (some m) since seen last) => match hp.get m with
      | some (.map es bs clk) => match bs.all (fun b => Nat.ble (Nat.succ b) since) && Nat.ble since last with
        | false => .fail none
        | true => match leftA seen es bs with
          | [] => .done (.tup [.bool false]) hp nx
          | [(e, b)] => .done (.tup [.bool true, e.1, e.2]) (hp.set id (.mapIter (some m) since (seen ++ [b]) clk)) nx
          | _ => .fail none
      | _ => .fail none
    | _ => .fail none
  | _ => .fail none

def findB (b : Nat) : List (AV × AV) → List Nat → Option (AV × AV)
  | e :: es, c :: bs => match Nat.beq c b with
    | true => some e
    | false => findB b es bs
  | _, _ => none
def lastN : List Nat → Option Nat
  | [] => none
  | [b] => some b
  | _ :: l => lastN l
/-- The entry that a range over a map has come to. -/
noncomputable def entryA (it : AV) (hp : Hp) : Option AV :=
  match it with
  | .ptr id 0 => match hp.get id with
    | some (.mapIter (some m) _ seen last) => match hp.get m, lastN seen with
      | some (.map es bs clk), some b => match Nat.beq clk last, findB b es bs with
        | true, some e => some (.tup [e.1, e.2])
        | _, _ => none
      | _, _ => none
    | _ => none
  | _ => none

noncomputable def loadCells (P : Program) (t : TypeId) (c : Cells) (n off : Nat) : Option AV :=
  match isAggT P t with
  | some false => match Nat.ble (Nat.succ off) n with
    | true => c.get off
    | false => none
  | some true => match sizeT P t with
    | some z => match Nat.ble (Nat.add off z) n with
      | true => match readN c off z with
        | some l => some (.agg l)
        | none => none
      | false => none
    | none => none
  | none => none
noncomputable def loadA (C : Ctx) (t : TypeId) (x : AV) (hp : Hp) : Option AV :=
  match x with
  | .ptr id off => match hp.get id with
    | some (.cells c n _) => loadCells C.P t c n off
    | _ => none
  | .gptr g off => match C.gl.get g with
    | some c => match isAggT C.P t with
      | some false => c.get off
      | some true => match sizeT C.P t with
        | some z => match readN c off z with
          | some l => some (.agg l)
          | none => none
        | none => none
      | none => none
    | none => none
  | _ => none
/-- The first n elements (of z cells) of a slice, or a string's bytes. -/
noncomputable def elemsA (z : Nat) (n : Nat) (x : AV) (hp : Hp) : Option (List AV) :=
  match x with
  | .nils => some []
  | .slice id off _ _ => match hp.get id with
    | some (.cells c m _) => match Nat.ble (Nat.add off (Nat.mul n z)) m with
      | true => readN c off (Nat.mul n z)
      | false => none
    | _ => none
  | .opn id off _ _ => match hp.get id with
    | some (.cells c m _) => match Nat.ble (Nat.add off (Nat.mul n z)) m with
      | true => readN c off (Nat.mul n z)
      | false => none
    | _ => none
  | .str s => some ((s.take n).map fun b => .int .u8 (.ofNat b))
  | _ => none
def lenOfA (x : AV) : Option Nat :=
  match x with
  | .nils => some 0
  | .slice _ _ n _ => some n
  | .opn _ _ n _ => some n
  | .str s => some s.length
  | _ => none
def sliceLen (x : AV) : Option Nat :=
  match x with
  | .nils => some 0
  | .slice _ _ n _ => some n
  | .opn _ _ n _ => some n
  | _ => none
def byteOf (v : AV) : Option Nat :=
  match v with
  | .int .u8 (.ofNat n) => match Nat.ble n 255 with
    | true => some n
    | false => none
  | _ => none
def bytesA : List AV → Option (List Nat)
  | [] => some []
  | v :: l => match byteOf v, bytesA l with
    | some b, some r => some (b :: r)
    | _, _ => none
/-- An operation of class 1. -/
noncomputable def readA (C : Ctx) (o : Op) (ρ : Operand → AV) (hp : Hp) : Option AV :=
  match o with
  | .load t x => loadA C t (ρ x) hp
  | .convert src dst x => match C.P.underlying src, C.P.underlying dst with
    | some (.slice e), some .string => match C.P.underlying e with
      | some (.int .u8) => match sliceLen (ρ x) with
        | some n => match elemsA 1 n (ρ x) hp with
          | some l => match bytesA l with
            | some s => some (.str s)
            | none => none
          | none => none
        | none => none
      | _ => none
    | _, _ => none
  | .lookup t x k ok => lookupA C.P t (ρ x) (ρ k) ok hp
  | .entry it => entryA (ρ it) hp
  | .call c => match c.callee with
    | .builtin .len => match c.argTypes[0]?, c.args[0]? with
      | some t, some x => match C.P.underlying t, entsA (ρ x) hp with
        | some (.map _ _), some es => some (.int .i64 (.ofNat es.length))
        | _, _ => none
      | _, _ => none
    | _ => none
  | _ => none

def rep (z : List AV) : Nat → List AV
  | 0 => []
  | n + 1 => z ++ rep z n
/-- An operation of class 2: the block, and the value, by the block's number. -/
noncomputable def allocA (C : Ctx) (o : Op) (ρ : Operand → AV) : Option (Blk × (Nat → AV)) :=
  match o with
  | .alloc t => match zeroA C.P t with
    | some v => match cellsA v with
      | some l => some (.cells (ofL l) l.length (.whole t), fun id => .ptr id 0)
      | none => none
    | none => none
  | .box t x => match varCells C.P t (ρ x) with
    | some l => some (.cells (ofL l) l.length (.whole t), fun id => .ptr id 0)
    | none => none
  | .buildSlice t len ps => match C.P.underlying t with
    | some (.slice e) => match sizeT C.P e, zeroA C.P e with
      | some n, some v => match cellsA v with
        | some z => match Nat.beq z.length n, Nat.ble (len * n) 1000000, fillA (fun i => some (i * n, n)) (rep z len) (ps.toList.map fun p => (p.1, ρ p.2)) with
          | true, true, some cs => some (.cells (ofL cs) (len * n) (.ty e), fun id => .slice id 0 len len)
          | _, _, _ => none
        | none => none
      | _, _ => none
    | _ => none
  | .makeSlice t l c => match C.P.underlying t with
    | some (.slice e) => match C.P.info? e, zeroA C.P e with
      | some i, some v => match cellsA v, ρ l, ρ c with
        | some z, .int _ (.ofNat l), .int _ (.ofNat c) => match Nat.beq z.length i.size, Nat.ble l c, Nat.ble c 1000000, Nat.ble (i.bytes * c) 281474976710656 with
          | true, true, true, true => some (.cells (ofL (rep z c)) (c * i.size) (.ty e), fun id => .slice id 0 l c)
          | _, _, _, _ => none
        | _, _, _ => none
      | _, _ => none
    | _ => none
  | .convert src dst x => match C.P.underlying src, C.P.underlying dst with
    | some .string, some (.slice e) => match C.P.underlying e with
      | some (.int .u8) => match ρ x with
        | .str s => some (.cells (ofL (s.map fun b => .int .u8 (.ofNat b))) s.length .no, fun id => .opn id 0 s.length 1)
        | _ => none
      | _ => none
    | _, _ => none
  | .makeMap t r => match r with
    | none => some (.map [] [] 0, fun id => .map id)
    | some r => match C.P.underlying t, ρ r with
      | some (.map _ _), .int _ _ => some (.map [] [] 0, fun id => .map id)
      | _, _ => none
  | _ => none

def atomB (v : AV) : Bool :=
  match v with
  | .agg _ => false
  | .tup _ => false
  | .bad => false
  | _ => true
def atomsB : List AV → Bool
  | [] => true
  | v :: l => match atomB v with
    | true => atomsB l
    | false => false
noncomputable def storeA (C : Ctx) (t : TypeId) (x v : AV) (hp : Hp) (nx : Nat) : Res :=
  match x with
  | .ptr id off => match hp.get id with
    | some (.cells c n cl) => match varCells C.P t v with
      | some l => match Nat.ble (Nat.add off l.length) n, atomsB l with
        | true, true => .done (.tup []) (hp.set id (.cells (writeL c off l) n cl)) nx
        | _, _ => .fail none
      | none => .fail none
    | _ => .fail none
  | _ => .fail none

/-- The element type's zero value has so many cells. -/
def zeroOk (P : Program) (e : TypeId) (z : Nat) : Bool :=
  match zeroA P e with
  | some v => match cellsA v with
    | some l => Nat.beq l.length z
    | none => false
  | none => false
/-- May a slice grow to so many elements? -/
def roomOk (bytes need : Nat) : Bool :=
  match Nat.ble need 1000000000000 with
  | true => Nat.ble (Nat.mul (Nat.add (Nat.mul need 2) 1000) bytes) 140737488355328
  | false => false
/-- 'append' where it must grow: the cells are at hand. -/
noncomputable def growA (e z bytes need : Nat) (old new : List AV) (hp : Hp) (nx : Nat) : Res :=
  match roomOk bytes need with
  | true => .done (.opn nx 0 need z) (hp.set nx (.cells (ofL (old ++ new)) (Nat.mul need z) (.ty e))) (Nat.succ nx)
  | false => .fail none
/-- 'append' to a slice whose capacity is not known: the old name goes. -/
noncomputable def opnA (e id off len z bytes n : Nat) (new : List AV) (hp : Hp) (nx : Nat) : Res :=
  match hp.get id with
  | some (.cells c m cl) => match Nat.ble (Nat.add off (Nat.mul len z)) m, roomOk bytes (Nat.add len n), atomsB new with
    | true, true, true => match off with
      | 0 => .done (.opn nx 0 (Nat.add len n) z) ((hp.put id none).set nx (.cells (writeL c (Nat.mul len z) new) (Nat.mul (Nat.add len n) z) (cl.row e))) (Nat.succ nx)
      | off + 1 => match readN c (off + 1) (Nat.mul len z) with
        | some old => .done (.opn nx 0 (Nat.add len n) z) ((hp.put id none).set nx (.cells (ofL (old ++ new)) (Nat.mul (Nat.add len n) z) .no)) (Nat.succ nx)
        | none => .fail none
    | _, _, _ => .fail none
  | _ => .fail none
noncomputable def sliceAppA (e id off len cap z bytes n : Nat) (new : List AV) (hp : Hp) (nx : Nat) : Res :=
  match Nat.ble (Nat.add len n) cap with
  | true => match hp.get id with
    | some (.cells c m cl) => match Nat.ble (Nat.add off (Nat.mul (Nat.add len n) z)) m, atomsB new with
      | true, true => .done (.slice id off (Nat.add len n) cap) (hp.set id (.cells (writeL c (Nat.add off (Nat.mul len z)) new) m cl)) nx
      | _, _ => .fail none
    | _ => .fail none
  | false => match elemsA z len (.slice id off len cap) hp with
    | some old => growA e z bytes (Nat.add len n) old new hp nx
    | none => .fail none
noncomputable def appendA (C : Ctx) (ts : Array TypeId) (s x : AV) (hp : Hp) (nx : Nat) : Res :=
  match ts[0]?, ts[1]? with
  | some t, some t' => match C.P.underlying t, C.P.underlying t' with
    | some (.slice e), some (.int _) => match C.P.info? e, x with
      | some i, .int _ (.ofNat (n + 1)) => match s, zeroA C.P e with
        | .nils, some zv => match cellsA zv with
          | some zs => match zeroOk C.P e i.size, i.size, Nat.beq zs.length i.size with
            | true, _ + 1, true => growA e i.size i.bytes (n + 1) [] (rep zs (n + 1)) hp nx
            | _, _, _ => .fail none
          | none => .fail none
        | _, _ => .fail none
      | _, _ => .fail none
    | some (.slice e), some _ => match C.P.info? e, lenOfA x with
      | some i, some n => match elemsA i.size n x hp with
        | some new => match Nat.beq new.length (Nat.mul n i.size), zeroOk C.P e i.size, i.size with
          | true, true, _ + 1 => match n with
            | 0 => match s with
              | .nils => .done .nils hp nx
              | .slice id off len cap => .done (.slice id off len cap) hp nx
              | .opn id off len z => .done (.opn id off len z) hp nx
              | _ => .fail none
            | _ + 1 => match s with
              | .nils => growA e i.size i.bytes n [] new hp nx
              | .slice id off len cap => sliceAppA e id off len cap i.size i.bytes n new hp nx
              | .opn id off len z => match Nat.beq z i.size with
                | true => opnA e id off len z i.bytes n new hp nx
                | false => .fail none
              | _ => .fail none
          | _, _, _ => .fail none
        | none => .fail none
      | _, _ => .fail none
    | _, _ => .fail none
  | _, _ => .fail none
noncomputable def copyA (C : Ctx) (ts : Array TypeId) (d s : AV) (hp : Hp) (nx : Nat) : Res :=
  match ts[0]? with
  | some t => match C.P.underlying t with
    | some (.slice e) => match sizeT C.P e, lenOfA s with
      | some z, some n => match d with
        | .nils => match elemsA z 0 s hp with
          | some _ => .done (.int .i64 0) hp nx
          | none => .fail none
        | .slice id off len _ => match elemsA z (Nat.min n len) s hp, hp.get id with
          | some l, some (.cells c m cl) => match (Nat.ble (Nat.add off (Nat.mul (Nat.min n len) z)) m && atomsB l && Nat.beq l.length (Nat.mul (Nat.min n len) z)) with
            | true => .done (.int .i64 (.ofNat (Nat.min n len))) (hp.set id (.cells (writeL c off l) m cl)) nx
            | false => .fail none
          | _, _ => .fail none
        | .opn id off len _ => match elemsA z (Nat.min n len) s hp, hp.get id with
          | some l, some (.cells c m cl) => match (Nat.ble (Nat.add off (Nat.mul (Nat.min n len) z)) m && atomsB l && Nat.beq l.length (Nat.mul (Nat.min n len) z)) with
            | true => .done (.int .i64 (.ofNat (Nat.min n len))) (hp.set id (.cells (writeL c off l) m cl)) nx
            | false => .fail none
          | _, _ => .fail none
        | _ => .fail none
      | _, _ => .fail none
    | _ => .fail none
  | none => .fail none
/-- Without the entry of that key. -/
def delE (d : TypeDesc) (k : AV) : List (AV × AV) → List Nat → Option (List (AV × AV) × List Nat)
  | [], bs => some ([], bs)
  | e :: es, b :: bs => match keyEq d k e.1 with
    | some true => some (es, bs)
    | some false => match delE d k es bs with
      | some (es', bs') => some (e :: es', b :: bs')
      | none => none
    | none => none
  | _ :: _, [] => none
noncomputable def deleteA (C : Ctx) (ts : Array TypeId) (m k : AV) (hp : Hp) (nx : Nat) : Res :=
  match ts[0]? with
  | some t => match C.P.underlying t with
    | some (.map kt _) => match kkind C.P kt, m with
      | .one d, .map id => match hp.get id with
        | some (.map es bs clk) => match delE d k es bs with
          | some (es', bs') => .done (.tup []) (hp.set id (.map es' bs' clk)) nx
          | none => .fail none
        | _ => .fail none
      | _, _ => .fail none
    | _ => .fail none
  | none => .fail none
noncomputable def clearA (C : Ctx) (ts : Array TypeId) (x : AV) (hp : Hp) (nx : Nat) : Res :=
  match ts[0]? with
  | some t => match C.P.underlying t with
    | some (.slice e) => match sizeT C.P e, zeroA C.P e with
      | some z, some zv => match cellsA zv with
        | some zs => match x with
          | .nils => .done (.tup []) hp nx
          | .slice id off len _ => match hp.get id with
            | some (.cells c m cl) => match (Nat.ble (Nat.add off (Nat.mul len z)) m && atomsB (rep zs len) && Nat.beq zs.length z) with
              | true => .done (.tup []) (hp.set id (.cells (writeL c off (rep zs len)) m cl)) nx
              | false => .fail none
            | _ => .fail none
          | .opn id off len _ => match hp.get id with
            | some (.cells c m cl) => match (Nat.ble (Nat.add off (Nat.mul len z)) m && atomsB (rep zs len) && Nat.beq zs.length z) with
              | true => .done (.tup []) (hp.set id (.cells (writeL c off (rep zs len)) m cl)) nx
              | false => .fail none
            | _ => .fail none
          | _ => .fail none
        | none => .fail none
      | _, _ => .fail none
    | _ => .fail none
  | none => .fail none
/-- unsafe.SliceData. -/
def dataA (x : AV) (hp : Hp) (nx : Nat) : Res :=
  match x with
  | .nils => .done .nilp hp nx
  | .slice id off (_ + 1) _ => .done (.ptr id off) hp nx
  | .opn id off (_ + 1) _ => .done (.ptr id off) hp nx
  | _ => .fail none
/-- unsafe.String of the head of a row of bytes: the row is let go. -/
noncomputable def ustrA (C : Ctx) (ts : Array TypeId) (p n : AV) (hp : Hp) (nx : Nat) : Res :=
  match n with
  | .int .i64 (.ofNat 0) => match p, ts[0]? with
    | .nilp, some _ => .done (.str []) hp nx
    | .ptr _ _, some _ => .done (.str []) hp nx
    | _, _ => .fail none
  | .int .i64 (.ofNat (n + 1)) => match p, (ts[0]?).bind C.P.underlying with
    | .ptr id 0, some (.pointer e) => match hp.get id with
      | some (.cells c m (.ty t)) => match Nat.beq t e && Nat.beq (C.P.cellsOf e) 1 && Nat.ble (n + 1) m && Nat.ble (n + 1) 1000000000, readN c 0 (n + 1) with
        | true, some l => match bytesA l with
          | some s => .done (.str s) (hp.put id none) nx
          | none => .fail none
        | _, _ => .fail none
      | _ => .fail none
    | _, _ => .fail none
  | _ => .fail none
/-- A function without a body, of a known kind. -/
def extA (k : Nat) (args : List AV) : Option AV :=
  match k with
  | 0 => match args with
    | [.str a, .str b] => some (.int .i64 (cmpB a b))
    | _ => none
  | _ => none
noncomputable def callVal (ext : T Nat) (cl : CallF) (f : AV) (args : List AV) (hp : Hp) (nx : Nat) : Res :=
  match f with
  | .fn (.func g) first captured => match ext.get g with
    | none => cl (.fn g) (first ++ args ++ captured) hp nx
    | some k => match extA k (first ++ args ++ captured) with
      | some v => .done v hp nx
      | none => .fail none
  | .yld id => cl (.rnd id) args hp nx
  | _ => .fail none
/-- Which function a method of a type is; of a value that holds its receiver. -/
def methodA (P : Program) (t : TypeId) (name : String) : Option FuncId :=
  match P.info? t with
  | some i => match i.methods.find? (·.name == name) with
    | some m => match m.path.isEmpty, m.func with
      | true, some (f, ptr) => match P.underlying t with
        | some (.pointer _) => match ptr with
          | true => some f
          | false => none
        | some _ => match ptr with
          | true => none
          | false => some f
        | none => none
      | _, _ => none
    | none => none
  | none => none
noncomputable def invokeA (C : Ctx) (cl : CallF) (recv : AV) (name : String) (args : List AV) (hp : Hp) (nx : Nat) : Res :=
  match recv with
  | .iface t v => match methodA C.P t name with
    | some f => cl (.fn f) (v :: args) hp nx
    | none => .fail none
  | _ => .fail none
/-- A function's value alone is called. -/
noncomputable def callFn (cl : CallF) (f : AV) (args : List AV) (hp : Hp) (nx : Nat) : Res :=
  match f with
  | .fn (.func g) first captured => cl (.fn g) (first ++ args ++ captured) hp nx
  | _ => .fail none
/-- An operation of class 3, but 'defer'. -/
noncomputable def wA (C : Ctx) (cl : CallF) (o : Op) (ρ : Operand → AV) (hp : Hp) (nx : Nat) : Res :=
  match o with
  | .store t x v => storeA C t (ρ x) (ρ v) hp nx
  | .mapUpdate t m k v => mapUpdateA C.P t (ρ m) (ρ k) (ρ v) hp nx
  | .insert t m k v => mapUpdateA C.P t (ρ m) (ρ k) (ρ v) hp nx
  | .range t x => rangeA C.P t (ρ x) hp nx
  | .next it str => match str with
    | false => nextA (ρ it) hp nx
    | true => .fail none
  | .call c => match c.callee with
    | .value f => callVal C.ext cl (ρ f) (c.args.toList.map ρ) hp nx
    | .builtin .append => match c.args[0]?, c.args[1]? with
      | some s, some x => appendA C c.argTypes (ρ s) (ρ x) hp nx
      | _, _ => .fail none
    | .builtin .copy => match c.args[0]?, c.args[1]? with
      | some d, some s => copyA C c.argTypes (ρ d) (ρ s) hp nx
      | _, _ => .fail none
    | .builtin .delete => match c.args[0]?, c.args[1]? with
      | some m, some k => deleteA C c.argTypes (ρ m) (ρ k) hp nx
      | _, _ => .fail none
    | .builtin .unsafeSliceData => match c.args.toList with
      | [x] => dataA (ρ x) hp nx
      | _ => .fail none
    | .builtin .unsafeString => match c.args.toList with
      | [x, y] => ustrA C c.argTypes (ρ x) (ρ y) hp nx
      | _ => .fail none
    | .builtin .clear => match c.args[0]? with
      | some x => clearA C c.argTypes (ρ x) hp nx
      | none => .fail none
    | .invoke recv name => invokeA C cl (ρ recv) name (c.args.toList.map ρ) hp nx
    | _ => .fail none
  | _ => .fail none

noncomputable def opd (fr : Fr) (o : Operand) : AV :=
  match o with
  | .tmp t => match fr.get t with
    | some v => v
    | none => .bad
  | .const v => ofVal v
  | .global g => .gptr g 0
  | .func f => .fn (.func f) [] []

/-- A 'defer' of a function's value. -/
noncomputable def deferA (C : Ctx) (o : Op) (ρ : Operand → AV) : Option ADef :=
  match o with
  | .defer c => match c.callee, C.rd with
    | .value f, false => match ρ f with
      | .fn (.func g) l m => some (.call (.fn (.func g) l m) (c.args.toList.map ρ))
      | _ => none
    | _, _ => none
  | _ => none

noncomputable def wantedA (ops : Array Oper) (fr : Fr) (o : Oper) : Option Bool :=
  match o.guard with
  | none => some true
  | some (j, w) => match (ops[j]?).bind (·.dst) with
    | some d => match fr.get d with
      | some (.bool b) => some (b == w)
      | some (.tup _) => some false
      | _ => none
    | none => none
noncomputable def putK (sz : Nat) (d : Option Tmp) (v : AV) (fr : Fr) (k : Fr → Res) : Res :=
  match d with
  | none => k fr
  | some t => match Nat.ble (Nat.succ t) sz with
    | true => forceV v fun v => k (fr.set t v)
    | false => .fail none

/-- One operation. -/
noncomputable def opK (C : Ctx) (cl : CallF) (sz : Nat) (all : Array Oper) (o : Oper) (fr : Fr) (ds : List ADef) (hp : Hp) (nx : Nat) (kn : KN) (kp : List APan → KN) : Res :=
  match wantedA all fr o with
  | none => .fail (some o.pos)
  | some false => putK sz o.dst (.tup []) fr fun fr => kn fr ds hp nx
  | some true => match cls C.P o.op with
    | 0 => match pureA C.P o.op (opd fr) with
      | some v => putK sz o.dst v fr fun fr => kn fr ds hp nx
      | none => .fail (some o.pos)
    | 1 => match readA C o.op (opd fr) hp with
      | some v => putK sz o.dst v fr fun fr => kn fr ds hp nx
      | none => .fail (some o.pos)
    | 2 => match allocA C o.op (opd fr) with
      | some (b, mk) => putK sz o.dst (mk nx) fr fun fr => forceN nx fun nx => kn fr ds (hp.set nx b) (Nat.succ nx)
      | none => .fail (some o.pos)
    | 4 => match deferA C o.op (opd fr) with
      | some d => putK sz o.dst (.tup []) fr fun fr => kn fr (d :: ds) hp nx
      | none => .fail (some o.pos)
    | _ => match wA C cl o.op (opd fr) hp nx with
      | .done v hp nx => putK sz o.dst v fr fun fr => kn fr ds hp nx
      | .pan c hp nx => kp c fr ds hp nx
      | .fail (some s) => .fail (some s)
      | .fail none => .fail (some o.pos)
noncomputable def opsK (C : Ctx) (cl : CallF) (sz : Nat) (all : Array Oper) (l : List Oper) (kn : KN) (kp : List APan → KN) : KN :=
  List.rec (motive := fun _ => KN) kn (fun o _ ih fr ds hp nx => opK C cl sz all o fr ds hp nx ih kp) l

/- A REGION THAT DRAWS ITS ORDER: run in the text's order, and held against every other. -/
/-- Which operations come before each by the edges, as bits. -/
noncomputable def befOf (m : T Nat) (es : List Edge) (acc : Nat) : Option Nat :=
  match es with
  | [] => some acc
  | e :: r => match Region.binds .any e with
    | true => match T.get m e.on with
      | some b => befOf m r (Nat.lor (Nat.lor acc b) (Nat.pow 2 e.on))
      | none => none
    | false => befOf m r acc
noncomputable def befs : List Oper → Nat → T Nat → Option (T Nat)
  | [], _, m => some m
  | o :: r, i, m => match befOf m o.after.toList 0 with
    | some b => befs r (i + 1) (m.set i b)
    | none => none
def isTmp (t : Nat) : Operand → Bool
  | .tmp u => Nat.beq u t
  | _ => false
/-- Does the operation look at slot t? -/
def looks (all : Array Oper) (o : Oper) (t : Nat) : Bool :=
  o.op.operands.toList.any (isTmp t) || match o.guard with
    | some (g, _) => match (all[g]?).bind (·.dst) with
      | some d => Nat.beq d t
      | none => false
    | none => false
/-- k stands ahead of i in the text: must it be before it? -/
noncomputable def tied (P : Program) (all : Array Oper) (ok oi : Oper) : Bool :=
  (match ok.dst with
    | some t => looks all oi t
    | none => false) ||
  (match oi.dst with
    | some t => looks all ok t
    | none => false) ||
  (Nat.ble 3 (cls P oi.op) && Nat.ble 2 (cls P ok.op))
def sameDst (a b : Oper) : Bool :=
  match a.dst, b.dst with
  | some t, some u => Nat.beq t u
  | _, _ => false
noncomputable def pairsOk (P : Program) (all : Array Oper) (oi : Oper) (b : Nat) : List Oper → Nat → Bool
  | [], _ => true
  | ok :: r, k => (!(sameDst ok oi)) && (!(tied P all ok oi) || Nat.testBit b k) && pairsOk P all oi b r (k + 1)
noncomputable def drawOkGo (P : Program) (all : Array Oper) (m : T Nat) (before : List Oper) : List Oper → Nat → Bool
  | [], _ => true
  | o :: r, i => match m.get i with
    | some b => pairsOk P all o b before 0 && drawOkGo P all m (before ++ [o]) r (i + 1)
    | none => false
/-- The edges' bits, where the region is in order. -/
noncomputable def drawBefs (P : Program) (ops : Array Oper) : Option (T Nat) :=
  match befs ops.toList 0 .leaf with
  | some m => match drawOkGo P ops m [] ops.toList 0 with
    | true => some m
    | false => none
  | none => none

def atomEq (a b : AV) : Bool :=
  match a, b with
  | .bool x, .bool y => x == y
  | .int k m, .int k' n => kindEq k k' && eqI m n
  | .str x, .str y => eqB x y
  | .nilp, .nilp => true
  | .ptr a b, .ptr c d => Nat.beq a c && Nat.beq b d
  | .gptr a b, .gptr c d => Nat.beq a c && Nat.beq b d
  | .nils, .nils => true
  | .slice a b c d, .slice e f g h => Nat.beq a e && Nat.beq b f && Nat.beq c g && Nat.beq d h
  | .opn a b c d, .opn e f g h => Nat.beq a e && Nat.beq b f && Nat.beq c g && Nat.beq d h
  | .gsl a b c d, .gsl e f g h => Nat.beq a e && Nat.beq b f && Nat.beq c g && Nat.beq d h
  | .nilm, .nilm => true
  | .map a, .map b => Nat.beq a b
  | .yld a, .yld b => Nat.beq a b
  | .nilf, .nilf => true
  | .nili, .nili => true
  | .one, .one => true
  | _, _ => false
def atomsEq : List AV → List AV → Bool
  | [], [] => true
  | a :: l, b :: m => atomEq a b && atomsEq l m
  | _, _ => false
def avEq (a b : AV) : Bool :=
  match a, b with
  | .agg l, .agg m => atomsEq l m
  | .iface t x, .iface u y => Nat.beq t u && atomEq x y
  | .fn (.func f) l m, .fn (.func g) l' m' => Nat.beq f g && atomsEq l l' && atomsEq m m'
  | a, b => atomEq a b
def sameRead (r : Option AV) (v : AV) : Bool :=
  match r with
  | some u => avEq u v
  | none => false

/-- Where a region that draws has come to. 'hb': the heap behind the last operation of class 3. -/
structure Dr where
  fr : Fr
  hb : Hp
  hp : Hp
  nx : Nat
  wl : List (Nat × Hp)
  rl : List (Nat × Op × Fr × AV)
  al : List (Nat × Nat × Blk)
/-- A read of a block that was made at a place from p on, and must be made before it. -/
noncomputable def readOwn (C : Ctx) (b p : Nat) (o : Op) (ρ : Operand → AV) (v : AV) : List (Nat × Nat × Blk) → Bool
  | [] => false
  | (k, id, bl) :: r => (Nat.ble p k && Nat.testBit b k && sameRead (readA C o ρ (T.set .leaf id bl)) v) || readOwn C b p o ρ v r
def baseW : List (Nat × Hp) → Nat
  | [] => 0
  | (q, _) :: _ => Nat.succ q
/-- A read gives the same behind each operation of class 3 that may come later than it. -/
noncomputable def readBack (C : Ctx) (b : Nat) (o : Op) (ρ : Operand → AV) (v : AV) (al : List (Nat × Nat × Blk)) : List (Nat × Hp) → Bool
  | [] => true
  | (w, h) :: r => match Nat.testBit b w with
    | true => true
    | false => (sameRead (readA C o ρ h) v || readOwn C b (baseW r) o ρ v al) && readBack C b o ρ v al r
noncomputable def readOn (C : Ctx) (b : Nat) (h : Hp) : List (Nat × Op × Fr × AV) → Bool
  | [] => true
  | (r, o, fr, v) :: l => (Nat.testBit b r || sameRead (readA C o (opd fr) h) v) && readOn C b h l
noncomputable def putD (sz : Nat) (d : Option Tmp) (v : AV) (fr : Fr) : Option Fr :=
  match d with
  | none => some fr
  | some t => match Nat.ble (Nat.succ t) sz with
    | true => forceV v fun v => some (fr.set t v)
    | false => none
inductive DRes where
  | bad (why : Option String)
  | ok (s : Dr)
noncomputable def putR (pos : String) (sz : Nat) (d : Option Tmp) (v : AV) (s : Dr) (k : Fr → Dr) : DRes :=
  match putD sz d v s.fr with
  | some fr => .ok (k fr)
  | none => .bad (some pos)
noncomputable def drawOp (C : Ctx) (cl : CallF) (sz : Nat) (all : Array Oper) (o : Oper) (i b : Nat) (s : Dr) : DRes :=
  match wantedA all s.fr o with
  | none => .bad (some o.pos)
  | some false => putR o.pos sz o.dst (.tup []) s fun fr => { s with fr := fr }
  | some true => match cls C.P o.op with
    | 0 => match pureA C.P o.op (opd s.fr) with
      | some v => putR o.pos sz o.dst v s fun fr => { s with fr := fr }
      | none => .bad (some o.pos)
    | 1 => match readA C o.op (opd s.fr) s.hb with
      | some v => match readBack C b o.op (opd s.fr) v s.al s.wl with
        | true => putR o.pos sz o.dst v s fun fr => { s with fr := fr, rl := (i, o.op, s.fr, v) :: s.rl }
        | false => .bad (some o.pos)
      | none => match readA C o.op (opd s.fr) s.hp with
        | some v => match readOwn C b (baseW s.wl) o.op (opd s.fr) v s.al && readBack C b o.op (opd s.fr) v s.al s.wl with
          | true => putR o.pos sz o.dst v s fun fr => { s with fr := fr, rl := (i, o.op, s.fr, v) :: s.rl }
          | false => .bad (some o.pos)
        | none => .bad (some o.pos)
    | 2 => match allocA C o.op (opd s.fr) with
      | some (bl, mk) => putR o.pos sz o.dst (mk s.nx) s fun fr => { s with fr := fr, hp := s.hp.set s.nx bl, nx := Nat.succ s.nx, al := (i, s.nx, bl) :: s.al }
      | none => .bad (some o.pos)
    | _ => match wA C cl o.op (opd s.fr) s.hp s.nx with
      | .done v hp nx => match readOn C b hp s.rl with
        | true => putR o.pos sz o.dst v s fun fr => { fr := fr, hb := hp, hp := hp, nx := nx, wl := (i, s.hb) :: s.wl, rl := s.rl, al := s.al }
        | false => .bad (some o.pos)
      | .fail (some w) => .bad (some w)
      | _ => .bad (some o.pos)
noncomputable def drawOps (C : Ctx) (cl : CallF) (sz : Nat) (all : Array Oper) (m : T Nat) : List Oper → Nat → Dr → DRes
  | [], _, s => .ok s
  | o :: r, i, s => match m.get i with
    | some b => match drawOp C cl sz all o i b s with
      | .ok s => drawOps C cl sz all m r (i + 1) s
      | .bad w => .bad w
    | none => .bad none

/- A REGION IN ANOTHER ORDER OF ITS TEXT: what writes comes as soon as it may. -/
def idxN (i : Nat) : List Nat → Nat
  | [] => 0
  | x :: l => match Nat.beq x i with
    | true => 0
    | false => Nat.succ (idxN i l)
def emitN (l : List Nat) (k : Nat) : List Nat :=
  match l.any (fun x => Nat.beq x k) with
  | true => l
  | false => l ++ [k]
def emitB (b : Nat) : List Nat → List Nat → List Nat
  | [], l => l
  | k :: r, l => match Nat.testBit b k with
    | true => emitB b r (emitN l k)
    | false => emitB b r l
noncomputable def orderA (P : Program) (m : T Nat) (n : Nat) : List Oper → Nat → List Nat → List Nat
  | [], _, l => l
  | o :: r, i, l => match Nat.ble 3 (cls P o.op), m.get i with
    | true, some b => orderA P m n r (i + 1) (emitN (emitB b (List.range n) l) i)
    | _, _ => orderA P m n r (i + 1) l
def remap (p : Nat → Nat) (o : Oper) : Oper := { o with after := o.after.map (fun e => { e with on := p e.on }), guard := o.guard.map fun g => (p g.1, g.2) }
def permOk (l : List Nat) (n : Nat) : Bool :=
  Nat.beq l.length n && l.all (fun i => Nat.ble (Nat.succ i) n) && (List.range n).all (fun i => l.any (fun x => Nat.beq x i)) && (List.range n).all (fun k => match l[k]? with
    | some i => Nat.beq (idxN i l) k
    | none => false)
def permA (l : List Nat) (ops : Array Oper) : Array Oper := (l.map fun i => remap (fun j => idxN j l) ops[i]!).toArray
noncomputable def turned (P : Program) (ops : Array Oper) : Option (Array Oper × T Nat) :=
  match befs ops.toList 0 .leaf with
  | some m => match (List.range ops.size).foldl emitN (orderA P m ops.size ops.toList 0 []) with
    | l => match permOk l ops.size with
      | true => match drawBefs P (permA l ops) with
        | some m' => some (permA l ops, m')
        | none => none
      | false => none
  | none => none

/-- CODE. f: the function; sz: its slots; ro: the round's loop. -/
noncomputable def loopK (body : KN → KN) : KN :=
  Nat.rec (motive := fun _ => KN) (fun _ _ _ _ => .fail none) (fun _ ih => body ih) 1000000000
noncomputable def endLoopK (l : Nat) (fr : Fr) (ds : List ADef) (hp : Hp) (nx : Nat) (kn : KN) (kx : Nat → KN) (kr : KN) : Res :=
  match hp.get l with
  | some (.loop .ready p f fr' sz ps as bd d) => match p with
    | none => kn fr ds (hp.set l (.loop .exhausted p f fr' sz ps as bd d)) nx
    | some (.exit id) => kx id fr ds (hp.set l (.loop .exhausted p f fr' sz ps as bd d)) nx
    | some .ret => kr fr ds (hp.set l (.loop .exhausted p f fr' sz ps as bd d)) nx
    | _ => .fail none
  | some (.loop .done p f fr' sz ps as bd d) => match p with
    | none => kn fr ds (hp.set l (.loop .exhausted p f fr' sz ps as bd d)) nx
    | some (.exit id) => kx id fr ds (hp.set l (.loop .exhausted p f fr' sz ps as bd d)) nx
    | some .ret => kr fr ds (hp.set l (.loop .exhausted p f fr' sz ps as bd d)) nx
    | _ => .fail none
  | _ => .fail none
noncomputable def rangeK (cl : CallF) (f : FuncId) (sz : Nat) (ro : Option Nat) (g : Operand) (ps : Array Tmp) (as bd : Code)
    (fr : Fr) (ds : List ADef) (hp : Hp) (nx : Nat) (kn : KN) (kx : Nat → KN) (kr : KN) (kp : List APan → KN) : Res :=
  match ro with
  | none => match callFn cl (opd fr g) [.yld (Nat.succ nx)] ((hp.set nx (.dfr false)).set (Nat.succ nx) (.loop .ready none f fr sz ps.toList as bd nx)) (Nat.succ (Nat.succ nx)) with
    | .done _ hp nx' => endLoopK (Nat.succ nx) fr (.mark nx :: ds) hp nx' kn kx kr
    | .pan c hp nx' => kp c fr (.mark nx :: ds) hp nx'
    | .fail s => .fail s
  | some l => match hp.get l with
    | some (.loop _ _ _ _ _ _ _ _ d) => match callFn cl (opd fr g) [.yld nx] (hp.set nx (.loop .ready none f fr sz ps.toList as bd d)) (Nat.succ nx) with
      | .done _ hp nx' => endLoopK nx fr ds hp nx' kn kx kr
      | .pan c hp nx' => kp c fr ds hp nx'
      | .fail s => .fail s
    | _ => .fail none
noncomputable def regionK (C : Ctx) (cl : CallF) (sz : Nat) (ops : Array Oper) (draw : Bool) (kn : KN) (kp : List APan → KN) : KN :=
  match draw with
  | false => opsK C cl sz ops ops.toList kn kp
  | true => fun fr ds hp nx => match drawBefs C.P ops with
    | some m => match drawOps C cl sz ops m ops.toList 0 ⟨fr, hp, hp, nx, [], [], []⟩ with
      | .ok s => kn s.fr ds s.hp s.nx
      | .bad w => .fail w
    | none => match turned C.P ops with
      | some (ops', m) => match drawOps C cl sz ops' m ops'.toList 0 ⟨fr, hp, hp, nx, [], [], []⟩ with
        | .ok s => kn s.fr ds s.hp s.nx
        | .bad w => .fail w
      | none => .fail ((ops[0]?).map (·.pos))
noncomputable def condK (c : Operand) (a b : KN) : KN := fun fr ds hp nx =>
  match opd fr c with
  | .bool true => a fr ds hp nx
  | .bool false => b fr ds hp nx
  | _ => .fail none
/-- The ways on from a piece of code. -/
structure Ks where
  kn : KN
  kx : Nat → KN
  kr : KN
  kp : List APan → KN
def failK : KN := fun _ _ _ _ => .fail none
noncomputable def ex (C : Ctx) (cl : CallF) (f : FuncId) (sz : Nat) (ro : Option Nat) (c : Code) : KN → (Nat → KN) → KN → (List APan → KN) → KN :=
  Code.rec (motive := fun _ => KN → (Nat → KN) → KN → (List APan → KN) → KN)
    (fun kn _ _ _ => kn)
    (fun _ ops draw kn _ _ kp => regionK C cl sz ops draw kn kp)
    (fun _ _ a b kn kx kr kp => a (b kn kx kr kp) kx kr kp)
    (fun c _ _ a b kn kx kr kp => condK c (a kn kx kr kp) (b kn kx kr kp))
    (fun id _ a kn kx kr kp => a kn (fun i => Bool.rec (kx i) kn (Nat.beq i id)) kr kp)
    (fun _ a _ kx kr kp => loopK fun kn => a kn kx kr kp)
    (fun g ps as bd _ _ kn kx kr kp fr ds hp nx => rangeK cl f sz ro g ps as bd fr ds hp nx kn kx kr kp)
    (fun id _ kx _ _ => kx id)
    (fun _ a kn kx kr kp => a kn kx kr kp)
    (fun _ kn _ _ _ => kn)
    (fun _ _ _ _ _ => failK)
    (fun _ _ kr _ => kr)
    (fun _ _ _ _ _ => failK)
    c

/- LEAVING A FUNCTION. -/
noncomputable def resultsA (C : Ctx) (fr : Fr) (hp : Hp) : List ResultVar → Option (List AV)
  | [] => some []
  | .tmp t :: r => match resultsA C fr hp r with
    | some l => some (opd fr (.tmp t) :: l)
    | none => none
  | .cell a t :: r => match loadA C t (opd fr (.tmp a)) hp, resultsA C fr hp r with
    | some v, some l => some (v :: l)
    | _, _ => none
noncomputable def resultA (C : Ctx) (fn : Func) (fr : Fr) (hp : Hp) : Option AV :=
  match resultsA C fr hp fn.results.toList with
  | some [v] => some v
  | some l => some (.tup l)
  | none => none
/-- The deferred calls, from the last one on: marks, and calls of functions. -/
noncomputable def leaveA (cl : CallF) (ds : List ADef) (hp : Hp) (nx : Nat) (k : Hp → Nat → Res) : Res :=
  List.rec (motive := fun _ => Hp → Nat → Res) k (fun d _ ih hp nx => match d with
    | .mark r => match hp.get r with
      | some (.dfr false) => ih (hp.set r (.dfr true)) nx
      | _ => .fail none
    | .call f args => match f with
      | .fn (.func g) l m => match cl (.dfd g) (l ++ args ++ m) hp nx with
        | .done _ hp nx => ih hp nx
        | .fail s => .fail s
        | _ => .fail none
      | _ => .fail none) ds hp nx
noncomputable def retK (C : Ctx) (cl : CallF) (fn : Func) : KN := fun fr ds hp nx =>
  leaveA cl ds hp nx fun hp nx => match resultA C fn fr hp with
    | some v => forceV v fun v => .done v hp nx
    | none => .fail none
def panK : List APan → KN := fun _ _ _ _ _ => .fail none
/-- The end of a deferred call: it has deferred nothing. -/
noncomputable def retD (C : Ctx) (fn : Func) : KN := fun fr ds hp nx => match ds with
  | [] => match resultA C fn fr hp with
    | some v => forceV v fun v => .done v hp nx
    | none => .fail none
  | _ => .fail none
noncomputable def setAll (sz : Nat) (fr : Fr) : List Nat → List AV → Option Fr
  | [], [] => some fr
  | t :: ts, v :: vs => match Nat.ble (Nat.succ t) sz with
    | true => setAll sz (fr.set t v) ts vs
    | false => none
  | _, _ => none
noncomputable def endRoundA (l : Nat) (hp : Hp) (nx : Nat) (jump : Option Code) : Res :=
  match hp.get l with
  | some (.loop _ _ f fr sz ps as bd d) => match jump with
    | none => .done (.bool true) (hp.set l (.loop .ready none f fr sz ps as bd d)) nx
    | some j => .done (.bool false) (hp.set l (.loop .done (some j) f fr sz ps as bd d)) nx
  | _ => .fail none
/-- A function whose answer is known: see OrcOk. -/
noncomputable def orcOr (C : Ctx) (f : FuncId) (args : List AV) (hp : Hp) (nx : Nat) (r : Res) : Res :=
  match C.orc.get f with
  | none => r
  | some o => match o args hp nx with
    | some r => .done r.1 r.2.1 r.2.2
    | none => r
/-- A deferred function whose answer is known: see DfdOk. -/
noncomputable def dfdOr (C : Ctx) (f : FuncId) (args : List AV) (hp : Hp) (nx : Nat) (r : Res) : Res :=
  match C.dfd.get f with
  | none => r
  | some o => match o args hp nx with
    | some r => .done r.1 r.2.1 r.2.2
    | none => .fail none
/-- A call with so many levels to spare. -/
noncomputable def callA (C : Ctx) (n : Nat) : CallF :=
  Nat.rec (motive := fun _ => CallF) (fun _ _ _ _ => .fail none) (fun _ cl t args hp nx => match t with
    | .fn f => orcOr C f args hp nx (match C.P.funcs[f]? with
      | some fn => match fn.body with
        | some c => match Nat.ble args.length fn.ntmps with
          | true => ex C cl f fn.ntmps none c (retK C cl fn) (fun _ => failK) (retK C cl fn) panK (frL args) [] hp nx
          | false => .fail none
        | none => .fail none
      | none => .fail none)
    | .dfd f => dfdOr C f args hp nx (match C.P.funcs[f]? with
      | some fn => match fn.body with
        | some c => match Nat.ble args.length fn.ntmps with
          | true => ex C cl f fn.ntmps none c (retD C fn) (fun _ => failK) (retD C fn) panK (frL args) [] hp nx
          | false => .fail none
        | none => .fail none
      | none => .fail none)
    | .rnd l => match hp.get l with
      | some (.loop _ _ f fr sz ps as bd _) => match setAll sz fr ps args with
        | some fr => ex { C with rd := true } cl f sz (some l) as
            (fun fr ds hp nx => match hp.get l with
              | some (.loop .ready p f' fr' sz' ps' as' bd' d') =>
                ex { C with rd := true } cl f sz (some l) bd (fun _ _ hp nx => endRoundA l hp nx none) (fun id _ _ hp nx => endRoundA l hp nx (some (.exit id)))
                  (fun _ _ hp nx => endRoundA l hp nx (some .ret)) (fun _ => failK) fr ds (hp.set l (.loop .busy p f' fr' sz' ps' as' bd' d')) nx
              | _ => .fail none)
            (fun _ => failK) failK (fun _ => failK) fr [] hp nx
        | none => .fail none
      | _ => .fail none) n

/-- Does a call return true? -/
noncomputable def saysTrue (r : Res) : Bool :=
  match r with
  | .done (.bool true) _ _ => true
  | _ => false
end Go.Proofs.YtdjeokgkeejpcaaGreatDoor.AX

namespace Go.Proofs.YtdjeokgkeejpcaaGreatDoor.AX
open Go

theorem lim_nonneg (k : IntKind) (m : Nat) (h : m ≤ lim k) : k.wrap (Int.ofNat m) = Int.ofNat m := by
  cases k <;> simp only [lim] at h <;> simp [IntKind.wrap, IntKind.bits, IntKind.signed] <;> omega
theorem wrapA_eq (k : IntKind) (n : Int) : wrapA k n = k.wrap n := by
  cases n with
  | ofNat m =>
    simp only [wrapA]
    split
    · rename_i h; rw [lim_nonneg k m (Nat.le_of_ble_eq_true h)]
    · rfl
  | negSucc m => rfl
theorem addA_eq (a b : Int) : addA a b = a + b := by
  cases a <;> cases b <;> rfl
theorem mulA_eq (a b : Int) : mulA a b = a * b := by
  cases a <;> cases b <;> rfl
theorem subA_eq (a b : Int) : subA a b = a - b := by
  cases a with
  | ofNat m =>
    cases b with
    | ofNat n =>
      simp only [subA]
      split
      · rename_i h
        have h := Nat.le_of_ble_eq_true h
        show Int.ofNat (m - n) = Int.ofNat m - Int.ofNat n
        simp; omega
      · rfl
    | negSucc n => rfl
  | negSucc m => cases b <;> rfl
theorem eqI_eq (a b : Int) : eqI a b = (a == b) := by
  rw [Bool.eq_iff_iff, beq_iff_eq]
  cases a <;> cases b <;> simp [eqI] <;> omega
theorem leI_eq (a b : Int) : leI a b = decide (a ≤ b) := by
  rw [Bool.eq_iff_iff]
  cases a <;> cases b <;> simp [leI] <;> omega
theorem ltI_eq (a b : Int) : ltI a b = decide (a < b) := by
  rw [ltI, leI_eq, Bool.eq_iff_iff]; simp
theorem kindEq_eq {k k' : IntKind} (h : kindEq k k' = true) : k = k' := by
  cases k <;> cases k' <;> first | rfl | cases h

theorem ofInt_toNat (k : IntKind) (m : Nat) (h : m ≤ lim k) : (BitVec.ofInt k.bits (Int.ofNat m)).toNat = m := by
  cases k <;> simp only [lim] at h <;> simp [IntKind.bits] <;> omega
theorem lim_pow (k : IntKind) : ∃ e, lim k = 2 ^ e - 1 := by
  cases k
  · exact ⟨7, by decide⟩
  · exact ⟨15, by decide⟩
  · exact ⟨31, by decide⟩
  · exact ⟨63, by decide⟩
  · exact ⟨8, by decide⟩
  · exact ⟨16, by decide⟩
  · exact ⟨32, by decide⟩
  · exact ⟨64, by decide⟩
theorem le_lim {k : IntKind} {e m : Nat} (he : lim k = 2 ^ e - 1) : m ≤ lim k ↔ m < 2 ^ e := by
  have : 0 < 2 ^ e := Nat.two_pow_pos e
  omega
theorem bitsF_eq (op : BinOp) (k : IntKind) (x y : Int) : bitsF op k x y = bitsA op k x y := rfl
theorem shlA_eq (k : IntKind) (x : Int) (y : Nat) : shlA k x y = k.wrap (x * 2 ^ (min y k.bits)) := by
  cases x with
  | negSucc m => rfl
  | ofNat m =>
    simp only [shlA, wrapA_eq]
    congr 1
theorem shrA_eq (k : IntKind) (x : Int) (y : Nat) : shrA k x y = x.fdiv (2 ^ (min y k.bits)) := by
  cases x with
  | negSucc m => rfl
  | ofNat m =>
    show Int.ofNat (m / 2 ^ (min y k.bits)) = _
    have : (2 : Int) ^ (min y k.bits) = Int.ofNat (2 ^ (min y k.bits)) := by simp
    rw [this]
    have h0 : (0 : Int) ≤ Int.ofNat (2 ^ (min y k.bits)) := Int.natCast_nonneg _
    rw [Int.fdiv_eq_ediv_of_nonneg _ h0]; rfl
theorem quoA_eq (k : IntKind) (x y : Int) : quoA k x y = k.wrap (x.tdiv y) := by
  cases x <;> cases y <;> simp only [quoA, wrapA_eq] <;> rfl
theorem remA_eq (x y : Int) : remA x y = x.tmod y := by
  cases x <;> cases y <;> rfl
theorem natOf_eq (a : Int) : natOf a = a.toNat := by cases a <;> rfl

/- STRINGS -/
theorem toNat_inj {a b : UInt8} (h : a.toNat = b.toNat) : a = b := UInt8.toNat_inj.1 h
theorem eqB_eq : ∀ (x y : List UInt8), eqB (x.map UInt8.toNat) (y.map UInt8.toNat) = (x == y)
  | [], [] => rfl
  | [], _ :: _ => rfl
  | _ :: _, [] => rfl
  | a :: x, b :: y => by
    simp only [List.map_cons, eqB]
    by_cases h : a = b
    · subst h
      simp only [Nat.beq_refl, eqB_eq x y, List.cons_beq_cons, BEq.rfl, Bool.true_and]
    · have : Nat.beq a.toNat b.toNat = false := by
        cases hb : Nat.beq a.toNat b.toNat with
        | true => exact absurd (toNat_inj (Nat.eq_of_beq_eq_true hb)) h
        | false => rfl
      simp [this, h]
theorem lessB_eq : ∀ (x y : List UInt8), lessB (x.map UInt8.toNat) (y.map UInt8.toNat) = Op.bytesLess x y
  | [], [] => rfl
  | [], _ :: _ => rfl
  | _ :: _, [] => rfl
  | a :: x, b :: y => by
    simp only [List.map_cons, lessB, Op.bytesLess]
    by_cases h : a = b
    · subst h
      simp [Nat.beq_refl, lessB_eq x y]
    · have hne : a.toNat ≠ b.toNat := fun e => h (toNat_inj e)
      have : Nat.beq a.toNat b.toNat = false := by cases hb : Nat.beq a.toNat b.toNat with
        | true => exact absurd (Nat.eq_of_beq_eq_true hb) hne
        | false => rfl
      simp only [this]
      rw [Bool.eq_iff_iff]
      simp [h, UInt8.lt_iff_toNat_lt]
      omega
theorem toList_bytes (s : ByteArray) : s.toList.map UInt8.toNat = bytesOf s := by
  rw [bytesOf, Lib.toList_data]
end Go.Proofs.YtdjeokgkeejpcaaGreatDoor.AX

namespace Go.Proofs.YtdjeokgkeejpcaaGreatDoor.AX
open Go

variable {P : Program} {σ : Sig} {w : World}

theorem VRel.int_inv {k : IntKind} {n : Int} {x : Value} (h : VRel σ (.int k n) x) : x = .int k n := by cases h; rfl
theorem VRel.bool_inv {b : Bool} {x : Value} (h : VRel σ (.bool b) x) : x = .bool b := by cases h; rfl
theorem VRel.str_inv {l : List Nat} {x : Value} (h : VRel σ (.str l) x) : ∃ s, x = .string s ∧ bytesOf s = l := by cases h with | str s h => exact ⟨s, rfl, h⟩
theorem VRel.ptr_inv {id off : Nat} {x : Value} (h : VRel σ (.ptr id off) x) : ∃ i, σ id = some i ∧ x = .pointer (some ⟨i.blk, i.base + off, none⟩) := by cases h with | ptr h => exact ⟨_, h, rfl⟩
theorem VRel.slice_inv {id off len cap : Nat} {x : Value} (h : VRel σ (.slice id off len cap) x) :
    ∃ i o, σ id = some i ∧ len ≤ cap ∧ (o = i.base + off ∨ cap = 0) ∧ x = .slice (some ⟨i.blk, o, none⟩) len cap := by
  cases h with | slice h hl ho => exact ⟨_, _, h, hl, ho, rfl⟩
theorem VRel.opn_inv {id off len sz : Nat} {x : Value} (h : VRel σ (.opn id off len sz) x) :
    ∃ i o c, σ id = some i ∧ len ≤ c ∧ off + c * sz ≤ i.room ∧ (o = i.base + off ∨ c = 0) ∧ x = .slice (some ⟨i.blk, o, none⟩) len c := by
  cases h with | opn h hl hr ho => exact ⟨_, _, _, h, hl, hr, ho, rfl⟩
theorem VRel.gsl_inv {g off len cap : Nat} {x : Value} (h : VRel σ (.gsl g off len cap) x) : len ≤ cap ∧ x = .slice (some ⟨g, off, none⟩) len cap := by
  cases h with | gsl _ _ hl => exact ⟨hl, rfl⟩
theorem VRel.agg_inv {l : List AV} {x : Value} (h : VRel σ (.agg l) x) : ∃ vs, x = .agg vs ∧ VRels σ l vs.toList := by cases h with | agg h => exact ⟨_, rfl, h⟩
theorem VRel.tup_inv {l : List AV} {x : Value} (h : VRel σ (.tup l) x) : ∃ vs, x = .tuple vs ∧ VRels σ l vs.toList := by cases h with | tup h => exact ⟨_, rfl, h⟩
theorem VRel.fn_inv {f : Fn} {l m : List AV} {x : Value} (h : VRel σ (.fn f l m) x) : ∃ vs ws, x = .func f vs ws ∧ VRels σ l vs.toList ∧ VRels σ m ws.toList := by
  cases h with | fn f h h' => exact ⟨_, _, rfl, h, h'⟩
theorem VRel.yld_inv {id : Nat} {x : Value} (h : VRel σ (.yld id) x) : ∃ i, σ id = some i ∧ x = .func (.yield i.blk) #[] #[] := by cases h with | yld h => exact ⟨_, h, rfl⟩
theorem VRel.iface_inv {t : Nat} {v : AV} {x : Value} (h : VRel σ (.iface t v) x) : ∃ y, x = .iface t y ∧ VRel σ v y := by cases h with | iface t h => exact ⟨_, rfl, h⟩
theorem VRel.map_inv {id : Nat} {x : Value} (h : VRel σ (.map id) x) : ∃ i, σ id = some i ∧ x = .map (some i.blk) := by cases h with | map h => exact ⟨_, h, rfl⟩
theorem VRel.nils_inv {x : Value} (h : VRel σ .nils x) : x = .slice none 0 0 := by cases h; rfl
theorem VRel.nilm_inv {x : Value} (h : VRel σ .nilm x) : x = .map none := by cases h; rfl
theorem VRel.gptr_inv {g off : Nat} {x : Value} (h : VRel σ (.gptr g off) x) : x = .pointer (some ⟨g, off, none⟩) := by cases h; rfl

theorem VRels.length {l : List AV} {xs : List Value} (h : VRels σ l xs) : l.length = xs.length := by
  induction l generalizing xs with
  | nil => cases h; rfl
  | cons a l ih => cases h with | cons h t => simp [ih t]
theorem VRels.get {l : List AV} {xs : List Value} (h : VRels σ l xs) : ∀ {i : Nat} {v : AV}, l[i]? = some v → ∃ x, xs[i]? = some x ∧ VRel σ v x := by
  induction l generalizing xs with
  | nil => intro i v hi; simp at hi
  | cons a l ih =>
    cases h with
    | cons h t =>
      intro i v hi
      cases i with
      | zero => simp at hi; subst hi; exact ⟨_, rfl, h⟩
      | succ i => simp at hi; obtain ⟨x, hx, hr⟩ := ih t hi; exact ⟨x, by simpa using hx, hr⟩
theorem VRels.append {l m : List AV} {xs ys : List Value} (h : VRels σ l xs) (h' : VRels σ m ys) : VRels σ (l ++ m) (xs ++ ys) := by
  induction l generalizing xs with
  | nil => cases h; exact h'
  | cons a l ih => cases h with | cons h t => exact .cons h (ih t)
theorem VRels.take {l : List AV} {xs : List Value} (h : VRels σ l xs) (n : Nat) : VRels σ (l.take n) (xs.take n) := by
  induction l generalizing xs n with
  | nil => cases h; simp; exact .nil
  | cons a l ih =>
    cases h with
    | cons h t =>
      cases n with
      | zero => exact .nil
      | succ n => exact .cons h (ih t n)
theorem VRels.drop {l : List AV} {xs : List Value} (h : VRels σ l xs) (n : Nat) : VRels σ (l.drop n) (xs.drop n) := by
  induction l generalizing xs n with
  | nil => cases h; simp; exact .nil
  | cons a l ih =>
    cases n with
    | zero => exact h
    | succ n => cases h with | cons h t => exact ih t n
theorem VRels.map {α : Type} {f : α → AV} {g : α → Value} : ∀ {l : List α}, (∀ x ∈ l, VRel σ (f x) (g x)) → VRels σ (l.map f) (l.map g)
  | [], _ => .nil
  | x :: l, h => .cons (h x (by simp)) (VRels.map fun y hy => h y (by simp [hy]))

theorem atomOf_rel (v : Value) : VRel σ (atomOf v) v := by
  unfold atomOf
  split
  · exact .bool _
  · exact .int _ _
  · exact .str _ rfl
  · exact .nilp
  · exact .nils
  · exact .nilm
  · exact .nilf
  · exact .nili
  · exact .bad _
theorem ofVal_rel (v : Value) : VRel σ (ofVal v) v := by
  unfold ofVal
  split
  · rename_i cs
    refine .agg ?_
    have := VRels.map (σ := σ) (f := atomOf) (g := fun v => v) (l := cs.toList) (fun x _ => atomOf_rel x)
    simpa using this
  · split
    · exact .bad _
    · exact .fn _ .nil .nil
  · exact .tup .nil
  · exact atomOf_rel _

/- NUMBERS -/
theorem intBin_sound {op : BinOp} {k : IntKind} {a b : Int} {v : AV} {t : TypeId} (h : intBin op k a b = some v) :
    ∃ v', (binOp op t (.int k a) (.int k b)).run P w = .ok v' w ∧ VRel σ v v' := by
  cases op <;> simp only [intBin] at h
  case add => cases h; exact ⟨_, by simp [binOp, Op.intArith]; rfl, by rw [wrapA_eq, addA_eq]; exact .int _ _⟩
  case sub => cases h; exact ⟨_, by simp [binOp, Op.intArith]; rfl, by rw [wrapA_eq, subA_eq]; exact .int _ _⟩
  case mul => cases h; exact ⟨_, by simp [binOp, Op.intArith]; rfl, by rw [wrapA_eq, mulA_eq]; exact .int _ _⟩
  case quo =>
    split at h
    · cases h
    · rename_i hb
      rw [eqI_eq] at hb
      have hb : b ≠ 0 := by simpa using hb
      cases h; exact ⟨_, by simp [binOp, Op.intDiv, hb]; rfl, by rw [quoA_eq]; exact .int _ _⟩
  case rem =>
    split at h
    · cases h
    · rename_i hb
      rw [eqI_eq] at hb
      have hb : b ≠ 0 := by simpa using hb
      cases h; exact ⟨_, by simp [binOp, Op.intDiv, hb]; rfl, by rw [remA_eq]; exact .int _ _⟩
  case and =>
    rw [bitsF_eq] at h; simp only [bitsA, Option.map_some, Option.some.injEq] at h; subst h
    exact ⟨_, by simp [binOp, Op.intBits], .int _ _⟩
  case or =>
    rw [bitsF_eq] at h; simp only [bitsA, Option.map_some, Option.some.injEq] at h; subst h
    exact ⟨_, by simp [binOp, Op.intBits], .int _ _⟩
  case xor =>
    rw [bitsF_eq] at h; simp only [bitsA, Option.map_some, Option.some.injEq] at h; subst h
    exact ⟨_, by simp [binOp, Op.intBits], .int _ _⟩
  case andNot =>
    rw [bitsF_eq] at h; simp only [bitsA, Option.map_some, Option.some.injEq] at h; subst h
    exact ⟨_, by simp [binOp, Op.intBits], .int _ _⟩
  case shl => cases h
  case shr => cases h
  case eql => cases h; exact ⟨_, by simp [binOp, Op.intCmp]; rfl, by rw [eqI_eq]; exact .bool _⟩
  case neq => cases h; exact ⟨_, by simp [binOp, Op.intCmp]; rfl, by rw [eqI_eq]; exact .bool _⟩
  case lss => cases h; exact ⟨_, by simp [binOp, Op.intCmp]; rfl, by rw [ltI_eq]; exact .bool _⟩
  case leq => cases h; exact ⟨_, by simp [binOp, Op.intCmp]; rfl, by rw [leI_eq]; exact .bool _⟩
  case gtr => cases h; exact ⟨_, by simp [binOp, Op.intCmp]; rfl, by rw [ltI_eq]; exact .bool _⟩
  case geq => cases h; exact ⟨_, by simp [binOp, Op.intCmp]; rfl, by rw [leI_eq]; exact .bool _⟩
theorem intOp_sound {op : BinOp} {k k' : IntKind} {a b : Int} {v : AV} {t : TypeId} (h : intOp op k a k' b = some v) :
    ∃ v', (binOp op t (.int k a) (.int k' b)).run P w = .ok v' w ∧ VRel σ v v' := by
  unfold intOp at h
  split at h
  · split at h
    · rename_i hb; rw [leI_eq] at hb
      have hb : ¬ b < 0 := by simp at hb; omega
      cases h
      exact ⟨_, by simp [binOp, Op.shift, hb]; rfl, by rw [shlA_eq, natOf_eq]; exact .int _ _⟩
    · cases h
  · split at h
    · rename_i hb; rw [leI_eq] at hb
      have hb : ¬ b < 0 := by simp at hb; omega
      cases h
      exact ⟨_, by simp [binOp, Op.shift, hb]; rfl, by rw [shrA_eq, natOf_eq]; exact .int _ _⟩
    · cases h
  · split at h
    · rename_i hk
      have := kindEq_eq hk; subst this
      exact intBin_sound h
    · cases h
theorem strOp_sound {op : BinOp} {s u : ByteArray} {v : AV} {t : TypeId} (h : strOp op (bytesOf s) (bytesOf u) = some v) :
    ∃ v', (binOp op t (.string s) (.string u)).run P w = .ok v' w ∧ VRel σ v v' := by
  have e1 : eqB (bytesOf s) (bytesOf u) = (s.toList == u.toList) := by rw [← toList_bytes, ← toList_bytes]; exact eqB_eq _ _
  have e2 : lessB (bytesOf s) (bytesOf u) = Op.bytesLess s.toList u.toList := by rw [← toList_bytes, ← toList_bytes]; exact lessB_eq _ _
  cases op <;> simp only [strOp, e1, e2] at h
  case add =>
    split at h
    · rename_i hb
      have hb := Nat.le_of_ble_eq_true hb
      cases h
      have hl : ¬ (((s.size + u.size : Nat) : Int) > IntKind.i64.max) := by
        have : s.size + u.size ≤ 1000000000 := by simpa [bytesOf] using hb
        simp [IntKind.max, IntKind.signed, IntKind.bits]; omega
      refine ⟨.string (s ++ u), by simp only [binOp, Op.stringOp, hl, if_false]; rfl, .str _ ?_⟩
      simp [bytesOf]
    · cases h
  case eql => cases h; exact ⟨_, by simp [binOp, Op.stringOp], .bool _⟩
  case neq => cases h; exact ⟨_, by simp [binOp, Op.stringOp], .bool _⟩
  case lss => cases h; exact ⟨_, by simp [binOp, Op.stringOp], .bool _⟩
  case leq => cases h; exact ⟨_, by simp [binOp, Op.stringOp], .bool _⟩
  case gtr => cases h; exact ⟨_, by simp [binOp, Op.stringOp], .bool _⟩
  case geq => cases h; exact ⟨_, by simp [binOp, Op.stringOp], .bool _⟩
  all_goals cases h
end Go.Proofs.YtdjeokgkeejpcaaGreatDoor.AX

namespace Go.Proofs.YtdjeokgkeejpcaaGreatDoor.AX
open Go
variable {P : Program} {σ : Sig} {w : World}

theorem ne_of_beq {a b : Nat} (h : Nat.beq a b = false) : a ≠ b := fun e => by rw [e, Nat.beq_refl] at h; cases h
theorem run_underlying_some {t : TypeId} {d : TypeDesc} (h : P.underlying t = some d) : (underlying t).run P w = .ok d w := by
  simp [underlying, h]
theorem run_isAgg {t : TypeId} {b : Bool} (h : isAggT P t = some b) : (isAgg t).run P w = .ok b w := by
  unfold isAggT at h
  split at h
  · rename_i fs hu; cases h; simp [isAgg, run_underlying_some hu]
  · rename_i n e hu; cases h; simp [isAgg, run_underlying_some hu]
  · rename_i d h1 h2 hu
    cases h
    simp only [isAgg, Sem.run_bind, run_underlying_some hu, Result.andThen_ok]
    cases d <;> first | rfl | exact absurd rfl (h1 _) | exact absurd rfl (h2 _ _)
  · cases h
theorem sizeT_info {t : TypeId} {n : Nat} (h : sizeT P t = some n) : ∃ i, P.info? t = some i ∧ i.size = n := by
  unfold sizeT at h
  cases hi : P.info? t with
  | none => simp [hi] at h
  | some i => simp [hi] at h; exact ⟨i, rfl, h⟩
theorem run_typeInfo {t : TypeId} {i : TypeInfo} (h : P.info? t = some i) : (typeInfo t).run P w = .ok i w := by
  simp [typeInfo, h]
theorem run_sizeOf {t : TypeId} {n : Nat} (h : sizeT P t = some n) : (sizeOf t).run P w = .ok n w := by
  obtain ⟨i, hi, hn⟩ := sizeT_info h
  simp [sizeOf, run_typeInfo hi, hn]
theorem part_sound {t : TypeId} {cs : List AV} {xs : Array Value} {off : Nat} {v : AV} (h : partA P t cs off = some v) (hr : VRels σ cs xs.toList) :
    ∃ x, (part t xs off).run P w = .ok x w ∧ VRel σ v x := by
  unfold partA at h
  split at h
  · rename_i ha
    split at h
    · rename_i n hn
      cases h
      refine ⟨.agg (xs.extract off (off + n)), by simp [part, run_isAgg ha, run_sizeOf hn], .agg ?_⟩
      have := (hr.drop off).take n
      simpa [List.take_drop, Array.toList_extract, List.extract_eq_take_drop] using this
    · cases h
  · rename_i ha
    obtain ⟨x, hx, hv⟩ := hr.get h
    refine ⟨x, ?_, hv⟩
    have : xs[off]? = some x := by simpa using hx
    simp [part, run_isAgg ha, this]
  · cases h

theorem arr_loop {f : Nat → Option Bool} {g : Nat → Sem Bool} (hg : ∀ i b, f i = some b → ∀ w, (g i).run P w = .ok b w) :
    ∀ (n i : Nat) (r : Bool), arrEq f n i = some r →
      (forIn (List.range' i n) ((none, ()) : Option Bool × Unit) fun i (_ : Option Bool × Unit) => do
        let b ← g i
        if b = false then pure (ForInStep.done ((some false, ()) : Option Bool × Unit)) else pure (ForInStep.yield (none, ())) : Sem (Option Bool × Unit)).run P w
      = .ok (if r then none else some false, ()) w := by
  intro n
  induction n with
  | zero => intro i r h; simp [arrEq] at h; subst h; simp
  | succ n ih =>
    intro i r h
    simp only [arrEq] at h
    rw [List.range'_succ]
    simp only [List.forIn_cons, Sem.run_bind]
    split at h
    · rename_i hf
      simp only [hg i _ hf, Result.andThen_ok, Bool.true_eq_false, if_false, Sem.run_pure]
      exact ih _ _ h
    · rename_i hf
      cases h
      simp [hg i _ hf]
    · cases h
theorem fld_loop {f : Field → Option Bool} {g : Field → Sem Bool} (hg : ∀ x b, f x = some b → ∀ w, (g x).run P w = .ok b w) :
    ∀ (l : List Field) (r : Bool), fldEq f l = some r →
      (forIn l ((none, ()) : Option Bool × Unit) fun x (_ : Option Bool × Unit) =>
        if x.name = "_" then pure (ForInStep.yield ((none, ()) : Option Bool × Unit)) else do
        let b ← g x
        if b = false then pure (ForInStep.done ((some false, ()) : Option Bool × Unit)) else pure (ForInStep.yield (none, ())) : Sem (Option Bool × Unit)).run P w
      = .ok (if r then none else some false, ()) w := by
  intro l
  induction l with
  | nil => intro r h; simp [fldEq] at h; subst h; simp
  | cons x l ih =>
    intro r h
    simp only [fldEq] at h
    simp only [List.forIn_cons, Sem.run_bind, Sem.run_ite]
    split at h
    · rename_i hx
      have hx : x.name = "_" := by simpa using hx
      simp only [hx, if_true, Sem.run_pure, Result.andThen_ok]
      exact ih _ h
    · rename_i hx
      have hx : ¬ x.name = "_" := by simpa using hx
      simp only [hx, if_false]
      split at h
      · rename_i hf
        simp only [hg x _ hf, Result.andThen_ok, Bool.true_eq_false, if_false, Sem.run_pure]
        exact ih _ h
      · rename_i hf
        cases h
        simp [hg x _ hf]
      · cases h
theorem both_some {f : AV → AV → Option Bool} {a b : Option AV} {r : Bool} (h : both f a b = some r) : ∃ x y, a = some x ∧ b = some y ∧ f x y = some r := by
  unfold both at h
  split at h
  · exact ⟨_, _, rfl, rfl, h⟩
  · cases h

set_option maxHeartbeats 2000000 in
theorem eqA_sound (d : Nat) : ∀ {t : TypeId} {a b : AV} {x y : Value} {r : Bool} {w : World}, eqA P d t a b = some r → VRel σ a x → VRel σ b y →
    (Op.equalIn d t x y).run P w = .ok r w := by
  induction d with
  | zero => intro t a b x y r w h; simp [eqA] at h
  | succ d ih =>
    intro t a b x y r w h hx hy
    unfold eqA at h
    split at h
    case h_1 hu =>
      split at h
      · cases h; cases hx; cases hy; simp [Op.equalIn, run_underlying_some hu]
      · cases h
    case h_2 hu =>
      split at h
      · split at h
        · rename_i hk
          cases h; cases hx; cases hy
          have := kindEq_eq hk; subst this
          rw [eqI_eq]
          simp [Op.equalIn, run_underlying_some hu]
        · cases h
      · cases h
    case h_3 hu =>
      split at h
      · cases h; cases hx; cases hy
        rename_i s1 h1 s2 h2
        subst h1 h2
        have e1 : eqB (bytesOf s1) (bytesOf s2) = (s1.toList == s2.toList) := by rw [← toList_bytes, ← toList_bytes]; exact eqB_eq _ _
        rw [e1, ← beq_toListBytes]
        simp [Op.equalIn, run_underlying_some hu]
      · cases h
    case h_4 hu =>
      split at h <;> first | (cases h; done) | (cases h; cases hx; cases hy; simp only [Op.equalIn, Sem.run_bind, run_underlying_some hu, Result.andThen_ok]; rfl)
    case h_5 hu =>
      split at h <;> first | (cases h; done) | (cases h; cases hx; cases hy; simp only [Op.equalIn, Sem.run_bind, run_underlying_some hu, Result.andThen_ok]; rfl)
    case h_6 hu =>
      split at h <;> first | (cases h; done) | (cases h; cases hx; cases hy; simp only [Op.equalIn, Sem.run_bind, run_underlying_some hu, Result.andThen_ok]; rfl)
    case h_7 hu =>
      split at h <;> first | (cases h; done) | (cases h; cases hx; cases hy; simp only [Op.equalIn, Sem.run_bind, run_underlying_some hu, Result.andThen_ok]; rfl)
    case h_8 hu =>
      split at h
      · cases h; cases hx; cases hy; simp only [Op.equalIn, Sem.run_bind, run_underlying_some hu, Result.andThen_ok]; rfl
      · cases h; cases hx; cases hy; simp only [Op.equalIn, Sem.run_bind, run_underlying_some hu, Result.andThen_ok]; rfl
      · cases h; cases hx; cases hy; simp only [Op.equalIn, Sem.run_bind, run_underlying_some hu, Result.andThen_ok]; rfl
      · split at h
        · rename_i hte
          have hte := Nat.eq_of_beq_eq_true hte
          split at h
          · rename_i i hi
            split at h
            · rename_i hc
              cases hx; cases hy
              rename_i x' hx' y' hy'
              subst hte
              have := ih (w := w) h hx' hy'
              simp only [Op.equalIn, Sem.run_bind, run_underlying_some hu, Result.andThen_ok, ne_eq, not_true_eq_false, if_false, run_typeInfo hi, hc, Bool.not_true, Bool.false_eq_true, Sem.run_ite, this]
            · cases h
          · cases h
        · rename_i hte
          cases h; cases hx; cases hy
          have hne := ne_of_beq hte
          simp only [Op.equalIn, Sem.run_bind, run_underlying_some hu, Result.andThen_ok]
          rw [Sem.run_ite, if_pos hne]; rfl
      · cases h
    case h_9 fs hu =>
      split at h
      · split at h
        · rename_i hst
          cases hx; cases hy
          rename_i xs hxs ys hys
          have := fld_loop (P := P) (w := w) (g := fun f => do
              let a ← part f.type xs f.offset
              let b ← part f.type ys f.offset
              Op.equalIn d f.type a b) (fun f b hf w => by
            obtain ⟨u, v, hu', hv', hr⟩ := both_some hf
            obtain ⟨x1, e1, r1⟩ := part_sound (w := w) hu' hxs
            obtain ⟨x2, e2, r2⟩ := part_sound (w := w) hv' hys
            simp [e1, e2, ih hr r1 r2]) _ _ h
          simp only [bind_assoc] at this
          simp only [Op.equalIn, Sem.run_bind, run_underlying_some hu, Result.andThen_ok, run_program, hst]
          simp only [Bool.false_eq_true, if_false, ite_not, ne_eq, Bool.not_eq_true', ← Array.forIn_toList, Sem.run_bind]
          rw [this]
          cases r <;> simp
        · cases h
      · cases h
    case h_10 len e hu =>
      split at h
      · split at h
        · rename_i n hn
          cases hx; cases hy
          rename_i xs hxs ys hys
          have := arr_loop (P := P) (w := w) (g := fun i => do
              let a ← part e xs (i * n)
              let b ← part e ys (i * n)
              Op.equalIn d e a b) (fun i b hf w => by
            obtain ⟨u, v, hu', hv', hr⟩ := both_some hf
            obtain ⟨x1, e1, r1⟩ := part_sound (w := w) hu' hxs
            obtain ⟨x2, e2, r2⟩ := part_sound (w := w) hv' hys
            simp [e1, e2, ih hr r1 r2]) _ _ _ h
          simp only [bind_assoc] at this
          simp only [Op.equalIn, Sem.run_bind, run_underlying_some hu, Result.andThen_ok, run_sizeOf hn]
          simp only [Std.Legacy.Range.forIn_eq_forIn_range', Std.Legacy.Range.size, Bool.not_eq_true']
          simp only [Nat.sub_zero, Nat.add_one_sub_one, Nat.div_one]
          rw [this]
          cases r <;> simp
        · cases h
      · cases h
    case h_11 => cases h
end Go.Proofs.YtdjeokgkeejpcaaGreatDoor.AX

namespace Go.Proofs.YtdjeokgkeejpcaaGreatDoor.AX
open Go
variable {P : Program} {σ : Sig} {w : World}

theorem eqGuard_int {op : BinOp} {t : TypeId} {ox oy : Operand} {k k' : IntKind} {m n : Int} : (eqGuard op t ox oy (.int k m) (.int k' n)).run P w = .ok () w := by
  cases op <;> rfl
theorem eqGuard_str {op : BinOp} {t : TypeId} {ox oy : Operand} {m n : ByteArray} : (eqGuard op t ox oy (.string m) (.string n)).run P w = .ok () w := by
  cases op <;> rfl
theorem guard_sound {op : BinOp} (hop : op = .eql ∨ op = .neq) {t : TypeId} {ox oy : Operand} {a b : AV} {x y : Value} (h : guardOk P t ox oy a b = true) (hx : VRel σ a x) (hy : VRel σ b y) :
    (eqGuard op t ox oy x y).run P w = .ok () w := by
  unfold guardOk at h
  split at h
  · cases hx
    split at h
    · cases hy
      split at h
      · rcases hop with rfl | rfl <;> rfl
      · split at h
        · rcases hop with rfl | rfl <;> simp [eqGuard]
        · cases h
    · cases h
    · cases h
    · rename_i h1 h2 h3
      cases hy <;> first | (exact absurd rfl h1) | (exact absurd rfl h2) | (exact absurd rfl h3) | (rcases hop with rfl | rfl <;> rfl)
  · cases hx
    split at h
    · cases hy
      have h : P.eqGuardType P.depth t = false := by simpa using h
      rcases hop with rfl | rfl <;> simp [eqGuard, h]
    · cases h
    · cases h
    · rename_i h1 h2 h3
      cases hy <;> first | (exact absurd rfl (h1 _)) | (exact absurd rfl h2) | (exact absurd rfl h3) | (rcases hop with rfl | rfl <;> rfl)
  · cases h
  · cases h
  · rename_i h1 h2 h3 h4
    cases hx <;> first | (exact absurd rfl h1) | (exact absurd rfl (h2 _)) | (exact absurd rfl h3) | (exact absurd rfl h4) | skip
    all_goals (cases y <;> (rcases hop with rfl | rfl <;> rfl))

theorem binOp_equal {t : TypeId} {x y : Value} {r : Bool} (h : (Op.equalIn 10000 t x y).run P w = .ok r w)
    (hn : ∀ k m k' n, ¬ (x = .int k m ∧ y = .int k' n)) (hs : ∀ m n, ¬ (x = .string m ∧ y = .string n))
    (hf : ∀ k m k' n, ¬ (x = .float k m ∧ y = .float k' n)) (hc : ∀ k m m' k' n n', ¬ (x = .complex k m m' ∧ y = .complex k' n n')) (neg : Bool) :
    (binOp (if neg then .neq else .eql) t x y).run P w = .ok (.bool (r != neg)) w := by
  have e : (Op.equal t x y).run P w = .ok r w := h
  cases neg
  · simp only [Bool.false_eq_true, if_false, binOp]
    split <;> first | (exact absurd ⟨rfl, rfl⟩ (hn _ _ _ _)) | (exact absurd ⟨rfl, rfl⟩ (hs _ _)) | (exact absurd ⟨rfl, rfl⟩ (hf _ _ _ _)) | (exact absurd ⟨rfl, rfl⟩ (hc _ _ _ _ _ _)) | skip
    all_goals simp_all
  · simp only [if_true, binOp]
    split <;> first | (exact absurd ⟨rfl, rfl⟩ (hn _ _ _ _)) | (exact absurd ⟨rfl, rfl⟩ (hs _ _)) | (exact absurd ⟨rfl, rfl⟩ (hf _ _ _ _)) | (exact absurd ⟨rfl, rfl⟩ (hc _ _ _ _ _ _)) | skip
    all_goals simp_all

theorem eqOp_sound {neg : Bool} {t : TypeId} {ox oy : Operand} {a b v : AV} {x y : Value} (h : eqOp P neg t ox oy a b = some v) (hx : VRel σ a x) (hy : VRel σ b y)
    (ha : ∀ k n, a ≠ .int k n) (hs : ∀ s, a ≠ .str s) :
    ∃ v', (do eqGuard (if neg then .neq else .eql) t ox oy x y; binOp (if neg then .neq else .eql) t x y : Sem Value).run P w = .ok v' w ∧ VRel σ v v' := by
  unfold eqOp at h
  split at h
  · rename_i hg
    split at h
    · rename_i r he
      cases h
      refine ⟨.bool (r != neg), ?_, .bool _⟩
      have hg' := guard_sound (P := P) (w := w) (op := if neg then .neq else .eql) (by cases neg <;> simp) hg hx hy
      rw [Sem.run_bind, hg', Result.andThen_ok]
      have hb1 : a ≠ .bad := by rintro rfl; simp [guardOk] at hg
      have hb2 : a ≠ .one := by rintro rfl; simp [guardOk] at hg
      refine binOp_equal (eqA_sound 10000 he hx hy) ?_ ?_ ?_ ?_ neg
      · rintro k m k' n ⟨rfl, rfl⟩; cases hx <;> first | exact absurd rfl (ha _ _) | exact absurd rfl hb1 | exact absurd rfl hb2
      · rintro m n ⟨rfl, rfl⟩; cases hx <;> first | exact absurd rfl (hs _) | exact absurd rfl hb1 | exact absurd rfl hb2
      · rintro k m k' n ⟨rfl, rfl⟩; cases hx <;> first | exact absurd rfl hb1 | exact absurd rfl hb2
      · rintro k m m' k' n n' ⟨rfl, rfl⟩; cases hx <;> first | exact absurd rfl hb1 | exact absurd rfl hb2
    · cases h
  · cases h
theorem binA_sound {op : BinOp} {t : TypeId} {ox oy : Operand} {a b v : AV} {x y : Value} (h : binA P op t ox oy a b = some v) (hx : VRel σ a x) (hy : VRel σ b y) :
    ∃ v', (do eqGuard op t ox oy x y; binOp op t x y : Sem Value).run P w = .ok v' w ∧ VRel σ v v' := by
  unfold binA at h
  split at h
  · split at h
    · cases hx; cases hy
      obtain ⟨v', h1, h2⟩ := intOp_sound (P := P) (σ := σ) (w := w) (t := t) h
      exact ⟨v', by rw [Sem.run_bind, eqGuard_int, Result.andThen_ok, h1], h2⟩
    · cases h
  · split at h
    · cases hx; cases hy
      rename_i s1 h1 s2 h2
      subst h1 h2
      obtain ⟨v', h1, h2⟩ := strOp_sound (P := P) (σ := σ) (w := w) (t := t) h
      exact ⟨v', by rw [Sem.run_bind, eqGuard_str, Result.andThen_ok, h1], h2⟩
    · cases h
  · rename_i h1 h2
    split at h
    · exact eqOp_sound (neg := false) h hx hy (fun k n e => h1 k n e) (fun s e => h2 s e)
    · exact eqOp_sound (neg := true) h hx hy (fun k n e => h1 k n e) (fun s e => h2 s e)
    · cases h

theorem lim_max (k : IntKind) : Int.ofNat (lim k) = k.max := by
  cases k <;> simp [lim, IntKind.max, IntKind.signed, IntKind.bits]
theorem unA_sound {op : UnOp} {a v : AV} {x : Value} (h : unA op a = some v) (hx : VRel σ a x) :
    ∃ v', (Op.unary op x).run P w = .ok v' w ∧ VRel σ v v' := by
  unfold unA at h
  split at h
  · cases hx
    rename_i k n
    split at h
    · cases h
      exact ⟨.int k (k.wrap (0 - n)), rfl, by rw [wrapA_eq, subA_eq]; exact .int _ _⟩
    · split at h
      · rename_i hs
        simp only [bitsA, Option.map_some, Option.some.injEq] at h
        subst h
        exact ⟨_, by simp [Op.unary, Op.intBits, hs], .int _ _⟩
      · rename_i hs
        rw [bitsF_eq, lim_max] at h
        simp only [bitsA, Option.map_some, Option.some.injEq] at h
        subst h
        exact ⟨_, by simp [Op.unary, Op.intBits, hs], .int _ _⟩
    · cases h
  · cases hx
    split at h
    · cases h; exact ⟨_, rfl, .bool _⟩
    · cases h
  · cases h
theorem convA_sound {src dst : TypeId} {a v : AV} {x : Value} (h : convA P src dst a = some v) (hx : VRel σ a x) :
    ∃ v', (convert src dst x).run P w = .ok v' w ∧ VRel σ v v' := by
  unfold convA at h
  split at h
  · rename_i n
    obtain rfl := hx.int_inv
    split at h
    · rename_i k hs hd
      cases h
      refine ⟨.int k (k.wrap n), ?_, by rw [wrapA_eq]; exact .int _ _⟩
      simp only [convert, Sem.run_bind, run_underlying_some hs, run_underlying_some hd, Result.andThen_ok]
      rfl
    · cases h
  · obtain ⟨s, rfl, hl⟩ := hx.str_inv
    split at h
    · rename_i hs hd
      cases h
      refine ⟨.string s, ?_, .str _ hl⟩
      simp only [convert, Sem.run_bind, run_underlying_some hs, run_underlying_some hd, Result.andThen_ok]
      rfl
    · cases h
  · cases h
theorem addr_add (b o n : Nat) : (Addr.mk b o none).add n = ⟨b, o + n, none⟩ := by
  unfold Addr.add; split
  · rename_i h; subst h; rfl
  · rfl
theorem fieldAddrA_sound {s : TypeId} {n : Nat} {a v : AV} {x : Value} (h : fieldAddrA P s a n = some v) (hx : VRel σ a x) :
    ∃ v', (Instr.fieldAt s x n).run P w = .ok v' w ∧ VRel σ v v' := by
  unfold fieldAddrA at h
  split at h
  · rename_i fs hu
    split at h
    · rename_i f hf
      split at h
      · rename_i z hz
        split at h
        · cases h; cases hx
          rename_i i hi
          refine ⟨.pointer (some ⟨i.blk, i.base + (_ + f.offset), none⟩), ?_, .ptr hi⟩
          simp only [Instr.fieldAt, Sem.run_bind, run_underlying_some hu, Result.andThen_ok, hf, Instr.sureAddr, Sem.run_pure, fieldPlace, run_sizeOf hz]
          simp [addr_add, Nat.add_assoc]
        · cases h
      · cases h
    · cases h
  · cases h
theorem fieldA_sound {t : TypeId} {n : Nat} {a v : AV} {x : Value} (h : fieldA P t a n = some v) (hx : VRel σ a x) :
    ∃ v', (Instr.field t x n).run P w = .ok v' w ∧ VRel σ v v' := by
  unfold fieldA at h
  split at h
  · rename_i fs hu
    split at h
    · rename_i f hf
      split at h
      · cases hx
        rename_i vs hvs
        obtain ⟨v', h1, h2⟩ := part_sound (w := w) h hvs
        refine ⟨v', ?_, h2⟩
        simp only [Instr.field, Sem.run_bind, run_underlying_some hu, Result.andThen_ok, hf, asAgg, Sem.run_pure, h1]
      · cases h
    · cases h
  · cases h
theorem inB_spec {i : Int} {len : Nat} (h : inB i len = true) : 0 ≤ i ∧ i < len ∧ natOf i = i.toNat := by
  unfold inB at h
  split at h
  · rename_i m; have h := Nat.le_of_ble_eq_true h; exact ⟨Int.natCast_nonneg _, by simp; omega, rfl⟩
  · cases h
theorem indexAddrA_sound {t : TypeId} {a ai v : AV} {x ix : Value} (h : indexAddrA P t a ai = some v) (hx : VRel σ a x) (hi : VRel σ ai ix) :
    ∃ v', (Instr.indexAt t x ix).run P w = .ok v' w ∧ VRel σ v v' := by
  unfold indexAddrA at h
  split at h
  · cases hi
    rename_i k i
    split at h
    · rename_i e hu
      split at h
      · rename_i n hn
        split at h
        · split at h
          · rename_i hb
            obtain ⟨h0, h1, h2⟩ := inB_spec hb
            cases h
            obtain ⟨j, o, hj, hl, ho, rfl⟩ := hx.slice_inv
            have ho := ho.resolve_right (by omega)
            subst ho
            refine ⟨.pointer (some ⟨j.blk, j.base + (_ + i.toNat * n), none⟩), ?_, by rw [h2]; exact .ptr hj⟩
            simp [Instr.indexAt, run_underlying_some hu, asIntOf, h0, h1, run_sizeOf hn, addr_add, Nat.add_assoc]
          · cases h
        · split at h
          · rename_i hb
            obtain ⟨h0, h1, h2⟩ := inB_spec hb
            cases h
            obtain ⟨j, o, c, hj, hl, hr, ho, rfl⟩ := hx.opn_inv
            have ho := ho.resolve_right (by omega)
            subst ho
            refine ⟨.pointer (some ⟨j.blk, j.base + (_ + i.toNat * n), none⟩), ?_, by rw [h2]; exact .ptr hj⟩
            simp [Instr.indexAt, run_underlying_some hu, asIntOf, h0, h1, run_sizeOf hn, addr_add, Nat.add_assoc]
          · cases h
        · split at h
          · rename_i hb
            obtain ⟨h0, h1, h2⟩ := inB_spec hb
            cases h
            obtain ⟨hl, rfl⟩ := hx.gsl_inv
            refine ⟨.pointer (some ⟨_, _ + i.toNat * n, none⟩), ?_, by rw [h2]; exact .gptr _ _⟩
            simp [Instr.indexAt, run_underlying_some hu, asIntOf, h0, h1, run_sizeOf hn, addr_add]
          · cases h
        · cases h
      · cases h
    · rename_i len e hu
      split at h
      · rename_i n hn
        split at h
        · rename_i hb
          obtain ⟨h0, h1, h2⟩ := inB_spec hb
          split at h
          · cases h; cases hx
            rename_i off j hj
            refine ⟨.pointer (some ⟨j.blk, j.base + (_ + i.toNat * n), none⟩), ?_, by rw [h2]; exact .ptr hj⟩
            simp [Instr.indexAt, run_underlying_some hu, asIntOf, h0, h1, run_sizeOf hn, addr_add, Nat.add_assoc, Instr.sureAddr]
          · cases h; cases hx
            rename_i g off
            refine ⟨.pointer (some ⟨g, off + i.toNat * n, none⟩), ?_, by rw [h2]; exact .gptr _ _⟩
            simp [Instr.indexAt, run_underlying_some hu, asIntOf, h0, h1, run_sizeOf hn, addr_add, Instr.sureAddr]
          · cases h
        · cases h
      · cases h
    · cases h
  · cases h
theorem indexA_sound {t : TypeId} {a ai v : AV} {x ix : Value} (h : indexA P t a ai = some v) (hx : VRel σ a x) (hi : VRel σ ai ix) :
    ∃ v', (Instr.index t x ix).run P w = .ok v' w ∧ VRel σ v v' := by
  unfold indexA at h
  split at h
  · cases hi
    rename_i k i
    split at h
    · rename_i len e hu
      split at h
      · rename_i n hn
        split at h
        · rename_i hb
          obtain ⟨h0, h1, h2⟩ := inB_spec hb
          split at h
          · cases hx
            rename_i vs hvs
            rw [h2] at h
            obtain ⟨v', h3, h4⟩ := part_sound (w := w) h hvs
            refine ⟨v', ?_, h4⟩
            have h3' : (part e vs (i.toNat * n)).run P w = .ok v' w := h3
            simp [Instr.index, run_underlying_some hu, asIntOf, h0, h1, run_sizeOf hn, h3']
          · cases h
        · cases h
      · cases h
    · rename_i hu
      split at h
      · cases hx
        rename_i s hs
        split at h
        · rename_i m
          split at h
          · rename_i b hb
            cases h
            subst hs
            have hm : s.data.toList[m]?.map UInt8.toNat = some b := by rw [← hb]; simp [bytesOf]
            cases hq : s.data.toList[m]? with
            | none => rw [hq] at hm; cases hm
            | some u =>
              rw [hq] at hm
              simp only [Option.map_some, Option.some.injEq] at hm
              refine ⟨.int .u8 (u.toNat : Int), ?_, by rw [← hm]; exact .int _ _⟩
              have hlt : m < s.size := by
                have := (List.getElem?_eq_some_iff.1 hq).1
                simpa using this
              have hgu : s[m]? = some u := by
                rw [getElem?_pos s m hlt]
                have := (List.getElem?_eq_some_iff.1 hq).2
                congr 1
              have h0 : (0 : Int) ≤ Int.ofNat m := Int.natCast_nonneg _
              have ht : (Int.ofNat m).toNat = m := rfl
              simp only [Instr.index, Sem.run_bind, run_underlying_some hu, asIntOf, Sem.run_pure, Result.andThen_ok, h0, if_true, ht, hgu]
          · cases h
        · cases h
      · cases h
    · cases h
  · cases h
end Go.Proofs.YtdjeokgkeejpcaaGreatDoor.AX

namespace Go.Proofs.YtdjeokgkeejpcaaGreatDoor.AX
open Go
variable {P : Program} {σ : Sig} {w : World}

/-- An optional operand's abstract and true value. -/
def OptRel (σ : Sig) : Option AV → Option Value → Prop
  | none, none => True
  | some a, some x => VRel σ a x
  | _, _ => False
theorem OptRel.map {ρ : Operand → AV} {ρ' : Operand → Value} : ∀ {o : Option Operand}, (∀ x ∈ o, VRel σ (ρ x) (ρ' x)) → OptRel σ (o.map ρ) (o.map ρ')
  | none, _ => trivial
  | some x, h => h x rfl
theorem boundA_some {y d n : Nat} {v : Value} {a : AV} (h : boundA y d (some a) = some n) (hr : VRel σ a v) (c : BoundsCode) :
    (Instr.sliceBound v y c).run P w = .ok n w ∧ n ≤ y := by
  unfold boundA at h
  split at h
  · rename_i he; cases he
  · rename_i k i he
    cases he
    obtain rfl := hr.int_inv
    split at h
    · rename_i h0
      rw [leI_eq] at h0
      have h0 : 0 ≤ i := by simpa using h0
      split at h
      · rename_i h1
        have h1 := Nat.le_of_ble_eq_true h1
        cases h
        rw [natOf_eq] at h1 ⊢
        refine ⟨?_, h1⟩
        have : 0 ≤ i ∧ i ≤ (y : Int) := by omega
        simp [Instr.sliceBound, asIntOf, this]
      · cases h
    · cases h
  · cases h
theorem optRel_cases {a : Option AV} {x : Option Value} (h : OptRel σ a x) : (a = none ∧ x = none) ∨ ∃ b y, a = some b ∧ x = some y ∧ VRel σ b y := by
  cases a <;> cases x
  · exact .inl ⟨rfl, rfl⟩
  · cases h
  · cases h
  · exact .inr ⟨_, _, rfl, rfl, h⟩
theorem boundA_none {y d n : Nat} (h : boundA y d none = some n) : n = d := by simp [boundA] at h; exact h.symm
/-- The three bounds of 'x[lo:hi]'. -/
theorem bounds2 {isS : Bool} {len cap h l : Nat} {hi lo : Option AV} {hi' lo' : Option Value} (hh : boundA cap len hi = some h) (hl : boundA h 0 lo = some l)
    (rh : OptRel σ hi hi') (rl : OptRel σ lo lo') (hle : len ≤ cap) :
    (Instr.sliceBounds isS len cap lo' hi' none).run P w = .ok (l, h, cap) w ∧ l ≤ h ∧ h ≤ cap := by
  rcases optRel_cases rh with ⟨rfl, rfl⟩ | ⟨b, y, rfl, rfl, rb⟩
  · have := boundA_none hh
    subst this
    rcases optRel_cases rl with ⟨rfl, rfl⟩ | ⟨b, y, rfl, rfl, rb⟩
    · have := boundA_none hl
      subst this
      exact ⟨by simp [Instr.sliceBounds], Nat.zero_le _, hle⟩
    · obtain ⟨h1, h2⟩ := boundA_some (P := P) (w := w) hl rb .sliceB
      exact ⟨by simp [Instr.sliceBounds, h1], h2, hle⟩
  · obtain ⟨h3, h4⟩ := boundA_some (P := P) (w := w) hh rb (if isS then .sliceAcap else .sliceAlen)
    rcases optRel_cases rl with ⟨rfl, rfl⟩ | ⟨b', y', rfl, rfl, rb'⟩
    · have := boundA_none hl
      subst this
      exact ⟨by simp [Instr.sliceBounds, h3], Nat.zero_le _, h4⟩
    · obtain ⟨h1, h2⟩ := boundA_some (P := P) (w := w) hl rb' .sliceB
      exact ⟨by simp [Instr.sliceBounds, h3, h1], h2, h4⟩
/-- The three bounds of 'x[lo:hi:max]'. -/
theorem bounds3 {len cap m h l d d' : Nat} {hi mx : AV} {hi' mx' : Value} {lo : Option AV} {lo' : Option Value} (hm : boundA cap d (some mx) = some m) (hh : boundA m d' (some hi) = some h) (hl : boundA h 0 lo = some l)
    (rm : VRel σ mx mx') (rh : VRel σ hi hi') (rl : OptRel σ lo lo') :
    (Instr.sliceBounds true len cap lo' (some hi') (some mx')).run P w = .ok (l, h, m) w ∧ l ≤ h ∧ h ≤ m ∧ m ≤ cap := by
  obtain ⟨h1, h2⟩ := boundA_some (P := P) (w := w) hm rm .slice3Acap
  obtain ⟨h3, h4⟩ := boundA_some (P := P) (w := w) hh rh .slice3B
  rcases optRel_cases rl with ⟨rfl, rfl⟩ | ⟨b', y', rfl, rfl, rb'⟩
  · have := boundA_none hl
    subst this
    exact ⟨by simp [Instr.sliceBounds, h1, h3], Nat.zero_le _, h4, h2⟩
  · obtain ⟨h5, h6⟩ := boundA_some (P := P) (w := w) hl rb' .slice3C
    exact ⟨by simp [Instr.sliceBounds, h1, h3, h5], h6, h4, h2⟩

theorem sliceAt_slice {t : TypeId} {e : TypeId} (hu : P.underlying t = some (.slice e)) (x : Value) (lo hi mx : Option Value) :
    (Instr.sliceAt t x lo hi mx).run P w = (Instr.slice t x lo hi mx).run P w := by
  simp [Instr.sliceAt, run_underlying_some hu]
theorem sliceAt_string {t : TypeId} (hu : P.underlying t = some .string) (x : Value) (lo hi mx : Option Value) :
    (Instr.sliceAt t x lo hi mx).run P w = (Instr.slice t x lo hi mx).run P w := by
  simp [Instr.sliceAt, run_underlying_some hu]
theorem bytesOf_extract (s : ByteArray) (l h : Nat) : bytesOf (s.extract l h) = ((bytesOf s).take h).drop l := by
  simp [bytesOf, ByteArray.data_extract, Array.toList_extract, List.extract_eq_take_drop, List.drop_take, List.map_take, List.map_drop]
/-- Where 'x[l:h:m]' of a slice lies. -/
theorem slice_at {b o n l m base off : Nat} {c : Nat} (hm : m ≤ c) (ho : o = base + off ∨ c = 0) :
    ∃ o', (if m = l then (some (⟨b, o, none⟩ : Addr)) else (some (⟨b, o, none⟩ : Addr)).map (·.add (l * n))) = some ⟨b, o', none⟩ ∧ (o' = base + (off + l * n) ∨ m - l = 0) := by
  by_cases h : m = l
  · exact ⟨o, by rw [if_pos h], .inr (by omega)⟩
  · refine ⟨o + l * n, by rw [if_neg h, Option.map_some, addr_add], ?_⟩
    rcases ho with ho | ho
    · exact .inl (by omega)
    · exact .inr (by omega)

theorem boundA_mono {y y' d n : Nat} {a : AV} (h : boundA y d (some a) = some n) (hy : y ≤ y') : boundA y' d (some a) = some n := by
  unfold boundA at h ⊢
  split at h
  · rename_i he; cases he
  · rename_i k i he
    cases he
    split at h
    · rename_i h0
      split at h
      · rename_i h1
        have h1 := Nat.le_of_ble_eq_true h1
        simp only [Nat.ble_eq_true_of_le (Nat.le_trans h1 hy)]
        exact h
      · cases h
    · cases h
  · cases h
theorem bndA_sound {isS : Bool} {cap len cap' l h m : Nat} {lo hi mx : Option AV} {lo' hi' mx' : Option Value} (hb : bndA cap len lo hi mx = some (l, h, m))
    (rl : OptRel σ lo lo') (rh : OptRel σ hi hi') (rm : OptRel σ mx mx') (hle : len ≤ cap) (hc : cap ≤ cap') (hs : mx = none ∨ isS = true) :
    (Instr.sliceBounds isS len cap' lo' hi' mx').run P w = .ok (l, h, if mx = none then cap' else m) w ∧ l ≤ h ∧ h ≤ m ∧ m ≤ cap ∧ (mx = none → m = cap) := by
  unfold bndA at hb
  split at hb
  · split at hb
    · rename_i h' hh
      split at hb
      · rename_i l' hl
        cases hb
        obtain rfl : mx' = none := by rcases optRel_cases rm with ⟨_, e⟩ | ⟨_, _, e, _, _⟩; exact e; cases e
        obtain ⟨_, h2, h3⟩ := bounds2 (P := P) (w := w) (isS := isS) hh hl rh rl hle
        have hh' : boundA cap' len hi = some h := by
          cases hi with
          | none => exact hh
          | some a => exact boundA_mono hh hc
        obtain ⟨h1, _, _⟩ := bounds2 (P := P) (w := w) (isS := isS) hh' hl rh rl (Nat.le_trans hle hc)
        exact ⟨by simpa using h1, h2, h3, Nat.le_refl _, fun _ => rfl⟩
      · cases hb
    · cases hb
  · rename_i mv
    have hs : isS = true := hs.resolve_left (by simp)
    subst hs
    split at hb
    · rename_i hv
      split at hb
      · rename_i m' hm
        split at hb
        · rename_i h' hh
          split at hb
          · rename_i l' hl
            cases hb
            rcases optRel_cases rm with ⟨e, _⟩ | ⟨b, y, e, rfl, rb⟩
            · cases e
            cases e
            rcases optRel_cases rh with ⟨e, _⟩ | ⟨b', y', e, rfl, rb'⟩
            · cases e
            cases e
            have hm2 := (boundA_some (P := P) (w := w) hm rb .index).2
            obtain ⟨h1, h2, h3, h4⟩ := bounds3 (P := P) (w := w) (len := len) (boundA_mono hm hc) hh hl rb rb' rl
            exact ⟨by simpa using h1, h2, h3, hm2, fun e => by cases e⟩
          · cases hb
        · cases hb
      · cases hb
    · cases hb
theorem sliceA_sound {t : TypeId} {a v : AV} {x : Value} {lo hi mx : Option AV} {lo' hi' mx' : Option Value} (h : sliceA P t a lo hi mx = some v) (hx : VRel σ a x)
    (rl : OptRel σ lo lo') (rh : OptRel σ hi hi') (rm : OptRel σ mx mx') :
    ∃ v', (Instr.sliceAt t x lo' hi' mx').run P w = .ok v' w ∧ VRel σ v v' := by
  unfold sliceA at h
  split at h
  · rename_i hu
    split at h
    · rename_i s
      split at h
      · split at h
        · rename_i l h' m hb
          cases h
          obtain ⟨bs, rfl, hbs⟩ := hx.str_inv
          obtain rfl : mx' = none := by rcases optRel_cases rm with ⟨_, e⟩ | ⟨_, _, e, _, _⟩; exact e; cases e
          have hlen : s.length = bs.size := by rw [← hbs]; simp [bytesOf]
          rw [hlen] at hb
          obtain ⟨h1, _⟩ := bndA_sound (P := P) (w := w) (isS := false) hb rl rh (show OptRel σ none none from trivial) (Nat.le_refl _) (Nat.le_refl _) (.inl rfl)
          refine ⟨.string (bs.extract l h'), ?_, .str _ (by rw [bytesOf_extract, hbs])⟩
          rw [sliceAt_string hu]
          simp [Instr.slice, run_underlying_some hu, h1]
        · cases h
      · cases h
    · cases h
  · rename_i e hu
    split at h
    · rename_i n hn
      rw [sliceAt_slice hu]
      split at h
      · obtain rfl := hx.nils_inv
        split at h
        · rename_i r hb
          obtain ⟨l, h', m⟩ := r
          cases h
          obtain ⟨h1, h2, h3, h4, h5⟩ := bndA_sound (P := P) (w := w) (isS := true) hb rl rh rm (Nat.le_refl _) (Nat.le_refl _) (.inr rfl)
          refine ⟨.slice none 0 0, ?_, .nils⟩
          have : (if mx = none then 0 else m) - l = 0 := by split <;> omega
          have h0 : h' - l = 0 := by omega
          simp [Instr.slice, run_underlying_some hu, h1, run_sizeOf hn, this, h0]
        · cases h
      · rename_i id off len cap
        split at h
        · rename_i l h' m hb
          cases h
          obtain ⟨i, o, hi, hle, ho, rfl⟩ := hx.slice_inv
          obtain ⟨h1, h2, h3, h4, h5⟩ := bndA_sound (P := P) (w := w) (isS := true) hb rl rh rm hle (Nat.le_refl _) (.inr rfl)
          have hm : (if mx = none then cap else m) = m := by split
                                                             · rename_i e; exact (h5 e).symm
                                                             · rfl
          rw [hm] at h1
          obtain ⟨o', e1, e2⟩ := slice_at (b := i.blk) (n := n) (l := l) h4 ho
          refine ⟨.slice (some ⟨i.blk, o', none⟩) (h' - l) (m - l), ?_, .slice hi (by show h' - l ≤ m - l; omega) e2⟩
          simp only [Instr.slice, Sem.run_bind, run_underlying_some hu, h1, run_sizeOf hn, Result.andThen_ok, e1, Sem.run_pure]
        · cases h
      · rename_i id off len sz
        split at h
        · rename_i hz
          have hz := Nat.eq_of_beq_eq_true hz
          split at h
          · rename_i l h' m hb
            obtain ⟨i, o, c, hi, hle, hr, ho, rfl⟩ := hx.opn_inv
            obtain ⟨h1, h2, h3, h4, h5⟩ := bndA_sound (P := P) (w := w) (isS := true) hb rl rh rm (Nat.le_refl _) hle (.inr rfl)
            split at h
            · cases h
              simp only [if_true] at h1
              obtain ⟨o', e1, e2⟩ := slice_at (b := i.blk) (n := n) (l := l) (Nat.le_refl c) ho
              refine ⟨.slice (some ⟨i.blk, o', none⟩) (h' - l) (c - l), ?_, .opn hi (by show h' - l ≤ c - l; omega) ?_ e2⟩
              · simp only [Instr.slice, Sem.run_bind, run_underlying_some hu, h1, run_sizeOf hn, Result.andThen_ok, e1, Sem.run_pure]
              · show off + l * n + (c - l) * sz ≤ i.room
                subst hz
                have : l * sz + (c - l) * sz = c * sz := by rw [← Nat.add_mul]; congr 1; omega
                omega
            · cases h
              simp only [reduceCtorEq, if_false] at h1
              obtain ⟨o', e1, e2⟩ := slice_at (b := i.blk) (n := n) (l := l) (show m ≤ c by omega) ho
              refine ⟨.slice (some ⟨i.blk, o', none⟩) (h' - l) (m - l), ?_, .slice hi (by show h' - l ≤ m - l; omega) e2⟩
              simp only [Instr.slice, Sem.run_bind, run_underlying_some hu, h1, run_sizeOf hn, Result.andThen_ok, e1, Sem.run_pure]
          · cases h
        · cases h
      · cases h
    · cases h
  · rename_i n e hu
    split at h
    · rename_i z hz
      split at h
      · rename_i id off
        split at h
        · split at h
          · rename_i l h' m hb
            cases h
            obtain ⟨i, hi, rfl⟩ := hx.ptr_inv
            obtain rfl : mx' = none := by rcases optRel_cases rm with ⟨_, e⟩ | ⟨_, _, e, _, _⟩; exact e; cases e
            obtain ⟨h1, h2, h3, h4, h5⟩ := bndA_sound (P := P) (w := w) (isS := false) hb rl rh (show OptRel σ none none from trivial) (Nat.le_refl _) (Nat.le_refl _) (.inl rfl)
            simp only [if_true] at h1
            obtain ⟨o', e1, e2⟩ := slice_at (b := i.blk) (n := z) (l := l) (o := i.base + off) (base := i.base) (off := off) (Nat.le_refl n) (.inl rfl)
            refine ⟨.slice (some ⟨i.blk, o', none⟩) (h' - l) (n - l), ?_, .slice hi (by show h' - l ≤ n - l; omega) e2⟩
            have e1' : (some (if n = l then (⟨i.blk, i.base + off, none⟩ : Addr) else (Addr.mk i.blk (i.base + off) none).add (l * z))) = some ⟨i.blk, o', none⟩ := by
              rw [← e1]; split <;> rfl
            simp only [Instr.sliceAt, Sem.run_bind, run_underlying_some hu, Instr.sureAddr, Sem.run_pure, h1, run_sizeOf hz, Result.andThen_ok, e1']
          · cases h
        · cases h
      · cases h
    · cases h
  · cases h
end Go.Proofs.YtdjeokgkeejpcaaGreatDoor.AX

namespace Go.Proofs.YtdjeokgkeejpcaaGreatDoor.AX
open Go
variable {P : Program} {σ : Sig} {w : World}

theorem cellsA_rel {v : AV} {x : Value} {l : List AV} (h : cellsA v = some l) (hx : VRel σ v x) : VRels σ l x.cells.toList := by
  unfold cellsA at h
  split at h
  · cases h; obtain ⟨vs, rfl, hv⟩ := hx.agg_inv; exact hv
  · cases h
  · cases h
  · rename_i h1 h2 h3
    cases h
    have hc : x.cells = #[x] := by
      cases hx <;> first | rfl | (exact absurd rfl (h1 _)) | (exact absurd rfl h2) | (exact absurd rfl (h3 _)) | assumption
    rw [hc]
    exact .cons hx .nil
theorem zeroA_sound {t : TypeId} {v : AV} (h : zeroA P t = some v) : ∃ x, (zeroValue t).run P w = .ok x w ∧ VRel σ v x := by
  unfold zeroA at h
  split at h
  · rename_i i hi
    split at h
    · rename_i z hz
      cases h
      exact ⟨z, by simp [zeroValue, run_typeInfo hi, hz], ofVal_rel z⟩
    · cases h
  · cases h

theorem lay_fold : ∀ (new : List Value) (k off : Nat) (cells : Array Value), off + k + new.length ≤ cells.size →
    ((new.zipIdx k).foldl (fun cs (p : Value × Nat) => cs.setIfInBounds (off + p.2) p.1) cells).toList = cells.toList.take (off + k) ++ new ++ cells.toList.drop (off + k + new.length) := by
  intro new
  induction new with
  | nil => intro k off cells _; simp
  | cons v new ih =>
    intro k off cells hle
    simp only [List.length_cons] at hle
    simp only [List.zipIdx_cons, List.foldl_cons]
    rw [ih (k + 1) off _ (by simp; omega)]
    have hlt : off + k < cells.toList.length := by simp; omega
    simp only [Array.toList_setIfInBounds]
    have e1 : List.take (off + (k + 1)) (cells.toList.set (off + k) v) = cells.toList.take (off + k) ++ [v] := by
      rw [show off + (k + 1) = (off + k) + 1 from by omega, List.take_succ_eq_append_getElem (by simpa using hlt)]
      simp [List.take_set_of_le]
    have e2 : List.drop (off + (k + 1) + new.length) (cells.toList.set (off + k) v) = cells.toList.drop (off + k + (v :: new).length) := by
      rw [List.drop_set_of_lt (by omega)]
      congr 1
      simp; omega
    rw [e1, e2]
    simp
theorem fill_sound {pl : Nat → Option (Nat × Nat)} : ∀ {ps : List (Nat × AV)} {qs : List (Nat × Value)} {cs r : List AV} {zs : Array Value},
    fillA pl cs ps = some r → VRels σ cs zs.toList → ps.map (·.1) = qs.map (·.1) → VRels σ (ps.map (·.2)) (qs.map (·.2)) →
    ∃ rs, Instr.fill pl zs qs = some rs ∧ VRels σ r rs.toList := by
  intro ps
  induction ps with
  | nil =>
    intro qs cs r zs h hz h1 h2
    cases qs with
    | nil => simp only [fillA, Option.some.injEq] at h; subst h; exact ⟨zs, rfl, hz⟩
    | cons q qs => cases h1
  | cons p ps ih =>
    intro qs cs r zs h hz h1 h2
    cases qs with
    | nil => cases h1
    | cons q qs =>
      obtain ⟨i, v⟩ := p
      obtain ⟨j, x⟩ := q
      simp only [List.map_cons, List.cons.injEq] at h1
      obtain ⟨rfl, h1⟩ := h1
      simp only [List.map_cons] at h2
      cases h2 with
      | cons hv h2 =>
      simp only [fillA] at h
      split at h
      · rename_i off size hpl
        split at h
        · rename_i new hnew
          split at h
          · rename_i hsz hbd
            have hsz := Nat.eq_of_beq_eq_true hsz
            have hbd := Nat.le_of_ble_eq_true hbd
            have hc := cellsA_rel hnew hv
            have hlen : x.cells.size = new.length := by have := hc.length; simpa using this.symm
            have hzl : cs.length = zs.size := by have := hz.length; simpa using this
            simp only [Instr.fill, hpl]
            have c1 : ¬ (x.cells.size ≠ size ∨ off + x.cells.size > zs.size) := by omega
            have c2 : (decide (x.cells.size ≠ size) || decide (off + x.cells.size > zs.size)) = false := by
              simp only [Bool.or_eq_false_iff, decide_eq_false_iff_not]; omega
            simp only [c2, Bool.false_eq_true, if_false]
            refine ih h ?_ h1 h2
            have := lay_fold x.cells.toList 0 off zs (by simp; omega)
            simp only [Nat.add_zero] at this
            have e : new.length = x.cells.toList.length := by simpa using hlen.symm
            have h3 : VRels σ (layA cs off new) (zs.toList.take off ++ x.cells.toList ++ zs.toList.drop (off + x.cells.toList.length)) := by
              unfold layA
              rw [e]
              exact ((hz.take off).append hc).append (hz.drop _)
            rw [← this] at h3
            rw [← Array.foldl_toList, Array.toList_zipIdx]
            exact h3
          · cases h
        · cases h
      · cases h
theorem places_sound : ∀ {l : List Field} {pl : List (Nat × Nat)} {w : World}, fieldPlaces P l = some pl →
    (l.mapM (fun f => do pure (f.offset, ← sizeOf f.type) : Field → Sem (Nat × Nat))).run P w = .ok pl w := by
  intro l
  induction l with
  | nil => intro pl w h; simp only [fieldPlaces, Option.some.injEq] at h; subst h; rfl
  | cons f l ih =>
    intro pl w h
    simp only [fieldPlaces] at h
    split at h
    · rename_i n r hn hr
      cases h
      rw [List.mapM_cons]
      simp only [Sem.run_bind, run_sizeOf hn, Result.andThen_ok, Sem.run_pure, ih hr]
    · cases h
theorem buildA_sound {t : TypeId} {ps : List (Nat × AV)} {qs : Array (Nat × Value)} {v : AV} (h : buildA P t ps = some v) (h1 : ps.map (·.1) = qs.toList.map (·.1))
    (h2 : VRels σ (ps.map (·.2)) (qs.toList.map (·.2))) : ∃ v', (Instr.build t qs).run P w = .ok v' w ∧ VRel σ v v' := by
  unfold buildA at h
  split at h
  · rename_i z hz
    obtain ⟨zx, hz1, hz2⟩ := zeroA_sound (σ := σ) (w := w) hz
    obtain ⟨zs, rfl, hzs⟩ := hz2.agg_inv
    split at h
    · rename_i fs hu
      split at h
      · rename_i pl hpl
        split at h
        · rename_i cs hcs
          cases h
          obtain ⟨rs, hr1, hr2⟩ := fill_sound hcs hzs h1 h2
          refine ⟨.agg rs, ?_, .agg hr2⟩
          have hm := places_sound (P := P) (w := w) hpl
          simp only [Instr.build, Sem.run_bind, hz1, Result.andThen_ok, run_underlying_some hu, Value.cells]
          rw [Array.mapM_eq_mapM_toList, Sem.run_map, hm]
          simp [hr1]
        · cases h
      · cases h
    · rename_i n e hu
      split at h
      · rename_i k hk
        split at h
        · rename_i cs hcs
          cases h
          obtain ⟨rs, hr1, hr2⟩ := fill_sound hcs hzs h1 h2
          refine ⟨.agg rs, ?_, .agg hr2⟩
          simp only [Instr.build, Sem.run_bind, hz1, Result.andThen_ok, run_underlying_some hu, Value.cells, run_sizeOf hk, hr1, Sem.run_pure]
        · cases h
      · cases h
    · cases h
  · cases h
theorem lenA_sound {t : TypeId} {ts : Array TypeId} {ty : TypeId} {a v : AV} {x : Value} {xs : Array Value} (ht : ts[0]? = some t) (hxs : xs[0]? = some x) (h : lenA P t a = some v) (hx : VRel σ a x) :
    ∃ v', (Builtin.len_ ts ty xs).run P w = .ok v' w ∧ VRel σ v v' := by
  unfold lenA at h
  split at h
  · rename_i hu
    split at h
    · cases h
      obtain ⟨s, rfl, hs⟩ := hx.str_inv
      rename_i l
      have hl : l.length = s.size := by rw [← hs]; simp [bytesOf]
      refine ⟨.int .i64 s.size, ?_, by rw [hl]; exact .int _ _⟩
      simp only [Builtin.len_, ht, hxs, Sem.run_bind, run_underlying_some hu, Result.andThen_ok]; rfl
    · cases h
  · rename_i n e hu
    cases h
    refine ⟨.int .i64 n, ?_, .int _ _⟩
    simp only [Builtin.len_, ht, hxs, Sem.run_bind, run_underlying_some hu, Result.andThen_ok]; rfl
  · rename_i e hu
    split at h
    · cases h
      obtain rfl := hx.nils_inv
      refine ⟨.int .i64 0, ?_, .int _ _⟩
      simp only [Builtin.len_, ht, hxs, Sem.run_bind, run_underlying_some hu, Result.andThen_ok]; rfl
    · cases h
      obtain ⟨i, o, _, _, _, rfl⟩ := hx.slice_inv
      refine ⟨.int .i64 _, ?_, .int _ _⟩
      simp only [Builtin.len_, ht, hxs, Sem.run_bind, run_underlying_some hu, Result.andThen_ok]; rfl
    · cases h
      obtain ⟨i, o, c, _, _, _, _, rfl⟩ := hx.opn_inv
      refine ⟨.int .i64 _, ?_, .int _ _⟩
      simp only [Builtin.len_, ht, hxs, Sem.run_bind, run_underlying_some hu, Result.andThen_ok]; rfl
    · cases h
      obtain ⟨_, rfl⟩ := hx.gsl_inv
      refine ⟨.int .i64 _, ?_, .int _ _⟩
      simp only [Builtin.len_, ht, hxs, Sem.run_bind, run_underlying_some hu, Result.andThen_ok]; rfl
    · cases h
  · cases h
theorem extractA_sound {a v : AV} {x : Value} {i : Nat} (h : extractA a i = some v) (hx : VRel σ a x) : ∃ v', (Instr.extract x i).run P w = .ok v' w ∧ VRel σ v v' := by
  unfold extractA at h
  split at h
  · obtain ⟨vs, rfl, hvs⟩ := hx.tup_inv
    obtain ⟨y, hy, hr⟩ := hvs.get h
    have : vs[i]? = some y := by simpa using hy
    exact ⟨y, by simp [Instr.extract, this], hr⟩
  · cases h
theorem mkIfaceA_sound {t : TypeId} {a v : AV} {x : Value} (h : mkIfaceA P t a = some v) (hx : VRel σ a x) : ∃ v', (Instr.makeInterface t x).run P w = .ok v' w ∧ VRel σ v v' := by
  unfold mkIfaceA at h
  split at h
  · cases h
  · rename_i d hd hu
    cases h
    refine ⟨.iface t x, ?_, .iface t hx⟩
    simp only [Instr.makeInterface, Sem.run_bind, run_underlying_some hu, Result.andThen_ok]
    cases d <;> first | rfl | exact absurd hu (hd _)
  · cases h
theorem nilCheck_sound {o : Oper} {x : Operand} {ρ' : Operand → Value} {a v : AV} (ho : o.op = .nilCheck x) (h : nilCheckA a = some v) (hx : VRel σ a (ρ' x)) :
    ∃ v', (execOp ρ' o).run P w = .ok (.value v') w ∧ VRel σ v v' := by
  unfold nilCheckA at h
  generalize hX : ρ' x = X at hx
  split at h
  · cases h; obtain ⟨i, hi, rfl⟩ := hx.ptr_inv; exact ⟨_, by simp [execOp, ho, hX], .ptr hi⟩
  · cases h; obtain rfl := hx.gptr_inv; exact ⟨_, by simp [execOp, ho, hX], .gptr _ _⟩
  · cases h; obtain ⟨vs, ws, rfl, h1, h2⟩ := hx.fn_inv; exact ⟨_, by simp [execOp, ho, hX], .fn _ h1 h2⟩
  · cases h; obtain ⟨i, hi, rfl⟩ := hx.yld_inv; exact ⟨_, by simp [execOp, ho, hX], .yld hi⟩
  · cases h; obtain ⟨i, off, hi, hl, hof, rfl⟩ := hx.slice_inv; exact ⟨_, by simp [execOp, ho, hX], .slice hi hl hof⟩
  · cases h; obtain ⟨i, off, c, hi, hl, hr, hof, rfl⟩ := hx.opn_inv; exact ⟨_, by simp [execOp, ho, hX], .opn hi hl hr hof⟩
  · cases h; obtain ⟨y, rfl, hy⟩ := hx.iface_inv; exact ⟨_, by simp [execOp, ho, hX], .iface _ hy⟩
  · cases h; obtain ⟨i, hi, rfl⟩ := hx.map_inv; exact ⟨_, by simp [execOp, ho, hX], .map hi⟩
  · cases h
/-- A step that yields a value and leaves the world. -/
theorem val_of {o : Oper} {ρ' : Operand → Value} {s : Sem Value} {v : AV} (he : execOp ρ' o = (do pure (.value (← s)))) (h : ∃ v', s.run P w = .ok v' w ∧ VRel σ v v') :
    ∃ v', (execOp ρ' o).run P w = .ok (.value v') w ∧ VRel σ v v' := by
  obtain ⟨v', h1, h2⟩ := h
  exact ⟨v', by rw [he, Sem.run_bind, h1]; rfl, h2⟩
theorem mem_opts {lo : Option Operand} {x : Operand} (h : x ∈ lo) : x ∈ lo.toArray := by
  cases lo with
  | none => cases h
  | some y => cases h; simp
theorem maxL_sound : ∀ {l : List AV} {xs : List Value} {x v : AV} {y : Value}, maxL x l = some v → VRel σ x y → VRels σ l xs → ∃ v', (xs.foldlM Builtin.max2 y).run P w = .ok v' w ∧ VRel σ v v'
  | [], _, x, v, y, h, hx, .nil => by
    simp only [maxL, Option.some.injEq] at h
    subst h
    exact ⟨y, rfl, hx⟩
  | z :: l, _ :: xs, x, v, y, h, hx, .cons hz hl => by
    simp only [maxL] at h
    split at h
    · rename_i k a k' b
      obtain rfl := hx.int_inv
      obtain rfl := hz.int_inv
      obtain ⟨v', h1, h2⟩ := maxL_sound h (.int _ _) hl
      refine ⟨v', ?_, h2⟩
      rw [ltI_eq] at h1
      simp only [List.foldlM_cons, Builtin.max2, Sem.run_bind, Sem.run_pure, Result.andThen_ok]
      rw [← h1]
      by_cases hab : a < b
      · simp [hab]
      · simp [hab]
    · cases h
theorem minL_sound : ∀ {l : List AV} {xs : List Value} {x v : AV} {y : Value}, minL x l = some v → VRel σ x y → VRels σ l xs → ∃ v', (xs.foldlM Builtin.min2 y).run P w = .ok v' w ∧ VRel σ v v'
  | [], _, x, v, y, h, hx, .nil => by
    simp only [minL, Option.some.injEq] at h
    subst h
    exact ⟨y, rfl, hx⟩
  | z :: l, _ :: xs, x, v, y, h, hx, .cons hz hl => by
    simp only [minL] at h
    split at h
    · rename_i k a k' b
      obtain rfl := hx.int_inv
      obtain rfl := hz.int_inv
      obtain ⟨v', h1, h2⟩ := minL_sound h (.int _ _) hl
      refine ⟨v', ?_, h2⟩
      rw [ltI_eq] at h1
      simp only [List.foldlM_cons, Builtin.min2, Sem.run_bind, Sem.run_pure, Result.andThen_ok]
      rw [← h1]
      by_cases hab : b < a
      · simp [hab]
      · simp [hab]
    · cases h
theorem capA_sound {t : TypeId} {ts : Array TypeId} {ty : TypeId} {a v : AV} {x : Value} {xs : Array Value} (ht : ts[0]? = some t) (hxs : xs[0]? = some x) (h : capA P t a = some v) (hx : VRel σ a x) :
    ∃ v', (Builtin.cap_ ts ty xs).run P w = .ok v' w ∧ VRel σ v v' := by
  unfold capA at h
  split at h
  · rename_i n e hu
    cases h
    refine ⟨.int .i64 n, ?_, .int _ _⟩
    simp only [Builtin.cap_, ht, hxs, Sem.run_bind, run_underlying_some hu, Result.andThen_ok]; rfl
  · rename_i e hu
    split at h
    · cases h
      obtain rfl := hx.nils_inv
      refine ⟨.int .i64 0, ?_, .int _ _⟩
      simp only [Builtin.cap_, ht, hxs, Sem.run_bind, run_underlying_some hu, Result.andThen_ok]; rfl
    · cases h
      obtain ⟨i, o, _, _, _, rfl⟩ := hx.slice_inv
      refine ⟨.int .i64 _, ?_, .int _ _⟩
      simp only [Builtin.cap_, ht, hxs, Sem.run_bind, run_underlying_some hu, Result.andThen_ok]; rfl
    · cases h
      obtain ⟨_, rfl⟩ := hx.gsl_inv
      refine ⟨.int .i64 _, ?_, .int _ _⟩
      simp only [Builtin.cap_, ht, hxs, Sem.run_bind, run_underlying_some hu, Result.andThen_ok]; rfl
    · cases h
  · cases h
theorem typeAssertA_sound {a v : AV} {x : Value} {xt asserted : TypeId} {ok : Bool} (h : typeAssertA P a asserted ok = some v) (hx : VRel σ a x) :
    ∃ v', (Instr.typeAssert x xt asserted ok).run P w = .ok v' w ∧ VRel σ v v' := by
  unfold typeAssertA at h
  split at h
  · cases h
  · rename_i d hd hu
    have hni : ∀ m, d ≠ .interface m := hd
    split at h
    · obtain rfl : x = .nilIface := by cases hx; rfl
      split at h
      · split at h
        · rename_i z hz
          cases h
          obtain ⟨z', z1, z2⟩ := zeroA_sound (σ := σ) (w := w) hz
          refine ⟨.tuple #[z', .bool false], ?_, .tup (.cons z2 (.cons (.bool _) .nil))⟩
          cases d <;> first | (exact absurd rfl (hni _)) | skip
          all_goals simp only [Instr.typeAssert, Sem.run_bind, run_underlying_some hu, Result.andThen_ok, if_true, z1, Sem.run_pure]
        · cases h
      · cases h
    · rename_i t u
      obtain ⟨y, rfl, hy⟩ := hx.iface_inv
      split at h
      · rename_i hte
        have hte := Nat.eq_of_beq_eq_true hte
        subst hte
        split at h
        · cases h
          refine ⟨.tuple #[y, .bool true], ?_, .tup (.cons hy (.cons (.bool _) .nil))⟩
          cases d <;> first | (exact absurd rfl (hni _)) | skip
          all_goals simp only [Instr.typeAssert, Sem.run_bind, run_underlying_some hu, Result.andThen_ok, if_true, Sem.run_pure]
        · cases h
          refine ⟨y, ?_, hy⟩
          cases d <;> first | (exact absurd rfl (hni _)) | skip
          all_goals simp only [Instr.typeAssert, Sem.run_bind, run_underlying_some hu, Result.andThen_ok, if_true, Sem.run_pure, Bool.false_eq_true, if_false]
      · rename_i hte
        have hte := ne_of_beq hte
        split at h
        · split at h
          · rename_i z hz
            cases h
            obtain ⟨z', z1, z2⟩ := zeroA_sound (σ := σ) (w := w) hz
            refine ⟨.tuple #[z', .bool false], ?_, .tup (.cons z2 (.cons (.bool _) .nil))⟩
            cases d <;> first | (exact absurd rfl (hni _)) | skip
            all_goals simp only [Instr.typeAssert, Sem.run_bind, run_underlying_some hu, Result.andThen_ok, if_neg hte, if_true, z1, Sem.run_pure]
          · cases h
        · cases h
    · cases h
  · cases h
theorem pure_sound {o : Oper} {ρ : Operand → AV} {ρ' : Operand → Value} {v : AV} (h : pureA P o.op ρ = some v) (hr : ∀ x ∈ o.op.operands, VRel σ (ρ x) (ρ' x)) :
    ∃ v', (execOp ρ' o).run P w = .ok (.value v') w ∧ VRel σ v v' := by
  unfold pureA at h
  split at h
  · rename_i x ho
    rw [ho] at hr
    cases h
    exact ⟨ρ' x, by simp [execOp, ho], hr x (by simp [Op.operands])⟩
  · rename_i x ho
    rw [ho] at hr
    cases h
    exact ⟨ρ' x, by simp [execOp, ho], hr x (by simp [Op.operands])⟩
  · rename_i c a b ho
    rw [ho] at hr
    have hc := hr c (by simp [Op.operands])
    have ha := hr a (by simp [Op.operands])
    have hb := hr b (by simp [Op.operands])
    unfold pickA at h
    split at h
    · rename_i hcc
      rw [hcc] at hc
      cases h
      exact ⟨ρ' a, by simp [execOp, ho, hc.bool_inv, asBool], ha⟩
    · rename_i hcc
      rw [hcc] at hc
      cases h
      exact ⟨ρ' b, by simp [execOp, ho, hc.bool_inv, asBool], hb⟩
    · cases h
  · rename_i op t x y yt ho
    rw [ho] at hr
    obtain ⟨v', h1, h2⟩ := binA_sound (P := P) (w := w) h (hr x (by simp [Op.operands])) (hr y (by simp [Op.operands]))
    exact val_of (s := do eqGuard op t x y (ρ' x) (ρ' y); binOp op t (ρ' x) (ρ' y)) (by simp [execOp, ho]) ⟨v', h1, h2⟩
  · rename_i op t x ho
    rw [ho] at hr
    exact val_of (by simp [execOp, ho]) (unA_sound h (hr x (by simp [Op.operands])))
  · rename_i src dst x ho
    rw [ho] at hr
    exact val_of (by simp [execOp, ho]) (convA_sound h (hr x (by simp [Op.operands])))
  · rename_i x ho
    rw [ho] at hr
    exact nilCheck_sound ho h (hr x (by simp [Op.operands]))
  · rename_i s x f ho
    rw [ho] at hr
    exact val_of (by simp [execOp, ho]) (fieldAddrA_sound h (hr x (by simp [Op.operands])))
  · rename_i t x f ho
    rw [ho] at hr
    exact val_of (by simp [execOp, ho]) (fieldA_sound h (hr x (by simp [Op.operands])))
  · rename_i t x i ho
    rw [ho] at hr
    exact val_of (by simp [execOp, ho]) (indexAddrA_sound h (hr x (by simp [Op.operands])) (hr i (by simp [Op.operands])))
  · rename_i t x i ho
    rw [ho] at hr
    exact val_of (by simp [execOp, ho]) (indexA_sound h (hr x (by simp [Op.operands])) (hr i (by simp [Op.operands])))
  · rename_i t x lo hi mx ho
    rw [ho] at hr
    exact val_of (by simp [execOp, ho]) (sliceA_sound h (hr x (by simp [Op.operands]))
      (OptRel.map fun y hy => hr y (by simp [Op.operands]; right; left; simpa using hy))
      (OptRel.map fun y hy => hr y (by simp [Op.operands]; right; right; left; simpa using hy))
      (OptRel.map fun y hy => hr y (by simp [Op.operands]; right; right; right; simpa using hy)))
  · rename_i x i ho
    rw [ho] at hr
    exact val_of (by simp [execOp, ho]) (extractA_sound h (hr x (by simp [Op.operands])))
  · rename_i t ps ho
    rw [ho] at hr
    refine val_of (s := Instr.build t (ps.map fun (i, x) => (i, ρ' x))) (by simp [execOp, ho]) (buildA_sound h ?_ ?_)
    · simp [Function.comp_def]
    · have : ∀ p ∈ ps.toList, VRel σ (ρ p.2) (ρ' p.2) := fun p hp => hr p.2 (by
        simp [Op.operands]; exact ⟨p.1, by simpa using hp⟩)
      have h3 := VRels.map (σ := σ) (f := fun p : Nat × Operand => ρ p.2) (g := fun p => ρ' p.2) this
      simpa [Function.comp_def] using h3
  · rename_i t x ho
    rw [ho] at hr
    exact val_of (by simp [execOp, ho]) (mkIfaceA_sound h (hr x (by simp [Op.operands])))
  · rename_i fn first captured ho
    rw [ho] at hr
    split at h
    · cases h
    · cases h
      refine ⟨.func fn (first.map ρ') (captured.map ρ'), by simp [execOp, ho, Instr.makeFunc], .fn _ ?_ ?_⟩
      · have := VRels.map (σ := σ) (f := ρ) (g := ρ') (l := first.toList) fun x hx => hr x (by simp [Op.operands]; left; simpa using hx)
        simpa using this
      · have := VRels.map (σ := σ) (f := ρ) (g := ρ') (l := captured.toList) fun x hx => hr x (by simp [Op.operands]; right; simpa using hx)
        simpa using this
  · rename_i x xt asserted ok ho
    rw [ho] at hr
    exact val_of (by simp [execOp, ho]) (typeAssertA_sound (xt := xt) h (hr x (by simp [Op.operands])))
  · rename_i c ho
    rw [ho] at hr
    split at h
    · rename_i hcal
      split at h
      · rename_i t x ht hx
        have hxm : x ∈ c.args := Array.mem_of_getElem? hx
        have hrx := hr x (by simp [Op.operands, Call.operands, hcal, hxm])
        have hxs : (c.args.map ρ')[0]? = some (ρ' x) := by simp [hx]
        obtain ⟨v', h1, h2⟩ := lenA_sound (P := P) (w := w) (ty := o.type) ht hxs h hrx
        refine ⟨v', ?_, h2⟩
        simp [execOp, ho, resolve, hcal, invoke, builtin, h1]
      · cases h
    · rename_i hcal
      have hargs : VRels σ (c.args.toList.map ρ) (c.args.toList.map ρ') := VRels.map (fun x hx => hr x (by simp [Op.operands, Call.operands, hcal]; simpa using hx))
      split at h
      · rename_i x l hxl
        rw [hxl] at hargs
        generalize hys : c.args.toList.map ρ' = ys at hargs
        cases hargs with
        | cons hx hl =>
          rename_i y ys
          obtain ⟨v', h1, h2⟩ := maxL_sound (P := P) (w := w) h hx hl
          refine ⟨v', ?_, h2⟩
          simp [execOp, ho, resolve, hcal, invoke, builtin, Builtin.max_, hys, h1]
      · cases h
    · rename_i hcal
      have hargs : VRels σ (c.args.toList.map ρ) (c.args.toList.map ρ') := VRels.map (fun x hx => hr x (by simp [Op.operands, Call.operands, hcal]; simpa using hx))
      split at h
      · rename_i x l hxl
        rw [hxl] at hargs
        generalize hys : c.args.toList.map ρ' = ys at hargs
        cases hargs with
        | cons hx hl =>
          rename_i y ys
          obtain ⟨v', h1, h2⟩ := minL_sound (P := P) (w := w) h hx hl
          refine ⟨v', ?_, h2⟩
          simp [execOp, ho, resolve, hcal, invoke, builtin, Builtin.min_, hys, h1]
      · cases h
    · rename_i hcal
      split at h
      · rename_i t x ht hx
        have hxm : x ∈ c.args := Array.mem_of_getElem? hx
        have hrx := hr x (by simp [Op.operands, Call.operands, hcal, hxm])
        have hxs : (c.args.map ρ')[0]? = some (ρ' x) := by simp [hx]
        obtain ⟨v', h1, h2⟩ := capA_sound (P := P) (w := w) (ty := o.type) ht hxs h hrx
        refine ⟨v', ?_, h2⟩
        simp [execOp, ho, resolve, hcal, invoke, builtin, h1]
      · cases h
    · cases h
  · cases h
end Go.Proofs.YtdjeokgkeejpcaaGreatDoor.AX

namespace Go.Proofs.YtdjeokgkeejpcaaGreatDoor.AX
open Go
variable {P : Program} {σ : Sig} {w : World}

/-- What a frame's slots hold. -/
def FrRel (σ : Sig) (fr : Fr) (sz : Nat) (tm : Array Value) : Prop :=
  tm.size = sz ∧ ∀ t v, fr.get t = some v → ∃ x, tm[t]? = some x ∧ VRel σ v x
/-- A map's entries. -/
def EntsRel (σ : Sig) : List (AV × AV) → List MapEntry → Prop
  | [], [] => True
  | e :: es, m :: ms => VRel σ e.1 m.key ∧ VRel σ e.2 m.val ∧ EntsRel σ es ms
  | _, _ => False
theorem EntsRel.mono {σ τ : Sig} (hs : σ ≤ τ) : ∀ {es : List (AV × AV)} {ms : List MapEntry}, EntsRel σ es ms → EntsRel τ es ms
  | [], [], _ => trivial
  | _ :: _, _ :: _, ⟨h1, h2, h3⟩ => ⟨h1.mono hs, h2.mono hs, EntsRel.mono hs h3⟩
  | [], _ :: _, h => h.elim
  | _ :: _, [], h => h.elim
/-- What is known of a row of cells. -/
def ClOk (cl : Cl) (e : TypeId) (fz : Nat × Nat) (base sz n : Nat) : Prop := (cl.is = true → fz = (0, 0) ∧ base = 0) ∧ (∀ t, cl = .ty t → e = t) ∧ ∀ t, cl = .whole t → e = t ∧ sz = n
/-- What a block holds. -/
def BlkRel (σ : Sig) (b : Blk) (i : Info) (h : Array Obj) : Prop :=
  match b with
  | .cells c n cl => ∃ cs e fz, h[i.blk]? = some (.cells cs e fz) ∧ cs.size = i.base + i.room ∧ n ≤ i.room ∧ (∀ j, j < cs.size → ¬ (fz.1 ≤ j ∧ j < fz.2)) ∧
      ClOk cl e fz i.base cs.size n ∧ ∀ j v, j < n → c.get j = some v → ∃ x, cs[i.base + j]? = some x ∧ VRel σ v x
  | .map es bs clk => ∃ ms, h[i.blk]? = some (.map ms clk) ∧ EntsRel σ es ms.toList ∧ ms.toList.map (·.born) = bs
  | .mapIter m since seen last => ∃ mo, h[i.blk]? = some (.mapIter mo since seen.toArray last) ∧ i.base = 0 ∧ (match m with
    | none => mo = none
    | some id => ∃ j, σ id = some j ∧ mo = some j.blk)
  | .loop st pend _ fr sz ps as bd d => ∃ fn tm di, h[i.blk]? = some (.loop { state := st, pending := pend, fn := fn, tmps := tm, params := ps.toArray, assign := as, body := bd, defers := di.blk }) ∧
      σ d = some di ∧ FrRel σ fr sz tm
  | .dfr done => h[i.blk]? = some (.deferred (if done then none else some []))
  | .strIter s pos => ∃ bs, h[i.blk]? = some (.stringIter bs pos) ∧ bytesOf bs = s
/-- What may not turn: blocks, and what the world holds beside its blocks. -/
structure Pr where
  old : Nat → Option Obj
  os : Os
  out : Array (Nat × ByteArray) × (Nat → Question → Nat)
instance : CoeFun Pr (fun _ => Nat → Option Obj) := ⟨Pr.old⟩
def Same (w w' : World) : Prop := w'.os = w.os ∧ (w'.output, w'.tape) = (w.output, w.tape)
theorem Same.refl (w : World) : Same w w := ⟨rfl, rfl⟩
theorem Same.trans {a b c : World} (h : Same a b) (k : Same b c) : Same a c := ⟨k.1.trans h.1, k.2.trans h.2⟩
/-- The whole: what is live lies apart, and what 'pr' names lies as it lay. -/
structure R (pr : Pr) (σ : Sig) (hp : Hp) (w : World) : Prop where
  blk : ∀ id b, hp.get id = some b → ∃ i, σ id = some i ∧ BlkRel σ b i w.heap
  inj : ∀ id id' b b' i i', hp.get id = some b → hp.get id' = some b' → σ id = some i → σ id' = some i' → i.blk = i'.blk → id = id'
  prot : ∀ k o, pr k = some o → w.heap[k]? = some o
  free : ∀ id b i, hp.get id = some b → σ id = some i → pr i.blk = none
  same : w.os = pr.os ∧ (w.output, w.tape) = pr.out
/-- What the package-level variables hold. -/
def GlOk (C : Ctx) (pr : Pr) : Prop :=
  ∀ g c, C.gl.get g = some c → ∃ cs e fz, pr g = some (.cells cs e fz) ∧ ∀ j v, c.get j = some v → ∃ x, cs[j]? = some x ∧ ∀ τ : Sig, VRel τ v x

theorem FrRel.mono {τ : Sig} (hs : σ ≤ τ) {fr : Fr} {sz : Nat} {tm : Array Value} (h : FrRel σ fr sz tm) : FrRel τ fr sz tm :=
  ⟨h.1, fun t v ht => let ⟨x, h1, h2⟩ := h.2 t v ht; ⟨x, h1, h2.mono hs⟩⟩
/-- What is there stays there. -/
theorem BlkRel.grow {b : Blk} {i : Info} {h h' : Array Obj} (hk : ∀ (k : Nat) (o : Obj), h[k]? = some o → h'[k]? = some o) (hb : BlkRel σ b i h) : BlkRel σ b i h' := by
  cases b with
  | cells c n cl =>
    obtain ⟨cs, e, fz, h1, h2⟩ := hb
    exact ⟨cs, e, fz, hk _ _ h1, h2⟩
  | map es bs clk =>
    obtain ⟨ms, h1, h2⟩ := hb
    exact ⟨ms, hk _ _ h1, h2⟩
  | mapIter m since seen last =>
    obtain ⟨mo, h1, h2⟩ := hb
    exact ⟨mo, hk _ _ h1, h2⟩
  | loop st pend f fr sz ps as bd d =>
    obtain ⟨fn, tm, di, h1, h2⟩ := hb
    exact ⟨fn, tm, di, hk _ _ h1, h2⟩
  | dfr done => exact hk _ _ hb
  | strIter s pos =>
    obtain ⟨bs, h1, h2⟩ := hb
    exact ⟨bs, hk _ _ h1, h2⟩
/-- Nothing of what was there has turned. -/
structure Kept (w w' : World) : Prop where
  os : w'.os = w.os
  out : w'.output = w.output
  tape : w'.tape = w.tape
  block : ∀ (k : Nat) (o : Obj), w.heap[k]? = some o → w'.heap[k]? = some o
theorem R.kept {pr : Pr} {hp : Hp} {w w' : World} (r : R pr σ hp w) (k : Kept w w') : R pr σ hp w' :=
  ⟨fun id b hb => let ⟨i, h1, h2⟩ := r.blk id b hb; ⟨i, h1, h2.grow k.block⟩, r.inj, fun j o h => k.block j o (r.prot j o h), r.free, k.os.trans r.same.1, by rw [k.out, k.tape]; exact r.same.2⟩
theorem BlkRel.mono {τ : Sig} (hs : σ ≤ τ) {b : Blk} {i : Info} {h : Array Obj} (hb : BlkRel σ b i h) : BlkRel τ b i h := by
  cases b with
  | cells c n cl =>
    obtain ⟨cs, e, fz, h1, h2, h3, h4, h5, h6⟩ := hb
    exact ⟨cs, e, fz, h1, h2, h3, h4, h5, fun j v hj hv => let ⟨x, a, b⟩ := h6 j v hj hv; ⟨x, a, b.mono hs⟩⟩
  | map es bs clk =>
    obtain ⟨ms, h1, h2, h3⟩ := hb
    exact ⟨ms, h1, h2.mono hs, h3⟩
  | mapIter m since seen last =>
    obtain ⟨mo, h1, h0, h2⟩ := hb
    refine ⟨mo, h1, h0, ?_⟩
    cases m with
    | none => exact h2
    | some id => obtain ⟨j, h3, h4⟩ := h2; exact ⟨j, hs _ _ h3, h4⟩
  | loop st pend f fr sz ps as bd d =>
    obtain ⟨fn, tm, di, h1, h2, h3⟩ := hb
    exact ⟨fn, tm, di, h1, hs _ _ h2, h3.mono hs⟩
  | dfr done => exact hb
  | strIter s pos => exact hb
theorem BlkRel.heap {b : Blk} {i : Info} {h h' : Array Obj} (hb : BlkRel σ b i h) (he : h'[i.blk]? = h[i.blk]?) : BlkRel σ b i h' := by
  cases b with
  | cells c n cl =>
    obtain ⟨cs, e, fz, h1, h2⟩ := hb
    exact ⟨cs, e, fz, by rw [he]; exact h1, h2⟩
  | map es bs clk =>
    obtain ⟨ms, h1, h2⟩ := hb
    exact ⟨ms, by rw [he]; exact h1, h2⟩
  | mapIter m since seen last =>
    obtain ⟨mo, h1, h2⟩ := hb
    exact ⟨mo, by rw [he]; exact h1, h2⟩
  | loop st pend f fr sz ps as bd d =>
    obtain ⟨fn, tm, di, h1, h2⟩ := hb
    exact ⟨fn, tm, di, by rw [he]; exact h1, h2⟩
  | dfr done => exact he.trans hb
  | strIter s pos =>
    obtain ⟨bs, h1, h2⟩ := hb
    exact ⟨bs, by rw [he]; exact h1, h2⟩
theorem BlkRel.lt {b : Blk} {i : Info} {h : Array Obj} (hb : BlkRel σ b i h) : i.blk < h.size := by
  have : ∃ o, h[i.blk]? = some o := by
    cases b with
    | cells c n cl => obtain ⟨cs, e, fz, h1, _⟩ := hb; exact ⟨_, h1⟩
    | map es bs clk => obtain ⟨ms, h1, _⟩ := hb; exact ⟨_, h1⟩
    | mapIter m since seen last => obtain ⟨mo, h1, _⟩ := hb; exact ⟨_, h1⟩
    | loop st pend f fr sz ps as bd d => obtain ⟨fn, tm, di, h1, _⟩ := hb; exact ⟨_, h1⟩
    | dfr done => exact ⟨_, hb⟩
    | strIter s pos => obtain ⟨bs, h1, _⟩ := hb; exact ⟨_, h1⟩
  obtain ⟨o, ho⟩ := this
  exact (Array.getElem?_eq_some_iff.1 ho).1

/-- σ with one more place. -/
def Sig.put (σ : Sig) (id : Nat) (i : Info) : Sig := fun k => if k = id then some i else σ k
theorem Sig.put_same (σ : Sig) (id : Nat) (i : Info) : (σ.put id i) id = some i := by simp [Sig.put]
theorem Sig.put_other (σ : Sig) {id k : Nat} (i : Info) (h : k ≠ id) : (σ.put id i) k = σ k := by simp [Sig.put, h]
theorem Sig.put_le {σ : Sig} {id : Nat} (i : Info) (h : σ id = none) : σ ≤ σ.put id i := by
  intro k j hk
  by_cases e : k = id
  · subst e; rw [h] at hk; cases hk
  · rw [Sig.put_other σ i e]; exact hk

variable {pr : Pr} {hp : Hp} {w' : World}
theorem R.out (r : R pr σ hp w) (hs : Same w w') : w'.os = pr.os ∧ (w'.output, w'.tape) = pr.out := ⟨hs.1.trans r.same.1, hs.2.trans r.same.2⟩
/-- Draws, counts: the heap is all that counts. -/
theorem R.of_heap (r : R pr σ hp w) (hh : w'.heap = w.heap) (hs : Same w w') : R pr σ hp w' :=
  ⟨by rw [hh]; exact r.blk, r.inj, by rw [hh]; exact r.prot, r.free, r.out hs⟩
/-- One live block turns. -/
theorem R.turn (r : R pr σ hp w) {id : Nat} {b b' : Blk} {i : Info} (hg : hp.get id = some b) (hi : σ id = some i)
    (hb : BlkRel σ b' i w'.heap) (hk : ∀ k, k ≠ i.blk → w'.heap[k]? = w.heap[k]?) (hs : Same w w') : R pr σ (hp.set id b') w' where
  same := r.out hs
  blk := fun k c hc => by
    rw [T.get_set] at hc
    split at hc
    · rename_i e; subst e; cases hc; exact ⟨i, hi, hb⟩
    · rename_i e
      obtain ⟨j, hj, hbj⟩ := r.blk k c hc
      refine ⟨j, hj, hbj.heap (hk _ fun e' => e (r.inj _ _ _ _ _ _ hc hg hj hi e'))⟩
  inj := fun k k' c c' j j' hc hc' hj hj' e => by
    rw [T.get_set] at hc hc'
    have f : ∀ k c, (if k = id then some b' else hp.get k) = some c → ∃ c', hp.get k = some c' := fun k c h => by
      split at h
      · rename_i e; subst e; exact ⟨_, hg⟩
      · exact ⟨_, h⟩
    obtain ⟨d, hd⟩ := f _ _ hc
    obtain ⟨d', hd'⟩ := f _ _ hc'
    exact r.inj _ _ _ _ _ _ hd hd' hj hj' e
  prot := fun k o ho => by
    have hne : k ≠ i.blk := fun e => by have := r.free _ _ _ hg hi; rw [← e, ho] at this; cases this
    rw [hk k hne]; exact r.prot k o ho
  free := fun k c j hc hj => by
    rw [T.get_set] at hc
    split at hc
    · rename_i e; subst e; exact r.free _ _ _ hg hj
    · exact r.free _ _ _ hc hj
/-- One new block. -/
theorem R.new (r : R pr σ hp w) {id : Nat} {b : Blk} {o : Obj} {room : Nat} (hf : σ id = none)
    (hb : BlkRel (σ.put id ⟨w.heap.size, 0, room⟩) b ⟨w.heap.size, 0, room⟩ (w.heap.push o)) (hh : w'.heap = w.heap.push o) (hs : Same w w') : R pr (σ.put id ⟨w.heap.size, 0, room⟩) (hp.set id b) w' where
  same := r.out hs
  blk := fun k c hc => by
    rw [T.get_set] at hc
    split at hc
    · rename_i e; subst e; cases hc; exact ⟨_, Sig.put_same _ _ _, by rw [hh]; exact hb⟩
    · rename_i e
      obtain ⟨j, hj, hbj⟩ := r.blk k c hc
      refine ⟨j, Sig.put_le _ hf _ _ hj, (hbj.mono (Sig.put_le _ hf)).heap ?_⟩
      rw [hh, Array.getElem?_push_lt hbj.lt, Array.getElem?_eq_getElem hbj.lt]
  inj := fun k k' c c' j j' hc hc' hj hj' e => by
    rw [T.get_set] at hc hc'
    by_cases e1 : k = id <;> by_cases e2 : k' = id
    · rw [e1, e2]
    · rw [if_neg e2] at hc'
      obtain ⟨j2, hj2, hbj⟩ := r.blk _ _ hc'
      rw [Sig.put_other _ _ e2, hj2] at hj'
      cases hj'
      subst e1
      rw [Sig.put_same] at hj
      cases hj
      have := hbj.lt
      simp only at e
      omega
    · rw [if_neg e1] at hc
      obtain ⟨j2, hj2, hbj⟩ := r.blk _ _ hc
      rw [Sig.put_other _ _ e1, hj2] at hj
      cases hj
      subst e2
      rw [Sig.put_same] at hj'
      cases hj'
      have := hbj.lt
      simp only at e
      omega
    · rw [if_neg e1] at hc
      rw [if_neg e2] at hc'
      rw [Sig.put_other _ _ e1] at hj
      rw [Sig.put_other _ _ e2] at hj'
      exact r.inj _ _ _ _ _ _ hc hc' hj hj' e
  prot := fun k o' ho => by
    have h1 := r.prot k o' ho
    have hlt := (Array.getElem?_eq_some_iff.1 h1).1
    rw [hh, Array.getElem?_push_lt hlt, ← Array.getElem?_eq_getElem hlt]; exact h1
  free := fun k c j hc hj => by
    rw [T.get_set] at hc
    by_cases e : k = id
    · subst e
      rw [Sig.put_same] at hj
      cases hj
      cases hp' : pr w.heap.size with
      | none => rfl
      | some o' =>
        have h1 := r.prot _ _ hp'
        have hlt := (Array.getElem?_eq_some_iff.1 h1).1
        omega
    · rw [if_neg e] at hc
      rw [Sig.put_other _ _ e] at hj
      exact r.free _ _ _ hc hj
/-- A block is let go. -/
theorem R.drop (r : R pr σ hp w) (id : Nat) : R pr σ (hp.put id none) w where
  same := r.same
  blk := fun k c hc => by
    rw [T.get_put] at hc
    split at hc
    · cases hc
    · exact r.blk k c hc
  inj := fun k k' c c' j j' hc hc' hj hj' e => by
    rw [T.get_put] at hc hc'
    split at hc
    · cases hc
    · split at hc'
      · cases hc'
      · exact r.inj _ _ _ _ _ _ hc hc' hj hj' e
  prot := r.prot
  free := fun k c j hc hj => by
    rw [T.get_put] at hc
    split at hc
    · cases hc
    · exact r.free _ _ _ hc hj
/-- A block that was let go gets a new name; what lies there turns. -/
theorem R.rename (r : R pr σ hp w) {id nx : Nat} {b b' : Blk} {i i' : Info} (hg : hp.get id = some b) (hi : σ id = some i) (hf : σ nx = none) (hib : i'.blk = i.blk)
    (hb : BlkRel (σ.put nx i') b' i' w'.heap) (hk : ∀ k, k ≠ i.blk → w'.heap[k]? = w.heap[k]?) (hs : Same w w') : R pr (σ.put nx i') ((hp.put id none).set nx b') w' := by
  have hle := Sig.put_le i' hf
  refine ⟨fun k c hc => ?_, fun k k' c c' j j' hc hc' hj hj' e => ?_, fun k o ho => ?_, fun k c j hc hj => ?_, r.out hs⟩
  · rw [T.get_set, T.get_put] at hc
    split at hc
    · rename_i e; subst e; cases hc; exact ⟨i', Sig.put_same _ _ _, hb⟩
    · split at hc
      · cases hc
      · rename_i e1 e2
        obtain ⟨j, hj, hbj⟩ := r.blk k c hc
        exact ⟨j, hle _ _ hj, (hbj.mono hle).heap (hk _ fun e' => e2 (r.inj _ _ _ _ _ _ hc hg hj hi e'))⟩
  · rw [T.get_set, T.get_put] at hc hc'
    by_cases e1 : k = nx <;> by_cases e2 : k' = nx
    · rw [e1, e2]
    · rw [if_neg e2] at hc'
      split at hc'
      · cases hc'
      · rename_i e3
        rw [Sig.put_other _ _ e2] at hj'
        subst e1
        rw [Sig.put_same] at hj
        cases hj
        exact absurd (r.inj _ _ _ _ _ _ hc' hg hj' hi (by rw [← e]; exact hib)) e3
    · rw [if_neg e1] at hc
      split at hc
      · cases hc
      · rename_i e3
        rw [Sig.put_other _ _ e1] at hj
        subst e2
        rw [Sig.put_same] at hj'
        cases hj'
        exact absurd (r.inj _ _ _ _ _ _ hc hg hj hi (by rw [e]; exact hib)) e3
    · rw [if_neg e1] at hc
      rw [if_neg e2] at hc'
      split at hc
      · cases hc
      · split at hc'
        · cases hc'
        · rw [Sig.put_other _ _ e1] at hj
          rw [Sig.put_other _ _ e2] at hj'
          exact r.inj _ _ _ _ _ _ hc hc' hj hj' e
  · have hne : k ≠ i.blk := fun e => by have := r.free _ _ _ hg hi; rw [← e, ho] at this; cases this
    rw [hk k hne]; exact r.prot k o ho
  · rw [T.get_set, T.get_put] at hc
    by_cases e1 : k = nx
    · subst e1
      rw [Sig.put_same] at hj
      cases hj
      rw [hib]
      exact r.free _ _ _ hg hi
    · rw [if_neg e1] at hc
      split at hc
      · cases hc
      · rw [Sig.put_other _ _ e1] at hj
        exact r.free _ _ _ hc hj
end Go.Proofs.YtdjeokgkeejpcaaGreatDoor.AX
