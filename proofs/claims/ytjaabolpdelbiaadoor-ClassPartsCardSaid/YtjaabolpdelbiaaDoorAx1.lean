/- AX, part 1: abstract values, abstract memory, and what a value of the model is to an abstract one. -/
import Derived.CallsIn
namespace Go.Proofs.YtjaabolpdelbiaaDoor.AX

/-- A map from numbers: a binary tree by the number's digits. -/
inductive T (α : Type) where
  | leaf
  | node (l : T α) (v : Option α) (r : T α)

namespace T
variable {α : Type}
noncomputable def get (t : T α) : Nat → Option α :=
  T.rec (fun _ => none) (fun _ v _ ihl ihr n => Nat.rec v (fun m _ => Bool.rec (ihr (Nat.div m 2)) (ihl (Nat.div m 2)) (Nat.beq (Nat.mod m 2) 0)) n) t
noncomputable def lf (ih : T α → Nat → Option α → T α) (n : Nat) (x : Option α) : T α :=
  Nat.rec (.node .leaf x .leaf) (fun m _ => Bool.rec (.node .leaf none (ih .leaf (Nat.div m 2) x)) (.node (ih .leaf (Nat.div m 2) x) none .leaf) (Nat.beq (Nat.mod m 2) 0)) n
noncomputable def nd (ih : T α → Nat → Option α → T α) (l : T α) (v : Option α) (r : T α) (n : Nat) (x : Option α) : T α :=
  Nat.rec (.node l x r) (fun m _ => Bool.rec (.node l v (ih r (Nat.div m 2) x)) (.node (ih l (Nat.div m 2) x) v r) (Nat.beq (Nat.mod m 2) 0)) n
noncomputable def put (t : T α) (n : Nat) (x : Option α) : T α :=
  Nat.rec (motive := fun _ => T α → Nat → Option α → T α) (fun t _ _ => t)
    (fun _ ih t n x => T.rec (lf ih n x) (fun l v r _ _ => nd ih l v r n x) t) (Nat.succ n) t n x
noncomputable def set (t : T α) (n : Nat) (x : α) : T α := put t n (some x)
end T

/-- An abstract value. 'bad': any value at all; 'one': any value of one cell. A block is named by an abstract number. -/
inductive AV where
  | bad
  | one
  | bool (b : Bool)
  | int (k : IntKind) (n : Int)
  | str (s : List Nat)
  | nilp
  | ptr (id off : Nat)
  | gptr (g off : Nat)
  | nils
  | slice (id off len cap : Nat)
  | opn (id off len sz : Nat)
  | gsl (g off len cap : Nat)
  | nilm
  | map (id : Nat)
  | fn (f : Fn) (first captured : List AV)
  | yld (id : Nat)
  | nilf
  | iface (t : Nat) (v : AV)
  | nili
  | agg (l : List AV)
  | tup (l : List AV)

/-- What stands in an abstract block. 'cells c n cl': the cells below n are known; 'cl': no string has to do with it. -/
inductive Blk where
  | cells (c : T AV) (n : Nat) (cl : Bool)
  | map (es : List (AV × AV))
  | loop (st : LoopState) (pend : Option Code) (f : FuncId) (fr : T AV) (sz : Nat) (ps : List Nat) (assign body : Code) (d : Nat)
  | dfr (done : Bool)
  | strIter (s : List Nat) (pos : Nat)

abbrev Fr := T AV
abbrev Hp := T Blk

/-- Where an abstract block lies: its number in the heap, its first cell, how many cells it has. -/
structure Info where
  blk : Nat
  base : Nat
  room : Nat

abbrev Sig := Nat → Option Info

def bytesOf (s : ByteArray) : List Nat := s.data.toList.map UInt8.toNat

mutual
inductive VRel (σ : Sig) : AV → Value → Prop
  | bad (v : Value) : VRel σ .bad v
  | one {v : Value} (h : v.cells = #[v]) (h' : ∀ l, v ≠ .tuple l) : VRel σ .one v
  | bool (b : Bool) : VRel σ (.bool b) (.bool b)
  | int (k : IntKind) (n : Int) : VRel σ (.int k n) (.int k n)
  | str (s : ByteArray) {l : List Nat} (h : bytesOf s = l) : VRel σ (.str l) (.string s)
  | nilp : VRel σ .nilp (.pointer none)
  | ptr {id off : Nat} {i : Info} (h : σ id = some i) : VRel σ (.ptr id off) (.pointer (some ⟨i.blk, i.base + off, none⟩))
  | gptr (g off : Nat) : VRel σ (.gptr g off) (.pointer (some ⟨g, off, none⟩))
  | nils : VRel σ .nils (.slice none 0 0)
  | slice {id off len cap off' : Nat} {i : Info} (h : σ id = some i) (hl : len ≤ cap) (ho : off' = i.base + off ∨ cap = 0) : VRel σ (.slice id off len cap) (.slice (some ⟨i.blk, off', none⟩) len cap)
  | opn {id off len sz c off' : Nat} {i : Info} (h : σ id = some i) (hl : len ≤ c) (hr : off + c * sz ≤ i.room) (ho : off' = i.base + off ∨ c = 0) : VRel σ (.opn id off len sz) (.slice (some ⟨i.blk, off', none⟩) len c)
  | gsl (g off : Nat) {len cap : Nat} (hl : len ≤ cap) : VRel σ (.gsl g off len cap) (.slice (some ⟨g, off, none⟩) len cap)
  | nilm : VRel σ .nilm (.map none)
  | map {id : Nat} {i : Info} (h : σ id = some i) : VRel σ (.map id) (.map (some i.blk))
  | fn (f : Fn) {l m : List AV} {vs ws : Array Value} (h : VRels σ l vs.toList) (h' : VRels σ m ws.toList) : VRel σ (.fn f l m) (.func f vs ws)
  | yld {id : Nat} {i : Info} (h : σ id = some i) : VRel σ (.yld id) (.func (.yield i.blk) #[] #[])
  | nilf : VRel σ .nilf .nilFunc
  | iface (t : Nat) {v : AV} {x : Value} (h : VRel σ v x) : VRel σ (.iface t v) (.iface t x)
  | nili : VRel σ .nili .nilIface
  | agg {l : List AV} {vs : Array Value} (h : VRels σ l vs.toList) : VRel σ (.agg l) (.agg vs)
  | tup {l : List AV} {vs : Array Value} (h : VRels σ l vs.toList) : VRel σ (.tup l) (.tuple vs)
inductive VRels (σ : Sig) : List AV → List Value → Prop
  | nil : VRels σ [] []
  | cons {v : AV} {x : Value} {l : List AV} {xs : List Value} (h : VRel σ v x) (t : VRels σ l xs) : VRels σ (v :: l) (x :: xs)
end

def Sig.le (σ τ : Sig) : Prop := ∀ id i, σ id = some i → τ id = some i
instance : LE Sig := ⟨Sig.le⟩
theorem Sig.refl (σ : Sig) : σ ≤ σ := fun _ _ h => h
theorem Sig.trans {σ τ υ : Sig} (h : σ ≤ τ) (h' : τ ≤ υ) : σ ≤ υ := fun _ _ x => h' _ _ (h _ _ x)

mutual
theorem VRel.mono {σ τ : Sig} (hs : σ ≤ τ) : ∀ {v : AV} {x : Value}, VRel σ v x → VRel τ v x
  | _, _, .bad v => .bad v
  | _, _, .one h h' => .one h h'
  | _, _, .bool b => .bool b
  | _, _, .int k n => .int k n
  | _, _, .str s h => .str s h
  | _, _, .nilp => .nilp
  | _, _, .ptr h => .ptr (hs _ _ h)
  | _, _, .gptr g o => .gptr g o
  | _, _, .nils => .nils
  | _, _, .slice h hl ho => .slice (hs _ _ h) hl ho
  | _, _, .opn h hl hr ho => .opn (hs _ _ h) hl hr ho
  | _, _, .gsl g o hl => .gsl g o hl
  | _, _, .nilm => .nilm
  | _, _, .map h => .map (hs _ _ h)
  | _, _, .fn f h h' => .fn f (VRels.mono hs h) (VRels.mono hs h')
  | _, _, .yld h => .yld (hs _ _ h)
  | _, _, .nilf => .nilf
  | _, _, .iface t h => .iface t (VRel.mono hs h)
  | _, _, .nili => .nili
  | _, _, .agg h => .agg (VRels.mono hs h)
  | _, _, .tup h => .tup (VRels.mono hs h)
theorem VRels.mono {σ τ : Sig} (hs : σ ≤ τ) : ∀ {l : List AV} {xs : List Value}, VRels σ l xs → VRels τ l xs
  | _, _, .nil => .nil
  | _, _, .cons h t => .cons (VRel.mono hs h) (VRels.mono hs t)
end

namespace T
variable {α : Type}
theorem get_leaf (n : Nat) : (T.leaf : T α).get n = none := rfl
theorem get_zero (l : T α) (v : Option α) (r : T α) : (T.node l v r).get 0 = v := rfl
theorem brec {β : Type} (a b : β) (c : Bool) : (Bool.rec a b c : β) = if c = true then b else a := by cases c <;> rfl
theorem beq0 (m : Nat) : (Nat.beq (Nat.mod m 2) 0 = true) = (m % 2 = 0) := by
  show (Nat.beq (m % 2) 0 = true) = _
  simp
theorem get_succ (l : T α) (v : Option α) (r : T α) (m : Nat) : (T.node l v r).get (m + 1) = if m % 2 = 0 then l.get (m / 2) else r.get (m / 2) := by
  have : (T.node l v r).get (m + 1) = Bool.rec (r.get (m / 2)) (l.get (m / 2)) (Nat.beq (Nat.mod m 2) 0) := rfl
  rw [this, brec]; simp only [beq0]
/-- 'put' with its fuel. -/
noncomputable def putF (f : Nat) (t : T α) (n : Nat) (x : Option α) : T α :=
  Nat.rec (motive := fun _ => T α → Nat → Option α → T α) (fun t _ _ => t)
    (fun _ ih t n x => T.rec (lf ih n x) (fun l v r _ _ => nd ih l v r n x) t) f t n x
theorem put_eq (t : T α) (n : Nat) (x : Option α) : t.put n x = putF (n + 1) t n x := rfl
theorem putF_leaf (f : Nat) (n : Nat) (x : Option α) : putF (f + 1) .leaf n x = lf (putF f) n x := rfl
theorem putF_node (f : Nat) (l : T α) (v : Option α) (r : T α) (n : Nat) (x : Option α) : putF (f + 1) (.node l v r) n x = nd (putF f) l v r n x := rfl
theorem lf_zero (ih : T α → Nat → Option α → T α) (x : Option α) : lf ih 0 x = .node .leaf x .leaf := rfl
theorem lf_succ (ih : T α → Nat → Option α → T α) (m : Nat) (x : Option α) : lf ih (m + 1) x = if m % 2 = 0 then .node (ih .leaf (m / 2) x) none .leaf else .node .leaf none (ih .leaf (m / 2) x) := by
  have : lf ih (m + 1) x = Bool.rec (.node .leaf none (ih .leaf (m / 2) x)) (.node (ih .leaf (m / 2) x) none .leaf) (Nat.beq (Nat.mod m 2) 0) := rfl
  rw [this, brec]; simp only [beq0]
theorem nd_zero (ih : T α → Nat → Option α → T α) (l : T α) (v : Option α) (r : T α) (x : Option α) : nd ih l v r 0 x = .node l x r := rfl
theorem nd_succ (ih : T α → Nat → Option α → T α) (l : T α) (v : Option α) (r : T α) (m : Nat) (x : Option α) : nd ih l v r (m + 1) x = if m % 2 = 0 then .node (ih l (m / 2) x) v r else .node l v (ih r (m / 2) x) := by
  have : nd ih l v r (m + 1) x = Bool.rec (.node l v (ih r (m / 2) x)) (.node (ih l (m / 2) x) v r) (Nat.beq (Nat.mod m 2) 0) := rfl
  rw [this, brec]; simp only [beq0]
theorem get_putF (x : Option α) : ∀ (f n : Nat) (t : T α) (k : Nat), n < f → (putF f t n x).get k = if k = n then x else t.get k := by
  intro f
  induction f with
  | zero => intro n t k h; omega
  | succ f ih =>
    intro n t k h
    cases t with
    | leaf =>
      rw [putF_leaf]
      cases n with
      | zero =>
        rw [lf_zero]
        cases k with
        | zero => rfl
        | succ k => rw [get_succ]; split <;> simp [get_leaf]
      | succ n =>
        rw [lf_succ]
        cases k with
        | zero => split <;> simp [get_zero, get_leaf]
        | succ k =>
          have hh := fun s => ih (n / 2) s (k / 2) (by omega)
          by_cases e : n % 2 = 0 <;> by_cases e' : k % 2 = 0 <;> simp only [e, e', if_true, if_false, get_succ, get_leaf, hh]
          · have : (k / 2 = n / 2) = (k + 1 = n + 1) := by apply propext; omega
            simp only [this]
          · have : ¬ (k + 1 = n + 1) := by omega
            simp only [this, if_false]
          · have : ¬ (k + 1 = n + 1) := by omega
            simp only [this, if_false]
          · have : (k / 2 = n / 2) = (k + 1 = n + 1) := by apply propext; omega
            simp only [this]
    | node l v r =>
      rw [putF_node]
      cases n with
      | zero =>
        rw [nd_zero]
        cases k with
        | zero => rfl
        | succ k => rw [get_succ, get_succ]; simp
      | succ n =>
        rw [nd_succ]
        cases k with
        | zero => split <;> simp [get_zero]
        | succ k =>
          have hh := fun s => ih (n / 2) s (k / 2) (by omega)
          by_cases e : n % 2 = 0 <;> by_cases e' : k % 2 = 0 <;> simp only [e, e', if_true, if_false, get_succ, hh]
          · have : (k / 2 = n / 2) = (k + 1 = n + 1) := by apply propext; omega
            simp only [this]
          · have : ¬ (k + 1 = n + 1) := by omega
            simp only [this, if_false]
          · have : ¬ (k + 1 = n + 1) := by omega
            simp only [this, if_false]
          · have : (k / 2 = n / 2) = (k + 1 = n + 1) := by apply propext; omega
            simp only [this]
theorem get_put (t : T α) (n : Nat) (x : Option α) (k : Nat) : (t.put n x).get k = if k = n then x else t.get k := by
  rw [put_eq]; exact get_putF x _ _ _ _ (Nat.lt_succ_self n)
theorem get_set (t : T α) (n : Nat) (x : α) (k : Nat) : (t.set n x).get k = if k = n then some x else t.get k := get_put t n _ k
end T
end Go.Proofs.YtjaabolpdelbiaaDoor.AX
