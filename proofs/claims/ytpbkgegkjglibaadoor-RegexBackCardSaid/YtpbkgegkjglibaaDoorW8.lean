/- Regex: what a node's ends are asked to be; ends in memory; new sets. -/
import Derived.Test.YtpbkgegkjglibaaDoorW6
import Derived.Test.YtpbkgegkjglibaaDoorRg7
import Derived.Test.YtpbkgegkjglibaaDoorSt4
import Derived.Deep.CutRange
import Derived.Deep.QuietTactic
namespace Go.Proofs.YtpbkgegkjglibaaDoor
open Go Go.Proofs Go.RowKit
attribute [local go_sem] Oper.semAt_some

theorem st_id {P : Program} {ops : Array Oper} {Q : Exit → Act → World → Prop} {a : Act} {w : World} {rest : List Oper} {t : TypeId} {x y : Operand} {ty : TypeId} {pos : String} {after : Array Edge} (h : wpList P ops Q ({ dst := none, op := .store t x y, type := ty, pos := pos, after := after, guard := none } :: rest) a w) :
    wpList P ops Q ({ dst := none, op := .store t x y, type := ty, pos := pos, after := after, guard := none } :: rest) a w := h
/-- A block's cells. -/
def Bx (w : World) (b : Nat) (t : TypeId) (cs : Array Value) : Prop := w.heap[b]? = some (.cells cs t (0, 0))
theorem Bx.lt {w : World} {B : Nat} {t : TypeId} {cs : Array Value} (h : Bx w B t cs) : B < w.heap.size := (Array.getElem?_eq_some_iff.1 h).1
theorem Bx.new (w : World) (t : TypeId) (cs : Array Value) : Bx (w.alloc (.cells cs t)) w.heap.size t cs := World.alloc_heap_new w _
theorem Bx.cell {w : World} {B : Nat} {t : TypeId} {cs : Array Value} (h : Bx w B t cs) (j : Nat) : w.cell? ⟨B, j, none⟩ = cs[j]? := by simp [World.cell?, show w.heap[B]? = _ from h]
theorem Bx.frozen {w : World} {B : Nat} {t : TypeId} {cs : Array Value} (h : Bx w B t cs) (j : Nat) : w.frozen? ⟨B, j, none⟩ = false := by simp [World.frozen?, show w.heap[B]? = _ from h]
theorem Bx.below {n B : Nat} {t : TypeId} {cs : Array Value} {w w' : World} (h : Bx w B t cs) (hb : Below n w w') (hn : B < n) : Bx w' B t cs := (hb.block _ hn).trans h
theorem Bx.same {B : Nat} {t : TypeId} {cs : Array Value} {w w' : World} (h : Bx w B t cs) (e : w'.heap[B]? = w.heap[B]?) : Bx w' B t cs := e.trans h
theorem Bx.alloc {w : World} {B : Nat} {t : TypeId} {cs : Array Value} (h : Bx w B t cs) (o : Obj) : Bx (w.alloc o) B t cs := (Below.heap_alloc _ _ _ h.lt).trans h
theorem Bx.buts {S : Nat → Prop} {B : Nat} {t : TypeId} {cs : Array Value} {w w' : World} (h : Bx w B t cs) (hb : ButS S w w') (hn : ¬ S B) : Bx w' B t cs := h.same (hb.same _ h.lt hn)
theorem Bx.but {A B : Nat} {t : TypeId} {cs : Array Value} {w w' : World} (h : Bx w B t cs) (hb : AX.But A w w') (hn : B ≠ A) : Bx w' B t cs := h.same (hb.same _ h.lt hn)
theorem Bx.set {w : World} {B : Nat} {t : TypeId} {cs : Array Value} (h : Bx w B t cs) (i : Nat) (v : Value) : Bx (w.setCell ⟨B, i, none⟩ v) B t (cs.setIfInBounds i v) := by
  have h' : w.heap[B]? = _ := h
  simp [Bx, World.setCell, Array.getElem?_modify, h']
theorem Bx.other {W : World} {B B' i : Nat} {t : TypeId} {cs : Array Value} {v : Value} (h : Bx W B t cs) (hne : B ≠ B') : Bx (W.setCell ⟨B', i, none⟩ v) B t cs := h.same (Below.heap_setCell _ _ _ _ hne)
theorem Bx.three {w : World} {B : Nat} {t : TypeId} {v0 v1 v2 : Value} (h : Bx w B t #[v0, v1, v2]) : w.cell? ⟨B, 0, none⟩ = some v0 ∧ w.cell? ⟨B, 1, none⟩ = some v1 ∧ w.cell? ⟨B, 2, none⟩ = some v2 := ⟨h.cell 0, h.cell 1, h.cell 2⟩
theorem sz45 : AX.sizeT Tryd.prog 45 = some 6 := by kernel_rfl
end Go.Proofs.YtpbkgegkjglibaaDoor

namespace Go.Proofs.YtpbkgegkjglibaaDoor
open Go Go.Proofs Go.RowKit
attribute [local go_sem] Oper.semAt_some

structure EnWf (n M : Nat) (x : En) : Prop where
  lf : x.f.length = n
  ll : x.l.length = n
  lm : ∀ p, mem x.l p → p < M
/-- Ends that are read; none of their sets is one of those that may come next. -/
def EAt (W : World) (ev : Value) (n M : Nat) (bs : Nat → Nat) (es : List En) : Prop := ∃ (la : Option Addr) (c : Nat), ev = .slice la es.length c ∧ ∀ j x, es[j]? = some x → ∃ B off F cf L cl, la = some ⟨B, off, none⟩ ∧ B < W.heap.size ∧ (∀ i, i < M → bs i ≠ B) ∧
  (W.cell? ⟨B, off + j * 3, none⟩ = some (.bool x.e) ∧ W.cell? ⟨B, off + j * 3 + 1, none⟩ = some (.slice (some ⟨F, 0, none⟩) n cf) ∧ W.cell? ⟨B, off + j * 3 + 2, none⟩ = some (.slice (some ⟨L, 0, none⟩) n cl)) ∧ BRow W F x.f ∧ BRow W L x.l ∧ (∀ i, i < M → bs i ≠ F ∧ bs i ≠ L)
theorem cell_same {W W' : World} {B o : Nat} (h : W'.heap[B]? = W.heap[B]?) : W'.cell? ⟨B, o, none⟩ = W.cell? ⟨B, o, none⟩ := by simp [World.cell?, h]
theorem EAt.buts {W W' : World} {ev : Value} {n M : Nat} {bs : Nat → Nat} {es : List En} (h : EAt W ev n M bs es) (hb : ButS (fun k => ∃ i, i < M ∧ k = bs i) W W') : EAt W' ev n M bs es := by
  obtain ⟨la, c, e, h⟩ := h
  refine ⟨la, c, e, fun j x hj => ?_⟩
  obtain ⟨B, off, F, cf, L, cl, h1, h2, h3, ⟨h4, h5, h6⟩, h7, h8, h9⟩ := h j x hj
  have e1 := hb.same B h2 (by rintro ⟨i, hi, e⟩; exact h3 i hi e.symm)
  exact ⟨B, off, F, cf, L, cl, h1, Nat.lt_of_lt_of_le h2 hb.low.size, h3, ⟨(cell_same e1).trans h4, (cell_same e1).trans h5, (cell_same e1).trans h6⟩, h7.buts hb (by rintro ⟨i, hi, e⟩; exact (h9 i hi).1 e.symm), h8.buts hb (by rintro ⟨i, hi, e⟩; exact (h9 i hi).2 e.symm), h9⟩
theorem EAt.below {W W' : World} {ev : Value} {n M m : Nat} {bs : Nat → Nat} {es : List En} (h : EAt W ev n M bs es) (hm : W.heap.size ≤ m) (hb : Below m W W') : EAt W' ev n M bs es := by
  obtain ⟨la, c, e, h⟩ := h
  refine ⟨la, c, e, fun j x hj => ?_⟩
  obtain ⟨B, off, F, cf, L, cl, h1, h2, h3, ⟨h4, h5, h6⟩, h7, h8, h9⟩ := h j x hj
  have e1 := hb.block B (by omega)
  exact ⟨B, off, F, cf, L, cl, h1, Nat.lt_of_lt_of_le h2 hb.size, h3, ⟨(cell_same e1).trans h4, (cell_same e1).trans h5, (cell_same e1).trans h6⟩, h7.below hb (by have := h7.lt; omega), h8.below hb (by have := h8.lt; omega), h9⟩
/-- What a node's walk keeps. -/
structure Nst (w0 w W : World) (s NB n i c cr B off : Nat) (bs : Nat → Nat) (ev kv : Value) (x : Nd) (nx : List (List Bool)) : Prop where
  b2 : Bx W s 75 #[.slice (some ⟨B, off, none⟩) n cr, ev, .slice (some ⟨NB, 0, none⟩) n c]
  b4 : Bx W (s + 1) 79 #[.bool false, .slice none 0 0, .slice none 0 0]
  b5 : Bx W (s + 1 + 1) 45 #[.int .i64 x.k, .int .u64 x.a, .int .u64 x.b, .int .u64 x.c, .int .u64 x.d, kv]
  nat : NAt W NB n (i + 1) bs nx
  but : ButS (fun k => ∃ j, j < i + 1 ∧ k = bs j) w W
  low : Below w0.heap.size w0 W
theorem Nst.step {w0 w W W' : World} {s NB n i c cr B off : Nat} {bs : Nat → Nat} {ev kv : Value} {x : Nd} {nx nx' : List (List Bool)} (h : Nst w0 w W s NB n i c cr B off bs ev kv x nx) (hbb : ∀ j, j < i + 1 → bs j < s) (hbs : ∀ j, j < i + 1 → w0.heap.size ≤ bs j)
    (hb : ButS (fun k => ∃ j, j < i + 1 ∧ k = bs j) W W') (hN : NAt W' NB n (i + 1) bs nx') : Nst w0 w W' s NB n i c cr B off bs ev kv x nx' :=
  ⟨h.b2.buts hb (by rintro ⟨j, hj, e⟩; have := hbb j hj; omega), h.b4.buts hb (by rintro ⟨j, hj, e⟩; have := hbb j hj; omega), h.b5.buts hb (by rintro ⟨j, hj, e⟩; have := hbb j hj; omega), hN, h.but.trans hb, h.low.trans (hb.below h.low.size (by rintro k ⟨j, hj, rfl⟩; exact hbs j hj))⟩
theorem Nst.turn {w0 w W W' : World} {s NB n i c cr B off X : Nat} {bs : Nat → Nat} {ev kv : Value} {x : Nd} {nx : List (List Bool)} (h : Nst w0 w W s NB n i c cr B off bs ev kv x nx) (hbb : ∀ j, j < i + 1 → bs j < s) (hNB : NB < s) (hs : w.heap.size ≤ s) (hw : w0.heap.size ≤ s)
    (hX : s + 1 + 1 < X) (hl : X < W'.heap.size) (h4 : ∀ k, k ≠ X → W'.heap[k]? = W.heap[k]?) (h5 : AX.Same W W') : Nst w0 w W' s NB n i c cr B off bs ev kv x nx :=
  ⟨(h4 _ (by omega)).trans h.b2, (h4 _ (by omega)).trans h.b4, (h4 _ (by omega)).trans h.b5, h.nat.same (h4 _ (by omega)) (fun j hj => h4 _ (by have := hbb j hj; omega)),
   ⟨h.but.low.trans (AX.below_turn (Nat.zero_le _) (.inl hl) h4 h5), fun k hk hn => (h4 k (by omega)).trans (h.but.same k hk hn)⟩, h.low.trans (AX.below_turn (by omega) (.inl hl) h4 h5)⟩
theorem Nst.below {w0 w W W' : World} {s NB n i c cr B off : Nat} {bs : Nat → Nat} {ev kv : Value} {x : Nd} {nx : List (List Bool)} (h : Nst w0 w W s NB n i c cr B off bs ev kv x nx) (hbb : ∀ j, j < i + 1 → bs j < s) (hb : Below W.heap.size W W') : Nst w0 w W' s NB n i c cr B off bs ev kv x nx :=
  ⟨h.b2.below hb h.b2.lt, h.b4.below hb h.b4.lt, h.b5.below hb h.b5.lt, h.nat.below hb h.nat.lt (fun j hj => by have := hbb j hj; have := h.b2.lt; omega), h.but.trans (.of_below hb), h.low.trans (hb.mono h.low.size)⟩
end Go.Proofs.YtpbkgegkjglibaaDoor
