/- Marks: leaf 35 and 72, token 71, LightParts 6. -/
import Derived.Test.YtdjeokgkeejpcaaGreatDoorP2
import Derived.Test.YtdjeokgkeejpcaaGreatDoorSt4
import Derived.RangeFuncRecord
import Derived.Test.YtdjeokgkeejpcaaGreatDoorProg
import Derived.WalkKit
import Derived.ProofKit
import Derived.OpenShut
import Derived.KernelRfl
import Derived.BigQuiet
import Derived.Deep.QuietTactic
import Derived.Lib.Hide
namespace Go.Proofs.YtdjeokgkeejpcaaGreatDoor
open Go Go.Proofs Go.RowKit
attribute [local go_sem] Oper.semAt_some
theorem st_id {P : Program} {ops : Array Oper} {Q : Exit → Act → World → Prop} {a : Act} {w : World} {rest : List Oper} {t : TypeId} {x y : Operand} {ty : TypeId} {pos : String} {after : Array Edge} (h : wpList P ops Q ({ dst := none, op := .store t x y, type := ty, pos := pos, after := after, guard := none } :: rest) a w) :
    wpList P ops Q ({ dst := none, op := .store t x y, type := ty, pos := pos, after := after, guard := none } :: rest) a w := h
theorem st_in {F : Fence} {m : Nat} {P : Program} {ops : Array Oper} {Q : Exit → Act → World → Prop} {a : Act} {w : World} {rest : List Oper} {t : TypeId} {x y : Operand} {ty : TypeId} {pos : String} {after : Array Edge} (h : wpListIn F m P ops Q ({ dst := none, op := .store t x y, type := ty, pos := pos, after := after, guard := none } :: rest) a w) :
    wpListIn F m P ops Q ({ dst := none, op := .store t x y, type := ty, pos := pos, after := after, guard := none } :: rest) a w := h
/-- A block of cells. -/
def Bx (w : World) (b : Nat) (t : TypeId) (cs : Array Value) : Prop := w.heap[b]? = some (.cells cs t (0, 0))
theorem Bx.lt {w : World} {B : Nat} {t : TypeId} {cs : Array Value} (h : Bx w B t cs) : B < w.heap.size := (Array.getElem?_eq_some_iff.1 h).1
theorem Bx.new (w : World) (t : TypeId) (cs : Array Value) : Bx (w.alloc (.cells cs t)) w.heap.size t cs := World.alloc_heap_new w _
theorem Bx.cell {w : World} {B : Nat} {t : TypeId} {cs : Array Value} (h : Bx w B t cs) (j : Nat) : w.cell? ⟨B, j, none⟩ = cs[j]? := by simp [World.cell?, show w.heap[B]? = _ from h]
theorem Bx.frozen {w : World} {B : Nat} {t : TypeId} {cs : Array Value} (h : Bx w B t cs) (j : Nat) : w.frozen? ⟨B, j, none⟩ = false := by simp [World.frozen?, show w.heap[B]? = _ from h]
theorem Bx.below {n B : Nat} {t : TypeId} {cs : Array Value} {w w' : World} (h : Bx w B t cs) (hb : Below n w w') (hn : B < n) : Bx w' B t cs := (hb.block _ hn).trans h
theorem Bx.same {B : Nat} {t : TypeId} {cs : Array Value} {w w' : World} (h : Bx w B t cs) (e : w'.heap[B]? = w.heap[B]?) : Bx w' B t cs := e.trans h
theorem Bx.alloc {w : World} {B : Nat} {t : TypeId} {cs : Array Value} (h : Bx w B t cs) (o : Obj) : Bx (w.alloc o) B t cs := (Below.heap_alloc _ _ _ h.lt).trans h
theorem Bx.eight {W : World} {b : Nat} {t : TypeId} {c0 c1 c2 c3 c4 c5 c6 c7 : Value} (h : Bx W b t #[c0, c1, c2, c3, c4, c5, c6, c7]) : W.cell? ⟨b, 0, none⟩ = some c0 ∧ W.cell? ⟨b, 1, none⟩ = some c1 ∧ W.cell? ⟨b, 2, none⟩ = some c2 ∧ W.cell? ⟨b, 3, none⟩ = some c3 ∧ W.cell? ⟨b, 4, none⟩ = some c4 ∧ W.cell? ⟨b, 5, none⟩ = some c5 ∧ W.cell? ⟨b, 6, none⟩ = some c6 ∧ W.cell? ⟨b, 7, none⟩ = some c7 :=
  ⟨h.cell 0, h.cell 1, h.cell 2, h.cell 3, h.cell 4, h.cell 5, h.cell 6, h.cell 7⟩
/-- A row of ints, read. -/
def IRow (w : World) (a : Option Addr) (l : List Int) : Prop := l ≠ [] → ∃ b off, a = some ⟨b, off, none⟩ ∧ b < w.heap.size ∧ ∀ j (h : j < l.length), w.cell? ⟨b, off + j, none⟩ = some (.int .i64 l[j])
theorem IRow.below {n : Nat} {w w' : World} {a : Option Addr} {l : List Int} (h : IRow w a l) (hb : Below n w w') (hn : w.heap.size ≤ n) : IRow w' a l := fun h0 => by
  obtain ⟨b, off, rfl, h1, h2⟩ := h h0
  exact ⟨b, off, rfl, Nat.lt_of_lt_of_le h1 hb.size, fun j hj => (hb.cell (p := ⟨b, off + j, none⟩) (by simp only; omega)).trans (h2 j hj)⟩
theorem IRow.at {w : World} {a : Option Addr} {l : List Int} (h : IRow w a l) {j : Nat} (hj : j < l.length) : ∃ b off, a = some ⟨b, off, none⟩ ∧ b < w.heap.size ∧ w.cell? ⟨b, off + j, none⟩ = some (.int .i64 l[j]) := by
  obtain ⟨b, off, h0, h1, h2⟩ := h (by intro e; subst e; simp at hj)
  exact ⟨b, off, h0, h1, h2 j hj⟩
/-- A part's value. -/
def ptV (p : Pt) (ka : Option Addr) (kc : Nat) : Value := .agg #[.int .i64 p.sym, .int .i64 p.kind, .int .i64 p.frm, .int .i64 p.inn, .int .i64 p.too, .int .i64 p.look, .slice ka p.kids.length kc, .int .u64 (p.met : Nat)]
def ptC (p : Pt) (ka : Option Addr) (kc : Nat) : Array Value := #[.int .i64 p.sym, .int .i64 p.kind, .int .i64 p.frm, .int .i64 p.inn, .int .i64 p.too, .int .i64 p.look, .slice ka p.kids.length kc, .int .u64 (p.met : Nat)]
structure PtAt (w : World) (b o : Nat) (p : Pt) (ka : Option Addr) (kc : Nat) : Prop where
  c0 : w.cell? ⟨b, o, none⟩ = some (.int .i64 p.sym)
  c1 : w.cell? ⟨b, o + 1, none⟩ = some (.int .i64 p.kind)
  c2 : w.cell? ⟨b, o + 2, none⟩ = some (.int .i64 p.frm)
  c3 : w.cell? ⟨b, o + 3, none⟩ = some (.int .i64 p.inn)
  c4 : w.cell? ⟨b, o + 4, none⟩ = some (.int .i64 p.too)
  c5 : w.cell? ⟨b, o + 5, none⟩ = some (.int .i64 p.look)
  c6 : w.cell? ⟨b, o + 6, none⟩ = some (.slice ka p.kids.length kc)
  c7 : w.cell? ⟨b, o + 7, none⟩ = some (.int .u64 (p.met : Nat))
theorem PtAt.below {n : Nat} {w w' : World} {b o : Nat} {p : Pt} {ka : Option Addr} {kc : Nat} (h : PtAt w b o p ka kc) (hb : Below n w w') (hn : b < n) : PtAt w' b o p ka kc :=
  have e : ∀ i, w'.cell? ⟨b, i, none⟩ = w.cell? ⟨b, i, none⟩ := fun i => hb.cell (p := ⟨b, i, none⟩) hn
  ⟨(e _).trans h.c0, (e _).trans h.c1, (e _).trans h.c2, (e _).trans h.c3, (e _).trans h.c4, (e _).trans h.c5, (e _).trans h.c6, (e _).trans h.c7⟩
theorem PtAt.same {w w' : World} {b o : Nat} {p : Pt} {ka : Option Addr} {kc : Nat} (h : PtAt w b o p ka kc) (e0 : w'.heap[b]? = w.heap[b]?) : PtAt w' b o p ka kc :=
  have e : ∀ i, w'.cell? ⟨b, i, none⟩ = w.cell? ⟨b, i, none⟩ := fun i => World.cell?_of_block (w := w) (w' := w') (a := ⟨b, i, none⟩) e0
  ⟨(e _).trans h.c0, (e _).trans h.c1, (e _).trans h.c2, (e _).trans h.c3, (e _).trans h.c4, (e _).trans h.c5, (e _).trans h.c6, (e _).trans h.c7⟩
/-- A row of parts, read. -/
def PRow (w : World) (a : Option Addr) (l : List Pt) : Prop := l ≠ [] → ∃ b off, a = some ⟨b, off, none⟩ ∧ b < w.heap.size ∧ ∀ j (h : j < l.length), ∃ ka kc, PtAt w b (off + j * 8) l[j] ka kc ∧ IRow w ka l[j].kids ∧ l[j].kids.length ≤ 9223372036854775807
theorem PRow.below {n : Nat} {w w' : World} {a : Option Addr} {l : List Pt} (h : PRow w a l) (hb : Below n w w') (hn : w.heap.size ≤ n) : PRow w' a l := fun h0 => by
  obtain ⟨b, off, rfl, h1, h2⟩ := h h0
  refine ⟨b, off, rfl, Nat.lt_of_lt_of_le h1 hb.size, fun j hj => ?_⟩
  obtain ⟨ka, kc, c0, c1, c2⟩ := h2 j hj
  exact ⟨ka, kc, c0.below hb (by omega), c1.below hb hn, c2⟩
theorem PRow.at {w : World} {a : Option Addr} {l : List Pt} (h : PRow w a l) {j : Nat} (hj : j < l.length) : ∃ b off ka kc, a = some ⟨b, off, none⟩ ∧ b < w.heap.size ∧ PtAt w b (off + j * 8) l[j] ka kc ∧ IRow w ka l[j].kids ∧ l[j].kids.length ≤ 9223372036854775807 := by
  obtain ⟨b, off, h0, h1, h2⟩ := h (by intro e; subst e; simp at hj)
  obtain ⟨ka, kc, h3⟩ := h2 j hj
  exact ⟨b, off, ka, kc, h0, h1, h3⟩
theorem sz36 : AX.sizeT Tryz.prog 36 = some 8 := by kernel_rfl
theorem sz3 : AX.sizeT Tryz.prog 3 = some 1 := by kernel_rfl
theorem sz27 : AX.sizeT Tryz.prog 27 = some 1 := by kernel_rfl
theorem sz25 : AX.sizeT Tryz.prog 25 = some 1 := by kernel_rfl
theorem sz4 : AX.sizeT Tryz.prog 4 = some 1 := by kernel_rfl
theorem sz53 : AX.sizeT Tryz.prog 53 = some 1 := by kernel_rfl
theorem sz54 : AX.sizeT Tryz.prog 54 = some 1 := by kernel_rfl
theorem sz98 : AX.sizeT Tryz.prog 98 = some 1 := by kernel_rfl
end Go.Proofs.YtdjeokgkeejpcaaGreatDoor

namespace Go.Proofs.YtdjeokgkeejpcaaGreatDoor
open Go Go.Proofs Go.RowKit
attribute [local go_sem] Oper.semAt_some
theorem leaf35_k (k : Int) (w : World) : Calls Tryz.prog 35 #[.int .i64 k] w fun e w' => e = .returned (.bool (leafK k)) ∧ w = w' := by
  by_cases h1 : k = 1
  · subst h1
    go_enter Tryz.func35, Tryz.ntmps35
    go_wp2
    go_ret
    exact ⟨rfl, rfl⟩
  · by_cases h2 : k = 2
    · subst h2
      go_enter Tryz.func35, Tryz.ntmps35
      go_wp2
      go_ret
      exact ⟨rfl, rfl⟩
    · go_enter Tryz.func35, Tryz.ntmps35
      go_wp2
      go_ret
      exact ⟨by simp [leafK, h1, h2], rfl⟩
theorem leaf72_k (k : Int) (w : World) : Calls Tryz.prog 72 #[.int .i64 k] w fun e w' => e = .returned (.bool (leafK k)) ∧ w = w' := by
  by_cases h1 : k = 1
  · subst h1
    go_enter Tryz.func72, Tryz.ntmps72
    go_wp2
    go_ret
    exact ⟨rfl, rfl⟩
  · by_cases h2 : k = 2
    · subst h2
      go_enter Tryz.func72, Tryz.ntmps72
      go_wp2
      go_ret
      exact ⟨rfl, rfl⟩
    · go_enter Tryz.func72, Tryz.ntmps72
      go_wp2
      go_ret
      exact ⟨by simp [leafK, h1, h2], rfl⟩
def tokK (k : Int) : Bool := k == 3 || k == 5 || k == 6
theorem token_k (k : Int) (w : World) : Calls Tryz.prog 71 #[.int .i64 k] w fun e w' => e = .returned (.bool (tokK k)) ∧ w = w' := by
  by_cases h1 : k = 3
  · subst h1
    go_enter Tryz.func71, Tryz.ntmps71
    go_wp2
    go_ret
    exact ⟨rfl, rfl⟩
  · by_cases h2 : k = 5
    · subst h2
      go_enter Tryz.func71, Tryz.ntmps71
      go_wp2
      go_ret
      exact ⟨rfl, rfl⟩
    · go_enter Tryz.func71, Tryz.ntmps71
      go_wp2
      go_ret
      exact ⟨rfl, rfl⟩
def LgPost (l : List Pt) (e : Ending) : Prop := ∃ v, e = .returned (.bool v) ∧ (v = true → l.length ≤ 120)
def LgRel (l : List Pt) (wo : World) (n i : Value) (wr : World) : Prop := ∃ (z : Int) (k : Nat), k ≤ 121 ∧ k ≤ l.length ∧ n = .int .i64 z ∧ i = .int .i64 k ∧ Below wo.heap.size wo wr
set_option maxRecDepth 100000 in
set_option maxHeartbeats 8000000 in
theorem light_k (l : List Pt) (hl : l.length ≤ 9223372036854775807) (la : Option Addr) (c : Nat) (w : World) (hR : PRow w la l) :
    Calls Tryz.prog 6 #[.slice la l.length c, .int .i64 120] w fun e w' => LgPost l e ∧ Below w.heap.size w w' := by
  go_enter Tryz.func6, Tryz.ntmps6
  go_wp2
  obtain ⟨wo, rfl⟩ : ∃ wo : World, wo = w := ⟨_, rfl⟩
  go_loopw [5, 6] (fun n i wr => LgRel l wo n i wr) (fun _ i _ => 121 - (intOf i).toNat)
  case atStart => exact ⟨0, 0, by omega, Nat.zero_le _, rfl, rfl, Below.refl _ _⟩
  case round =>
    obtain ⟨z, k, hk1, hk2, rfl, rfl, hB⟩ := hrel
    have hRr := hR.below hB (Nat.le_refl _)
    have hkz : (0 : Int) ≤ (k : Int) := by omega
    by_cases hlt : k < l.length
    · have hk1' : (k : Int) < (l.length : Int) := by omega
      by_cases hk120 : (k : Int) ≤ 120
      · obtain ⟨b, off, ka, kc, rfl, hbl, y, _, hkl⟩ := hRr.at hlt
        obtain ⟨p, hp⟩ : ∃ p, p = l[k] := ⟨_, rfl⟩
        rw [← hp] at y hkl
        clear hp hRr hR
        obtain ⟨y0, y1, y2, y3, y4, y5, y6, y7⟩ := y
        have hX := Bx.new wr 36 #[.int .i64 0, .int .i64 0, .int .i64 0, .int .i64 0, .int .i64 0, .int .i64 0, .slice none 0 0, .int .u64 0]
        have hA := (Below.refl _ wr).alloc (Nat.le_refl _) (.cells #[.int .i64 0, .int .i64 0, .int .i64 0, .int .i64 0, .int .i64 0, .int .i64 0, .slice none 0 0, .int .u64 0] 36)
        have hcase : 1048576 < p.frm ∨ (¬ 1048576 < p.frm ∧ 1048576 < p.too) ∨ (¬ 1048576 < p.frm ∧ ¬ 1048576 < p.too ∧ 1048576 < p.look) ∨ (¬ 1048576 < p.frm ∧ ¬ 1048576 < p.too ∧ ¬ 1048576 < p.look ∧ p.frm < -1048576) ∨ (¬ 1048576 < p.frm ∧ ¬ 1048576 < p.too ∧ ¬ 1048576 < p.look ∧ ¬ p.frm < -1048576 ∧ p.too < -1048576) ∨ (¬ 1048576 < p.frm ∧ ¬ 1048576 < p.too ∧ ¬ 1048576 < p.look ∧ ¬ p.frm < -1048576 ∧ ¬ p.too < -1048576 ∧ p.look < -1048576) ∨ (¬ 1048576 < p.frm ∧ ¬ 1048576 < p.too ∧ ¬ 1048576 < p.look ∧ ¬ p.frm < -1048576 ∧ ¬ p.too < -1048576 ∧ ¬ p.look < -1048576) := by omega
        rcases hcase with h1 | ⟨h1, h2⟩ | ⟨h1, h2, h3⟩ | ⟨h1, h2, h3, h4⟩ | ⟨h1, h2, h3, h4, h5⟩ | ⟨h1, h2, h3, h4, h5, h6⟩ | ⟨h1, h2, h3, h4, h5, h6⟩
        all_goals go_wp2_with ((with_reducible refine st_id ?_); refine AX.wpList_storeBox (vs := [.int .i64 p.sym, .int .i64 p.kind, .int .i64 p.frm, .int .i64 p.inn, .int .i64 p.too, .int .i64 p.look, .slice ka p.kids.length kc, .int .u64 (p.met : Nat)]) rfl rfl sz36 hX rfl rfl ?_; rintro W3 g3 g4 g5; obtain ⟨x0, x1, x2, x3, x4, x5, x6, x7⟩ := Bx.eight g3; have hB3 := hB.trans ((hA.trans (AX.below_turn (Nat.le_refl _) (.inl (Bx.lt g3)) g4 g5)).mono hB.size))
        all_goals first
          | (go_ret; exact ⟨⟨false, rfl, fun h => by cases h⟩, hB3⟩)
          | skip
        go_roundw
        case rel => exact ⟨_, k + 1, by omega, by omega, rfl, by simp, hB3⟩
        case measure => simp [intOf]; omega
      · have hl120 : ¬ (l.length : Int) ≤ 120 := by omega
        go_wp2
        go_ret
        exact ⟨⟨false, rfl, fun h => by cases h⟩, hB⟩
    · have hk1' : ¬ (k : Int) < (l.length : Int) := by omega
      by_cases hl120 : (l.length : Int) ≤ 120
      · go_wp2
        go_ret
        exact ⟨⟨_, rfl, fun _ => by omega⟩, hB⟩
      · go_wp2
        go_ret
        exact ⟨⟨false, rfl, fun h => by cases h⟩, hB⟩
end Go.Proofs.YtdjeokgkeejpcaaGreatDoor
