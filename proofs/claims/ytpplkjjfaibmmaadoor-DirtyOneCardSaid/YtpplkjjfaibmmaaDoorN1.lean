/- Dirty: positions, let be. -/
import Derived.RangeFuncBox
import Derived.ProofKit
import Derived.Test.YtpplkjjfaibmmaaDoorProg
import Derived.WalkKit
import Derived.BigQuiet
import Derived.RegionTactic
import Derived.Deep.RegionWith
import Derived.Deep.Cut
import Derived.Lib.Hide
import Derived.Laws.Cover1
namespace Go.Proofs.YtpplkjjfaibmmaaDoor
open Go Go.Proofs Go.RowKit

/-- A position that is let be. -/
def Rg (n : Int) : Prop := -1099511627776 ≤ n ∧ n ≤ 1099511627776
/-- Two numbers, three numbers in a block of their own. -/
def Box2 (W : World) (B : Nat) (x y : Int) : Prop := W.heap[B]? = some (.cells #[.int .i64 x, .int .i64 y] 33 (0, 0))
theorem Box2.lt {W : World} {B : Nat} {x y : Int} (h : Box2 W B x y) : B < W.heap.size := (Array.getElem?_eq_some_iff.1 h).1
theorem Box2.at {W : World} {B : Nat} {x y : Int} (h : Box2 W B x y) : W.cell? ⟨B, 0, none⟩ = some (.int .i64 x) ∧ W.cell? ⟨B, 1, none⟩ = some (.int .i64 y) := ⟨by simp [World.cell?, show W.heap[B]? = _ from h], by simp [World.cell?, show W.heap[B]? = _ from h]⟩
theorem Box2.frozen {W : World} {B : Nat} {x y : Int} (h : Box2 W B x y) (j : Nat) : W.frozen? ⟨B, j, none⟩ = false := by simp [World.frozen?, show W.heap[B]? = _ from h]
theorem Box2.below {n B : Nat} {x y : Int} {w w' : World} (h : Box2 w B x y) (hb : Below n w w') (hn : B < n) : Box2 w' B x y := (hb.block _ hn).trans h
theorem Box2.new (w : World) (x y : Int) : Box2 (w.alloc (.cells #[.int .i64 x, .int .i64 y] 33)) w.heap.size x y := World.alloc_heap_new w _
theorem Box2.set {W : World} {B : Nat} {x y : Int} (h : Box2 W B x y) (u v : Int) : Box2 ((W.setCell ⟨B, 0, none⟩ (.int .i64 u)).setCell ⟨B, 1, none⟩ (.int .i64 v)) B u v := by
  have h1 := heap_setCell_same W B 0 _ 33 (.int .i64 u) h
  exact heap_setCell_same _ B 1 _ 33 (.int .i64 v) h1
theorem Box2.other {W : World} {B B' i : Nat} {x y : Int} {v : Value} (h : Box2 W B x y) (hne : B ≠ B') : Box2 (W.setCell ⟨B', i, none⟩ v) B x y := (Below.heap_setCell _ _ _ _ hne).trans h
def Box1 (W : World) (B : Nat) (x : Int) : Prop := W.heap[B]? = some (.cells #[.int .i64 x] 3 (0, 0))
theorem Box1.lt {W : World} {B : Nat} {x : Int} (h : Box1 W B x) : B < W.heap.size := (Array.getElem?_eq_some_iff.1 h).1
theorem Box1.at {W : World} {B : Nat} {x : Int} (h : Box1 W B x) : W.cell? ⟨B, 0, none⟩ = some (.int .i64 x) := by simp [World.cell?, show W.heap[B]? = _ from h]
theorem Box1.frozen {W : World} {B : Nat} {x : Int} (h : Box1 W B x) (j : Nat) : W.frozen? ⟨B, j, none⟩ = false := by simp [World.frozen?, show W.heap[B]? = _ from h]
theorem Box1.below {n B : Nat} {x : Int} {w w' : World} (h : Box1 w B x) (hb : Below n w w') (hn : B < n) : Box1 w' B x := (hb.block _ hn).trans h
theorem Box1.new (w : World) (x : Int) : Box1 (w.alloc (.cells #[.int .i64 x] 3)) w.heap.size x := World.alloc_heap_new w _
theorem Box1.set {W : World} {B : Nat} {x : Int} (h : Box1 W B x) (u : Int) : Box1 (W.setCell ⟨B, 0, none⟩ (.int .i64 u)) B u := heap_setCell_same W B 0 _ 3 (.int .i64 u) h
theorem Box1.other {W : World} {B B' i : Nat} {x : Int} {v : Value} (h : Box1 W B x) (hne : B ≠ B') : Box1 (W.setCell ⟨B', i, none⟩ v) B x := (Below.heap_setCell _ _ _ _ hne).trans h
def Box3 (W : World) (B : Nat) (x y z : Int) : Prop := W.heap[B]? = some (.cells #[.int .i64 x, .int .i64 y, .int .i64 z] 27 (0, 0))
theorem Box3.lt {W : World} {B : Nat} {x y z : Int} (h : Box3 W B x y z) : B < W.heap.size := (Array.getElem?_eq_some_iff.1 h).1
theorem Box3.at {W : World} {B : Nat} {x y z : Int} (h : Box3 W B x y z) : W.cell? ⟨B, 0, none⟩ = some (.int .i64 x) ∧ W.cell? ⟨B, 1, none⟩ = some (.int .i64 y) ∧ W.cell? ⟨B, 2, none⟩ = some (.int .i64 z) := ⟨by simp [World.cell?, show W.heap[B]? = _ from h], by simp [World.cell?, show W.heap[B]? = _ from h], by simp [World.cell?, show W.heap[B]? = _ from h]⟩
theorem Box3.frozen {W : World} {B : Nat} {x y z : Int} (h : Box3 W B x y z) (j : Nat) : W.frozen? ⟨B, j, none⟩ = false := by simp [World.frozen?, show W.heap[B]? = _ from h]
theorem Box3.below {n B : Nat} {x y z : Int} {w w' : World} (h : Box3 w B x y z) (hb : Below n w w') (hn : B < n) : Box3 w' B x y z := (hb.block _ hn).trans h
theorem Box3.new (w : World) (x y z : Int) : Box3 (w.alloc (.cells #[.int .i64 x, .int .i64 y, .int .i64 z] 27)) w.heap.size x y z := World.alloc_heap_new w _
theorem Box3.set {W : World} {B : Nat} {x y z : Int} (h : Box3 W B x y z) (u v t : Int) : Box3 (((W.setCell ⟨B, 0, none⟩ (.int .i64 u)).setCell ⟨B, 1, none⟩ (.int .i64 v)).setCell ⟨B, 2, none⟩ (.int .i64 t)) B u v t := by
  have h1 := heap_setCell_same W B 0 _ 27 (.int .i64 u) h
  have h2 := heap_setCell_same _ B 1 _ 27 (.int .i64 v) h1
  exact heap_setCell_same _ B 2 _ 27 (.int .i64 t) h2
theorem Box3.other {W : World} {B B' i : Nat} {x y z : Int} {v : Value} (h : Box3 W B x y z) (hne : B ≠ B') : Box3 (W.setCell ⟨B', i, none⟩ v) B x y z := (Below.heap_setCell _ _ _ _ hne).trans h

theorem setCell_self {w : World} {b o : Nat} {v : Value} (h : w.cell? ⟨b, o, none⟩ = some v) : w.setCell ⟨b, o, none⟩ v = w := by
  unfold World.cell? at h
  cases hb : w.heap[b]? with
  | none => simp [hb] at h
  | some ob =>
    simp only [hb] at h
    cases ob with
    | cells c e fz =>
      have hc : c[o]? = some v := by simpa using h
      have hself : c.setIfInBounds o v = c := by
        apply Array.ext_getElem?
        intro k
        rw [Array.getElem?_setIfInBounds]
        split
        · rename_i e1
          subst e1
          split
          · exact hc.symm
          · rename_i h1
            exact absurd (Array.getElem?_eq_some_iff.1 hc).1 h1
        · rfl
      have key : ∀ (f : Obj → Obj), f (.cells c e fz) = .cells c e fz → w.heap.modify b f = w.heap := by
        intro f hf
        apply Array.ext_getElem?
        intro k
        rw [Array.getElem?_modify]
        split
        · rename_i e1
          subst e1
          rw [hb]
          simp [hf]
        · rfl
      unfold World.setCell
      rw [key _ (by simp [hself])]
    | _ => simp at h
set_option maxHeartbeats 4000000 in
theorem within_i {n : Int} (hn : Rg n) (w : World) : Calls Tryd.prog 63 #[.int .i64 n, .int .i64 (-1099511627776), .int .i64 1099511627776] w fun e w' => e = .returned (.int .i64 n) ∧ w = w' := by
  obtain ⟨h1, h2⟩ := hn
  go_enter Tryd.func63, Tryd.ntmps63
  go_wp2
  go_ret
  exact ⟨by rfl, rfl⟩
theorem within_k {n : Int} (hn : Rg n) (w : World) : Calls Tryd.prog 63 #[.int .i64 n, .int .i64 (-1099511627776), .int .i64 1099511627776] w fun e w' => e = .returned (.int .i64 n) ∧ Below w.heap.size w w' :=
  (within_i hn w).mono fun _ _ ⟨h1, h2⟩ => ⟨h1, h2 ▸ Below.refl _ _⟩
/-- Pointers to positions that are let be. -/
def Ptrs (w : World) (PB n : Nat) : Prop := ∀ j, j < n → ∃ b o x, w.cell? ⟨PB, j, none⟩ = some (.pointer (some ⟨b, o, none⟩)) ∧ w.cell? ⟨b, o, none⟩ = some (.int .i64 x) ∧ w.frozen? ⟨b, o, none⟩ = false ∧ Rg x
set_option maxHeartbeats 4000000 in
theorem all_k {PB n c : Nat} (hn : n ≤ 1000) (w : World) (h : Ptrs w PB n) : Calls Tryd.prog 55 #[.slice (some ⟨PB, 0, none⟩) n c] w fun e w' => e = .returned (.tuple #[]) ∧ w = w' := by
  have H := Lib.hid h
  clear h
  go_enter Tryd.func55, Tryd.ntmps55
  go_wp2
  go_loop [6] (fun i => ∃ k : Nat, k ≤ n ∧ i = .int .i64 k) (fun i => n - (intOf i).toNat)
  case atStart => exact ⟨0, Nat.zero_le _, rfl⟩
  case round =>
    obtain ⟨k, hk, rfl⟩ := hrel
    rcases Nat.lt_or_ge k n with hlt | hge
    · obtain ⟨b, o, x, h1, h2, h3, hx⟩ := H.out k hlt
      have hself := setCell_self h2
      have hk0 : (0 : Int) ≤ (k : Int) := by omega
      have hk1 : (k : Int) < (n : Int) := by omega
      go_wp2_with (go_at_call 63; ((with_reducible refine (within_i hx _).mono ?_); rintro e Wd ⟨rfl, rfl⟩))
      go_round
      case rel => exact ⟨k + 1, by omega, by simp⟩
      case measure => simp [intOf]; omega
    · obtain rfl : k = n := by omega
      go_wp2
      go_end0
      exact ⟨rfl, rfl⟩
theorem heap_push_old {w : World} {o : Obj} {k : Nat} {x : Obj} (h : w.heap[k]? = some x) : (w.alloc o).heap[k]? = some x := (Below.heap_alloc w o k (Array.getElem?_eq_some_iff.1 h).1).trans h
theorem ptrs3 (w : World) {a d i : Int} (ha : Rg a) (hd : Rg d) (hi : Rg i) : Ptrs (((w.alloc (.cells #[.int .i64 a, .int .i64 d, .int .i64 i] 27)).alloc (.cells #[.int .i64 0, .int .i64 0, .int .i64 0] 27)).alloc (.cells #[.pointer (some ⟨w.heap.size, 0, none⟩), .pointer (some ⟨w.heap.size, 1, none⟩), .pointer (some ⟨w.heap.size, 2, none⟩)] 80)) (w.heap.size + 1 + 1) 3 := by
  have h3 := World.alloc_heap_new ((w.alloc (.cells #[.int .i64 a, .int .i64 d, .int .i64 i] 27)).alloc (.cells #[.int .i64 0, .int .i64 0, .int .i64 0] 27)) (.cells #[.pointer (some ⟨w.heap.size, 0, none⟩), .pointer (some ⟨w.heap.size, 1, none⟩), .pointer (some ⟨w.heap.size, 2, none⟩)] 80)
  rw [World.size_alloc, World.size_alloc] at h3
  have h1 : Box3 _ w.heap.size a d i := heap_push_old (o := .cells #[.pointer (some ⟨w.heap.size, 0, none⟩), .pointer (some ⟨w.heap.size, 1, none⟩), .pointer (some ⟨w.heap.size, 2, none⟩)] 80) (heap_push_old (o := .cells #[.int .i64 0, .int .i64 0, .int .i64 0] 27) (World.alloc_heap_new w (.cells #[.int .i64 a, .int .i64 d, .int .i64 i] 27)))
  intro j hj
  match j, hj with
  | 0, _ => exact ⟨_, _, a, cell_of_row _ _ 0 _ _ _ h3, h1.at.1, h1.frozen 0, ha⟩
  | 1, _ => exact ⟨_, _, d, cell_of_row _ _ 1 _ _ _ h3, h1.at.2.1, h1.frozen 1, hd⟩
  | 2, _ => exact ⟨_, _, i, cell_of_row _ _ 2 _ _ _ h3, h1.at.2.2, h1.frozen 2, hi⟩
theorem ptrs2 (w : World) {a d : Int} (ha : Rg a) (hd : Rg d) : Ptrs (((w.alloc (.cells #[.int .i64 a, .int .i64 d] 33)).alloc (.cells #[.int .i64 0, .int .i64 0] 33)).alloc (.cells #[.pointer (some ⟨w.heap.size, 0, none⟩), .pointer (some ⟨w.heap.size, 1, none⟩)] 80)) (w.heap.size + 1 + 1) 2 := by
  have h3 := World.alloc_heap_new ((w.alloc (.cells #[.int .i64 a, .int .i64 d] 33)).alloc (.cells #[.int .i64 0, .int .i64 0] 33)) (.cells #[.pointer (some ⟨w.heap.size, 0, none⟩), .pointer (some ⟨w.heap.size, 1, none⟩)] 80)
  rw [World.size_alloc, World.size_alloc] at h3
  have h1 : Box2 _ w.heap.size a d := heap_push_old (o := .cells #[.pointer (some ⟨w.heap.size, 0, none⟩), .pointer (some ⟨w.heap.size, 1, none⟩)] 80) (heap_push_old (o := .cells #[.int .i64 0, .int .i64 0] 33) (World.alloc_heap_new w (.cells #[.int .i64 a, .int .i64 d] 33)))
  intro j hj
  match j, hj with
  | 0, _ => exact ⟨_, _, a, cell_of_row _ _ 0 _ _ _ h3, h1.at.1, h1.frozen 0, ha⟩
  | 1, _ => exact ⟨_, _, d, cell_of_row _ _ 1 _ _ _ h3, h1.at.2, h1.frozen 1, hd⟩
set_option maxHeartbeats 4000000 in
theorem put_k {a d i : Int} (ha : Rg a) (hd : Rg d) (hi : Rg i) (w : World) : Calls Tryd.prog 40 #[.agg #[.int .i64 a, .int .i64 d, .int .i64 i]] w fun e w' => e = .returned (.agg #[.int .i64 a, .int .i64 d, .int .i64 i]) ∧ Below w.heap.size w w' := by
  have hk := fun c => all_k (c := c) (by omega) _ (ptrs3 w ha hd hi)
  go_enter Tryd.func40, Tryd.ntmps40
  go_wp2_with (go_at_call 55; ((with_reducible refine (hk _).mono ?_); rintro e Wd ⟨rfl, rfl⟩))
  exact bodyPost_ret (v := .agg #[.int .i64 a, .int .i64 d, .int .i64 i]) (by simp [results, Tryd.results40, go_sem]) rfl ⟨rfl, (((Below.refl w.heap.size w).alloc (Nat.le_refl _) _).alloc (by simp) _).alloc (by simp; omega) _⟩
set_option maxHeartbeats 4000000 in
theorem span_k {f t : Int} (hf : Rg f) (ht : Rg t) (w : World) : Calls Tryd.prog 43 #[.agg #[.int .i64 f, .int .i64 t]] w fun e w' => e = .returned (.agg #[.int .i64 f, .int .i64 t]) ∧ Below w.heap.size w w' := by
  have hk := fun c => all_k (c := c) (by omega) _ (ptrs2 w hf ht)
  go_enter Tryd.func43, Tryd.ntmps43
  go_wp2_with (go_at_call 55; ((with_reducible refine (hk _).mono ?_); rintro e Wd ⟨rfl, rfl⟩))
  exact bodyPost_ret (v := .agg #[.int .i64 f, .int .i64 t]) (by simp [results, Tryd.results43, go_sem]) rfl ⟨rfl, (((Below.refl w.heap.size w).alloc (Nat.le_refl _) _).alloc (by simp) _).alloc (by simp; omega) _⟩
set_option maxHeartbeats 4000000 in
theorem new_k {a d i : Int} (ha : Rg a) (hd : Rg d) (hi : Rg i) (w : World) : Calls Tryd.prog 23 #[.agg #[.int .i64 a, .int .i64 d, .int .i64 i]] w fun e w' => e = .returned (.agg #[.int .i64 a, .int .i64 (a + i)]) ∧ Below w.heap.size w w' := by
  have hB := ((Below.refl w.heap.size w).alloc (Nat.le_refl _) (.cells #[.int .i64 a, .int .i64 d, .int .i64 i] 27)).alloc (by simp) (.cells #[.int .i64 0, .int .i64 0] 33)
  have h1 : Box3 ((w.alloc (.cells #[.int .i64 a, .int .i64 d, .int .i64 i] 27)).alloc (.cells #[.int .i64 0, .int .i64 0] 33)) w.heap.size a d i := heap_push_old (World.alloc_heap_new w _)
  have h2 : Box2 ((w.alloc (.cells #[.int .i64 a, .int .i64 d, .int .i64 i] 27)).alloc (.cells #[.int .i64 0, .int .i64 0] 33)) (w.heap.size + 1) 0 0 := by
    have := Box2.new (w.alloc (.cells #[.int .i64 a, .int .i64 d, .int .i64 i] 27)) 0 0
    rwa [World.size_alloc] at this
  obtain ⟨a1, a2⟩ := id ha
  obtain ⟨i1, i2⟩ := id hi
  have hk := fun W => put_k ha hd hi W
  go_enter Tryd.func23, Tryd.ntmps23
  go_wp2_with fail
  generalize (w.alloc (.cells #[.int .i64 a, .int .i64 d, .int .i64 i] 27)).alloc (.cells #[.int .i64 0, .int .i64 0] 33) = W0 at *
  have hs := h2.lt
  obtain ⟨c0, c1, c2⟩ := h1.at
  go_wp2_with (go_at_call 40; ((with_reducible refine (hk _).mono ?_); rintro e Wd ⟨rfl, hBd⟩; have g1 := h1.below hBd (by omega); have g2 := h2.below hBd (by omega); have f0 := g1.frozen 0; have f1 := g1.frozen 1; have f2 := g1.frozen 2; have f3 := g2.frozen 0; have f4 := g2.frozen 1; obtain ⟨d0, d1, d2⟩ := g1.at; obtain ⟨e0, e1⟩ := g2.at))
  exact bodyPost_ret (v := .agg #[.int .i64 a, .int .i64 (a + i)]) (by simp [results, Tryd.results23, go_sem, e0, e1]) rfl
    ⟨rfl, (((((hB.trans (hBd.mono (by omega))).setCell (by simp) _).setCell (by simp) _).setCell (by simp) _).setCell (by simp) _).setCell (by simp) _⟩
end Go.Proofs.YtpplkjjfaibmmaaDoor
