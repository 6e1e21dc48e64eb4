/- Dirty: from. -/
import Derived.Test.YtpplkjjfaibmmaaDoorE1
import Derived.Test.YtpplkjjfaibmmaaDoorRg6
namespace Go.Proofs.YtpplkjjfaibmmaaDoor
open Go Go.Proofs Go.RowKit
attribute [local go_sem] Oper.semAt_some
/-- A job in a block of its own. -/
def J.o (x : J) : Obj := .cells #[.int .i64 x.s, .int .i64 x.f, .int .i64 x.t, .int .i64 x.a, .int .i64 x.l] 38
def J.z : J := ⟨0, 0, 0, 0, 0⟩
def Box5 (W : World) (B : Nat) (x : J) : Prop := W.heap[B]? = some (.cells #[.int .i64 x.s, .int .i64 x.f, .int .i64 x.t, .int .i64 x.a, .int .i64 x.l] 38 (0, 0))
theorem Box5.lt {W : World} {B : Nat} {x : J} (h : Box5 W B x) : B < W.heap.size := (Array.getElem?_eq_some_iff.1 h).1
theorem Box5.at {W : World} {B : Nat} {x : J} (h : Box5 W B x) : JAt W B 0 x := ⟨by simp [World.cell?, show W.heap[B]? = _ from h], by simp [World.cell?, show W.heap[B]? = _ from h], by simp [World.cell?, show W.heap[B]? = _ from h], by simp [World.cell?, show W.heap[B]? = _ from h], by simp [World.cell?, show W.heap[B]? = _ from h]⟩
theorem Box5.cs {W : World} {B : Nat} {x : J} (h : Box5 W B x) : W.cell? ⟨B, 0, none⟩ = some (.int .i64 x.s) ∧ W.cell? ⟨B, 1, none⟩ = some (.int .i64 x.f) ∧ W.cell? ⟨B, 2, none⟩ = some (.int .i64 x.t) ∧ W.cell? ⟨B, 3, none⟩ = some (.int .i64 x.a) ∧ W.cell? ⟨B, 4, none⟩ = some (.int .i64 x.l) := ⟨h.at.c0, h.at.c1, h.at.c2, h.at.c3, h.at.c4⟩
theorem Box5.frozen {W : World} {B : Nat} {x : J} (h : Box5 W B x) (j : Nat) : W.frozen? ⟨B, j, none⟩ = false := by simp [World.frozen?, show W.heap[B]? = _ from h]
theorem Box5.below {n B : Nat} {x : J} {w w' : World} (h : Box5 w B x) (hb : Below n w w') (hn : B < n) : Box5 w' B x := (hb.block _ hn).trans h
theorem Box5.new (w : World) (x : J) : Box5 (w.alloc (.cells #[.int .i64 x.s, .int .i64 x.f, .int .i64 x.t, .int .i64 x.a, .int .i64 x.l] 38)) w.heap.size x := World.alloc_heap_new w _
theorem Box5.other {W : World} {B B' i : Nat} {x : J} {v : Value} (h : Box5 W B x) (hne : B ≠ B') : Box5 (W.setCell ⟨B', i, none⟩ v) B x := (Below.heap_setCell _ _ _ _ hne).trans h
theorem Box5.set {W : World} {B : Nat} {x : J} (h : Box5 W B x) (y : J) : Box5 (((((W.setCell ⟨B, 0, none⟩ (.int .i64 y.s)).setCell ⟨B, 1, none⟩ (.int .i64 y.f)).setCell ⟨B, 2, none⟩ (.int .i64 y.t)).setCell ⟨B, 3, none⟩ (.int .i64 y.a)).setCell ⟨B, 4, none⟩ (.int .i64 y.l)) B y := by
  have h1 := heap_setCell_same W B 0 _ 38 (.int .i64 y.s) h
  have h2 := heap_setCell_same _ B 1 _ 38 (.int .i64 y.f) h1
  have h3 := heap_setCell_same _ B 2 _ 38 (.int .i64 y.t) h2
  have h4 := heap_setCell_same _ B 3 _ 38 (.int .i64 y.a) h3
  exact heap_setCell_same _ B 4 _ 38 (.int .i64 y.l) h4
end Go.Proofs.YtpplkjjfaibmmaaDoor

namespace Go.Proofs.YtpplkjjfaibmmaaDoor
open Go Go.Proofs Go.RowKit
attribute [local go_sem] Oper.semAt_some
def cmpI (a b : Int) : Int := if a < b then -1 else if b < a then 1 else 0
set_option maxHeartbeats 4000000 in
theorem cmp_k (a b : Int) (w : World) : Calls Tryd.prog 49 #[.int .i64 a, .int .i64 b] w fun e w' => e = .returned (.int .i64 (cmpI a b)) ∧ w' = w := by
  go_enter Tryd.func49, Tryd.ntmps49
  go_wp2
  all_goals first
    | (have e : cmpI a b = -1 := if_pos (by omega); exact bodyPost_ret (v := .int .i64 (cmpI a b)) (by simp [results, Tryd.results49, go_sem, e]) rfl ⟨rfl, rfl⟩)
    | (have e : cmpI a b = 1 := (if_neg (by omega)).trans (if_pos (by omega)); exact bodyPost_ret (v := .int .i64 (cmpI a b)) (by simp [results, Tryd.results49, go_sem, e]) rfl ⟨rfl, rfl⟩)
    | (have e : cmpI a b = 0 := (if_neg (by omega)).trans (if_neg (by omega)); exact bodyPost_ret (v := .int .i64 (cmpI a b)) (by simp [results, Tryd.results49, go_sem, e]) rfl ⟨rfl, rfl⟩)
set_option maxHeartbeats 4000000 in
theorem bySlot_k (x y : J) (w : World) : Calls Tryd.prog 45 #[x.v, y.v] w fun e w' => e = .returned (.int .i64 (cmpI x.s y.s)) ∧ Below w.heap.size w w' := by
  have hB0 : Below w.heap.size w ((w.alloc (.cells #[.int .i64 x.s, .int .i64 x.f, .int .i64 x.t, .int .i64 x.a, .int .i64 x.l] 38)).alloc (.cells #[.int .i64 y.s, .int .i64 y.f, .int .i64 y.t, .int .i64 y.a, .int .i64 y.l] 38)) := ((Below.refl _ w).alloc (Nat.le_refl _) _).alloc (by simp) _
  have hA := (Box5.new w x).below ((Below.refl (w.heap.size + 1) (w.alloc (.cells #[.int .i64 x.s, .int .i64 x.f, .int .i64 x.t, .int .i64 x.a, .int .i64 x.l] 38))).alloc (by simp) (.cells #[.int .i64 y.s, .int .i64 y.f, .int .i64 y.t, .int .i64 y.a, .int .i64 y.l] 38)) (Nat.lt_succ_self _)
  have hC := Box5.new (w.alloc (.cells #[.int .i64 x.s, .int .i64 x.f, .int .i64 x.t, .int .i64 x.a, .int .i64 x.l] 38)) y
  simp only [World.size_alloc] at hC
  unfold J.v
  have h49 := cmp_k x.s y.s
  generalize cmpI x.s y.s = r at *
  go_enter Tryd.func45, Tryd.ntmps45
  generalize hW0 : (w.alloc (.cells #[.int .i64 x.s, .int .i64 x.f, .int .i64 x.t, .int .i64 x.a, .int .i64 x.l] 38)).alloc (.cells #[.int .i64 y.s, .int .i64 y.f, .int .i64 y.t, .int .i64 y.a, .int .i64 y.l] 38) = W0 at *
  obtain ⟨a0, a1, a2, a3, a4⟩ := hA.cs
  obtain ⟨c0, c1, c2, c3, c4⟩ := hC.cs
  go_wp2_with (go_at_call 49; refine (h49 _).mono ?_; rintro e _ ⟨rfl, rfl⟩)
  all_goals exact bodyPost_ret (v := .int .i64 r) (by simp [results, Tryd.results45, go_sem]) rfl ⟨rfl, hB0⟩
end Go.Proofs.YtpplkjjfaibmmaaDoor

namespace Go.Proofs.YtpplkjjfaibmmaaDoor
open Go Go.Proofs Go.RowKit
attribute [local go_sem] Oper.semAt_some
/-- The first that is not 0. -/
def orI : List Int → Int
  | [] => 0
  | x :: r => if x = 0 then orI r else x
set_option maxHeartbeats 4000000 in
theorem or_k (l : List Int) (hl : l.length ≤ 1000) (P c : Nat) (w : World) (hP : ∀ i (h : i < l.length), w.cell? ⟨P, i, none⟩ = some (.int .i64 l[i])) :
    Calls Tryd.prog 48 #[.slice (some ⟨P, 0, none⟩) l.length c] w fun e w' => e = .returned (.int .i64 (orI l)) ∧ Below w.heap.size w w' := by
  obtain ⟨o, ho⟩ : ∃ o, o = orI l := ⟨_, rfl⟩
  rw [← ho]
  have HO := Lib.hid ho
  clear ho
  go_enter Tryd.func48, Tryd.ntmps48
  go_wp2
  obtain ⟨wo, rfl⟩ : ∃ wo : World, wo = w := ⟨_, rfl⟩
  go_loopw [8] (fun i wr => ∃ k : Nat, k ≤ l.length ∧ i = .int .i64 k ∧ Hid (o = orI (l.drop k)) ∧ wr = wo)
    (fun i _ => l.length - (intOf i).toNat)
  case atStart => exact ⟨0, Nat.zero_le _, rfl, HO, rfl⟩
  case round =>
    obtain ⟨k, hk, rfl, hok, rfl⟩ := hrel
    have hok := hok.out
    by_cases hlt : k < l.length
    · have hx := hP k hlt
      rw [List.drop_eq_getElem_cons hlt, orI] at hok
      generalize l[k] = x at *
      have HZ : Hid (x = 0 → o = orI (l.drop (k + 1))) := Lib.hid fun h => by rw [hok, if_pos h]
      have HN : Hid (¬ x = 0 → o = x) := Lib.hid fun h => by rw [hok, if_neg h]
      clear hok hP
      have hk0 : (0 : Int) ≤ (k : Int) := by omega
      have hk1 : (k : Int) < (l.length : Int) := by omega
      by_cases hz : x = 0
      · subst hz
        go_wp2
        go_roundw
        case rel => exact ⟨k + 1, by omega, by simp, Lib.hid (HZ.out rfl), trivial⟩
        case measure => simp [intOf]; omega
      · have e := HN.out hz
        go_wp2
        exact bodyPost_ret (v := .int .i64 o) (by simp [results, Tryd.results48, go_sem, e]) rfl ⟨rfl, Below.refl _ _⟩
    · obtain rfl : k = l.length := by omega
      rw [List.drop_length] at hok
      go_wp2
      exact bodyPost_ret (v := .int .i64 o) (by simp [results, Tryd.results48, go_sem, hok, orI]) rfl ⟨rfl, Below.refl _ _⟩
end Go.Proofs.YtpplkjjfaibmmaaDoor

namespace Go.Proofs.YtpplkjjfaibmmaaDoor
open Go Go.Proofs Go.RowKit
attribute [local go_sem] Oper.semAt_some
def row51_1 : List (Nat × Bool) := [(0, false), (1, false), (2, false), (3, false), (4, false), (5, false), (7, false), (8, false), (9, false), (10, false), (6, true), (11, true), (12, true), (13, true), (14, false)]
def inf51_1 : List AX.Inf := [⟨0, 32, 4, true⟩, ⟨1, 64, 32, true⟩, ⟨2, 128, 64, true⟩, ⟨0, 256, 8, true⟩, ⟨8, 512, 256, true⟩, ⟨16, 1024, 512, true⟩, ⟨36, 2048, 1152, false⟩, ⟨0, 4096, 4, true⟩, ⟨128, 8192, 4096, true⟩, ⟨0, 16384, 8, true⟩, ⟨512, 32768, 16384, true⟩, ⟨1344, 65536, 40960, false⟩, ⟨2112, 131072, 67584, false⟩, ⟨6144, 262144, 131072, false⟩, ⟨16383, 16, 262144, true⟩]
theorem fit51_1 : AX.mixF inf51_1 row51_1 0 = true := by kernel_rfl
theorem or2_k (p q : Int) (W : World) (P : Nat) (h : W.heap[P]? = some (.cells #[.int .i64 p, .int .i64 q] 3 (0, 0))) :
    Calls Tryd.prog 48 #[.slice (some ⟨P, 0, none⟩) 2 2] W fun e w' => e = .returned (.int .i64 (orI [p, q])) ∧ Below W.heap.size W w' :=
  or_k [p, q] (by simp) P 2 W (fun i hi => by
    have hi : i < 2 := hi
    have : i = 0 ∨ i = 1 := by omega
    rcases this with rfl | rfl <;> simp [World.cell?, h])
def fromI (x y : J) : Int := orI [cmpI x.f y.f, cmpI x.s y.s]
set_option maxRecDepth 100000 in
set_option maxHeartbeats 40000000 in
theorem from_k (x y : J) (w : World) : Calls Tryd.prog 51 #[x.v, y.v] w fun e w' => e = .returned (.int .i64 (fromI x y)) ∧ Below w.heap.size w w' := by
  have hB0 : Below w.heap.size w ((w.alloc (.cells #[.int .i64 x.s, .int .i64 x.f, .int .i64 x.t, .int .i64 x.a, .int .i64 x.l] 38)).alloc (.cells #[.int .i64 y.s, .int .i64 y.f, .int .i64 y.t, .int .i64 y.a, .int .i64 y.l] 38)) := ((Below.refl _ w).alloc (Nat.le_refl _) _).alloc (by simp) _
  have hA := (Box5.new w x).below ((Below.refl (w.heap.size + 1) (w.alloc (.cells #[.int .i64 x.s, .int .i64 x.f, .int .i64 x.t, .int .i64 x.a, .int .i64 x.l] 38))).alloc (by simp) (.cells #[.int .i64 y.s, .int .i64 y.f, .int .i64 y.t, .int .i64 y.a, .int .i64 y.l] 38)) (Nat.lt_succ_self _)
  have hC := Box5.new (w.alloc (.cells #[.int .i64 x.s, .int .i64 x.f, .int .i64 x.t, .int .i64 x.a, .int .i64 x.l] 38)) y
  simp only [World.size_alloc] at hC
  unfold J.v fromI
  have h1 := cmp_k x.f y.f
  have h2 := cmp_k x.s y.s
  generalize cmpI x.s y.s = r at *
  generalize cmpI x.f y.f = q at *
  have h3 := or2_k q r
  generalize orI [q, r] = z at *
  go_enter Tryd.func51, Tryd.ntmps51
  go_wp2
  generalize hW0 : (w.alloc (.cells #[.int .i64 x.s, .int .i64 x.f, .int .i64 x.t, .int .i64 x.a, .int .i64 x.l] 38)).alloc (.cells #[.int .i64 y.s, .int .i64 y.f, .int .i64 y.t, .int .i64 y.a, .int .i64 y.l] 38) = W0 at *
  obtain ⟨C, hCi, hCo⟩ : ∃ C : World → Prop, (∀ W, C W → Box5 W w.heap.size x ∧ Box5 W (w.heap.size + 1) y ∧ Below w.heap.size w W) ∧ (∀ W, (Box5 W w.heap.size x ∧ Box5 W (w.heap.size + 1) y ∧ Below w.heap.size w W) → C W) := ⟨fun W => Box5 W w.heap.size x ∧ Box5 W (w.heap.size + 1) y ∧ Below w.heap.size w W, fun _ h => h, fun _ h => h⟩
  have hW1 : C W0.drew := hCo _ ⟨hA, hC, hB0.drew⟩
  haveI : Inhabited (AX.CW C) := ⟨⟨_, hW1⟩⟩
  have hc := fun p : AX.CW C => hCi _ p.h
  have a0 := fun p => (hc p).1.cs.1; have a1 := fun p => (hc p).1.cs.2.1
  have c0 := fun p => (hc p).2.1.cs.1; have c1 := fun p => (hc p).2.1.cs.2.1
  have HC := Lib.hid hCo
  have hBd := hB0.drew
  have k1 : Box5 W0.drew _ _ := hA
  have k2 : Box5 W0.drew _ _ := hC
  clear hCo hCi hc hA hC hB0 hW0
  refine AX.region_mixF (C := fun W => ∃ p : AX.CW C, W = p.W) row51_1 inf51_1 (by kernel_rfl) (by kernel_rfl) (by kernel_rfl) (by kernel_rfl) fit51_1 (by intro c a d v w h; cases d <;> exact h) ⟨⟨_, hW1⟩, rfl⟩ ?_
  unfold row51_1
  repeat (refine AX.mix_plain _ (by rfl) ?_; go_big_quiet_step (fail); refine wpQuiet_nil ?_)
  refine AX.mix_call2 (h1 _) (by rfl) (by rfl) (by rfl) Tryd.func49 (by kernel_rfl) (by rfl) (by simp only [List.map_toArray, List.map_cons, List.map_nil]; rfl) ?_
  rintro e _ ⟨rfl, rfl⟩
  refine ⟨_, rfl, ⟨⟨_, hW1⟩, rfl⟩, ?_⟩
  simp only [Act.put, List.setIfInBounds_toArray, List.set_cons_succ, List.set_cons_zero]
  refine AX.mix_call2 (h2 _) (by rfl) (by rfl) (by rfl) Tryd.func49 (by kernel_rfl) (by rfl) (by simp only [List.map_toArray, List.map_cons, List.map_nil]; rfl) ?_
  rintro e _ ⟨rfl, rfl⟩
  refine ⟨_, rfl, ⟨⟨_, hW1⟩, rfl⟩, ?_⟩
  simp only [Act.put, List.setIfInBounds_toArray, List.set_cons_succ, List.set_cons_zero]
  refine AX.mix_op _ (by rfl) (by rfl) ?_
  unfold Oper.wp
  go_simp
  have hnew : (W0.alloc (.cells #[.int .i64 q, .int .i64 r] 3)).drew.heap[W0.heap.size]? = some (.cells #[.int .i64 q, .int .i64 r] 3 (0, 0)) := World.alloc_heap_new W0 _
  have m1 : Box5 (W0.alloc (.cells #[.int .i64 q, .int .i64 r] 3)).drew w.heap.size x := (Below.heap_alloc W0 _ _ (show w.heap.size < W0.heap.size from k1.lt)).trans k1
  have m2 : Box5 (W0.alloc (.cells #[.int .i64 q, .int .i64 r] 3)).drew (w.heap.size + 1) y := (Below.heap_alloc W0 _ _ (show w.heap.size + 1 < W0.heap.size from k2.lt)).trans k2
  have m3 : Below w.heap.size w (W0.alloc (.cells #[.int .i64 q, .int .i64 r] 3)).drew := (hBd.alloc hBd.size (.cells #[.int .i64 q, .int .i64 r] 3))
  refine ⟨⟨⟨_, HC.out _ ⟨m1, m2, m3⟩⟩, rfl⟩, ?_⟩
  generalize (W0.alloc (.cells #[.int .i64 q, .int .i64 r] 3)).drew = W2 at *
  have hsz : W0.heap.size < W2.heap.size := (Array.getElem?_eq_some_iff.1 hnew).1
  refine AX.mix_call2 (h3 W2 _ hnew) (by rfl) (by rfl) (by rfl) Tryd.func48 (by kernel_rfl) (by rfl) (by simp only [List.map_toArray, List.map_cons, List.map_nil]; rfl) ?_
  rintro e W3 ⟨rfl, hB3⟩
  have n3 := m3.trans (hB3.mono m3.size)
  refine ⟨_, rfl, ⟨⟨_, HC.out _ ⟨m1.below hB3 m1.lt, m2.below hB3 m2.lt, n3⟩⟩, rfl⟩, ?_⟩
  simp only [Act.put, List.setIfInBounds_toArray, List.set_cons_succ, List.set_cons_zero]
  refine AX.mix_plain _ (by rfl) ?_
  go_big_quiet_step (fail)
  refine wpQuiet_nil ?_
  unfold AX.wpMix
  go_wp2
  go_ret
  exact ⟨rfl, n3⟩
end Go.Proofs.YtpplkjjfaibmmaaDoor
