/- Dirty: joined. -/
import Derived.Test.YtpplkjjfaibmmaaDoorE1
import Derived.Test.YtpplkjjfaibmmaaDoorE6
import Derived.Test.YtpplkjjfaibmmaaDoorD2
import Derived.Test.YtpplkjjfaibmmaaDoorRg6
namespace Go.Proofs.YtpplkjjfaibmmaaDoor
open Go Go.Proofs Go.RowKit
attribute [local go_sem] Oper.semAt_some
def mayV (cv a d i room : Int) (n : Nat) : Bool := decide (cv = 0 ∧ 0 ≤ a ∧ 0 ≤ d ∧ 0 ≤ i ∧ 1 ≤ room ∧ room ≤ 32 ∧ (n : Int) ≤ room)
set_option maxHeartbeats 4000000 in
theorem may_k (l : List J) (hl : l.length ≤ 1000000) (la : Option Addr) (c : Nat) (a d i room : Int) (w : World)
    (hL : l ≠ [] → ∃ B off, la = some ⟨B, off, none⟩ ∧ B < w.heap.size ∧ JRow w B off l) :
    Calls Tryd.prog 21 #[.slice la l.length c, .agg #[.int .i64 a, .int .i64 d, .int .i64 i], .int .i64 room] w fun e w' => e = .returned (.bool (mayV (checkV l) a d i room l.length)) ∧ Below w.heap.size w w' := by
  have hB0 : Below w.heap.size w (w.alloc (.cells #[.int .i64 a, .int .i64 d, .int .i64 i] 27)) := (Below.refl _ w).alloc (Nat.le_refl _) _
  have hE := Box3.new w a d i
  have h14 := check_k l hl la c (w.alloc (.cells #[.int .i64 a, .int .i64 d, .int .i64 i] 27)) (fun h => by
    obtain ⟨B, off, e1, e2, e3⟩ := hL h
    exact ⟨B, off, e1, Nat.lt_of_lt_of_le e2 hB0.size, e3.below hB0 e2⟩)
  clear hL
  generalize checkV l = cv at *
  go_enter Tryd.func21, Tryd.ntmps21
  generalize hW0 : w.alloc (.cells #[.int .i64 a, .int .i64 d, .int .i64 i] 27) = W0 at *
  have hle := hE.lt
  have hs0 := hB0.size
  go_wp2_with (go_at_call 14; refine h14.mono ?_; rintro e W1 ⟨rfl, hBd⟩; have hE1 := hE.below hBd hle; have hB1 := hB0.trans (hBd.mono hs0); obtain ⟨b0, b1, b2⟩ := hE1.at)
  all_goals first
    | (have e : mayV cv a d i room l.length = decide ((l.length : Int) ≤ room) := (by unfold mayV; rw [decide_eq_decide]; omega); exact bodyPost_ret (v := .bool (mayV cv a d i room l.length)) (by simp [results, Tryd.results21, go_sem, e]) rfl ⟨rfl, hB1⟩)
    | (have e : mayV cv a d i room l.length = false := (by unfold mayV; rw [decide_eq_false_iff_not]; omega); exact bodyPost_ret (v := .bool (mayV cv a d i room l.length)) (by simp [results, Tryd.results21, go_sem, e]) rfl ⟨rfl, hB1⟩)
    | (have e : mayV 0 a d i room l.length = decide ((l.length : Int) ≤ room) := (by unfold mayV; rw [decide_eq_decide]; omega); exact bodyPost_ret (v := .bool (mayV 0 a d i room l.length)) (by simp [results, Tryd.results21, go_sem, e]) rfl ⟨rfl, hB1⟩)
    | (have e : mayV 0 a d i room l.length = false := (by unfold mayV; rw [decide_eq_false_iff_not]; omega); exact bodyPost_ret (v := .bool (mayV 0 a d i room l.length)) (by simp [results, Tryd.results21, go_sem, e]) rfl ⟨rfl, hB1⟩)
end Go.Proofs.YtpplkjjfaibmmaaDoor

namespace Go.Proofs.YtpplkjjfaibmmaaDoor
open Go Go.Proofs Go.RowKit
attribute [local go_sem] Oper.semAt_some
def row29_1 : List (Nat × Bool) := [(0, false), (1, false), (2, false), (3, false), (4, false), (5, false), (6, false), (7, false), (8, false), (10, false), (11, false), (12, false), (13, false), (14, false), (9, true), (15, false), (16, true)]
def inf29_1 : List AX.Inf := [⟨0, 32, 4, true⟩, ⟨1, 64, 32, true⟩, ⟨0, 128, 8, true⟩, ⟨4, 256, 128, true⟩, ⟨10, 512, 320, true⟩, ⟨0, 1024, 4, true⟩, ⟨32, 2048, 1024, true⟩, ⟨0, 4096, 8, true⟩, ⟨128, 8192, 4096, true⟩, ⟨320, 16384, 10240, false⟩, ⟨0, 32768, 4, true⟩, ⟨1024, 65536, 32768, true⟩, ⟨0, 131072, 8, true⟩, ⟨4096, 262144, 131072, true⟩, ⟨10240, 524288, 327680, true⟩, ⟨16912, 1048576, 541184, true⟩, ⟨65535, 0, 1048592, false⟩]
theorem fit29_1 : AX.mixF inf29_1 row29_1 0 = true := by kernel_rfl
def joinJ (x y : J) : J := ⟨min x.s y.s, min x.f y.f, max x.t y.t, max x.a y.a, 0⟩
def RgJ (x : J) : Prop := Rg x.f ∧ Rg x.t
set_option maxRecDepth 100000 in
set_option maxHeartbeats 40000000 in
theorem joined_k {x y : J} (hx : RgJ x) (hy : RgJ y) (w : World) :
    Calls Tryd.prog 29 #[x.v, y.v] w fun e w' => e = .returned (joinJ x y).v ∧ Below w.heap.size w w' := by
  have h26 := join_k hx.1 hx.2 hy.1 hy.2
  have hB0 : Below w.heap.size w (((w.alloc (.cells #[.int .i64 x.s, .int .i64 x.f, .int .i64 x.t, .int .i64 x.a, .int .i64 x.l] 38)).alloc (.cells #[.int .i64 y.s, .int .i64 y.f, .int .i64 y.t, .int .i64 y.a, .int .i64 y.l] 38)).alloc (.cells #[.int .i64 0, .int .i64 0, .int .i64 0, .int .i64 0, .int .i64 0] 38)) := (((Below.refl _ w).alloc (Nat.le_refl _) _).alloc (by simp) _).alloc (by simp <;> omega) _
  have hA := (Box5.new w x).below (((Below.refl (w.heap.size + 1) (w.alloc (.cells #[.int .i64 x.s, .int .i64 x.f, .int .i64 x.t, .int .i64 x.a, .int .i64 x.l] 38))).alloc (by simp) (.cells #[.int .i64 y.s, .int .i64 y.f, .int .i64 y.t, .int .i64 y.a, .int .i64 y.l] 38)).alloc (by simp <;> omega) (.cells #[.int .i64 0, .int .i64 0, .int .i64 0, .int .i64 0, .int .i64 0] 38)) (Nat.lt_succ_self _)
  have hC := (Box5.new (w.alloc (.cells #[.int .i64 x.s, .int .i64 x.f, .int .i64 x.t, .int .i64 x.a, .int .i64 x.l] 38)) y).below ((Below.refl (w.heap.size + 1 + 1) ((w.alloc (.cells #[.int .i64 x.s, .int .i64 x.f, .int .i64 x.t, .int .i64 x.a, .int .i64 x.l] 38)).alloc (.cells #[.int .i64 y.s, .int .i64 y.f, .int .i64 y.t, .int .i64 y.a, .int .i64 y.l] 38))).alloc (by simp) (.cells #[.int .i64 0, .int .i64 0, .int .i64 0, .int .i64 0, .int .i64 0] 38)) (by simp)
  have hR := Box5.new ((w.alloc (.cells #[.int .i64 x.s, .int .i64 x.f, .int .i64 x.t, .int .i64 x.a, .int .i64 x.l] 38)).alloc (.cells #[.int .i64 y.s, .int .i64 y.f, .int .i64 y.t, .int .i64 y.a, .int .i64 y.l] 38)) J.z
  simp only [World.size_alloc, J.z] at hC hR
  unfold J.v joinJ
  dsimp only
  clear hx hy
  obtain ⟨xs, xf, xt, xa, xl⟩ := x
  obtain ⟨ys, yf, yt, ya, yl⟩ := y
  dsimp only at *
  go_enter Tryd.func29, Tryd.ntmps29
  go_wp2
  generalize ((w.alloc (.cells #[.int .i64 xs, .int .i64 xf, .int .i64 xt, .int .i64 xa, .int .i64 xl] 38)).alloc (.cells #[.int .i64 ys, .int .i64 yf, .int .i64 yt, .int .i64 ya, .int .i64 yl] 38)).alloc (.cells #[.int .i64 0, .int .i64 0, .int .i64 0, .int .i64 0, .int .i64 0] 38) = W0 at *
  obtain ⟨C, hCi, hCo⟩ : ∃ C : World → Prop, (∀ W, C W → Box5 W w.heap.size ⟨xs, xf, xt, xa, xl⟩ ∧ Box5 W (w.heap.size + 1) ⟨ys, yf, yt, ya, yl⟩ ∧ (∃ u, Box5 W (w.heap.size + 1 + 1) u) ∧ Below w.heap.size w W) ∧ (∀ W, (Box5 W w.heap.size ⟨xs, xf, xt, xa, xl⟩ ∧ Box5 W (w.heap.size + 1) ⟨ys, yf, yt, ya, yl⟩ ∧ (∃ u, Box5 W (w.heap.size + 1 + 1) u) ∧ Below w.heap.size w W) → C W) := ⟨fun W => Box5 W w.heap.size ⟨xs, xf, xt, xa, xl⟩ ∧ Box5 W (w.heap.size + 1) ⟨ys, yf, yt, ya, yl⟩ ∧ (∃ u, Box5 W (w.heap.size + 1 + 1) u) ∧ Below w.heap.size w W, fun _ h => h, fun _ h => h⟩
  have hW0 : C W0.drew := hCo _ ⟨hA, hC, ⟨_, hR⟩, hB0.drew⟩
  haveI : Inhabited (AX.CW C) := ⟨⟨_, hW0⟩⟩
  have hc := fun p : AX.CW C => hCi _ p.h
  have a0 := fun p => (hc p).1.cs.1; have a1 := fun p => (hc p).1.cs.2.1; have a2 := fun p => (hc p).1.cs.2.2.1; have a3 := fun p => (hc p).1.cs.2.2.2.1; have a4 := fun p => (hc p).1.cs.2.2.2.2
  have c0 := fun p => (hc p).2.1.cs.1; have c1 := fun p => (hc p).2.1.cs.2.1; have c2 := fun p => (hc p).2.1.cs.2.2.1; have c3 := fun p => (hc p).2.1.cs.2.2.2.1; have c4 := fun p => (hc p).2.1.cs.2.2.2.2
  dsimp only at a0 a1 a2 a3 a4 c0 c1 c2 c3 c4
  have HC := Lib.hid hCo
  have Hc := Lib.hid hc
  clear hCo hCi hc hA hC hR hB0
  refine AX.region_mixF (C := fun W => ∃ p : AX.CW C, W = p.W) row29_1 inf29_1 (by kernel_rfl) (by kernel_rfl) (by kernel_rfl) (by kernel_rfl) fit29_1 (by intro c a d v w h; cases d <;> exact h) ⟨⟨_, hW0⟩, rfl⟩ ?_
  unfold row29_1
  repeat (refine AX.mix_plain _ (by rfl) ?_; go_big_quiet_step (fail); refine wpQuiet_nil ?_)
  refine AX.mix_call2 (h26 _) (by rfl) (by rfl) (by rfl) Tryd.func26 (by kernel_rfl) (by rfl) (by simp only [List.map_toArray, List.map_cons, List.map_nil]; rfl) ?_
  rintro e W1 ⟨rfl, hBd⟩
  have h0 := Hc.out ⟨_, hW0⟩
  obtain ⟨g1, g2, ⟨u, g3⟩, g4⟩ := h0
  have k1 := g1.below hBd g1.lt
  have k2 := g2.below hBd g2.lt
  have k3 := g3.below hBd g3.lt
  have k4 := g4.trans (hBd.mono g4.size)
  have hW1 : C W1 := HC.out _ ⟨k1, k2, ⟨u, k3⟩, k4⟩
  refine ⟨_, rfl, ⟨⟨_, hW1⟩, rfl⟩, ?_⟩
  simp only [Act.put, List.setIfInBounds_toArray, List.set_cons_succ, List.set_cons_zero]
  repeat (refine AX.mix_plain _ (by rfl) ?_; go_big_quiet_step (fail); refine wpQuiet_nil ?_)
  refine AX.mix_op _ (by rfl) (by rfl) ?_
  obtain ⟨r0, r1, r2, r3, r4⟩ := k3.cs
  have fr0 := k3.frozen 0; have fr1 := k3.frozen 1; have fr2 := k3.frozen 2; have fr3 := k3.frozen 3; have fr4 := k3.frozen 4
  have hF := k3.set ⟨if ys < xs then ys else xs, min xf yf, max xt yt, if xa < ya then ya else xa, 0⟩
  have hBF := ((((k4.setCell (p := ⟨w.heap.size + 1 + 1, 0, none⟩) (by simp; omega) (.int .i64 (if ys < xs then ys else xs))).setCell (p := ⟨w.heap.size + 1 + 1, 1, none⟩) (by simp; omega) (.int .i64 (min xf yf))).setCell (p := ⟨w.heap.size + 1 + 1, 2, none⟩) (by simp; omega) (.int .i64 (max xt yt))).setCell (p := ⟨w.heap.size + 1 + 1, 3, none⟩) (by simp; omega) (.int .i64 (if xa < ya then ya else xa))).setCell (p := ⟨w.heap.size + 1 + 1, 4, none⟩) (by simp; omega) (.int .i64 0)
  have q1 := ((((k1.other (B' := w.heap.size + 1 + 1) (i := 0) (v := .int .i64 (if ys < xs then ys else xs)) (by omega)).other (B' := w.heap.size + 1 + 1) (i := 1) (v := .int .i64 (min xf yf)) (by omega)).other (B' := w.heap.size + 1 + 1) (i := 2) (v := .int .i64 (max xt yt)) (by omega)).other (B' := w.heap.size + 1 + 1) (i := 3) (v := .int .i64 (if xa < ya then ya else xa)) (by omega)).other (B' := w.heap.size + 1 + 1) (i := 4) (v := .int .i64 0) (by omega)
  have q2 := ((((k2.other (B' := w.heap.size + 1 + 1) (i := 0) (v := .int .i64 (if ys < xs then ys else xs)) (by omega)).other (B' := w.heap.size + 1 + 1) (i := 1) (v := .int .i64 (min xf yf)) (by omega)).other (B' := w.heap.size + 1 + 1) (i := 2) (v := .int .i64 (max xt yt)) (by omega)).other (B' := w.heap.size + 1 + 1) (i := 3) (v := .int .i64 (if xa < ya then ya else xa)) (by omega)).other (B' := w.heap.size + 1 + 1) (i := 4) (v := .int .i64 0) (by omega)
  unfold Oper.wp
  go_simp
  simp only [] at hF hBF q1 q2
  refine ⟨⟨⟨_, HC.out _ ⟨q1, q2, ⟨_, hF⟩, hBF⟩⟩, rfl⟩, ?_⟩
  unfold AX.wpMix
  clear q1 q2 r0 r1 r2 r3 r4 fr0 fr1 fr2 fr3 fr4
  generalize ((((W1.setCell ⟨w.heap.size + 1 + 1, 0, none⟩ (.int .i64 (if ys < xs then ys else xs))).setCell ⟨w.heap.size + 1 + 1, 1, none⟩ (.int .i64 (min xf yf))).setCell ⟨w.heap.size + 1 + 1, 2, none⟩ (.int .i64 (max xt yt))).setCell ⟨w.heap.size + 1 + 1, 3, none⟩ (.int .i64 (if xa < ya then ya else xa))).setCell ⟨w.heap.size + 1 + 1, 4, none⟩ (.int .i64 0) = Wf at *
  obtain ⟨d0, d1, d2, d3, d4⟩ := hF.cs
  dsimp only at d0 d1 d2 d3 d4
  have E1 : (if ys < xs then ys else xs) = min xs ys := by split <;> omega
  have E2 : (if xa < ya then ya else xa) = max xa ya := by split <;> omega
  rw [E1] at d0
  rw [E2] at d3
  go_wp2
  exact bodyPost_ret (v := .agg #[.int .i64 (min xs ys), .int .i64 (min xf yf), .int .i64 (max xt yt), .int .i64 (max xa ya), .int .i64 0]) (by simp [results, Tryd.results29, go_sem, d0, d1, d2, d3, d4]) rfl ⟨rfl, hBF⟩
end Go.Proofs.YtpplkjjfaibmmaaDoor
