/- Dirty: viewportref10.Join. -/
import Derived.Test.YtpplkjjfaibmmaaDoorD10
import Derived.Test.YtpplkjjfaibmmaaDoorRg6
import Derived.Test.YtpplkjjfaibmmaaDoorSt4
import Derived.Test.YtpplkjjfaibmmaaDoorK2
namespace Go.Proofs.YtpplkjjfaibmmaaDoor
open Go Go.Proofs Go.RowKit
attribute [local go_sem] Oper.semAt_some
def row11_1 : List (Nat × Bool) := [(0, false), (2, false), (1, true), (3, true), (4, true), (5, true)]
def inf11_1 : List AX.Inf := [⟨0, 32, 4, true⟩, ⟨1, 64, 32, false⟩, ⟨0, 128, 8, true⟩, ⟨6, 256, 128, false⟩, ⟨11, 0, 68, false⟩, ⟨31, 0, 264, false⟩]
theorem fit11_1 : AX.mixF inf11_1 row11_1 0 = true := by kernel_rfl
theorem sz33' : AX.sizeT Tryd.prog 33 = some 2 := by kernel_rfl
set_option maxRecDepth 100000 in
set_option maxHeartbeats 4000000 in
theorem rjoin_k {f t g u : Int} (hf : Rg f) (ht : Rg t) (hg : Rg g) (hu : Rg u) (w : World) :
    Calls Tryd.prog 11 #[.agg #[.int .i64 f, .int .i64 t], .agg #[.int .i64 g, .int .i64 u]] w fun e w' => e = .returned (.agg #[.int .i64 (min f g), .int .i64 (max t u)]) ∧ Below w.heap.size w w' := by
  have h1 := rspan_k hf ht
  have h2 := rspan_k hg hu
  have hB0 : Below w.heap.size w (((w.alloc (.cells #[.int .i64 f, .int .i64 t] 33)).alloc (.cells #[.int .i64 g, .int .i64 u] 33)).alloc (.cells #[.int .i64 0, .int .i64 0] 33)) := (((Below.refl _ w).alloc (Nat.le_refl _) _).alloc (by simp) _).alloc (by simp <;> omega) _
  have hA := (Box2.new w f t).below (((Below.refl (w.heap.size + 1) (w.alloc (.cells #[.int .i64 f, .int .i64 t] 33))).alloc (by simp) (.cells #[.int .i64 g, .int .i64 u] 33)).alloc (by simp <;> omega) (.cells #[.int .i64 0, .int .i64 0] 33)) (Nat.lt_succ_self _)
  have hC := (Box2.new (w.alloc (.cells #[.int .i64 f, .int .i64 t] 33)) g u).below ((Below.refl (w.heap.size + 1 + 1) ((w.alloc (.cells #[.int .i64 f, .int .i64 t] 33)).alloc (.cells #[.int .i64 g, .int .i64 u] 33))).alloc (by simp) (.cells #[.int .i64 0, .int .i64 0] 33)) (by simp)
  have hR := Box2.new ((w.alloc (.cells #[.int .i64 f, .int .i64 t] 33)).alloc (.cells #[.int .i64 g, .int .i64 u] 33)) 0 0
  simp only [World.size_alloc] at hC hR
  clear hf ht hg hu
  go_enter Tryd.func11, Tryd.ntmps11
  go_wp2
  generalize ((w.alloc (.cells #[.int .i64 f, .int .i64 t] 33)).alloc (.cells #[.int .i64 g, .int .i64 u] 33)).alloc (.cells #[.int .i64 0, .int .i64 0] 33) = W0 at *
  obtain ⟨C, hCi, hCo⟩ : ∃ C : World → Prop, (∀ W, C W → Box2 W w.heap.size f t ∧ Box2 W (w.heap.size + 1) g u ∧ Box2 W (w.heap.size + 1 + 1) 0 0 ∧ Below w.heap.size w W) ∧ (∀ W, (Box2 W w.heap.size f t ∧ Box2 W (w.heap.size + 1) g u ∧ Box2 W (w.heap.size + 1 + 1) 0 0 ∧ Below w.heap.size w W) → C W) := ⟨fun W => Box2 W w.heap.size f t ∧ Box2 W (w.heap.size + 1) g u ∧ Box2 W (w.heap.size + 1 + 1) 0 0 ∧ Below w.heap.size w W, fun _ h => h, fun _ h => h⟩
  have hW0 : C W0.drew := hCo _ ⟨hA, hC, hR, hB0.drew⟩
  haveI : Inhabited (AX.CW C) := ⟨⟨_, hW0⟩⟩
  have a0 := fun p : AX.CW C => (hCi _ p.h).1.at.1; have a1 := fun p : AX.CW C => (hCi _ p.h).1.at.2
  have c0 := fun p : AX.CW C => (hCi _ p.h).2.1.at.1; have c1 := fun p : AX.CW C => (hCi _ p.h).2.1.at.2
  have HC := Lib.hid hCo
  have HI := Lib.hid hCi
  clear hCo hCi hA hC hR hB0
  refine AX.region_mixF (C := fun W => ∃ p : AX.CW C, W = p.W) row11_1 inf11_1 (by kernel_rfl) (by kernel_rfl) (by kernel_rfl) (by kernel_rfl) fit11_1 (by intro c a d v w h; cases d <;> exact h) ⟨⟨_, hW0⟩, rfl⟩ ?_
  unfold row11_1
  repeat (refine AX.mix_plain _ (by rfl) ?_; go_big_quiet_step (fail); refine wpQuiet_nil ?_)
  have keep : ∀ W W', C W → Below W.heap.size W W' → C W' := fun W W' h hb => by
    obtain ⟨g1, g2, g3, g4⟩ := HI.out _ h
    exact HC.out _ ⟨g1.below hb g1.lt, g2.below hb g2.lt, g3.below hb g3.lt, g4.trans (hb.mono g4.size)⟩
  refine AX.mix_call2 (h1 _) (by rfl) (by rfl) (by rfl) Tryd.func33 (by kernel_rfl) (by rfl) (by simp only [List.map_toArray, List.map_cons, List.map_nil]; rfl) ?_
  rintro e W1 ⟨rfl, hb1⟩
  have hW1 := keep _ _ hW0 hb1
  refine ⟨_, rfl, ⟨⟨_, hW1⟩, rfl⟩, ?_⟩
  simp only [Act.put, List.setIfInBounds_toArray, List.set_cons_succ, List.set_cons_zero]
  refine AX.mix_call2 (h2 _) (by rfl) (by rfl) (by rfl) Tryd.func33 (by kernel_rfl) (by rfl) (by simp only [List.map_toArray, List.map_cons, List.map_nil]; rfl) ?_
  rintro e W2 ⟨rfl, hb2⟩
  have hW2 := keep _ _ hW1 hb2
  refine ⟨_, rfl, ⟨⟨_, hW2⟩, rfl⟩, ?_⟩
  simp only [Act.put, List.setIfInBounds_toArray, List.set_cons_succ, List.set_cons_zero]
  obtain ⟨g1, g2, g3, g4⟩ := HI.out _ hW2
  refine AX.mix_op _ (by rfl) (by rfl) ?_
  refine AX.oper_storeBox (vs := [.int .i64 f, .int .i64 t]) rfl rfl sz33' g1 rfl rfl ?_
  rintro W3 h3 h4 h5
  have k1 : Box2 W3 w.heap.size f t := h3
  have k4 := g4.trans (AX.below_turn (n := w.heap.size) (Nat.le_refl _) (.inl k1.lt) h4 h5)
  have k2 : Box2 W3 (w.heap.size + 1) g u := (h4 _ (by omega)).trans g2
  have k3 : Box2 W3 (w.heap.size + 1 + 1) 0 0 := (h4 _ (by omega)).trans g3
  refine ⟨⟨⟨_, HC.out _ ⟨k1, k2, k3, k4⟩⟩, rfl⟩, ?_⟩
  clear h3 h4 h5
  refine AX.mix_op _ (by rfl) (by rfl) ?_
  refine AX.oper_storeBox (vs := [.int .i64 g, .int .i64 u]) rfl rfl sz33' k2 rfl rfl ?_
  rintro W4 h3 h4 h5
  have m2 : Box2 W4 (w.heap.size + 1) g u := h3
  have m4 := k4.trans (AX.below_turn (n := w.heap.size) (Nat.le_succ _) (.inl m2.lt) h4 h5)
  have m1 : Box2 W4 w.heap.size f t := (h4 _ (by omega)).trans k1
  have m3 : Box2 W4 (w.heap.size + 1 + 1) 0 0 := (h4 _ (by omega)).trans k3
  refine ⟨⟨⟨_, HC.out _ ⟨m1, m2, m3, m4⟩⟩, rfl⟩, ?_⟩
  unfold AX.wpMix
  clear h3 h4 h5 hW0 hW1 hW2 a0 a1 c0 c1 keep HC HI g1 g2 g3 g4 k1 k2 k3 k4 hb1 hb2 h1 h2
  obtain ⟨p0, p1⟩ := m1.at
  obtain ⟨q0, q1⟩ := m2.at
  go_wp2_with ((with_reducible refine st_id ?_); refine AX.wpList_storeBox (vs := [_, _]) rfl rfl sz33' m3 rfl rfl ?_; rintro W5 h3 h4 h5)
  all_goals
    have hb5 := m4.trans (AX.below_turn (n := w.heap.size) (by omega) (.inl (Array.getElem?_eq_some_iff.1 h3).1) h4 h5)
    have e1 : (if g < f then g else f) = min f g := by split <;> omega
    have e2 : (if t < u then u else t) = max t u := by split <;> omega
    have hF : Box2 W5 (w.heap.size + 1 + 1) (min f g) (max t u) := by rw [← e1, ← e2]; exact h3
    clear h3 e1 e2
    obtain ⟨r0, r1⟩ := hF.at
    exact bodyPost_ret (v := .agg #[.int .i64 (min f g), .int .i64 (max t u)]) (by simp [results, Tryd.results11, go_sem, r0, r1]) rfl ⟨rfl, hb5⟩
end Go.Proofs.YtpplkjjfaibmmaaDoor
