/- Dirty: viewportref10.put, span, edit. -/
import Derived.Test.YtpplkjjfaibmmaaDoorD9
namespace Go.Proofs.YtpplkjjfaibmmaaDoor
open Go Go.Proofs Go.RowKit
attribute [local go_sem] Oper.semAt_some
theorem rput_k {n : Int} (hn : Rg n) (w : World) : Calls Tryd.prog 52 #[.int .i64 n] w fun e w' => e = .returned (.int .i64 n) ∧ w' = w := by
  unfold Rg at hn
  go_enter Tryd.func52, Tryd.ntmps52
  go_wp2
  all_goals first
    | exact bodyPost_ret (v := .int .i64 n) (by simp [results, Tryd.results52, go_sem] <;> omega) rfl ⟨rfl, rfl⟩
    | (exfalso; omega)
set_option maxRecDepth 100000 in
set_option maxHeartbeats 4000000 in
theorem rspan_k {f t : Int} (hf : Rg f) (ht : Rg t) (w : World) : Calls Tryd.prog 33 #[.agg #[.int .i64 f, .int .i64 t]] w fun e w' => e = .returned (.agg #[.int .i64 f, .int .i64 t]) ∧ Below w.heap.size w w' := by
  have h1 := rput_k hf
  have h2 := rput_k ht
  have hB0 : Below w.heap.size w ((w.alloc (.cells #[.int .i64 f, .int .i64 t] 33)).alloc (.cells #[.int .i64 0, .int .i64 0] 33)) := ((Below.refl _ w).alloc (Nat.le_refl _) _).alloc (by simp) _
  have hA := (Box2.new w f t).below ((Below.refl (w.heap.size + 1) (w.alloc (.cells #[.int .i64 f, .int .i64 t] 33))).alloc (by simp) (.cells #[.int .i64 0, .int .i64 0] 33)) (Nat.lt_succ_self _)
  have hR := Box2.new (w.alloc (.cells #[.int .i64 f, .int .i64 t] 33)) 0 0
  simp only [World.size_alloc] at hR
  go_enter Tryd.func33, Tryd.ntmps33
  go_wp2
  generalize (w.alloc (.cells #[.int .i64 f, .int .i64 t] 33)).alloc (.cells #[.int .i64 0, .int .i64 0] 33) = W0 at *
  obtain ⟨a0, a1⟩ := hA.at
  obtain ⟨r0, r1⟩ := hR.at
  have fr0 := hR.frozen 0; have fr1 := hR.frozen 1
  go_region_with (first | (go_at_call 52; refine (h1 _).mono ?_; rintro e _ ⟨rfl, rfl⟩) | (go_at_call 52; refine (h2 _).mono ?_; rintro e _ ⟨rfl, rfl⟩))
  all_goals go_wp2
  all_goals
    have q := hR.set f t
    have qB := ((hB0.setCell (p := ⟨w.heap.size + 1, 0, none⟩) (by simp) (.int .i64 f)).setCell (p := ⟨w.heap.size + 1, 1, none⟩) (by simp) (.int .i64 t)).drew
    generalize (W0.setCell ⟨w.heap.size + 1, 0, none⟩ (.int .i64 f)).setCell ⟨w.heap.size + 1, 1, none⟩ (.int .i64 t) = W6 at *
    obtain ⟨q0, q1⟩ := q.at
    exact bodyPost_ret (v := .agg #[.int .i64 f, .int .i64 t]) (by simp [results, Tryd.results33, go_sem, q0, q1]) rfl ⟨rfl, qB⟩
end Go.Proofs.YtpplkjjfaibmmaaDoor
