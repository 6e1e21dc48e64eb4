/- Dirty: viewportref10.edit. -/
import Derived.Test.YtpplkjjfaibmmaaDoorD10
namespace Go.Proofs.YtpplkjjfaibmmaaDoor
open Go Go.Proofs Go.RowKit
attribute [local go_sem] Oper.semAt_some
set_option maxRecDepth 100000 in
set_option maxHeartbeats 40000000 in
theorem redit_k {a d i : Int} (ha : Rg a) (hd : Rg d) (hi : Rg i) (w : World) : Calls Tryd.prog 30 #[.agg #[.int .i64 a, .int .i64 d, .int .i64 i]] w fun e w' => e = .returned (.agg #[.int .i64 a, .int .i64 d, .int .i64 i]) ∧ Below w.heap.size w w' := by
  have h1 := rput_k ha
  have h2 := rput_k hd
  have h3 := rput_k hi
  have hB0 : Below w.heap.size w ((w.alloc (.cells #[.int .i64 a, .int .i64 d, .int .i64 i] 27)).alloc (.cells #[.int .i64 0, .int .i64 0, .int .i64 0] 27)) := ((Below.refl _ w).alloc (Nat.le_refl _) _).alloc (by simp) _
  have hA := (Box3.new w a d i).below ((Below.refl (w.heap.size + 1) (w.alloc (.cells #[.int .i64 a, .int .i64 d, .int .i64 i] 27))).alloc (by simp) (.cells #[.int .i64 0, .int .i64 0, .int .i64 0] 27)) (Nat.lt_succ_self _)
  have hR := Box3.new (w.alloc (.cells #[.int .i64 a, .int .i64 d, .int .i64 i] 27)) 0 0 0
  simp only [World.size_alloc] at hR
  go_enter Tryd.func30, Tryd.ntmps30
  go_wp2
  generalize (w.alloc (.cells #[.int .i64 a, .int .i64 d, .int .i64 i] 27)).alloc (.cells #[.int .i64 0, .int .i64 0, .int .i64 0] 27) = W0 at *
  obtain ⟨a0, a1, a2⟩ := hA.at
  obtain ⟨r0, r1, r2⟩ := hR.at
  have fr0 := hR.frozen 0; have fr1 := hR.frozen 1; have fr2 := hR.frozen 2
  clear hA
  go_region_with (first | (go_at_call 52; refine (h1 _).mono ?_; rintro e _ ⟨rfl, rfl⟩) | (go_at_call 52; refine (h2 _).mono ?_; rintro e _ ⟨rfl, rfl⟩) | (go_at_call 52; refine (h3 _).mono ?_; rintro e _ ⟨rfl, rfl⟩))
  all_goals go_wp2
  all_goals
    have q := hR.set a d i
    have qB := (((hB0.setCell (p := ⟨w.heap.size + 1, 0, none⟩) (by simp) (.int .i64 a)).setCell (p := ⟨w.heap.size + 1, 1, none⟩) (by simp) (.int .i64 d)).setCell (p := ⟨w.heap.size + 1, 2, none⟩) (by simp) (.int .i64 i)).drew
    generalize ((W0.setCell ⟨w.heap.size + 1, 0, none⟩ (.int .i64 a)).setCell ⟨w.heap.size + 1, 1, none⟩ (.int .i64 d)).setCell ⟨w.heap.size + 1, 2, none⟩ (.int .i64 i) = W6 at *
    obtain ⟨q0, q1, q2⟩ := q.at
    exact bodyPost_ret (v := .agg #[.int .i64 a, .int .i64 d, .int .i64 i]) (by simp [results, Tryd.results30, go_sem, q0, q1, q2]) rfl ⟨rfl, qB⟩
end Go.Proofs.YtpplkjjfaibmmaaDoor
