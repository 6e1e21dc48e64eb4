/- Dirty: shift.Join, shift.Touch. -/
import Derived.Test.YtpplkjjfaibmmaaDoorN1
namespace Go.Proofs.YtpplkjjfaibmmaaDoor
open Go Go.Proofs Go.RowKit
attribute [local go_sem] Oper.semAt_some

set_option maxRecDepth 100000 in
set_option maxHeartbeats 4000000 in
theorem join_k {f t g u : Int} (hf : Rg f) (ht : Rg t) (hg : Rg g) (hu : Rg u) (w : World) :
    Calls Tryd.prog 26 #[.agg #[.int .i64 f, .int .i64 t], .agg #[.int .i64 g, .int .i64 u]] w fun e w' => e = .returned (.agg #[.int .i64 (min f g), .int .i64 (max t u)]) ∧ Below w.heap.size w w' := by
  have h1 := span_k hf ht
  have h2 := span_k hg hu
  have hB0 : Below w.heap.size w (((w.alloc (.cells #[.int .i64 f, .int .i64 t] 33)).alloc (.cells #[.int .i64 g, .int .i64 u] 33)).alloc (.cells #[.int .i64 0, .int .i64 0] 33)) := (((Below.refl _ w).alloc (Nat.le_refl _) _).alloc (by simp) _).alloc (by simp <;> omega) _
  go_enter Tryd.func26, Tryd.ntmps26
  go_wp2
  have hA := (Box2.new w f t).below (((Below.refl (w.heap.size + 1) (w.alloc (.cells #[.int .i64 f, .int .i64 t] 33))).alloc (by simp) (.cells #[.int .i64 g, .int .i64 u] 33)).alloc (by simp <;> omega) (.cells #[.int .i64 0, .int .i64 0] 33)) (Nat.lt_succ_self _)
  have hBx := (Box2.new (w.alloc (.cells #[.int .i64 f, .int .i64 t] 33)) g u).below ((Below.refl (w.heap.size + 1 + 1) ((w.alloc (.cells #[.int .i64 f, .int .i64 t] 33)).alloc (.cells #[.int .i64 g, .int .i64 u] 33))).alloc (by simp) (.cells #[.int .i64 0, .int .i64 0] 33)) (by simp)
  have hR := Box2.new ((w.alloc (.cells #[.int .i64 f, .int .i64 t] 33)).alloc (.cells #[.int .i64 g, .int .i64 u] 33)) 0 0
  simp only [World.size_alloc] at hBx hR
  generalize ((w.alloc (.cells #[.int .i64 f, .int .i64 t] 33)).alloc (.cells #[.int .i64 g, .int .i64 u] 33)).alloc (.cells #[.int .i64 0, .int .i64 0] 33) = W0 at *
  obtain ⟨a0, a1⟩ := hA.at
  obtain ⟨b0, b1⟩ := hBx.at
  have fa0 := hA.frozen 0; have fa1 := hA.frozen 1; have fb0 := hBx.frozen 0; have fb1 := hBx.frozen 1
  have hla := hA.lt
  have hlb := hBx.lt
  have hs0 := hB0.size
  go_region_with (first | (go_at_call 43; refine (h1 _).mono ?_; rintro e Wd ⟨rfl, hBd⟩; have hs1 := hB0.size; have hA : Box2 Wd _ f t := (hBd.block _ hA.lt).trans hA; have hBx : Box2 Wd _ g u := (hBd.block _ hBx.lt).trans hBx; have hR : Box2 Wd _ 0 0 := (hBd.block _ hR.lt).trans hR; have hB0 : Below w.heap.size w Wd := hB0.trans (hBd.mono hs1); obtain ⟨a0, a1⟩ := hA.at; obtain ⟨b0, b1⟩ := hBx.at; have fa0 := hA.frozen 0; have fa1 := hA.frozen 1; have fb0 := hBx.frozen 0; have fb1 := hBx.frozen 1) | (go_at_call 43; refine (h1 _).mono ?_; rintro e Wd ⟨rfl, hBd⟩; have hs1 := hB0.size; have hA : Box2 Wd _ f t := (hBd.block _ hA.lt).trans hA; have hBx : Box2 Wd _ g u := (hBd.block _ hBx.lt).trans hBx; have hR : Box2 Wd _ 0 0 := (hBd.block _ hR.lt).trans hR; have hB0 : Below w.heap.size w Wd := hB0.drew.trans (hBd.mono hs1); obtain ⟨a0, a1⟩ := hA.at; obtain ⟨b0, b1⟩ := hBx.at; have fa0 := hA.frozen 0; have fa1 := hA.frozen 1; have fb0 := hBx.frozen 0; have fb1 := hBx.frozen 1) | (go_at_call 43; refine (h2 _).mono ?_; rintro e Wd ⟨rfl, hBd⟩; have hs1 := hB0.size; have hA : Box2 Wd _ f t := (hBd.block _ hA.lt).trans hA; have hBx : Box2 Wd _ g u := (hBd.block _ hBx.lt).trans hBx; have hR : Box2 Wd _ 0 0 := (hBd.block _ hR.lt).trans hR; have hB0 : Below w.heap.size w Wd := hB0.trans (hBd.mono hs1); obtain ⟨a0, a1⟩ := hA.at; obtain ⟨b0, b1⟩ := hBx.at; have fa0 := hA.frozen 0; have fa1 := hA.frozen 1; have fb0 := hBx.frozen 0; have fb1 := hBx.frozen 1) | (go_at_call 43; refine (h2 _).mono ?_; rintro e Wd ⟨rfl, hBd⟩; have hs1 := hB0.size; have hA : Box2 Wd _ f t := (hBd.block _ hA.lt).trans hA; have hBx : Box2 Wd _ g u := (hBd.block _ hBx.lt).trans hBx; have hR : Box2 Wd _ 0 0 := (hBd.block _ hR.lt).trans hR; have hB0 : Below w.heap.size w Wd := hB0.drew.trans (hBd.mono hs1); obtain ⟨a0, a1⟩ := hA.at; obtain ⟨b0, b1⟩ := hBx.at; have fa0 := hA.frozen 0; have fa1 := hA.frozen 1; have fb0 := hBx.frozen 0; have fb1 := hBx.frozen 1))
  all_goals
    have gA := ((hA.set f t).other (B' := w.heap.size + 1) (i := 0) (v := .int .i64 g) (by omega)).other (B' := w.heap.size + 1) (i := 1) (v := .int .i64 u) (by omega)
    have gB := ((hBx.other (B' := w.heap.size) (i := 0) (v := .int .i64 f) (by omega)).other (B' := w.heap.size) (i := 1) (v := .int .i64 t) (by omega)).set g u
    have gR := (((hR.other (B' := w.heap.size) (i := 0) (v := .int .i64 f) (by omega)).other (B' := w.heap.size) (i := 1) (v := .int .i64 t) (by omega)).other (B' := w.heap.size + 1) (i := 0) (v := .int .i64 g) (by omega)).other (B' := w.heap.size + 1) (i := 1) (v := .int .i64 u) (by omega)
    have gB0 := (((hB0.setCell (p := ⟨w.heap.size, 0, none⟩) (by simp) (.int .i64 f)).setCell (p := ⟨w.heap.size, 1, none⟩) (by simp) (.int .i64 t)).setCell (p := ⟨w.heap.size + 1, 0, none⟩) (by simp) (.int .i64 g)).setCell (p := ⟨w.heap.size + 1, 1, none⟩) (by simp) (.int .i64 u)
    generalize (((Wd.setCell ⟨w.heap.size, 0, none⟩ (.int .i64 f)).setCell ⟨w.heap.size, 1, none⟩ (.int .i64 t)).setCell ⟨w.heap.size + 1, 0, none⟩ (.int .i64 g)).setCell ⟨w.heap.size + 1, 1, none⟩ (.int .i64 u) = W5 at *
    clear hA hBx hR a0 a1 b0 b1 fa0 fa1 fb0 fb1 hB0
    obtain ⟨a0, a1⟩ := gA.at
    obtain ⟨b0, b1⟩ := gB.at
    have fr0 := gR.frozen 0
    have fr1 := gR.frozen 1
    obtain ⟨r0, r1⟩ := gR.at
    go_wp2
    all_goals first
      | (have e1 : min f g = g := (by omega); have e2 : max t u = u := (by omega); rw [e1, e2]; have q := gR.set g u; have qB := (gB0.setCell (p := ⟨w.heap.size + 1 + 1, 0, none⟩) (by simp <;> omega) (.int .i64 g)).setCell (p := ⟨w.heap.size + 1 + 1, 1, none⟩) (by simp <;> omega) (.int .i64 u); generalize (W5.setCell ⟨w.heap.size + 1 + 1, 0, none⟩ (.int .i64 g)).setCell ⟨w.heap.size + 1 + 1, 1, none⟩ (.int .i64 u) = W6 at *; obtain ⟨q0, q1⟩ := q.at; exact bodyPost_ret (v := .agg #[.int .i64 g, .int .i64 u]) (by simp [results, Tryd.results26, go_sem, q0, q1]) rfl ⟨rfl, qB⟩)
      | (have e1 : min f g = g := (by omega); have e2 : max t u = t := (by omega); rw [e1, e2]; have q := gR.set g t; have qB := (gB0.setCell (p := ⟨w.heap.size + 1 + 1, 0, none⟩) (by simp <;> omega) (.int .i64 g)).setCell (p := ⟨w.heap.size + 1 + 1, 1, none⟩) (by simp <;> omega) (.int .i64 t); generalize (W5.setCell ⟨w.heap.size + 1 + 1, 0, none⟩ (.int .i64 g)).setCell ⟨w.heap.size + 1 + 1, 1, none⟩ (.int .i64 t) = W6 at *; obtain ⟨q0, q1⟩ := q.at; exact bodyPost_ret (v := .agg #[.int .i64 g, .int .i64 t]) (by simp [results, Tryd.results26, go_sem, q0, q1]) rfl ⟨rfl, qB⟩)
      | (have e1 : min f g = f := (by omega); have e2 : max t u = u := (by omega); rw [e1, e2]; have q := gR.set f u; have qB := (gB0.setCell (p := ⟨w.heap.size + 1 + 1, 0, none⟩) (by simp <;> omega) (.int .i64 f)).setCell (p := ⟨w.heap.size + 1 + 1, 1, none⟩) (by simp <;> omega) (.int .i64 u); generalize (W5.setCell ⟨w.heap.size + 1 + 1, 0, none⟩ (.int .i64 f)).setCell ⟨w.heap.size + 1 + 1, 1, none⟩ (.int .i64 u) = W6 at *; obtain ⟨q0, q1⟩ := q.at; exact bodyPost_ret (v := .agg #[.int .i64 f, .int .i64 u]) (by simp [results, Tryd.results26, go_sem, q0, q1]) rfl ⟨rfl, qB⟩)
      | (have e1 : min f g = f := (by omega); have e2 : max t u = t := (by omega); rw [e1, e2]; have q := gR.set f t; have qB := (gB0.setCell (p := ⟨w.heap.size + 1 + 1, 0, none⟩) (by simp <;> omega) (.int .i64 f)).setCell (p := ⟨w.heap.size + 1 + 1, 1, none⟩) (by simp <;> omega) (.int .i64 t); generalize (W5.setCell ⟨w.heap.size + 1 + 1, 0, none⟩ (.int .i64 f)).setCell ⟨w.heap.size + 1 + 1, 1, none⟩ (.int .i64 t) = W6 at *; obtain ⟨q0, q1⟩ := q.at; exact bodyPost_ret (v := .agg #[.int .i64 f, .int .i64 t]) (by simp [results, Tryd.results26, go_sem, q0, q1]) rfl ⟨rfl, qB⟩)
end Go.Proofs.YtpplkjjfaibmmaaDoor
