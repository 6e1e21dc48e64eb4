/- Dirty: shift.Touch. -/
import Derived.Test.YtpplkjjfaibmmaaDoorN1
namespace Go.Proofs.YtpplkjjfaibmmaaDoor
open Go Go.Proofs Go.RowKit
attribute [local go_sem] Oper.semAt_some

set_option maxRecDepth 100000 in
set_option maxHeartbeats 4000000 in
theorem touch_k {f t g u : Int} (hf : Rg f) (ht : Rg t) (hg : Rg g) (hu : Rg u) (w : World) :
    Calls Tryd.prog 25 #[.agg #[.int .i64 f, .int .i64 t], .agg #[.int .i64 g, .int .i64 u]] w fun e w' => e = .returned (.bool (decide (f ≤ u) && decide (g ≤ t))) ∧ Below w.heap.size w w' := by
  have h1 := span_k hf ht
  have h2 := span_k hg hu
  have hB0 : Below w.heap.size w ((w.alloc (.cells #[.int .i64 f, .int .i64 t] 33)).alloc (.cells #[.int .i64 g, .int .i64 u] 33)) := ((Below.refl _ w).alloc (Nat.le_refl _) _).alloc (by simp) _
  go_enter Tryd.func25, Tryd.ntmps25
  go_wp2
  have hA := (Box2.new w f t).below ((Below.refl (w.heap.size + 1) (w.alloc (.cells #[.int .i64 f, .int .i64 t] 33))).alloc (by simp) (.cells #[.int .i64 g, .int .i64 u] 33)) (Nat.lt_succ_self _)
  have hBx := Box2.new (w.alloc (.cells #[.int .i64 f, .int .i64 t] 33)) g u
  simp only [World.size_alloc] at hBx
  generalize (w.alloc (.cells #[.int .i64 f, .int .i64 t] 33)).alloc (.cells #[.int .i64 g, .int .i64 u] 33) = W0 at *
  obtain ⟨a0, a1⟩ := hA.at
  obtain ⟨b0, b1⟩ := hBx.at
  have fa0 := hA.frozen 0; have fa1 := hA.frozen 1; have fb0 := hBx.frozen 0; have fb1 := hBx.frozen 1
  have hla := hA.lt
  have hlb := hBx.lt
  have hs0 := hB0.size
  go_region_with (first | (go_at_call 43; refine (h1 _).mono ?_; rintro e Wd ⟨rfl, hBd⟩; have hs1 := hB0.size; have hA : Box2 Wd _ f t := (hBd.block _ hA.lt).trans hA; have hBx : Box2 Wd _ g u := (hBd.block _ hBx.lt).trans hBx; have hB0 : Below w.heap.size w Wd := hB0.trans (hBd.mono hs1); obtain ⟨a0, a1⟩ := hA.at; obtain ⟨b0, b1⟩ := hBx.at; have fa0 := hA.frozen 0; have fa1 := hA.frozen 1; have fb0 := hBx.frozen 0; have fb1 := hBx.frozen 1) | (go_at_call 43; refine (h1 _).mono ?_; rintro e Wd ⟨rfl, hBd⟩; have hs1 := hB0.size; have hA : Box2 Wd _ f t := (hBd.block _ hA.lt).trans hA; have hBx : Box2 Wd _ g u := (hBd.block _ hBx.lt).trans hBx; have hB0 : Below w.heap.size w Wd := hB0.drew.trans (hBd.mono hs1); obtain ⟨a0, a1⟩ := hA.at; obtain ⟨b0, b1⟩ := hBx.at; have fa0 := hA.frozen 0; have fa1 := hA.frozen 1; have fb0 := hBx.frozen 0; have fb1 := hBx.frozen 1) | (go_at_call 43; refine (h2 _).mono ?_; rintro e Wd ⟨rfl, hBd⟩; have hs1 := hB0.size; have hA : Box2 Wd _ f t := (hBd.block _ hA.lt).trans hA; have hBx : Box2 Wd _ g u := (hBd.block _ hBx.lt).trans hBx; have hB0 : Below w.heap.size w Wd := hB0.trans (hBd.mono hs1); obtain ⟨a0, a1⟩ := hA.at; obtain ⟨b0, b1⟩ := hBx.at; have fa0 := hA.frozen 0; have fa1 := hA.frozen 1; have fb0 := hBx.frozen 0; have fb1 := hBx.frozen 1) | (go_at_call 43; refine (h2 _).mono ?_; rintro e Wd ⟨rfl, hBd⟩; have hs1 := hB0.size; have hA : Box2 Wd _ f t := (hBd.block _ hA.lt).trans hA; have hBx : Box2 Wd _ g u := (hBd.block _ hBx.lt).trans hBx; have hB0 : Below w.heap.size w Wd := hB0.drew.trans (hBd.mono hs1); obtain ⟨a0, a1⟩ := hA.at; obtain ⟨b0, b1⟩ := hBx.at; have fa0 := hA.frozen 0; have fa1 := hA.frozen 1; have fb0 := hBx.frozen 0; have fb1 := hBx.frozen 1))
  all_goals
    have gA := ((hA.set f t).other (B' := w.heap.size + 1) (i := 0) (v := .int .i64 g) (by omega)).other (B' := w.heap.size + 1) (i := 1) (v := .int .i64 u) (by omega)
    have gB := ((hBx.other (B' := w.heap.size) (i := 0) (v := .int .i64 f) (by omega)).other (B' := w.heap.size) (i := 1) (v := .int .i64 t) (by omega)).set g u
    have gB0 := (((hB0.setCell (p := ⟨w.heap.size, 0, none⟩) (by simp) (.int .i64 f)).setCell (p := ⟨w.heap.size, 1, none⟩) (by simp) (.int .i64 t)).setCell (p := ⟨w.heap.size + 1, 0, none⟩) (by simp) (.int .i64 g)).setCell (p := ⟨w.heap.size + 1, 1, none⟩) (by simp) (.int .i64 u)
    generalize (((Wd.setCell ⟨w.heap.size, 0, none⟩ (.int .i64 f)).setCell ⟨w.heap.size, 1, none⟩ (.int .i64 t)).setCell ⟨w.heap.size + 1, 0, none⟩ (.int .i64 g)).setCell ⟨w.heap.size + 1, 1, none⟩ (.int .i64 u) = W5 at *
    clear hA hBx a0 a1 b0 b1 fa0 fa1 fb0 fb1 hB0
    obtain ⟨a0, a1⟩ := gA.at
    obtain ⟨b0, b1⟩ := gB.at
    go_wp2
    all_goals exact bodyPost_ret (v := .bool (decide (f ≤ u) && decide (g ≤ t))) (by simp [results, Tryd.results25, go_sem] <;> omega) rfl ⟨rfl, gB0⟩
end Go.Proofs.YtpplkjjfaibmmaaDoor
