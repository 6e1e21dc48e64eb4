/- Dirty: viewportref10.Move. -/
import Derived.Test.YtpplkjjfaibmmaaDoorD11
namespace Go.Proofs.YtpplkjjfaibmmaaDoor
open Go Go.Proofs Go.RowKit
attribute [local go_sem] Oper.semAt_some
set_option maxRecDepth 100000 in
set_option maxHeartbeats 4000000 in
theorem rstart_k {t a d i : Int} (ht : Rg t) (ha : Rg a) (hd : Rg d) (hi : Rg i) (w : World) :
    Calls Tryd.prog 31 #[.int .i64 t, .agg #[.int .i64 a, .int .i64 d, .int .i64 i]] w fun e w' => e = .returned (.int .i64 (stt t a d i)) ∧ Below w.heap.size w w' := by
  have e1 : wrap64 (a + i) = a + i := (by unfold Rg at ha hi; unfold wrap64; omega)
  have e2 : wrap64 (a + d) = a + d := (by unfold Rg at ha hd; unfold wrap64; omega)
  have e3 : wrap64 (t - d) = t - d := (by unfold Rg at ht hd; unfold wrap64; omega)
  have e5 : wrap64 (t - d + i) = t - d + i := (by unfold Rg at ht hd hi; unfold wrap64; omega)
  have h52 := rput_k ht
  have h30 := redit_k ha hd hi
  have hB0 : Below w.heap.size w (w.alloc (.cells #[.int .i64 a, .int .i64 d, .int .i64 i] 27)) := (Below.refl _ w).alloc (Nat.le_refl _) _
  have hE := Box3.new w a d i
  go_enter Tryd.func31, Tryd.ntmps31
  go_wp2_with (fail)
  generalize w.alloc (.cells #[.int .i64 a, .int .i64 d, .int .i64 i] 27) = W0 at *
  obtain ⟨a0, a1, a2⟩ := hE.at
  have fa0 := hE.frozen 0; have fa1 := hE.frozen 1; have fa2 := hE.frozen 2
  have hle := hE.lt
  have hs0 := hB0.size
  go_region_with (first | (go_at_call 52; refine (h52 _).mono ?_; rintro e _ ⟨rfl, rfl⟩) | (go_at_call 30; refine (h30 _).mono ?_; rintro e W1 ⟨rfl, hBd⟩; have hE : Box3 W1 _ a d i := (hBd.block _ hE.lt).trans hE; have hB0 : Below w.heap.size w W1 := hB0.trans (hBd.mono hs0); obtain ⟨a0, a1, a2⟩ := hE.at; have fa0 := hE.frozen 0; have fa1 := hE.frozen 1; have fa2 := hE.frozen 2) | (go_at_call 30; refine (h30 _).mono ?_; rintro e W1 ⟨rfl, hBd⟩; have hE : Box3 W1 _ a d i := (hBd.block _ hE.lt).trans hE; have hB0 : Below w.heap.size w W1 := hB0.drew.trans (hBd.mono hs0); obtain ⟨a0, a1, a2⟩ := hE.at; have fa0 := hE.frozen 0; have fa1 := hE.frozen 1; have fa2 := hE.frozen 2))
  all_goals
    have gE := hE.set a d i
    have gB := ((hB0.setCell (p := ⟨w.heap.size, 0, none⟩) (by simp) (.int .i64 a)).setCell (p := ⟨w.heap.size, 1, none⟩) (by simp) (.int .i64 d)).setCell (p := ⟨w.heap.size, 2, none⟩) (by simp) (.int .i64 i)
    generalize ((W1.setCell ⟨w.heap.size, 0, none⟩ (.int .i64 a)).setCell ⟨w.heap.size, 1, none⟩ (.int .i64 d)).setCell ⟨w.heap.size, 2, none⟩ (.int .i64 i) = W5 at *
    clear hE hB0 a0 a1 a2 fa0 fa1 fa2
    obtain ⟨a0, a1, a2⟩ := gE.at
    go_wp2
    all_goals first
      | (have e4 : stt t a d i = t := if_pos (by omega); exact bodyPost_ret (v := .int .i64 (stt t a d i)) (by simp [results, Tryd.results31, go_sem, e4]) rfl ⟨rfl, gB⟩)
      | (have e4 : stt t a d i = t - d + i := (if_neg (by omega)).trans (if_pos (by omega)); exact bodyPost_ret (v := .int .i64 (stt t a d i)) (by simp [results, Tryd.results31, go_sem, e4, e5]) rfl ⟨rfl, gB⟩)
      | (have e4 : stt t a d i = a + i := (if_neg (by omega)).trans (if_neg (by omega)); exact bodyPost_ret (v := .int .i64 (stt t a d i)) (by simp [results, Tryd.results31, go_sem, e4, e1]) rfl ⟨rfl, gB⟩)
set_option maxRecDepth 100000 in
set_option maxHeartbeats 4000000 in
theorem rend_k {t a d i : Int} (ht : Rg t) (ha : Rg a) (hd : Rg d) (hi : Rg i) (w : World) :
    Calls Tryd.prog 32 #[.int .i64 t, .agg #[.int .i64 a, .int .i64 d, .int .i64 i]] w fun e w' => e = .returned (.int .i64 (enn t a d i)) ∧ Below w.heap.size w w' := by
  have e1 : wrap64 (a + i) = a + i := (by unfold Rg at ha hi; unfold wrap64; omega)
  have e2 : wrap64 (a + d) = a + d := (by unfold Rg at ha hd; unfold wrap64; omega)
  have e3 : wrap64 (t - d) = t - d := (by unfold Rg at ht hd; unfold wrap64; omega)
  have e5 : wrap64 (t - d + i) = t - d + i := (by unfold Rg at ht hd hi; unfold wrap64; omega)
  have h52 := rput_k ht
  have h30 := redit_k ha hd hi
  have hB0 : Below w.heap.size w (w.alloc (.cells #[.int .i64 a, .int .i64 d, .int .i64 i] 27)) := (Below.refl _ w).alloc (Nat.le_refl _) _
  have hE := Box3.new w a d i
  go_enter Tryd.func32, Tryd.ntmps32
  go_wp2_with (fail)
  generalize w.alloc (.cells #[.int .i64 a, .int .i64 d, .int .i64 i] 27) = W0 at *
  obtain ⟨a0, a1, a2⟩ := hE.at
  have fa0 := hE.frozen 0; have fa1 := hE.frozen 1; have fa2 := hE.frozen 2
  have hle := hE.lt
  have hs0 := hB0.size
  go_region_with (first | (go_at_call 52; refine (h52 _).mono ?_; rintro e _ ⟨rfl, rfl⟩) | (go_at_call 30; refine (h30 _).mono ?_; rintro e W1 ⟨rfl, hBd⟩; have hE : Box3 W1 _ a d i := (hBd.block _ hE.lt).trans hE; have hB0 : Below w.heap.size w W1 := hB0.trans (hBd.mono hs0); obtain ⟨a0, a1, a2⟩ := hE.at; have fa0 := hE.frozen 0; have fa1 := hE.frozen 1; have fa2 := hE.frozen 2) | (go_at_call 30; refine (h30 _).mono ?_; rintro e W1 ⟨rfl, hBd⟩; have hE : Box3 W1 _ a d i := (hBd.block _ hE.lt).trans hE; have hB0 : Below w.heap.size w W1 := hB0.drew.trans (hBd.mono hs0); obtain ⟨a0, a1, a2⟩ := hE.at; have fa0 := hE.frozen 0; have fa1 := hE.frozen 1; have fa2 := hE.frozen 2))
  all_goals
    have gE := hE.set a d i
    have gB := ((hB0.setCell (p := ⟨w.heap.size, 0, none⟩) (by simp) (.int .i64 a)).setCell (p := ⟨w.heap.size, 1, none⟩) (by simp) (.int .i64 d)).setCell (p := ⟨w.heap.size, 2, none⟩) (by simp) (.int .i64 i)
    generalize ((W1.setCell ⟨w.heap.size, 0, none⟩ (.int .i64 a)).setCell ⟨w.heap.size, 1, none⟩ (.int .i64 d)).setCell ⟨w.heap.size, 2, none⟩ (.int .i64 i) = W5 at *
    clear hE hB0 a0 a1 a2 fa0 fa1 fa2
    obtain ⟨a0, a1, a2⟩ := gE.at
    go_wp2
    all_goals first
      | (have e4 : enn t a d i = t := if_pos (by omega); exact bodyPost_ret (v := .int .i64 (enn t a d i)) (by simp [results, Tryd.results32, go_sem, e4]) rfl ⟨rfl, gB⟩)
      | (have e4 : enn t a d i = t - d + i := (if_neg (by omega)).trans (if_pos (by omega)); exact bodyPost_ret (v := .int .i64 (enn t a d i)) (by simp [results, Tryd.results32, go_sem, e4, e5]) rfl ⟨rfl, gB⟩)
      | (have e4 : enn t a d i = a := (if_neg (by omega)).trans (if_neg (by omega)); exact bodyPost_ret (v := .int .i64 (enn t a d i)) (by simp [results, Tryd.results32, go_sem, e4]) rfl ⟨rfl, gB⟩)
end Go.Proofs.YtpplkjjfaibmmaaDoor

namespace Go.Proofs.YtpplkjjfaibmmaaDoor
open Go Go.Proofs Go.RowKit
attribute [local go_sem] Oper.semAt_some
set_option maxHeartbeats 4000000 in
theorem rmove_k {f t a d i : Int} (hf : Rg f) (ht : Rg t) (ha : Rg a) (hd : Rg d) (hi : Rg i) (w : World) :
    Calls Tryd.prog 10 #[.agg #[.int .i64 f, .int .i64 t], .agg #[.int .i64 a, .int .i64 d, .int .i64 i]] w fun e w' => e = .returned (.agg #[.int .i64 (stt f a d i), .int .i64 (max (stt f a d i) (enn t a d i))]) ∧ Below w.heap.size w w' := by
  have h41 := rstart_k hf ha hd hi
  have h42 := rend_k ht ha hd hi
  generalize stt f a d i = p at *
  generalize enn t a d i = q at *
  have hB0 : Below w.heap.size w (((w.alloc (.cells #[.int .i64 f, .int .i64 t] 33)).alloc (.cells #[.int .i64 a, .int .i64 d, .int .i64 i] 27)).alloc (.cells #[.int .i64 0, .int .i64 0] 33)) := (((Below.refl _ w).alloc (Nat.le_refl _) _).alloc (by simp) _).alloc (by simp <;> omega) _
  have hS := (Box2.new w f t).below (((Below.refl (w.heap.size + 1) (w.alloc (.cells #[.int .i64 f, .int .i64 t] 33))).alloc (by simp) (.cells #[.int .i64 a, .int .i64 d, .int .i64 i] 27)).alloc (by simp <;> omega) (.cells #[.int .i64 0, .int .i64 0] 33)) (Nat.lt_succ_self _)
  have hE := (Box3.new (w.alloc (.cells #[.int .i64 f, .int .i64 t] 33)) a d i).below ((Below.refl (w.heap.size + 1 + 1) ((w.alloc (.cells #[.int .i64 f, .int .i64 t] 33)).alloc (.cells #[.int .i64 a, .int .i64 d, .int .i64 i] 27))).alloc (by simp) (.cells #[.int .i64 0, .int .i64 0] 33)) (by simp)
  have hR := Box2.new ((w.alloc (.cells #[.int .i64 f, .int .i64 t] 33)).alloc (.cells #[.int .i64 a, .int .i64 d, .int .i64 i] 27)) 0 0
  simp only [World.size_alloc] at hE hR
  go_enter Tryd.func10, Tryd.ntmps10
  generalize hW0 : ((w.alloc (.cells #[.int .i64 f, .int .i64 t] 33)).alloc (.cells #[.int .i64 a, .int .i64 d, .int .i64 i] 27)).alloc (.cells #[.int .i64 0, .int .i64 0] 33) = W0 at *
  obtain ⟨a0, a1, a2⟩ := hE.at
  obtain ⟨s0, s1⟩ := hS.at
  have hle := hE.lt
  have hls := hS.lt
  have hlr := hR.lt
  have hs0 := hB0.size
  go_wp2_with (first | (go_at_call 31; refine (h41 _).mono ?_; rintro e W1 ⟨rfl, hBd⟩; have hE1 := hE.below hBd hle; have hS1 := hS.below hBd hls; have hR1 := hR.below hBd hlr; have hB1 := hB0.trans (hBd.mono hs0); obtain ⟨b0, b1, b2⟩ := hE1.at; obtain ⟨t0, t1⟩ := hS1.at; have hs1 := hB1.size; have hlr1 := hR1.lt) | (go_at_call 32; refine (h42 _).mono ?_; rintro e W2 ⟨rfl, hBd2⟩; have hR2 := hR1.below hBd2 hlr1; have hB2 := hB1.trans (hBd2.mono hs1); obtain ⟨r0, r1⟩ := hR2.at; have fr0 := hR2.frozen 0; have fr1 := hR2.frozen 1))
  all_goals first
    | (have e2 : max p q = q := (by omega); rw [e2]; have q' := hR2.set p q; have qB := (hB2.setCell (p := ⟨w.heap.size + 1 + 1, 0, none⟩) (by simp <;> omega) (.int .i64 p)).setCell (p := ⟨w.heap.size + 1 + 1, 1, none⟩) (by simp <;> omega) (.int .i64 q); generalize (W2.setCell ⟨w.heap.size + 1 + 1, 0, none⟩ (.int .i64 p)).setCell ⟨w.heap.size + 1 + 1, 1, none⟩ (.int .i64 q) = W6 at *; obtain ⟨q0, q1⟩ := q'.at; exact bodyPost_ret (v := .agg #[.int .i64 p, .int .i64 q]) (by simp [results, Tryd.results10, go_sem, q0, q1]) rfl ⟨rfl, qB⟩)
    | (have e2 : max p q = p := (by omega); rw [e2]; have q' := hR2.set p p; have qB := (hB2.setCell (p := ⟨w.heap.size + 1 + 1, 0, none⟩) (by simp <;> omega) (.int .i64 p)).setCell (p := ⟨w.heap.size + 1 + 1, 1, none⟩) (by simp <;> omega) (.int .i64 p); generalize (W2.setCell ⟨w.heap.size + 1 + 1, 0, none⟩ (.int .i64 p)).setCell ⟨w.heap.size + 1 + 1, 1, none⟩ (.int .i64 p) = W6 at *; obtain ⟨q0, q1⟩ := q'.at; exact bodyPost_ret (v := .agg #[.int .i64 p, .int .i64 p]) (by simp [results, Tryd.results10, go_sem, q0, q1]) rfl ⟨rfl, qB⟩)
set_option maxHeartbeats 4000000 in
theorem rnew_k {a d i : Int} (ha : Rg a) (hd : Rg d) (hi : Rg i) (w : World) :
    Calls Tryd.prog 9 #[.agg #[.int .i64 a, .int .i64 d, .int .i64 i]] w fun e w' => e = .returned (.agg #[.int .i64 a, .int .i64 (a + i)]) ∧ Below w.heap.size w w' := by
  have e1 : wrap64 (a + i) = a + i := (by unfold Rg at ha hi; unfold wrap64; omega)
  have h30 := redit_k ha hd hi
  have hB0 : Below w.heap.size w ((w.alloc (.cells #[.int .i64 a, .int .i64 d, .int .i64 i] 27)).alloc (.cells #[.int .i64 0, .int .i64 0] 33)) := ((Below.refl _ w).alloc (Nat.le_refl _) _).alloc (by simp) _
  have hE := (Box3.new w a d i).below ((Below.refl (w.heap.size + 1) (w.alloc (.cells #[.int .i64 a, .int .i64 d, .int .i64 i] 27))).alloc (by simp) (.cells #[.int .i64 0, .int .i64 0] 33)) (Nat.lt_succ_self _)
  have hR := Box2.new (w.alloc (.cells #[.int .i64 a, .int .i64 d, .int .i64 i] 27)) 0 0
  simp only [World.size_alloc] at hR
  go_enter Tryd.func9, Tryd.ntmps9
  generalize hW0 : (w.alloc (.cells #[.int .i64 a, .int .i64 d, .int .i64 i] 27)).alloc (.cells #[.int .i64 0, .int .i64 0] 33) = W0 at *
  obtain ⟨a0, a1, a2⟩ := hE.at
  have hle := hE.lt
  have hlr := hR.lt
  have hs0 := hB0.size
  go_wp2_with (first | (go_at_call 30; refine (h30 _).mono ?_; rintro e W1 ⟨rfl, hBd⟩; have hE1 := hE.below hBd hle; have hR1 := hR.below hBd hlr; have hB1 := hB0.trans (hBd.mono hs0); obtain ⟨b0, b1, b2⟩ := hE1.at; have fb0 := hE1.frozen 0; have fb1 := hE1.frozen 1; have fb2 := hE1.frozen 2; obtain ⟨r0, r1⟩ := hR1.at; have fr0 := hR1.frozen 0; have fr1 := hR1.frozen 1))
  all_goals
    have gR := ((hR1.other (B' := w.heap.size) (i := 0) (v := .int .i64 a) (by omega)).other (B' := w.heap.size) (i := 1) (v := .int .i64 d) (by omega)).other (B' := w.heap.size) (i := 2) (v := .int .i64 i) (by omega)
    have gB := ((hB1.setCell (p := ⟨w.heap.size, 0, none⟩) (by simp) (.int .i64 a)).setCell (p := ⟨w.heap.size, 1, none⟩) (by simp) (.int .i64 d)).setCell (p := ⟨w.heap.size, 2, none⟩) (by simp) (.int .i64 i)
    generalize ((W1.setCell ⟨w.heap.size, 0, none⟩ (.int .i64 a)).setCell ⟨w.heap.size, 1, none⟩ (.int .i64 d)).setCell ⟨w.heap.size, 2, none⟩ (.int .i64 i) = W5 at *
    have q' := gR.set a (a + i)
    have qB := (gB.setCell (p := ⟨w.heap.size + 1, 0, none⟩) (by simp <;> omega) (.int .i64 a)).setCell (p := ⟨w.heap.size + 1, 1, none⟩) (by simp <;> omega) (.int .i64 (a + i))
    (first | rw [e1] | skip)
    generalize (W5.setCell ⟨w.heap.size + 1, 0, none⟩ (.int .i64 a)).setCell ⟨w.heap.size + 1, 1, none⟩ (.int .i64 (a + i)) = W6 at *
    obtain ⟨q0, q1⟩ := q'.at
    exact bodyPost_ret (v := .agg #[.int .i64 a, .int .i64 (a + i)]) (by simp [results, Tryd.results9, go_sem, q0, q1]) rfl ⟨rfl, qB⟩
end Go.Proofs.YtpplkjjfaibmmaaDoor
