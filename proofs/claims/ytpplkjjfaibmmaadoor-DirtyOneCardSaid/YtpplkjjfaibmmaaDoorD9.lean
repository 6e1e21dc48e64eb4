/- Dirty: shift.Move. -/
import Derived.Test.YtpplkjjfaibmmaaDoorN1
namespace Go.Proofs.YtpplkjjfaibmmaaDoor
open Go Go.Proofs Go.RowKit
attribute [local go_sem] Oper.semAt_some

set_option maxHeartbeats 4000000 in
theorem all_k1 {n : Int} (hn : Rg n) {B P : Nat} (w : World) (hB : Box1 w B n) (hP : w.cell? ⟨P, 0, none⟩ = some (.pointer (some ⟨B, 0, none⟩))) :
    Calls Tryd.prog 55 #[.slice (some ⟨P, 0, none⟩) 1 1] w fun e w' => e = .returned (.tuple #[]) ∧ ∃ Wd, Below w.heap.size w Wd ∧ w' = Wd.setCell ⟨B, 0, none⟩ (.int .i64 n) := by
  have h63 := within_k hn
  have b0 := hB.at
  have hlB := hB.lt
  go_enter Tryd.func55, Tryd.ntmps55
  go_wp2
  go_loopw [6] (fun i wr => (i = .int .i64 0 ∧ wr = w) ∨ (i = .int .i64 1 ∧ ∃ Wd, Below w.heap.size w Wd ∧ wr = Wd.setCell ⟨B, 0, none⟩ (.int .i64 n))) (fun i _ => 1 - (intOf i).toNat)
  case atStart => exact .inl ⟨rfl, rfl⟩
  case round =>
    rcases hrel with ⟨rfl, rfl⟩ | ⟨rfl, Wd, hb, rfl⟩
    · go_wp2_with (go_at_call 63; refine (h63 _).mono ?_; rintro e Wd ⟨rfl, hBd⟩; have hB1 := hB.below hBd hlB; have b1 := hB1.at; have fb1 := hB1.frozen 0)
      exact ⟨.inr ⟨rfl, Wd, hBd, rfl⟩, by simp [intOf]⟩
    · go_wp2
      exact bodyPost_end (results_none rfl _ _ _) rfl ⟨rfl, Wd, hb, rfl⟩
end Go.Proofs.YtpplkjjfaibmmaaDoor

namespace Go.Proofs.YtpplkjjfaibmmaaDoor
open Go Go.Proofs Go.RowKit
attribute [local go_sem] Oper.semAt_some

/-- Where a place behind comes to. -/
def bhd (t a d i n : Int) : Int := if t ≥ a + d then t - d + i else n
set_option maxHeartbeats 4000000 in
theorem behind_k {t a d i n : Int} (ht : Rg t) (ha : Rg a) (hd : Rg d) (hi : Rg i) (w : World) :
    Calls Tryd.prog 56 #[.int .i64 t, .agg #[.int .i64 a, .int .i64 d, .int .i64 i], .int .i64 n] w fun e w' => e = .returned (.int .i64 (bhd t a d i n)) ∧ Below w.heap.size w w' := by
  have e1 : wrap64 (a + d) = a + d := (by unfold Rg at ha hd; unfold wrap64; omega)
  have e2 : wrap64 (t - d) = t - d := (by unfold Rg at ht hd; unfold wrap64; omega)
  have e3 : wrap64 (t - d + i) = t - d + i := (by unfold Rg at ht hd hi; unfold wrap64; omega)
  have hB0 : Below w.heap.size w (w.alloc (.cells #[.int .i64 a, .int .i64 d, .int .i64 i] 27)) := (Below.refl _ w).alloc (Nat.le_refl _) _
  have hA := Box3.new w a d i
  go_enter Tryd.func56, Tryd.ntmps56
  go_wp2
  all_goals
    generalize w.alloc (.cells #[.int .i64 a, .int .i64 d, .int .i64 i] 27) = W0 at *
    obtain ⟨a0, a1, a2⟩ := hA.at
    go_wp2
    first
      | (have e4 : bhd t a d i n = t - d + i := if_pos (by omega); exact bodyPost_ret (v := .int .i64 (bhd t a d i n)) (by simp [results, Tryd.results56, go_sem, e3, e4]) rfl ⟨rfl, hB0⟩)
      | (have e4 : bhd t a d i n = n := if_neg (by omega); exact bodyPost_ret (v := .int .i64 (bhd t a d i n)) (by simp [results, Tryd.results56, go_sem, e4]) rfl ⟨rfl, hB0⟩)

/-- Where a beginning, an end comes to. -/
def stt (t a d i : Int) : Int := if t < a then t else bhd t a d i (a + i)
def enn (t a d i : Int) : Int := if t ≤ a then t else bhd t a d i a
end Go.Proofs.YtpplkjjfaibmmaaDoor

namespace Go.Proofs.YtpplkjjfaibmmaaDoor
open Go Go.Proofs Go.RowKit
attribute [local go_sem] Oper.semAt_some
set_option maxHeartbeats 4000000 in
theorem start_k {t a d i : Int} (ht : Rg t) (ha : Rg a) (hd : Rg d) (hi : Rg i) (w : World) :
    Calls Tryd.prog 41 #[.int .i64 t, .agg #[.int .i64 a, .int .i64 d, .int .i64 i]] w fun e w' => e = .returned (.int .i64 (stt t a d i)) ∧ Below w.heap.size w w' := by
  have e1 : wrap64 (a + i) = a + i := (by unfold Rg at ha hi; unfold wrap64; omega)
  have h40 := put_k ha hd hi
  have h55 := @all_k1 t ht
  have h56 := @behind_k t a d i (a + i) ht ha hd hi
  have hB0 : Below w.heap.size w ((w.alloc (.cells #[.int .i64 t] 3)).alloc (.cells #[.int .i64 a, .int .i64 d, .int .i64 i] 27)) := ((Below.refl _ w).alloc (Nat.le_refl _) _).alloc (by simp) _
  have hT := (Box1.new w t).below ((Below.refl (w.heap.size + 1) (w.alloc (.cells #[.int .i64 t] 3))).alloc (by simp) (.cells #[.int .i64 a, .int .i64 d, .int .i64 i] 27)) (Nat.lt_succ_self _)
  have hE := Box3.new (w.alloc (.cells #[.int .i64 t] 3)) a d i
  simp only [World.size_alloc] at hE
  go_enter Tryd.func41, Tryd.ntmps41
  generalize hW0 : (w.alloc (.cells #[.int .i64 t] 3)).alloc (.cells #[.int .i64 a, .int .i64 d, .int .i64 i] 27) = W0 at *
  obtain ⟨a0, a1, a2⟩ := hE.at
  have fa0 := hE.frozen 0; have fa1 := hE.frozen 1; have fa2 := hE.frozen 2
  have hle := hE.lt
  have hlt := hT.lt
  have hs0 := hB0.size
  go_wp2_with (first | (go_at_call 40; refine (h40 _).mono ?_; rintro e W1 ⟨rfl, hBd⟩; have hE1 := hE.below hBd hle; have hT1 := hT.below hBd hlt; have hB1 := hB0.trans (hBd.mono hs0); obtain ⟨b0, b1, b2⟩ := hE1.at; have fb0 := hE1.frozen 0; have fb1 := hE1.frozen 1; have fb2 := hE1.frozen 2) | (go_at_call 55; have hE2 := hE1.set a d i; have hT2 := ((hT1.other (B' := w.heap.size + 1) (i := 0) (v := .int .i64 a) (by omega)).other (B' := w.heap.size + 1) (i := 1) (v := .int .i64 d) (by omega)).other (B' := w.heap.size + 1) (i := 2) (v := .int .i64 i) (by omega); have hB2 := ((hB1.setCell (p := ⟨w.heap.size + 1, 0, none⟩) (by simp) (.int .i64 a)).setCell (p := ⟨w.heap.size + 1, 1, none⟩) (by simp) (.int .i64 d)).setCell (p := ⟨w.heap.size + 1, 2, none⟩) (by simp) (.int .i64 i); have hsz : W1.heap.size = (((W1.setCell ⟨w.heap.size + 1, 0, none⟩ (.int .i64 a)).setCell ⟨w.heap.size + 1, 1, none⟩ (.int .i64 d)).setCell ⟨w.heap.size + 1, 2, none⟩ (.int .i64 i)).heap.size := by { simp }; rw [hsz]; clear hsz; generalize ((W1.setCell ⟨w.heap.size + 1, 0, none⟩ (.int .i64 a)).setCell ⟨w.heap.size + 1, 1, none⟩ (.int .i64 d)).setCell ⟨w.heap.size + 1, 2, none⟩ (.int .i64 i) = W2 at *; have hal := (Below.refl W2.heap.size W2).alloc (Nat.le_refl _) (.cells #[.pointer (some ⟨w.heap.size, 0, none⟩)] 80); have hE3 := hE2.below hal hE2.lt; have hT3 := hT2.below hal hT2.lt; have hB3 := hB2.alloc hB2.size (.cells #[.pointer (some ⟨w.heap.size, 0, none⟩)] 80); have hP := World.alloc_heap_new W2 (.cells #[.pointer (some ⟨w.heap.size, 0, none⟩)] 80); generalize W2.alloc (.cells #[.pointer (some ⟨w.heap.size, 0, none⟩)] 80) = W3 at *; refine (h55 W3 hT3 (by simp [World.cell?, hP])).mono ?_; rintro e W4 ⟨rfl, Wd, hBd4, hW4⟩; have hE4 : Box3 W4 _ a d i := hW4 ▸ (hE3.below hBd4 hE3.lt).other (by omega); have hT4 : Box1 W4 _ t := hW4 ▸ (hT3.below hBd4 hT3.lt).set t; have hB4 : Below w.heap.size w W4 := hW4 ▸ (hB3.trans (hBd4.mono hB3.size)).setCell (p := ⟨w.heap.size, 0, none⟩) (by simp) (.int .i64 t); clear hW4 hBd4; obtain ⟨c0, c1, c2⟩ := hE4.at; have t4 := hT4.at) | (go_at_call 56; (first | rw [e1] | skip); refine (h56 _).mono ?_; rintro e W5 ⟨rfl, hBd5⟩; have hB5 := hB4.trans (hBd5.mono hB4.size)))
  all_goals first
    | (have e4 : stt t a d i = t := if_pos (by omega); exact bodyPost_ret (v := .int .i64 (stt t a d i)) (by simp [results, Tryd.results41, go_sem, e4]) rfl ⟨rfl, hB4⟩)
    | (have e4 : stt t a d i = bhd t a d i (a + i) := if_neg (by omega); exact bodyPost_ret (v := .int .i64 (stt t a d i)) (by simp [results, Tryd.results41, go_sem, e4]) rfl ⟨rfl, hB5⟩)
end Go.Proofs.YtpplkjjfaibmmaaDoor

namespace Go.Proofs.YtpplkjjfaibmmaaDoor
open Go Go.Proofs Go.RowKit
attribute [local go_sem] Oper.semAt_some
set_option maxHeartbeats 4000000 in
theorem end_k {t a d i : Int} (ht : Rg t) (ha : Rg a) (hd : Rg d) (hi : Rg i) (w : World) :
    Calls Tryd.prog 42 #[.int .i64 t, .agg #[.int .i64 a, .int .i64 d, .int .i64 i]] w fun e w' => e = .returned (.int .i64 (enn t a d i)) ∧ Below w.heap.size w w' := by
  have h40 := put_k ha hd hi
  have h55 := @all_k1 t ht
  have h56 := @behind_k t a d i a ht ha hd hi
  have hB0 : Below w.heap.size w ((w.alloc (.cells #[.int .i64 t] 3)).alloc (.cells #[.int .i64 a, .int .i64 d, .int .i64 i] 27)) := ((Below.refl _ w).alloc (Nat.le_refl _) _).alloc (by simp) _
  have hT := (Box1.new w t).below ((Below.refl (w.heap.size + 1) (w.alloc (.cells #[.int .i64 t] 3))).alloc (by simp) (.cells #[.int .i64 a, .int .i64 d, .int .i64 i] 27)) (Nat.lt_succ_self _)
  have hE := Box3.new (w.alloc (.cells #[.int .i64 t] 3)) a d i
  simp only [World.size_alloc] at hE
  go_enter Tryd.func42, Tryd.ntmps42
  generalize hW0 : (w.alloc (.cells #[.int .i64 t] 3)).alloc (.cells #[.int .i64 a, .int .i64 d, .int .i64 i] 27) = W0 at *
  obtain ⟨a0, a1, a2⟩ := hE.at
  have fa0 := hE.frozen 0; have fa1 := hE.frozen 1; have fa2 := hE.frozen 2
  have hle := hE.lt
  have hlt := hT.lt
  have hs0 := hB0.size
  go_wp2_with (first | (go_at_call 40; refine (h40 _).mono ?_; rintro e W1 ⟨rfl, hBd⟩; have hE1 := hE.below hBd hle; have hT1 := hT.below hBd hlt; have hB1 := hB0.trans (hBd.mono hs0); obtain ⟨b0, b1, b2⟩ := hE1.at; have fb0 := hE1.frozen 0; have fb1 := hE1.frozen 1; have fb2 := hE1.frozen 2) | (go_at_call 55; have hE2 := hE1.set a d i; have hT2 := ((hT1.other (B' := w.heap.size + 1) (i := 0) (v := .int .i64 a) (by omega)).other (B' := w.heap.size + 1) (i := 1) (v := .int .i64 d) (by omega)).other (B' := w.heap.size + 1) (i := 2) (v := .int .i64 i) (by omega); have hB2 := ((hB1.setCell (p := ⟨w.heap.size + 1, 0, none⟩) (by simp) (.int .i64 a)).setCell (p := ⟨w.heap.size + 1, 1, none⟩) (by simp) (.int .i64 d)).setCell (p := ⟨w.heap.size + 1, 2, none⟩) (by simp) (.int .i64 i); have hsz : W1.heap.size = (((W1.setCell ⟨w.heap.size + 1, 0, none⟩ (.int .i64 a)).setCell ⟨w.heap.size + 1, 1, none⟩ (.int .i64 d)).setCell ⟨w.heap.size + 1, 2, none⟩ (.int .i64 i)).heap.size := by { simp }; rw [hsz]; clear hsz; generalize ((W1.setCell ⟨w.heap.size + 1, 0, none⟩ (.int .i64 a)).setCell ⟨w.heap.size + 1, 1, none⟩ (.int .i64 d)).setCell ⟨w.heap.size + 1, 2, none⟩ (.int .i64 i) = W2 at *; have hal := (Below.refl W2.heap.size W2).alloc (Nat.le_refl _) (.cells #[.pointer (some ⟨w.heap.size, 0, none⟩)] 80); have hE3 := hE2.below hal hE2.lt; have hT3 := hT2.below hal hT2.lt; have hB3 := hB2.alloc hB2.size (.cells #[.pointer (some ⟨w.heap.size, 0, none⟩)] 80); have hP := World.alloc_heap_new W2 (.cells #[.pointer (some ⟨w.heap.size, 0, none⟩)] 80); generalize W2.alloc (.cells #[.pointer (some ⟨w.heap.size, 0, none⟩)] 80) = W3 at *; refine (h55 W3 hT3 (by simp [World.cell?, hP])).mono ?_; rintro e W4 ⟨rfl, Wd, hBd4, hW4⟩; have hE4 : Box3 W4 _ a d i := hW4 ▸ (hE3.below hBd4 hE3.lt).other (by omega); have hT4 : Box1 W4 _ t := hW4 ▸ (hT3.below hBd4 hT3.lt).set t; have hB4 : Below w.heap.size w W4 := hW4 ▸ (hB3.trans (hBd4.mono hB3.size)).setCell (p := ⟨w.heap.size, 0, none⟩) (by simp) (.int .i64 t); clear hW4 hBd4; obtain ⟨c0, c1, c2⟩ := hE4.at; have t4 := hT4.at) | (go_at_call 56; refine (h56 _).mono ?_; rintro e W5 ⟨rfl, hBd5⟩; have hB5 := hB4.trans (hBd5.mono hB4.size)))
  all_goals first
    | (have e4 : enn t a d i = t := if_pos (by omega); exact bodyPost_ret (v := .int .i64 (enn t a d i)) (by simp [results, Tryd.results42, go_sem, e4]) rfl ⟨rfl, hB4⟩)
    | (have e4 : enn t a d i = bhd t a d i a := if_neg (by omega); exact bodyPost_ret (v := .int .i64 (enn t a d i)) (by simp [results, Tryd.results42, go_sem, e4]) rfl ⟨rfl, hB5⟩)
end Go.Proofs.YtpplkjjfaibmmaaDoor

namespace Go.Proofs.YtpplkjjfaibmmaaDoor
open Go Go.Proofs Go.RowKit
attribute [local go_sem] Oper.semAt_some
set_option maxHeartbeats 4000000 in
theorem move_k {f t a d i : Int} (hf : Rg f) (ht : Rg t) (ha : Rg a) (hd : Rg d) (hi : Rg i) (w : World) :
    Calls Tryd.prog 24 #[.agg #[.int .i64 f, .int .i64 t], .agg #[.int .i64 a, .int .i64 d, .int .i64 i]] w fun e w' => e = .returned (.agg #[.int .i64 (stt f a d i), .int .i64 (max (stt f a d i) (enn t a d i))]) ∧ Below w.heap.size w w' := by
  have h41 := start_k hf ha hd hi
  have h42 := end_k ht ha hd hi
  generalize stt f a d i = p at *
  generalize enn t a d i = q at *
  have hB0 : Below w.heap.size w (((w.alloc (.cells #[.int .i64 f, .int .i64 t] 33)).alloc (.cells #[.int .i64 a, .int .i64 d, .int .i64 i] 27)).alloc (.cells #[.int .i64 0, .int .i64 0] 33)) := (((Below.refl _ w).alloc (Nat.le_refl _) _).alloc (by simp) _).alloc (by simp <;> omega) _
  have hS := (Box2.new w f t).below (((Below.refl (w.heap.size + 1) (w.alloc (.cells #[.int .i64 f, .int .i64 t] 33))).alloc (by simp) (.cells #[.int .i64 a, .int .i64 d, .int .i64 i] 27)).alloc (by simp <;> omega) (.cells #[.int .i64 0, .int .i64 0] 33)) (Nat.lt_succ_self _)
  have hE := (Box3.new (w.alloc (.cells #[.int .i64 f, .int .i64 t] 33)) a d i).below ((Below.refl (w.heap.size + 1 + 1) ((w.alloc (.cells #[.int .i64 f, .int .i64 t] 33)).alloc (.cells #[.int .i64 a, .int .i64 d, .int .i64 i] 27))).alloc (by simp) (.cells #[.int .i64 0, .int .i64 0] 33)) (by simp)
  have hR := Box2.new ((w.alloc (.cells #[.int .i64 f, .int .i64 t] 33)).alloc (.cells #[.int .i64 a, .int .i64 d, .int .i64 i] 27)) 0 0
  simp only [World.size_alloc] at hE hR
  go_enter Tryd.func24, Tryd.ntmps24
  generalize hW0 : ((w.alloc (.cells #[.int .i64 f, .int .i64 t] 33)).alloc (.cells #[.int .i64 a, .int .i64 d, .int .i64 i] 27)).alloc (.cells #[.int .i64 0, .int .i64 0] 33) = W0 at *
  obtain ⟨a0, a1, a2⟩ := hE.at
  obtain ⟨s0, s1⟩ := hS.at
  have hle := hE.lt
  have hls := hS.lt
  have hlr := hR.lt
  have hs0 := hB0.size
  go_wp2_with (first | (go_at_call 41; refine (h41 _).mono ?_; rintro e W1 ⟨rfl, hBd⟩; have hE1 := hE.below hBd hle; have hS1 := hS.below hBd hls; have hR1 := hR.below hBd hlr; have hB1 := hB0.trans (hBd.mono hs0); obtain ⟨b0, b1, b2⟩ := hE1.at; obtain ⟨t0, t1⟩ := hS1.at; have hs1 := hB1.size; have hlr1 := hR1.lt) | (go_at_call 42; refine (h42 _).mono ?_; rintro e W2 ⟨rfl, hBd2⟩; have hR2 := hR1.below hBd2 hlr1; have hB2 := hB1.trans (hBd2.mono hs1); obtain ⟨r0, r1⟩ := hR2.at; have fr0 := hR2.frozen 0; have fr1 := hR2.frozen 1))
  all_goals first
    | (have e2 : max p q = q := (by omega); rw [e2]; have q' := hR2.set p q; have qB := (hB2.setCell (p := ⟨w.heap.size + 1 + 1, 0, none⟩) (by simp <;> omega) (.int .i64 p)).setCell (p := ⟨w.heap.size + 1 + 1, 1, none⟩) (by simp <;> omega) (.int .i64 q); generalize (W2.setCell ⟨w.heap.size + 1 + 1, 0, none⟩ (.int .i64 p)).setCell ⟨w.heap.size + 1 + 1, 1, none⟩ (.int .i64 q) = W6 at *; obtain ⟨q0, q1⟩ := q'.at; exact bodyPost_ret (v := .agg #[.int .i64 p, .int .i64 q]) (by simp [results, Tryd.results24, go_sem, q0, q1]) rfl ⟨rfl, qB⟩)
    | (have e2 : max p q = p := (by omega); rw [e2]; have q' := hR2.set p p; have qB := (hB2.setCell (p := ⟨w.heap.size + 1 + 1, 0, none⟩) (by simp <;> omega) (.int .i64 p)).setCell (p := ⟨w.heap.size + 1 + 1, 1, none⟩) (by simp <;> omega) (.int .i64 p); generalize (W2.setCell ⟨w.heap.size + 1 + 1, 0, none⟩ (.int .i64 p)).setCell ⟨w.heap.size + 1 + 1, 1, none⟩ (.int .i64 p) = W6 at *; obtain ⟨q0, q1⟩ := q'.at; exact bodyPost_ret (v := .agg #[.int .i64 p, .int .i64 p]) (by simp [results, Tryd.results24, go_sem, q0, q1]) rfl ⟨rfl, qB⟩)
end Go.Proofs.YtpplkjjfaibmmaaDoor
