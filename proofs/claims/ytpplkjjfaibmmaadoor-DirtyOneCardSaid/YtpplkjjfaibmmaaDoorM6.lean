/- DirtyOne: the law. -/
import Derived.Test.YtpplkjjfaibmmaaDoorM5
namespace Go.Proofs.YtpplkjjfaibmmaaDoor
open Go Go.Proofs Go.RowKit
attribute [local go_sem] Oper.semAt_some
theorem box2_new' {V W4 : World} {p q : Int} (h3 : W4.heap[V.heap.size]? = some (.cells ([.int .i64 p, .int .i64 q] : List Value).toArray 33 (0, 0))) (h4 : ∀ k, k ≠ V.heap.size → W4.heap[k]? = (V.alloc (.cells #[.int .i64 0, .int .i64 0] 33)).heap[k]?) (h5 : AX.Same (V.alloc (.cells #[.int .i64 0, .int .i64 0] 33)) W4) : Box2 W4 V.heap.size p q ∧ Below V.heap.size V W4 :=
  ⟨h3, ((Below.refl _ V).alloc (Nat.le_refl _) _).trans (AX.below_turn (Nat.le_refl _) (.inl (Array.getElem?_eq_some_iff.1 h3).1) h4 h5)⟩
/-- What the law keeps: the one job that there is. -/
def St1 (w : World) (k : Nat) (v3 : Value) (f t : Int) (W : World) : Prop :=
  Below w.heap.size w W ∧ ((v3 = .slice none 0 0 ∧ f = 0 ∧ t = 0) ∨ ∃ (la : Option Addr) (c : Nat), v3 = .slice la 1 c ∧ RRow W (.slice la 1 c) [oneJ f t] ∧ 0 ≤ f ∧ f ≤ t ∧ t ≤ 2097152 * (k : Int))
section
variable {l : List (Int × Int × Int)} {la : Option Addr} {c : Nat} {w : World}
set_option maxRecDepth 100000 in
set_option maxHeartbeats 4000000 in
theorem one_k (hl : l.length ≤ 9223372036854775807) (hR : HE w la l) (hw0 : 0 < w.heap.size) (hTab : TabAt w)
    (hL : ∀ W, Below w.heap.size w W → Calls Tryd.prog 6 #[] W fun e w' => e = .returned (.bool true) ∧ Below W.heap.size W w') :
    Calls Tryd.prog 3 #[.slice la l.length c] w fun e w' => e = .returned (.bool true) ∧ Below w.heap.size w w' := by
  by_cases h20 : 20 < l.length
  · have h20' : (20 : Int) < (l.length : Int) := by omega
    go_enter Tryd.func3, Tryd.ntmps3
    go_wp2_with (go_at_call 6; ((with_reducible refine (hL _ (Below.refl _ w)).mono ?_); rintro e W1 ⟨rfl, hb1⟩))
    go_ret
    exact ⟨rfl, hb1⟩
  · have h20' : ¬ ((20 : Int) < (l.length : Int)) := by omega
    have hzw := fun W : World => Bx.new W 33 #[.int .i64 0, .int .i64 0]
    go_enter Tryd.func3, Tryd.ntmps3
    go_wp2_with (go_at_call 6; ((with_reducible refine (hL _ (Below.refl _ w)).mono ?_); rintro e W1 ⟨rfl, hb1⟩))
    clear hL
    go_loopw [3, 4, 5, 6] (fun v3 v4 v5 j wr => ∃ (k : Nat) (f t : Int), k ≤ l.length ∧ j = .int .i64 k ∧ v4 = .int .i64 f ∧ v5 = .int .i64 t ∧ St1 w k v3 f t wr) (fun _ _ _ j _ => l.length - (intOf j).toNat)
    case atStart => exact ⟨0, 0, 0, Nat.zero_le _, rfl, rfl, rfl, hb1, .inl ⟨rfl, rfl, rfl⟩⟩
    case round =>
      obtain ⟨k, f, t, hk, rfl, rfl, rfl, hB, hS⟩ := hrel
      clear hb1
      by_cases hlt : k < l.length
      · obtain ⟨B, off, hla, hBl, hRow⟩ := hR (by intro e; subst e; cases hlt)
        subst hla
        have hy := hRow k hlt
        generalize l[k] = x at *
        obtain ⟨a, d, i⟩ := x
        dsimp only at hy
        have hk0 : (0 : Int) ≤ (k : Int) := by omega
        have hk1 : (k : Int) < (l.length : Int) := by omega
        have hyW := fun W (hb : Below w.heap.size w W) => hy.below hb hBl
        have HyW := Lib.hid hyW
        clear hyW hy
        obtain ⟨y0, y1, y2⟩ := HyW.out wr hB
        have h7 := fun W => lightEdit_k a d i W
        cases hE : ltE a d i with
        | false =>
          rw [hE] at h7
          go_wp2_with (go_at_call 7; ((with_reducible refine (h7 _).mono ?_); rintro e W2 ⟨rfl, hb2⟩))
          go_ret
          exact ⟨rfl, hB.trans (hb2.mono hB.size)⟩
        | true =>
          rw [hE] at h7
          have hE' := ltE_iff hE
          have ra : Rg a := by unfold Rg; omega
          have rd : Rg d := by unfold Rg; omega
          have ri : Rg i := by unfold Rg; omega
          by_cases hp : 0 ≤ a ∧ 0 ≤ d ∧ 0 ≤ i
          · have hp1 : ¬ a < 0 := by omega
            have hp2 : ¬ d < 0 := by omega
            have hp3 : ¬ i < 0 := by omega
            have rai : Rg (a + i) := by unfold Rg; omega
            have h9 := fun W => rnew_k ra rd ri W
            have hgood : 0 ≤ a ∧ a ≤ a + i ∧ a + i ≤ 2097152 * ((k + 1 : Nat) : Int) := by omega
            have hpz := Lib.hid hp
            clear hp hE'
            rcases hS with ⟨rfl, rfl, rfl⟩ | ⟨lj, cj, rfl, hRj, hf0, hft, htk⟩
            · have h8 := fun W (hb : Below w.heap.size w W) => add_first hE hpz.out W (Nat.lt_of_lt_of_le hw0 hb.size) (hTab.below hb hw0)
              have H8 := Lib.hid h8
              clear h8
              go_wp2_with (first
                | (go_at_call 7; ((with_reducible refine (h7 _).mono ?_); rintro e W2 ⟨rfl, hb2⟩; have hB2 := hB.trans (hb2.mono hB.size); clear y0 y1 y2; obtain ⟨y0, y1, y2⟩ := HyW.out _ hB2))
                | (go_at_call 8; ((with_reducible refine (H8.out _ hB2).mono ?_); rintro e W3 ⟨⟨lo, co, v8, rfl, hR3⟩, hb3⟩; have hB3 := hB2.trans (hb3.mono hB2.size); clear y0 y1 y2; obtain ⟨y0, y1, y2⟩ := HyW.out _ hB3))
                | (go_at_call 9; ((with_reducible refine (h9 _).mono ?_); rintro e W4 ⟨rfl, hb4⟩; have hB4 := hB3.trans (hb4.mono hB3.size); have hR4 := hR3.below hb4; have hN0 := hzw W4; clear y0 y1 y2; obtain ⟨y0, y1, y2⟩ := HyW.out _ hB4))
                | ((with_reducible refine st_id ?_); refine AX.wpList_storeBox (vs := [.int .i64 a, .int .i64 (a + i)]) rfl rfl sz33 hN0 rfl rfl ?_; rintro W5 h3 h4 h5; obtain ⟨hN5, hb5⟩ := box2_new' h3 h4 h5; have hB5 := hB4.trans (hb5.mono hB4.size); have hR5 := hR4.below hb5; clear h3 h4 h5))
              obtain ⟨n0', n1'⟩ := hN5.at
              have n0 := AX.cell_all n0' hN5.lt; have n1 := AX.cell_all n1' hN5.lt
              clear y0 y1 y2 n0' n1' hN0
              refine AX.region_below (by kernel_rfl) (by kernel_rfl) ?_
              repeat (go_big_quiet_step (fail))
              refine wpQuiet_nil ?_
              rintro _ ⟨p, rfl⟩
              have hB6 := hB5.trans (p.h.mono hB5.size)
              have hR6 := hR5.below p.h
              generalize p.W = W6 at *
              clear n0 n1
              go_wp2_with fail
              obtain ⟨BJ, offJ, rfl, hBJ, hrJ⟩ := hR6.hl (by simp)
              obtain ⟨z0', z1', z2', z3', z4'⟩ := hrJ 0 (by simp)
              simp only [oneJ, List.getElem_cons_zero, Nat.zero_mul, Nat.add_zero] at z0' z1' z2' z3' z4'
              have z0 := AX.cell_all z0' hBJ; have z1 := AX.cell_all z1' hBJ; have z2 := AX.cell_all z2' hBJ; have z3 := AX.cell_all z3' hBJ; have z4 := AX.cell_all z4' hBJ
              have h12 : ∀ p : AX.BW W6, Calls Tryd.prog 12 #[.int .i64 0, .int .i64 a, .int .i64 (a + i), .int .i64 0] p.W fun e w' => e = .returned (.agg #[.int .i64 0, .int .i64 a, .int .i64 (a + i), .int .i64 0, .int .i64 0]) ∧ Below p.W.heap.size p.W w' := fun p => job_k (oneJ a (a + i)) rfl p.W
              clear z0' z1' z2' z3' z4'
              refine AX.region_below (by kernel_rfl) (by kernel_rfl) ?_
              repeat (go_big_quiet_step (first | (go_at_call 12; with_reducible exact AX.below_of (h12 _))))
              refine wpQuiet_nil ?_
              rintro _ ⟨p, rfl⟩
              have hB7 := hB6.trans (p.h.mono hB6.size)
              have hR7 := hR6.below p.h
              generalize p.W = W7 at *
              clear z0 z1 z2 z3 z4 h12
              go_wp2_with fail
              go_roundw
              case rel => exact ⟨k + 1, a, (a + i), by omega, by simp, rfl, rfl, hB7, .inr ⟨_, _, rfl, hR7, hgood.1, hgood.2.1, hgood.2.2⟩⟩
              case measure => simp [intOf]; omega
            · have h8 := fun W (hb : Below wr.heap.size wr W) => add_next hE hpz.out ⟨hf0, hft, by omega⟩ lj cj W (Nat.lt_of_lt_of_le hw0 (Nat.le_trans hB.size hb.size)) (hTab.below (hB.trans (hb.mono hB.size)) hw0) ((hRj.below hb).hl)
              have H8 := Lib.hid h8
              clear h8
              have rf : Rg f := by unfold Rg; omega
              have rt : Rg t := by unfold Rg; omega
              have hmv : (0 ≤ stt f a d i ∧ stt f a d i ≤ max (stt f a d i) (enn t a d i)) ∧ max (stt f a d i) (enn t a d i) ≤ 2097152 * (k : Int) + 1048576 := by
                obtain ⟨p1, p2, p3⟩ := hpz.out
                have g1 := mv_ge (a := a) (d := d) (i := i) (oneJ f t) p1 p3 hf0
                have hai : i ≤ 1048576 := (ltE_iff hE).2.2.1
                have haa : a ≤ 1048576 := (ltE_iff hE).1
                have g2 : stt f a d i ≤ max (2097152 * (k : Int)) a + i := by unfold stt bhd; split <;> (try split) <;> omega
                have g3 : enn t a d i ≤ 2097152 * (k : Int) + i := by unfold enn bhd; split <;> (try split) <;> omega
                have g1' : 0 ≤ stt f a d i := g1
                have g4 : stt f a d i ≤ 2097152 * (k : Int) + 1048576 := by unfold stt bhd; split <;> (try split) <;> omega
                omega
              have h10 := fun W => rmove_k rf rt ra rd ri W
              generalize stt f a d i = mf at *
              generalize max mf (enn t a d i) = mt at *
              have rmf : Rg mf := by unfold Rg; omega
              have rmt : Rg mt := by unfold Rg; omega
              have h11 := fun W => rjoin_k rmf rmt ra rai W
              have hgood2 : 0 ≤ min mf a ∧ min mf a ≤ max mt (a + i) ∧ max mt (a + i) ≤ 2097152 * ((k + 1 : Nat) : Int) := by have := ltE_iff hE; omega
              go_wp2_with (first
                | (go_at_call 7; ((with_reducible refine (h7 _).mono ?_); rintro e W2 ⟨rfl, hb2⟩; have hB2 := hB.trans (hb2.mono hB.size); clear y0 y1 y2; obtain ⟨y0, y1, y2⟩ := HyW.out _ hB2))
                | (go_at_call 8; ((with_reducible refine (H8.out _ hb2).mono ?_); rintro e W3 ⟨⟨lo, co, v8, rfl, hR3⟩, hb3⟩; have hB3 := hB2.trans (hb3.mono hB2.size); clear y0 y1 y2; obtain ⟨y0, y1, y2⟩ := HyW.out _ hB3))
                | (go_at_call 9; ((with_reducible refine (h9 _).mono ?_); rintro e W4 ⟨rfl, hb4⟩; have hB4 := hB3.trans (hb4.mono hB3.size); have hR4 := hR3.below hb4; have hN0 := hzw W4; clear y0 y1 y2; obtain ⟨y0, y1, y2⟩ := HyW.out _ hB4))
                | ((with_reducible refine st_id ?_); refine AX.wpList_storeBox (vs := [.int .i64 a, .int .i64 (a + i)]) rfl rfl sz33 hN0 rfl rfl ?_; rintro W5 h3 h4 h5; obtain ⟨hN5, hb5⟩ := box2_new' h3 h4 h5; have hB5 := hB4.trans (hb5.mono hB4.size); clear h3 h4 h5 hN0; clear y0 y1 y2; obtain ⟨y0, y1, y2⟩ := HyW.out _ hB5)
                | (go_at_call 10; ((with_reducible refine (h10 _).mono ?_); rintro e W6 ⟨rfl, hb6⟩; have hN6 := hN5.below hb6 hN5.lt; have hb56 := hb5.trans (hb6.mono hb5.size); have hM0 := hzw W6; clear y0 y1 y2))
                | ((with_reducible refine st_id ?_); refine AX.wpList_storeBox (vs := [.int .i64 mf, .int .i64 mt]) rfl rfl sz33 hM0 rfl rfl ?_; rintro W7 h3 h4 h5; obtain ⟨hM7, hb7⟩ := box2_new' h3 h4 h5; have hN7 := hN6.below hb7 hN6.lt; have hb57 := hb56.trans (hb7.mono hb56.size); clear h3 h4 h5 hM0; obtain ⟨m0, m1⟩ := hM7.at; obtain ⟨q0, q1⟩ := hN7.at)
                | (go_at_call 11; ((with_reducible refine (h11 _).mono ?_); rintro e W8 ⟨rfl, hb8⟩; have hN8 := hN7.below hb8 hN7.lt; have hb58 := hb57.trans (hb8.mono hb57.size); clear m0 m1 q0 q1))
                | ((with_reducible refine st_id ?_); refine AX.wpList_storeBox (vs := [.int .i64 (min mf a), .int .i64 (max mt (a + i))]) rfl rfl sz33 hN8 rfl rfl ?_; rintro W9 h3 h4 h5; have hN9 : Box2 W9 W4.heap.size (min mf a) (max mt (a + i)) := h3; have hb59 := hb58.trans (AX.below_turn (Nat.le_refl _) (.inl hN9.lt) h4 h5); clear h3 h4 h5))
              have hB5' := hB4.trans (hb59.mono hB4.size)
              have hR5 := hR4.below hb59
              clear hB5
              have hB5 := hB5'
              clear hB5' hN5 hN6 hN7 hN8
              have hN5 := hN9
              clear hN9
              generalize hFF : min mf a = F1 at *
              generalize hTT : max mt (a + i) = T1 at *
              have HFT := Lib.hid (And.intro hFF hTT)
              clear hFF hTT
              obtain ⟨n0', n1'⟩ := hN5.at
              have n0 := AX.cell_all n0' hN5.lt; have n1 := AX.cell_all n1' hN5.lt
              clear n0' n1'
              refine AX.region_below (by kernel_rfl) (by kernel_rfl) ?_
              repeat (go_big_quiet_step (fail))
              refine wpQuiet_nil ?_
              rintro _ ⟨p, rfl⟩
              have hB6 := hB5.trans (p.h.mono hB5.size)
              have hR6 := hR5.below p.h
              generalize p.W = W6 at *
              clear n0 n1
              go_wp2_with fail
              obtain ⟨BJ, offJ, rfl, hBJ, hrJ⟩ := hR6.hl (by simp)
              obtain ⟨z0', z1', z2', z3', z4'⟩ := hrJ 0 (by simp)
              simp only [oneJ, List.getElem_cons_zero, Nat.zero_mul, Nat.add_zero] at z0' z1' z2' z3' z4'
              have z0 := AX.cell_all z0' hBJ; have z1 := AX.cell_all z1' hBJ; have z2 := AX.cell_all z2' hBJ; have z3 := AX.cell_all z3' hBJ; have z4 := AX.cell_all z4' hBJ
              have h12 : ∀ p : AX.BW W6, Calls Tryd.prog 12 #[.int .i64 0, .int .i64 F1, .int .i64 T1, .int .i64 0] p.W fun e w' => e = .returned (.agg #[.int .i64 0, .int .i64 F1, .int .i64 T1, .int .i64 0, .int .i64 0]) ∧ Below p.W.heap.size p.W w' := fun p => job_k (oneJ F1 T1) rfl p.W
              clear z0' z1' z2' z3' z4'
              refine AX.region_below (by kernel_rfl) (by kernel_rfl) ?_
              repeat (go_big_quiet_step (first | (go_at_call 12; with_reducible exact AX.below_of (h12 _))))
              refine wpQuiet_nil ?_
              rintro _ ⟨p, rfl⟩
              have hB7 := hB6.trans (p.h.mono hB6.size)
              have hR7 := hR6.below p.h
              generalize p.W = W7 at *
              clear z0 z1 z2 z3 z4 h12
              go_wp2_with fail
              go_roundw
              case rel => exact ⟨k + 1, F1, T1, by omega, by simp, rfl, rfl, hB7, .inr ⟨_, _, rfl, hR7, hgood2.1, hgood2.2.1, hgood2.2.2⟩⟩
              case measure => simp [intOf]; omega
          · have hneg := Lib.hid hp
            clear hE'
            rcases hS with ⟨rfl, rfl, rfl⟩ | ⟨lj, cj, rfl, hRj, hf0, hft, htk⟩
            · have h8 := fun W => add_neg (a := a) (d := d) (i := i) [] (by simp) hneg.out none 0 W (fun h => absurd rfl h)
              have hcs : a < 0 ∨ (¬ a < 0 ∧ (d < 0 ∨ (¬ d < 0 ∧ i < 0))) := by have := hneg.out; omega
              clear hneg
              simp only [List.length_cons, List.length_nil, Nat.zero_add] at h8
              have H8 := Lib.hid h8
              clear h8
              rcases hcs with q1 | ⟨q1, q2 | ⟨q2, q3⟩⟩
              all_goals
                go_wp2_with (first
                  | (go_at_call 7; ((with_reducible refine (h7 _).mono ?_); rintro e W2 ⟨rfl, hb2⟩; have hB2 := hB.trans (hb2.mono hB.size); clear y0 y1 y2; obtain ⟨y0, y1, y2⟩ := HyW.out _ hB2))
                  | (go_at_call 8; ((with_reducible refine (H8.out _).mono ?_); rintro e W3 ⟨rfl, hb3⟩; have hB3 := hB2.trans (hb3.mono hB2.size); clear y0 y1 y2; obtain ⟨y0, y1, y2⟩ := HyW.out _ hB3)))
                go_roundw
                case rel => exact ⟨k + 1, 0, 0, by omega, by simp, rfl, rfl, hB3, .inl ⟨rfl, rfl, rfl⟩⟩
                case measure => simp [intOf]; omega
            · have h8 := fun W (hb : Below wr.heap.size wr W) => add_neg (a := a) (d := d) (i := i) [oneJ f t] (by simp) hneg.out lj cj W ((hRj.below hb).hl)
              have hcs : a < 0 ∨ (¬ a < 0 ∧ (d < 0 ∨ (¬ d < 0 ∧ i < 0))) := by have := hneg.out; omega
              clear hneg
              simp only [List.length_cons, List.length_nil, Nat.zero_add] at h8
              have H8 := Lib.hid h8
              clear h8
              rcases hcs with q1 | ⟨q1, q2 | ⟨q2, q3⟩⟩
              all_goals
                go_wp2_with (first
                  | (go_at_call 7; ((with_reducible refine (h7 _).mono ?_); rintro e W2 ⟨rfl, hb2⟩; have hB2 := hB.trans (hb2.mono hB.size); clear y0 y1 y2; obtain ⟨y0, y1, y2⟩ := HyW.out _ hB2))
                  | (go_at_call 8; ((with_reducible refine (H8.out _ hb2).mono ?_); rintro e W3 ⟨rfl, hb3⟩; have hB3 := hB2.trans (hb3.mono hB2.size); clear y0 y1 y2; obtain ⟨y0, y1, y2⟩ := HyW.out _ hB3)))
                go_roundw
                case rel => exact ⟨k + 1, f, t, by omega, by simp, rfl, rfl, hB3, .inr ⟨_, _, rfl, (hRj.below hb2).below hb3, hf0, hft, by omega⟩⟩
                case measure => simp [intOf]; omega
      · obtain rfl : k = l.length := by omega
        go_wp2_with fail
        go_ret
        exact ⟨rfl, hB⟩
end
end Go.Proofs.YtpplkjjfaibmmaaDoor
