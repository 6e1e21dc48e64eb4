/- DirtyKeeps: where Add answers. -/
import Derived.Test.YtpplkjjfaibmmaaDoorM1
import Derived.Deep.CutRange
namespace Go.Proofs.YtpplkjjfaibmmaaDoor
open Go Go.Proofs Go.RowKit
attribute [local go_sem] Oper.semAt_some
/-- What the law keeps. -/
structure M4 (w : World) (a d i : Int) (v6 v8 : Value) (base : Nat) (out : List J) (went : List (Int × Int)) (W : World) : Prop where
  b : Below w.heap.size w W
  e : Box3 W w.heap.size a d i
  r : RRow W v6 out
  g : WRow W base v8 went
theorem M4.below {w : World} {a d i : Int} {v6 v8 : Value} {base : Nat} {out : List J} {went : List (Int × Int)} {X Y : World} (h : M4 w a d i v6 v8 base out went X) (hb : Below X.heap.size X Y) : M4 w a d i v6 v8 base out went Y :=
  ⟨h.b.trans (hb.mono h.b.size), h.e.below hb h.e.lt, h.r.below hb, h.g.below hb⟩
theorem box2_new {V W4 : World} {p q : Int} (h3 : W4.heap[V.heap.size]? = some (.cells ([.int .i64 p, .int .i64 q] : List Value).toArray 33 (0, 0))) (h4 : ∀ k, k ≠ V.heap.size → W4.heap[k]? = (V.alloc (.cells #[.int .i64 0, .int .i64 0] 33)).heap[k]?) (h5 : AX.Same (V.alloc (.cells #[.int .i64 0, .int .i64 0] 33)) W4) : Box2 W4 V.heap.size p q ∧ Below V.heap.size V W4 :=
  ⟨h3, ((Below.refl _ V).alloc (Nat.le_refl _) _).trans (AX.below_turn (Nat.le_refl _) (.inl (Array.getElem?_eq_some_iff.1 h3).1) h4 h5)⟩
theorem one_box' {V W4 : World} {p : J} (h3 : W4.heap[V.heap.size]? = some (.cells ([.int .i64 p.s, .int .i64 p.f, .int .i64 p.t, .int .i64 p.a, .int .i64 p.l] : List Value).toArray 38 (0, 0))) (h4 : ∀ k, k ≠ V.heap.size → W4.heap[k]? = (V.alloc (.cells #[.int .i64 0, .int .i64 0, .int .i64 0, .int .i64 0, .int .i64 0] 38)).heap[k]?) (h5 : AX.Same (V.alloc (.cells #[.int .i64 0, .int .i64 0, .int .i64 0, .int .i64 0, .int .i64 0] 38)) W4) : Box5 W4 V.heap.size p ∧ Below V.heap.size V W4 := one_box h3 h4 h5
theorem wflat_get : ∀ (l : List (Int × Int)) (i : Nat) (h : i < l.length) (j : Nat) (v : Value), (encW l[i])[j]? = some v → (l.flatMap encW)[i * 2 + j]? = some v
  | x :: l, 0, _, j, v, hv => by
    have hj : j < (encW x).length := (List.getElem?_eq_some_iff.1 hv).1
    rw [List.flatMap_cons, Nat.zero_mul, Nat.zero_add, List.getElem?_append_left hj]
    exact hv
  | x :: l, i + 1, h, j, v, hv => by
    rw [List.flatMap_cons, List.getElem?_append_right (by simp [encW]; omega)]
    have := wflat_get l i (by simpa using h) j v (by simpa using hv)
    rw [show (i + 1) * 2 + j - (encW x).length = i * 2 + j by simp [encW]; omega]
    exact this
theorem WRow.at {W : World} {base : Nat} {lw : Option Addr} {n cw : Nat} {went : List (Int × Int)} (h : WRow W base (.slice lw n cw) went) (m : Nat) (hm : m < went.length) : ∃ g, lw = some ⟨g, 0, none⟩ ∧ W.cell? ⟨g, m * 2, none⟩ = some (.int .i64 went[m].1) ∧ W.cell? ⟨g, m * 2 + 1, none⟩ = some (.int .i64 went[m].2) := by
  rcases h.2 with ⟨e, hn⟩ | ⟨g, cap, cur, e, hg, hh, rest⟩
  · omega
  · cases e
    have H : ∀ j v, (encW went[m])[j]? = some v → W.cell? ⟨g, m * 2 + j, none⟩ = some v := fun j v hv => by
      have := World.ownsRow.cells h (g := g) rfl (m * 2 + j) v (wflat_get went m hm j v hv)
      rw [j_addr_add, Nat.zero_add] at this
      exact this
    exact ⟨g, rfl, H 0 _ rfl, H 1 _ rfl⟩
section
variable {l : List J} {a d i room : Int} {la : Option Addr} {c : Nat} {w : World}
set_option maxRecDepth 100000 in
set_option maxHeartbeats 4000000 in
theorem keeps_c (hl : l.length ≤ 40) (hE : ltE a d i = true) (hac : 0 ≤ a ∧ 0 ≤ d ∧ 0 ≤ i) (hr32 : room ≤ 32) (hR : HL w la l) (hrg : ∀ x ∈ l, RgJ x)
    (hL : ∀ W, Below w.heap.size w W → Calls Tryd.prog 6 #[] W fun e w' => e = .returned (.bool true) ∧ Below W.heap.size W w')
    (h13 : ∀ W, Below w.heap.size w W → Calls Tryd.prog 13 #[.slice la l.length c, .agg #[.int .i64 a, .int .i64 d, .int .i64 i]] W fun e w' => e = .returned (.bool true) ∧ Below W.heap.size W w')
    (h8 : ∀ W, Below w.heap.size w W → Calls Tryd.prog 8 #[.slice la l.length c, .agg #[.int .i64 a, .int .i64 d, .int .i64 i], .int .i64 room] W fun e w' => (∃ (v6 v8 : Value) (base : Nat) (out : List J) (slot : Int) (went : List (Int × Int)), e = .returned (.tuple #[v6, .int .i64 slot, v8, .int .i64 0]) ∧ RRow w' v6 out ∧ WRow w' base v8 went ∧ went.length ≤ 40 ∧ Hid (Holds1 a d i l out slot went ∧ (out.length : Int) ≤ room)) ∧ Below W.heap.size W w') :
    Calls Tryd.prog 4 #[.slice la l.length c, .agg #[.int .i64 a, .int .i64 d, .int .i64 i], .int .i64 room] w fun e w' => e = .returned (.bool true) ∧ Below w.heap.size w w' := by
  have h3 := Box3.new w a d i
  have hB0 : Below w.heap.size w (w.alloc (.cells #[.int .i64 a, .int .i64 d, .int .i64 i] 27)) := (Below.refl _ w).alloc (Nat.le_refl _) _
  have hE' := ltE_iff hE
  have ra : Rg a := by unfold Rg; omega
  have rd : Rg d := by unfold Rg; omega
  have ri : Rg i := by unfold Rg; omega
  have h9 := fun W => rnew_k ra rd ri W
  clear hE hE'
  go_enter Tryd.func4, Tryd.ntmps4
  go_wp2_with fail
  generalize w.alloc (.cells #[.int .i64 a, .int .i64 d, .int .i64 i] 27) = W0 at *
  have hzz := fun W : World => Bx.new W 38 #[.int .i64 0, .int .i64 0, .int .i64 0, .int .i64 0, .int .i64 0]
  have hzw := fun W : World => Bx.new W 33 #[.int .i64 0, .int .i64 0]
  go_wp2_with (first
    | (go_at_call 6; ((with_reducible refine (hL _ hB0).mono ?_); rintro e W1 ⟨rfl, hb1⟩; have hB1 := hB0.trans (hb1.mono hB0.size); have h31 := h3.below hb1 h3.lt; obtain ⟨e0, e1, e2⟩ := h31.at))
    | (go_at_call 13; ((with_reducible refine (h13 _ hB1).mono ?_); rintro e W2 ⟨rfl, hb2⟩; have hB2 := hB1.trans (hb2.mono hB1.size); have h32 := h31.below hb2 h31.lt; clear e0 e1 e2; obtain ⟨e0, e1, e2⟩ := h32.at))
    | (go_at_call 8; ((with_reducible refine (h8 _ hB2).mono ?_); rintro e W3 ⟨⟨v6, v8, base, out, slot, went, rfl, hr6, hg8, hwl, hH⟩, hb3⟩; have hM3 : M4 w a d i v6 v8 base out went W3 := ⟨hB2.trans (hb3.mono hB2.size), h32.below hb3 h32.lt, hr6, hg8⟩; clear e0 e1 e2 hr6 hg8; obtain ⟨lo, co, rfl, _⟩ := id hM3.r; obtain ⟨lw, cw, rfl⟩ := row_shape hM3.g; have hol : out.length ≤ 32 := (by have := hH.out.2; omega); have hol2 : ¬ room < (out.length : Int) := (by have := hH.out.2; omega); have hon : ((out.length : Int) == 0) = false := (by obtain ⟨o, ho, _⟩ := hH.out.1.own; have : 0 < out.length := List.length_pos_of_mem ho; rw [beq_eq_false_iff_ne]; omega); have h14 := check_k out (by omega) lo co W3 hM3.r.hl; rw [(checkV_iff out).2 ⟨hol, hH.out.1.so, hH.out.1.gd⟩] at h14))
    | (go_at_call 14; ((with_reducible refine h14.mono ?_); rintro e W4 ⟨rfl, hb4⟩; have hM4 := hM3.below hb4; have h15 := find_k out (by omega) slot W4 hM4.r; clear h14)))
  have hH1 := Lib.hid hH.out.1.own
  refine h15.mono ?_
  rintro e W5 ⟨he, hb5⟩
  obtain ⟨o, rfl, ho1, ho2⟩ : ∃ o : J, e = .returned (.tuple #[o.v, .bool true]) ∧ o.f ≤ a ∧ a + i ≤ o.t := by
    obtain ⟨o', ho', hs', hf', ht'⟩ := hH1.out
    rcases he with ⟨x, hx, hxs, rfl⟩ | ⟨_, hno⟩
    · have := uniq hH.out.1.so hx ho' (hxs.trans hs'.symm)
      subst this
      exact ⟨x, rfl, hf', ht'⟩
    · exact absurd hs' (hno _ ho')
  have hM5 := hM4.below hb5
  have hX0 := hzz W5
  clear hM3 hM4 hb3 hb4 hb5 h15 he hL h13 h8 hzz hB0 hB1 hB2 h3 h31 h32 hb1 hb2
  unfold J.v
  have ho1' : ¬ a < o.f := by omega
  have ho2' : ¬ o.t < a + i := by omega
  go_wp2_with (first
    | ((with_reducible refine st_id ?_); refine AX.wpList_storeBox (vs := [.int .i64 o.s, .int .i64 o.f, .int .i64 o.t, .int .i64 o.a, .int .i64 o.l]) rfl rfl sz38' hX0 rfl rfl ?_; rintro W6 h3 h4 h5; obtain ⟨hX6, hb6⟩ := one_box' h3 h4 h5; have hM6 := hM5.below hb6; clear h3 h4 h5; obtain ⟨e0, e1, e2⟩ := hM6.e.at)
    | (go_at_call 9; ((with_reducible refine (h9 _).mono ?_); rintro e W7 ⟨rfl, hb7⟩; have hM7 := hM6.below hb7; have hX7 := hX6.below hb7 hX6.lt; have hN0 := hzw W7; clear e0 e1 e2))
    | ((with_reducible refine st_id ?_); refine AX.wpList_storeBox (vs := [.int .i64 a, .int .i64 (a + i)]) rfl rfl sz33 hN0 rfl rfl ?_; rintro W8 h3 h4 h5; obtain ⟨hN8, hb8⟩ := box2_new h3 h4 h5; have hM8 := hM7.below hb8; have hX8 := hX7.below hb8 hX7.lt; clear h3 h4 h5; obtain ⟨x0, x1, x2, x3, x4⟩ := hX8.cs; obtain ⟨n0, n1⟩ := hN8.at))
  clear hX6 hb6 hM6 hb7 hX7 hM7 hN0 hX8 hN8 hb8 hX0 hM5 x0 x1 x2 x3 x4 n0 n1 ho1 ho2 ho1' ho2' hzw
  generalize W5.heap.size = z5 at *
  generalize W7.heap.size = z7 at *
  go_loopw [14] (fun j wr => ∃ k : Nat, k ≤ l.length ∧ j = .int .i64 k ∧ M4 w a d i (.slice lo out.length co) (.slice lw went.length cw) base out went wr) (fun j _ => l.length - (intOf j).toNat)
  case atStart => exact ⟨0, Nat.zero_le _, rfl, hM8⟩
  case round =>
    obtain ⟨k, hk, rfl, hM⟩ := hrel
    clear hM8
    by_cases hlt : k < l.length
    · obtain ⟨B, off, hla, hBl, hRow⟩ := (hR.below (hM.b)) (by intro e; subst e; cases hlt)
      subst hla
      obtain ⟨y0, y1, y2, y3, y4⟩ := hRow k hlt
      have hall := Lib.hid (hH.out.1.all l[k] (List.getElem_mem hlt))
      have hxr := hrg l[k] (List.getElem_mem hlt)
      generalize l[k] = x at *
      have hk0 : (0 : Int) ≤ (k : Int) := by omega
      have hk1 : (k : Int) < (l.length : Int) := by omega
      go_wp2_with fail
      go_loopw [15, 16] (fun s' j wq => ∃ m : Nat, m ≤ went.length ∧ j = .int .i64 m ∧ s' = .int .i64 (goTo (went.take m) x.s) ∧ wq = wr) (fun _ j _ => went.length - (intOf j).toNat)
      case atStart => exact ⟨0, Nat.zero_le _, rfl, rfl, rfl⟩
      case round =>
        obtain ⟨m, hm, rfl, rfl, rfl⟩ := hrel
        by_cases hml : m < went.length
        · obtain ⟨g, rfl, c0, c1⟩ := hM.g.at m hml
          have htk : Hid (goTo (went.take (m + 1)) x.s = if went[m].1 = goTo (went.take m) x.s then went[m].2 else goTo (went.take m) x.s) := Lib.hid (by rw [List.take_succ_eq_append_getElem hml, goTo_snoc])
          generalize went[m] = p at *
          generalize goTo (went.take m) x.s = s0 at *
          have hm0 : (0 : Int) ≤ (m : Int) := by omega
          have hm1 : (m : Int) < (went.length : Int) := by omega
          by_cases hp : p.1 = s0
          · go_wp2
            go_roundw
            case rel => exact ⟨m + 1, by omega, by simp, by rw [htk.out, if_pos hp], trivial⟩
            case measure => simp [intOf]; omega
          · have hp' : (p.1 == s0) = false := by simpa using hp
            go_wp2
            go_roundw
            case rel => exact ⟨m + 1, by omega, by simp, by rw [htk.out, if_neg hp], trivial⟩
            case measure => simp [intOf]; omega
        · obtain rfl : m = went.length := by omega
          rw [List.take_length]
          obtain ⟨sg, hsg⟩ : ∃ sg, sg = goTo went x.s := ⟨_, rfl⟩
          rw [← hsg]
          have HSG := Lib.hid hsg
          clear hsg
          have h15 := find_k out (by omega) sg wr hM.r
          go_wp2_with fail
          refine h15.mono ?_
          rintro e W5 ⟨he, hb5⟩
          obtain ⟨o, rfl, ho1, ho2, ho3, ho4⟩ : ∃ o : J, e = .returned (.tuple #[o.v, .bool true]) ∧ o.f ≤ (mvJ a d i x).f ∧ (mvJ a d i x).t ≤ o.t ∧ x.a ≤ o.a ∧ (sg ≠ x.s → o.l = 0) := by
            obtain ⟨o', ho', hs', hf', ht', ha', hl'⟩ := hall.out
            rw [← HSG.out] at hs' hl'
            rcases he with ⟨y, hy, hys, rfl⟩ | ⟨_, hno⟩
            · have := uniq hH.out.1.so hy ho' (hys.trans hs'.symm)
              subst this
              exact ⟨y, rfl, hf', ht', ha', hl'⟩
            · exact absurd hs' (hno _ ho')
          have hM5 := hM.below hb5
          have hX0 := Bx.new W5 38 #[.int .i64 0, .int .i64 0, .int .i64 0, .int .i64 0, .int .i64 0]
          have hBl5 : B < W5.heap.size := Nat.lt_of_lt_of_le hBl hb5.size
          have hy5 : JAt W5 B (off + k * 5) x := JAt.below ⟨y0, y1, y2, y3, y4⟩ hb5 hBl
          have ho3' : ¬ o.a < x.a := by omega
          have ho1' : ¬ stt x.f a d i < o.f := by have : o.f ≤ stt x.f a d i := ho1; omega
          have ho2' : ¬ o.t < max (stt x.f a d i) (enn x.t a d i) := by have : max (stt x.f a d i) (enn x.t a d i) ≤ o.t := ho2; omega
          have h10 := fun W => rmove_k hxr.1 hxr.2 ra rd ri W
          generalize stt x.f a d i = mf at *
          generalize max mf (enn x.t a d i) = mt at *
          have HO4 := Lib.hid ho4
          clear h15 he hall y0 y1 y2 y3 y4 ho1 ho2 ho3 ho4 hM
          unfold J.v
          go_wp2_with (((with_reducible refine st_id ?_); refine AX.wpList_storeBox (vs := [.int .i64 o.s, .int .i64 o.f, .int .i64 o.t, .int .i64 o.a, .int .i64 o.l]) rfl rfl sz38' hX0 rfl rfl ?_; rintro W6 h3 h4 h5; obtain ⟨hX6, hb6⟩ := one_box' h3 h4 h5; have hM6 := hM5.below hb6; clear h3 h4 h5))
          have hy6 := hy5.below hb6 hBl5
          have hBl6 := Nat.lt_of_lt_of_le hBl5 hb6.size
          have hEl6 := hM6.e.lt
          obtain ⟨y0, y1, y2, y3, y4⟩ := hy6
          obtain ⟨e0, e1, e2⟩ := hM6.e.at
          go_cut [19] from 120 to 126 (fun t wz => ∃ N : Nat, t = .pointer (some ⟨N, 0, none⟩) ∧ Box2 wz N mf mt ∧ M4 w a d i (.slice lo out.length co) (.slice lw went.length cw) base out went wz ∧ Box5 wz W5.heap.size o ∧ JAt wz B (off + k * 5) x ∧ B < wz.heap.size)
          case first =>
            go_region_with (go_at_call 10; (first
              | (refine (h10 (W6.drew.alloc (.cells #[.int .i64 0, .int .i64 0] 33))).mono ?_; rintro e W7 ⟨rfl, hb7⟩; have hN : Box2 W7 W6.heap.size 0 0 := (Box2.new W6.drew 0 0).below hb7 (by simp); obtain ⟨n0, n1⟩ := hN.at; have fn0 := hN.frozen 0; have fn1 := hN.frozen 1; have hB7 : Below W6.heap.size W6 W7 := ((Below.refl _ W6).drew.alloc (Nat.le_refl _) (.cells #[.int .i64 0, .int .i64 0] 33)).trans (hb7.mono (by simp)))
              | (refine (h10 _).mono ?_; rintro e W7 ⟨rfl, hb7⟩; have hB7 : Below W6.heap.size W6 W7 := (Below.refl _ W6).drew.trans hb7)))
            all_goals (go_wp2_with fail; go_meet)
            all_goals
              case rel =>
                first
                  | (have hBf : Below W6.heap.size W6 ((W7.setCell ⟨W6.heap.size, 0, none⟩ (.int .i64 mf)).setCell ⟨W6.heap.size, 1, none⟩ (.int .i64 mt)) := (hB7.setCell (p := ⟨W6.heap.size, 0, none⟩) (Nat.le_refl _) _).setCell (p := ⟨W6.heap.size, 1, none⟩) (Nat.le_refl _) _
                     exact ⟨_, rfl, hN.set mf mt, hM6.below hBf, hX6.below hBf hX6.lt, JAt.below ⟨y0, y1, y2, y3, y4⟩ hBf hBl6, Nat.lt_of_lt_of_le hBl6 hBf.size⟩)
                  | (have hBf := hB7.alloc hB7.size (.cells #[.int .i64 mf, .int .i64 mt] 33)
                     exact ⟨_, rfl, Box2.new W7 mf mt, hM6.below hBf, hX6.below hBf hX6.lt, JAt.below ⟨y0, y1, y2, y3, y4⟩ hBf hBl6, Nat.lt_of_lt_of_le hBl6 hBf.size⟩)
          case rest =>
            obtain ⟨N, rfl, hN, hM7, hX7, hy7, hBl7⟩ := hcut
            clear y0 y1 y2 y3 y4 e0 e1 e2 hM5 hM6 hX6 hy5 hX0 hb5 hb6 h10
            obtain ⟨C, hCi, hCo⟩ : ∃ C : World → Prop, (∀ Z, C Z → Below wc.heap.size wc Z) ∧ (∀ Z, Below wc.heap.size wc Z → C Z) := ⟨fun Z => Below wc.heap.size wc Z, fun _ h => h, fun _ h => h⟩
            have n0 := AX.cell_all hN.at.1 hN.lt; have n1 := AX.cell_all hN.at.2 hN.lt
            have x0 := AX.cell_all hX7.cs.1 hX7.lt; have x1 := AX.cell_all hX7.cs.2.1 hX7.lt; have x2 := AX.cell_all hX7.cs.2.2.1 hX7.lt; have x3 := AX.cell_all hX7.cs.2.2.2.1 hX7.lt
            have y0 := AX.cell_all hy7.c0 hBl7; have y3 := AX.cell_all hy7.c3 hBl7
            clear hCi hCo
            go_wp2_with fail
            refine AX.region_below (by kernel_rfl) (by kernel_rfl) ?_
            repeat (go_big_quiet_step (fail))
            simp only [show ¬ (mf < o.f) by omega, decide_false]
            repeat (go_big_quiet_step (fail))
            simp only [show ¬ (o.t < mt) by omega, decide_false]
            repeat (go_big_quiet_step (fail))
            simp only [show ¬ (o.a < x.a) by omega, decide_false]
            refine wpQuiet_nil ?_
            rintro _ ⟨p, rfl⟩
            have hB9 := p.h
            have hM9 := hM7.below hB9
            have hX9 := hX7.below hB9 hX7.lt
            have hy9 := hy7.below hB9 hBl7
            generalize p.W = W9 at *
            clear n0 n1 x0 x1 x2 x3 y0 y3 hM7 hX7 hy7 hN
            obtain ⟨x0, x1, x2, x3, x4⟩ := hX9.cs
            obtain ⟨y0, y1, y2, y3, y4⟩ := hy9
            by_cases hs : sg = x.s
            · subst hs
              go_wp2_with fail
              go_roundw
              case rel => exact ⟨k + 1, by omega, by simp, hM9⟩
              case measure => simp [intOf]; omega
            · have hl0 := HO4.out hs
              rw [hl0] at x4
              have hs' : (sg == x.s) = false := by simpa using hs
              go_wp2_with fail
              go_roundw
              case rel => exact ⟨k + 1, by omega, by simp, hM9⟩
              case measure => simp [intOf]; omega
    · obtain rfl : k = l.length := by omega
      have hlen := hH.out.1.len
      rcases hlen with hlen | hlen
      · have h1 : (out.length : Int) + (went.length : Int) = (l.length : Int) + 1 := by omega
        clear hlen
        go_wp2_with fail
        all_goals exact bodyPost_ret (v := .bool true) (by simp [results, Tryd.results4, go_sem]) rfl ⟨rfl, hM.b⟩
      · have h1 : (out.length : Int) + (went.length : Int) = (l.length : Int) := by omega
        have h2 : (((out.length : Int) + (went.length : Int)) == (l.length : Int) + 1) = false := by rw [beq_eq_false_iff_ne]; omega
        clear hlen
        go_wp2_with fail
        all_goals exact bodyPost_ret (v := .bool true) (by simp [results, Tryd.results4, go_sem]) rfl ⟨rfl, hM.b⟩
end
end Go.Proofs.YtpplkjjfaibmmaaDoor
