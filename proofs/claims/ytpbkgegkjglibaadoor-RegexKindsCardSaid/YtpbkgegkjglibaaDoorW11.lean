/- Regex: node (alt). -/
import Derived.Test.YtpbkgegkjglibaaDoorW8
import Derived.Test.YtpbkgegkjglibaaDoorRg7
namespace Go.Proofs.YtpbkgegkjglibaaDoor
open Go Go.Proofs Go.RowKit
attribute [local go_sem] Oper.semAt_some
def row36_18 : List (Nat × Bool) := [(0, false), (1, false), (2, false), (3, false), (4, false), (5, false), (6, false), (7, false), (8, true)]
def inf36_18 : List AX.Inf := [⟨0, 9671406556917033397649408, 64, true⟩, ⟨1, 19342813113834066795298816, 9671406556917033397649408, true⟩, ⟨0, 38685626227668133590597632, 4, true⟩, ⟨4, 77371252455336267181195264, 38685626227668133590597632, true⟩, ⟨0, 154742504910672534362390528, 1024, true⟩, ⟨24, 309485009821345068724781056, 232113757366008801543585792, true⟩, ⟨32, 618970019642690137449562112, 309485009821345068724781056, true⟩, ⟨64, 1237940039285380274899124224, 618970019642690137449562112, true⟩, ⟨130, 2475880078570760549798248448, 1257282852399214341694423040, false⟩]
theorem fit36_18 : AX.mixF inf36_18 row36_18 0 = true := by kernel_rfl
def row36_19 : List (Nat × Bool) := [(0, false), (1, false), (2, false), (3, false), (4, false), (5, false), (6, false), (7, false), (8, true)]
def inf36_19 : List AX.Inf := [⟨0, 4951760157141521099596496896, 64, true⟩, ⟨1, 9903520314283042199192993792, 4951760157141521099596496896, true⟩, ⟨0, 19807040628566084398385987584, 4, true⟩, ⟨4, 39614081257132168796771975168, 19807040628566084398385987584, true⟩, ⟨0, 79228162514264337593543950336, 1024, true⟩, ⟨24, 158456325028528675187087900672, 118842243771396506390315925504, true⟩, ⟨32, 316912650057057350374175801344, 158456325028528675187087900672, true⟩, ⟨64, 633825300114114700748351602688, 316912650057057350374175801344, true⟩, ⟨130, 1267650600228229401496703205376, 643728820428397742947544596480, false⟩]
theorem fit36_19 : AX.mixF inf36_19 row36_19 0 = true := by kernel_rfl
set_option maxRecDepth 100000 in
set_option maxHeartbeats 4000000 in
theorem node_alt (NB n i c cr : Nat) (bs : Nat → Nat) (B off : Nat) (ev : Value) (nx : List (List Bool)) (es : List En) (x : Nd) (hn : n ≤ 1000) (hi : i < n) (hx : NdOk i x) (hk2 : ¬ x.k = 2 ∧ ¬ x.k = 3) (hes : es.length = i) (hwf : ∀ (j : Nat) y, es[j]? = some y → EnWf n (i + 1) y) (w0 w : World) (hN : NAt w NB n (i + 1) bs nx) (hE : EAt w ev n (i + 1) bs es)
    (hB : B < w0.heap.size) (hX : XAt w0 B (off + i * 6) x) (hlow : Below w0.heap.size w0 w) (hbs : ∀ j, j < i + 1 → w0.heap.size ≤ bs j) :
    Calls Tryd.prog 36 #[.agg #[.slice (some ⟨B, off, none⟩) n cr, ev, .slice (some ⟨NB, 0, none⟩) n c], .int .i64 i] w fun e w' =>
      EnRes w w' n (nodeV n es nx i x).2 e ∧ NAt w' NB n (i + 1) bs (nodeV n es nx i x).1 ∧ ButS (fun k => ∃ j, j < i + 1 ∧ k = bs j) w w' := by
  have HK := Lib.hid hk2
  clear hk2
  have HX := Lib.hid hx
  clear hx
  obtain ⟨s, hs⟩ : ∃ s, s = w.heap.size := ⟨_, rfl⟩
  have hNl := hN.lt
  have hbb := fun j (hj : j < i + 1) => hN.blt hi hj
  have hi0 : (0 : Int) ≤ (i : Int) := by omega
  have hi1 : (i : Int) < (n : Int) := by omega
  have hB0 : Below w.heap.size w (((w.alloc (.cells #[.slice (some ⟨B, off, none⟩) n cr, ev, .slice (some ⟨NB, 0, none⟩) n c] 75)).alloc (.cells #[.bool false, .slice none 0 0, .slice none 0 0] 79)).alloc (.cells #[.int .i64 0, .int .u64 0, .int .u64 0, .int .u64 0, .int .u64 0, .slice none 0 0] 45)) := (((Below.refl _ w).alloc (Nat.le_refl _) _).alloc (by simp) _).alloc (by simp <;> omega) _
  have x2 := ((Bx.new w 75 #[.slice (some ⟨B, off, none⟩) n cr, ev, .slice (some ⟨NB, 0, none⟩) n c]).alloc (.cells #[.bool false, .slice none 0 0, .slice none 0 0] 79)).alloc (.cells #[.int .i64 0, .int .u64 0, .int .u64 0, .int .u64 0, .int .u64 0, .slice none 0 0] 45)
  have x4 := (Bx.new (w.alloc (.cells #[.slice (some ⟨B, off, none⟩) n cr, ev, .slice (some ⟨NB, 0, none⟩) n c] 75)) 79 #[.bool false, .slice none 0 0, .slice none 0 0]).alloc (.cells #[.int .i64 0, .int .u64 0, .int .u64 0, .int .u64 0, .int .u64 0, .slice none 0 0] 45)
  have x5 := Bx.new ((w.alloc (.cells #[.slice (some ⟨B, off, none⟩) n cr, ev, .slice (some ⟨NB, 0, none⟩) n c] 75)).alloc (.cells #[.bool false, .slice none 0 0, .slice none 0 0] 79)) 45 #[.int .i64 0, .int .u64 0, .int .u64 0, .int .u64 0, .int .u64 0, .slice none 0 0]
  simp only [World.size_alloc] at x4 x5
  obtain ⟨k0, k1, k2, k3, k4, kv, k5, hIR⟩ := hX
  obtain ⟨lk, ck, rfl, hK1, hK2⟩ := hIR
  have hBw : B < w.heap.size := Nat.lt_of_lt_of_le hB hlow.size
  replace k0 := (hlow.cell (p := ⟨B, off + i * 6, none⟩) hB).trans k0
  replace k1 := (hlow.cell (p := ⟨B, off + i * 6 + 1, none⟩) hB).trans k1
  replace k2 := (hlow.cell (p := ⟨B, off + i * 6 + 2, none⟩) hB).trans k2
  replace k3 := (hlow.cell (p := ⟨B, off + i * 6 + 3, none⟩) hB).trans k3
  replace k4 := (hlow.cell (p := ⟨B, off + i * 6 + 4, none⟩) hB).trans k4
  replace k5 := (hlow.cell (p := ⟨B, off + i * 6 + 5, none⟩) hB).trans k5
  have hs5 := x5.lt
  go_enter Tryd.func36, Tryd.ntmps36
  go_wp2_with ((with_reducible refine st_id ?_); refine AX.wpList_storeBox (vs := [.int .i64 x.k, .int .u64 x.a, .int .u64 x.b, .int .u64 x.c, .int .u64 x.d, .slice lk x.kids.length ck]) rfl rfl sz45 x5 rfl rfl ?_; rintro W1 h3 h4 h5)
  have y5 : Bx W1 (w.heap.size + 1 + 1) 45 #[.int .i64 x.k, .int .u64 x.a, .int .u64 x.b, .int .u64 x.c, .int .u64 x.d, .slice lk x.kids.length ck] := h3
  have y2 : Bx W1 w.heap.size 75 #[.slice (some ⟨B, off, none⟩) n cr, ev, .slice (some ⟨NB, 0, none⟩) n c] := (h4 _ (by omega)).trans x2
  have y4 : Bx W1 (w.heap.size + 1) 79 #[.bool false, .slice none 0 0, .slice none 0 0] := (h4 _ (by omega)).trans x4
  have hb2 : Below w.heap.size w W1 := hB0.trans (AX.below_turn (by omega) (.inl (Array.getElem?_eq_some_iff.1 h3).1) h4 h5)
  clear h3 h4 h5 x2 x4 x5 hB0 hs5
  have hN1 := hN.below hb2 (hs ▸ hNl) (fun j hj => hbb j hj)
  have hEw := hE
  have hws := hlow.size
  clear hBw
  have hs1 : w.heap.size + 3 ≤ W1.heap.size := by have := y5.lt; omega
  rw [← hs] at hNl hbb y2 y4 y5 hb2 hs1 hws ⊢
  have hkid : ∀ m q, x.kids[m]? = some q → ∃ B2 off2, lk = some ⟨B2, off2, none⟩ ∧ B2 < w0.heap.size ∧ w0.cell? ⟨B2, off2 + m, none⟩ = some (.int .i64 q) := by
    intro m q hq
    cases lk with
    | none => have := hK1 rfl; rw [this] at hq; simp at hq
    | some ad =>
      obtain ⟨B2, off2, rfl, hB2, hKc⟩ := hK2 _ rfl (by intro e; rw [e] at hq; simp at hq)
      exact ⟨B2, off2, rfl, hB2, hKc m q hq⟩
  have HS := Lib.hid hs
  clear hs hN hE k0 k1 k2 k3 k4 k5 hK1 hK2
  obtain ⟨e0, he0⟩ : ∃ e0, e0 = (decide (x.k = 1) || decide (x.k = 3)) := ⟨_, rfl⟩
  have HE0 := Lib.hid he0
  clear he0
  go_cut [6] from 16 to 32 (fun t6 wz => ∃ X F L : Nat, t6 = .pointer (some ⟨X, 0, none⟩) ∧ Bx wz X 79 #[.bool e0, .slice (some ⟨F, 0, none⟩) n n, .slice (some ⟨L, 0, none⟩) n n] ∧ BRow wz F (zeros n) ∧ BRow wz L (zeros n) ∧ W1.heap.size ≤ F ∧ W1.heap.size ≤ L ∧ W1.heap.size ≤ X ∧ F ≠ L ∧ X ≠ F ∧ X ≠ L ∧ Below W1.heap.size W1 wz)
  case first =>
    have c5 := fun p => AX.cell_all (show W1.cell? ⟨s + 1 + 1, 0, none⟩ = some (.int .i64 x.k) from y5.cell 0) y5.lt p
    have c2 := fun p => AX.cell_all (show W1.cell? ⟨s, 0, none⟩ = some (.slice (some ⟨B, off, none⟩) n cr) from y2.cell 0) y2.lt p
    have hW : Below W1.heap.size W1 W1.drew := (Below.refl _ W1).drew
    clear y2 y4 y5 hN1 hEw hb2 hbb hkid HX hwf
    have HKf := HK
    clear HK
    have hk3 : (x.k = 1 ∧ e0 = true) ∨ (¬ x.k = 1 ∧ ¬ x.k = 3 ∧ e0 = false) := by
      rw [HE0.out]
      by_cases h1 : x.k = 1
      · exact .inl ⟨h1, by simp [h1]⟩
      · exact .inr ⟨h1, HKf.out.2, by simp [h1, HKf.out.2]⟩
    clear HE0 HKf
    generalize x.k = kk at *
    rcases hk3 with ⟨rfl, rfl⟩ | ⟨hk1, hk3, rfl⟩
    all_goals
      refine AX.region_tree (C := fun W => ∃ p : AX.BW W1, W = p.W) plan36_2 inf36_2 (by kernel_rfl) (by kernel_rfl) (by kernel_rfl) fit36_2 (by intro c a d v w h; cases d <;> exact h) ⟨⟨W1.drew, hW⟩, rfl⟩ ?_
      unfold plan36_2
      generalize W1.drew = Wd at *
      repeat (refine AX.tree_plain _ (by rfl) ?_; go_big_quiet_step (fail); refine wpQuiet_nil ?_)
      first
        | (simp only [beq_eq_false_iff_ne.2 hk1]; repeat (refine AX.tree_plain _ (by rfl) ?_; go_big_quiet_step (fail); refine wpQuiet_nil ?_))
        | skip
      refine ⟨?_, ?_, ?_⟩
      · obtain ⟨W2, hm2, rF, hb2, hz2⟩ := mk_set n hn Wd
        refine AX.tree_op _ (by rfl) (by rfl) ?_
        refine oper_make rfl rfl hm2 ?_
        have sF := hW.size
        obtain ⟨F, hF⟩ : ∃ F, F = Wd.heap.size := ⟨_, rfl⟩
        have hW2 : Below W1.heap.size W1 W2 := hW.trans (hb2.mono hW.size)
        rw [← hF] at rF ⊢
        have hF1 := Nat.le_of_eq hF
        have hF2 := Nat.le_of_eq hF.symm
        clear hF hz2 hm2
        refine ⟨⟨⟨W2, hW2⟩, rfl⟩, ?_⟩
        simp only [Act.put, List.setIfInBounds_toArray, List.set_cons_succ, List.set_cons_zero]
        refine ⟨?_, ?_⟩
        · obtain ⟨W3, hm3, rL, hb3, hz3⟩ := mk_set n hn W2
          refine AX.tree_op _ (by rfl) (by rfl) ?_
          refine oper_make rfl rfl hm3 ?_
          have sL := hW2.size
          have qF3 := rF.lt
          replace rF := rF.below hb3 rF.lt
          obtain ⟨L, hL⟩ : ∃ L, L = W2.heap.size := ⟨_, rfl⟩
          have hW3 : Below W1.heap.size W1 W3 := hW2.trans (hb3.mono hW2.size)
          rw [← hL] at rL ⊢
          have hL1 := Nat.le_of_eq hL
          have hL2 := Nat.le_of_eq hL.symm
          clear hL hz3 hm3
          refine ⟨⟨⟨W3, hW3⟩, rfl⟩, ?_⟩
          simp only [Act.put, List.setIfInBounds_toArray, List.set_cons_succ, List.set_cons_zero]
          refine AX.tree_plain _ (by rfl) ?_; go_big_quiet_step (fail); refine wpQuiet_nil ?_
          refine AX.tree_op _ (by rfl) (by rfl) ?_
          unfold Oper.wp
          go_simp
          have rX := Bx.new W3 79 #[.bool false, .slice none 0 0, .slice none 0 0]
          have hb4 : Below W3.heap.size W3 (W3.alloc (.cells #[.bool false, .slice none 0 0, .slice none 0 0] 79)) := (Below.refl _ _).alloc (Nat.le_refl _) _
          have sX := hW3.size
          have qF4 := rF.lt
          replace rF := rF.below hb4 rF.lt
          have qL4 := rL.lt
          replace rL := rL.below hb4 rL.lt
          obtain ⟨X, hX⟩ : ∃ X, X = W3.heap.size := ⟨_, rfl⟩
          generalize W3.alloc (.cells #[.bool false, .slice none 0 0, .slice none 0 0] 79) = W4 at *
          have hW4 : Below W1.heap.size W1 W4 := hW3.trans (hb4.mono hW3.size)
          rw [← hX] at rX ⊢
          have hX1 := Nat.le_of_eq hX
          have hX2 := Nat.le_of_eq hX.symm
          clear hX
          refine ⟨⟨⟨W4, hW4⟩, rfl⟩, ?_⟩
          refine AX.tree_op _ (by rfl) (by rfl) ?_
          refine AX.oper_storeBox (vs := [.bool _, .slice (some ⟨F, 0, none⟩) n n, .slice (some ⟨L, 0, none⟩) n n]) rfl rfl sz79 rX rfl rfl ?_
          rintro W9 h3 h4 h5
          have qF := rF.lt
          have qL := rL.lt
          have qX := rX.lt
          have hW9 : Below W1.heap.size W1 W9 := hW4.trans (AX.below_turn (show W1.heap.size ≤ X by omega) (.inl (Array.getElem?_eq_some_iff.1 h3).1) h4 h5)
          refine ⟨⟨⟨W9, hW9⟩, rfl⟩, ?_⟩
          unfold AX.wpTree
          go_wp2_with fail
          go_meet
          case rel => exact ⟨X, F, L, rfl, (by first | exact h3 | (rw [beq_eq_false_iff_ne.2 hk3] at h3; exact h3)), rF.same (h4 _ (by omega)), rL.same (h4 _ (by omega)), by omega, by omega, by omega, by omega, by omega, by omega, hW9⟩
        · refine AX.tree_op _ (by rfl) (by rfl) ?_
          unfold Oper.wp
          go_simp
          have rX := Bx.new W2 79 #[.bool false, .slice none 0 0, .slice none 0 0]
          have hb3 : Below W2.heap.size W2 (W2.alloc (.cells #[.bool false, .slice none 0 0, .slice none 0 0] 79)) := (Below.refl _ _).alloc (Nat.le_refl _) _
          have sX := hW2.size
          have qF3 := rF.lt
          replace rF := rF.below hb3 rF.lt
          obtain ⟨X, hX⟩ : ∃ X, X = W2.heap.size := ⟨_, rfl⟩
          generalize W2.alloc (.cells #[.bool false, .slice none 0 0, .slice none 0 0] 79) = W3 at *
          have hW3 : Below W1.heap.size W1 W3 := hW2.trans (hb3.mono hW2.size)
          rw [← hX] at rX ⊢
          have hX1 := Nat.le_of_eq hX
          have hX2 := Nat.le_of_eq hX.symm
          clear hX
          refine ⟨⟨⟨W3, hW3⟩, rfl⟩, ?_⟩
          obtain ⟨W4, hm4, rL, hb4, hz4⟩ := mk_set n hn W3
          refine AX.tree_op _ (by rfl) (by rfl) ?_
          refine oper_make rfl rfl hm4 ?_
          have sL := hW3.size
          have qF4 := rF.lt
          replace rF := rF.below hb4 rF.lt
          have qX4 := rX.lt
          replace rX := rX.below hb4 rX.lt
          obtain ⟨L, hL⟩ : ∃ L, L = W3.heap.size := ⟨_, rfl⟩
          have hW4 : Below W1.heap.size W1 W4 := hW3.trans (hb4.mono hW3.size)
          rw [← hL] at rL ⊢
          have hL1 := Nat.le_of_eq hL
          have hL2 := Nat.le_of_eq hL.symm
          clear hL hz4 hm4
          refine ⟨⟨⟨W4, hW4⟩, rfl⟩, ?_⟩
          simp only [Act.put, List.setIfInBounds_toArray, List.set_cons_succ, List.set_cons_zero]
          refine AX.tree_plain _ (by rfl) ?_; go_big_quiet_step (fail); refine wpQuiet_nil ?_
          refine AX.tree_op _ (by rfl) (by rfl) ?_
          refine AX.oper_storeBox (vs := [.bool _, .slice (some ⟨F, 0, none⟩) n n, .slice (some ⟨L, 0, none⟩) n n]) rfl rfl sz79 rX rfl rfl ?_
          rintro W9 h3 h4 h5
          have qF := rF.lt
          have qL := rL.lt
          have qX := rX.lt
          have hW9 : Below W1.heap.size W1 W9 := hW4.trans (AX.below_turn (show W1.heap.size ≤ X by omega) (.inl (Array.getElem?_eq_some_iff.1 h3).1) h4 h5)
          refine ⟨⟨⟨W9, hW9⟩, rfl⟩, ?_⟩
          unfold AX.wpTree
          go_wp2_with fail
          go_meet
          case rel => exact ⟨X, F, L, rfl, (by first | exact h3 | (rw [beq_eq_false_iff_ne.2 hk3] at h3; exact h3)), rF.same (h4 _ (by omega)), rL.same (h4 _ (by omega)), by omega, by omega, by omega, by omega, by omega, by omega, hW9⟩
      · obtain ⟨W2, hm2, rL, hb2, hz2⟩ := mk_set n hn Wd
        refine AX.tree_op _ (by rfl) (by rfl) ?_
        refine oper_make rfl rfl hm2 ?_
        have sL := hW.size
        obtain ⟨L, hL⟩ : ∃ L, L = Wd.heap.size := ⟨_, rfl⟩
        have hW2 : Below W1.heap.size W1 W2 := hW.trans (hb2.mono hW.size)
        rw [← hL] at rL ⊢
        have hL1 := Nat.le_of_eq hL
        have hL2 := Nat.le_of_eq hL.symm
        clear hL hz2 hm2
        refine ⟨⟨⟨W2, hW2⟩, rfl⟩, ?_⟩
        simp only [Act.put, List.setIfInBounds_toArray, List.set_cons_succ, List.set_cons_zero]
        refine ⟨?_, ?_⟩
        · obtain ⟨W3, hm3, rF, hb3, hz3⟩ := mk_set n hn W2
          refine AX.tree_op _ (by rfl) (by rfl) ?_
          refine oper_make rfl rfl hm3 ?_
          have sF := hW2.size
          have qL3 := rL.lt
          replace rL := rL.below hb3 rL.lt
          obtain ⟨F, hF⟩ : ∃ F, F = W2.heap.size := ⟨_, rfl⟩
          have hW3 : Below W1.heap.size W1 W3 := hW2.trans (hb3.mono hW2.size)
          rw [← hF] at rF ⊢
          have hF1 := Nat.le_of_eq hF
          have hF2 := Nat.le_of_eq hF.symm
          clear hF hz3 hm3
          refine ⟨⟨⟨W3, hW3⟩, rfl⟩, ?_⟩
          simp only [Act.put, List.setIfInBounds_toArray, List.set_cons_succ, List.set_cons_zero]
          refine AX.tree_plain _ (by rfl) ?_; go_big_quiet_step (fail); refine wpQuiet_nil ?_
          refine AX.tree_op _ (by rfl) (by rfl) ?_
          unfold Oper.wp
          go_simp
          have rX := Bx.new W3 79 #[.bool false, .slice none 0 0, .slice none 0 0]
          have hb4 : Below W3.heap.size W3 (W3.alloc (.cells #[.bool false, .slice none 0 0, .slice none 0 0] 79)) := (Below.refl _ _).alloc (Nat.le_refl _) _
          have sX := hW3.size
          have qL4 := rL.lt
          replace rL := rL.below hb4 rL.lt
          have qF4 := rF.lt
          replace rF := rF.below hb4 rF.lt
          obtain ⟨X, hX⟩ : ∃ X, X = W3.heap.size := ⟨_, rfl⟩
          generalize W3.alloc (.cells #[.bool false, .slice none 0 0, .slice none 0 0] 79) = W4 at *
          have hW4 : Below W1.heap.size W1 W4 := hW3.trans (hb4.mono hW3.size)
          rw [← hX] at rX ⊢
          have hX1 := Nat.le_of_eq hX
          have hX2 := Nat.le_of_eq hX.symm
          clear hX
          refine ⟨⟨⟨W4, hW4⟩, rfl⟩, ?_⟩
          refine AX.tree_op _ (by rfl) (by rfl) ?_
          refine AX.oper_storeBox (vs := [.bool _, .slice (some ⟨F, 0, none⟩) n n, .slice (some ⟨L, 0, none⟩) n n]) rfl rfl sz79 rX rfl rfl ?_
          rintro W9 h3 h4 h5
          have qF := rF.lt
          have qL := rL.lt
          have qX := rX.lt
          have hW9 : Below W1.heap.size W1 W9 := hW4.trans (AX.below_turn (show W1.heap.size ≤ X by omega) (.inl (Array.getElem?_eq_some_iff.1 h3).1) h4 h5)
          refine ⟨⟨⟨W9, hW9⟩, rfl⟩, ?_⟩
          unfold AX.wpTree
          go_wp2_with fail
          go_meet
          case rel => exact ⟨X, F, L, rfl, (by first | exact h3 | (rw [beq_eq_false_iff_ne.2 hk3] at h3; exact h3)), rF.same (h4 _ (by omega)), rL.same (h4 _ (by omega)), by omega, by omega, by omega, by omega, by omega, by omega, hW9⟩
        · refine AX.tree_op _ (by rfl) (by rfl) ?_
          unfold Oper.wp
          go_simp
          have rX := Bx.new W2 79 #[.bool false, .slice none 0 0, .slice none 0 0]
          have hb3 : Below W2.heap.size W2 (W2.alloc (.cells #[.bool false, .slice none 0 0, .slice none 0 0] 79)) := (Below.refl _ _).alloc (Nat.le_refl _) _
          have sX := hW2.size
          have qL3 := rL.lt
          replace rL := rL.below hb3 rL.lt
          obtain ⟨X, hX⟩ : ∃ X, X = W2.heap.size := ⟨_, rfl⟩
          generalize W2.alloc (.cells #[.bool false, .slice none 0 0, .slice none 0 0] 79) = W3 at *
          have hW3 : Below W1.heap.size W1 W3 := hW2.trans (hb3.mono hW2.size)
          rw [← hX] at rX ⊢
          have hX1 := Nat.le_of_eq hX
          have hX2 := Nat.le_of_eq hX.symm
          clear hX
          refine ⟨⟨⟨W3, hW3⟩, rfl⟩, ?_⟩
          obtain ⟨W4, hm4, rF, hb4, hz4⟩ := mk_set n hn W3
          refine AX.tree_op _ (by rfl) (by rfl) ?_
          refine oper_make rfl rfl hm4 ?_
          have sF := hW3.size
          have qL4 := rL.lt
          replace rL := rL.below hb4 rL.lt
          have qX4 := rX.lt
          replace rX := rX.below hb4 rX.lt
          obtain ⟨F, hF⟩ : ∃ F, F = W3.heap.size := ⟨_, rfl⟩
          have hW4 : Below W1.heap.size W1 W4 := hW3.trans (hb4.mono hW3.size)
          rw [← hF] at rF ⊢
          have hF1 := Nat.le_of_eq hF
          have hF2 := Nat.le_of_eq hF.symm
          clear hF hz4 hm4
          refine ⟨⟨⟨W4, hW4⟩, rfl⟩, ?_⟩
          simp only [Act.put, List.setIfInBounds_toArray, List.set_cons_succ, List.set_cons_zero]
          refine AX.tree_plain _ (by rfl) ?_; go_big_quiet_step (fail); refine wpQuiet_nil ?_
          refine AX.tree_op _ (by rfl) (by rfl) ?_
          refine AX.oper_storeBox (vs := [.bool _, .slice (some ⟨F, 0, none⟩) n n, .slice (some ⟨L, 0, none⟩) n n]) rfl rfl sz79 rX rfl rfl ?_
          rintro W9 h3 h4 h5
          have qF := rF.lt
          have qL := rL.lt
          have qX := rX.lt
          have hW9 : Below W1.heap.size W1 W9 := hW4.trans (AX.below_turn (show W1.heap.size ≤ X by omega) (.inl (Array.getElem?_eq_some_iff.1 h3).1) h4 h5)
          refine ⟨⟨⟨W9, hW9⟩, rfl⟩, ?_⟩
          unfold AX.wpTree
          go_wp2_with fail
          go_meet
          case rel => exact ⟨X, F, L, rfl, (by first | exact h3 | (rw [beq_eq_false_iff_ne.2 hk3] at h3; exact h3)), rF.same (h4 _ (by omega)), rL.same (h4 _ (by omega)), by omega, by omega, by omega, by omega, by omega, by omega, hW9⟩
      · refine AX.tree_op _ (by rfl) (by rfl) ?_
        unfold Oper.wp
        go_simp
        have rX := Bx.new Wd 79 #[.bool false, .slice none 0 0, .slice none 0 0]
        have hb2 : Below Wd.heap.size Wd (Wd.alloc (.cells #[.bool false, .slice none 0 0, .slice none 0 0] 79)) := (Below.refl _ _).alloc (Nat.le_refl _) _
        have sX := hW.size
        obtain ⟨X, hX⟩ : ∃ X, X = Wd.heap.size := ⟨_, rfl⟩
        generalize Wd.alloc (.cells #[.bool false, .slice none 0 0, .slice none 0 0] 79) = W2 at *
        have hW2 : Below W1.heap.size W1 W2 := hW.trans (hb2.mono hW.size)
        rw [← hX] at rX ⊢
        have hX1 := Nat.le_of_eq hX
        have hX2 := Nat.le_of_eq hX.symm
        clear hX
        refine ⟨⟨⟨W2, hW2⟩, rfl⟩, ?_⟩
        refine ⟨?_, ?_⟩
        · obtain ⟨W3, hm3, rF, hb3, hz3⟩ := mk_set n hn W2
          refine AX.tree_op _ (by rfl) (by rfl) ?_
          refine oper_make rfl rfl hm3 ?_
          have sF := hW2.size
          have qX3 := rX.lt
          replace rX := rX.below hb3 rX.lt
          obtain ⟨F, hF⟩ : ∃ F, F = W2.heap.size := ⟨_, rfl⟩
          have hW3 : Below W1.heap.size W1 W3 := hW2.trans (hb3.mono hW2.size)
          rw [← hF] at rF ⊢
          have hF1 := Nat.le_of_eq hF
          have hF2 := Nat.le_of_eq hF.symm
          clear hF hz3 hm3
          refine ⟨⟨⟨W3, hW3⟩, rfl⟩, ?_⟩
          simp only [Act.put, List.setIfInBounds_toArray, List.set_cons_succ, List.set_cons_zero]
          obtain ⟨W4, hm4, rL, hb4, hz4⟩ := mk_set n hn W3
          refine AX.tree_op _ (by rfl) (by rfl) ?_
          refine oper_make rfl rfl hm4 ?_
          have sL := hW3.size
          have qX4 := rX.lt
          replace rX := rX.below hb4 rX.lt
          have qF4 := rF.lt
          replace rF := rF.below hb4 rF.lt
          obtain ⟨L, hL⟩ : ∃ L, L = W3.heap.size := ⟨_, rfl⟩
          have hW4 : Below W1.heap.size W1 W4 := hW3.trans (hb4.mono hW3.size)
          rw [← hL] at rL ⊢
          have hL1 := Nat.le_of_eq hL
          have hL2 := Nat.le_of_eq hL.symm
          clear hL hz4 hm4
          refine ⟨⟨⟨W4, hW4⟩, rfl⟩, ?_⟩
          simp only [Act.put, List.setIfInBounds_toArray, List.set_cons_succ, List.set_cons_zero]
          refine AX.tree_plain _ (by rfl) ?_; go_big_quiet_step (fail); refine wpQuiet_nil ?_
          refine AX.tree_op _ (by rfl) (by rfl) ?_
          refine AX.oper_storeBox (vs := [.bool _, .slice (some ⟨F, 0, none⟩) n n, .slice (some ⟨L, 0, none⟩) n n]) rfl rfl sz79 rX rfl rfl ?_
          rintro W9 h3 h4 h5
          have qF := rF.lt
          have qL := rL.lt
          have qX := rX.lt
          have hW9 : Below W1.heap.size W1 W9 := hW4.trans (AX.below_turn (show W1.heap.size ≤ X by omega) (.inl (Array.getElem?_eq_some_iff.1 h3).1) h4 h5)
          refine ⟨⟨⟨W9, hW9⟩, rfl⟩, ?_⟩
          unfold AX.wpTree
          go_wp2_with fail
          go_meet
          case rel => exact ⟨X, F, L, rfl, (by first | exact h3 | (rw [beq_eq_false_iff_ne.2 hk3] at h3; exact h3)), rF.same (h4 _ (by omega)), rL.same (h4 _ (by omega)), by omega, by omega, by omega, by omega, by omega, by omega, hW9⟩
        · obtain ⟨W3, hm3, rL, hb3, hz3⟩ := mk_set n hn W2
          refine AX.tree_op _ (by rfl) (by rfl) ?_
          refine oper_make rfl rfl hm3 ?_
          have sL := hW2.size
          have qX3 := rX.lt
          replace rX := rX.below hb3 rX.lt
          obtain ⟨L, hL⟩ : ∃ L, L = W2.heap.size := ⟨_, rfl⟩
          have hW3 : Below W1.heap.size W1 W3 := hW2.trans (hb3.mono hW2.size)
          rw [← hL] at rL ⊢
          have hL1 := Nat.le_of_eq hL
          have hL2 := Nat.le_of_eq hL.symm
          clear hL hz3 hm3
          refine ⟨⟨⟨W3, hW3⟩, rfl⟩, ?_⟩
          simp only [Act.put, List.setIfInBounds_toArray, List.set_cons_succ, List.set_cons_zero]
          obtain ⟨W4, hm4, rF, hb4, hz4⟩ := mk_set n hn W3
          refine AX.tree_op _ (by rfl) (by rfl) ?_
          refine oper_make rfl rfl hm4 ?_
          have sF := hW3.size
          have qX4 := rX.lt
          replace rX := rX.below hb4 rX.lt
          have qL4 := rL.lt
          replace rL := rL.below hb4 rL.lt
          obtain ⟨F, hF⟩ : ∃ F, F = W3.heap.size := ⟨_, rfl⟩
          have hW4 : Below W1.heap.size W1 W4 := hW3.trans (hb4.mono hW3.size)
          rw [← hF] at rF ⊢
          have hF1 := Nat.le_of_eq hF
          have hF2 := Nat.le_of_eq hF.symm
          clear hF hz4 hm4
          refine ⟨⟨⟨W4, hW4⟩, rfl⟩, ?_⟩
          simp only [Act.put, List.setIfInBounds_toArray, List.set_cons_succ, List.set_cons_zero]
          refine AX.tree_plain _ (by rfl) ?_; go_big_quiet_step (fail); refine wpQuiet_nil ?_
          refine AX.tree_op _ (by rfl) (by rfl) ?_
          refine AX.oper_storeBox (vs := [.bool _, .slice (some ⟨F, 0, none⟩) n n, .slice (some ⟨L, 0, none⟩) n n]) rfl rfl sz79 rX rfl rfl ?_
          rintro W9 h3 h4 h5
          have qF := rF.lt
          have qL := rL.lt
          have qX := rX.lt
          have hW9 : Below W1.heap.size W1 W9 := hW4.trans (AX.below_turn (show W1.heap.size ≤ X by omega) (.inl (Array.getElem?_eq_some_iff.1 h3).1) h4 h5)
          refine ⟨⟨⟨W9, hW9⟩, rfl⟩, ?_⟩
          unfold AX.wpTree
          go_wp2_with fail
          go_meet
          case rel => exact ⟨X, F, L, rfl, (by first | exact h3 | (rw [beq_eq_false_iff_ne.2 hk3] at h3; exact h3)), rF.same (h4 _ (by omega)), rL.same (h4 _ (by omega)), by omega, by omega, by omega, by omega, by omega, by omega, hW9⟩
  case rest =>
    obtain ⟨X, F, L, rfl, hX, hF, hL, hgF, hgL, hgX, hFL, hXF, hXL, hz⟩ := hcut
    have hk2 := HK.out
    rw [HE0.out] at hX
    have hX0 : Bx wc X 79 #[.bool (decide (x.k = 1)), .slice (some ⟨F, 0, none⟩) n n, .slice (some ⟨L, 0, none⟩) n n] := by
      rw [decide_eq_false hk2.2, Bool.or_false] at hX; exact hX
    have HV : Hid (nodeV n es nx i x = (if x.k = 5 ∨ x.k = 6 then folS nx (x.kids.foldl (altK es) ⟨decide (x.k = 1), zeros n, zeros n⟩).l (x.kids.foldl (altK es) ⟨decide (x.k = 1), zeros n, zeros n⟩).f else nx, ⟨if x.k = 5 ∨ x.k = 7 then true else (x.kids.foldl (altK es) ⟨decide (x.k = 1), zeros n, zeros n⟩).e, (x.kids.foldl (altK es) ⟨decide (x.k = 1), zeros n, zeros n⟩).f, (x.kids.foldl (altK es) ⟨decide (x.k = 1), zeros n, zeros n⟩).l⟩)) := Lib.hid (by unfold nodeV; rw [if_neg hk2.1, if_neg hk2.2])
    have hS : Nst w0 w wc s NB n i c cr B off bs ev (.slice lk x.kids.length ck) x nx := ⟨y2.below hz y2.lt, y4.below hz y4.lt, y5.below hz y5.lt, hN1.below hz hN1.lt (fun j hj => hN1.blt hi hj), (ButS.of_below (S := fun k => ∃ j, j < i + 1 ∧ k = bs j) (HS.out ▸ hb2)).trans (.of_below hz), hlow.trans ((HS.out ▸ hb2 : Below w.heap.size w W1).mono (by have := HS.out; omega) |>.trans (hz.mono (by omega)))⟩
    have kc : wc.cell? ⟨s + 1 + 1, 0, none⟩ = some (.int .i64 x.k) := hS.b5.cell 0
    have kk : wc.cell? ⟨s + 1 + 1, 5, none⟩ = some (.slice lk x.kids.length ck) := hS.b5.cell 5
    have hkl : x.kids.length ≤ 512 := by have := HX.out.high; have := high_le x.k; omega
    have hksp : ∀ q ∈ x.kids, 0 ≤ q ∧ q < (i : Int) := HX.out.kids
    have HKS := Lib.hid hksp
    have HKR := Lib.hid HX.out.k
    have hsw := HS.out
    have hX2 : s + 3 ≤ X := by omega
    have hFs : s + 3 ≤ F := by omega
    have hLs : s + 3 ≤ L := by omega
    have hsz : w.heap.size ≤ s := by omega
    obtain ⟨k2, k3⟩ := hk2
    clear hksp y2 y4 y5 hN1 HE0 HX hb2 hz hlow hsw hgF hgL hgX hX
    go_wp2_with fail
    go_loopw [68] (fun ix wr => ∃ (m : Nat) (y : En) (cf cl : Nat), m ≤ x.kids.length ∧ ix = .int .i64 m ∧ Nst w0 w wr s NB n i c cr B off bs ev (.slice lk x.kids.length ck) x nx ∧ Bx wr X 79 #[.bool y.e, .slice (some ⟨F, 0, none⟩) n cf, .slice (some ⟨L, 0, none⟩) n cl] ∧ BRow wr F y.f ∧ BRow wr L y.l ∧ EnWf n (i + 1) y ∧ Hid (y = (x.kids.take m).foldl (altK es) ⟨decide (x.k = 1), zeros n, zeros n⟩))
      (fun ix _ => x.kids.length - (intOf ix).toNat)
    case atStart => exact ⟨0, _, n, n, Nat.zero_le _, rfl, hS, hX0, hF, hL, zero_wf n (i + 1) _, Lib.hid rfl⟩
    case round =>
      clear hS hX0 hF hL kc kk
      obtain ⟨m, y, cf, cl, hm, rfl, hS, hX, hF, hL, hy, HY⟩ := hrel
      by_cases hml : m < x.kids.length
      · obtain ⟨q, hq⟩ : ∃ q, x.kids[m]? = some q := ⟨_, List.getElem?_eq_getElem hml⟩
        obtain ⟨B2, off2, hlk, hB2, hKc⟩ := hkid m q hq
        have hqi := HKS.out q (List.mem_of_getElem? hq)
        have d0 := (hS.low.cell (p := ⟨B2, off2 + m, none⟩) hB2).trans hKc
        have hB2l : B2 < wr.heap.size := Nat.lt_of_lt_of_le hB2 hS.low.size
        have hm0 : (0 : Int) ≤ (m : Int) := by omega
        have hm1 : (m : Int) < (x.kids.length : Int) := by omega
        have HTM : Hid (x.kids.take (m + 1) = x.kids.take m ++ [q]) := Lib.hid (by rw [List.take_add_one, hq]; rfl)
        subst hlk
        obtain ⟨j, rfl⟩ : ∃ j : Nat, q = (j : Int) := ⟨q.toNat, by omega⟩
        have hj : j < es.length := by omega
        obtain ⟨z, hzj⟩ : ∃ z, es[j]? = some z := ⟨_, List.getElem?_eq_getElem hj⟩
        have hzw := hwf j z hzj
        obtain ⟨la3, c3, hev, hEs⟩ := hEw
        obtain ⟨B3, off3, F3, cf3, L3, cl3, hla3, hB3, hB3s, ⟨e0, e1, e2⟩, hF3, hL3, h3s⟩ := hEs j z hzj
        subst hla3
        have hen : Hid (en es (j : Int) = z) := Lib.hid (by unfold en; rw [List.getD_eq_getElem?_getD, Int.toNat_natCast, hzj]; rfl)
        clear hq hKc hzj hEs
        rw [hes] at hev
        subst hev
        have hF3l := hF3.lt
        have hL3l := hL3.lt
        have hj0 : (j : Int).toNat = j := by omega
        have hj1 : (0 : Int) ≤ (j : Int) := by omega
        have hj2 : (j : Int) < (i : Int) := by omega
        have HCell : Hid (∀ W, Nst w0 w W s NB n i c cr B off bs (.slice (some ⟨B3, off3, none⟩) i c3) (.slice (some ⟨B2, off2, none⟩) x.kids.length ck) x nx → W.cell? ⟨B3, off3 + j * 3, none⟩ = some (.bool z.e) ∧ W.cell? ⟨B3, off3 + j * 3 + 1, none⟩ = some (.slice (some ⟨F3, 0, none⟩) n cf3) ∧ W.cell? ⟨B3, off3 + j * 3 + 2, none⟩ = some (.slice (some ⟨L3, 0, none⟩) n cl3) ∧ BRow W F3 z.f ∧ BRow W L3 z.l) := Lib.hid fun W h => by
          have e := h.but.same B3 hB3 (by rintro ⟨k, hk, e⟩; exact hB3s k hk e.symm)
          exact ⟨(cell_same e).trans e0, (cell_same e).trans e1, (cell_same e).trans e2, hF3.buts h.but (by rintro ⟨k, hk, e⟩; exact (h3s k hk).1 e.symm), hL3.buts h.but (by rintro ⟨k, hk, e⟩; exact (h3s k hk).2 e.symm)⟩
        clear e0 e1 e2 hF3 hL3
        obtain ⟨e0, e1, e2, hF3, hL3⟩ := HCell.out _ hS
        obtain ⟨x0, x1, x2⟩ := hX.three
        obtain ⟨t0, t1, t2⟩ := hS.b2.three
        have hB3l : B3 < wr.heap.size := Nat.lt_of_lt_of_le hB3 hS.but.low.size
        have hXlt := hX.lt
        clear hF3 hL3
        obtain ⟨ye, yf, yl⟩ := y
        obtain ⟨ze, zf, zl⟩ := z
        dsimp only at *
        have hor1 := fun W (h1 : BRow W F yf) (h2 : BRow W F3 zf) => or_k F F3 cf cf3 n yf zf (by omega) hy.lf hzw.lf (by omega) W h1 h2
        have hor2 := fun W (h1 : BRow W L yl) (h2 : BRow W L3 zl) => or_k L L3 cl cl3 n yl zl (by omega) hy.ll hzw.ll (by omega) W h1 h2
        cases ye
        all_goals
          go_wp2_with ((with_reducible refine st_id ?_); refine AX.wpList_storeCell (o := 0) (v := .bool _) rfl rfl rfl sz4 hX (show 0 < 3 by decide) ?_; rintro W4 h3 h4 h5)
          have hS4 := hS.lift hbb hNl hsz hws (AX.below_turn hX2 (.inl (Array.getElem?_eq_some_iff.1 h3).1) h4 h5)
          first
            | (have hX4 : Bx W4 X 79 #[.bool (false || ze), .slice (some ⟨F, 0, none⟩) n cf, .slice (some ⟨L, 0, none⟩) n cl] := h3)
            | (have hX4 : Bx W4 X 79 #[.bool (true || ze), .slice (some ⟨F, 0, none⟩) n cf, .slice (some ⟨L, 0, none⟩) n cl] := h3)
          have hF4 := hF.same (h4 _ (by omega))
          have hL4 := hL.same (h4 _ (by omega))
          clear h3 h4 h5 hS hX hF hL x0 x1 x2 t0 t1 t2 e0 e1 e2
          have hXF' : X ≠ F := by omega
          obtain ⟨C, hCi, hCo⟩ : ∃ C : World → Prop, (∀ W, C W → W.cell? ⟨X, 1, none⟩ = some (.slice (some ⟨F, 0, none⟩) n cf) ∧ W.cell? ⟨s, 1, none⟩ = some (.slice (some ⟨B3, off3, none⟩) i c3) ∧ W.cell? ⟨B3, off3 + j * 3 + 1, none⟩ = some (.slice (some ⟨F3, 0, none⟩) n cf3)) ∧
              (∀ W, (W.cell? ⟨X, 1, none⟩ = some (.slice (some ⟨F, 0, none⟩) n cf) ∧ W.cell? ⟨s, 1, none⟩ = some (.slice (some ⟨B3, off3, none⟩) i c3) ∧ W.cell? ⟨B3, off3 + j * 3 + 1, none⟩ = some (.slice (some ⟨F3, 0, none⟩) n cf3)) → C W) := ⟨_, fun _ h => h, fun _ h => h⟩
          obtain ⟨e0, e1, e2, hF3, hL3⟩ := HCell.out _ hS4
          have hW0 : C W4.drew := hCo _ ⟨hX4.cell 1, hS4.b2.cell 1, e1⟩
          haveI : Inhabited (AX.CW C) := ⟨⟨_, hW0⟩⟩
          have a0 := fun p : AX.CW C => (hCi _ p.h).1
          have a1 := fun p : AX.CW C => (hCi _ p.h).2.1
          have a2 := fun p : AX.CW C => (hCi _ p.h).2.2
          have HC := Lib.hid hCo
          clear hCo hCi
          refine AX.region_mixF (C := fun W => ∃ p : AX.CW C, W = p.W) row36_18 inf36_18 (by kernel_rfl) (by kernel_rfl) (by kernel_rfl) (by kernel_rfl) fit36_18 (by intro c a d v w h; cases d <;> exact h) ⟨⟨_, hW0⟩, rfl⟩ ?_
          unfold row36_18
          have hSd := hS4.lift hbb hNl hsz hws (Below.refl (s + 3) W4).drew
          have hXd : Bx W4.drew X 79 _ := hX4
          have hFd : BRow W4.drew F _ := hF4
          have hLd : BRow W4.drew L _ := hL4
          have hF3d : BRow W4.drew F3 zf := hF3
          have hL3d : BRow W4.drew L3 zl := hL3
          have hszd : s + 3 ≤ W4.drew.heap.size := by have := hS4.b5.lt; show s + 3 ≤ W4.heap.size; omega
          clear hS4 hX4 hF4 hL4 hF3 hL3 e0 e1 e2 hW0
          generalize W4.drew = W4d at *
          repeat (refine AX.mix_plain _ (by rfl) ?_; go_big_quiet_step (fail); refine wpQuiet_nil ?_)
          refine AX.mix_call2 (hor1 _ hFd hF3d) (by rfl) (by rfl) (by rfl) Tryd.func38 (by kernel_rfl) (by rfl) (by simp only [List.map_toArray, List.map_cons, List.map_nil]; rfl) ?_
          rintro e W5 ⟨rfl, hFW5, hbW5⟩
          have hSW5 := hSd.lift hbb hNl hsz hws (but_below hbW5 (by omega) hszd)
          have hXW5 := hXd.but hbW5 (by omega)
          have hLW5 := hLd.but hbW5 (by omega)
          obtain ⟨e0, e1, e2, _, _⟩ := HCell.out _ hSW5
          refine ⟨_, rfl, ⟨⟨_, HC.out _ ⟨hXW5.cell 1, hSW5.b2.cell 1, e1⟩⟩, rfl⟩, ?_⟩
          clear a0 a1 a2 HC hSd hXd hFd hLd hF3d hL3d hszd hbW5 e0 e1 e2
          simp only [Act.put, List.setIfInBounds_toArray, List.set_cons_succ, List.set_cons_zero]
          unfold AX.wpMix
          go_wp2_with fail
          have hXF' : X ≠ L := by omega
          obtain ⟨C, hCi, hCo⟩ : ∃ C : World → Prop, (∀ W, C W → W.cell? ⟨X, 2, none⟩ = some (.slice (some ⟨L, 0, none⟩) n cl) ∧ W.cell? ⟨s, 1, none⟩ = some (.slice (some ⟨B3, off3, none⟩) i c3) ∧ W.cell? ⟨B3, off3 + j * 3 + 2, none⟩ = some (.slice (some ⟨L3, 0, none⟩) n cl3)) ∧
              (∀ W, (W.cell? ⟨X, 2, none⟩ = some (.slice (some ⟨L, 0, none⟩) n cl) ∧ W.cell? ⟨s, 1, none⟩ = some (.slice (some ⟨B3, off3, none⟩) i c3) ∧ W.cell? ⟨B3, off3 + j * 3 + 2, none⟩ = some (.slice (some ⟨L3, 0, none⟩) n cl3)) → C W) := ⟨_, fun _ h => h, fun _ h => h⟩
          obtain ⟨e0, e1, e2, hF3, hL3⟩ := HCell.out _ hSW5
          have hW0 : C W5.drew := hCo _ ⟨hXW5.cell 2, hSW5.b2.cell 1, e2⟩
          haveI : Inhabited (AX.CW C) := ⟨⟨_, hW0⟩⟩
          have a0 := fun p : AX.CW C => (hCi _ p.h).1
          have a1 := fun p : AX.CW C => (hCi _ p.h).2.1
          have a2 := fun p : AX.CW C => (hCi _ p.h).2.2
          have HC := Lib.hid hCo
          clear hCo hCi
          refine AX.region_mixF (C := fun W => ∃ p : AX.CW C, W = p.W) row36_19 inf36_19 (by kernel_rfl) (by kernel_rfl) (by kernel_rfl) (by kernel_rfl) fit36_19 (by intro c a d v w h; cases d <;> exact h) ⟨⟨_, hW0⟩, rfl⟩ ?_
          unfold row36_19
          have hSd := hSW5.lift hbb hNl hsz hws (Below.refl (s + 3) W5).drew
          have hXd : Bx W5.drew X 79 _ := hXW5
          have hFd : BRow W5.drew F _ := hFW5
          have hLd : BRow W5.drew L _ := hLW5
          have hF3d : BRow W5.drew F3 zf := hF3
          have hL3d : BRow W5.drew L3 zl := hL3
          have hszd : s + 3 ≤ W5.drew.heap.size := by have := hSW5.b5.lt; show s + 3 ≤ W5.heap.size; omega
          clear hSW5 hXW5 hFW5 hLW5 hF3 hL3 e0 e1 e2 hW0
          generalize W5.drew = W5d at *
          repeat (refine AX.mix_plain _ (by rfl) ?_; go_big_quiet_step (fail); refine wpQuiet_nil ?_)
          refine AX.mix_call2 (hor2 _ hLd hL3d) (by rfl) (by rfl) (by rfl) Tryd.func38 (by kernel_rfl) (by rfl) (by simp only [List.map_toArray, List.map_cons, List.map_nil]; rfl) ?_
          rintro e W6 ⟨rfl, hLW6, hbW6⟩
          have hSW6 := hSd.lift hbb hNl hsz hws (but_below hbW6 (by omega) hszd)
          have hXW6 := hXd.but hbW6 (by omega)
          have hFW6 := hFd.but hbW6 (by omega)
          obtain ⟨e0, e1, e2, _, _⟩ := HCell.out _ hSW6
          refine ⟨_, rfl, ⟨⟨_, HC.out _ ⟨hXW6.cell 2, hSW6.b2.cell 1, e2⟩⟩, rfl⟩, ?_⟩
          clear a0 a1 a2 HC hSd hXd hFd hLd hF3d hL3d hszd hbW6 e0 e1 e2
          simp only [Act.put, List.setIfInBounds_toArray, List.set_cons_succ, List.set_cons_zero]
          unfold AX.wpMix
          go_wp2_with fail
          go_roundw
          case rel =>
            first
              | refine ⟨m + 1, altE ⟨false, yf, yl⟩ ⟨ze, zf, zl⟩, cf, cl, by omega, by simp, hSW6, hXW6, hFW6, hLW6, altE_wf hy hzw, Lib.hid ?_⟩
              | refine ⟨m + 1, altE ⟨true, yf, yl⟩ ⟨ze, zf, zl⟩, cf, cl, by omega, by simp, hSW6, hXW6, hFW6, hLW6, altE_wf hy hzw, Lib.hid ?_⟩
            rw [HTM.out, List.foldl_append, ← HY.out]
            simp only [List.foldl_cons, List.foldl_nil, altK, hen.out]
          case measure => simp [intOf]; omega
      · obtain rfl : m = x.kids.length := by omega
        have hyf : Hid (y = x.kids.foldl (altK es) ⟨decide (x.k = 1), zeros n, zeros n⟩) := Lib.hid (by rw [HY.out, List.take_length])
        have hfo := fun W (hN : NAt W NB n (i + 1) bs nx) (h1 : BRow W L y.l) (h2 : BRow W F y.f) => follow_k NB L F n (i + 1) c cl cf bs (.slice (some ⟨B, off, none⟩) n cr) ev nx y.l y.f hi (by omega) hy.ll hy.lf hy.lm (fun k hk => by have := hbb k hk; omega) (fun k hk => by have := hbb k hk; omega) W hN h1 h2
        have hkr := HKR.out
        have k5 : x.k = 1 ∨ x.k = 4 ∨ x.k = 5 ∨ x.k = 6 ∨ x.k = 7 := by omega
        have HVY : Hid (nodeV n es nx i x = (if x.k = 5 ∨ x.k = 6 then folS nx y.l y.f else nx, ⟨if x.k = 5 ∨ x.k = 7 then true else y.e, y.f, y.l⟩)) := Lib.hid (by rw [HV.out, hyf.out])
        obtain ⟨x0, x1, x2⟩ := hX.three
        obtain ⟨t0, t1, t2⟩ := hS.b2.three
        have q0 : wr.cell? ⟨s + 1 + 1, 0, none⟩ = some (.int .i64 x.k) := hS.b5.cell 0
        have hXlt := hX.lt
        obtain ⟨ye, yf, yl⟩ := y
        dsimp only at *
        clear hkr HV HK k2 k3 hkid HKS
        generalize hkk : x.k = kk at *
        have HKK := Lib.hid hkk
        clear hkk
        rcases k5 with rfl | rfl | rfl | rfl | rfl
        all_goals
          go_wp2_with (first
            | (go_at_call 57; (with_reducible refine (hfo _ hS.nat hL hF).mono ?_); rintro e W4 ⟨rfl, hN4, hbu4⟩; have hS4 := hS.step hbb hbs hbu4 hN4; have hX4 := hX.buts hbu4 (by rintro ⟨k, hk, e⟩; have := hbb k hk; omega); have hF4 := hF.buts hbu4 (by rintro ⟨k, hk, e⟩; have := hbb k hk; omega); have hL4 := hL.buts hbu4 (by rintro ⟨k, hk, e⟩; have := hbb k hk; omega); clear hS hX hF hL; have hS := hS4; have hX := hX4; have hF := hF4; have hL := hL4; obtain ⟨x0, x1, x2⟩ := hX.three; have q0 := hS.b5.cell 0; simp only [List.getElem?_toArray, List.getElem?_cons_zero, HKK.out] at q0)
            | ((with_reducible refine st_id ?_); refine AX.wpList_storeCell (o := 0) (v := .bool true) rfl rfl rfl sz4 hX (show 0 < 3 by decide) ?_; rintro W5 h3 h4 h5; have hS5 := hS.lift hbb hNl hsz hws (AX.below_turn hX2 (.inl (Array.getElem?_eq_some_iff.1 h3).1) h4 h5); have hX5 : Bx W5 X 79 #[.bool true, .slice (some ⟨F, 0, none⟩) n cf, .slice (some ⟨L, 0, none⟩) n cl] := h3; have hF5 := hF.same (h4 _ (by omega)); have hL5 := hL.same (h4 _ (by omega)); clear h3 h4 h5 hS hX hF hL; have hS := hS5; have hX := hX5; have hF := hF5; have hL := hL5; obtain ⟨x0, x1, x2⟩ := hX.three)
            | ((with_reducible refine st_id ?_); refine AX.wpList_storeBox (vs := [.bool _, .slice (some ⟨F, 0, none⟩) n cf, .slice (some ⟨L, 0, none⟩) n cl]) rfl rfl sz79 hS.b4 rfl rfl ?_; rintro W9 h3 h4 h5; have hF9 := hF.same (h4 _ (by omega)); have hL9 := hL.same (h4 _ (by omega)); have hN9 := hS.nat.same (h4 _ (by omega)) (fun j hj => h4 _ (by have := hbb j hj; omega)); have hb9 : Below s _ W9 := AX.below_turn (by omega) (.inl (Array.getElem?_eq_some_iff.1 h3).1) h4 h5; obtain ⟨d0, d1, d2⟩ := Bx.three h3))
          have HSO := HS.out
          refine bodyPost_ret (v := .agg #[.bool _, .slice (some ⟨F, 0, none⟩) n cf, .slice (some ⟨L, 0, none⟩) n cl]) (by simp [results, Tryd.results36, go_sem, d0, d1, d2]; rfl) rfl (by
            rw [HVY.out]
            exact ⟨⟨F, cf, L, cl, rfl, by omega, by omega, hFL, hF9, hL9⟩, hN9, ⟨hS.but.low.trans (hb9.mono (Nat.zero_le _)), fun k hk hn => (hb9.block k (by omega)).trans (hS.but.same k hk hn)⟩⟩)
end Go.Proofs.YtpbkgegkjglibaaDoor
