/- Regex: node (cls). -/
import Derived.Test.YtpbkgegkjglibaaDoorW8
import Derived.Test.YtpbkgegkjglibaaDoorRg7
namespace Go.Proofs.YtpbkgegkjglibaaDoor
open Go Go.Proofs Go.RowKit
attribute [local go_sem] Oper.semAt_some
def row36_5 : List (Nat × Bool) := [(0, false), (1, false), (2, false), (3, false), (4, false), (5, false), (6, false), (7, true), (8, false), (9, true)]
def inf36_5 : List AX.Inf := [⟨0, 137438953472, 64, true⟩, ⟨1, 274877906944, 137438953472, true⟩, ⟨0, 549755813888, 2, true⟩, ⟨0, 1099511627776, 64, true⟩, ⟨8, 2199023255552, 1099511627776, true⟩, ⟨0, 4398046511104, 2, true⟩, ⟨7, 8796093022208, 824633720832, true⟩, ⟨71, 0, 8796093022208, false⟩, ⟨255, 17592186044416, 6597069766656, true⟩, ⟨511, 0, 17592186044416, false⟩]
theorem fit36_5 : AX.mixF inf36_5 row36_5 0 = true := by kernel_rfl
set_option maxRecDepth 100000 in
set_option maxHeartbeats 4000000 in
theorem node_cls (NB n i c cr : Nat) (bs : Nat → Nat) (B off : Nat) (ev : Value) (nx : List (List Bool)) (es : List En) (x : Nd) (hn : n ≤ 1000) (hi : i < n) (hx : NdOk i x) (hk2 : x.k = 2) (hes : es.length = i) (_hwf : ∀ (j : Nat) y, es[j]? = some y → EnWf n (i + 1) y) (w0 w : World) (hN : NAt w NB n (i + 1) bs nx) (hE : EAt w ev n (i + 1) bs es)
    (hB : B < w0.heap.size) (hX : XAt w0 B (off + i * 6) x) (hlow : Below w0.heap.size w0 w) (_hbs : ∀ j, j < i + 1 → w0.heap.size ≤ bs j) :
    Calls Tryd.prog 36 #[.agg #[.slice (some ⟨B, off, none⟩) n cr, ev, .slice (some ⟨NB, 0, none⟩) n c], .int .i64 i] w fun e w' =>
      EnRes w w' n (nodeV n es nx i x).2 e ∧ NAt w' NB n (i + 1) bs (nodeV n es nx i x).1 ∧ ButS (fun k => ∃ j, j < i + 1 ∧ k = bs j) w w' := by
  have HK := Lib.hid hk2
  clear hk2
  have HX := Lib.hid hx
  clear hx
  obtain ⟨s, hs⟩ : ∃ s, s = w.heap.size := ⟨_, rfl⟩
  have hNl := hN.lt
  have hbb := fun j (hj : j < i + 1) => hN.blt hi hj
  have hi0 : (0 : Int) ≤ (i : Int) := by omega
  have hi1 : (i : Int) < (n : Int) := by omega
  have hB0 : Below w.heap.size w (((w.alloc (.cells #[.slice (some ⟨B, off, none⟩) n cr, ev, .slice (some ⟨NB, 0, none⟩) n c] 75)).alloc (.cells #[.bool false, .slice none 0 0, .slice none 0 0] 79)).alloc (.cells #[.int .i64 0, .int .u64 0, .int .u64 0, .int .u64 0, .int .u64 0, .slice none 0 0] 45)) := (((Below.refl _ w).alloc (Nat.le_refl _) _).alloc (by simp) _).alloc (by simp <;> omega) _
  have x2 := ((Bx.new w 75 #[.slice (some ⟨B, off, none⟩) n cr, ev, .slice (some ⟨NB, 0, none⟩) n c]).alloc (.cells #[.bool false, .slice none 0 0, .slice none 0 0] 79)).alloc (.cells #[.int .i64 0, .int .u64 0, .int .u64 0, .int .u64 0, .int .u64 0, .slice none 0 0] 45)
  have x4 := (Bx.new (w.alloc (.cells #[.slice (some ⟨B, off, none⟩) n cr, ev, .slice (some ⟨NB, 0, none⟩) n c] 75)) 79 #[.bool false, .slice none 0 0, .slice none 0 0]).alloc (.cells #[.int .i64 0, .int .u64 0, .int .u64 0, .int .u64 0, .int .u64 0, .slice none 0 0] 45)
  have x5 := Bx.new ((w.alloc (.cells #[.slice (some ⟨B, off, none⟩) n cr, ev, .slice (some ⟨NB, 0, none⟩) n c] 75)).alloc (.cells #[.bool false, .slice none 0 0, .slice none 0 0] 79)) 45 #[.int .i64 0, .int .u64 0, .int .u64 0, .int .u64 0, .int .u64 0, .slice none 0 0]
  simp only [World.size_alloc] at x4 x5
  obtain ⟨k0, k1, k2, k3, k4, kv, k5, hIR⟩ := hX
  obtain ⟨lk, ck, rfl, hK1, hK2⟩ := hIR
  have hBw : B < w.heap.size := Nat.lt_of_lt_of_le hB hlow.size
  replace k0 := (hlow.cell (p := ⟨B, off + i * 6, none⟩) hB).trans k0
  replace k1 := (hlow.cell (p := ⟨B, off + i * 6 + 1, none⟩) hB).trans k1
  replace k2 := (hlow.cell (p := ⟨B, off + i * 6 + 2, none⟩) hB).trans k2
  replace k3 := (hlow.cell (p := ⟨B, off + i * 6 + 3, none⟩) hB).trans k3
  replace k4 := (hlow.cell (p := ⟨B, off + i * 6 + 4, none⟩) hB).trans k4
  replace k5 := (hlow.cell (p := ⟨B, off + i * 6 + 5, none⟩) hB).trans k5
  have hs5 := x5.lt
  go_enter Tryd.func36, Tryd.ntmps36
  go_wp2_with ((with_reducible refine st_id ?_); refine AX.wpList_storeBox (vs := [.int .i64 x.k, .int .u64 x.a, .int .u64 x.b, .int .u64 x.c, .int .u64 x.d, .slice lk x.kids.length ck]) rfl rfl sz45 x5 rfl rfl ?_; rintro W1 h3 h4 h5)
  have y5 : Bx W1 (w.heap.size + 1 + 1) 45 #[.int .i64 x.k, .int .u64 x.a, .int .u64 x.b, .int .u64 x.c, .int .u64 x.d, .slice lk x.kids.length ck] := h3
  have y2 : Bx W1 w.heap.size 75 #[.slice (some ⟨B, off, none⟩) n cr, ev, .slice (some ⟨NB, 0, none⟩) n c] := (h4 _ (by omega)).trans x2
  have y4 : Bx W1 (w.heap.size + 1) 79 #[.bool false, .slice none 0 0, .slice none 0 0] := (h4 _ (by omega)).trans x4
  have hb2 : Below w.heap.size w W1 := hB0.trans (AX.below_turn (by omega) (.inl (Array.getElem?_eq_some_iff.1 h3).1) h4 h5)
  clear h3 h4 h5 x2 x4 x5 hB0 hs5
  have hN1 := hN.below hb2 (hs ▸ hNl) (fun j hj => hbb j hj)
  have hEw := hE
  have hws := hlow.size
  clear hBw
  have hs1 : w.heap.size + 3 ≤ W1.heap.size := by have := y5.lt; omega
  rw [← hs] at hNl hbb y2 y4 y5 hb2 hs1 hws ⊢
  have hkid : ∀ m q, x.kids[m]? = some q → ∃ B2 off2, lk = some ⟨B2, off2, none⟩ ∧ B2 < w0.heap.size ∧ w0.cell? ⟨B2, off2 + m, none⟩ = some (.int .i64 q) := by
    intro m q hq
    cases lk with
    | none => have := hK1 rfl; rw [this] at hq; simp at hq
    | some ad =>
      obtain ⟨B2, off2, rfl, hB2, hKc⟩ := hK2 _ rfl (by intro e; rw [e] at hq; simp at hq)
      exact ⟨B2, off2, rfl, hB2, hKc m q hq⟩
  have HS := Lib.hid hs
  clear hs hN hE k0 k1 k2 k3 k4 k5 hK1 hK2
  obtain ⟨e0, he0⟩ : ∃ e0, e0 = (decide (x.k = 1) || decide (x.k = 3)) := ⟨_, rfl⟩
  have HE0 := Lib.hid he0
  clear he0
  go_cut [6] from 16 to 32 (fun t6 wz => ∃ X F L : Nat, t6 = .pointer (some ⟨X, 0, none⟩) ∧ Bx wz X 79 #[.bool e0, .slice (some ⟨F, 0, none⟩) n n, .slice (some ⟨L, 0, none⟩) n n] ∧ BRow wz F (zeros n) ∧ BRow wz L (zeros n) ∧ W1.heap.size ≤ F ∧ W1.heap.size ≤ L ∧ W1.heap.size ≤ X ∧ F ≠ L ∧ X ≠ F ∧ X ≠ L ∧ Below W1.heap.size W1 wz)
  case first =>
    have c5 := fun p => AX.cell_all (show W1.cell? ⟨s + 1 + 1, 0, none⟩ = some (.int .i64 x.k) from y5.cell 0) y5.lt p
    have c2 := fun p => AX.cell_all (show W1.cell? ⟨s, 0, none⟩ = some (.slice (some ⟨B, off, none⟩) n cr) from y2.cell 0) y2.lt p
    have hW : Below W1.heap.size W1 W1.drew := (Below.refl _ W1).drew
    clear y2 y4 y5 hN1 hEw hb2 hbb hkid HX
    have HKf := HK
    clear HK
    have hk2 := HKf.out
    have he0 := HE0.out
    rw [hk2] at he0
    clear HE0 HKf
    generalize x.k = kk at *
    obtain rfl := hk2
    obtain rfl : e0 = false := he0.trans rfl
    clear he0
    all_goals
      refine AX.region_tree (C := fun W => ∃ p : AX.BW W1, W = p.W) plan36_2 inf36_2 (by kernel_rfl) (by kernel_rfl) (by kernel_rfl) fit36_2 (by intro c a d v w h; cases d <;> exact h) ⟨⟨W1.drew, hW⟩, rfl⟩ ?_
      unfold plan36_2
      generalize W1.drew = Wd at *
      repeat (refine AX.tree_plain _ (by rfl) ?_; go_big_quiet_step (fail); refine wpQuiet_nil ?_)
      refine ⟨?_, ?_, ?_⟩
      · obtain ⟨W2, hm2, rF, hb2, hz2⟩ := mk_set n hn Wd
        refine AX.tree_op _ (by rfl) (by rfl) ?_
        refine oper_make rfl rfl hm2 ?_
        have sF := hW.size
        obtain ⟨F, hF⟩ : ∃ F, F = Wd.heap.size := ⟨_, rfl⟩
        have hW2 : Below W1.heap.size W1 W2 := hW.trans (hb2.mono hW.size)
        rw [← hF] at rF ⊢
        have hF1 := Nat.le_of_eq hF
        have hF2 := Nat.le_of_eq hF.symm
        clear hF hz2 hm2
        refine ⟨⟨⟨W2, hW2⟩, rfl⟩, ?_⟩
        simp only [Act.put, List.setIfInBounds_toArray, List.set_cons_succ, List.set_cons_zero]
        refine ⟨?_, ?_⟩
        · obtain ⟨W3, hm3, rL, hb3, hz3⟩ := mk_set n hn W2
          refine AX.tree_op _ (by rfl) (by rfl) ?_
          refine oper_make rfl rfl hm3 ?_
          have sL := hW2.size
          have qF3 := rF.lt
          replace rF := rF.below hb3 rF.lt
          obtain ⟨L, hL⟩ : ∃ L, L = W2.heap.size := ⟨_, rfl⟩
          have hW3 : Below W1.heap.size W1 W3 := hW2.trans (hb3.mono hW2.size)
          rw [← hL] at rL ⊢
          have hL1 := Nat.le_of_eq hL
          have hL2 := Nat.le_of_eq hL.symm
          clear hL hz3 hm3
          refine ⟨⟨⟨W3, hW3⟩, rfl⟩, ?_⟩
          simp only [Act.put, List.setIfInBounds_toArray, List.set_cons_succ, List.set_cons_zero]
          refine AX.tree_plain _ (by rfl) ?_; go_big_quiet_step (fail); refine wpQuiet_nil ?_
          refine AX.tree_op _ (by rfl) (by rfl) ?_
          unfold Oper.wp
          go_simp
          have rX := Bx.new W3 79 #[.bool false, .slice none 0 0, .slice none 0 0]
          have hb4 : Below W3.heap.size W3 (W3.alloc (.cells #[.bool false, .slice none 0 0, .slice none 0 0] 79)) := (Below.refl _ _).alloc (Nat.le_refl _) _
          have sX := hW3.size
          have qF4 := rF.lt
          replace rF := rF.below hb4 rF.lt
          have qL4 := rL.lt
          replace rL := rL.below hb4 rL.lt
          obtain ⟨X, hX⟩ : ∃ X, X = W3.heap.size := ⟨_, rfl⟩
          generalize W3.alloc (.cells #[.bool false, .slice none 0 0, .slice none 0 0] 79) = W4 at *
          have hW4 : Below W1.heap.size W1 W4 := hW3.trans (hb4.mono hW3.size)
          rw [← hX] at rX ⊢
          have hX1 := Nat.le_of_eq hX
          have hX2 := Nat.le_of_eq hX.symm
          clear hX
          refine ⟨⟨⟨W4, hW4⟩, rfl⟩, ?_⟩
          refine AX.tree_op _ (by rfl) (by rfl) ?_
          refine AX.oper_storeBox (vs := [.bool _, .slice (some ⟨F, 0, none⟩) n n, .slice (some ⟨L, 0, none⟩) n n]) rfl rfl sz79 rX rfl rfl ?_
          rintro W9 h3 h4 h5
          have qF := rF.lt
          have qL := rL.lt
          have qX := rX.lt
          have hW9 : Below W1.heap.size W1 W9 := hW4.trans (AX.below_turn (show W1.heap.size ≤ X by omega) (.inl (Array.getElem?_eq_some_iff.1 h3).1) h4 h5)
          refine ⟨⟨⟨W9, hW9⟩, rfl⟩, ?_⟩
          unfold AX.wpTree
          go_wp2_with fail
          go_meet
          case rel => exact ⟨X, F, L, rfl, (by first | exact h3 | (rw [beq_eq_false_iff_ne.2 hk3] at h3; exact h3)), rF.same (h4 _ (by omega)), rL.same (h4 _ (by omega)), by omega, by omega, by omega, by omega, by omega, by omega, hW9⟩
        · refine AX.tree_op _ (by rfl) (by rfl) ?_
          unfold Oper.wp
          go_simp
          have rX := Bx.new W2 79 #[.bool false, .slice none 0 0, .slice none 0 0]
          have hb3 : Below W2.heap.size W2 (W2.alloc (.cells #[.bool false, .slice none 0 0, .slice none 0 0] 79)) := (Below.refl _ _).alloc (Nat.le_refl _) _
          have sX := hW2.size
          have qF3 := rF.lt
          replace rF := rF.below hb3 rF.lt
          obtain ⟨X, hX⟩ : ∃ X, X = W2.heap.size := ⟨_, rfl⟩
          generalize W2.alloc (.cells #[.bool false, .slice none 0 0, .slice none 0 0] 79) = W3 at *
          have hW3 : Below W1.heap.size W1 W3 := hW2.trans (hb3.mono hW2.size)
          rw [← hX] at rX ⊢
          have hX1 := Nat.le_of_eq hX
          have hX2 := Nat.le_of_eq hX.symm
          clear hX
          refine ⟨⟨⟨W3, hW3⟩, rfl⟩, ?_⟩
          obtain ⟨W4, hm4, rL, hb4, hz4⟩ := mk_set n hn W3
          refine AX.tree_op _ (by rfl) (by rfl) ?_
          refine oper_make rfl rfl hm4 ?_
          have sL := hW3.size
          have qF4 := rF.lt
          replace rF := rF.below hb4 rF.lt
          have qX4 := rX.lt
          replace rX := rX.below hb4 rX.lt
          obtain ⟨L, hL⟩ : ∃ L, L = W3.heap.size := ⟨_, rfl⟩
          have hW4 : Below W1.heap.size W1 W4 := hW3.trans (hb4.mono hW3.size)
          rw [← hL] at rL ⊢
          have hL1 := Nat.le_of_eq hL
          have hL2 := Nat.le_of_eq hL.symm
          clear hL hz4 hm4
          refine ⟨⟨⟨W4, hW4⟩, rfl⟩, ?_⟩
          simp only [Act.put, List.setIfInBounds_toArray, List.set_cons_succ, List.set_cons_zero]
          refine AX.tree_plain _ (by rfl) ?_; go_big_quiet_step (fail); refine wpQuiet_nil ?_
          refine AX.tree_op _ (by rfl) (by rfl) ?_
          refine AX.oper_storeBox (vs := [.bool _, .slice (some ⟨F, 0, none⟩) n n, .slice (some ⟨L, 0, none⟩) n n]) rfl rfl sz79 rX rfl rfl ?_
          rintro W9 h3 h4 h5
          have qF := rF.lt
          have qL := rL.lt
          have qX := rX.lt
          have hW9 : Below W1.heap.size W1 W9 := hW4.trans (AX.below_turn (show W1.heap.size ≤ X by omega) (.inl (Array.getElem?_eq_some_iff.1 h3).1) h4 h5)
          refine ⟨⟨⟨W9, hW9⟩, rfl⟩, ?_⟩
          unfold AX.wpTree
          go_wp2_with fail
          go_meet
          case rel => exact ⟨X, F, L, rfl, (by first | exact h3 | (rw [beq_eq_false_iff_ne.2 hk3] at h3; exact h3)), rF.same (h4 _ (by omega)), rL.same (h4 _ (by omega)), by omega, by omega, by omega, by omega, by omega, by omega, hW9⟩
      · obtain ⟨W2, hm2, rL, hb2, hz2⟩ := mk_set n hn Wd
        refine AX.tree_op _ (by rfl) (by rfl) ?_
        refine oper_make rfl rfl hm2 ?_
        have sL := hW.size
        obtain ⟨L, hL⟩ : ∃ L, L = Wd.heap.size := ⟨_, rfl⟩
        have hW2 : Below W1.heap.size W1 W2 := hW.trans (hb2.mono hW.size)
        rw [← hL] at rL ⊢
        have hL1 := Nat.le_of_eq hL
        have hL2 := Nat.le_of_eq hL.symm
        clear hL hz2 hm2
        refine ⟨⟨⟨W2, hW2⟩, rfl⟩, ?_⟩
        simp only [Act.put, List.setIfInBounds_toArray, List.set_cons_succ, List.set_cons_zero]
        refine ⟨?_, ?_⟩
        · obtain ⟨W3, hm3, rF, hb3, hz3⟩ := mk_set n hn W2
          refine AX.tree_op _ (by rfl) (by rfl) ?_
          refine oper_make rfl rfl hm3 ?_
          have sF := hW2.size
          have qL3 := rL.lt
          replace rL := rL.below hb3 rL.lt
          obtain ⟨F, hF⟩ : ∃ F, F = W2.heap.size := ⟨_, rfl⟩
          have hW3 : Below W1.heap.size W1 W3 := hW2.trans (hb3.mono hW2.size)
          rw [← hF] at rF ⊢
          have hF1 := Nat.le_of_eq hF
          have hF2 := Nat.le_of_eq hF.symm
          clear hF hz3 hm3
          refine ⟨⟨⟨W3, hW3⟩, rfl⟩, ?_⟩
          simp only [Act.put, List.setIfInBounds_toArray, List.set_cons_succ, List.set_cons_zero]
          refine AX.tree_plain _ (by rfl) ?_; go_big_quiet_step (fail); refine wpQuiet_nil ?_
          refine AX.tree_op _ (by rfl) (by rfl) ?_
          unfold Oper.wp
          go_simp
          have rX := Bx.new W3 79 #[.bool false, .slice none 0 0, .slice none 0 0]
          have hb4 : Below W3.heap.size W3 (W3.alloc (.cells #[.bool false, .slice none 0 0, .slice none 0 0] 79)) := (Below.refl _ _).alloc (Nat.le_refl _) _
          have sX := hW3.size
          have qL4 := rL.lt
          replace rL := rL.below hb4 rL.lt
          have qF4 := rF.lt
          replace rF := rF.below hb4 rF.lt
          obtain ⟨X, hX⟩ : ∃ X, X = W3.heap.size := ⟨_, rfl⟩
          generalize W3.alloc (.cells #[.bool false, .slice none 0 0, .slice none 0 0] 79) = W4 at *
          have hW4 : Below W1.heap.size W1 W4 := hW3.trans (hb4.mono hW3.size)
          rw [← hX] at rX ⊢
          have hX1 := Nat.le_of_eq hX
          have hX2 := Nat.le_of_eq hX.symm
          clear hX
          refine ⟨⟨⟨W4, hW4⟩, rfl⟩, ?_⟩
          refine AX.tree_op _ (by rfl) (by rfl) ?_
          refine AX.oper_storeBox (vs := [.bool _, .slice (some ⟨F, 0, none⟩) n n, .slice (some ⟨L, 0, none⟩) n n]) rfl rfl sz79 rX rfl rfl ?_
          rintro W9 h3 h4 h5
          have qF := rF.lt
          have qL := rL.lt
          have qX := rX.lt
          have hW9 : Below W1.heap.size W1 W9 := hW4.trans (AX.below_turn (show W1.heap.size ≤ X by omega) (.inl (Array.getElem?_eq_some_iff.1 h3).1) h4 h5)
          refine ⟨⟨⟨W9, hW9⟩, rfl⟩, ?_⟩
          unfold AX.wpTree
          go_wp2_with fail
          go_meet
          case rel => exact ⟨X, F, L, rfl, (by first | exact h3 | (rw [beq_eq_false_iff_ne.2 hk3] at h3; exact h3)), rF.same (h4 _ (by omega)), rL.same (h4 _ (by omega)), by omega, by omega, by omega, by omega, by omega, by omega, hW9⟩
        · refine AX.tree_op _ (by rfl) (by rfl) ?_
          unfold Oper.wp
          go_simp
          have rX := Bx.new W2 79 #[.bool false, .slice none 0 0, .slice none 0 0]
          have hb3 : Below W2.heap.size W2 (W2.alloc (.cells #[.bool false, .slice none 0 0, .slice none 0 0] 79)) := (Below.refl _ _).alloc (Nat.le_refl _) _
          have sX := hW2.size
          have qL3 := rL.lt
          replace rL := rL.below hb3 rL.lt
          obtain ⟨X, hX⟩ : ∃ X, X = W2.heap.size := ⟨_, rfl⟩
          generalize W2.alloc (.cells #[.bool false, .slice none 0 0, .slice none 0 0] 79) = W3 at *
          have hW3 : Below W1.heap.size W1 W3 := hW2.trans (hb3.mono hW2.size)
          rw [← hX] at rX ⊢
          have hX1 := Nat.le_of_eq hX
          have hX2 := Nat.le_of_eq hX.symm
          clear hX
          refine ⟨⟨⟨W3, hW3⟩, rfl⟩, ?_⟩
          obtain ⟨W4, hm4, rF, hb4, hz4⟩ := mk_set n hn W3
          refine AX.tree_op _ (by rfl) (by rfl) ?_
          refine oper_make rfl rfl hm4 ?_
          have sF := hW3.size
          have qL4 := rL.lt
          replace rL := rL.below hb4 rL.lt
          have qX4 := rX.lt
          replace rX := rX.below hb4 rX.lt
          obtain ⟨F, hF⟩ : ∃ F, F = W3.heap.size := ⟨_, rfl⟩
          have hW4 : Below W1.heap.size W1 W4 := hW3.trans (hb4.mono hW3.size)
          rw [← hF] at rF ⊢
          have hF1 := Nat.le_of_eq hF
          have hF2 := Nat.le_of_eq hF.symm
          clear hF hz4 hm4
          refine ⟨⟨⟨W4, hW4⟩, rfl⟩, ?_⟩
          simp only [Act.put, List.setIfInBounds_toArray, List.set_cons_succ, List.set_cons_zero]
          refine AX.tree_plain _ (by rfl) ?_; go_big_quiet_step (fail); refine wpQuiet_nil ?_
          refine AX.tree_op _ (by rfl) (by rfl) ?_
          refine AX.oper_storeBox (vs := [.bool _, .slice (some ⟨F, 0, none⟩) n n, .slice (some ⟨L, 0, none⟩) n n]) rfl rfl sz79 rX rfl rfl ?_
          rintro W9 h3 h4 h5
          have qF := rF.lt
          have qL := rL.lt
          have qX := rX.lt
          have hW9 : Below W1.heap.size W1 W9 := hW4.trans (AX.below_turn (show W1.heap.size ≤ X by omega) (.inl (Array.getElem?_eq_some_iff.1 h3).1) h4 h5)
          refine ⟨⟨⟨W9, hW9⟩, rfl⟩, ?_⟩
          unfold AX.wpTree
          go_wp2_with fail
          go_meet
          case rel => exact ⟨X, F, L, rfl, (by first | exact h3 | (rw [beq_eq_false_iff_ne.2 hk3] at h3; exact h3)), rF.same (h4 _ (by omega)), rL.same (h4 _ (by omega)), by omega, by omega, by omega, by omega, by omega, by omega, hW9⟩
      · refine AX.tree_op _ (by rfl) (by rfl) ?_
        unfold Oper.wp
        go_simp
        have rX := Bx.new Wd 79 #[.bool false, .slice none 0 0, .slice none 0 0]
        have hb2 : Below Wd.heap.size Wd (Wd.alloc (.cells #[.bool false, .slice none 0 0, .slice none 0 0] 79)) := (Below.refl _ _).alloc (Nat.le_refl _) _
        have sX := hW.size
        obtain ⟨X, hX⟩ : ∃ X, X = Wd.heap.size := ⟨_, rfl⟩
        generalize Wd.alloc (.cells #[.bool false, .slice none 0 0, .slice none 0 0] 79) = W2 at *
        have hW2 : Below W1.heap.size W1 W2 := hW.trans (hb2.mono hW.size)
        rw [← hX] at rX ⊢
        have hX1 := Nat.le_of_eq hX
        have hX2 := Nat.le_of_eq hX.symm
        clear hX
        refine ⟨⟨⟨W2, hW2⟩, rfl⟩, ?_⟩
        refine ⟨?_, ?_⟩
        · obtain ⟨W3, hm3, rF, hb3, hz3⟩ := mk_set n hn W2
          refine AX.tree_op _ (by rfl) (by rfl) ?_
          refine oper_make rfl rfl hm3 ?_
          have sF := hW2.size
          have qX3 := rX.lt
          replace rX := rX.below hb3 rX.lt
          obtain ⟨F, hF⟩ : ∃ F, F = W2.heap.size := ⟨_, rfl⟩
          have hW3 : Below W1.heap.size W1 W3 := hW2.trans (hb3.mono hW2.size)
          rw [← hF] at rF ⊢
          have hF1 := Nat.le_of_eq hF
          have hF2 := Nat.le_of_eq hF.symm
          clear hF hz3 hm3
          refine ⟨⟨⟨W3, hW3⟩, rfl⟩, ?_⟩
          simp only [Act.put, List.setIfInBounds_toArray, List.set_cons_succ, List.set_cons_zero]
          obtain ⟨W4, hm4, rL, hb4, hz4⟩ := mk_set n hn W3
          refine AX.tree_op _ (by rfl) (by rfl) ?_
          refine oper_make rfl rfl hm4 ?_
          have sL := hW3.size
          have qX4 := rX.lt
          replace rX := rX.below hb4 rX.lt
          have qF4 := rF.lt
          replace rF := rF.below hb4 rF.lt
          obtain ⟨L, hL⟩ : ∃ L, L = W3.heap.size := ⟨_, rfl⟩
          have hW4 : Below W1.heap.size W1 W4 := hW3.trans (hb4.mono hW3.size)
          rw [← hL] at rL ⊢
          have hL1 := Nat.le_of_eq hL
          have hL2 := Nat.le_of_eq hL.symm
          clear hL hz4 hm4
          refine ⟨⟨⟨W4, hW4⟩, rfl⟩, ?_⟩
          simp only [Act.put, List.setIfInBounds_toArray, List.set_cons_succ, List.set_cons_zero]
          refine AX.tree_plain _ (by rfl) ?_; go_big_quiet_step (fail); refine wpQuiet_nil ?_
          refine AX.tree_op _ (by rfl) (by rfl) ?_
          refine AX.oper_storeBox (vs := [.bool _, .slice (some ⟨F, 0, none⟩) n n, .slice (some ⟨L, 0, none⟩) n n]) rfl rfl sz79 rX rfl rfl ?_
          rintro W9 h3 h4 h5
          have qF := rF.lt
          have qL := rL.lt
          have qX := rX.lt
          have hW9 : Below W1.heap.size W1 W9 := hW4.trans (AX.below_turn (show W1.heap.size ≤ X by omega) (.inl (Array.getElem?_eq_some_iff.1 h3).1) h4 h5)
          refine ⟨⟨⟨W9, hW9⟩, rfl⟩, ?_⟩
          unfold AX.wpTree
          go_wp2_with fail
          go_meet
          case rel => exact ⟨X, F, L, rfl, (by first | exact h3 | (rw [beq_eq_false_iff_ne.2 hk3] at h3; exact h3)), rF.same (h4 _ (by omega)), rL.same (h4 _ (by omega)), by omega, by omega, by omega, by omega, by omega, by omega, hW9⟩
        · obtain ⟨W3, hm3, rL, hb3, hz3⟩ := mk_set n hn W2
          refine AX.tree_op _ (by rfl) (by rfl) ?_
          refine oper_make rfl rfl hm3 ?_
          have sL := hW2.size
          have qX3 := rX.lt
          replace rX := rX.below hb3 rX.lt
          obtain ⟨L, hL⟩ : ∃ L, L = W2.heap.size := ⟨_, rfl⟩
          have hW3 : Below W1.heap.size W1 W3 := hW2.trans (hb3.mono hW2.size)
          rw [← hL] at rL ⊢
          have hL1 := Nat.le_of_eq hL
          have hL2 := Nat.le_of_eq hL.symm
          clear hL hz3 hm3
          refine ⟨⟨⟨W3, hW3⟩, rfl⟩, ?_⟩
          simp only [Act.put, List.setIfInBounds_toArray, List.set_cons_succ, List.set_cons_zero]
          obtain ⟨W4, hm4, rF, hb4, hz4⟩ := mk_set n hn W3
          refine AX.tree_op _ (by rfl) (by rfl) ?_
          refine oper_make rfl rfl hm4 ?_
          have sF := hW3.size
          have qX4 := rX.lt
          replace rX := rX.below hb4 rX.lt
          have qL4 := rL.lt
          replace rL := rL.below hb4 rL.lt
          obtain ⟨F, hF⟩ : ∃ F, F = W3.heap.size := ⟨_, rfl⟩
          have hW4 : Below W1.heap.size W1 W4 := hW3.trans (hb4.mono hW3.size)
          rw [← hF] at rF ⊢
          have hF1 := Nat.le_of_eq hF
          have hF2 := Nat.le_of_eq hF.symm
          clear hF hz4 hm4
          refine ⟨⟨⟨W4, hW4⟩, rfl⟩, ?_⟩
          simp only [Act.put, List.setIfInBounds_toArray, List.set_cons_succ, List.set_cons_zero]
          refine AX.tree_plain _ (by rfl) ?_; go_big_quiet_step (fail); refine wpQuiet_nil ?_
          refine AX.tree_op _ (by rfl) (by rfl) ?_
          refine AX.oper_storeBox (vs := [.bool _, .slice (some ⟨F, 0, none⟩) n n, .slice (some ⟨L, 0, none⟩) n n]) rfl rfl sz79 rX rfl rfl ?_
          rintro W9 h3 h4 h5
          have qF := rF.lt
          have qL := rL.lt
          have qX := rX.lt
          have hW9 : Below W1.heap.size W1 W9 := hW4.trans (AX.below_turn (show W1.heap.size ≤ X by omega) (.inl (Array.getElem?_eq_some_iff.1 h3).1) h4 h5)
          refine ⟨⟨⟨W9, hW9⟩, rfl⟩, ?_⟩
          unfold AX.wpTree
          go_wp2_with fail
          go_meet
          case rel => exact ⟨X, F, L, rfl, (by first | exact h3 | (rw [beq_eq_false_iff_ne.2 hk3] at h3; exact h3)), rF.same (h4 _ (by omega)), rL.same (h4 _ (by omega)), by omega, by omega, by omega, by omega, by omega, by omega, hW9⟩
  case rest =>
    obtain ⟨X, F, L, rfl, hX, hF, hL, hgF, hgL, hgX, hFL, hXF, hXL, hz⟩ := hcut
    have hk2 := HK.out
    rw [hk2] at y5
    rw [HE0.out, hk2] at hX
    have HV : Hid (nodeV n es nx i x = (nx, ⟨false, (zeros n).set i true, (zeros n).set i true⟩)) := Lib.hid (by unfold nodeV; rw [if_pos hk2])
    simp only [show (decide ((2 : Int) = 1) || decide ((2 : Int) = 3)) = false from rfl] at hX
    clear hk2 HK HE0 HX
    have z5 := y5.below hz y5.lt
    have z4 := y4.below hz y4.lt
    have hz2 : Below s w wc := hb2.trans (hz.mono (by omega))
    have hN2 := hN1.below hz hN1.lt (fun j hj => hN1.blt hi hj)
    have kc : wc.cell? ⟨s + 1 + 1, 0, none⟩ = some (.int .i64 2) := z5.cell 0
    clear y2 y4 y5 hN1 hEw hkid
    have hFi : i < (zeros n).length := by simp [zeros]; exact hi
    have f0 := hF.at i false (by simp [zeros, hi])
    have ff := hF.frozen i
    have l0 := hL.at i false (by simp [zeros, hi])
    have lf := hL.frozen i
    go_wp2_with fail
    obtain ⟨C, hCi, hCo⟩ : ∃ C : World → Prop, (∀ W, C W → Bx W X 79 #[.bool false, .slice (some ⟨F, 0, none⟩) n n, .slice (some ⟨L, 0, none⟩) n n]) ∧ (∀ W, Bx W X 79 #[.bool false, .slice (some ⟨F, 0, none⟩) n n, .slice (some ⟨L, 0, none⟩) n n] → C W) := ⟨_, fun _ h => h, fun _ h => h⟩
    have hW0 : C wc.drew := hCo _ hX
    haveI : Inhabited (AX.CW C) := ⟨⟨_, hW0⟩⟩
    have c1 := fun p : AX.CW C => (hCi _ p.h).three.2.1
    have c2 := fun p : AX.CW C => (hCi _ p.h).three.2.2
    have HC := Lib.hid hCo
    clear hCo hCi
    refine AX.region_mixF (C := fun W => ∃ p : AX.CW C, W = p.W) row36_5 inf36_5 (by kernel_rfl) (by kernel_rfl) (by kernel_rfl) (by kernel_rfl) fit36_5 (by intro c a d v w h; cases d <;> exact h) ⟨⟨_, hW0⟩, rfl⟩ ?_
    unfold row36_5
    have hX' : Bx wc.drew X 79 #[.bool false, .slice (some ⟨F, 0, none⟩) n n, .slice (some ⟨L, 0, none⟩) n n] := hX
    have hF' : BRow wc.drew F (zeros n) := hF
    have hL' : BRow wc.drew L (zeros n) := hL
    have z4' : Bx wc.drew (s + 1) 79 #[.bool false, .slice none 0 0, .slice none 0 0] := z4
    have f0' : wc.drew.cell? ⟨F, i, none⟩ = some (.bool false) := f0
    have ff' : wc.drew.frozen? ⟨F, i, none⟩ = false := ff
    have hz3 : Below s w wc.drew := hz2.drew
    have hN3 : NAt wc.drew NB n (i + 1) bs nx := hN2.same rfl (fun _ _ => rfl)
    clear hX hF hL z4 f0 ff hz2 hN2 l0 lf z5 kc hz
    generalize wc.drew = Wd at *
    repeat (refine AX.mix_plain _ (by rfl) ?_; go_big_quiet_step (fail); refine wpQuiet_nil ?_)
    refine AX.mix_op _ (by rfl) (by rfl) ?_
    unfold Oper.wp
    go_simp
    have hF2 := hF'.set i true
    have hX2 : Bx (Wd.setCell ⟨F, i, none⟩ (.bool true)) X 79 #[.bool false, .slice (some ⟨F, 0, none⟩) n n, .slice (some ⟨L, 0, none⟩) n n] := hX'.other hXF
    have hL2 : BRow (Wd.setCell ⟨F, i, none⟩ (.bool true)) L (zeros n) := hL'.other (by omega)
    have z42 : Bx (Wd.setCell ⟨F, i, none⟩ (.bool true)) (s + 1) 79 #[.bool false, .slice none 0 0, .slice none 0 0] := z4'.other (by omega)
    have hz4 := hz3.setCell (p := ⟨F, i, none⟩) (by simp; omega) (.bool true)
    have hN4 : NAt (Wd.setCell ⟨F, i, none⟩ (.bool true)) NB n (i + 1) bs nx := hN3.same (Below.heap_setCell _ _ _ _ (show NB ≠ F by omega)) (fun j hj => Below.heap_setCell _ _ _ _ (show bs j ≠ F by have := hbb j hj; omega))
    clear hX' hF' hL' z4' f0' ff' hz3 hN3
    generalize Wd.setCell ⟨F, i, none⟩ (.bool true) = We at *
    refine ⟨⟨⟨_, HC.out _ hX2⟩, rfl⟩, ?_⟩
    have l0 := hL2.at i false (by simp [zeros, hi])
    have lf := hL2.frozen i
    refine AX.mix_plain _ (by rfl) ?_; go_big_quiet_step (fail); refine wpQuiet_nil ?_
    refine AX.mix_op _ (by rfl) (by rfl) ?_
    unfold Oper.wp
    go_simp
    have hL3 := hL2.set i true
    have hX3 : Bx (We.setCell ⟨L, i, none⟩ (.bool true)) X 79 #[.bool false, .slice (some ⟨F, 0, none⟩) n n, .slice (some ⟨L, 0, none⟩) n n] := hX2.other hXL
    have hF3 : BRow (We.setCell ⟨L, i, none⟩ (.bool true)) F ((zeros n).set i true) := hF2.other (by omega)
    have z43 : Bx (We.setCell ⟨L, i, none⟩ (.bool true)) (s + 1) 79 #[.bool false, .slice none 0 0, .slice none 0 0] := z42.other (by omega)
    have hz5 := hz4.setCell (p := ⟨L, i, none⟩) (by simp; omega) (.bool true)
    have hN5 : NAt (We.setCell ⟨L, i, none⟩ (.bool true)) NB n (i + 1) bs nx := hN4.same (Below.heap_setCell _ _ _ _ (show NB ≠ L by omega)) (fun j hj => Below.heap_setCell _ _ _ _ (show bs j ≠ L by have := hbb j hj; omega))
    clear hX2 hF2 hL2 z42 l0 lf hz4 hN4
    generalize We.setCell ⟨L, i, none⟩ (.bool true) = Wf at *
    refine ⟨⟨⟨_, HC.out _ hX3⟩, rfl⟩, ?_⟩
    unfold AX.wpMix
    obtain ⟨x0, x1, x2⟩ := hX3.three
    clear c1 c2
    go_wp2_with ((with_reducible refine st_id ?_); refine AX.wpList_storeBox (vs := [.bool false, .slice (some ⟨F, 0, none⟩) n n, .slice (some ⟨L, 0, none⟩) n n]) rfl rfl sz79 z43 rfl rfl ?_; rintro W9 h3 h4 h5; have hz9 := hz5.trans (AX.below_turn (show s ≤ s + 1 by omega) (.inl (Array.getElem?_eq_some_iff.1 h3).1) h4 h5); have hF9 := hF3.same (h4 _ (by omega)); have hL9 := hL3.same (h4 _ (by omega)); have hN9 : NAt W9 NB n (i + 1) bs nx := hN5.same (h4 _ (by omega)) (fun j hj => h4 _ (by have := hbb j hj; omega)); obtain ⟨d0, d1, d2⟩ := Bx.three h3)
    have HSO := HS.out
    refine bodyPost_ret (v := .agg #[.bool false, .slice (some ⟨F, 0, none⟩) n n, .slice (some ⟨L, 0, none⟩) n n]) (by simp [results, Tryd.results36, go_sem, d0, d1, d2]) rfl (by rw [HV.out]; exact ⟨⟨F, n, L, n, rfl, by omega, by omega, hFL, hF9, hL9⟩, hN9, ButS.of_below (HS.out ▸ hz9)⟩)
end Go.Proofs.YtpbkgegkjglibaaDoor
