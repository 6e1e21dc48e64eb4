/- Lexer: the reference's Next. -/
import Derived.Test.YtefjfbhffmkikaaGreatDoorL9d
namespace Go.Proofs.YtefjfbhffmkikaaGreatDoor
open Go Go.Proofs Go.RowKit
attribute [local go_sem] Oper.semAt_some
section
variable {next rule kind : List Int} {kinds : Int} {an ar ak : Option Addr} {cn cr ck : Nat} {w : World}
set_option maxRecDepth 100000 in
set_option maxHeartbeats 8000000 in
theorem next_k (hN : IRow w an next) (hR : IRow w ar rule) (hK : IRow w ak kind) (hok : okL next rule kind kinds = true) (s : ByteArray) (at_ : Nat) (hi : at_ ≤ s.size) (hs : s.size ≤ 1000000) :
    Calls Tryz.prog 23 #[lV an ar ak next.length rule.length kind.length cn cr ck kinds, .string s, .int .i64 at_] w fun e w' => e = .returned (tkV (tokV next rule kind (sb s) at_)) ∧ Below w.heap.size w w' := by
  unfold lV tkV
  have hF := fits_of hok
  obtain ⟨W0, hW0⟩ : ∃ W0, W0 = ((w.alloc (.cells #[.slice an next.length cn, .slice ar rule.length cr, .slice ak kind.length ck, .int .i64 kinds] 26)).alloc (.cells #[.int .i64 0, .int .i64 0, .int .i64 0, .int .i64 0, .int .i64 0] 30)) := ⟨_, rfl⟩
  have hD : Nx w W0 next rule kind kinds an ar ak cn cr ck := by
    refine ⟨hW0 ▸ ((Below.refl w.heap.size w).alloc (Nat.le_refl _) _).alloc (by simp) _, hW0 ▸ (Bx.new _ _ _).alloc _, ?_⟩
    have := Bx.new (w.alloc (.cells #[.slice an next.length cn, .slice ar rule.length cr, .slice ak kind.length ck, .int .i64 kinds] 26)) 30 #[.int .i64 0, .int .i64 0, .int .i64 0, .int .i64 0, .int .i64 0]
    rw [World.size_alloc] at this
    exact hW0 ▸ this
  have hT : W0.heap.size = w.heap.size + 1 + 1 := by rw [hW0]; simp
  go_enter Tryz.func23, Tryz.ntmps23
  go_wp2_with fail
  rw [← hW0]
  have hX := Bx.new W0 30 #[.int .i64 (-2), .int .i64 at_, .int .i64 s.size, .int .i64 s.size, .int .i64 0]
  rw [hT] at hX
  have hD := hD.below (((Below.refl _ W0).alloc (Nat.le_refl _) (.cells #[.int .i64 (-2), .int .i64 at_, .int .i64 s.size, .int .i64 s.size, .int .i64 0] 30)).mono (by omega))
  generalize W0.alloc (.cells #[.int .i64 (-2), .int .i64 at_, .int .i64 s.size, .int .i64 s.size, .int .i64 0] 30) = W1 at *
  clear hT hW0
  go_loopw [2] (fun u wr => ∃ (i e : Nat), u = .int .i64 i ∧ at_ ≤ i ∧ i ≤ s.size ∧ e ≤ s.size + 1 ∧ Nx w wr next rule kind kinds an ar ak cn cr ck ∧ Bx wr (w.heap.size + 1 + 1) 30 #[.int .i64 (-2), .int .i64 at_, .int .i64 s.size, .int .i64 s.size, .int .i64 e] ∧ Hid (tokF next rule kind (sb s) at_ (s.size - i) i e = tokV next rule kind (sb s) at_)) (fun u _ => s.size - (intOf u).toNat)
  case atStart => exact ⟨at_, 0, rfl, Nat.le_refl _, hi, by omega, hD, hX, Lib.hid (by unfold tokV; rw [sb_len])⟩
  case round =>
    obtain ⟨i, e, rfl, hai, his, he, hS, hT, hm⟩ := hrel
    rcases Nat.lt_or_eq_of_le his with hlt | rfl
    · obtain ⟨f, hf⟩ : ∃ f, s.size - i = f + 1 := ⟨s.size - i - 1, by omega⟩
      have hil : i < (sb s).length := by rw [sb_len]; exact hlt
      have hx := lex_bd hF (sb_lt s) hil
      have hm := hm.out
      rw [hf, tokF_more f i e at_ hil] at hm
      have h40 := mNext_in (cn := cn) (cr := cr) (hN.below hS.b (Nat.le_refl _)) (hR.below hS.b (Nat.le_refl _)) (okL_T hok) s i hlt hs
      have hff : f = s.size - (i + 1) := by omega
      clear hil hf
      unfold dV lxV at h40
      rw [sb_len] at hx
      generalize lexV next rule (sb s) i = x at *
      obtain ⟨r, to, ex⟩ := x
      simp only at hx hm h40
      obtain ⟨hx1, hx2, hx3, hx4, hx5, hx6, hx7⟩ := hx
      have d0 : wr.cell? ⟨w.heap.size, 0, none⟩ = some (.slice an next.length cn) := hS.d.cell 0
      have d1 : wr.cell? ⟨w.heap.size, 1, none⟩ = some (.slice ar rule.length cr) := hS.d.cell 1
      have hto : (0 : Int) ≤ (to : Int) := by omega
      obtain ⟨m, hme⟩ : ∃ m, m = max e ex := ⟨_, rfl⟩
      have hmx : max (e : Int) (ex : Int) = (m : Int) := by omega
      obtain ⟨m2, hm2e⟩ : ∃ m2, m2 = max m (to + 1) := ⟨_, rfl⟩
      have hmx2 : max (m : Int) ((to : Int) + 1) = (m2 : Int) := by omega
      rw [← hme, ← hm2e] at hm
      have hml : m ≤ s.size + 1 := by omega
      clear hme hm2e
      by_cases hr : r < 0
      · rw [if_pos (.inl hr), if_pos hr] at hm
        have HM := Lib.hid hm.symm
        clear hm
        go_wp2_with (first
          | (go_at_call 40; (with_reducible refine h40.mono ?_); rintro e1 W2 ⟨rfl, hb2⟩; have hS2 := hS.below (hb2.mono (by have := hT.lt; omega)); have hT2 := hT.below hb2 hT.lt; have hX0 := Bx.new W2 82 #[.int .i64 0, .int .i64 0, .int .i64 0, .int .i64 0]; have hTl := hT2.lt; have hS2 := hS2.below (((Below.refl _ W2).alloc (Nat.le_refl _) (.cells #[.int .i64 0, .int .i64 0, .int .i64 0, .int .i64 0] 82)).mono (by omega)); have hT2 := hT2.alloc (.cells #[.int .i64 0, .int .i64 0, .int .i64 0, .int .i64 0] 82))
          | ((with_reducible refine st_id ?_); refine AX.wpList_storeBox (vs := [.int .i64 r, .int .i64 i, .int .i64 to, .int .i64 ex]) rfl rfl sz82 hX0 rfl rfl ?_; rintro W3 h3 h4 h5; have hX : Bx W3 W2.heap.size 82 #[.int .i64 r, .int .i64 i, .int .i64 to, .int .i64 ex] := h3; have hS3 := hS2.below (AX.below_turn (by have := hT2.lt; omega) (.inl hX.lt) h4 h5); have hT3 : Bx W3 (w.heap.size + 1 + 1) 30 _ := hT2.below (AX.below_turn (n := w.heap.size + 1 + 1 + 1) (by have := hT2.lt; omega) (.inl hX.lt) h4 h5) (by omega); obtain ⟨x0, x1, x2, x3⟩ := Bx.four hX; obtain ⟨t0, t1, t2, t3, t4⟩ := Bx.five hT3; clear h3 h4 h5 hX0))
        have fr := hT3.frozen
        go_region
        have hT4 := hT3.tok3 (.int .i64 (-1)) (.int .i64 i) (.int .i64 to)
        have hX4 := hX.tok3o (T := w.heap.size + 1 + 1) (by omega) (.int .i64 (-1)) (.int .i64 i) (.int .i64 to)
        have hS4 := hS3.below (below_tok3 (Below.refl _ W3) (Nat.le_refl _) (.int .i64 (-1)) (.int .i64 i) (.int .i64 to))
        clear hT3 hX hS3 fr t0 t1 t2 t3 t4 x0 x1 x2 x3
        generalize (((W3.setCell ⟨w.heap.size + 1 + 1, 0, none⟩ (.int .i64 (-1))).setCell ⟨w.heap.size + 1 + 1, 2, none⟩ (.int .i64 i)).setCell ⟨w.heap.size + 1 + 1, 3, none⟩ (.int .i64 to)).drew = W4 at *
        obtain ⟨x0, x1, x2, x3⟩ := Bx.four hX4
        obtain ⟨t0, t1, t2, t3, t4⟩ := Bx.five hT4
        go_wp2_with (first
          | ((with_reducible refine st_id ?_); refine AX.wpList_storeCell (o := 4) (v := .int .i64 m) rfl rfl rfl sz3 hT4 (show 4 < 5 by decide) ?_; rintro W5 h3 h4 h5; have hT5 : Bx W5 (w.heap.size + 1 + 1) 30 #[.int .i64 (-1), .int .i64 at_, .int .i64 i, .int .i64 to, .int .i64 m] := h3; have hS5 := hS4.below (AX.below_turn (Nat.le_refl _) (.inl hT5.lt) h4 h5); obtain ⟨t0, t1, t2, t3, t4⟩ := Bx.five hT5; clear h3 h4 h5 hT4)
          | ((with_reducible refine st_id ?_); refine AX.wpList_storeCell (o := 4) (v := .int .i64 m2) rfl rfl rfl sz3 hT5 (show 4 < 5 by decide) ?_; rintro W6 h3 h4 h5; have hT6 : Bx W6 (w.heap.size + 1 + 1) 30 #[.int .i64 (-1), .int .i64 at_, .int .i64 i, .int .i64 to, .int .i64 m2] := h3; have hS6 := hS5.below (AX.below_turn (Nat.le_refl _) (.inl hT6.lt) h4 h5); obtain ⟨t0, t1, t2, t3, t4⟩ := Bx.five hT6; clear h3 h4 h5 hT5)
          | ((with_reducible refine st_id ?_); refine AX.wpList_storeBox (vs := [.int .i64 (-1), .int .i64 at_, .int .i64 i, .int .i64 to, .int .i64 m2]) rfl rfl sz30 hS6.z rfl rfl ?_; rintro W7 h3 h4 h5; have hR7 : Bx W7 (w.heap.size + 1) 30 #[.int .i64 (-1), .int .i64 at_, .int .i64 i, .int .i64 to, .int .i64 m2] := h3; have hb7 := hS6.b.trans (AX.below_turn (Nat.le_succ _) (.inl hR7.lt) h4 h5); obtain ⟨z0, z1, z2, z3, z4⟩ := Bx.five hR7; clear h3 h4 h5))
        exact bodyPost_ret (v := .agg #[.int .i64 (-1), .int .i64 at_, .int .i64 i, .int .i64 to, .int .i64 m2]) (by simp [results, Tryz.results23, go_sem, z0, z1, z2, z3, z4]) rfl ⟨by first | (rw [HM.out]; done) | (rw [HM.out]; rfl), hb7⟩

      · rw [if_neg hr] at hm
        obtain ⟨y, rfl⟩ : ∃ y : Nat, r = y := ⟨r.toNat, by omega⟩
        rw [Int.toNat_natCast] at hm
        have hyl : y < kind.length := by omega
        obtain ⟨bk, ok, rfl, hbk, hck⟩ := hK.get hyl
        have hk16 := hF.bk _ (getD_mem hyl)
        obtain ⟨k, hk⟩ : ∃ k, k = kind.getD y 0 := ⟨_, rfl⟩
        rw [← hk] at hck hk16 hm
        clear hk
        have hy0 : (0 : Int) ≤ (y : Int) := by omega
        by_cases hk0 : 0 ≤ k
        · rw [if_pos (.inr hk0)] at hm
          have HM := Lib.hid hm.symm
          clear hm
          go_wp2_with (first
            | (go_at_call 40; (with_reducible refine h40.mono ?_); rintro e1 W2 ⟨rfl, hb2⟩; have hS2 := hS.below (hb2.mono (by have := hT.lt; omega)); have hT2 := hT.below hb2 hT.lt; have hX0 := Bx.new W2 82 #[.int .i64 0, .int .i64 0, .int .i64 0, .int .i64 0]; have hTl := hT2.lt; have hS2 := hS2.below (((Below.refl _ W2).alloc (Nat.le_refl _) (.cells #[.int .i64 0, .int .i64 0, .int .i64 0, .int .i64 0] 82)).mono (by omega)); have hT2 := hT2.alloc (.cells #[.int .i64 0, .int .i64 0, .int .i64 0, .int .i64 0] 82))
            | ((with_reducible refine st_id ?_); refine AX.wpList_storeBox (vs := [.int .i64 y, .int .i64 i, .int .i64 to, .int .i64 ex]) rfl rfl sz82 hX0 rfl rfl ?_; rintro W3 h3 h4 h5; have hX : Bx W3 W2.heap.size 82 #[.int .i64 y, .int .i64 i, .int .i64 to, .int .i64 ex] := h3; have hS3 := hS2.below (AX.below_turn (by have := hT2.lt; omega) (.inl hX.lt) h4 h5); have hT3 : Bx W3 (w.heap.size + 1 + 1) 30 _ := hT2.below (AX.below_turn (n := w.heap.size + 1 + 1 + 1) (by have := hT2.lt; omega) (.inl hX.lt) h4 h5) (by omega); obtain ⟨x0, x1, x2, x3⟩ := Bx.four hX; obtain ⟨t0, t1, t2, t3, t4⟩ := Bx.five hT3; clear h3 h4 h5 hX0; have c1 : W3.cell? ⟨w.heap.size, 2, none⟩ = some (.slice (some ⟨bk, ok, none⟩) kind.length ck) := hS3.d.cell 2; have c2 : W3.cell? ⟨bk, ok + y, none⟩ = some (.int .i64 k) := (hS3.b.cell (p := ⟨bk, ok + y, none⟩) hbk).trans hck))
          have fr := hT3.frozen
          go_region
          have hT4 := hT3.tok3 (.int .i64 k) (.int .i64 i) (.int .i64 to)
          have hX4 := hX.tok3o (T := w.heap.size + 1 + 1) (by omega) (.int .i64 k) (.int .i64 i) (.int .i64 to)
          have hS4 := hS3.below (below_tok3 (Below.refl _ W3) (Nat.le_refl _) (.int .i64 k) (.int .i64 i) (.int .i64 to))
          clear hT3 hX hS3 fr t0 t1 t2 t3 t4 x0 x1 x2 x3
          generalize (((W3.setCell ⟨w.heap.size + 1 + 1, 0, none⟩ (.int .i64 k)).setCell ⟨w.heap.size + 1 + 1, 2, none⟩ (.int .i64 i)).setCell ⟨w.heap.size + 1 + 1, 3, none⟩ (.int .i64 to)).drew = W4 at *
          obtain ⟨x0, x1, x2, x3⟩ := Bx.four hX4
          obtain ⟨t0, t1, t2, t3, t4⟩ := Bx.five hT4
          go_wp2_with (first
            | ((with_reducible refine st_id ?_); refine AX.wpList_storeCell (o := 4) (v := .int .i64 m) rfl rfl rfl sz3 hT4 (show 4 < 5 by decide) ?_; rintro W5 h3 h4 h5; have hT5 : Bx W5 (w.heap.size + 1 + 1) 30 #[.int .i64 k, .int .i64 at_, .int .i64 i, .int .i64 to, .int .i64 m] := h3; have hS5 := hS4.below (AX.below_turn (Nat.le_refl _) (.inl hT5.lt) h4 h5); obtain ⟨t0, t1, t2, t3, t4⟩ := Bx.five hT5; clear h3 h4 h5 hT4)
            | ((with_reducible refine st_id ?_); refine AX.wpList_storeCell (o := 4) (v := .int .i64 m2) rfl rfl rfl sz3 hT5 (show 4 < 5 by decide) ?_; rintro W6 h3 h4 h5; have hT6 : Bx W6 (w.heap.size + 1 + 1) 30 #[.int .i64 k, .int .i64 at_, .int .i64 i, .int .i64 to, .int .i64 m2] := h3; have hS6 := hS5.below (AX.below_turn (Nat.le_refl _) (.inl hT6.lt) h4 h5); obtain ⟨t0, t1, t2, t3, t4⟩ := Bx.five hT6; clear h3 h4 h5 hT5)
            | ((with_reducible refine st_id ?_); refine AX.wpList_storeBox (vs := [.int .i64 k, .int .i64 at_, .int .i64 i, .int .i64 to, .int .i64 m2]) rfl rfl sz30 hS6.z rfl rfl ?_; rintro W7 h3 h4 h5; have hR7 : Bx W7 (w.heap.size + 1) 30 #[.int .i64 k, .int .i64 at_, .int .i64 i, .int .i64 to, .int .i64 m2] := h3; have hb7 := hS6.b.trans (AX.below_turn (Nat.le_succ _) (.inl hR7.lt) h4 h5); obtain ⟨z0, z1, z2, z3, z4⟩ := Bx.five hR7; clear h3 h4 h5))
          exact bodyPost_ret (v := .agg #[.int .i64 k, .int .i64 at_, .int .i64 i, .int .i64 to, .int .i64 m2]) (by simp [results, Tryz.results23, go_sem, z0, z1, z2, z3, z4]) rfl ⟨by first | (rw [HM.out]; done) | (rw [HM.out]; rfl), hb7⟩

        · rw [if_neg (by omega)] at hm
          have HM := Lib.hid hm
          clear hm
          go_wp2_with (first
            | (go_at_call 40; (with_reducible refine h40.mono ?_); rintro e1 W2 ⟨rfl, hb2⟩; have hS2 := hS.below (hb2.mono (by have := hT.lt; omega)); have hT2 := hT.below hb2 hT.lt; have hX0 := Bx.new W2 82 #[.int .i64 0, .int .i64 0, .int .i64 0, .int .i64 0]; have hTl := hT2.lt; have hS2 := hS2.below (((Below.refl _ W2).alloc (Nat.le_refl _) (.cells #[.int .i64 0, .int .i64 0, .int .i64 0, .int .i64 0] 82)).mono (by omega)); have hT2 := hT2.alloc (.cells #[.int .i64 0, .int .i64 0, .int .i64 0, .int .i64 0] 82))
            | ((with_reducible refine st_id ?_); refine AX.wpList_storeBox (vs := [.int .i64 y, .int .i64 i, .int .i64 to, .int .i64 ex]) rfl rfl sz82 hX0 rfl rfl ?_; rintro W3 h3 h4 h5; have hX : Bx W3 W2.heap.size 82 #[.int .i64 y, .int .i64 i, .int .i64 to, .int .i64 ex] := h3; have hS3 := hS2.below (AX.below_turn (by have := hT2.lt; omega) (.inl hX.lt) h4 h5); have hT3 : Bx W3 (w.heap.size + 1 + 1) 30 _ := hT2.below (AX.below_turn (n := w.heap.size + 1 + 1 + 1) (by have := hT2.lt; omega) (.inl hX.lt) h4 h5) (by omega); obtain ⟨x0, x1, x2, x3⟩ := Bx.four hX; obtain ⟨t0, t1, t2, t3, t4⟩ := Bx.five hT3; clear h3 h4 h5 hX0; have c1 : W3.cell? ⟨w.heap.size, 2, none⟩ = some (.slice (some ⟨bk, ok, none⟩) kind.length ck) := hS3.d.cell 2; have c2 : W3.cell? ⟨bk, ok + y, none⟩ = some (.int .i64 k) := (hS3.b.cell (p := ⟨bk, ok + y, none⟩) hbk).trans hck)
            | ((with_reducible refine st_id ?_); refine AX.wpList_storeCell (o := 4) (v := .int .i64 m) rfl rfl rfl sz3 hT3 (show 4 < 5 by decide) ?_; rintro W5 h3 h4 h5; have hT5 : Bx W5 (w.heap.size + 1 + 1) 30 #[.int .i64 (-2), .int .i64 at_, .int .i64 s.size, .int .i64 s.size, .int .i64 m] := h3; have hS5 := hS3.below (AX.below_turn (Nat.le_refl _) (.inl hT5.lt) h4 h5); have x2 : W5.cell? ⟨W2.heap.size, 2, none⟩ = some (.int .i64 to) := cell_of_row _ _ 2 _ _ _ ((h4 _ (by omega)).trans hX); obtain ⟨t0, t1, t2, t3, t4⟩ := Bx.five hT5; clear h3 h4 h5 hT3))
          go_roundw
          case rel => exact ⟨to, m, rfl, by omega, hx5, hml, hS5, hT5, Lib.hid (by rw [← HM.out]; exact tokF_fuel hF (sb_lt s) at_ _ _ _ _ (by rw [sb_len]; omega) (by rw [sb_len]; omega) (by rw [sb_len]; omega))⟩
          case measure => simp [intOf]; omega
    · have h40 := mNext_out (next := next) (rule := rule) (an := an) (ar := ar) (cn := cn) (cr := cr) (w := wr) s s.size rfl hs
      unfold dV lxV at h40
      have d0 : wr.cell? ⟨w.heap.size, 0, none⟩ = some (.slice an next.length cn) := hS.d.cell 0
      have d1 : wr.cell? ⟨w.heap.size, 1, none⟩ = some (.slice ar rule.length cr) := hS.d.cell 1
      have hm := hm.out
      rw [Nat.sub_self, tokF, sb_len] at hm
      have HM := Lib.hid hm.symm
      clear hm
      go_wp2_with (first
        | (go_at_call 40; (with_reducible refine h40.mono ?_); rintro e1 W2 ⟨rfl, hb2⟩; have hS2 := hS.below (hb2.mono (by have := hT.lt; omega)); have hT2 := hT.below hb2 hT.lt; have hX0 := Bx.new W2 82 #[.int .i64 0, .int .i64 0, .int .i64 0, .int .i64 0]; have hTl := hT2.lt; have hS2 := hS2.below (((Below.refl _ W2).alloc (Nat.le_refl _) (.cells #[.int .i64 0, .int .i64 0, .int .i64 0, .int .i64 0] 82)).mono (by omega)); have hT2 := hT2.alloc (.cells #[.int .i64 0, .int .i64 0, .int .i64 0, .int .i64 0] 82))
        | ((with_reducible refine st_id ?_); refine AX.wpList_storeBox (vs := [.int .i64 0, .int .i64 0, .int .i64 0, .int .i64 0]) rfl rfl sz82 hX0 rfl rfl ?_; rintro W3 h3 h4 h5; have hX : Bx W3 W2.heap.size 82 #[.int .i64 0, .int .i64 0, .int .i64 0, .int .i64 0] := h3; have hS3 := hS2.below (AX.below_turn (by have := hT2.lt; omega) (.inl hX.lt) h4 h5); have hT3 : Bx W3 (w.heap.size + 1 + 1) 30 _ := hT2.below (AX.below_turn (n := w.heap.size + 1 + 1 + 1) (by have := hT2.lt; omega) (.inl hX.lt) h4 h5) (by omega); obtain ⟨x0, x1, x2, x3⟩ := Bx.four hX; obtain ⟨t0, t1, t2, t3, t4⟩ := Bx.five hT3; clear h3 h4 h5 hX0)
        | ((with_reducible refine st_id ?_); refine AX.wpList_storeCell (o := 4) (v := .int .i64 (s.size + 1)) rfl rfl rfl sz3 hT3 (show 4 < 5 by decide) ?_; rintro W4 h3 h4 h5; have hT4 : Bx W4 (w.heap.size + 1 + 1) 30 #[.int .i64 (-2), .int .i64 at_, .int .i64 s.size, .int .i64 s.size, .int .i64 (s.size + 1)] := h3; have hS4 := hS3.below (AX.below_turn (Nat.le_refl _) (.inl hT4.lt) h4 h5); obtain ⟨t0, t1, t2, t3, t4⟩ := Bx.five hT4; clear h3 h4 h5 hT3)
        | ((with_reducible refine st_id ?_); refine AX.wpList_storeBox (vs := [.int .i64 (-2), .int .i64 at_, .int .i64 s.size, .int .i64 s.size, .int .i64 (s.size + 1)]) rfl rfl sz30 hS4.z rfl rfl ?_; rintro W5 h3 h4 h5; have hR5 : Bx W5 (w.heap.size + 1) 30 #[.int .i64 (-2), .int .i64 at_, .int .i64 s.size, .int .i64 s.size, .int .i64 (s.size + 1)] := h3; have hb5 := hS4.b.trans (AX.below_turn (Nat.le_succ _) (.inl hR5.lt) h4 h5); obtain ⟨z0, z1, z2, z3, z4⟩ := Bx.five hR5; clear h3 h4 h5))
      exact bodyPost_ret (v := .agg #[.int .i64 (-2), .int .i64 at_, .int .i64 s.size, .int .i64 s.size, .int .i64 (s.size + 1)]) (by simp [results, Tryz.results23, go_sem, z0, z1, z2, z3, z4]) rfl ⟨by first | (rw [HM.out]; done) | (rw [HM.out]; rfl), hb5⟩
end
end Go.Proofs.YtefjfbhffmkikaaGreatDoor

namespace Go.Proofs.YtefjfbhffmkikaaGreatDoor
open Go Go.Proofs Go.RowKit
attribute [local go_sem] Oper.semAt_some
section
variable {next rule : List Int} {an ar : Option Addr} {cn cr : Nat} {w : World}
theorem szi : AX.sizeT Tryz.prog 3 = some 1 := by kernel_rfl
set_option maxRecDepth 100000 in
set_option maxHeartbeats 4000000 in
theorem rNext_in (hN : IRow w an next) (hR : IRow w ar rule) (hok : okT next rule = true) (s : ByteArray) (at_ : Nat) (hi : at_ < s.size) (hs : s.size ≤ 1000000) :
    Calls Tryz.prog 41 #[dV an ar next.length rule.length cn cr, .string s, .int .i64 at_] w fun e w' => e = .returned (.tuple #[lxV (lexV next rule (sb s) at_) at_, .bool true]) ∧ Below w.heap.size w w' := by
  obtain ⟨hr1, hr2, hnl, _, hbd⟩ := okT_of hok
  have hck := fun W (hb : Below w.heap.size w W) => rcheck_k next rule (by omega) (by omega) an ar cn cr W (hN.below hb (Nat.le_refl _)) (hR.below hb (Nat.le_refl _))
  unfold dV lxV
  unfold checkV at hck
  simp only [hok, if_true] at hck
  have h0 : (0 : Int) ≤ (at_ : Int) := by omega
  have h1 : (at_ : Int) < (s.size : Int) := by omega
  have q0 : decide ((at_ : Int) < 0) = false := by simp
  have q1 : decide (s.size ≤ at_) = false := by simp; omega
  have hB := ((Below.refl w.heap.size w).alloc (Nat.le_refl _) (.cells #[.slice an next.length cn, .slice ar rule.length cr] 24)).alloc (by simp) (.cells #[.int .i64 0, .int .i64 0, .int .i64 0, .int .i64 0] 82)
  have hD : Bx ((w.alloc (.cells #[.slice an next.length cn, .slice ar rule.length cr] 24)).alloc (.cells #[.int .i64 0, .int .i64 0, .int .i64 0, .int .i64 0] 82)) w.heap.size 24 #[.slice an next.length cn, .slice ar rule.length cr] := (Bx.new _ _ _).alloc _
  have hZ : Bx ((w.alloc (.cells #[.slice an next.length cn, .slice ar rule.length cr] 24)).alloc (.cells #[.int .i64 0, .int .i64 0, .int .i64 0, .int .i64 0] 82)) (w.heap.size + 1) 82 #[.int .i64 0, .int .i64 0, .int .i64 0, .int .i64 0] := by
    have := Bx.new (w.alloc (.cells #[.slice an next.length cn, .slice ar rule.length cr] 24)) 82 #[.int .i64 0, .int .i64 0, .int .i64 0, .int .i64 0]
    rwa [World.size_alloc] at this
  have HNL := Lib.hid hnl
  clear hok hnl
  go_enter Tryz.func41, Tryz.ntmps41
  go_wp2_with fail
  generalize (w.alloc (.cells #[.slice an next.length cn, .slice ar rule.length cr] 24)).alloc (.cells #[.int .i64 0, .int .i64 0, .int .i64 0, .int .i64 0] 82) = W0 at *
  have h31 := hck W0 hB
  have hz1 := hZ.lt
  have hlt : w.heap.size < W0.heap.size := Nat.lt_trans (Nat.lt_succ_self _) hz1
  clear hck
  go_wp2_with (go_at_call 31; ((with_reducible refine h31.mono ?_); rintro e W1 ⟨rfl, hb1⟩; have hS1 : Sc w W1 next rule an ar cn cr W1.heap.size := ⟨hB.trans (hb1.mono (Nat.le_of_lt hlt)), hD.below hb1 hlt, hZ.below hb1 hz1, Nat.lt_of_lt_of_le hz1 hb1.size⟩; clear h31))
  have hX := Bx.new W1 82 #[.int .i64 (-1), .int .i64 at_, .int .i64 (at_ + 1), .int .i64 0]
  have hS1 := hS1.below ((Below.refl _ W1).alloc (Nat.le_refl _) (.cells #[.int .i64 (-1), .int .i64 at_, .int .i64 (at_ + 1), .int .i64 0] 82))
  obtain ⟨B, hBe⟩ : ∃ B, W1.heap.size = B := ⟨_, rfl⟩
  rw [hBe] at hX hS1 ⊢
  clear hBe hB hD hZ
  generalize W1.alloc (.cells #[.int .i64 (-1), .int .i64 at_, .int .i64 (at_ + 1), .int .i64 0] 82) = W2 at *
  clear hb1 hz1 hlt
  go_loopw [9, 10] (fun us ui wr => ∃ (i st : Nat) (r : Int) (to : Nat) (e : Int), us = .int .i64 st ∧ ui = .int .i64 i ∧ i ≤ s.size ∧ st < rule.length ∧ Sc w wr next rule an ar cn cr B ∧ Bx wr B 82 #[.int .i64 r, .int .i64 at_, .int .i64 to, .int .i64 e] ∧ Hid (munchF next rule (sb s) (s.size - i) i st r to = lexV next rule (sb s) at_)) (fun _ ui _ => s.size + 1 - (intOf ui).toNat)
  case atStart => exact ⟨at_, 0, -1, at_ + 1, 0, rfl, rfl, by omega, by omega, hS1, hX, Lib.hid (by unfold lexV; rw [sb_len])⟩
  case round =>
    obtain ⟨i, st, r, to, e, rfl, rfl, his, hst, hS, hX0, hm⟩ := hrel
    obtain ⟨x0, x1, x2, x3⟩ := Bx.four hX0
    rcases Nat.lt_or_eq_of_le his with hlt | rfl
    · have q2 : decide ((i : Int) = (s.size : Int)) = false := by simp; omega
      have q3 : ((i : Int) == (s.size : Int)) = false := by simp; omega
      have hnl := HNL.out
      obtain ⟨x, hx⟩ : ∃ x, x = next.getD (256 * st + (sb s).getD i 0) 0 := ⟨_, rfl⟩
      have hb : (sb s).getD i 0 < 256 := by rw [sb_get s _ hlt]; exact UInt8.toNat_lt _
      have hix : 256 * st + (sb s).getD i 0 < next.length := by omega
      have hxb := hbd _ (getD_mem hix)
      obtain ⟨b1, o1, rfl, hb1, hc1⟩ := hN.get hix
      have hm := hm.out
      rw [← sb_len, munch_step (by rw [sb_len]; exact hlt), ← hx] at hm
      rw [← hx] at hxb hc1
      rw [sb_get s _ hlt] at hc1 hb hix
      obtain ⟨c, hc⟩ : ∃ c, s[i].toNat = c := ⟨_, rfl⟩
      rw [hc] at hc1 hb hix
      clear hnl hx
      go_wp2_with (first
        | (refine AX.wpList_storeCell (o := 3) (v := .int .i64 (i + 1)) rfl rfl rfl szi hX0 (show 3 < 4 by decide) ?_; rintro W1 h3 h4 h5; have hX1 : Bx W1 B 82 #[.int .i64 r, .int .i64 at_, .int .i64 to, .int .i64 (i + 1)] := h3; have hS1 := hS.below (AX.below_turn (Nat.le_refl _) (.inl hX1.lt) h4 h5); obtain ⟨x0, x1, x2, x3⟩ := Bx.four hX1; clear h3 h4 h5 hX0))
      have c1 : W1.cell? ⟨b1, o1 + (256 * st + c), none⟩ = some (.int .i64 x) := (hS1.b.cell (p := ⟨b1, o1 + (256 * st + c), none⟩) hb1).trans hc1
      have d0 : W1.cell? ⟨w.heap.size, 0, none⟩ = some (.slice (some ⟨b1, o1, none⟩) next.length cn) := hS1.d.cell 0
      have i0 : (0 : Int) ≤ (i : Int) := by omega
      have i1 : (i : Int) < (s.size : Int) := by omega
      have hc0 : (0 : Int) ≤ (c : Int) := by omega
      have hc2 : (c : Int) < 256 := by omega
      have hs0 : (0 : Int) ≤ (st : Int) := by omega
      have hs5 : (st : Int) < 512 := by omega
      have hq : 256 * (st : Int) + (c : Int) < (next.length : Int) := by omega
      have htq : (256 * (st : Int) + (c : Int)).toNat = 256 * st + c := by omega
      have w1 : IntKind.i64.wrap (256 * (st : Int)) = 256 * (st : Int) := by rw [IntKind.wrap_i64]; omega
      have w2 : IntKind.i64.wrap (c : Int) = (c : Int) := by rw [IntKind.wrap_i64]; omega
      have w3 : IntKind.i64.wrap (256 * (st : Int) + (c : Int)) = 256 * (st : Int) + (c : Int) := by rw [IntKind.wrap_i64]; omega
      have hp1 : (0 : Int) ≤ 256 * (st : Int) + (c : Int) := by omega
      have HM := Lib.hid hm
      clear hm hc1
      go_region
      have hX3 : Bx W1.drew B 82 #[.int .i64 r, .int .i64 at_, .int .i64 to, .int .i64 (i + 1)] := hX1
      have hS3 := hS1.below ((Below.refl _ W1).drew)
      clear hX1 hS1 c1 d0 x0 x1 x2 x3 w1 w2 w3 htq hq hp1
      generalize W1.drew = W3 at *
      obtain ⟨x0, x1, x2, x3⟩ := Bx.four hX3
      by_cases g1 : x < 0
      · have hm := HM.out
        rw [if_pos g1] at hm
        have HM := Lib.hid hm
        clear hm
        go_wp2_with (first
          | (refine AX.wpList_storeBox (vs := [.int .i64 r, .int .i64 at_, .int .i64 to, .int .i64 (i + 1)]) rfl rfl sz82 hS3.z rfl rfl ?_; rintro W5 h3 h4 h5; have hR5 : Bx W5 (w.heap.size + 1) 82 #[.int .i64 r, .int .i64 at_, .int .i64 to, .int .i64 (i + 1)] := h3; have hb5 := hS3.b.trans (AX.below_turn (Nat.le_succ _) (.inl hR5.lt) h4 h5); obtain ⟨z0, z1, z2, z3⟩ := Bx.four hR5; clear h3 h4 h5))
        exact bodyPost_ret (v := .tuple #[.agg #[.int .i64 r, .int .i64 at_, .int .i64 to, .int .i64 (i + 1)], .bool true]) (by simp [results, Tryz.results41, go_sem, z0, z1, z2, z3]) rfl ⟨by rw [← HM.out]; rfl, hb5⟩
      · have hm := HM.out
        rw [if_neg g1] at hm
        obtain ⟨y, rfl⟩ : ∃ y : Nat, x = y := ⟨x.toNat, by omega⟩
        rw [Int.toNat_natCast] at hm
        have hyl : y < rule.length := by omega
        obtain ⟨b2, o2, rfl, hb2, hc2'⟩ := hR.get hyl
        have d1 : W3.cell? ⟨w.heap.size, 1, none⟩ = some (.slice (some ⟨b2, o2, none⟩) rule.length cr) := hS3.d.cell 1
        have c2 : W3.cell? ⟨b2, o2 + y, none⟩ = some (.int .i64 (rule.getD y 0)) := (hS3.b.cell (p := ⟨b2, o2 + y, none⟩) hb2).trans hc2'
        obtain ⟨u, hu⟩ : ∃ u, u = rule.getD y 0 := ⟨_, rfl⟩
        rw [← hu] at c2 hm
        have hy0 : (0 : Int) ≤ (y : Int) := by omega
        clear hu g1 hc2'
        by_cases g2 : 0 ≤ u
        · rw [if_pos g2] at hm
          have HM := Lib.hid hm
          clear hm
          go_wp2_with (first
            | (refine AX.wpList_storeCell (o := 0) (v := .int .i64 u) rfl rfl rfl szi hX3 (show 0 < 4 by decide) ?_; rintro W4 h3 h4 h5; have hX4 : Bx W4 B 82 #[.int .i64 u, .int .i64 at_, .int .i64 to, .int .i64 (i + 1)] := h3; have hS4 := hS3.below (AX.below_turn (Nat.le_refl _) (.inl hX4.lt) h4 h5); obtain ⟨x0, x1, x2, x3⟩ := Bx.four hX4; clear h3 h4 h5 hX3)
            | (refine AX.wpList_storeCell (o := 2) (v := .int .i64 (i + 1)) rfl rfl rfl szi hX4 (show 2 < 4 by decide) ?_; rintro W5 h3 h4 h5; have hX5 : Bx W5 B 82 #[.int .i64 u, .int .i64 at_, .int .i64 (i + 1), .int .i64 (i + 1)] := h3; have hS5 := hS4.below (AX.below_turn (Nat.le_refl _) (.inl hX5.lt) h4 h5); obtain ⟨x0, x1, x2, x3⟩ := Bx.four hX5; clear h3 h4 h5 hX4))
          go_roundw
          case rel => exact ⟨i + 1, y, u, i + 1, i + 1, rfl, rfl, by omega, hyl, hS5, hX5, Lib.hid (by have := HM.out; rwa [sb_len] at this)⟩
          case measure => simp [intOf]; omega
        · rw [if_neg g2] at hm
          have HM := Lib.hid hm
          clear hm
          go_wp2_with fail
          go_roundw
          case rel => exact ⟨i + 1, y, r, to, i + 1, rfl, rfl, by omega, hyl, hS3, hX3, Lib.hid (by have := HM.out; rwa [sb_len] at this)⟩
          case measure => simp [intOf]; omega
    · have hm := hm.out
      rw [Nat.sub_self, munchF] at hm
      have HM := Lib.hid hm
      clear hm
      go_wp2_with (first
        | (refine AX.wpList_storeCell (o := 3) (v := .int .i64 (s.size + 1)) rfl rfl rfl szi hX0 (show 3 < 4 by decide) ?_; rintro W1 h3 h4 h5; have hX1 : Bx W1 B 82 #[.int .i64 r, .int .i64 at_, .int .i64 to, .int .i64 (s.size + 1)] := h3; have hS1 := hS.below (AX.below_turn (Nat.le_refl _) (.inl hX1.lt) h4 h5); obtain ⟨x0, x1, x2, x3⟩ := Bx.four hX1; clear h3 h4 h5 hX0)
        | (refine AX.wpList_storeBox (vs := [.int .i64 r, .int .i64 at_, .int .i64 to, .int .i64 (s.size + 1)]) rfl rfl sz82 hS1.z rfl rfl ?_; rintro W5 h3 h4 h5; have hR5 : Bx W5 (w.heap.size + 1) 82 #[.int .i64 r, .int .i64 at_, .int .i64 to, .int .i64 (s.size + 1)] := h3; have hb5 := hS1.b.trans (AX.below_turn (Nat.le_succ _) (.inl hR5.lt) h4 h5); obtain ⟨z0, z1, z2, z3⟩ := Bx.four hR5; clear h3 h4 h5))
      exact bodyPost_ret (v := .tuple #[.agg #[.int .i64 r, .int .i64 at_, .int .i64 to, .int .i64 (s.size + 1)], .bool true]) (by simp [results, Tryz.results41, go_sem, z0, z1, z2, z3]) rfl ⟨by rw [← HM.out]; rfl, hb5⟩
end
end Go.Proofs.YtefjfbhffmkikaaGreatDoor

namespace Go.Proofs.YtefjfbhffmkikaaGreatDoor
open Go Go.Proofs Go.RowKit
attribute [local go_sem] Oper.semAt_some
section
variable {next rule : List Int} {an ar : Option Addr} {cn cr : Nat} {w : World}
set_option maxRecDepth 100000 in
set_option maxHeartbeats 4000000 in
theorem rNext_out (hN : IRow w an next) (hR : IRow w ar rule) (hok : okT next rule = true) (s : ByteArray) (at_ : Nat) (hi : at_ = s.size) (hs : s.size ≤ 1000000) :
    Calls Tryz.prog 41 #[dV an ar next.length rule.length cn cr, .string s, .int .i64 at_] w fun e w' => e = .returned (.tuple #[lxV (0, 0, 0) 0, .bool false]) ∧ Below w.heap.size w w' := by
  obtain ⟨hr1, hr2, hnl, _, hbd⟩ := okT_of hok
  have hck := fun W (hb : Below w.heap.size w W) => rcheck_k next rule (by omega) (by omega) an ar cn cr W (hN.below hb (Nat.le_refl _)) (hR.below hb (Nat.le_refl _))
  unfold checkV at hck
  simp only [hok, if_true] at hck
  unfold dV lxV
  subst hi
  have h0 : (0 : Int) ≤ (s.size : Int) := by omega
  have hB := ((Below.refl w.heap.size w).alloc (Nat.le_refl _) (.cells #[.slice an next.length cn, .slice ar rule.length cr] 24)).alloc (by simp) (.cells #[.int .i64 0, .int .i64 0, .int .i64 0, .int .i64 0] 82)
  have hZ : Bx ((w.alloc (.cells #[.slice an next.length cn, .slice ar rule.length cr] 24)).alloc (.cells #[.int .i64 0, .int .i64 0, .int .i64 0, .int .i64 0] 82)) (w.heap.size + 1) 82 #[.int .i64 0, .int .i64 0, .int .i64 0, .int .i64 0] := by
    have := Bx.new (w.alloc (.cells #[.slice an next.length cn, .slice ar rule.length cr] 24)) 82 #[.int .i64 0, .int .i64 0, .int .i64 0, .int .i64 0]
    rwa [World.size_alloc] at this
  clear hok hnl hN hR hbd
  go_enter Tryz.func41, Tryz.ntmps41
  go_wp2_with fail
  generalize (w.alloc (.cells #[.slice an next.length cn, .slice ar rule.length cr] 24)).alloc (.cells #[.int .i64 0, .int .i64 0, .int .i64 0, .int .i64 0] 82) = W0 at *
  have h31 := hck W0 hB
  have hz1 := hZ.lt
  clear hck
  go_wp2_with (first
    | (go_at_call 31; ((with_reducible refine h31.mono ?_); rintro e W1 ⟨rfl, hb1⟩; have hZ1 := hZ.below hb1 hz1; have hB1 := hB.trans (hb1.mono hB.size); clear h31))
    | (refine AX.wpList_storeBox (vs := [.int .i64 0, .int .i64 0, .int .i64 0, .int .i64 0]) rfl rfl sz82 hZ1 rfl rfl ?_; rintro W2 h3 h4 h5; have hZ2 : Bx W2 (w.heap.size + 1) 82 #[.int .i64 0, .int .i64 0, .int .i64 0, .int .i64 0] := h3; have hB2 := hB1.trans (AX.below_turn (Nat.le_succ _) (.inl hZ2.lt) h4 h5); obtain ⟨z0, z1, z2, z3⟩ := Bx.four hZ2; clear h3 h4 h5))
  exact bodyPost_ret (v := .tuple #[.agg #[.int .i64 0, .int .i64 0, .int .i64 0, .int .i64 0], .bool false]) (by simp [results, Tryz.results41, go_sem, z0, z1, z2, z3]) rfl ⟨rfl, hB2⟩
end
end Go.Proofs.YtefjfbhffmkikaaGreatDoor

namespace Go.Proofs.YtefjfbhffmkikaaGreatDoor
open Go Go.Proofs Go.RowKit
attribute [local go_sem] Oper.semAt_some
section
variable {next rule kind : List Int} {kinds : Int} {an ar ak : Option Addr} {cn cr ck : Nat} {w : World}
theorem Bx.turn {w w' : World} {B b : Nat} {t : TypeId} {cs : Array Value} (h : Bx w B t cs) (hne : B ≠ b) (h4 : ∀ k, k ≠ b → w'.heap[k]? = w.heap[k]?) : Bx w' B t cs := (h4 _ hne).trans h
set_option maxRecDepth 100000 in
set_option maxHeartbeats 40000000 in
theorem rnext_k (hN : IRow w an next) (hR : IRow w ar rule) (hK : IRow w ak kind) (hok : okL next rule kind kinds = true) (s : ByteArray) (at_ : Nat) (hi : at_ ≤ s.size) (hs : s.size ≤ 1000000) :
    Calls Tryz.prog 24 #[lV an ar ak next.length rule.length kind.length cn cr ck kinds, .string s, .int .i64 at_] w fun e w' => e = .returned (tkV (tokV next rule kind (sb s) at_)) ∧ Below w.heap.size w w' := by
  unfold lV tkV
  have hF := fits_of hok
  obtain ⟨W0, hW0⟩ : ∃ W0, W0 = ((w.alloc (.cells #[.slice an next.length cn, .slice ar rule.length cr, .slice ak kind.length ck, .int .i64 kinds] 26)).alloc (.cells #[.int .i64 0, .int .i64 0, .int .i64 0, .int .i64 0, .int .i64 0] 30)) := ⟨_, rfl⟩
  have hD : Nx w W0 next rule kind kinds an ar ak cn cr ck := by
    refine ⟨hW0 ▸ ((Below.refl w.heap.size w).alloc (Nat.le_refl _) _).alloc (by simp) _, hW0 ▸ (Bx.new _ _ _).alloc _, ?_⟩
    have := Bx.new (w.alloc (.cells #[.slice an next.length cn, .slice ar rule.length cr, .slice ak kind.length ck, .int .i64 kinds] 26)) 30 #[.int .i64 0, .int .i64 0, .int .i64 0, .int .i64 0, .int .i64 0]
    rw [World.size_alloc] at this
    exact hW0 ▸ this
  have hT : W0.heap.size = w.heap.size + 1 + 1 := by rw [hW0]; simp
  go_enter Tryz.func24, Tryz.ntmps24
  go_wp2_with fail
  rw [← hW0]
  have hX := Bx.new W0 30 #[.int .i64 0, .int .i64 at_, .int .i64 0, .int .i64 0, .int .i64 0]
  rw [hT] at hX
  have hD := hD.below (((Below.refl _ W0).alloc (Nat.le_refl _) (.cells #[.int .i64 0, .int .i64 at_, .int .i64 0, .int .i64 0, .int .i64 0] 30)).mono (by omega))
  generalize W0.alloc (.cells #[.int .i64 0, .int .i64 at_, .int .i64 0, .int .i64 0, .int .i64 0] 30) = W1 at *
  clear hT hW0
  go_loopw [2] (fun u wr => ∃ (i e : Nat), u = .int .i64 i ∧ at_ ≤ i ∧ i ≤ s.size ∧ e ≤ s.size + 1 ∧ Nx w wr next rule kind kinds an ar ak cn cr ck ∧ Bx wr (w.heap.size + 1 + 1) 30 #[.int .i64 0, .int .i64 at_, .int .i64 0, .int .i64 0, .int .i64 e] ∧ Hid (tokF next rule kind (sb s) at_ (s.size - i) i e = tokV next rule kind (sb s) at_)) (fun u _ => s.size - (intOf u).toNat)
  case atStart => exact ⟨at_, 0, rfl, Nat.le_refl _, hi, by omega, hD, hX, Lib.hid (by unfold tokV; rw [sb_len])⟩
  case round =>
    obtain ⟨i, e, rfl, hai, his, he, hS, hT, hm⟩ := hrel
    clear hX hD
    rcases Nat.lt_or_eq_of_le his with hlt | rfl
    · obtain ⟨f, hf⟩ : ∃ f, s.size - i = f + 1 := ⟨s.size - i - 1, by omega⟩
      have hil : i < (sb s).length := by rw [sb_len]; exact hlt
      have hx := lex_bd hF (sb_lt s) hil
      have hm := hm.out
      rw [hf, tokF_more f i e at_ hil] at hm
      have h40 := rNext_in (cn := cn) (cr := cr) (hN.below hS.b (Nat.le_refl _)) (hR.below hS.b (Nat.le_refl _)) (okL_T hok) s i hlt hs
      have hff : f = s.size - (i + 1) := by omega
      clear hil hf
      unfold dV lxV at h40
      rw [sb_len] at hx
      generalize lexV next rule (sb s) i = x at *
      obtain ⟨r, to, ex⟩ := x
      simp only at hx hm h40
      obtain ⟨hx1, hx2, hx3, hx4, hx5, hx6, hx7⟩ := hx
      have d0 : wr.cell? ⟨w.heap.size, 0, none⟩ = some (.slice an next.length cn) := hS.d.cell 0
      have d1 : wr.cell? ⟨w.heap.size, 1, none⟩ = some (.slice ar rule.length cr) := hS.d.cell 1
      have hto : (0 : Int) ≤ (to : Int) := by omega
      obtain ⟨m, hme⟩ : ∃ m, m = max e ex := ⟨_, rfl⟩
      have hmx : max (e : Int) (ex : Int) = (m : Int) := by omega
      obtain ⟨m2, hm2e⟩ : ∃ m2, m2 = max m (to + 1) := ⟨_, rfl⟩
      have hmx2 : max (m : Int) ((to : Int) + 1) = (m2 : Int) := by omega
      rw [← hme, ← hm2e] at hm
      have hml : m ≤ s.size + 1 := by omega
      clear hme hm2e
      by_cases hr : r < 0
      · obtain rfl : r = -1 := by omega
        rw [if_pos (.inl hr), if_pos hr] at hm
        clear hr
        have HM := Lib.hid hm.symm
        clear hm
        go_wp2_with (first
          | (go_at_call 41; (with_reducible refine h40.mono ?_); rintro e1 W2 ⟨rfl, hb2⟩; have hS2 := hS.below (hb2.mono (by have := hT.lt; omega)); have hT2 := hT.below hb2 hT.lt; have hX0 := Bx.new W2 82 #[.int .i64 0, .int .i64 0, .int .i64 0, .int .i64 0]; have hTl := hT2.lt; have hS2 := hS2.below (((Below.refl _ W2).alloc (Nat.le_refl _) (.cells #[.int .i64 0, .int .i64 0, .int .i64 0, .int .i64 0] 82)).mono (by omega)); have hT2 := hT2.alloc (.cells #[.int .i64 0, .int .i64 0, .int .i64 0, .int .i64 0] 82))
          | ((with_reducible refine st_id ?_); refine AX.wpList_storeBox (vs := [.int .i64 (-1), .int .i64 i, .int .i64 to, .int .i64 ex]) rfl rfl sz82 hX0 rfl rfl ?_; rintro W3 h3 h4 h5; have hX3 : Bx W3 W2.heap.size 82 #[.int .i64 (-1), .int .i64 i, .int .i64 to, .int .i64 ex] := h3; have hS3 := hS2.below (AX.below_turn (by have := hT2.lt; omega) (.inl hX3.lt) h4 h5); have hT3 : Bx W3 (w.heap.size + 1 + 1) 30 _ := hT2.below (AX.below_turn (n := w.heap.size + 1 + 1 + 1) (by have := hT2.lt; omega) (.inl hX3.lt) h4 h5) (by omega); obtain ⟨x0, x1, x2, x3⟩ := Bx.four hX3; obtain ⟨t0, t1, t2, t3, t4⟩ := Bx.five hT3; clear h3 h4 h5 hX0)
          | ((with_reducible refine st_id ?_); refine AX.wpList_storeCell (o := 4) (v := .int .i64 m) rfl rfl rfl sz3 hT3 (show 4 < 5 by decide) ?_; rintro W4 h3 h4 h5; have hT4 : Bx W4 (w.heap.size + 1 + 1) 30 #[.int .i64 0, .int .i64 at_, .int .i64 0, .int .i64 0, .int .i64 m] := h3; have hS4 := hS3.below (AX.below_turn (Nat.le_refl _) (.inl hT4.lt) h4 h5); have hX4 := hX3.turn (by omega) h4; obtain ⟨x0, x1, x2, x3⟩ := Bx.four hX4; obtain ⟨t0, t1, t2, t3, t4⟩ := Bx.five hT4; clear h3 h4 h5 hT3))
        have fr := hT4.frozen
        go_region
        have hT5 := hT4.tok3 (.int .i64 (-1)) (.int .i64 i) (.int .i64 to)
        have hX5 := hX4.tok3o (T := w.heap.size + 1 + 1) (by omega) (.int .i64 (-1)) (.int .i64 i) (.int .i64 to)
        have hS5 := hS4.below (below_tok3 (Below.refl _ W4) (Nat.le_refl _) (.int .i64 (-1)) (.int .i64 i) (.int .i64 to))
        clear hT4 hX4 hS4 fr t0 t1 t2 t3 t4 x0 x1 x2 x3
        generalize (((W4.setCell ⟨w.heap.size + 1 + 1, 0, none⟩ (.int .i64 (-1))).setCell ⟨w.heap.size + 1 + 1, 2, none⟩ (.int .i64 i)).setCell ⟨w.heap.size + 1 + 1, 3, none⟩ (.int .i64 to)).drew = W5 at *
        obtain ⟨x0, x1, x2, x3⟩ := Bx.four hX5
        obtain ⟨t0, t1, t2, t3, t4⟩ := Bx.five hT5
        go_wp2_with (first
          | ((with_reducible refine st_id ?_); refine AX.wpList_storeCell (o := 4) (v := .int .i64 m2) rfl rfl rfl sz3 hT5 (show 4 < 5 by decide) ?_; rintro W6 h3 h4 h5; have hT6 : Bx W6 (w.heap.size + 1 + 1) 30 #[.int .i64 (-1), .int .i64 at_, .int .i64 i, .int .i64 to, .int .i64 m2] := h3; have hS6 := hS5.below (AX.below_turn (Nat.le_refl _) (.inl hT6.lt) h4 h5); have hX6 := hX5.turn (by omega) h4; obtain ⟨x0, x1, x2, x3⟩ := Bx.four hX6; obtain ⟨t0, t1, t2, t3, t4⟩ := Bx.five hT6; clear h3 h4 h5 hT5)
          | ((with_reducible refine st_id ?_); refine AX.wpList_storeBox (vs := [.int .i64 (-1), .int .i64 at_, .int .i64 i, .int .i64 to, .int .i64 m2]) rfl rfl sz30 hS6.z rfl rfl ?_; rintro W7 h3 h4 h5; have hR7 : Bx W7 (w.heap.size + 1) 30 #[.int .i64 (-1), .int .i64 at_, .int .i64 i, .int .i64 to, .int .i64 m2] := h3; have hb7 := hS6.b.trans (AX.below_turn (Nat.le_succ _) (.inl hR7.lt) h4 h5); obtain ⟨z0, z1, z2, z3, z4⟩ := Bx.five hR7; clear h3 h4 h5))
        exact bodyPost_ret (v := .agg #[.int .i64 (-1), .int .i64 at_, .int .i64 i, .int .i64 to, .int .i64 m2]) (by simp [results, Tryz.results24, go_sem, z0, z1, z2, z3, z4]) rfl ⟨by first | (rw [HM.out]; done) | (rw [HM.out]; rfl), hb7⟩
      · rw [if_neg hr] at hm
        obtain ⟨y, rfl⟩ : ∃ y : Nat, r = y := ⟨r.toNat, by omega⟩
        rw [Int.toNat_natCast] at hm
        have hyl : y < kind.length := by omega
        obtain ⟨bk, ok, rfl, hbk, hck⟩ := hK.get hyl
        have hk16 := hF.bk _ (getD_mem hyl)
        obtain ⟨k, hk⟩ : ∃ k, k = kind.getD y 0 := ⟨_, rfl⟩
        rw [← hk] at hck hk16 hm
        clear hk
        have hy0 : (0 : Int) ≤ (y : Int) := by omega
        by_cases hk0 : 0 ≤ k
        · rw [if_pos (.inr hk0)] at hm
          have HM := Lib.hid hm.symm
          clear hm
          go_wp2_with (first
            | (go_at_call 41; (with_reducible refine h40.mono ?_); rintro e1 W2 ⟨rfl, hb2⟩; have hS2 := hS.below (hb2.mono (by have := hT.lt; omega)); have hT2 := hT.below hb2 hT.lt; have hX0 := Bx.new W2 82 #[.int .i64 0, .int .i64 0, .int .i64 0, .int .i64 0]; have hTl := hT2.lt; have hS2 := hS2.below (((Below.refl _ W2).alloc (Nat.le_refl _) (.cells #[.int .i64 0, .int .i64 0, .int .i64 0, .int .i64 0] 82)).mono (by omega)); have hT2 := hT2.alloc (.cells #[.int .i64 0, .int .i64 0, .int .i64 0, .int .i64 0] 82))
            | ((with_reducible refine st_id ?_); refine AX.wpList_storeBox (vs := [.int .i64 y, .int .i64 i, .int .i64 to, .int .i64 ex]) rfl rfl sz82 hX0 rfl rfl ?_; rintro W3 h3 h4 h5; have hX3 : Bx W3 W2.heap.size 82 #[.int .i64 y, .int .i64 i, .int .i64 to, .int .i64 ex] := h3; have hS3 := hS2.below (AX.below_turn (by have := hT2.lt; omega) (.inl hX3.lt) h4 h5); have hT3 : Bx W3 (w.heap.size + 1 + 1) 30 _ := hT2.below (AX.below_turn (n := w.heap.size + 1 + 1 + 1) (by have := hT2.lt; omega) (.inl hX3.lt) h4 h5) (by omega); obtain ⟨x0, x1, x2, x3⟩ := Bx.four hX3; obtain ⟨t0, t1, t2, t3, t4⟩ := Bx.five hT3; clear h3 h4 h5 hX0)
            | ((with_reducible refine st_id ?_); refine AX.wpList_storeCell (o := 4) (v := .int .i64 m) rfl rfl rfl sz3 hT3 (show 4 < 5 by decide) ?_; rintro W4 h3 h4 h5; have hT4 : Bx W4 (w.heap.size + 1 + 1) 30 #[.int .i64 0, .int .i64 at_, .int .i64 0, .int .i64 0, .int .i64 m] := h3; have hS4 := hS3.below (AX.below_turn (Nat.le_refl _) (.inl hT4.lt) h4 h5); have hX4 := hX3.turn (by omega) h4; obtain ⟨x0, x1, x2, x3⟩ := Bx.four hX4; obtain ⟨t0, t1, t2, t3, t4⟩ := Bx.five hT4; clear h3 h4 h5 hT3; have c1 : W4.cell? ⟨w.heap.size, 2, none⟩ = some (.slice (some ⟨bk, ok, none⟩) kind.length ck) := hS4.d.cell 2; have c2 : W4.cell? ⟨bk, ok + y, none⟩ = some (.int .i64 k) := (hS4.b.cell (p := ⟨bk, ok + y, none⟩) hbk).trans hck))
          have fr := hT4.frozen
          go_region
          have hT5 := hT4.tok3 (.int .i64 (-1)) (.int .i64 i) (.int .i64 to)
          have hX5 := hX4.tok3o (T := w.heap.size + 1 + 1) (by omega) (.int .i64 (-1)) (.int .i64 i) (.int .i64 to)
          have hS5 := hS4.below (below_tok3 (Below.refl _ W4) (Nat.le_refl _) (.int .i64 (-1)) (.int .i64 i) (.int .i64 to))
          clear hT4 hX4 hS4 fr t0 t1 t2 t3 t4 x0 x1 x2 x3
          generalize (((W4.setCell ⟨w.heap.size + 1 + 1, 0, none⟩ (.int .i64 (-1))).setCell ⟨w.heap.size + 1 + 1, 2, none⟩ (.int .i64 i)).setCell ⟨w.heap.size + 1 + 1, 3, none⟩ (.int .i64 to)).drew = W5 at *
          obtain ⟨x0, x1, x2, x3⟩ := Bx.four hX5
          obtain ⟨t0, t1, t2, t3, t4⟩ := Bx.five hT5
          clear c1 c2
          have c1 : W5.cell? ⟨w.heap.size, 2, none⟩ = some (.slice (some ⟨bk, ok, none⟩) kind.length ck) := hS5.d.cell 2
          have c2 : W5.cell? ⟨bk, ok + y, none⟩ = some (.int .i64 k) := (hS5.b.cell (p := ⟨bk, ok + y, none⟩) hbk).trans hck
          go_wp2_with (first
            | ((with_reducible refine st_id ?_); refine AX.wpList_storeCell (o := 0) (v := .int .i64 k) rfl rfl rfl sz3 hT5 (show 0 < 5 by decide) ?_; rintro W6 h3 h4 h5; have hT6 : Bx W6 (w.heap.size + 1 + 1) 30 #[.int .i64 k, .int .i64 at_, .int .i64 i, .int .i64 to, .int .i64 m] := h3; have hS6 := hS5.below (AX.below_turn (Nat.le_refl _) (.inl hT6.lt) h4 h5); have hX6 := hX5.turn (by omega) h4; obtain ⟨x0, x1, x2, x3⟩ := Bx.four hX6; obtain ⟨t0, t1, t2, t3, t4⟩ := Bx.five hT6; clear h3 h4 h5 hT5)
            | ((with_reducible refine st_id ?_); refine AX.wpList_storeCell (o := 4) (v := .int .i64 m2) rfl rfl rfl sz3 hT6 (show 4 < 5 by decide) ?_; rintro W7 h3 h4 h5; have hT7 : Bx W7 (w.heap.size + 1 + 1) 30 #[.int .i64 k, .int .i64 at_, .int .i64 i, .int .i64 to, .int .i64 m2] := h3; have hS7 := hS6.below (AX.below_turn (Nat.le_refl _) (.inl hT7.lt) h4 h5); have hX7 := hX6.turn (by omega) h4; obtain ⟨x0, x1, x2, x3⟩ := Bx.four hX7; obtain ⟨t0, t1, t2, t3, t4⟩ := Bx.five hT7; clear h3 h4 h5 hT6)
            | ((with_reducible refine st_id ?_); refine AX.wpList_storeBox (vs := [.int .i64 k, .int .i64 at_, .int .i64 i, .int .i64 to, .int .i64 m2]) rfl rfl sz30 hS7.z rfl rfl ?_; rintro W8 h3 h4 h5; have hR8 : Bx W8 (w.heap.size + 1) 30 #[.int .i64 k, .int .i64 at_, .int .i64 i, .int .i64 to, .int .i64 m2] := h3; have hb8 := hS7.b.trans (AX.below_turn (Nat.le_succ _) (.inl hR8.lt) h4 h5); obtain ⟨z0, z1, z2, z3, z4⟩ := Bx.five hR8; clear h3 h4 h5))
          exact bodyPost_ret (v := .agg #[.int .i64 k, .int .i64 at_, .int .i64 i, .int .i64 to, .int .i64 m2]) (by simp [results, Tryz.results24, go_sem, z0, z1, z2, z3, z4]) rfl ⟨by first | (rw [HM.out]; done) | (rw [HM.out]; rfl), hb8⟩
        · rw [if_neg (by omega)] at hm
          have HM := Lib.hid hm
          clear hm
          go_wp2_with (first
            | (go_at_call 41; (with_reducible refine h40.mono ?_); rintro e1 W2 ⟨rfl, hb2⟩; have hS2 := hS.below (hb2.mono (by have := hT.lt; omega)); have hT2 := hT.below hb2 hT.lt; have hX0 := Bx.new W2 82 #[.int .i64 0, .int .i64 0, .int .i64 0, .int .i64 0]; have hTl := hT2.lt; have hS2 := hS2.below (((Below.refl _ W2).alloc (Nat.le_refl _) (.cells #[.int .i64 0, .int .i64 0, .int .i64 0, .int .i64 0] 82)).mono (by omega)); have hT2 := hT2.alloc (.cells #[.int .i64 0, .int .i64 0, .int .i64 0, .int .i64 0] 82))
            | ((with_reducible refine st_id ?_); refine AX.wpList_storeBox (vs := [.int .i64 y, .int .i64 i, .int .i64 to, .int .i64 ex]) rfl rfl sz82 hX0 rfl rfl ?_; rintro W3 h3 h4 h5; have hX3 : Bx W3 W2.heap.size 82 #[.int .i64 y, .int .i64 i, .int .i64 to, .int .i64 ex] := h3; have hS3 := hS2.below (AX.below_turn (by have := hT2.lt; omega) (.inl hX3.lt) h4 h5); have hT3 : Bx W3 (w.heap.size + 1 + 1) 30 _ := hT2.below (AX.below_turn (n := w.heap.size + 1 + 1 + 1) (by have := hT2.lt; omega) (.inl hX3.lt) h4 h5) (by omega); obtain ⟨x0, x1, x2, x3⟩ := Bx.four hX3; obtain ⟨t0, t1, t2, t3, t4⟩ := Bx.five hT3; clear h3 h4 h5 hX0)
            | ((with_reducible refine st_id ?_); refine AX.wpList_storeCell (o := 4) (v := .int .i64 m) rfl rfl rfl sz3 hT3 (show 4 < 5 by decide) ?_; rintro W4 h3 h4 h5; have hT4 : Bx W4 (w.heap.size + 1 + 1) 30 #[.int .i64 0, .int .i64 at_, .int .i64 0, .int .i64 0, .int .i64 m] := h3; have hS4 := hS3.below (AX.below_turn (Nat.le_refl _) (.inl hT4.lt) h4 h5); have hX4 := hX3.turn (by omega) h4; obtain ⟨x0, x1, x2, x3⟩ := Bx.four hX4; obtain ⟨t0, t1, t2, t3, t4⟩ := Bx.five hT4; clear h3 h4 h5 hT3; have c1 : W4.cell? ⟨w.heap.size, 2, none⟩ = some (.slice (some ⟨bk, ok, none⟩) kind.length ck) := hS4.d.cell 2; have c2 : W4.cell? ⟨bk, ok + y, none⟩ = some (.int .i64 k) := (hS4.b.cell (p := ⟨bk, ok + y, none⟩) hbk).trans hck))
          go_roundw
          case rel => exact ⟨to, m, rfl, by omega, hx5, hml, hS4, hT4, Lib.hid (by rw [← HM.out]; exact tokF_fuel hF (sb_lt s) at_ _ _ _ _ (by rw [sb_len]; omega) (by rw [sb_len]; omega) (by rw [sb_len]; omega))⟩
          case measure => simp [intOf]; omega
    · have h40 := rNext_out (cn := cn) (cr := cr) (hN.below hS.b (Nat.le_refl _)) (hR.below hS.b (Nat.le_refl _)) (okL_T hok) s s.size rfl hs
      unfold dV lxV at h40
      have d0 : wr.cell? ⟨w.heap.size, 0, none⟩ = some (.slice an next.length cn) := hS.d.cell 0
      have d1 : wr.cell? ⟨w.heap.size, 1, none⟩ = some (.slice ar rule.length cr) := hS.d.cell 1
      have hm := hm.out
      rw [Nat.sub_self, tokF, sb_len] at hm
      have HM := Lib.hid hm.symm
      clear hm
      go_wp2_with (first
        | (go_at_call 41; (with_reducible refine h40.mono ?_); rintro e1 W2 ⟨rfl, hb2⟩; have hS2 := hS.below (hb2.mono (by have := hT.lt; omega)); have hT2 := hT.below hb2 hT.lt; have hX0 := Bx.new W2 82 #[.int .i64 0, .int .i64 0, .int .i64 0, .int .i64 0]; have hTl := hT2.lt; have hS2 := hS2.below (((Below.refl _ W2).alloc (Nat.le_refl _) (.cells #[.int .i64 0, .int .i64 0, .int .i64 0, .int .i64 0] 82)).mono (by omega)); have hT2 := hT2.alloc (.cells #[.int .i64 0, .int .i64 0, .int .i64 0, .int .i64 0] 82))
        | ((with_reducible refine st_id ?_); refine AX.wpList_storeBox (vs := [.int .i64 0, .int .i64 0, .int .i64 0, .int .i64 0]) rfl rfl sz82 hX0 rfl rfl ?_; rintro W3 h3 h4 h5; have hX3 : Bx W3 W2.heap.size 82 #[.int .i64 0, .int .i64 0, .int .i64 0, .int .i64 0] := h3; have hS3 := hS2.below (AX.below_turn (by have := hT2.lt; omega) (.inl hX3.lt) h4 h5); have hT3 : Bx W3 (w.heap.size + 1 + 1) 30 _ := hT2.below (AX.below_turn (n := w.heap.size + 1 + 1 + 1) (by have := hT2.lt; omega) (.inl hX3.lt) h4 h5) (by omega); obtain ⟨x0, x1, x2, x3⟩ := Bx.four hX3; obtain ⟨t0, t1, t2, t3, t4⟩ := Bx.five hT3; clear h3 h4 h5 hX0)
        | ((with_reducible refine st_id ?_); refine AX.wpList_storeCell (o := 0) (v := .int .i64 (-2)) rfl rfl rfl sz3 hT3 (show 0 < 5 by decide) ?_; rintro W4 h3 h4 h5; have hT4 : Bx W4 (w.heap.size + 1 + 1) 30 #[.int .i64 (-2), .int .i64 at_, .int .i64 0, .int .i64 0, .int .i64 e] := h3; have hS4 := hS3.below (AX.below_turn (Nat.le_refl _) (.inl hT4.lt) h4 h5); obtain ⟨t0, t1, t2, t3, t4⟩ := Bx.five hT4; clear h3 h4 h5 hT3)
        | ((with_reducible refine st_id ?_); refine AX.wpList_storeCell (o := 2) (v := .int .i64 s.size) rfl rfl rfl sz3 hT4 (show 2 < 5 by decide) ?_; rintro W5 h3 h4 h5; have hT5 : Bx W5 (w.heap.size + 1 + 1) 30 #[.int .i64 (-2), .int .i64 at_, .int .i64 s.size, .int .i64 0, .int .i64 e] := h3; have hS5 := hS4.below (AX.below_turn (Nat.le_refl _) (.inl hT5.lt) h4 h5); obtain ⟨t0, t1, t2, t3, t4⟩ := Bx.five hT5; clear h3 h4 h5 hT4)
        | ((with_reducible refine st_id ?_); refine AX.wpList_storeCell (o := 3) (v := .int .i64 s.size) rfl rfl rfl sz3 hT5 (show 3 < 5 by decide) ?_; rintro W6 h3 h4 h5; have hT6 : Bx W6 (w.heap.size + 1 + 1) 30 #[.int .i64 (-2), .int .i64 at_, .int .i64 s.size, .int .i64 s.size, .int .i64 e] := h3; have hS6 := hS5.below (AX.below_turn (Nat.le_refl _) (.inl hT6.lt) h4 h5); obtain ⟨t0, t1, t2, t3, t4⟩ := Bx.five hT6; clear h3 h4 h5 hT5)
        | ((with_reducible refine st_id ?_); refine AX.wpList_storeCell (o := 4) (v := .int .i64 (s.size + 1)) rfl rfl rfl sz3 hT6 (show 4 < 5 by decide) ?_; rintro W7 h3 h4 h5; have hT7 : Bx W7 (w.heap.size + 1 + 1) 30 #[.int .i64 (-2), .int .i64 at_, .int .i64 s.size, .int .i64 s.size, .int .i64 (s.size + 1)] := h3; have hS7 := hS6.below (AX.below_turn (Nat.le_refl _) (.inl hT7.lt) h4 h5); obtain ⟨t0, t1, t2, t3, t4⟩ := Bx.five hT7; clear h3 h4 h5 hT6)
        | ((with_reducible refine st_id ?_); refine AX.wpList_storeBox (vs := [.int .i64 (-2), .int .i64 at_, .int .i64 s.size, .int .i64 s.size, .int .i64 (s.size + 1)]) rfl rfl sz30 hS7.z rfl rfl ?_; rintro W8 h3 h4 h5; have hR8 : Bx W8 (w.heap.size + 1) 30 #[.int .i64 (-2), .int .i64 at_, .int .i64 s.size, .int .i64 s.size, .int .i64 (s.size + 1)] := h3; have hb8 := hS7.b.trans (AX.below_turn (Nat.le_succ _) (.inl hR8.lt) h4 h5); obtain ⟨z0, z1, z2, z3, z4⟩ := Bx.five hR8; clear h3 h4 h5))
      exact bodyPost_ret (v := .agg #[.int .i64 (-2), .int .i64 at_, .int .i64 s.size, .int .i64 s.size, .int .i64 (s.size + 1)]) (by simp [results, Tryz.results24, go_sem, z0, z1, z2, z3, z4]) rfl ⟨by first | (rw [HM.out]; done) | (rw [HM.out]; rfl), hb8⟩
end
end Go.Proofs.YtefjfbhffmkikaaGreatDoor

namespace Go.Proofs.YtefjfbhffmkikaaGreatDoor
open Go Go.Proofs Go.RowKit
attribute [local go_sem] Oper.semAt_some
section
variable {next rule kind : List Int} {kinds : Int} {an ar ak : Option Addr} {cn cr ck : Nat} {w : World}
/-- What may answers. -/
def mayV (next rule kind : List Int) (kinds : Int) (s : ByteArray) (at_ : Int) : Int := if okL next rule kind kinds = true ∧ 0 ≤ at_ ∧ at_ ≤ s.size then 0 else 2
set_option maxRecDepth 100000 in
set_option maxHeartbeats 4000000 in
theorem may_k (hn : next.length ≤ 1000000) (hr : rule.length ≤ 1000000) (hk : kind.length ≤ 1000000) (hN : IRow w an next) (hR : IRow w ar rule) (hK : IRow w ak kind) (s : ByteArray) (at_ : Int) (_hs : s.size ≤ 1000000) :
    Calls Tryz.prog 22 #[lV an ar ak next.length rule.length kind.length cn cr ck kinds, .string s, .int .i64 at_] w fun e w' => e = .returned (.int .i64 (mayV next rule kind kinds s at_)) ∧ Below w.heap.size w w' := by
  have hck := fun W (hb : Below w.heap.size w W) => lcheck_k next rule kind kinds hn hr hk an ar ak cn cr ck W (hN.below hb (Nat.le_refl _)) (hR.below hb (Nat.le_refl _)) (hK.below hb (Nat.le_refl _))
  have hB := (Below.refl w.heap.size w).alloc (Nat.le_refl _) (.cells #[.slice an next.length cn, .slice ar rule.length cr, .slice ak kind.length ck, .int .i64 kinds] 26)
  have hD : Bx (w.alloc (.cells #[.slice an next.length cn, .slice ar rule.length cr, .slice ak kind.length ck, .int .i64 kinds] 26)) w.heap.size 26 #[.slice an next.length cn, .slice ar rule.length cr, .slice ak kind.length ck, .int .i64 kinds] := Bx.new _ _ _
  unfold lV at *
  unfold mayV
  unfold checkL at hck
  clear hN hR hK
  have hw : w.heap.size < (w.alloc (.cells #[.slice an next.length cn, .slice ar rule.length cr, .slice ak kind.length ck, .int .i64 kinds] 26)).heap.size := hD.lt
  have h0 : okL next rule kind kinds = true ∨ ¬ okL next rule kind kinds = true := Classical.em _
  rcases h0 with hok | hok
  · simp only [hok, if_true, true_and] at hck ⊢
    clear hok
    have h15 := hck _ hB
    clear hck
    rcases Int.lt_or_le at_ 0 with h1 | h1
    · rw [if_neg (by omega)]
      go_enter Tryz.func22, Tryz.ntmps22
      go_wp2_with (go_at_call 15; ((with_reducible refine h15.mono ?_); rintro e W1 ⟨rfl, hb1⟩; have hB1 := hB.trans (hb1.mono (Nat.le_of_lt hw))))
      go_ret
      exact ⟨rfl, hB1⟩
    · rcases Int.lt_or_le s.size at_ with h2 | h2
      · rw [if_neg (by omega)]
        go_enter Tryz.func22, Tryz.ntmps22
        go_wp2_with (go_at_call 15; ((with_reducible refine h15.mono ?_); rintro e W1 ⟨rfl, hb1⟩; have hB1 := hB.trans (hb1.mono (Nat.le_of_lt hw))))
        go_ret
        exact ⟨rfl, hB1⟩
      · rw [if_pos ⟨h1, h2⟩]
        go_enter Tryz.func22, Tryz.ntmps22
        go_wp2_with (go_at_call 15; ((with_reducible refine h15.mono ?_); rintro e W1 ⟨rfl, hb1⟩; have hB1 := hB.trans (hb1.mono (Nat.le_of_lt hw))))
        go_ret
        exact ⟨rfl, hB1⟩
  · simp only [hok, Bool.false_eq_true, if_false, false_and] at hck ⊢
    clear hok
    have h15 := hck _ hB
    clear hck
    go_enter Tryz.func22, Tryz.ntmps22
    go_wp2_with (go_at_call 15; ((with_reducible refine h15.mono ?_); rintro e W1 ⟨rfl, hb1⟩; have hB1 := hB.trans (hb1.mono (Nat.le_of_lt hw))))
    go_ret
    exact ⟨rfl, hB1⟩
end
end Go.Proofs.YtefjfbhffmkikaaGreatDoor

namespace Go.Proofs.YtefjfbhffmkikaaGreatDoor
open Go Go.Proofs Go.RowKit
attribute [local go_sem] Oper.semAt_some
section
variable {next rule kind : List Int} {kinds : Int} {an ar ak : Option Addr} {cn cr ck : Nat} {w : World}
/-- What Next answers. -/
def nextV (next rule kind : List Int) (kinds : Int) (s : ByteArray) (at_ : Int) : Value := if okL next rule kind kinds = true ∧ 0 ≤ at_ ∧ at_ ≤ s.size then .tuple #[tkV (tokV next rule kind (sb s) at_.toNat), .int .i64 0] else .tuple #[.agg #[.int .i64 0, .int .i64 0, .int .i64 0, .int .i64 0, .int .i64 0], .int .i64 2]
set_option maxRecDepth 100000 in
set_option maxHeartbeats 4000000 in
theorem Next_k (hn : next.length ≤ 1000000) (hr : rule.length ≤ 1000000) (hk : kind.length ≤ 1000000) (hN : IRow w an next) (hR : IRow w ar rule) (hK : IRow w ak kind) (s : ByteArray) (at_ : Int) (hs : s.size ≤ 1000000) :
    Calls Tryz.prog 6 #[lV an ar ak next.length rule.length kind.length cn cr ck kinds, .string s, .int .i64 at_] w fun e w' => e = .returned (nextV next rule kind kinds s at_) ∧ Below w.heap.size w w' := by
  have hmy := fun W (hb : Below w.heap.size w W) => may_k (cn := cn) (cr := cr) (ck := ck) (kinds := kinds) hn hr hk (hN.below hb (Nat.le_refl _)) (hR.below hb (Nat.le_refl _)) (hK.below hb (Nat.le_refl _)) s at_ hs
  have hnx := fun (ho : okL next rule kind kinds = true ∧ 0 ≤ at_ ∧ at_ ≤ s.size) W (hb : Below w.heap.size w W) => next_k (cn := cn) (cr := cr) (ck := ck) (hN.below hb (Nat.le_refl _)) (hR.below hb (Nat.le_refl _)) (hK.below hb (Nat.le_refl _)) ho.1 s at_.toNat (by omega) hs
  obtain ⟨W0, hW0⟩ : ∃ W0, W0 = ((w.alloc (.cells #[.slice an next.length cn, .slice ar rule.length cr, .slice ak kind.length ck, .int .i64 kinds] 26)).alloc (.cells #[.int .i64 0, .int .i64 0, .int .i64 0, .int .i64 0, .int .i64 0] 30)) := ⟨_, rfl⟩
  have hD : Nx w W0 next rule kind kinds an ar ak cn cr ck := by
    refine ⟨hW0 ▸ ((Below.refl w.heap.size w).alloc (Nat.le_refl _) _).alloc (by simp) _, hW0 ▸ (Bx.new _ _ _).alloc _, ?_⟩
    have := Bx.new (w.alloc (.cells #[.slice an next.length cn, .slice ar rule.length cr, .slice ak kind.length ck, .int .i64 kinds] 26)) 30 #[.int .i64 0, .int .i64 0, .int .i64 0, .int .i64 0, .int .i64 0]
    rw [World.size_alloc] at this
    exact hW0 ▸ this
  have hT : W0.heap.size = w.heap.size + 1 + 1 := by rw [hW0]; simp
  unfold lV tkV at *
  unfold mayV at hmy
  unfold nextV tkV
  clear hN hR hK
  by_cases ho : okL next rule kind kinds = true ∧ 0 ≤ at_ ∧ at_ ≤ s.size
  · simp only [if_pos ho] at hmy ⊢
    have hnx := hnx ho
    obtain ⟨a, rfl⟩ : ∃ a : Nat, at_ = a := ⟨at_.toNat, by omega⟩
    rw [Int.toNat_natCast] at hnx ⊢
    clear ho
    generalize tokV next rule kind (sb s) a = t at *
    have h22 := hmy W0 hD.b
    clear hmy
    go_enter Tryz.func6, Tryz.ntmps6
    go_wp2_with fail
    rw [← hW0]
    clear hW0
    go_wp2_with (first
      | (go_at_call 22; ((with_reducible refine h22.mono ?_); rintro e W1 ⟨rfl, hb1⟩; have hS1 := hD.below (hb1.mono (by omega)); have d0 : W1.cell? ⟨w.heap.size, 0, none⟩ = some (.slice an next.length cn) := hS1.d.cell 0; have d1 : W1.cell? ⟨w.heap.size, 1, none⟩ = some (.slice ar rule.length cr) := hS1.d.cell 1; have d2 : W1.cell? ⟨w.heap.size, 2, none⟩ = some (.slice ak kind.length ck) := hS1.d.cell 2; have d3 : W1.cell? ⟨w.heap.size, 3, none⟩ = some (.int .i64 kinds) := hS1.d.cell 3))
      | (go_at_call 23; ((with_reducible refine (hnx W1 hS1.b).mono ?_); rintro e W2 ⟨rfl, hb2⟩; have hS2 := hS1.below (hb2.mono (by have := hb1.size; omega))))
      | ((with_reducible refine st_id ?_); refine AX.wpList_storeBox (vs := [.int .i64 t.k, .int .i64 t.f, .int .i64 t.a, .int .i64 t.t, .int .i64 t.e]) rfl rfl sz30 hS2.z rfl rfl ?_; rintro W3 h3 h4 h5; have hR3 : Bx W3 (w.heap.size + 1) 30 #[.int .i64 t.k, .int .i64 t.f, .int .i64 t.a, .int .i64 t.t, .int .i64 t.e] := h3; have hb3 := hS2.b.trans (AX.below_turn (Nat.le_succ _) (.inl hR3.lt) h4 h5); obtain ⟨z0, z1, z2, z3, z4⟩ := Bx.five hR3; clear h3 h4 h5))
    exact bodyPost_ret (v := .tuple #[.agg #[.int .i64 t.k, .int .i64 t.f, .int .i64 t.a, .int .i64 t.t, .int .i64 t.e], .int .i64 0]) (by simp [results, Tryz.results6, go_sem, z0, z1, z2, z3, z4]) rfl ⟨rfl, hb3⟩
  · simp only [if_neg ho] at hmy ⊢
    clear ho hnx
    have h22 := hmy W0 hD.b
    clear hmy
    go_enter Tryz.func6, Tryz.ntmps6
    go_wp2_with fail
    rw [← hW0]
    clear hW0
    go_wp2_with (first
      | (go_at_call 22; ((with_reducible refine h22.mono ?_); rintro e W1 ⟨rfl, hb1⟩; have hS1 := hD.below (hb1.mono (by omega)); have d0 : W1.cell? ⟨w.heap.size, 0, none⟩ = some (.slice an next.length cn) := hS1.d.cell 0; have d1 : W1.cell? ⟨w.heap.size, 1, none⟩ = some (.slice ar rule.length cr) := hS1.d.cell 1; have d2 : W1.cell? ⟨w.heap.size, 2, none⟩ = some (.slice ak kind.length ck) := hS1.d.cell 2; have d3 : W1.cell? ⟨w.heap.size, 3, none⟩ = some (.int .i64 kinds) := hS1.d.cell 3))
      | ((with_reducible refine st_id ?_); refine AX.wpList_storeBox (vs := [.int .i64 0, .int .i64 0, .int .i64 0, .int .i64 0, .int .i64 0]) rfl rfl sz30 hS1.z rfl rfl ?_; rintro W3 h3 h4 h5; have hR3 : Bx W3 (w.heap.size + 1) 30 #[.int .i64 0, .int .i64 0, .int .i64 0, .int .i64 0, .int .i64 0] := h3; have hb3 := hS1.b.trans (AX.below_turn (Nat.le_succ _) (.inl hR3.lt) h4 h5); obtain ⟨z0, z1, z2, z3, z4⟩ := Bx.five hR3; clear h3 h4 h5))
    exact bodyPost_ret (v := .tuple #[.agg #[.int .i64 0, .int .i64 0, .int .i64 0, .int .i64 0, .int .i64 0], .int .i64 2]) (by simp [results, Tryz.results6, go_sem, z0, z1, z2, z3, z4]) rfl ⟨rfl, hb3⟩
end
end Go.Proofs.YtefjfbhffmkikaaGreatDoor

namespace Go.Proofs.YtefjfbhffmkikaaGreatDoor
open Go Go.Proofs Go.RowKit
attribute [local go_sem] Oper.semAt_some
section
variable {next rule kind : List Int} {kinds : Int} {an ar ak : Option Addr} {cn cr ck : Nat} {w : World}
set_option maxRecDepth 100000 in
set_option maxHeartbeats 4000000 in
theorem rNext_k (hn : next.length ≤ 1000000) (hr : rule.length ≤ 1000000) (hk : kind.length ≤ 1000000) (hN : IRow w an next) (hR : IRow w ar rule) (hK : IRow w ak kind) (s : ByteArray) (at_ : Int) (hs : s.size ≤ 1000000) :
    Calls Tryz.prog 7 #[lV an ar ak next.length rule.length kind.length cn cr ck kinds, .string s, .int .i64 at_] w fun e w' => e = .returned (nextV next rule kind kinds s at_) ∧ Below w.heap.size w w' := by
  have hck := fun W (hb : Below w.heap.size w W) => rlcheck_k next rule kind kinds hn hr hk an ar ak cn cr ck W (hN.below hb (Nat.le_refl _)) (hR.below hb (Nat.le_refl _)) (hK.below hb (Nat.le_refl _))
  have hnx := fun (ho : okL next rule kind kinds = true ∧ 0 ≤ at_ ∧ at_ ≤ s.size) W (hb : Below w.heap.size w W) => rnext_k (cn := cn) (cr := cr) (ck := ck) (hN.below hb (Nat.le_refl _)) (hR.below hb (Nat.le_refl _)) (hK.below hb (Nat.le_refl _)) ho.1 s at_.toNat (by omega) hs
  obtain ⟨W0, hW0⟩ : ∃ W0, W0 = ((w.alloc (.cells #[.slice an next.length cn, .slice ar rule.length cr, .slice ak kind.length ck, .int .i64 kinds] 26)).alloc (.cells #[.int .i64 0, .int .i64 0, .int .i64 0, .int .i64 0, .int .i64 0] 30)) := ⟨_, rfl⟩
  have hD : Nx w W0 next rule kind kinds an ar ak cn cr ck := by
    refine ⟨hW0 ▸ ((Below.refl w.heap.size w).alloc (Nat.le_refl _) _).alloc (by simp) _, hW0 ▸ (Bx.new _ _ _).alloc _, ?_⟩
    have := Bx.new (w.alloc (.cells #[.slice an next.length cn, .slice ar rule.length cr, .slice ak kind.length ck, .int .i64 kinds] 26)) 30 #[.int .i64 0, .int .i64 0, .int .i64 0, .int .i64 0, .int .i64 0]
    rw [World.size_alloc] at this
    exact hW0 ▸ this
  have hT : W0.heap.size = w.heap.size + 1 + 1 := by rw [hW0]; simp
  unfold lV tkV at *
  unfold checkL at hck
  unfold nextV tkV
  clear hN hR hK
  rcases Classical.em (okL next rule kind kinds = true) with hok | hok
  · simp only [hok, if_true, true_and] at hck ⊢
    rcases Int.lt_or_le at_ 0 with h1 | h1
    · rw [if_neg (by omega)]
      clear hnx hok
      have h16 := hck W0 hD.b
      clear hck
      go_enter Tryz.func7, Tryz.ntmps7
      go_wp2_with fail
      rw [← hW0]
      clear hW0
      go_wp2_with (first
        | (go_at_call 16; ((with_reducible refine h16.mono ?_); rintro e W1 ⟨rfl, hb1⟩; have hS1 := hD.below (hb1.mono (by omega)); have d0 : W1.cell? ⟨w.heap.size, 0, none⟩ = some (.slice an next.length cn) := hS1.d.cell 0; have d1 : W1.cell? ⟨w.heap.size, 1, none⟩ = some (.slice ar rule.length cr) := hS1.d.cell 1; have d2 : W1.cell? ⟨w.heap.size, 2, none⟩ = some (.slice ak kind.length ck) := hS1.d.cell 2; have d3 : W1.cell? ⟨w.heap.size, 3, none⟩ = some (.int .i64 kinds) := hS1.d.cell 3))
        | ((with_reducible refine st_id ?_); refine AX.wpList_storeBox (vs := [.int .i64 0, .int .i64 0, .int .i64 0, .int .i64 0, .int .i64 0]) rfl rfl sz30 hS1.z rfl rfl ?_; rintro W3 h3 h4 h5; have hR3 : Bx W3 (w.heap.size + 1) 30 #[.int .i64 0, .int .i64 0, .int .i64 0, .int .i64 0, .int .i64 0] := h3; have hb3 := hS1.b.trans (AX.below_turn (Nat.le_succ _) (.inl hR3.lt) h4 h5); obtain ⟨z0, z1, z2, z3, z4⟩ := Bx.five hR3; clear h3 h4 h5))
      exact bodyPost_ret (v := .tuple #[.agg #[.int .i64 0, .int .i64 0, .int .i64 0, .int .i64 0, .int .i64 0], .int .i64 2]) (by simp [results, Tryz.results7, go_sem, z0, z1, z2, z3, z4]) rfl ⟨rfl, hb3⟩
    · rcases Int.lt_or_le s.size at_ with h2 | h2
      · rw [if_neg (by omega)]
        clear hnx hok
        have h16 := hck W0 hD.b
        clear hck
        go_enter Tryz.func7, Tryz.ntmps7
        go_wp2_with fail
        rw [← hW0]
        clear hW0
        go_wp2_with (first
          | (go_at_call 16; ((with_reducible refine h16.mono ?_); rintro e W1 ⟨rfl, hb1⟩; have hS1 := hD.below (hb1.mono (by omega)); have d0 : W1.cell? ⟨w.heap.size, 0, none⟩ = some (.slice an next.length cn) := hS1.d.cell 0; have d1 : W1.cell? ⟨w.heap.size, 1, none⟩ = some (.slice ar rule.length cr) := hS1.d.cell 1; have d2 : W1.cell? ⟨w.heap.size, 2, none⟩ = some (.slice ak kind.length ck) := hS1.d.cell 2; have d3 : W1.cell? ⟨w.heap.size, 3, none⟩ = some (.int .i64 kinds) := hS1.d.cell 3))
          | ((with_reducible refine st_id ?_); refine AX.wpList_storeBox (vs := [.int .i64 0, .int .i64 0, .int .i64 0, .int .i64 0, .int .i64 0]) rfl rfl sz30 hS1.z rfl rfl ?_; rintro W3 h3 h4 h5; have hR3 : Bx W3 (w.heap.size + 1) 30 #[.int .i64 0, .int .i64 0, .int .i64 0, .int .i64 0, .int .i64 0] := h3; have hb3 := hS1.b.trans (AX.below_turn (Nat.le_succ _) (.inl hR3.lt) h4 h5); obtain ⟨z0, z1, z2, z3, z4⟩ := Bx.five hR3; clear h3 h4 h5))
        exact bodyPost_ret (v := .tuple #[.agg #[.int .i64 0, .int .i64 0, .int .i64 0, .int .i64 0, .int .i64 0], .int .i64 2]) (by simp [results, Tryz.results7, go_sem, z0, z1, z2, z3, z4]) rfl ⟨rfl, hb3⟩
      · rw [if_pos ⟨h1, h2⟩]
        have hnx := hnx ⟨hok, h1, h2⟩
        clear hok
        obtain ⟨a, rfl⟩ : ∃ a : Nat, at_ = a := ⟨at_.toNat, by omega⟩
        rw [Int.toNat_natCast] at hnx ⊢
        generalize tokV next rule kind (sb s) a = t at *
        have h16 := hck W0 hD.b
        clear hck
        go_enter Tryz.func7, Tryz.ntmps7
        go_wp2_with fail
        rw [← hW0]
        clear hW0
        go_wp2_with (first
          | (go_at_call 16; ((with_reducible refine h16.mono ?_); rintro e W1 ⟨rfl, hb1⟩; have hS1 := hD.below (hb1.mono (by omega)); have d0 : W1.cell? ⟨w.heap.size, 0, none⟩ = some (.slice an next.length cn) := hS1.d.cell 0; have d1 : W1.cell? ⟨w.heap.size, 1, none⟩ = some (.slice ar rule.length cr) := hS1.d.cell 1; have d2 : W1.cell? ⟨w.heap.size, 2, none⟩ = some (.slice ak kind.length ck) := hS1.d.cell 2; have d3 : W1.cell? ⟨w.heap.size, 3, none⟩ = some (.int .i64 kinds) := hS1.d.cell 3))
          | (go_at_call 24; ((with_reducible refine (hnx W1 hS1.b).mono ?_); rintro e W2 ⟨rfl, hb2⟩; have hS2 := hS1.below (hb2.mono (by have := hb1.size; omega))))
          | ((with_reducible refine st_id ?_); refine AX.wpList_storeBox (vs := [.int .i64 t.k, .int .i64 t.f, .int .i64 t.a, .int .i64 t.t, .int .i64 t.e]) rfl rfl sz30 hS2.z rfl rfl ?_; rintro W3 h3 h4 h5; have hR3 : Bx W3 (w.heap.size + 1) 30 #[.int .i64 t.k, .int .i64 t.f, .int .i64 t.a, .int .i64 t.t, .int .i64 t.e] := h3; have hb3 := hS2.b.trans (AX.below_turn (Nat.le_succ _) (.inl hR3.lt) h4 h5); obtain ⟨z0, z1, z2, z3, z4⟩ := Bx.five hR3; clear h3 h4 h5))
        exact bodyPost_ret (v := .tuple #[.agg #[.int .i64 t.k, .int .i64 t.f, .int .i64 t.a, .int .i64 t.t, .int .i64 t.e], .int .i64 0]) (by simp [results, Tryz.results7, go_sem, z0, z1, z2, z3, z4]) rfl ⟨rfl, hb3⟩
  · simp only [hok, Bool.false_eq_true, if_false, false_and] at hck ⊢
    · clear hnx hok
      have h16 := hck W0 hD.b
      clear hck
      go_enter Tryz.func7, Tryz.ntmps7
      go_wp2_with fail
      rw [← hW0]
      clear hW0
      go_wp2_with (first
        | (go_at_call 16; ((with_reducible refine h16.mono ?_); rintro e W1 ⟨rfl, hb1⟩; have hS1 := hD.below (hb1.mono (by omega)); have d0 : W1.cell? ⟨w.heap.size, 0, none⟩ = some (.slice an next.length cn) := hS1.d.cell 0; have d1 : W1.cell? ⟨w.heap.size, 1, none⟩ = some (.slice ar rule.length cr) := hS1.d.cell 1; have d2 : W1.cell? ⟨w.heap.size, 2, none⟩ = some (.slice ak kind.length ck) := hS1.d.cell 2; have d3 : W1.cell? ⟨w.heap.size, 3, none⟩ = some (.int .i64 kinds) := hS1.d.cell 3))
        | ((with_reducible refine st_id ?_); refine AX.wpList_storeBox (vs := [.int .i64 0, .int .i64 0, .int .i64 0, .int .i64 0, .int .i64 0]) rfl rfl sz30 hS1.z rfl rfl ?_; rintro W3 h3 h4 h5; have hR3 : Bx W3 (w.heap.size + 1) 30 #[.int .i64 0, .int .i64 0, .int .i64 0, .int .i64 0, .int .i64 0] := h3; have hb3 := hS1.b.trans (AX.below_turn (Nat.le_succ _) (.inl hR3.lt) h4 h5); obtain ⟨z0, z1, z2, z3, z4⟩ := Bx.five hR3; clear h3 h4 h5))
      exact bodyPost_ret (v := .tuple #[.agg #[.int .i64 0, .int .i64 0, .int .i64 0, .int .i64 0, .int .i64 0], .int .i64 2]) (by simp [results, Tryz.results7, go_sem, z0, z1, z2, z3, z4]) rfl ⟨rfl, hb3⟩
end
end Go.Proofs.YtefjfbhffmkikaaGreatDoor
