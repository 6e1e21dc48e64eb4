/- ClassCalls: the law's run. -/
import Derived.Test.YtjaabolpdelbiaaDoorK13
import Derived.Test.YtjaabolpdelbiaaDoorQT
namespace Go.Proofs.YtjaabolpdelbiaaDoor
open Go Go.Proofs Go.RowKit Go.Shelf
attribute [local go_sem] Oper.semAt_some

set_option maxRecDepth 1000000 in
set_option maxHeartbeats 8000000 in
theorem calls_law (x y : Kl) (l : List Kl) (la : Option Addr) (c : Nat) (s : ByteArray) (low high : Nat) (hlo : low < 256) (hhi : high < 256) (w : World) (hg : AX.GlOk cx (AX.prOf w)) (hc : la = none → c = 0)
    (hL : l ≠ [] → ∃ B off, la = some ⟨B, off, none⟩ ∧ B < w.heap.size ∧ RowAt w B off l) :
    Calls Tryd.prog 7 #[.agg #[.int .u64 (x.a : Nat), .int .u64 (x.b : Nat), .int .u64 (x.c : Nat), .int .u64 (x.d : Nat)], .agg #[.int .u64 (y.a : Nat), .int .u64 (y.b : Nat), .int .u64 (y.c : Nat), .int .u64 (y.d : Nat)], .slice la l.length c, .string s, .int .u8 low, .int .u8 high] w fun e w' => e = .returned (.bool true) ∧ Below w.heap.size w w' := by
  have hE0 : Env w x y w.heap.size (w.heap.size + 1) ((w.alloc (.cells (encC x).toArray 27)).alloc (.cells (encC y).toArray 27)) := by
    have hB : Below w.heap.size w ((w.alloc (.cells (encC x).toArray 27)).alloc (.cells (encC y).toArray 27)) := ((Below.refl _ w).alloc (Nat.le_refl _) _).alloc (by simp) _
    refine ⟨hB, ((KBox.new w x).below ((Below.refl (w.heap.size + 1) (w.alloc (.cells (encC x).toArray 27))).alloc (by simp) _) (by omega)).at, ?_, by simp; omega, by simp, hg.of_prot fun k ob hk => (hB.block k (Array.getElem?_eq_some_iff.1 hk).1).trans hk⟩
    have := (KBox.new (w.alloc (.cells (encC x).toArray 27)) y).at
    rwa [World.size_alloc] at this
  have HG := Lib.hid hg
  clear hg
  go_enter Tryd.func7, Tryd.ntmps7
  go_upto_region 1 with fail
  change Code.wp _ _ _ _ ((w.alloc (.cells (encC x).toArray 27)).alloc (.cells (encC y).toArray 27))
  generalize (w.alloc (.cells (encC x).toArray 27)).alloc (.cells (encC y).toArray 27) = W0 at *
  have hs27 := self27
  have HL := Lib.hid hL
  clear hL
  obtain ⟨x0, x1, x2, x3⟩ := id hE0.hx
  obtain ⟨y0, y1, y2, y3⟩ := id hE0.hy
  simp only [Nat.zero_add] at x0 x1 x2 x3 y0 y1 y2 y3
  have hE := hE0
  clear hE0
  by_cases h8 : 8 < l.length
  · have d8 : decide ((8 : Int) < (l.length : Int)) = true := by simp; omega
    go_wp2_with (go_at_call 9; refine (lives_at hE.g).mono ?_; rintro e Wd ⟨rfl, hBd⟩)
    go_ret
    exact ⟨rfl, hE.b.trans (hBd.mono hE.b.size)⟩
  · have d8 : decide ((8 : Int) < (l.length : Int)) = false := by simp; omega
    have hl8 : l.length ≤ 8 := by omega
    by_cases h3 : 300 < s.size
    · have d3 : decide ((300 : Int) < (s.size : Int)) = true := by simp; omega
      go_wp2_with (go_at_call 9; refine (lives_at hE.g).mono ?_; rintro e Wd ⟨rfl, hBd⟩)
      go_ret
      exact ⟨rfl, hE.b.trans (hBd.mono hE.b.size)⟩
    · have d3 : decide ((300 : Int) < (s.size : Int)) = false := by simp; omega
      go_wp2_with (first
        | (go_at_call 9; refine (lives_at hE.g).mono ?_; rintro e Wd ⟨rfl, hBd⟩; have hE1 := hE.below hBd; clear x0 x1 x2 x3 y0 y1 y2 y3 hE hBd; have hE := hE1; clear hE1; obtain ⟨x0, x1, x2, x3⟩ := id hE.hx; obtain ⟨y0, y1, y2, y3⟩ := id hE.hy; simp only [Nat.zero_add] at x0 x1 x2 x3 y0 y1 y2 y3)
        | (go_at_call 11; refine (least_b x _ hE.tab.2 hE.tab.1).mono ?_; rintro e Wd ⟨rfl, hBd⟩; have hE1 := hE.below hBd; clear x0 x1 x2 x3 y0 y1 y2 y3 hE hBd; have hE := hE1; clear hE1; obtain ⟨x0, x1, x2, x3⟩ := id hE.hx; obtain ⟨y0, y1, y2, y3⟩ := id hE.hy; simp only [Nat.zero_add] at x0 x1 x2 x3 y0 y1 y2 y3)
        | (go_at_call 24; refine (rLeast_k x _).mono ?_; rintro e Wd ⟨rfl, hBd⟩; have hE1 := hE.below hBd; clear x0 x1 x2 x3 y0 y1 y2 y3 hE hBd; have hE := hE1; clear hE1; obtain ⟨x0, x1, x2, x3⟩ := id hE.hx; obtain ⟨y0, y1, y2, y3⟩ := id hE.hy; simp only [Nat.zero_add] at x0 x1 x2 x3 y0 y1 y2 y3)
        | (go_at_call 17; refine (all_k x _ hE.tab.2 hE.tab.1).mono ?_; rintro e W8 ⟨⟨v, rfl, hcv⟩, hBd⟩; have hE1 := hE.below hBd; clear x0 x1 x2 x3 y0 y1 y2 y3 hE hBd; have hE := hE1; clear hE1; obtain ⟨x0, x1, x2, x3⟩ := id hE.hx; obtain ⟨y0, y1, y2, y3⟩ := id hE.hy; simp only [Nat.zero_add] at x0 x1 x2 x3 y0 y1 y2 y3))
      clear x0 x1 x2 x3 y0 y1 y2 y3
      obtain ⟨x0, x1, x2, x3⟩ := hE.hx.all hE.l6
      obtain ⟨y0, y1, y2, y3⟩ := hE.hy.all hE.l7
      simp only [Nat.zero_add] at x0 x1 x2 x3 y0 y1 y2 y3
      have HB : Below W8.heap.size W8 W8.drew := (Below.refl _ W8).drew
      have hE1 := hE.below HB
      clear hE
      have hE := hE1
      clear hE1
      generalize x.low = lw at *
      simp only [List.append_eq, List.cons_append, List.nil_append]
      refine region_mixF (C := fun W => ∃ p : BW W8, W = p.W) [(0, false), (1, false), (2, false), (3, false), (4, false), (5, false), (6, false), (7, false), (8, false), (9, false), (10, false), (11, false), (12, false), (13, false), (14, false), (15, true), (16, false), (17, false), (18, false), (19, false), (21, false), (20, true), (22, true), (23, false), (24, false), (25, false), (26, false), (27, false), (29, false), (30, false), (28, true), (31, true), (32, false), (33, false), (34, false), (35, false), (36, false), (38, false), (39, false), (37, true), (40, true), (41, false), (42, false), (43, false), (44, false), (45, false), (47, false), (48, false), (46, true), (49, true), (50, false), (51, false), (52, false), (53, false), (54, false), (56, false), (57, false), (55, true), (58, true), (59, false), (60, false), (61, false), (62, false), (64, false), (63, true), (65, true), (66, false), (67, false), (68, false), (69, false), (71, false), (70, true), (72, true), (73, false), (74, false), (75, false), (76, false), (78, false), (77, true), (79, true), (80, false), (81, false), (82, false), (83, false), (84, false), (86, false), (87, false), (85, true), (88, true), (89, false), (90, false), (91, false), (92, false), (95, false), (93, true), (94, true), (96, true), (97, true), (98, false), (99, false)] inf7 (by kernel_rfl) (by kernel_rfl) (by kernel_rfl) (by kernel_rfl) row7_fit (by intro c a d v w h; cases d <;> exact h) ⟨⟨_, HB⟩, rfl⟩ ?_
      refine mix_plain _ (by rfl) ?_
      go_big_quiet_step (fail)
      refine wpQuiet_nil ?_
      refine mix_plain _ (by rfl) ?_
      go_big_quiet_step (fail)
      refine wpQuiet_nil ?_
      refine mix_plain _ (by rfl) ?_
      go_big_quiet_step (fail)
      refine wpQuiet_nil ?_
      refine mix_plain _ (by rfl) ?_
      go_big_quiet_step (fail)
      refine wpQuiet_nil ?_
      refine mix_plain _ (by rfl) ?_
      go_big_quiet_step (fail)
      refine wpQuiet_nil ?_
      refine mix_plain _ (by rfl) ?_
      go_big_quiet_step (fail)
      refine wpQuiet_nil ?_
      refine mix_plain _ (by rfl) ?_
      go_big_quiet_step (fail)
      refine wpQuiet_nil ?_
      refine mix_plain _ (by rfl) ?_
      go_big_quiet_step (fail)
      refine wpQuiet_nil ?_
      refine mix_plain _ (by rfl) ?_
      go_big_quiet_step (fail)
      refine wpQuiet_nil ?_
      refine mix_plain _ (by rfl) ?_
      go_big_quiet_step (fail)
      refine wpQuiet_nil ?_
      refine mix_plain _ (by rfl) ?_
      go_big_quiet_step (fail)
      refine wpQuiet_nil ?_
      refine mix_plain _ (by rfl) ?_
      go_big_quiet_step (fail)
      refine wpQuiet_nil ?_
      refine mix_plain _ (by rfl) ?_
      go_big_quiet_step (fail)
      refine wpQuiet_nil ?_
      refine mix_plain _ (by rfl) ?_
      go_big_quiet_step (fail)
      refine wpQuiet_nil ?_
      refine mix_plain _ (by rfl) ?_
      go_big_quiet_step (fail)
      refine wpQuiet_nil ?_
      refine mix_call2 (rBytes_k x _) (by rfl) (by rfl) (by rfl) Tryd.func25 (by kernel_rfl) (by rfl) (by simp only [List.map_toArray, List.map_cons, List.map_nil]; rfl) ?_
      rintro e Wd ⟨rfl, hBd⟩
      have hE1 := hE.below hBd; have HB1 := HB.trans (hBd.mono HB.size); clear hE hBd HB; have hE := hE1; have HB := HB1; clear hE1 HB1
      refine ⟨_, rfl, ⟨⟨_, HB⟩, rfl⟩, ?_⟩
      simp only [Act.put, List.setIfInBounds_toArray, List.set_cons_succ, List.set_cons_zero]
      refine mix_plain _ (by rfl) ?_
      go_big_quiet_step (fail)
      refine wpQuiet_nil ?_
      refine mix_plain _ (by rfl) ?_
      go_big_quiet_step (fail)
      refine wpQuiet_nil ?_
      refine mix_plain _ (by rfl) ?_
      go_big_quiet_step (fail)
      refine wpQuiet_nil ?_
      refine mix_plain _ (by rfl) ?_
      go_big_quiet_step (fail)
      refine wpQuiet_nil ?_
      refine mix_plain _ (by rfl) ?_
      go_big_quiet_step (fail)
      refine wpQuiet_nil ?_
      refine mix_call2 (of_k s (by omega) _) (by rfl) (by rfl) (by rfl) Tryd.func21 (by kernel_rfl) (by rfl) (by simp only [List.map_toArray, List.map_cons, List.map_nil]; rfl) ?_
      rintro e Wd ⟨rfl, hBd⟩
      have hE1 := hE.below hBd; have HB1 := HB.trans (hBd.mono HB.size); clear hE hBd HB; have hE := hE1; have HB := HB1; clear hE1 HB1
      refine ⟨_, rfl, ⟨⟨_, HB⟩, rfl⟩, ?_⟩
      simp only [Act.put, List.setIfInBounds_toArray, List.set_cons_succ, List.set_cons_zero]
      refine mix_call2 (rOf_calls s (by omega) _) (by rfl) (by rfl) (by rfl) Tryd.func26 (by kernel_rfl) (by rfl) (by simp only [List.map_toArray, List.map_cons, List.map_nil]; rfl) ?_
      rintro e Wd ⟨rfl, hBd⟩
      have hE1 := hE.below hBd; have HB1 := HB.trans (hBd.mono HB.size); clear hE hBd HB; have hE := hE1; have HB := HB1; clear hE1 HB1
      refine ⟨_, rfl, ⟨⟨_, HB⟩, rfl⟩, ?_⟩
      simp only [Act.put, List.setIfInBounds_toArray, List.set_cons_succ, List.set_cons_zero]
      refine mix_plain _ (by rfl) ?_
      go_big_quiet_step (fail)
      refine wpQuiet_nil ?_
      refine mix_plain _ (by rfl) ?_
      go_big_quiet_step (fail)
      refine wpQuiet_nil ?_
      refine mix_plain _ (by rfl) ?_
      go_big_quiet_step (fail)
      refine wpQuiet_nil ?_
      refine mix_plain _ (by rfl) ?_
      go_big_quiet_step (fail)
      refine wpQuiet_nil ?_
      refine mix_plain _ (by rfl) ?_
      go_big_quiet_step (fail)
      refine wpQuiet_nil ?_
      refine mix_plain _ (by rfl) ?_
      go_big_quiet_step (fail)
      refine wpQuiet_nil ?_
      refine mix_plain _ (by rfl) ?_
      go_big_quiet_step (fail)
      refine wpQuiet_nil ?_
      refine mix_call2 (range_k low high hlo hhi _) (by rfl) (by rfl) (by rfl) Tryd.func20 (by kernel_rfl) (by rfl) (by simp only [List.map_toArray, List.map_cons, List.map_nil]; rfl) ?_
      rintro e Wd ⟨rfl, hBd⟩
      have hE1 := hE.below hBd; have HB1 := HB.trans (hBd.mono HB.size); clear hE hBd HB; have hE := hE1; have HB := HB1; clear hE1 HB1
      refine ⟨_, rfl, ⟨⟨_, HB⟩, rfl⟩, ?_⟩
      simp only [Act.put, List.setIfInBounds_toArray, List.set_cons_succ, List.set_cons_zero]
      refine mix_call2 (rRange_calls low high hlo hhi _) (by rfl) (by rfl) (by rfl) Tryd.func27 (by kernel_rfl) (by rfl) (by simp only [List.map_toArray, List.map_cons, List.map_nil]; rfl) ?_
      rintro e Wd ⟨rfl, hBd⟩
      have hE1 := hE.below hBd; have HB1 := HB.trans (hBd.mono HB.size); clear hE hBd HB; have hE := hE1; have HB := HB1; clear hE1 HB1
      refine ⟨_, rfl, ⟨⟨_, HB⟩, rfl⟩, ?_⟩
      simp only [Act.put, List.setIfInBounds_toArray, List.set_cons_succ, List.set_cons_zero]
      refine mix_plain _ (by rfl) ?_
      go_big_quiet_step (fail)
      refine wpQuiet_nil ?_
      refine mix_plain _ (by rfl) ?_
      go_big_quiet_step (fail)
      refine wpQuiet_nil ?_
      refine mix_plain _ (by rfl) ?_
      go_big_quiet_step (fail)
      refine wpQuiet_nil ?_
      refine mix_plain _ (by rfl) ?_
      go_big_quiet_step (fail)
      refine wpQuiet_nil ?_
      refine mix_plain _ (by rfl) ?_
      go_big_quiet_step (fail)
      refine wpQuiet_nil ?_
      refine mix_plain _ (by rfl) ?_
      go_big_quiet_step (fail)
      refine wpQuiet_nil ?_
      refine mix_plain _ (by rfl) ?_
      go_big_quiet_step (fail)
      refine wpQuiet_nil ?_
      refine mix_call2 (has_k x low hlo _) (by rfl) (by rfl) (by rfl) Tryd.func15 (by kernel_rfl) (by rfl) (by simp only [List.map_toArray, List.map_cons, List.map_nil]; rfl) ?_
      rintro e Wd ⟨rfl, hBd⟩
      have hE1 := hE.below hBd; have HB1 := HB.trans (hBd.mono HB.size); clear hE hBd HB; have hE := hE1; have HB := HB1; clear hE1 HB1
      refine ⟨_, rfl, ⟨⟨_, HB⟩, rfl⟩, ?_⟩
      simp only [Act.put, List.setIfInBounds_toArray, List.set_cons_succ, List.set_cons_zero]
      refine mix_call2 (rHas_k x low hlo _) (by rfl) (by rfl) (by rfl) Tryd.func28 (by kernel_rfl) (by rfl) (by simp only [List.map_toArray, List.map_cons, List.map_nil]; rfl) ?_
      rintro e Wd ⟨rfl, hBd⟩
      have hE1 := hE.below hBd; have HB1 := HB.trans (hBd.mono HB.size); clear hE hBd HB; have hE := hE1; have HB := HB1; clear hE1 HB1
      refine ⟨_, rfl, ⟨⟨_, HB⟩, rfl⟩, ?_⟩
      simp only [Act.put, List.setIfInBounds_toArray, List.set_cons_succ, List.set_cons_zero]
      refine mix_plain _ (by rfl) ?_
      go_big_quiet_step (fail)
      refine wpQuiet_nil ?_
      refine mix_plain _ (by rfl) ?_
      go_big_quiet_step (fail)
      refine wpQuiet_nil ?_
      refine mix_plain _ (by rfl) ?_
      go_big_quiet_step (fail)
      refine wpQuiet_nil ?_
      refine mix_plain _ (by rfl) ?_
      go_big_quiet_step (fail)
      refine wpQuiet_nil ?_
      refine mix_plain _ (by rfl) ?_
      go_big_quiet_step (fail)
      refine wpQuiet_nil ?_
      refine mix_plain _ (by rfl) ?_
      go_big_quiet_step (fail)
      refine wpQuiet_nil ?_
      refine mix_plain _ (by rfl) ?_
      go_big_quiet_step (fail)
      refine wpQuiet_nil ?_
      refine mix_call2 (union_k x y _) (by rfl) (by rfl) (by rfl) Tryd.func14 (by kernel_rfl) (by rfl) (by simp only [List.map_toArray, List.map_cons, List.map_nil]; rfl) ?_
      rintro e Wd ⟨rfl, hBd⟩
      have hE1 := hE.below hBd; have HB1 := HB.trans (hBd.mono HB.size); clear hE hBd HB; have hE := hE1; have HB := HB1; clear hE1 HB1
      refine ⟨_, rfl, ⟨⟨_, HB⟩, rfl⟩, ?_⟩
      simp only [Act.put, List.setIfInBounds_toArray, List.set_cons_succ, List.set_cons_zero]
      refine mix_call2 (rUnion_k x y _) (by rfl) (by rfl) (by rfl) Tryd.func29 (by kernel_rfl) (by rfl) (by simp only [List.map_toArray, List.map_cons, List.map_nil]; rfl) ?_
      rintro e Wd ⟨rfl, hBd⟩
      have hE1 := hE.below hBd; have HB1 := HB.trans (hBd.mono HB.size); clear hE hBd HB; have hE := hE1; have HB := HB1; clear hE1 HB1
      refine ⟨_, rfl, ⟨⟨_, HB⟩, rfl⟩, ?_⟩
      simp only [Act.put, List.setIfInBounds_toArray, List.set_cons_succ, List.set_cons_zero]
      refine mix_plain _ (by rfl) ?_
      go_big_quiet_step (fail)
      refine wpQuiet_nil ?_
      refine mix_plain _ (by rfl) ?_
      go_big_quiet_step (fail)
      refine wpQuiet_nil ?_
      refine mix_plain _ (by rfl) ?_
      go_big_quiet_step (fail)
      refine wpQuiet_nil ?_
      refine mix_plain _ (by rfl) ?_
      go_big_quiet_step (fail)
      refine wpQuiet_nil ?_
      refine mix_plain _ (by rfl) ?_
      go_big_quiet_step (fail)
      refine wpQuiet_nil ?_
      refine mix_plain _ (by rfl) ?_
      go_big_quiet_step (fail)
      refine wpQuiet_nil ?_
      refine mix_plain _ (by rfl) ?_
      go_big_quiet_step (fail)
      refine wpQuiet_nil ?_
      refine mix_call2 (meet_k x y _) (by rfl) (by rfl) (by rfl) Tryd.func12 (by kernel_rfl) (by rfl) (by simp only [List.map_toArray, List.map_cons, List.map_nil]; rfl) ?_
      rintro e Wd ⟨rfl, hBd⟩
      have hE1 := hE.below hBd; have HB1 := HB.trans (hBd.mono HB.size); clear hE hBd HB; have hE := hE1; have HB := HB1; clear hE1 HB1
      refine ⟨_, rfl, ⟨⟨_, HB⟩, rfl⟩, ?_⟩
      simp only [Act.put, List.setIfInBounds_toArray, List.set_cons_succ, List.set_cons_zero]
      refine mix_call2 (rMeet_k x y _) (by rfl) (by rfl) (by rfl) Tryd.func30 (by kernel_rfl) (by rfl) (by simp only [List.map_toArray, List.map_cons, List.map_nil]; rfl) ?_
      rintro e Wd ⟨rfl, hBd⟩
      have hE1 := hE.below hBd; have HB1 := HB.trans (hBd.mono HB.size); clear hE hBd HB; have hE := hE1; have HB := HB1; clear hE1 HB1
      refine ⟨_, rfl, ⟨⟨_, HB⟩, rfl⟩, ?_⟩
      simp only [Act.put, List.setIfInBounds_toArray, List.set_cons_succ, List.set_cons_zero]
      refine mix_plain _ (by rfl) ?_
      go_big_quiet_step (fail)
      refine wpQuiet_nil ?_
      refine mix_plain _ (by rfl) ?_
      go_big_quiet_step (fail)
      refine wpQuiet_nil ?_
      refine mix_plain _ (by rfl) ?_
      go_big_quiet_step (fail)
      refine wpQuiet_nil ?_
      refine mix_plain _ (by rfl) ?_
      go_big_quiet_step (fail)
      refine wpQuiet_nil ?_
      refine mix_plain _ (by rfl) ?_
      go_big_quiet_step (fail)
      refine wpQuiet_nil ?_
      refine mix_call2 (not_k x _) (by rfl) (by rfl) (by rfl) Tryd.func16 (by kernel_rfl) (by rfl) (by simp only [List.map_toArray, List.map_cons, List.map_nil]; rfl) ?_
      rintro e Wd ⟨rfl, hBd⟩
      have hE1 := hE.below hBd; have HB1 := HB.trans (hBd.mono HB.size); clear hE hBd HB; have hE := hE1; have HB := HB1; clear hE1 HB1
      refine ⟨_, rfl, ⟨⟨_, HB⟩, rfl⟩, ?_⟩
      simp only [Act.put, List.setIfInBounds_toArray, List.set_cons_succ, List.set_cons_zero]
      refine mix_call2 (rNot_k x _) (by rfl) (by rfl) (by rfl) Tryd.func31 (by kernel_rfl) (by rfl) (by simp only [List.map_toArray, List.map_cons, List.map_nil]; rfl) ?_
      rintro e Wd ⟨rfl, hBd⟩
      have hE1 := hE.below hBd; have HB1 := HB.trans (hBd.mono HB.size); clear hE hBd HB; have hE := hE1; have HB := HB1; clear hE1 HB1
      refine ⟨_, rfl, ⟨⟨_, HB⟩, rfl⟩, ?_⟩
      simp only [Act.put, List.setIfInBounds_toArray, List.set_cons_succ, List.set_cons_zero]
      refine mix_plain _ (by rfl) ?_
      go_big_quiet_step (fail)
      refine wpQuiet_nil ?_
      refine mix_plain _ (by rfl) ?_
      go_big_quiet_step (fail)
      refine wpQuiet_nil ?_
      refine mix_plain _ (by rfl) ?_
      go_big_quiet_step (fail)
      refine wpQuiet_nil ?_
      refine mix_plain _ (by rfl) ?_
      go_big_quiet_step (fail)
      refine wpQuiet_nil ?_
      refine mix_plain _ (by rfl) ?_
      go_big_quiet_step (fail)
      refine wpQuiet_nil ?_
      refine mix_call2 (len_k x _) (by rfl) (by rfl) (by rfl) Tryd.func13 (by kernel_rfl) (by rfl) (by simp only [List.map_toArray, List.map_cons, List.map_nil]; rfl) ?_
      rintro e Wd ⟨rfl, hBd⟩
      have hE1 := hE.below hBd; have HB1 := HB.trans (hBd.mono HB.size); clear hE hBd HB; have hE := hE1; have HB := HB1; clear hE1 HB1
      refine ⟨_, rfl, ⟨⟨_, HB⟩, rfl⟩, ?_⟩
      simp only [Act.put, List.setIfInBounds_toArray, List.set_cons_succ, List.set_cons_zero]
      refine mix_call2 (rLen_k x _) (by rfl) (by rfl) (by rfl) Tryd.func32 (by kernel_rfl) (by rfl) (by simp only [List.map_toArray, List.map_cons, List.map_nil]; rfl) ?_
      rintro e Wd ⟨rfl, hBd⟩
      have hE1 := hE.below hBd; have HB1 := HB.trans (hBd.mono HB.size); clear hE hBd HB; have hE := hE1; have HB := HB1; clear hE1 HB1
      refine ⟨_, rfl, ⟨⟨_, HB⟩, rfl⟩, ?_⟩
      simp only [Act.put, List.setIfInBounds_toArray, List.set_cons_succ, List.set_cons_zero]
      refine mix_plain _ (by rfl) ?_
      go_big_quiet_step (fail)
      refine wpQuiet_nil ?_
      refine mix_plain _ (by rfl) ?_
      go_big_quiet_step (fail)
      refine wpQuiet_nil ?_
      refine mix_plain _ (by rfl) ?_
      go_big_quiet_step (fail)
      refine wpQuiet_nil ?_
      refine mix_plain _ (by rfl) ?_
      go_big_quiet_step (fail)
      refine wpQuiet_nil ?_
      refine mix_plain _ (by rfl) ?_
      go_big_quiet_step (fail)
      refine wpQuiet_nil ?_
      refine mix_call2 (bytes_k x _ hE.tab.2 hE.tab.1) (by rfl) (by rfl) (by rfl) Tryd.func22 (by kernel_rfl) (by rfl) (by simp only [List.map_toArray, List.map_cons, List.map_nil]; rfl) ?_
      rintro e Wd ⟨rfl, hBd⟩
      have hE1 := hE.below hBd; have HB1 := HB.trans (hBd.mono HB.size); clear hE hBd HB; have hE := hE1; have HB := HB1; clear hE1 HB1
      refine ⟨_, rfl, ⟨⟨_, HB⟩, rfl⟩, ?_⟩
      simp only [Act.put, List.setIfInBounds_toArray, List.set_cons_succ, List.set_cons_zero]
      refine mix_call2 (rBytes_k x _) (by rfl) (by rfl) (by rfl) Tryd.func25 (by kernel_rfl) (by rfl) (by simp only [List.map_toArray, List.map_cons, List.map_nil]; rfl) ?_
      rintro e Wd ⟨rfl, hBd⟩
      have hE1 := hE.below hBd; have HB1 := HB.trans (hBd.mono HB.size); clear hE hBd HB; have hE := hE1; have HB := HB1; clear hE1 HB1
      refine ⟨_, rfl, ⟨⟨_, HB⟩, rfl⟩, ?_⟩
      simp only [Act.put, List.setIfInBounds_toArray, List.set_cons_succ, List.set_cons_zero]
      refine mix_plain _ (by rfl) ?_
      go_big_quiet_step (fail)
      refine wpQuiet_nil ?_
      refine mix_plain _ (by rfl) ?_
      go_big_quiet_step (fail)
      refine wpQuiet_nil ?_
      refine mix_plain _ (by rfl) ?_
      go_big_quiet_step (fail)
      refine wpQuiet_nil ?_
      refine mix_plain _ (by rfl) ?_
      go_big_quiet_step (fail)
      refine wpQuiet_nil ?_
      refine mix_plain _ (by rfl) ?_
      go_big_quiet_step (fail)
      refine wpQuiet_nil ?_
      refine mix_plain _ (by rfl) ?_
      go_big_quiet_step (fail)
      refine wpQuiet_nil ?_
      refine mix_plain _ (by rfl) ?_
      go_big_quiet_step (fail)
      refine wpQuiet_nil ?_
      refine mix_call2 (cmp_k x y hE.g) (by rfl) (by rfl) (by rfl) Tryd.func23 (by kernel_rfl) (by rfl) (by simp only [List.map_toArray, List.map_cons, List.map_nil]; rfl) ?_
      rintro e Wd ⟨rfl, hBd⟩
      have hE1 := hE.below hBd; have HB1 := HB.trans (hBd.mono HB.size); clear hE hBd HB; have hE := hE1; have HB := HB1; clear hE1 HB1
      refine ⟨_, rfl, ⟨⟨_, HB⟩, rfl⟩, ?_⟩
      simp only [Act.put, List.setIfInBounds_toArray, List.set_cons_succ, List.set_cons_zero]
      refine mix_call2 (rCompare_k x y _) (by rfl) (by rfl) (by rfl) Tryd.func33 (by kernel_rfl) (by rfl) (by simp only [List.map_toArray, List.map_cons, List.map_nil]; rfl) ?_
      rintro e Wd ⟨rfl, hBd⟩
      have hE1 := hE.below hBd; have HB1 := HB.trans (hBd.mono HB.size); clear hE hBd HB; have hE := hE1; have HB := HB1; clear hE1 HB1
      refine ⟨_, rfl, ⟨⟨_, HB⟩, rfl⟩, ?_⟩
      simp only [Act.put, List.setIfInBounds_toArray, List.set_cons_succ, List.set_cons_zero]
      refine mix_plain _ (by rfl) ?_
      go_big_quiet_step (fail)
      refine wpQuiet_nil ?_
      refine mix_plain _ (by rfl) ?_
      go_big_quiet_step (fail)
      refine wpQuiet_nil ?_
      refine mix_plain _ (by rfl) ?_
      go_big_quiet_step (fail)
      refine wpQuiet_nil ?_
      refine mix_plain _ (by rfl) ?_
      go_big_quiet_step (fail)
      refine wpQuiet_nil ?_
      refine mix_plain _ (by rfl) ?_
      go_big_quiet_step (fail)
      refine wpQuiet_nil ?_
      refine mix_call2 (own_calls l hl8 la c _ hc (fun h => by obtain ⟨B, off, e, h1, h2⟩ := HL.out h; exact ⟨B, off, e, by have := hE.b.size; omega, h2.below hE.b h1⟩)) (by rfl) (by rfl) (by rfl) Tryd.func35 (by kernel_rfl) (by rfl) (by simp only [List.map_toArray, List.map_cons, List.map_nil]; rfl) ?_
      rintro e Wd ⟨⟨oa, oc, rfl, hO⟩, hBd⟩
      have HO := Lib.hid hO
      clear hO
      have hE1 := hE.below hBd; have HB1 := HB.trans (hBd.mono HB.size); clear hE hBd HB; have hE := hE1; have HB := HB1; clear hE1 HB1
      refine ⟨_, rfl, ⟨⟨_, HB⟩, rfl⟩, ?_⟩
      simp only [Act.put, List.setIfInBounds_toArray, List.set_cons_succ, List.set_cons_zero]
      refine mix_call2 (split_calls l hl8 oa oc _ hE.tab.2 hE.tab.1 HO.out) (by rfl) (by rfl) (by rfl) Tryd.func10 (by kernel_rfl) (by rfl) (by simp only [List.map_toArray, List.map_cons, List.map_nil]; rfl) ?_
      rintro e Wd ⟨g, cap, d, rfl, hg1, hg2, hdp, hds, hdr, hBd⟩
      have HDE := Lib.hid (rsplit_eq ((parts_ok l).perm hdp) hds)
      have hdl : d.length ≤ 256 := by rw [HDE.out]; exact rsplit_len l
      have HDR := Lib.hid hdr
      clear hdp hds hdr hg1
      have hE1 := hE.below hBd; have HB1 := HB.trans (hBd.mono HB.size); clear hE hBd HB; have hE := hE1; have HB := HB1; clear hE1 HB1
      refine ⟨_, rfl, ⟨⟨_, HB⟩, rfl⟩, ?_⟩
      simp only [Act.put, List.setIfInBounds_toArray, List.set_cons_succ, List.set_cons_zero]
      have hrs := fun W (hE : Env w x y w.heap.size (w.heap.size + 1) W) => rSplit_calls l hl8 la c W (fun h => by obtain ⟨B, off, e, h1, h2⟩ := HL.out h; exact ⟨B, off, e, by have := hE.b.size; omega, h2.below hE.b h1⟩)
      rw [← HDE.out] at hrs
      refine mix_call2 (hrs _ hE) (by rfl) (by rfl) (by rfl) Tryd.func36 (by kernel_rfl) (by rfl) (by simp only [List.map_toArray, List.map_cons, List.map_nil]; rfl) ?_
      rintro e Wd ⟨⟨g2, oc2, rfl, hg3, hdr2⟩, hBd⟩
      have HDR1 := Lib.hid (HDR.out.below hBd hg2)
      have HDR2 := Lib.hid hdr2
      have hg4 := Nat.lt_of_lt_of_le hg2 hBd.size
      clear hdr2
      have hE1 := hE.below hBd; have HB1 := HB.trans (hBd.mono HB.size); clear hE hBd HB; have hE := hE1; have HB := HB1; clear hE1 HB1
      refine ⟨_, rfl, ⟨⟨_, HB⟩, rfl⟩, ?_⟩
      simp only [Act.put, List.setIfInBounds_toArray, List.set_cons_succ, List.set_cons_zero]
      refine mix_call2 (same_calls d hdl g g2 _ _ _ hg4 hg3 HDR1.out HDR2.out) (by rfl) (by rfl) (by rfl) Tryd.func34 (by kernel_rfl) (by rfl) (by simp only [List.map_toArray, List.map_cons, List.map_nil]; rfl) ?_
      rintro e Wd ⟨rfl, hBd⟩
      have hE1 := hE.below hBd; have HB1 := HB.trans (hBd.mono HB.size); clear hE hBd HB; have hE := hE1; have HB := HB1; clear hE1 HB1
      refine ⟨_, rfl, ⟨⟨_, HB⟩, rfl⟩, ?_⟩
      simp only [Act.put, List.setIfInBounds_toArray, List.set_cons_succ, List.set_cons_zero]
      refine mix_plain _ (by rfl) ?_
      go_big_quiet_step (fail)
      refine wpQuiet_nil ?_
      refine mix_plain _ (by rfl) ?_
      go_big_quiet_step (fail)
      refine wpQuiet_nil ?_
      show (Exit.then _ _) Exit.normal _ _
      go_wp2
      go_ret
      exact ⟨rfl, hE.b⟩
end Go.Proofs.YtjaabolpdelbiaaDoor
