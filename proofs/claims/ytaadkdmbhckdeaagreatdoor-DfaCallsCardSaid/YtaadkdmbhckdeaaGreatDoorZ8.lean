/- Dfa: viewportref04.Len 13, Step 15, Rule 17 of tables that may be. -/
import Derived.Test.YtaadkdmbhckdeaaGreatDoorZ4
import Derived.Test.YtaadkdmbhckdeaaGreatDoorT7
namespace Go.Proofs.YtaadkdmbhckdeaaGreatDoor
open Go Go.Proofs Go.RowKit
attribute [local go_sem] Oper.semAt_some
set_option maxRecDepth 100000 in
set_option maxHeartbeats 4000000 in
theorem bld_bad (N : Nf) (ac an ar : Option Addr) (cc cn cr : Nat) (most : Int) (o : ¬ NfOk N) (w : World) (h : NfAt w N ac an ar) :
  Calls Tryz.prog 7 #[.agg #[.slice ac N.cl.length cc, .slice an N.nx.length cn, .slice ar N.ru.length cr], .int .i64 most] w fun e w' => e = .returned (.tuple #[.agg #[.slice none 0 0, .slice none 0 0], .int .i64 2]) ∧ Below w.heap.size w w' := by
 obtain ⟨x0, hx0⟩ : ∃ v, v = Value.slice ac N.cl.length cc := ⟨_, rfl⟩
 obtain ⟨x1, hx1⟩ : ∃ v, v = Value.slice an N.nx.length cn := ⟨_, rfl⟩
 obtain ⟨x2, hx2⟩ : ∃ v, v = Value.slice ar N.ru.length cr := ⟨_, rfl⟩
 rw [← hx0, ← hx1, ← hx2]
 obtain ⟨U, hU⟩ : ∃ U, U = w.heap.size := ⟨_, rfl⟩
 obtain ⟨W1, hW1⟩ : ∃ W1, W1 = (w.alloc (.cells #[x0, x1, x2] 26)).alloc (.cells #[.slice none 0 0, .slice none 0 0] 28) := ⟨_, rfl⟩
 have hB1 : Below w.heap.size w W1 := by rw [hW1]; exact ((Below.refl _ w).alloc (Nat.le_refl _) _).alloc (by simp) _
 have hz1 : W1.heap.size = U + 2 := by rw [hW1, hU]; simp
 have u1 : Bx W1 U 26 #[x0, x1, x2] := by rw [hW1, hU]; exact (Bx.new w 26 _).alloc _
 have r1 : Bx W1 (U + 1) 28 #[.slice none 0 0, .slice none 0 0] := by
  have := Bx.new (w.alloc (.cells #[x0, x1, x2] 26)) 28 #[.slice none 0 0, .slice none 0 0]
  rw [World.size_alloc] at this
  rw [hW1, hU]; exact this
 have hck := ncheck_k N ac an ar cc cn cr W1 (h.below hB1 (Nat.le_refl _))
 rw [show ckN N = 2 from if_neg o] at hck
 (try unfold nfV at hck)
 rw [← hx0, ← hx1, ← hx2] at hck
 have HW1 := Lib.hid hW1
 have HU := Lib.hid hU
 have HZ1 := Lib.hid hz1
 have d0 := u1.cell 0
 have d1 := u1.cell 1
 have d2 := u1.cell 2
 have o0 : x0.oneCell' = true := by rw [hx0]; rfl
 have o1 : x1.oneCell' = true := by rw [hx1]; rfl
 have o2 : x2.oneCell' = true := by rw [hx2]; rfl
 clear hW1 hz1 hU hx0 hx1 hx2 h o
 go_enter Tryz.func7, Tryz.ntmps7
 go_upto_region 1 with (fail)
 rw [← HW1.out, ← HU.out]
 go_wp2_with (first
  | (go_at_call 23; (with_reducible refine hck.mono ?_); rintro e W2 ⟨rfl, hb2⟩; have r2 : Bx W2 (U + 1) 28 #[.slice none 0 0, .slice none 0 0] := r1.below hb2 r1.lt)
  | ((with_reducible refine st21_id ?_); refine AX.wpList_storeBox (vs := [.slice none 0 0, .slice none 0 0]) rfl rfl sz32 r2 rfl rfl ?_; rintro W7 g3 g4 g5))
 have g3' : Bx W7 (U + 1) 28 #[.slice none 0 0, .slice none 0 0] := g3
 have hl7 : Below w.heap.size W2 W7 := AX.below_turn (by have := HU.out; omega) (.inl g3'.lt) g4 g5
 have e0 := g3'.cell 0
 have e1 := g3'.cell 1
 have hfin : Below w.heap.size w W7 := (hB1.trans (hb2.mono hB1.size)).trans hl7
 exact bodyPost_ret (v := .tuple #[.agg #[.slice none 0 0, .slice none 0 0], .int .i64 2]) (by simp [results, Tryz.f7, go_sem, e0, e1]) rfl ⟨rfl, hfin⟩
set_option maxRecDepth 100000 in
set_option maxHeartbeats 4000000 in
theorem bld_out (N : Nf) (ac an ar : Option Addr) (cc cn cr : Nat) (most : Int) (o : NfOk N) (hm : most < 1 ∨ 512 < most) (w : World) (h : NfAt w N ac an ar) :
  Calls Tryz.prog 7 #[.agg #[.slice ac N.cl.length cc, .slice an N.nx.length cn, .slice ar N.ru.length cr], .int .i64 most] w fun e w' => e = .returned (.tuple #[.agg #[.slice none 0 0, .slice none 0 0], .int .i64 2]) ∧ Below w.heap.size w w' := by
 obtain ⟨x0, hx0⟩ : ∃ v, v = Value.slice ac N.cl.length cc := ⟨_, rfl⟩
 obtain ⟨x1, hx1⟩ : ∃ v, v = Value.slice an N.nx.length cn := ⟨_, rfl⟩
 obtain ⟨x2, hx2⟩ : ∃ v, v = Value.slice ar N.ru.length cr := ⟨_, rfl⟩
 rw [← hx0, ← hx1, ← hx2]
 obtain ⟨U, hU⟩ : ∃ U, U = w.heap.size := ⟨_, rfl⟩
 obtain ⟨W1, hW1⟩ : ∃ W1, W1 = (w.alloc (.cells #[x0, x1, x2] 26)).alloc (.cells #[.slice none 0 0, .slice none 0 0] 28) := ⟨_, rfl⟩
 have hB1 : Below w.heap.size w W1 := by rw [hW1]; exact ((Below.refl _ w).alloc (Nat.le_refl _) _).alloc (by simp) _
 have hz1 : W1.heap.size = U + 2 := by rw [hW1, hU]; simp
 have u1 : Bx W1 U 26 #[x0, x1, x2] := by rw [hW1, hU]; exact (Bx.new w 26 _).alloc _
 have r1 : Bx W1 (U + 1) 28 #[.slice none 0 0, .slice none 0 0] := by
  have := Bx.new (w.alloc (.cells #[x0, x1, x2] 26)) 28 #[.slice none 0 0, .slice none 0 0]
  rw [World.size_alloc] at this
  rw [hW1, hU]; exact this
 have hck := ncheck_k N ac an ar cc cn cr W1 (h.below hB1 (Nat.le_refl _))
 rw [show ckN N = 0 from if_pos o] at hck
 (try unfold nfV at hck)
 rw [← hx0, ← hx1, ← hx2] at hck
 have HW1 := Lib.hid hW1
 have HU := Lib.hid hU
 have HZ1 := Lib.hid hz1
 have d0 := u1.cell 0
 have d1 := u1.cell 1
 have d2 := u1.cell 2
 have o0 : x0.oneCell' = true := by rw [hx0]; rfl
 have o1 : x1.oneCell' = true := by rw [hx1]; rfl
 have o2 : x2.oneCell' = true := by rw [hx2]; rfl
 clear hW1 hz1 hU hx0 hx1 hx2 h o
 rcases hm with hm | hm
 · go_enter Tryz.func7, Tryz.ntmps7
   go_upto_region 1 with (fail)
   rw [← HW1.out, ← HU.out]
   go_wp2_with (first
    | (go_at_call 23; (with_reducible refine hck.mono ?_); rintro e W2 ⟨rfl, hb2⟩; have r2 : Bx W2 (U + 1) 28 #[.slice none 0 0, .slice none 0 0] := r1.below hb2 r1.lt)
    | ((with_reducible refine st21_id ?_); refine AX.wpList_storeBox (vs := [.slice none 0 0, .slice none 0 0]) rfl rfl sz32 r2 rfl rfl ?_; rintro W7 g3 g4 g5))
   have g3' : Bx W7 (U + 1) 28 #[.slice none 0 0, .slice none 0 0] := g3
   have hl7 : Below w.heap.size W2 W7 := AX.below_turn (by have := HU.out; omega) (.inl g3'.lt) g4 g5
   have e0 := g3'.cell 0
   have e1 := g3'.cell 1
   have hfin : Below w.heap.size w W7 := (hB1.trans (hb2.mono hB1.size)).trans hl7
   exact bodyPost_ret (v := .tuple #[.agg #[.slice none 0 0, .slice none 0 0], .int .i64 2]) (by simp [results, Tryz.f7, go_sem, e0, e1]) rfl ⟨rfl, hfin⟩
 · have hm0 : ¬ most < 1 := by omega
   go_enter Tryz.func7, Tryz.ntmps7
   go_upto_region 1 with (fail)
   rw [← HW1.out, ← HU.out]
   go_wp2_with (first
    | (go_at_call 23; (with_reducible refine hck.mono ?_); rintro e W2 ⟨rfl, hb2⟩; have r2 : Bx W2 (U + 1) 28 #[.slice none 0 0, .slice none 0 0] := r1.below hb2 r1.lt)
    | ((with_reducible refine st21_id ?_); refine AX.wpList_storeBox (vs := [.slice none 0 0, .slice none 0 0]) rfl rfl sz32 r2 rfl rfl ?_; rintro W7 g3 g4 g5))
   have g3' : Bx W7 (U + 1) 28 #[.slice none 0 0, .slice none 0 0] := g3
   have hl7 : Below w.heap.size W2 W7 := AX.below_turn (by have := HU.out; omega) (.inl g3'.lt) g4 g5
   have e0 := g3'.cell 0
   have e1 := g3'.cell 1
   have hfin : Below w.heap.size w W7 := (hB1.trans (hb2.mono hB1.size)).trans hl7
   exact bodyPost_ret (v := .tuple #[.agg #[.slice none 0 0, .slice none 0 0], .int .i64 2]) (by simp [results, Tryz.f7, go_sem, e0, e1]) rfl ⟨rfl, hfin⟩
set_option maxRecDepth 100000 in
set_option maxHeartbeats 4000000 in
theorem rbld_bad (N : Nf) (ac an ar : Option Addr) (cc cn cr : Nat) (most : Int) (o : ¬ NfOk N) (w : World) (h : NfAt w N ac an ar) :
  Calls Tryz.prog 8 #[.agg #[.slice ac N.cl.length cc, .slice an N.nx.length cn, .slice ar N.ru.length cr], .int .i64 most] w fun e w' => e = .returned (.tuple #[.agg #[.slice none 0 0, .slice none 0 0], .int .i64 2]) ∧ Below w.heap.size w w' := by
 obtain ⟨x0, hx0⟩ : ∃ v, v = Value.slice ac N.cl.length cc := ⟨_, rfl⟩
 obtain ⟨x1, hx1⟩ : ∃ v, v = Value.slice an N.nx.length cn := ⟨_, rfl⟩
 obtain ⟨x2, hx2⟩ : ∃ v, v = Value.slice ar N.ru.length cr := ⟨_, rfl⟩
 rw [← hx0, ← hx1, ← hx2]
 obtain ⟨U, hU⟩ : ∃ U, U = w.heap.size := ⟨_, rfl⟩
 obtain ⟨W1, hW1⟩ : ∃ W1, W1 = (w.alloc (.cells #[x0, x1, x2] 26)).alloc (.cells #[.slice none 0 0, .slice none 0 0] 28) := ⟨_, rfl⟩
 have hB1 : Below w.heap.size w W1 := by rw [hW1]; exact ((Below.refl _ w).alloc (Nat.le_refl _) _).alloc (by simp) _
 have hz1 : W1.heap.size = U + 2 := by rw [hW1, hU]; simp
 have u1 : Bx W1 U 26 #[x0, x1, x2] := by rw [hW1, hU]; exact (Bx.new w 26 _).alloc _
 have r1 : Bx W1 (U + 1) 28 #[.slice none 0 0, .slice none 0 0] := by
  have := Bx.new (w.alloc (.cells #[x0, x1, x2] 26)) 28 #[.slice none 0 0, .slice none 0 0]
  rw [World.size_alloc] at this
  rw [hW1, hU]; exact this
 have hck := rcheck_k N ac an ar cc cn cr W1 (h.below hB1 (Nat.le_refl _))
 rw [show ckN N = 2 from if_neg o] at hck
 (try unfold nfV at hck)
 rw [← hx0, ← hx1, ← hx2] at hck
 have HW1 := Lib.hid hW1
 have HU := Lib.hid hU
 have HZ1 := Lib.hid hz1
 have d0 := u1.cell 0
 have d1 := u1.cell 1
 have d2 := u1.cell 2
 have o0 : x0.oneCell' = true := by rw [hx0]; rfl
 have o1 : x1.oneCell' = true := by rw [hx1]; rfl
 have o2 : x2.oneCell' = true := by rw [hx2]; rfl
 clear hW1 hz1 hU hx0 hx1 hx2 h o
 go_enter Tryz.func8, Tryz.ntmps8
 go_upto_region 1 with (fail)
 rw [← HW1.out, ← HU.out]
 go_wp2_with (first
  | (go_at_call 30; (with_reducible refine hck.mono ?_); rintro e W2 ⟨rfl, hb2⟩; have r2 : Bx W2 (U + 1) 28 #[.slice none 0 0, .slice none 0 0] := r1.below hb2 r1.lt)
  | ((with_reducible refine st21_id ?_); refine AX.wpList_storeBox (vs := [.slice none 0 0, .slice none 0 0]) rfl rfl sz32 r2 rfl rfl ?_; rintro W7 g3 g4 g5))
 have g3' : Bx W7 (U + 1) 28 #[.slice none 0 0, .slice none 0 0] := g3
 have hl7 : Below w.heap.size W2 W7 := AX.below_turn (by have := HU.out; omega) (.inl g3'.lt) g4 g5
 have e0 := g3'.cell 0
 have e1 := g3'.cell 1
 have hfin : Below w.heap.size w W7 := (hB1.trans (hb2.mono hB1.size)).trans hl7
 exact bodyPost_ret (v := .tuple #[.agg #[.slice none 0 0, .slice none 0 0], .int .i64 2]) (by simp [results, Tryz.f8, go_sem, e0, e1]) rfl ⟨rfl, hfin⟩
set_option maxRecDepth 100000 in
set_option maxHeartbeats 4000000 in
theorem rbld_out (N : Nf) (ac an ar : Option Addr) (cc cn cr : Nat) (most : Int) (o : NfOk N) (hm : most < 1 ∨ 512 < most) (w : World) (h : NfAt w N ac an ar) :
  Calls Tryz.prog 8 #[.agg #[.slice ac N.cl.length cc, .slice an N.nx.length cn, .slice ar N.ru.length cr], .int .i64 most] w fun e w' => e = .returned (.tuple #[.agg #[.slice none 0 0, .slice none 0 0], .int .i64 2]) ∧ Below w.heap.size w w' := by
 obtain ⟨x0, hx0⟩ : ∃ v, v = Value.slice ac N.cl.length cc := ⟨_, rfl⟩
 obtain ⟨x1, hx1⟩ : ∃ v, v = Value.slice an N.nx.length cn := ⟨_, rfl⟩
 obtain ⟨x2, hx2⟩ : ∃ v, v = Value.slice ar N.ru.length cr := ⟨_, rfl⟩
 rw [← hx0, ← hx1, ← hx2]
 obtain ⟨U, hU⟩ : ∃ U, U = w.heap.size := ⟨_, rfl⟩
 obtain ⟨W1, hW1⟩ : ∃ W1, W1 = (w.alloc (.cells #[x0, x1, x2] 26)).alloc (.cells #[.slice none 0 0, .slice none 0 0] 28) := ⟨_, rfl⟩
 have hB1 : Below w.heap.size w W1 := by rw [hW1]; exact ((Below.refl _ w).alloc (Nat.le_refl _) _).alloc (by simp) _
 have hz1 : W1.heap.size = U + 2 := by rw [hW1, hU]; simp
 have u1 : Bx W1 U 26 #[x0, x1, x2] := by rw [hW1, hU]; exact (Bx.new w 26 _).alloc _
 have r1 : Bx W1 (U + 1) 28 #[.slice none 0 0, .slice none 0 0] := by
  have := Bx.new (w.alloc (.cells #[x0, x1, x2] 26)) 28 #[.slice none 0 0, .slice none 0 0]
  rw [World.size_alloc] at this
  rw [hW1, hU]; exact this
 have hck := rcheck_k N ac an ar cc cn cr W1 (h.below hB1 (Nat.le_refl _))
 rw [show ckN N = 0 from if_pos o] at hck
 (try unfold nfV at hck)
 rw [← hx0, ← hx1, ← hx2] at hck
 have HW1 := Lib.hid hW1
 have HU := Lib.hid hU
 have HZ1 := Lib.hid hz1
 have d0 := u1.cell 0
 have d1 := u1.cell 1
 have d2 := u1.cell 2
 have o0 : x0.oneCell' = true := by rw [hx0]; rfl
 have o1 : x1.oneCell' = true := by rw [hx1]; rfl
 have o2 : x2.oneCell' = true := by rw [hx2]; rfl
 clear hW1 hz1 hU hx0 hx1 hx2 h o
 rcases hm with hm | hm
 · go_enter Tryz.func8, Tryz.ntmps8
   go_upto_region 1 with (fail)
   rw [← HW1.out, ← HU.out]
   go_wp2_with (first
    | (go_at_call 30; (with_reducible refine hck.mono ?_); rintro e W2 ⟨rfl, hb2⟩; have r2 : Bx W2 (U + 1) 28 #[.slice none 0 0, .slice none 0 0] := r1.below hb2 r1.lt)
    | ((with_reducible refine st21_id ?_); refine AX.wpList_storeBox (vs := [.slice none 0 0, .slice none 0 0]) rfl rfl sz32 r2 rfl rfl ?_; rintro W7 g3 g4 g5))
   have g3' : Bx W7 (U + 1) 28 #[.slice none 0 0, .slice none 0 0] := g3
   have hl7 : Below w.heap.size W2 W7 := AX.below_turn (by have := HU.out; omega) (.inl g3'.lt) g4 g5
   have e0 := g3'.cell 0
   have e1 := g3'.cell 1
   have hfin : Below w.heap.size w W7 := (hB1.trans (hb2.mono hB1.size)).trans hl7
   exact bodyPost_ret (v := .tuple #[.agg #[.slice none 0 0, .slice none 0 0], .int .i64 2]) (by simp [results, Tryz.f8, go_sem, e0, e1]) rfl ⟨rfl, hfin⟩
 · have hm0 : ¬ most < 1 := by omega
   go_enter Tryz.func8, Tryz.ntmps8
   go_upto_region 1 with (fail)
   rw [← HW1.out, ← HU.out]
   go_wp2_with (first
    | (go_at_call 30; (with_reducible refine hck.mono ?_); rintro e W2 ⟨rfl, hb2⟩; have r2 : Bx W2 (U + 1) 28 #[.slice none 0 0, .slice none 0 0] := r1.below hb2 r1.lt)
    | ((with_reducible refine st21_id ?_); refine AX.wpList_storeBox (vs := [.slice none 0 0, .slice none 0 0]) rfl rfl sz32 r2 rfl rfl ?_; rintro W7 g3 g4 g5))
   have g3' : Bx W7 (U + 1) 28 #[.slice none 0 0, .slice none 0 0] := g3
   have hl7 : Below w.heap.size W2 W7 := AX.below_turn (by have := HU.out; omega) (.inl g3'.lt) g4 g5
   have e0 := g3'.cell 0
   have e1 := g3'.cell 1
   have hfin : Below w.heap.size w W7 := (hB1.trans (hb2.mono hB1.size)).trans hl7
   exact bodyPost_ret (v := .tuple #[.agg #[.slice none 0 0, .slice none 0 0], .int .i64 2]) (by simp [results, Tryz.f8, go_sem, e0, e1]) rfl ⟨rfl, hfin⟩
theorem bld_same (N : Nf) (most : Nat) (hm : 1 ≤ most) : bldB most (stepN N) (List.range 256) (most + 1) 0 [[0]] = (bldB most (stepN N) (lowsOf (spl N.cl)) (most + 1) 0 [[0]]).map fun q => (q.1.map (rowOf (clsOf (spl N.cl)) 256), q.2) := by
 have L := lay_of (spl_parted N.cl) (spl_sorted N.cl)
 refine bld_all L (fun S x hx => ?_) _ _ _ (by simp) (by simpa using hm)
 unfold stepN
 refine stepF_alike (fun t ht => ?_) S
 unfold hasN
 rw [List.getD_eq_getElem?_getD, List.getElem?_eq_getElem ht]
 exact cls_alike (spl_parted N.cl) (spl_sorted N.cl) hx (List.getElem_mem ht)
theorem checkV_bad {next rule : List Int} (h : ¬ (1 ≤ rule.length ∧ rule.length ≤ 512 ∧ next.length = 256 * rule.length)) : checkV next rule = 2 := if_neg fun k => h (by
 unfold okT at k
 simp only [Bool.and_eq_true, decide_eq_true_eq] at k
 exact ⟨k.1, k.2.1, k.2.2.1⟩)
theorem checkV_rule {next rule : List Int} {x : Int} (hx : x ∈ rule) (h : ¬ (-1 ≤ x ∧ x < 16)) : checkV next rule = 2 := if_neg fun k => h (by
 unfold okT inR at k
 simp only [Bool.and_eq_true, decide_eq_true_eq, List.all_eq_true] at k
 exact k.2.2.2.1 x hx)
theorem checkV_next {next rule : List Int} {x : Int} (hx : x ∈ next) (h : ¬ (-1 ≤ x ∧ x < rule.length)) : checkV next rule = 2 := if_neg fun k => h (by
 unfold okT inR at k
 simp only [Bool.and_eq_true, decide_eq_true_eq, List.all_eq_true] at k
 exact k.2.2.2.2 x hx)
theorem checkV_good {next rule : List Int} (h0 : 1 ≤ rule.length ∧ rule.length ≤ 512 ∧ next.length = 256 * rule.length) (h1 : ∀ k, k < rule.length → -1 ≤ rule.getD k 0 ∧ rule.getD k 0 < 16) (h2 : ∀ k, k < next.length → -1 ≤ next.getD k 0 ∧ next.getD k 0 < rule.length) : checkV next rule = 0 := if_pos (by
 unfold okT inR
 simp only [Bool.and_eq_true, decide_eq_true_eq, List.all_eq_true]
 refine ⟨h0.1, h0.2.1, h0.2.2, fun x hx => ?_, fun x hx => ?_⟩
 · obtain ⟨k, hk, rfl⟩ := List.mem_iff_getElem.1 hx
   have := h1 k hk
   simpa [hk] using this
 · obtain ⟨k, hk, rfl⟩ := List.mem_iff_getElem.1 hx
   have := h2 k hk
   simpa [hk] using this)
set_option maxRecDepth 100000 in
set_option maxHeartbeats 4000000 in
theorem rchk_k (next rule : List Int) (hn : next.length ≤ 1000000) (hr : rule.length ≤ 1000000) (an ar : Option Addr) (cn cr : Nat) (w : World) (hN : IRow w an next) (hR : IRow w ar rule) :
  Calls Tryz.prog 11 #[.agg #[.slice an next.length cn, .slice ar rule.length cr]] w fun e w' => e = .returned (.int .i64 (checkV next rule)) ∧ Below w.heap.size w w' := by
 obtain ⟨W0, hW0⟩ : ∃ W0, W0 = w.alloc (.cells #[.slice an next.length cn, .slice ar rule.length cr] 28) := ⟨_, rfl⟩
 obtain ⟨U, hU⟩ : ∃ U, U = w.heap.size := ⟨_, rfl⟩
 have hB : Below w.heap.size w W0 := by rw [hW0]; exact (Below.refl w.heap.size w).alloc (Nat.le_refl _) _
 have u0 : Bx W0 U 28 #[.slice an next.length cn, .slice ar rule.length cr] := by rw [hW0, hU]; exact Bx.new w 28 _
 obtain ⟨nl, hnl⟩ : ∃ nl, nl = next.length := ⟨_, rfl⟩
 obtain ⟨rl, hrl⟩ : ∃ rl, rl = rule.length := ⟨_, rfl⟩
 have d0 : W0.cell? ⟨U, 0, none⟩ = some (.slice an nl cn) := by rw [hnl]; exact u0.cell 0
 have d1 : W0.cell? ⟨U, 1, none⟩ = some (.slice ar rl cr) := by rw [hrl]; exact u0.cell 1
 obtain ⟨cv, hcv⟩ : ∃ cv, cv = checkV next rule := ⟨_, rfl⟩
 have hrowR : ∀ k, k < rl → ∃ b off, ar = some ⟨b, off, none⟩ ∧ W0.cell? ⟨b, off + k, none⟩ = some (.int .i64 (rule.getD k 0)) := fun k hk => by
  have hk' : k < rule.length := by omega
  obtain ⟨b, off, h1, _, h3⟩ := (hR.below hB (Nat.le_refl _)).at hk'
  exact ⟨b, off, h1, by rw [h3]; simp [hk']⟩
 have hrowN : ∀ k, k < nl → ∃ b off, an = some ⟨b, off, none⟩ ∧ W0.cell? ⟨b, off + k, none⟩ = some (.int .i64 (next.getD k 0)) := fun k hk => by
  have hk' : k < next.length := by omega
  obtain ⟨b, off, h1, _, h3⟩ := (hN.below hB (Nat.le_refl _)).at hk'
  exact ⟨b, off, h1, by rw [h3]; simp [hk']⟩
 have memR : ∀ k, k < rl → rule.getD k 0 ∈ rule := fun k hk => by
  have hk' : k < rule.length := by omega
  rw [List.getD_eq_getElem?_getD, List.getElem?_eq_getElem hk']; exact List.getElem_mem hk'
 have memN : ∀ k, k < nl → next.getD k 0 ∈ next := fun k hk => by
  have hk' : k < next.length := by omega
  rw [List.getD_eq_getElem?_getD, List.getElem?_eq_getElem hk']; exact List.getElem_mem hk'
 have V0 : Hid (¬ (1 ≤ rl ∧ rl ≤ 512 ∧ nl = 256 * rl) → cv = 2) := Lib.hid fun h => by rw [hcv]; exact checkV_bad (by rw [← hrl, ← hnl]; exact h)
 have V1 : Hid (∀ k, k < rl → ¬ (-1 ≤ rule.getD k 0 ∧ rule.getD k 0 < 16) → cv = 2) := Lib.hid fun k hk h => by rw [hcv]; exact checkV_rule (memR k hk) h
 have V2 : Hid (∀ k, k < nl → ¬ (-1 ≤ next.getD k 0 ∧ next.getD k 0 < (rl : Int)) → cv = 2) := Lib.hid fun k hk h => by rw [hcv]; exact checkV_next (memN k hk) (by rw [← hrl]; exact h)
 have V3 : Hid ((1 ≤ rl ∧ rl ≤ 512 ∧ nl = 256 * rl) → (∀ k, k < rl → -1 ≤ rule.getD k 0 ∧ rule.getD k 0 < 16) → (∀ k, k < nl → -1 ≤ next.getD k 0 ∧ next.getD k 0 < (rl : Int)) → cv = 0) := Lib.hid fun h0 h1 h2 => by rw [hcv]; exact checkV_good (by rw [← hrl, ← hnl]; exact h0) (by rw [← hrl]; exact h1) (by rw [← hnl, ← hrl]; exact h2)
 rw [← hnl, ← hrl, ← hcv]
 rw [← hnl] at hn
 rw [← hrl] at hr
 have HW0 := Lib.hid hW0
 have HU := Lib.hid hU
 have HRR := Lib.hid hrowR
 have HRN := Lib.hid hrowN
 rw [← hnl, ← hrl] at hW0
 have HW := Lib.hid hW0
 clear hW0 hU hnl hrl hcv memR memN hrowR hrowN u0 HW0 hN hR
 go_enter Tryz.func11, Tryz.ntmps11
 go_upto_region 1 with (fail)
 rw [← HW.out, ← HU.out]
 by_cases g1 : rl < 1
 · have e : cv = 2 := V0.out (by omega)
   subst e
   have g1i : (rl : Int) < 1 := by omega
   go_wp2_with fail
   go_ret
   exact ⟨rfl, hB⟩
 by_cases g2 : 512 < rl
 · have e : cv = 2 := V0.out (by omega)
   subst e
   have g1i : ¬ (rl : Int) < 1 := by omega
   have g2i : (512 : Int) < rl := by omega
   go_wp2_with fail
   go_ret
   exact ⟨rfl, hB⟩
 have g1i : ¬ (rl : Int) < 1 := by omega
 have g2i : ¬ (512 : Int) < rl := by omega
 by_cases g3 : nl = 256 * rl
 · have g3b : ((nl : Int) != 256 * (rl : Int)) = false := by simp; omega
   have G3 := Lib.hid g3
   clear g3 g1 g2
   go_wp2_with fail
   go_loopw [4] (fun i wr => ∃ k : Nat, k ≤ rl ∧ i = .int .i64 k ∧ Hid (∀ j, j < k → -1 ≤ rule.getD j 0 ∧ rule.getD j 0 < 16) ∧ wr = W0) (fun i _ => rl - (intOf i).toNat)
   case atStart => exact ⟨0, Nat.zero_le _, rfl, Lib.hid (fun j hj => by omega), rfl⟩
   case round =>
    obtain ⟨k, hk, rfl, hok, rfl⟩ := hrel
    by_cases hlt : k < rl
    · obtain ⟨b, off, rfl, hcell⟩ := HRR.out k hlt
      obtain ⟨x, hx⟩ : ∃ x, x = rule.getD k 0 := ⟨_, rfl⟩
      rw [← hx] at hcell
      have hk0 : (0 : Int) ≤ (k : Int) := by omega
      have hk1 : (k : Int) < (rl : Int) := by omega
      have HX := Lib.hid hx
      clear hx
      by_cases hbad : x < -1 ∨ 16 ≤ x
      · have e : cv = 2 := V1.out k hlt (by rw [← HX.out]; omega)
        subst e
        rcases hbad with hbad | hbad
        · go_wp2_with fail
          go_ret
          exact ⟨rfl, hB⟩
        · have hb1 : ¬ x < -1 := by omega
          go_wp2_with fail
          go_ret
          exact ⟨rfl, hB⟩
      · have hb1 : ¬ x < -1 := by omega
        have hb2 : ¬ 16 ≤ x := by omega
        have hok' : Hid (∀ j, j < k + 1 → -1 ≤ rule.getD j 0 ∧ rule.getD j 0 < 16) := Lib.hid fun j hj => by
         by_cases e : j = k
         · subst e; rw [← HX.out]; omega
         · exact hok.out j (by omega)
        clear hbad
        go_wp2_with fail
        exact ⟨⟨k + 1, by omega, by simp, hok', trivial⟩, by simp [intOf]; omega⟩
    · obtain rfl : k = rl := by omega
      have hkk : ¬ (k : Int) < (k : Int) := by omega
      clear hlt
      go_wp2_with fail
      go_loopw [5] (fun i wx => ∃ q : Nat, q ≤ nl ∧ i = .int .i64 q ∧ Hid (∀ j, j < q → -1 ≤ next.getD j 0 ∧ next.getD j 0 < (k : Int)) ∧ wx = wr) (fun i _ => nl - (intOf i).toNat)
      case atStart => exact ⟨0, Nat.zero_le _, rfl, Lib.hid (fun j hj => by omega), rfl⟩
      case round =>
       obtain ⟨q, hq, rfl, hok2, rfl⟩ := hrel
       by_cases hlt : q < nl
       · obtain ⟨b, off, rfl, hcell⟩ := HRN.out q hlt
         obtain ⟨x, hx⟩ : ∃ x, x = next.getD q 0 := ⟨_, rfl⟩
         rw [← hx] at hcell
         have hq0 : (0 : Int) ≤ (q : Int) := by omega
         have hq1 : (q : Int) < (nl : Int) := by omega
         have HX := Lib.hid hx
         clear hx
         by_cases hbad : x < -1 ∨ (k : Int) ≤ x
         · have e : cv = 2 := V2.out q hlt (by rw [← HX.out]; omega)
           subst e
           rcases hbad with hbad | hbad
           · go_wp2_with fail
             go_ret
             exact ⟨rfl, hB⟩
           · have hb1 : ¬ x < -1 := by omega
             go_wp2_with fail
             go_ret
             exact ⟨rfl, hB⟩
         · have hb1 : ¬ x < -1 := by omega
           have hb2 : ¬ (k : Int) ≤ x := by omega
           have hok' : Hid (∀ j, j < q + 1 → -1 ≤ next.getD j 0 ∧ next.getD j 0 < (k : Int)) := Lib.hid fun j hj => by
            by_cases e : j = q
            · subst e; rw [← HX.out]; omega
            · exact hok2.out j (by omega)
           clear hbad
           go_wp2_with fail
           exact ⟨⟨q + 1, by omega, by simp, hok', trivial⟩, by simp [intOf]; omega⟩
       · obtain rfl : q = nl := by omega
         have e : cv = 0 := V3.out ⟨by omega, by omega, G3.out⟩ hok.out hok2.out
         subst e
         have hqq : ¬ (q : Int) < (q : Int) := by omega
         go_wp2_with fail
         go_ret
         exact ⟨rfl, hB⟩
 · have e : cv = 2 := V0.out (by omega)
   subst e
   have g3i : ((nl : Int) != 256 * (rl : Int)) = true := by simp; omega
   go_wp2_with fail
   go_ret
   exact ⟨rfl, hB⟩
theorem checkV_two {next rule : List Int} (h : ¬ okT next rule = true) : checkV next rule = 2 := if_neg h
set_option maxRecDepth 100000 in
set_option maxHeartbeats 4000000 in
theorem bad12 (next rule : List Int) (hn : next.length ≤ 1000000) (hr : rule.length ≤ 1000000) (hbad : ¬ okT next rule = true) (an ar : Option Addr) (cn cr : Nat) (w : World) (hN : IRow w an next) (hR : IRow w ar rule) :
  Calls Tryz.prog 12 #[.agg #[.slice an next.length cn, .slice ar rule.length cr]] w fun e w' => e = .returned (.int .i64 0) ∧ Below w.heap.size w w' := by
 obtain ⟨W0, hW0⟩ : ∃ W0, W0 = w.alloc (.cells #[.slice an next.length cn, .slice ar rule.length cr] 28) := ⟨_, rfl⟩
 obtain ⟨U, hU⟩ : ∃ U, U = w.heap.size := ⟨_, rfl⟩
 have hB : Below w.heap.size w W0 := by rw [hW0]; exact (Below.refl w.heap.size w).alloc (Nat.le_refl _) _
 have u0 : Bx W0 U 28 #[.slice an next.length cn, .slice ar rule.length cr] := by rw [hW0, hU]; exact Bx.new w 28 _
 have hck := check_k next rule hn hr an ar cn cr W0 (hN.below hB (Nat.le_refl _)) (hR.below hB (Nat.le_refl _))
 rw [checkV_two hbad] at hck
 have d0 := u0.cell 0
 have d1 := u0.cell 1
 obtain ⟨nl, hnl⟩ : ∃ nl, nl = next.length := ⟨_, rfl⟩
 obtain ⟨rl, hrl⟩ : ∃ rl, rl = rule.length := ⟨_, rfl⟩
 rw [← hnl, ← hrl] at hW0 hck u0
 change W0.cell? _ = some (Value.slice an next.length cn) at d0
 change W0.cell? _ = some (Value.slice ar rule.length cr) at d1
 rw [← hnl] at d0
 rw [← hrl] at d1
 rw [← hnl, ← hrl]
 have HW := Lib.hid hW0
 have HU := Lib.hid hU
 clear hW0 hU hnl hrl hN hR hn hr hbad
 go_enter Tryz.func12, Tryz.ntmps12
 go_upto_region 1 with (fail)
 rw [← HW.out, ← HU.out]
 go_wp2_with (first
  | (go_at_call 10; (with_reducible refine hck.mono ?_); rintro e W2 ⟨rfl, hb2⟩; have hfin := hB.trans (hb2.mono hB.size)))
 all_goals (go_ret; exact ⟨rfl, hfin⟩)
set_option maxRecDepth 100000 in
set_option maxHeartbeats 4000000 in
theorem bad13 (next rule : List Int) (hn : next.length ≤ 1000000) (hr : rule.length ≤ 1000000) (hbad : ¬ okT next rule = true) (an ar : Option Addr) (cn cr : Nat) (w : World) (hN : IRow w an next) (hR : IRow w ar rule) :
  Calls Tryz.prog 13 #[.agg #[.slice an next.length cn, .slice ar rule.length cr]] w fun e w' => e = .returned (.int .i64 0) ∧ Below w.heap.size w w' := by
 obtain ⟨W0, hW0⟩ : ∃ W0, W0 = w.alloc (.cells #[.slice an next.length cn, .slice ar rule.length cr] 28) := ⟨_, rfl⟩
 obtain ⟨U, hU⟩ : ∃ U, U = w.heap.size := ⟨_, rfl⟩
 have hB : Below w.heap.size w W0 := by rw [hW0]; exact (Below.refl w.heap.size w).alloc (Nat.le_refl _) _
 have u0 : Bx W0 U 28 #[.slice an next.length cn, .slice ar rule.length cr] := by rw [hW0, hU]; exact Bx.new w 28 _
 have hck := rchk_k next rule hn hr an ar cn cr W0 (hN.below hB (Nat.le_refl _)) (hR.below hB (Nat.le_refl _))
 rw [checkV_two hbad] at hck
 have d0 := u0.cell 0
 have d1 := u0.cell 1
 obtain ⟨nl, hnl⟩ : ∃ nl, nl = next.length := ⟨_, rfl⟩
 obtain ⟨rl, hrl⟩ : ∃ rl, rl = rule.length := ⟨_, rfl⟩
 rw [← hnl, ← hrl] at hW0 hck u0
 change W0.cell? _ = some (Value.slice an next.length cn) at d0
 change W0.cell? _ = some (Value.slice ar rule.length cr) at d1
 rw [← hnl] at d0
 rw [← hrl] at d1
 rw [← hnl, ← hrl]
 have HW := Lib.hid hW0
 have HU := Lib.hid hU
 clear hW0 hU hnl hrl hN hR hn hr hbad
 go_enter Tryz.func13, Tryz.ntmps13
 go_upto_region 1 with (fail)
 rw [← HW.out, ← HU.out]
 go_wp2_with (first
  | (go_at_call 11; (with_reducible refine hck.mono ?_); rintro e W2 ⟨rfl, hb2⟩; have hfin := hB.trans (hb2.mono hB.size)))
 all_goals (go_ret; exact ⟨rfl, hfin⟩)
set_option maxRecDepth 100000 in
set_option maxHeartbeats 4000000 in
theorem bad14 (next rule : List Int) (hn : next.length ≤ 1000000) (hr : rule.length ≤ 1000000) (hbad : ¬ okT next rule = true) (st : Int) (b : Nat) (an ar : Option Addr) (cn cr : Nat) (w : World) (hN : IRow w an next) (hR : IRow w ar rule) :
  Calls Tryz.prog 14 #[.agg #[.slice an next.length cn, .slice ar rule.length cr], .int .i64 st, .int .u8 (b : Nat)] w fun e w' => e = .returned (.int .i64 (-1)) ∧ Below w.heap.size w w' := by
 obtain ⟨W0, hW0⟩ : ∃ W0, W0 = w.alloc (.cells #[.slice an next.length cn, .slice ar rule.length cr] 28) := ⟨_, rfl⟩
 obtain ⟨U, hU⟩ : ∃ U, U = w.heap.size := ⟨_, rfl⟩
 have hB : Below w.heap.size w W0 := by rw [hW0]; exact (Below.refl w.heap.size w).alloc (Nat.le_refl _) _
 have u0 : Bx W0 U 28 #[.slice an next.length cn, .slice ar rule.length cr] := by rw [hW0, hU]; exact Bx.new w 28 _
 have hck := bad12 next rule hn hr hbad an ar cn cr W0 (hN.below hB (Nat.le_refl _)) (hR.below hB (Nat.le_refl _))
 have d0 := u0.cell 0
 have d1 := u0.cell 1
 obtain ⟨nl, hnl⟩ : ∃ nl, nl = next.length := ⟨_, rfl⟩
 obtain ⟨rl, hrl⟩ : ∃ rl, rl = rule.length := ⟨_, rfl⟩
 rw [← hnl, ← hrl] at hW0 hck u0
 change W0.cell? _ = some (Value.slice an next.length cn) at d0
 change W0.cell? _ = some (Value.slice ar rule.length cr) at d1
 rw [← hnl] at d0
 rw [← hrl] at d1
 rw [← hnl, ← hrl]
 have HW := Lib.hid hW0
 have HU := Lib.hid hU
 clear hW0 hU hnl hrl hN hR hn hr hbad
 go_enter Tryz.func14, Tryz.ntmps14
 go_upto_region 1 with (fail)
 rw [← HW.out, ← HU.out]
 by_cases hst : st < 0
 · go_wp2_with fail
   go_ret
   exact ⟨rfl, hB⟩
 have hst2 : (0 : Int) ≤ st := by omega
 go_wp2_with (first
  | (go_at_call 12; (with_reducible refine hck.mono ?_); rintro e W2 ⟨rfl, hb2⟩; have hfin := hB.trans (hb2.mono hB.size)))
 all_goals (go_ret; exact ⟨rfl, hfin⟩)
set_option maxRecDepth 100000 in
set_option maxHeartbeats 4000000 in
theorem bad15 (next rule : List Int) (hn : next.length ≤ 1000000) (hr : rule.length ≤ 1000000) (hbad : ¬ okT next rule = true) (st : Int) (b : Nat) (an ar : Option Addr) (cn cr : Nat) (w : World) (hN : IRow w an next) (hR : IRow w ar rule) :
  Calls Tryz.prog 15 #[.agg #[.slice an next.length cn, .slice ar rule.length cr], .int .i64 st, .int .u8 (b : Nat)] w fun e w' => e = .returned (.int .i64 (-1)) ∧ Below w.heap.size w w' := by
 obtain ⟨W0, hW0⟩ : ∃ W0, W0 = w.alloc (.cells #[.slice an next.length cn, .slice ar rule.length cr] 28) := ⟨_, rfl⟩
 obtain ⟨U, hU⟩ : ∃ U, U = w.heap.size := ⟨_, rfl⟩
 have hB : Below w.heap.size w W0 := by rw [hW0]; exact (Below.refl w.heap.size w).alloc (Nat.le_refl _) _
 have u0 : Bx W0 U 28 #[.slice an next.length cn, .slice ar rule.length cr] := by rw [hW0, hU]; exact Bx.new w 28 _
 have hck := rchk_k next rule hn hr an ar cn cr W0 (hN.below hB (Nat.le_refl _)) (hR.below hB (Nat.le_refl _))
 rw [checkV_two hbad] at hck
 have d0 := u0.cell 0
 have d1 := u0.cell 1
 obtain ⟨nl, hnl⟩ : ∃ nl, nl = next.length := ⟨_, rfl⟩
 obtain ⟨rl, hrl⟩ : ∃ rl, rl = rule.length := ⟨_, rfl⟩
 rw [← hnl, ← hrl] at hW0 hck u0
 change W0.cell? _ = some (Value.slice an next.length cn) at d0
 change W0.cell? _ = some (Value.slice ar rule.length cr) at d1
 rw [← hnl] at d0
 rw [← hrl] at d1
 rw [← hnl, ← hrl]
 have HW := Lib.hid hW0
 have HU := Lib.hid hU
 clear hW0 hU hnl hrl hN hR hn hr hbad
 go_enter Tryz.func15, Tryz.ntmps15
 go_upto_region 1 with (fail)
 rw [← HW.out, ← HU.out]
 go_wp2_with (first
  | (go_at_call 11; (with_reducible refine hck.mono ?_); rintro e W2 ⟨rfl, hb2⟩; have hfin := hB.trans (hb2.mono hB.size)))
 all_goals (go_ret; exact ⟨rfl, hfin⟩)
set_option maxRecDepth 100000 in
set_option maxHeartbeats 4000000 in
theorem bad16 (next rule : List Int) (hn : next.length ≤ 1000000) (hr : rule.length ≤ 1000000) (hbad : ¬ okT next rule = true) (st : Int) (an ar : Option Addr) (cn cr : Nat) (w : World) (hN : IRow w an next) (hR : IRow w ar rule) :
  Calls Tryz.prog 16 #[.agg #[.slice an next.length cn, .slice ar rule.length cr], .int .i64 st] w fun e w' => e = .returned (.int .i64 (-1)) ∧ Below w.heap.size w w' := by
 obtain ⟨W0, hW0⟩ : ∃ W0, W0 = w.alloc (.cells #[.slice an next.length cn, .slice ar rule.length cr] 28) := ⟨_, rfl⟩
 obtain ⟨U, hU⟩ : ∃ U, U = w.heap.size := ⟨_, rfl⟩
 have hB : Below w.heap.size w W0 := by rw [hW0]; exact (Below.refl w.heap.size w).alloc (Nat.le_refl _) _
 have u0 : Bx W0 U 28 #[.slice an next.length cn, .slice ar rule.length cr] := by rw [hW0, hU]; exact Bx.new w 28 _
 have hck := bad12 next rule hn hr hbad an ar cn cr W0 (hN.below hB (Nat.le_refl _)) (hR.below hB (Nat.le_refl _))
 have d0 := u0.cell 0
 have d1 := u0.cell 1
 obtain ⟨nl, hnl⟩ : ∃ nl, nl = next.length := ⟨_, rfl⟩
 obtain ⟨rl, hrl⟩ : ∃ rl, rl = rule.length := ⟨_, rfl⟩
 rw [← hnl, ← hrl] at hW0 hck u0
 change W0.cell? _ = some (Value.slice an next.length cn) at d0
 change W0.cell? _ = some (Value.slice ar rule.length cr) at d1
 rw [← hnl] at d0
 rw [← hrl] at d1
 rw [← hnl, ← hrl]
 have HW := Lib.hid hW0
 have HU := Lib.hid hU
 clear hW0 hU hnl hrl hN hR hn hr hbad
 go_enter Tryz.func16, Tryz.ntmps16
 go_upto_region 1 with (fail)
 rw [← HW.out, ← HU.out]
 by_cases hst : st < 0
 · go_wp2_with fail
   go_ret
   exact ⟨rfl, hB⟩
 have hst2 : (0 : Int) ≤ st := by omega
 go_wp2_with (first
  | (go_at_call 12; (with_reducible refine hck.mono ?_); rintro e W2 ⟨rfl, hb2⟩; have hfin := hB.trans (hb2.mono hB.size)))
 all_goals (go_ret; exact ⟨rfl, hfin⟩)
set_option maxRecDepth 100000 in
set_option maxHeartbeats 4000000 in
theorem bad17 (next rule : List Int) (hn : next.length ≤ 1000000) (hr : rule.length ≤ 1000000) (hbad : ¬ okT next rule = true) (st : Int) (an ar : Option Addr) (cn cr : Nat) (w : World) (hN : IRow w an next) (hR : IRow w ar rule) :
  Calls Tryz.prog 17 #[.agg #[.slice an next.length cn, .slice ar rule.length cr], .int .i64 st] w fun e w' => e = .returned (.int .i64 (-1)) ∧ Below w.heap.size w w' := by
 obtain ⟨W0, hW0⟩ : ∃ W0, W0 = w.alloc (.cells #[.slice an next.length cn, .slice ar rule.length cr] 28) := ⟨_, rfl⟩
 obtain ⟨U, hU⟩ : ∃ U, U = w.heap.size := ⟨_, rfl⟩
 have hB : Below w.heap.size w W0 := by rw [hW0]; exact (Below.refl w.heap.size w).alloc (Nat.le_refl _) _
 have u0 : Bx W0 U 28 #[.slice an next.length cn, .slice ar rule.length cr] := by rw [hW0, hU]; exact Bx.new w 28 _
 have hck := rchk_k next rule hn hr an ar cn cr W0 (hN.below hB (Nat.le_refl _)) (hR.below hB (Nat.le_refl _))
 rw [checkV_two hbad] at hck
 have d0 := u0.cell 0
 have d1 := u0.cell 1
 obtain ⟨nl, hnl⟩ : ∃ nl, nl = next.length := ⟨_, rfl⟩
 obtain ⟨rl, hrl⟩ : ∃ rl, rl = rule.length := ⟨_, rfl⟩
 rw [← hnl, ← hrl] at hW0 hck u0
 change W0.cell? _ = some (Value.slice an next.length cn) at d0
 change W0.cell? _ = some (Value.slice ar rule.length cr) at d1
 rw [← hnl] at d0
 rw [← hrl] at d1
 rw [← hnl, ← hrl]
 have HW := Lib.hid hW0
 have HU := Lib.hid hU
 clear hW0 hU hnl hrl hN hR hn hr hbad
 go_enter Tryz.func17, Tryz.ntmps17
 go_upto_region 1 with (fail)
 rw [← HW.out, ← HU.out]
 go_wp2_with (first
  | (go_at_call 11; (with_reducible refine hck.mono ?_); rintro e W2 ⟨rfl, hb2⟩; have hfin := hB.trans (hb2.mono hB.size)))
 all_goals (go_ret; exact ⟨rfl, hfin⟩)
set_option maxRecDepth 100000 in
set_option maxHeartbeats 4000000 in
theorem bad18 (next rule : List Int) (hn : next.length ≤ 1000000) (hr : rule.length ≤ 1000000) (hbad : ¬ okT next rule = true) (s : ByteArray) (an ar : Option Addr) (cn cr : Nat) (w : World) (hN : IRow w an next) (hR : IRow w ar rule) :
  Calls Tryz.prog 18 #[.agg #[.slice an next.length cn, .slice ar rule.length cr], .string s] w fun e w' => e = .returned (.int .i64 (-1)) ∧ Below w.heap.size w w' := by
 obtain ⟨W0, hW0⟩ : ∃ W0, W0 = w.alloc (.cells #[.slice an next.length cn, .slice ar rule.length cr] 28) := ⟨_, rfl⟩
 obtain ⟨U, hU⟩ : ∃ U, U = w.heap.size := ⟨_, rfl⟩
 have hB : Below w.heap.size w W0 := by rw [hW0]; exact (Below.refl w.heap.size w).alloc (Nat.le_refl _) _
 have u0 : Bx W0 U 28 #[.slice an next.length cn, .slice ar rule.length cr] := by rw [hW0, hU]; exact Bx.new w 28 _
 have hck := check_k next rule hn hr an ar cn cr W0 (hN.below hB (Nat.le_refl _)) (hR.below hB (Nat.le_refl _))
 rw [checkV_two hbad] at hck
 have d0 := u0.cell 0
 have d1 := u0.cell 1
 obtain ⟨nl, hnl⟩ : ∃ nl, nl = next.length := ⟨_, rfl⟩
 obtain ⟨rl, hrl⟩ : ∃ rl, rl = rule.length := ⟨_, rfl⟩
 rw [← hnl, ← hrl] at hW0 hck u0
 change W0.cell? _ = some (Value.slice an next.length cn) at d0
 change W0.cell? _ = some (Value.slice ar rule.length cr) at d1
 rw [← hnl] at d0
 rw [← hrl] at d1
 rw [← hnl, ← hrl]
 have HW := Lib.hid hW0
 have HU := Lib.hid hU
 clear hW0 hU hnl hrl hN hR hn hr hbad
 go_enter Tryz.func18, Tryz.ntmps18
 go_upto_region 1 with (fail)
 rw [← HW.out, ← HU.out]
 go_wp2_with (first
  | (go_at_call 10; (with_reducible refine hck.mono ?_); rintro e W2 ⟨rfl, hb2⟩; have hfin := hB.trans (hb2.mono hB.size)))
 all_goals (go_ret; exact ⟨rfl, hfin⟩)
set_option maxRecDepth 100000 in
set_option maxHeartbeats 4000000 in
theorem bad19 (next rule : List Int) (hn : next.length ≤ 1000000) (hr : rule.length ≤ 1000000) (hbad : ¬ okT next rule = true) (s : ByteArray) (an ar : Option Addr) (cn cr : Nat) (w : World) (hN : IRow w an next) (hR : IRow w ar rule) :
  Calls Tryz.prog 19 #[.agg #[.slice an next.length cn, .slice ar rule.length cr], .string s] w fun e w' => e = .returned (.int .i64 (-1)) ∧ Below w.heap.size w w' := by
 obtain ⟨W0, hW0⟩ : ∃ W0, W0 = w.alloc (.cells #[.slice an next.length cn, .slice ar rule.length cr] 28) := ⟨_, rfl⟩
 obtain ⟨U, hU⟩ : ∃ U, U = w.heap.size := ⟨_, rfl⟩
 have hB : Below w.heap.size w W0 := by rw [hW0]; exact (Below.refl w.heap.size w).alloc (Nat.le_refl _) _
 have u0 : Bx W0 U 28 #[.slice an next.length cn, .slice ar rule.length cr] := by rw [hW0, hU]; exact Bx.new w 28 _
 have hck := rchk_k next rule hn hr an ar cn cr W0 (hN.below hB (Nat.le_refl _)) (hR.below hB (Nat.le_refl _))
 rw [checkV_two hbad] at hck
 have d0 := u0.cell 0
 have d1 := u0.cell 1
 obtain ⟨nl, hnl⟩ : ∃ nl, nl = next.length := ⟨_, rfl⟩
 obtain ⟨rl, hrl⟩ : ∃ rl, rl = rule.length := ⟨_, rfl⟩
 rw [← hnl, ← hrl] at hW0 hck u0
 change W0.cell? _ = some (Value.slice an next.length cn) at d0
 change W0.cell? _ = some (Value.slice ar rule.length cr) at d1
 rw [← hnl] at d0
 rw [← hrl] at d1
 rw [← hnl, ← hrl]
 have HW := Lib.hid hW0
 have HU := Lib.hid hU
 clear hW0 hU hnl hrl hN hR hn hr hbad
 go_enter Tryz.func19, Tryz.ntmps19
 go_upto_region 1 with (fail)
 rw [← HW.out, ← HU.out]
 go_wp2_with (first
  | (go_at_call 11; (with_reducible refine hck.mono ?_); rintro e W2 ⟨rfl, hb2⟩; have hfin := hB.trans (hb2.mono hB.size)))
 all_goals (go_ret; exact ⟨rfl, hfin⟩)
theorem rchk_ok {next rule : List Int} {an ar : Option Addr} {cn cr : Nat} {w : World} (h : Tab w next rule an ar) :
  Calls Tryz.prog 11 #[.agg #[.slice an next.length cn, .slice ar rule.length cr]] w fun e w' => e = .returned (.int .i64 0) ∧ Below w.heap.size w w' := by
 have := rchk_k next rule (by have := h.nl; have := h.r2; omega) (by have := h.r2; omega) an ar cn cr w h.hN h.hR
 rwa [show checkV next rule = 0 from if_pos h.ok] at this
set_option maxHeartbeats 4000000 in
theorem rlen_k {next rule : List Int} {an ar : Option Addr} {cn cr : Nat} {w : World} (h : Tab w next rule an ar) :
  Calls Tryz.prog 13 #[.agg #[.slice an next.length cn, .slice ar rule.length cr]] w fun e w' => e = .returned (.int .i64 rule.length) ∧ Below w.heap.size w w' := by
 have hB := (Below.refl w.heap.size w).alloc (Nat.le_refl _) (.cells #[.slice an next.length cn, .slice ar rule.length cr] 28)
 have hT := h.below hB (Nat.le_refl _)
 have kc := rchk_ok (cn := cn) (cr := cr) hT
 clear h hT
 generalize next.length = N at *
 generalize rule.length = R at *
 go_enter Tryz.func13, Tryz.ntmps13
 go_wp2_with (go_at_call 11; ((with_reducible refine kc.mono ?_); rintro e Wd ⟨rfl, hBd⟩; obtain ⟨hc, hf⟩ := bcell hBd))
 go_ret
 exact ⟨rfl, hB.trans (hBd.mono (by simp))⟩
set_option maxHeartbeats 4000000 in
theorem rrule_k {next rule : List Int} {an ar : Option Addr} {cn cr : Nat} {w : World} (h : Tab w next rule an ar) (st : Int) :
  Calls Tryz.prog 17 #[.agg #[.slice an next.length cn, .slice ar rule.length cr], .int .i64 st] w fun e w' => e = .returned (.int .i64 (ruleV rule st)) ∧ Below w.heap.size w w' := by
 have hB := (Below.refl w.heap.size w).alloc (Nat.le_refl _) (.cells #[.slice an next.length cn, .slice ar rule.length cr] 28)
 have hT := h.below hB (Nat.le_refl _)
 have kc := rchk_ok (cn := cn) (cr := cr) hT
 by_cases h0 : 0 ≤ st ∧ st < rule.length
 · obtain ⟨k, rfl⟩ : ∃ k : Nat, st = k := ⟨st.toNat, by omega⟩
   have hk : k < rule.length := by omega
   have HV : Hid (ruleV rule k = rule[k]) := Lib.hid (by rw [ruleV, if_pos h0]; simp [hk])
   obtain ⟨b, off, rfl, hb, hcell⟩ := hT.hR.at hk
   simp only [World.size_alloc] at hb
   generalize rule[k] = x at *
   generalize ruleV rule k = rv at *
   have hk' : (k : Int) < (rule.length : Int) := by omega
   have hk0 : (0 : Int) ≤ (k : Int) := by omega
   clear h hT h0
   generalize next.length = N at *
   generalize rule.length = R at *
   go_enter Tryz.func17, Tryz.ntmps17
   go_wp2_with (go_at_call 11; ((with_reducible refine kc.mono ?_); rintro e Wd ⟨rfl, hBd⟩; obtain ⟨hc, hf⟩ := bcell hBd; have hcell' := (hBd.cell (p := ⟨b, off + k, none⟩) (by simp; omega)).trans hcell))
   go_ret
   exact ⟨by rw [HV.out]; rfl, hB.trans (hBd.mono (by simp))⟩
 · have HV : Hid (ruleV rule st = -1) := Lib.hid (if_neg h0)
   generalize ruleV rule st = rv at *
   clear h hT
   generalize next.length = N at *
   generalize rule.length = R at *
   by_cases h1 : 0 ≤ st
   · have h2 : (R : Int) ≤ st := by omega
     clear h0
     go_enter Tryz.func17, Tryz.ntmps17
     go_wp2_with (go_at_call 11; ((with_reducible refine kc.mono ?_); rintro e Wd ⟨rfl, hBd⟩; obtain ⟨hc, hf⟩ := bcell hBd))
     go_ret
     exact ⟨by rw [HV.out]; rfl, hB.trans (hBd.mono (by simp))⟩
   · have h2 : st < 0 := by omega
     clear h0 h1
     go_enter Tryz.func17, Tryz.ntmps17
     go_wp2_with (go_at_call 11; ((with_reducible refine kc.mono ?_); rintro e Wd ⟨rfl, hBd⟩; obtain ⟨hc, hf⟩ := bcell hBd))
     go_ret
     exact ⟨by rw [HV.out]; rfl, hB.trans (hBd.mono (by simp))⟩
set_option maxRecDepth 100000 in
set_option maxHeartbeats 4000000 in
theorem rstep_k {next rule : List Int} {an ar : Option Addr} {cn cr : Nat} {w : World} (h : Tab w next rule an ar) (st : Int) (c : Nat) (hc256 : c < 256) :
  Calls Tryz.prog 15 #[.agg #[.slice an next.length cn, .slice ar rule.length cr], .int .i64 st, .int .u8 c] w fun e w' => e = .returned (.int .i64 (stepV next rule.length st c)) ∧ Below w.heap.size w w' := by
 have hB := (Below.refl w.heap.size w).alloc (Nat.le_refl _) (.cells #[.slice an next.length cn, .slice ar rule.length cr] 28)
 have hT := h.below hB (Nat.le_refl _)
 have kc := rchk_ok (cn := cn) (cr := cr) hT
 by_cases h0 : 0 ≤ st ∧ st < rule.length
 · obtain ⟨k, rfl⟩ : ∃ k : Nat, st = k := ⟨st.toNat, by omega⟩
   have hk : 256 * k + c < next.length := by have := h.nl; omega
   have HV : Hid (stepV next rule.length k c = next[256 * k + c]) := Lib.hid (by rw [stepV, if_pos h0]; simp [hk])
   obtain ⟨b, off, rfl, hb, hcell⟩ := hT.hN.at hk
   simp only [World.size_alloc] at hb
   generalize next[256 * k + c] = x at *
   generalize stepV next rule.length k c = rv at *
   have hk' : (k : Int) < (rule.length : Int) := by omega
   have hk5 : (k : Int) < 512 := by have := h.r2; omega
   have hk0 : (0 : Int) ≤ (k : Int) := by omega
   have hc0 : (0 : Int) ≤ (c : Int) := by omega
   have hc1 : (c : Int) < 256 := by omega
   have hk2 : 256 * (k : Int) + (c : Int) < (next.length : Int) := by omega
   have htn : (256 * (k : Int) + (c : Int)).toNat = 256 * k + c := by omega
   clear h hT h0
   generalize next.length = N at *
   generalize rule.length = R at *
   go_enter Tryz.func15, Tryz.ntmps15
   go_wp2_with (go_at_call 11; ((with_reducible refine kc.mono ?_); rintro e Wd ⟨rfl, hBd⟩; obtain ⟨hc, hf⟩ := bcell hBd; have hcell' := (hBd.cell (p := ⟨b, off + (256 * k + c), none⟩) (by simp; omega)).trans hcell))
   go_ret
   exact ⟨by rw [HV.out]; rfl, hB.trans (hBd.mono (by simp))⟩
 · have HV : Hid (stepV next rule.length st c = -1) := Lib.hid (if_neg h0)
   generalize stepV next rule.length st c = rv at *
   clear h hT
   generalize next.length = N at *
   generalize rule.length = R at *
   by_cases h1 : 0 ≤ st
   · have h2 : (R : Int) ≤ st := by omega
     clear h0
     go_enter Tryz.func15, Tryz.ntmps15
     go_wp2_with (go_at_call 11; ((with_reducible refine kc.mono ?_); rintro e Wd ⟨rfl, hBd⟩; obtain ⟨hc, hf⟩ := bcell hBd))
     go_ret
     exact ⟨by rw [HV.out]; rfl, hB.trans (hBd.mono (by simp))⟩
   · have h2 : st < 0 := by omega
     clear h0 h1
     go_enter Tryz.func15, Tryz.ntmps15
     go_wp2_with (go_at_call 11; ((with_reducible refine kc.mono ?_); rintro e Wd ⟨rfl, hBd⟩; obtain ⟨hc, hf⟩ := bcell hBd))
     go_ret
     exact ⟨by rw [HV.out]; rfl, hB.trans (hBd.mono (by simp))⟩
end Go.Proofs.YtaadkdmbhckdeaaGreatDoor
