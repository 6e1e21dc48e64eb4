/- Dfa: viewportref03.Go 29, walked. -/
import Derived.Test.YtaadkdmbhckdeaaGreatDoorN22
namespace Go.Proofs.YtaadkdmbhckdeaaGreatDoor
open Go Go.Proofs Go.RowKit Go.Shelf
attribute [local go_sem] Oper.semAt_some
theorem shr_and (a r : Nat) (ha : a < 18446744073709551616) (hr : r < 64) : (bits .and .u64 ((a : Int) / 2 ^ r) 1 == 1) = a.testBit r := by
 have e : ((a : Int) / 2 ^ r) = ((a >>> r : Nat) : Int) := by rw [Nat.shiftRight_eq_div_pow]; simp
 have hlt : a >>> r < 18446744073709551616 := Nat.lt_of_le_of_lt (by rw [Nat.shiftRight_eq_div_pow]; exact Nat.div_le_self _ _) ha
 rw [e, show (1 : Int) = ((1 : Nat) : Int) from rfl, bits_and_u64_nat _ 1 hlt (by decide), Nat.and_one_is_mod, Nat.testBit_eq_decide_div_mod_eq, ← Nat.shiftRight_eq_div_pow, Bool.eq_iff_iff, beq_iff_eq, decide_eq_true_eq]
 exact Int.natCast_inj
set_option maxHeartbeats 1000000 in
theorem rhas_calls (a0 a1 a2 a3 b : Nat) (hw : wlt a0 a1 a2 a3) (hb : b < 256) (w : World) :
  Calls Tryz.prog 50 #[.agg #[.int .u64 a0, .int .u64 a1, .int .u64 a2, .int .u64 a3], .int .u8 b] w fun e w' => e = .returned (.bool (hasB a0 a1 a2 a3 b)) ∧ Below w.heap.size w w' := by
 obtain ⟨r, hr⟩ : ∃ r : Nat, r = b % 64 := ⟨_, rfl⟩
 have hr64 : r < 64 := by omega
 have hrm : (b : Int) % 64 = (r : Nat) := by omega
 have l0 : a0 < 18446744073709551616 := hw 0
 have l1 : a1 < 18446744073709551616 := hw 1
 have l2 : a2 < 18446744073709551616 := hw 2
 have l3 : a3 < 18446744073709551616 := hw 3
 have h4 : b / 64 = 0 ∨ b / 64 = 1 ∨ b / 64 = 2 ∨ b / 64 = 3 := by omega
 have hB : Below w.heap.size w (w.alloc (.cells #[.int .u64 a0, .int .u64 a1, .int .u64 a2, .int .u64 a3] 55)) := (Below.refl _ w).alloc (Nat.le_refl _) _
 have HR := Lib.hid hr
 clear hr
 obtain hq | hq | hq | hq := h4
 · have hqi : (b : Int) / 64 = 0 := by omega
   have HH := Lib.hid (show hasB a0 a1 a2 a3 b = a0.testBit r by unfold hasB; rw [hq, HR.out]; rfl)
   clear hq
   have ho := shr_and _ r l0 hr64
   go_enter Tryz.func50, Tryz.ntmps50
   go_wp2
   go_ret
   exact ⟨by rw [HH.out]; rfl, hB⟩
 · have hqi : (b : Int) / 64 = 1 := by omega
   have HH := Lib.hid (show hasB a0 a1 a2 a3 b = a1.testBit r by unfold hasB; rw [hq, HR.out]; rfl)
   clear hq
   have ho := shr_and _ r l1 hr64
   go_enter Tryz.func50, Tryz.ntmps50
   go_wp2
   go_ret
   exact ⟨by rw [HH.out]; rfl, hB⟩
 · have hqi : (b : Int) / 64 = 2 := by omega
   have HH := Lib.hid (show hasB a0 a1 a2 a3 b = a2.testBit r by unfold hasB; rw [hq, HR.out]; rfl)
   clear hq
   have ho := shr_and _ r l2 hr64
   go_enter Tryz.func50, Tryz.ntmps50
   go_wp2
   go_ret
   exact ⟨by rw [HH.out]; rfl, hB⟩
 · have hqi : (b : Int) / 64 = 3 := by omega
   have HH := Lib.hid (show hasB a0 a1 a2 a3 b = a3.testBit r by unfold hasB; rw [hq, HR.out]; rfl)
   clear hq
   have ho := shr_and _ r l3 hr64
   go_enter Tryz.func50, Tryz.ntmps50
   go_wp2
   go_ret
   exact ⟨by rw [HH.out]; rfl, hB⟩
open Go Go.Proofs Go.RowKit
set_option maxRecDepth 100000 in
set_option maxHeartbeats 4000000 in
theorem ends30_k (N : Nf) (ac an ar : Option Addr) (cc cn cr : Nat) (S : List Int) (hS : S.length ≤ 1000000) (hin : ∀ q ∈ S, 0 ≤ q ∧ q < (N.ru.length : Int)) (aS : Option Addr) (cs : Nat) (w : World) (h : NfAt w N ac an ar) (hI : IRow w aS S) :
  Calls Tryz.prog 32 #[.agg #[.slice ac N.cl.length cc, .slice an N.nx.length cn, .slice ar N.ru.length cr], .slice aS S.length cs] w fun e w' => e = .returned (.int .i64 (ruleF N.ru S)) ∧ Below w.heap.size w w' := by
 obtain ⟨wo, hwo⟩ : ∃ wo, wo = w.alloc (.cells #[.slice ac N.cl.length cc, .slice an N.nx.length cn, .slice ar N.ru.length cr] 26) := ⟨_, rfl⟩
 have hb0 : Below w.heap.size w wo := by rw [hwo]; exact (Below.refl _ w).alloc (Nat.le_refl _) _
 obtain ⟨U, hU⟩ : ∃ U, U = w.heap.size := ⟨_, rfl⟩
 have u2 : wo.cell? ⟨U, 2, none⟩ = some (.slice ar N.ru.length cr) := by rw [hwo, hU]; simp
 have hUs : U < wo.heap.size := by rw [hwo, hU]; simp
 have hI' := hI.below hb0 (Nat.le_refl _)
 have hR' := h.r.below hb0 (Nat.le_refl _)
 have HW := Lib.hid hwo
 have HB := Lib.hid hb0
 have HU := Lib.hid hU
 have HIN := Lib.hid hin
 obtain ⟨m, hm⟩ : ∃ m, m = S.length := ⟨_, rfl⟩
 obtain ⟨r, hr⟩ : ∃ r, r = N.ru.length := ⟨_, rfl⟩
 rw [← hr] at u2
 have HS := Lib.hid hm
 have HR := Lib.hid hr
 rw [← hm, ← hr]
 rw [← hm] at hS
 clear hwo hb0 hU hI h hm hr hin
 go_enter Tryz.func32, Tryz.ntmps32
 go_upto_region 1 with (fail)
 have e0 := HW.out
 rw [← HR.out] at e0
 rw [← e0, ← HU.out]
 clear e0
 go_wp2_with fail
 go_loopw [5, 6] (fun t5 i wr => ∃ k : Nat, k ≤ m ∧ i = .int .i64 k ∧ t5 = .int .i64 ((S.take k).foldl (ruleK N.ru) (-1)) ∧ Below wo.heap.size wo wr)
  (fun _ i _ => m - (intOf i).toNat)
 case atStart => exact ⟨0, Nat.zero_le _, rfl, rfl, Below.refl _ _⟩
 case round =>
  obtain ⟨k, hk, rfl, rfl, hbk⟩ := hrel
  by_cases hkl : k < m
  · obtain ⟨q, hq⟩ : ∃ q, S[k]? = some q := ⟨_, List.getElem?_eq_getElem (by rw [← HS.out]; exact hkl)⟩
    obtain ⟨hq0, hq1⟩ := HIN.out q (List.mem_of_getElem? hq)
    obtain ⟨Bs, os, rfl, hBs, hSc⟩ := hI' (by intro e; rw [e] at hq; cases hq)
    have hkS : k < S.length := by rw [← HS.out]; exact hkl
    have d0 := (hbk.cell (p := ⟨Bs, os + k, none⟩) hBs).trans (hSc k hkS)
    have hqe : S[k] = q := by obtain ⟨_, e⟩ := List.getElem?_eq_some_iff.1 hq; exact e
    rw [hqe] at d0
    have HF := Lib.hid (ruleF_take N.ru S k q hq)
    obtain ⟨out, hout⟩ : ∃ o, o = (S.take k).foldl (ruleK N.ru) (-1) := ⟨_, rfl⟩
    rw [← hout] at HF ⊢
    have hk0 : (0 : Int) ≤ (k : Int) := by omega
    have hk1 : (k : Int) < (m : Int) := by omega
    have hkt : (k : Int).toNat = k := by omega
    clear hq hSc hqe hout
    obtain ⟨p, rfl⟩ : ∃ p : Nat, q = (p : Int) := ⟨q.toNat, by omega⟩
    have hpr : p < N.ru.length := by omega
    obtain ⟨Br, or', rfl, hBr, hRc⟩ := hR' (by intro e; rw [e] at hpr; simp at hpr)
    have d1 := (hbk.cell (p := ⟨Br, or' + p, none⟩) hBr).trans (hRc p hpr)
    obtain ⟨z, hz⟩ : ∃ z, z = N.ru[p] := ⟨_, rfl⟩
    rw [← hz] at d1
    have hgd : N.ru.getD p (-1) = z := by rw [List.getD_eq_getElem?_getD, List.getElem?_eq_getElem hpr, hz]; rfl
    have HF2 : Hid ((S.take (k + 1)).foldl (ruleK N.ru) (-1) = if 0 ≤ z ∧ (out < 0 ∨ z < out) then z else out) := Lib.hid (by
     rw [HF.out]
     unfold ruleK
     rw [if_pos ⟨by omega, by omega⟩, Int.toNat_natCast, hgd])
    have hBsx : Bs < wr.heap.size := Nat.lt_of_lt_of_le hBs hbk.size
    have hBrx : Br < wr.heap.size := Nat.lt_of_lt_of_le hBr hbk.size
    have hUx : U < wr.heap.size := Nat.lt_of_lt_of_le hUs hbk.size
    have u2x := (hbk.cell (p := ⟨U, 2, none⟩) hUs).trans u2
    have A0 := AX.cell_all d0 hBsx
    have A1 := AX.cell_all u2x hUx
    have A2 := AX.cell_all d1 hBrx
    have n2 : (p : Int) < (r : Int) := by have := HR.out; omega
    have n3 : (p : Int).toNat = p := by omega
    have n4 : (0 : Int) ≤ (p : Int) := by omega
    clear hz hgd hRc hpr hq0 hq1 d0 d1 u2x
    have fin : ∀ (v : Int), (S.take (k + 1)).foldl (ruleK N.ru) (-1) = v → True := fun _ _ => trivial
    clear fin
    go_upto_region 5 with (fail)
    refine AX.region_below (by kernel_rfl) (by kernel_rfl) ?_
    repeat (go_big_quiet_step (fail))
    refine wpQuiet_nil ?_
    rintro W4 ⟨p4, rfl⟩
    obtain ⟨W4, hb4⟩ := p4
    change Below _ _ _ at hb4
    have B0 := fun p : AX.BW W4 => A0 ⟨p.W, hb4.trans (p.h.mono hb4.size)⟩
    have B1 := fun p : AX.BW W4 => A1 ⟨p.W, hb4.trans (p.h.mono hb4.size)⟩
    have B2 := fun p : AX.BW W4 => A2 ⟨p.W, hb4.trans (p.h.mono hb4.size)⟩
    change ∀ p : AX.BW W4, p.W.cell? _ = _ at B0 B1 B2
    clear A0 A1 A2
    go_upto_region 6 with (fail)
    refine AX.region_below (by kernel_rfl) (by kernel_rfl) ?_
    repeat (go_big_quiet_step (fail))
    refine wpQuiet_nil ?_
    rintro W5 ⟨p5, rfl⟩
    obtain ⟨W5, hb5⟩ := p5
    change Below _ _ _ at hb5
    have hbz := hbk.trans ((hb4.trans (hb5.mono hb4.size)).mono hbk.size)
    clear B0 B1 B2
    by_cases z0 : 0 ≤ z
    · by_cases o0 : out < 0
      · have HV := Lib.hid (HF2.out.trans (if_pos ⟨z0, .inl o0⟩))
        go_wp2_with fail
        exact ⟨⟨k + 1, by omega, by simp, by rw [HV.out], hbz⟩, by simp [intOf]; omega⟩
      · by_cases zo : z < out
        · have HV := Lib.hid (HF2.out.trans (if_pos ⟨z0, .inr zo⟩))
          go_wp2_with fail
          exact ⟨⟨k + 1, by omega, by simp, by rw [HV.out], hbz⟩, by simp [intOf]; omega⟩
        · have HV := Lib.hid (HF2.out.trans (if_neg (by omega)))
          go_wp2_with fail
          exact ⟨⟨k + 1, by omega, by simp, by rw [HV.out], hbz⟩, by simp [intOf]; omega⟩
    · have HV := Lib.hid (HF2.out.trans (if_neg (by omega)))
      go_wp2_with fail
      exact ⟨⟨k + 1, by omega, by simp, by rw [HV.out], hbz⟩, by simp [intOf]; omega⟩
  · obtain rfl : k = m := by omega
    have hv : (S.take k).foldl (ruleK N.ru) (-1) = ruleF N.ru S := by rw [HS.out, List.take_length]; rfl
    rw [hv]
    have HB2 := HB.out.trans (hbk.mono HB.out.size)
    clear hv
    go_wp2_with fail
    go_ret
    exact ⟨rfl, HB2⟩
def hitL (n : Nat) (ks : List Int) : List Bool := (List.range n).map fun t : Nat => decide ((t : Int) ∈ ks)
def cbs (l : List Bool) : Array Value := (l.map Value.bool).toArray
theorem hitL_len (n : Nat) (ks : List Int) : (hitL n ks).length = n := by simp [hitL]
theorem hitL_at (n : Nat) (ks : List Int) (t : Nat) (h : t < n) : (cbs (hitL n ks))[t]? = some (.bool (decide ((t : Int) ∈ ks))) := by simp [cbs, hitL, h]
theorem hitL_set (n : Nat) (ks : List Int) (t : Nat) : (cbs (hitL n ks)).setIfInBounds t (.bool true) = cbs (hitL n (addK ks t)) := by
 apply Array.ext'
 refine List.ext_getElem? fun j => ?_
 unfold cbs
 simp only [Array.toList_setIfInBounds, List.toList_toArray, List.getElem?_set, List.getElem?_map, List.length_map]
 by_cases hj : j < n
 · have e1 : ∀ ks, (hitL n ks)[j]? = some (decide ((j : Int) ∈ ks)) := fun ks => by simp [hitL, hj]
   rw [e1, e1, hitL_len]
   by_cases e : t = j
   · subst e
     rw [if_pos rfl, if_pos hj]
     simp [mem_addK]
   · rw [if_neg e]
     have : ((j : Int) ∈ addK ks t) ↔ ((j : Int) ∈ ks) := by
      rw [mem_addK]
      constructor
      · rintro (h | h)
        · exact h
        · omega
      · exact .inl
     simp [this]
 · have e1 : ∀ ks, (hitL n ks)[j]? = none := fun ks => by simp [hitL]; omega
   rw [e1, e1, hitL_len]
   by_cases e : t = j
   · subst e
     rw [if_pos rfl, if_neg hj]; rfl
   · rw [if_neg e]
def outL (n : Nat) (ks : List Int) : List Int := ((List.range n).filter fun t : Nat => decide ((t : Int) ∈ ks)).map fun t : Nat => (t : Int)
theorem outL_succ (n : Nat) (ks : List Int) : outL (n + 1) ks = outL n ks ++ if (n : Int) ∈ ks then [(n : Int)] else [] := by
 unfold outL
 rw [List.range_succ, List.filter_append, List.map_append]
 congr 1
 by_cases h : (n : Int) ∈ ks <;> simp [h]
theorem outL_len (n : Nat) (ks : List Int) : (outL n ks).length ≤ n := by
 unfold outL
 rw [List.length_map]
 exact Nat.le_trans (List.length_filter_le _ _) (by simp)
theorem outL_step (N : Nf) (S : List Int) (b : Nat) : outL N.cl.length (setKf N.nx (fun t => hasN N t.toNat b) S []) = stepN N S b := by
 unfold outL stepN stepF
 congr 1
 refine List.filter_congr fun t _ => ?_
 rw [Bool.eq_iff_iff, decide_eq_true_eq, mem_setKf]
 simp only [List.not_mem_nil, false_or, Int.toNat_natCast, Bool.and_eq_true, List.any_eq_true, List.contains_iff_mem]
theorem info4' : (Tryz.prog.info? 4).map (fun i => (i.zero, i.size, i.bytes)) = some (some (.bool false), 1, 1) := by kernel_rfl
theorem makeB (n : Nat) (hn : n ≤ 2000) (w : World) : (Instr.makeSlice 82 (.int .i64 n) (.int .i64 n)).run Tryz.prog w = .ok (.slice (some ⟨w.heap.size, 0, none⟩) n n) (w.alloc (.cells (cbs (hitL n [])) 4)) := by
 obtain ⟨ti, hi, hz0, hz1, hz2⟩ := info_parts info4'
 have h := run_makeSlice (P := Tryz.prog) (w := w) 82 4 ti (.bool false) Tryz.underlying82 hi hz0 .i64 .i64 (n : Int) (n : Int) (by omega) (Int.le_refl _) (by rw [hz1]; simp; omega) (by rw [hz2]; omega) (by omega)
 rw [h]
 have e : madeCells (Value.bool false).cells ((n : Int).toNat * ti.size) = cbs (hitL n []) := by
  rw [hz1, Int.toNat_natCast, Nat.mul_one]
  refine Array.toList_inj.1 ?_
  show (madeCells #[Value.bool false] n).toList = _
  rw [toList_madeCells_one]
  unfold cbs hitL
  simp only [List.map_map, List.toList_toArray]
  refine List.ext_getElem (by simp) fun i h1 h2 => by simp
 rw [e, Int.toNat_natCast]
theorem wpList_make {ops : Array Oper} {rest : List Oper} {a : Act} {Q : Exit → Act → World → Prop} {d : Option Tmp} {t : TypeId} {x y : Operand} {ty : TypeId} {pos : String} {after : Array Edge} {w w' : World} {v1 v2 v : Value}
  (h1 : a.eval x = v1) (h2 : a.eval y = v2) (h : (Instr.makeSlice t v1 v2).run Tryz.prog w = .ok v w') (hK : wpList Tryz.prog ops Q rest (a.put d v) w') :
  wpList Tryz.prog ops Q ({ dst := d, op := .makeSlice t x y, type := ty, pos := pos, after := after, guard := none } :: rest) a w := by
 refine wpList_plain rfl fun K hK' => ?_
 unfold Oper.wp
 simp only [execOp, h1, h2]
 rw [show (do let x ← Instr.makeSlice t v1 v2; pure (Next.value x) : Sem Next).run Tryz.prog w = .ok (.value v) w' by simp [h]]
 exact hK' _ _ hK
theorem mk_id {P : Program} {ops : Array Oper} {Q : Exit → Act → World → Prop} {a : Act} {w : World} {rest : List Oper} {d : Option Tmp} {t : TypeId} {x y : Operand} {ty : TypeId} {pos : String} {after : Array Edge}
 (h : wpList P ops Q ({ dst := d, op := .makeSlice t x y, type := ty, pos := pos, after := after, guard := none } :: rest) a w) :
 wpList P ops Q ({ dst := d, op := .makeSlice t x y, type := ty, pos := pos, after := after, guard := none } :: rest) a w := h
theorem append_i {ops : Array Oper} {rest : List Oper} {o : Oper} {a : Act} {Q : Exit → Act → World → Prop} (W : World) (base : Nat) (v : Value) (pre l : List Int) (hgd : o.guard = none) (s y : Operand)
  (ho : o.op = .call { callee := .builtin .append, args := #[s, y], argTypes := #[24, 24] }) (hs : a.eval s = v) (hown : W.ownsRow base 3 1 v pre.length (pre.map (Value.int .i64))) (B c m : Nat) (hm : m = l.length) (hx : a.eval y = .slice (some ⟨B, 0, none⟩) m c)
  (hc : ∀ j (h : j < l.length), W.cell? ⟨B, j, none⟩ = some (.int .i64 l[j])) (hl : pre.length ≤ 1000000) (hl2 : l.length ≤ 1000000) (hb : base ≤ W.heap.size)
  (h : ∀ v' w', w'.ownsRow base 3 1 v' (pre.length + l.length) (pre.map (Value.int .i64) ++ l.map (Value.int .i64)) → W.grownBy w' v.ownBlock → (v'.ownBlock = v.ownBlock ∨ v'.ownBlock = some W.heap.size) → wpList Tryz.prog ops Q rest (a.put o.dst v') w') : wpList Tryz.prog ops Q (o :: rest) a W := by
 subst hm
 obtain ⟨ti, hi, hz0, hz1, hz2⟩ := info_parts info3'
 refine wpList_append_own_at (P := Tryz.prog) (w := W) hgd s y 24 ho base 3 ti (.int .i64 0) 1 8 Tryz.underlying24 hi hz0 hz1 hz2 rfl (by decide) v pre.length _ hs hown ⟨B, 0, none⟩ l.length c (l.map (Value.int .i64)) hx (by simp)
  (fun j u hj => by
   rw [addr_add, Nat.zero_add]
   obtain ⟨hj', rfl⟩ := List.getElem?_eq_some_iff.1 hj
   rw [List.getElem_map]
   exact hc j (by simpa using hj')) (fun u hu => by
   obtain ⟨k, _, rfl⟩ := List.mem_map.1 hu
   rfl) (by unfold maxLen; omega) (by omega) hb ?_
 intro v' w' h1 h2 _ h4
 exact h v' w' h1 h2 h4
theorem sz4 : AX.sizeT Tryz.prog 4 = some 1 := by kernel_rfl
set_option maxRecDepth 100000 in
set_option maxHeartbeats 4000000 in
theorem go29_k (N : Nf) (o : NfOk N) (ac an ar : Option Addr) (cc cn cr : Nat) (S : List Int) (hS : S.length ≤ 1000000) (hin : ∀ q ∈ S, 0 ≤ q ∧ q < (N.cl.length : Int)) (aS : Option Addr) (cs : Nat) (b : Nat) (hb : b < 256) (w : World) (h : NfAt w N ac an ar) (hI : IRow w aS S) :
  Calls Tryz.prog 33 #[.agg #[.slice ac N.cl.length cc, .slice an N.nx.length cn, .slice ar N.ru.length cr], .slice aS S.length cs, .int .u8 b] w fun e w' => ∃ v, e = .returned v ∧ w'.ownsRow w.heap.size 3 1 v (stepN N S b).length ((stepN N S b).map (Value.int .i64)) ∧ Below w.heap.size w w' := by
 obtain ⟨U, hU⟩ : ∃ U, U = w.heap.size := ⟨_, rfl⟩
 obtain ⟨m, hm⟩ : ∃ m, m = S.length := ⟨_, rfl⟩
 obtain ⟨n, hn⟩ : ∃ n, n = N.cl.length := ⟨_, rfl⟩
 obtain ⟨nn, hnn⟩ : ∃ nn, nn = N.nx.length := ⟨_, rfl⟩
 obtain ⟨wb, hwb⟩ : ∃ wb, wb = w.alloc (.cells #[.slice ac n cc, .slice an nn cn, .slice ar N.ru.length cr] 26) := ⟨_, rfl⟩
 obtain ⟨wo, hwo⟩ : ∃ wo, wo = wb.alloc (.cells (cbs (hitL n [])) 4) := ⟨_, rfl⟩
 have hbb : Below U w wb := by rw [hwb, hU]; exact (Below.refl _ w).alloc (Nat.le_refl _) _
 have hzb : wb.heap.size = U + 1 := by rw [hwb, hU]; simp
 have hb0 : Below U w wo := by rw [hwo]; exact hbb.alloc (by omega) _
 have hzo : wo.heap.size = U + 2 := by rw [hwo]; simp [hzb]
 have ubx : Bx wo U 26 #[.slice ac n cc, .slice an nn cn, .slice ar N.ru.length cr] := by
  have := Bx.new w 26 #[.slice ac n cc, .slice an nn cn, .slice ar N.ru.length cr]
  rw [← hwb, ← hU] at this
  rw [hwo]; exact this.alloc _
 have hH0 : Bx wo (U + 1) 4 (cbs (hitL n [])) := by
  have := Bx.new wb 4 (cbs (hitL n []))
  rw [hzb] at this
  rw [hwo]; exact this
 have hmk := makeB n (by rw [hn]; have := o.most; omega) wb
 rw [hzb] at hmk
 have HP := Lib.hid (outL_step N S b)
 have HO := Lib.hid o
 have HU := Lib.hid hU
 have HWb := Lib.hid hwb
 have HWo := Lib.hid hwo
 have HB := Lib.hid hb0
 have HIN := Lib.hid hin
 have HMm := Lib.hid hm
 have HNn := Lib.hid hn
 have HNN := Lib.hid hnn
 have HEQ : Hid (nn = n) := Lib.hid (by rw [hnn, hn]; exact o.nx)
 have hn2 : n ≤ 1024 := by rw [hn]; exact o.most
 rw [← hm] at hS
 rw [← hm, ← hn, ← hnn]
 have HC := Lib.hid h.c
 have HNx := Lib.hid h.n
 have HI := Lib.hid hI
 have ub0 : wb.cell? ⟨U, 0, none⟩ = some (.slice ac n cc) := by rw [hwb, hU]; simp
 clear hwb hwo hU hb0 hbb h hI hin hm hn hnn o hzb
 go_enter Tryz.func33, Tryz.ntmps33
 go_upto_region 1 with (fail)
 rw [← HWb.out, ← HU.out]
 go_wp2_with ((with_reducible refine mk_id ?_); refine wpList_make rfl rfl hmk ?_)
 rw [← HWo.out]
 go_loopw [8] (fun i wr => ∃ k : Nat, k ≤ m ∧ i = .int .i64 k ∧ Bx wr (U + 1) 4 (cbs (hitL n (setKf N.nx (fun t => hasN N t.toNat b) (S.take k) []))) ∧ Below (U + 1) wo wr)
  (fun i _ => m - (intOf i).toNat)
 case atStart => exact ⟨0, Nat.zero_le _, rfl, hH0, Below.refl _ _⟩
 case round =>
  clear hH0 hmk ub0
  obtain ⟨k, hk, rfl, hH, hB⟩ := hrel
  have hzr := hB.size
  by_cases hkl : k < m
  · obtain ⟨q, hq⟩ : ∃ q, S[k]? = some q := ⟨_, List.getElem?_eq_getElem (by rw [← HMm.out]; exact hkl)⟩
    have hqb := HIN.out q (List.mem_of_getElem? hq)
    obtain ⟨p, rfl⟩ : ∃ p : Nat, q = (p : Int) := ⟨q.toNat, by omega⟩
    have hpn : p < n := by rw [HNn.out]; omega
    obtain ⟨Bs, os, rfl, hBs, hSc⟩ := HI.out (by intro e; rw [e] at hq; cases hq)
    rw [← HU.out] at hBs
    have hBw : Below U w wr := HB.out.trans (hB.mono (by omega))
    have hkS : k < S.length := by rw [← HMm.out]; exact hkl
    have d0 := (hBw.cell (p := ⟨Bs, os + k, none⟩) hBs).trans (hSc k hkS)
    have hqe : S[k] = (p : Int) := by obtain ⟨_, e⟩ := List.getElem?_eq_some_iff.1 hq; exact e
    rw [hqe] at d0
    have v0 := (hB.cell (p := ⟨U, 0, none⟩) (by show U < U + 1; omega)).trans (ubx.cell 0)
    have v1 := (hB.cell (p := ⟨U, 1, none⟩) (by show U < U + 1; omega)).trans (ubx.cell 1)
    change _ = some (Value.slice ac n cc) at v0
    change _ = some (Value.slice an nn cn) at v1
    have hpN : p < N.nx.length := by rw [← HNN.out, HEQ.out]; exact hpn
    obtain ⟨l, hl⟩ : ∃ l, N.nx[p]? = some l := ⟨_, List.getElem?_eq_getElem hpN⟩
    obtain ⟨Bn, on, rfl, hBn, hNc⟩ := HNx.out (by intro e; rw [e] at hpN; cases hpN)
    rw [← HU.out] at hBn
    obtain ⟨la, c, e1, e2⟩ := hNc p hpN
    have hle : N.nx[p] = l := by obtain ⟨_, e⟩ := List.getElem?_eq_some_iff.1 hl; exact e
    rw [hle] at e1 e2
    have d1 := (hBw.cell (p := ⟨Bn, on + p, none⟩) hBn).trans e1
    have HST : Hid (setKf N.nx (fun t => hasN N t.toNat b) (S.take (k + 1)) [] = rowK (fun t => hasN N t.toNat b) (setKf N.nx (fun t => hasN N t.toNat b) (S.take k) []) l) := Lib.hid (by
     rw [take_snoc hq]
     unfold setKf
     rw [List.foldl_append]
     show rowK _ _ (N.nx.getD (p : Int).toNat []) = _
     rw [Int.toNat_natCast, List.getD_eq_getElem?_getD, hl]
     rfl)
    have HLL := Lib.hid (HO.out.in_ l (List.mem_of_getElem? hl))
    have HE2 := Lib.hid e2
    have hll : l.length ≤ 1024 := by
     rcases up_len (HO.out.up l (List.mem_of_getElem? hl)) with e | e
     · rw [e]; simp
     · have := HO.out.most; omega
    obtain ⟨ks0, hks0⟩ : ∃ ks0, ks0 = setKf N.nx (fun t => hasN N t.toNat b) (S.take k) [] := ⟨_, rfl⟩
    rw [← hks0] at hH HST
    have hk0 : (0 : Int) ≤ (k : Int) := by omega
    have hk1 : (k : Int) < (m : Int) := by omega
    have hp0 : ¬ (p : Int) < 0 := by omega
    have hp1 : ¬ (n : Int) ≤ (p : Int) := by omega
    have hp2 : (0 : Int) ≤ (p : Int) := by omega
    have hp3 : (p : Int) < (nn : Int) := by have := HEQ.out; omega
    have A0 := AX.cell_all d0 (by omega)
    have A1 := AX.cell_all v0 (by omega)
    have A2 := AX.cell_all v1 (by omega)
    have A3 := AX.cell_all d1 (by omega)
    clear hq hqb hSc hqe hNc hle e1 e2 hl hks0 hpN hkS d0 d1 v0 v1
    go_upto_region 5 with (fail)
    refine AX.region_below (by kernel_rfl) (by kernel_rfl) ?_
    repeat (go_big_quiet_step (fail))
    refine wpQuiet_nil ?_
    rintro W4 ⟨p4, rfl⟩
    obtain ⟨W4, hb4⟩ := p4
    change Below _ _ _ at hb4
    have B0 := fun p : AX.BW W4 => A0 ⟨p.W, hb4.trans (p.h.mono hb4.size)⟩
    have B2 := fun p : AX.BW W4 => A2 ⟨p.W, hb4.trans (p.h.mono hb4.size)⟩
    have B3 := fun p : AX.BW W4 => A3 ⟨p.W, hb4.trans (p.h.mono hb4.size)⟩
    change ∀ p : AX.BW W4, p.W.cell? _ = _ at B0 B2 B3
    clear A0 A1 A2 A3
    go_upto_region 6 with (fail)
    refine AX.region_below (by kernel_rfl) (by kernel_rfl) ?_
    repeat (go_big_quiet_step (fail))
    refine wpQuiet_nil ?_
    rintro W5 ⟨p5, rfl⟩
    obtain ⟨W5, hb5⟩ := p5
    change Below _ _ _ at hb5
    have hb45 := hb4.trans (hb5.mono hb4.size)
    have hH5 := hH.below hb45 hH.lt
    have hB5 : Below (U + 1) wo W5 := hB.trans (hb45.mono (by omega))
    clear B0 B2 B3 hH hBw
    go_wp2_with fail
    go_loopw [10] (fun i wr => ∃ j : Nat, j ≤ l.length ∧ i = .int .i64 j ∧ Bx wr (U + 1) 4 (cbs (hitL n (rowK (fun t => hasN N t.toNat b) ks0 (l.take j)))) ∧ Below (U + 1) wo wr)
     (fun i _ => l.length - (intOf i).toNat)
    case atStart => exact ⟨0, Nat.zero_le _, rfl, hH5, hB5⟩
    case round =>
     clear hH5 hB5 hb4 hb5 hb45 hB hzr
     obtain ⟨j, hj, rfl, hH, hB⟩ := hrel
     have hzr := hB.size
     by_cases hjl : j < l.length
     · obtain ⟨t, ht⟩ : ∃ t, l[j]? = some t := ⟨_, List.getElem?_eq_getElem hjl⟩
       have htb := HLL.out t (List.mem_of_getElem? ht)
       obtain ⟨tn, rfl⟩ : ∃ tn : Nat, t = (tn : Int) := ⟨t.toNat, by omega⟩
       have hBw : Below U w wr := HB.out.trans (hB.mono (by omega))
       obtain ⟨Bl, ol, rfl, hBl, hLc⟩ := HE2.out (by intro e; rw [e] at hjl; simp at hjl)
       rw [← HU.out] at hBl
       have hte : l[j] = (tn : Int) := by obtain ⟨_, e⟩ := List.getElem?_eq_some_iff.1 ht; exact e
       have d0 := (hBw.cell (p := ⟨Bl, ol + j, none⟩) hBl).trans (hLc j hjl)
       rw [hte] at d0
       have htn : tn < N.cl.length := by omega
       obtain ⟨Bc, oc, rfl, hBc, hCc⟩ := HC.out (by intro e; rw [e] at htn; simp at htn)
       rw [← HU.out] at hBc
       obtain ⟨c0, c1, c2, c3⟩ := hCc tn htn
       replace c0 := (hBw.cell (p := ⟨Bc, oc + tn * 4, none⟩) hBc).trans c0
       replace c1 := (hBw.cell (p := ⟨Bc, oc + tn * 4 + 1, none⟩) hBc).trans c1
       replace c2 := (hBw.cell (p := ⟨Bc, oc + tn * 4 + 2, none⟩) hBc).trans c2
       replace c3 := (hBw.cell (p := ⟨Bc, oc + tn * 4 + 3, none⟩) hBc).trans c3
       have v0 := (hB.cell (p := ⟨U, 0, none⟩) (by show U < U + 1; omega)).trans (ubx.cell 0)
       change _ = some (Value.slice (some ⟨Bc, oc, none⟩) n cc) at v0
       have hx : hasN N tn b = (N.cl[tn]).has b := by
        unfold hasN
        rw [List.getD_eq_getElem?_getD, List.getElem?_eq_getElem htn]
        rfl
       have HST2 : Hid (rowK (fun t => hasN N t.toNat b) ks0 (l.take (j + 1)) = if hasN N tn b = true then addK (rowK (fun t => hasN N t.toNat b) ks0 (l.take j)) tn else rowK (fun t => hasN N t.toNat b) ks0 (l.take j)) := Lib.hid (by
        rw [take_snoc ht]
        unfold rowK
        rw [List.foldl_append]
        rfl)
       have hhas := fun W => rhas_calls (N.cl[tn]).a (N.cl[tn]).b (N.cl[tn]).c (N.cl[tn]).d b (N.cl[tn]).h hb W
       change ∀ W, Calls Tryz.prog 50 _ W fun e w' => e = .returned (.bool ((N.cl[tn]).has b)) ∧ Below W.heap.size W w' at hhas
       rw [← hx] at hhas
       obtain ⟨ks1, hks1⟩ : ∃ ks1, ks1 = rowK (fun t => hasN N t.toNat b) ks0 (l.take j) := ⟨_, rfl⟩
       rw [← hks1] at hH HST2
       generalize (N.cl[tn]).a = xa at *
       generalize (N.cl[tn]).b = xb at *
       generalize (N.cl[tn]).c = xc at *
       generalize (N.cl[tn]).d = xd at *
       have hj0 : (0 : Int) ≤ (j : Int) := by omega
       have hj1 : (j : Int) < (l.length : Int) := by omega
       have ht0 : (0 : Int) ≤ (tn : Int) := by omega
       have htn' : tn < n := by rw [HNn.out]; exact htn
       have ht1 : (tn : Int) < (n : Int) := by omega
       have A0 := AX.cell_all d0 (by omega)
       have A1 := AX.cell_all c0 (by omega)
       have A2 := AX.cell_all c1 (by omega)
       have A3 := AX.cell_all c2 (by omega)
       have A4 := AX.cell_all c3 (by omega)
       have A5 := AX.cell_all v0 (by omega)
       have d0' := fun W5 (h5 : Below wr.heap.size wr W5) => A0 ⟨W5, h5⟩
       dsimp only at d0'
       clear hLc hCc hx ht htb hte hks1 d0 c0 c1 c2 c3 v0
       cases hz : hasN N tn b with
       | true =>
        rw [hz] at hhas
        have HST3 := Lib.hid (HST2.out.trans (if_pos hz))
        clear hz HST2
        go_upto_region 10 with (fail)
        refine AX.region_below (by kernel_rfl) (by kernel_rfl) ?_
        repeat (go_big_quiet_step (first | (go_at_call 50; with_reducible exact AX.below_of (hhas _))))
        refine wpQuiet_nil ?_
        rintro W5 ⟨p5, rfl⟩
        obtain ⟨W5, hb5⟩ := p5
        change Below _ _ _ at hb5
        have hH5 := hH.below hb5 hH.lt
        have hB5 := hB.trans (hb5.mono (by omega))
        have d5 := d0' W5 hb5
        have hsz : tn < (cbs (hitL n ks1)).size := by
         show tn < ((hitL n ks1).map Value.bool).length
         rw [List.length_map, hitL_len]; exact htn'
        clear A0 A1 A2 A3 A4 A5 d0' hhas hH
        go_wp2_with ((with_reducible refine st_id ?_); refine AX.wpList_storeCell (o := tn) (v := .bool true) rfl rfl rfl sz4 hH5 hsz ?_; rintro W6 g3 g4 g5)
        have g3' : Bx W6 (U + 1) 4 (cbs (hitL n (addK ks1 tn))) := by rw [← hitL_set]; exact g3
        have hl6 : Below (U + 1) W5 W6 := AX.below_turn (Nat.le_refl _) (.inl g3'.lt) g4 g5
        exact ⟨⟨j + 1, by omega, by simp, by rw [HST3.out]; exact g3', hB5.trans hl6⟩, by simp [intOf]; omega⟩
       | false =>
        rw [hz] at hhas
        have HST3 := Lib.hid (HST2.out.trans (if_neg (by rw [hz]; decide)))
        clear hz HST2
        go_upto_region 10 with (fail)
        refine AX.region_below (by kernel_rfl) (by kernel_rfl) ?_
        repeat (go_big_quiet_step (first | (go_at_call 50; with_reducible exact AX.below_of (hhas _))))
        refine wpQuiet_nil ?_
        rintro W5 ⟨p5, rfl⟩
        obtain ⟨W5, hb5⟩ := p5
        change Below _ _ _ at hb5
        have hH5 := hH.below hb5 hH.lt
        have hB5 := hB.trans (hb5.mono (by omega))
        clear A0 A1 A2 A3 A4 A5 d0' hhas hH
        go_wp2_with fail
        exact ⟨⟨j + 1, by omega, by simp, by rw [HST3.out]; exact hH5, hB5⟩, by simp [intOf]; omega⟩
     · obtain rfl : j = l.length := by omega
       rw [List.take_length, ← HST.out] at hH
       go_wp2_with fail
       exact ⟨⟨k + 1, by omega, by simp, hH, hB⟩, by simp [intOf]; omega⟩
  · obtain rfl : k = m := by omega
    rw [HMm.out, List.take_length] at hH
    have hkk : ¬ (k : Int) < (k : Int) := by omega
    obtain ⟨ks, hks⟩ : ∃ ks, ks = setKf N.nx (fun t => hasN N t.toNat b) S [] := ⟨_, rfl⟩
    rw [← hks] at hH
    have HKS := Lib.hid hks
    clear hks
    have hBw : Below U w wr := HB.out.trans (hB.mono (by omega))
    have HBw := Lib.hid hBw
    clear hBw
    obtain ⟨Z, hZ⟩ : ∃ Z, Z = wr.heap.size := ⟨_, rfl⟩
    have hHZ := hH.lt
    rw [← hZ] at hHZ hzr
    have HZ := Lib.hid hZ
    clear hZ
    go_wp2_with fail
    go_loopw [11, 12] (fun v i wx => ∃ j : Nat, j ≤ n ∧ i = .int .i64 j ∧ wx.ownsRow Z 3 1 v (outL j ks).length ((outL j ks).map (Value.int .i64)) ∧ Below Z wr wx)
     (fun _ i _ => n - (intOf i).toNat)
    case atStart => exact ⟨0, Nat.zero_le _, rfl, World.ownsRow_nil _ _ _ _, Below.refl _ _⟩
    case round =>
     obtain ⟨j, hj, rfl, hro, hbx⟩ := hrel
     have hHj := hH.below hbx hHZ
     have hzx : Z ≤ wr.heap.size := by have := hbx.size; rw [← HZ.out] at this; exact this
     by_cases hjn : j < n
     · have e0 : wr.cell? ⟨U + 1, j, none⟩ = some (.bool (decide ((j : Int) ∈ ks))) := (hHj.cell j).trans (hitL_at _ _ _ hjn)
       have HOS := Lib.hid (outL_succ j ks)
       have hol : (outL j ks).length ≤ 1000000 := Nat.le_trans (outL_len _ _) (by omega)
       obtain ⟨ol, hol'⟩ : ∃ ol, ol = outL j ks := ⟨_, rfl⟩
       rw [← hol'] at hro hol HOS
       have hj0 : (0 : Int) ≤ (j : Int) := by omega
       have hj1 : (j : Int) < (n : Int) := by omega
       clear hol'
       by_cases hmem : (j : Int) ∈ ks
       · rw [decide_eq_true hmem] at e0
         have HOS2 := Lib.hid (HOS.out.trans (by rw [if_pos hmem]))
         have hba := (Below.refl Z wr).alloc hzx (.cells #[.int .i64 j] 3)
         have hra := hro.alloc (.cells #[.int .i64 j] 3)
         have hca := (Bx.new wr 3 #[.int .i64 (j : Int)]).cell 0
         have hza : Z ≤ (wr.alloc (.cells #[.int .i64 j] 3)).heap.size := by simp; omega
         clear HOS hmem
         go_wp2_with (at_builtin; refine append_i _ Z u11 ol [(j : Int)] rfl _ _ rfl rfl hra wr.heap.size 1 1 rfl rfl (fun k hk => (by have : k = 0 := (by simp at hk; exact hk); subst this; exact hca)) hol (by simp) hza ?_; intro v' W5 h6 h7 h8)
         exact ⟨⟨j + 1, by omega, by simp, by rw [HOS2.out, List.length_append, List.map_append]; exact h6, (hbx.trans hba).trans ((Below.refl Z _).grown h7 hza fun g e => (World.ownsRow.lt hra g e).1)⟩, by simp [intOf]; omega⟩
       · rw [decide_eq_false hmem] at e0
         have HOS2 := Lib.hid (HOS.out.trans (by rw [if_neg hmem, List.append_nil]))
         clear HOS hmem
         go_wp2_with fail
         exact ⟨⟨j + 1, by omega, by simp, by rw [HOS2.out]; exact hro, hbx⟩, by simp [intOf]; omega⟩
     · obtain rfl : j = n := by omega
       have hZU : U ≤ Z := by omega
       have he : outL j ks = stepN N S b := by rw [← HP.out, HKS.out, HNn.out]
       rw [he] at hro
       obtain ⟨va, vc, rfl⟩ := row_shape hro
       have hro' := row_base hro (base' := w.heap.size) (by rw [← HU.out]; exact hZU)
       have hfin : Below w.heap.size w wr := by rw [← HU.out]; exact HBw.out.trans (hbx.mono hZU)
       go_wp2_with fail
       exact bodyPost_ret (v := .slice va (stepN N S b).length vc) (by simp [results, Tryz.results33, go_sem]) rfl ⟨_, rfl, hro', hfin⟩
end Go.Proofs.YtaadkdmbhckdeaaGreatDoor
