/- Dfa: viewportref03.Ends 30. -/
import Derived.Test.YtaadkdmbhckdeaaDoorN5
import Derived.Test.YtaadkdmbhckdeaaDoorRg8
namespace Go.Proofs.YtaadkdmbhckdeaaDoor
open Go Go.Proofs Go.RowKit
attribute [local go_sem] Oper.semAt_some
set_option maxRecDepth 100000 in
set_option maxHeartbeats 4000000 in
theorem ends30_k (N : Nf) (ac an ar : Option Addr) (cc cn cr : Nat) (S : List Int) (hS : S.length ≤ 1000000) (hin : ∀ q ∈ S, 0 ≤ q ∧ q < (N.ru.length : Int)) (aS : Option Addr) (cs : Nat) (w : World) (h : NfAt w N ac an ar) (hI : IRow w aS S) :
    Calls Tryd.prog 30 #[.agg #[.slice ac N.cl.length cc, .slice an N.nx.length cn, .slice ar N.ru.length cr], .slice aS S.length cs] w fun e w' => e = .returned (.int .i64 (ruleF N.ru S)) ∧ Below w.heap.size w w' := by
  obtain ⟨wo, hwo⟩ : ∃ wo, wo = w.alloc (.cells #[.slice ac N.cl.length cc, .slice an N.nx.length cn, .slice ar N.ru.length cr] 26) := ⟨_, rfl⟩
  have hb0 : Below w.heap.size w wo := by rw [hwo]; exact (Below.refl _ w).alloc (Nat.le_refl _) _
  obtain ⟨U, hU⟩ : ∃ U, U = w.heap.size := ⟨_, rfl⟩
  have u2 : wo.cell? ⟨U, 2, none⟩ = some (.slice ar N.ru.length cr) := by rw [hwo, hU]; simp
  have hUs : U < wo.heap.size := by rw [hwo, hU]; simp
  have hI' := hI.below hb0 (Nat.le_refl _)
  have hR' := h.r.below hb0 (Nat.le_refl _)
  have HW := Lib.hid hwo
  have HB := Lib.hid hb0
  have HU := Lib.hid hU
  have HIN := Lib.hid hin
  obtain ⟨m, hm⟩ : ∃ m, m = S.length := ⟨_, rfl⟩
  obtain ⟨r, hr⟩ : ∃ r, r = N.ru.length := ⟨_, rfl⟩
  rw [← hr] at u2
  have HS := Lib.hid hm
  have HR := Lib.hid hr
  rw [← hm, ← hr]
  rw [← hm] at hS
  clear hwo hb0 hU hI h hm hr hin
  go_enter Tryd.func30, Tryd.ntmps30
  go_upto_region 1 with (fail)
  have e0 := HW.out
  rw [← HR.out] at e0
  rw [← e0, ← HU.out]
  clear e0
  go_wp2_with fail
  go_loopw [5, 6] (fun t5 i wr => ∃ k : Nat, k ≤ m ∧ i = .int .i64 k ∧ t5 = .int .i64 ((S.take k).foldl (ruleK N.ru) (-1)) ∧ Below wo.heap.size wo wr)
    (fun _ i _ => m - (intOf i).toNat)
  case atStart => exact ⟨0, Nat.zero_le _, rfl, rfl, Below.refl _ _⟩
  case round =>
    obtain ⟨k, hk, rfl, rfl, hbk⟩ := hrel
    by_cases hkl : k < m
    · obtain ⟨q, hq⟩ : ∃ q, S[k]? = some q := ⟨_, List.getElem?_eq_getElem (by rw [← HS.out]; exact hkl)⟩
      obtain ⟨hq0, hq1⟩ := HIN.out q (List.mem_of_getElem? hq)
      obtain ⟨Bs, os, rfl, hBs, hSc⟩ := hI' (by intro e; rw [e] at hq; cases hq)
      have hkS : k < S.length := by rw [← HS.out]; exact hkl
      have d0 := (hbk.cell (p := ⟨Bs, os + k, none⟩) hBs).trans (hSc k hkS)
      have hqe : S[k] = q := by obtain ⟨_, e⟩ := List.getElem?_eq_some_iff.1 hq; exact e
      rw [hqe] at d0
      have HF := Lib.hid (ruleF_take N.ru S k q hq)
      obtain ⟨out, hout⟩ : ∃ o, o = (S.take k).foldl (ruleK N.ru) (-1) := ⟨_, rfl⟩
      rw [← hout] at HF ⊢
      have hk0 : (0 : Int) ≤ (k : Int) := by omega
      have hk1 : (k : Int) < (m : Int) := by omega
      have hkt : (k : Int).toNat = k := by omega
      clear hq hSc hqe hout
      obtain ⟨p, rfl⟩ : ∃ p : Nat, q = (p : Int) := ⟨q.toNat, by omega⟩
      have hpr : p < N.ru.length := by omega
      obtain ⟨Br, or', rfl, hBr, hRc⟩ := hR' (by intro e; rw [e] at hpr; simp at hpr)
      have d1 := (hbk.cell (p := ⟨Br, or' + p, none⟩) hBr).trans (hRc p hpr)
      obtain ⟨z, hz⟩ : ∃ z, z = N.ru[p] := ⟨_, rfl⟩
      rw [← hz] at d1
      have hgd : N.ru.getD p (-1) = z := by rw [List.getD_eq_getElem?_getD, List.getElem?_eq_getElem hpr, hz]; rfl
      have HF2 : Hid ((S.take (k + 1)).foldl (ruleK N.ru) (-1) = if 0 ≤ z ∧ (out < 0 ∨ z < out) then z else out) := Lib.hid (by
        rw [HF.out]
        unfold ruleK
        rw [if_pos ⟨by omega, by omega⟩, Int.toNat_natCast, hgd])
      have hBsx : Bs < wr.heap.size := Nat.lt_of_lt_of_le hBs hbk.size
      have hBrx : Br < wr.heap.size := Nat.lt_of_lt_of_le hBr hbk.size
      have hUx : U < wr.heap.size := Nat.lt_of_lt_of_le hUs hbk.size
      have u2x := (hbk.cell (p := ⟨U, 2, none⟩) hUs).trans u2
      have A0 := AX.cell_all d0 hBsx
      have A1 := AX.cell_all u2x hUx
      have A2 := AX.cell_all d1 hBrx
      have n2 : (p : Int) < (r : Int) := by have := HR.out; omega
      have n3 : (p : Int).toNat = p := by omega
      have n4 : (0 : Int) ≤ (p : Int) := by omega
      clear hz hgd hRc hpr hq0 hq1 d0 d1 u2x
      have fin : ∀ (v : Int), (S.take (k + 1)).foldl (ruleK N.ru) (-1) = v → True := fun _ _ => trivial
      clear fin
      go_upto_region 5 with (fail)
      refine AX.region_below (by kernel_rfl) (by kernel_rfl) ?_
      repeat (go_big_quiet_step (fail))
      refine wpQuiet_nil ?_
      rintro W4 ⟨p4, rfl⟩
      obtain ⟨W4, hb4⟩ := p4
      change Below _ _ _ at hb4
      have B0 := fun p : AX.BW W4 => A0 ⟨p.W, hb4.trans (p.h.mono hb4.size)⟩
      have B1 := fun p : AX.BW W4 => A1 ⟨p.W, hb4.trans (p.h.mono hb4.size)⟩
      have B2 := fun p : AX.BW W4 => A2 ⟨p.W, hb4.trans (p.h.mono hb4.size)⟩
      change ∀ p : AX.BW W4, p.W.cell? _ = _ at B0 B1 B2
      clear A0 A1 A2
      go_upto_region 6 with (fail)
      refine AX.region_below (by kernel_rfl) (by kernel_rfl) ?_
      repeat (go_big_quiet_step (fail))
      refine wpQuiet_nil ?_
      rintro W5 ⟨p5, rfl⟩
      obtain ⟨W5, hb5⟩ := p5
      change Below _ _ _ at hb5
      have hbz := hbk.trans ((hb4.trans (hb5.mono hb4.size)).mono hbk.size)
      clear B0 B1 B2
      by_cases z0 : 0 ≤ z
      · by_cases o0 : out < 0
        · have HV := Lib.hid (HF2.out.trans (if_pos ⟨z0, .inl o0⟩))
          go_wp2_with fail
          exact ⟨⟨k + 1, by omega, by simp, by rw [HV.out], hbz⟩, by simp [intOf]; omega⟩
        · by_cases zo : z < out
          · have HV := Lib.hid (HF2.out.trans (if_pos ⟨z0, .inr zo⟩))
            go_wp2_with fail
            exact ⟨⟨k + 1, by omega, by simp, by rw [HV.out], hbz⟩, by simp [intOf]; omega⟩
          · have HV := Lib.hid (HF2.out.trans (if_neg (by omega)))
            go_wp2_with fail
            exact ⟨⟨k + 1, by omega, by simp, by rw [HV.out], hbz⟩, by simp [intOf]; omega⟩
      · have HV := Lib.hid (HF2.out.trans (if_neg (by omega)))
        go_wp2_with fail
        exact ⟨⟨k + 1, by omega, by simp, by rw [HV.out], hbz⟩, by simp [intOf]; omega⟩
    · obtain rfl : k = m := by omega
      have hv : (S.take k).foldl (ruleK N.ru) (-1) = ruleF N.ru S := by rw [HS.out, List.take_length]; rfl
      rw [hv]
      have HB2 := HB.out.trans (hbk.mono HB.out.size)
      clear hv
      go_wp2_with fail
      go_ret
      exact ⟨rfl, HB2⟩
end Go.Proofs.YtaadkdmbhckdeaaDoor
