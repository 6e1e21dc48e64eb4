/- Dfa: ref03.Check 8. -/
import Derived.Test.YtaadkdmbhckdeaaGreatDoorN2
import Derived.Test.YtaadkdmbhckdeaaGreatDoorRg8
namespace Go.Proofs.YtaadkdmbhckdeaaGreatDoor
open Go Go.Proofs Go.RowKit
attribute [local go_sem] Oper.semAt_some
def LightPost (a b c : Nat) (e : Ending) : Prop := ∃ z : Bool, e = .returned (.bool z) ∧ (z = true → a ≤ 12 ∧ b ≤ 12 ∧ c ≤ 12)
set_option maxRecDepth 100000 in
set_option maxHeartbeats 4000000 in
theorem light7_k (N : Nf) (ac an ar : Option Addr) (cc cn cr : Nat) (w : World) (h : NfAt w N ac an ar) :
  Calls Tryz.prog 5 #[.agg #[.slice ac N.cl.length cc, .slice an N.nx.length cn, .slice ar N.ru.length cr], .int .i64 12] w fun e w' => LightPost N.cl.length N.nx.length N.ru.length e ∧ Below w.heap.size w w' := by
 obtain ⟨n, hn⟩ : ∃ n, n = N.cl.length := ⟨_, rfl⟩
 obtain ⟨m, hm⟩ : ∃ m, m = N.nx.length := ⟨_, rfl⟩
 obtain ⟨r, hr⟩ : ∃ r, r = N.ru.length := ⟨_, rfl⟩
 rw [← hn, ← hm, ← hr]
 obtain ⟨wo, hwo⟩ : ∃ wo, wo = w.alloc (.cells #[.slice ac n cc, .slice an m cn, .slice ar r cr] 26) := ⟨_, rfl⟩
 have hb0 : Below w.heap.size w wo := by rw [hwo]; exact (Below.refl _ w).alloc (Nat.le_refl _) _
 obtain ⟨U, hU⟩ : ∃ U, U = w.heap.size := ⟨_, rfl⟩
 have u0 : wo.cell? ⟨U, 0, none⟩ = some (.slice ac n cc) := by rw [hwo, hU]; simp
 have u1 : wo.cell? ⟨U, 1, none⟩ = some (.slice an m cn) := by rw [hwo, hU]; simp
 have u2 : wo.cell? ⟨U, 2, none⟩ = some (.slice ar r cr) := by rw [hwo, hU]; simp
 have hN := h.n.below hb0 (Nat.le_refl _)
 have HM := Lib.hid hm
 have HW := Lib.hid hwo
 have HU := Lib.hid hU
 have HB := Lib.hid hb0
 clear hn hm hr hwo hU hb0 h
 go_enter Tryz.func5, Tryz.ntmps5
 go_upto_region 1 with (fail)
 rw [← HW.out, ← HU.out]
 go_wp2_with fail
 go_loopw [5, 6] (fun t5 i wr => ∃ (k : Nat) (z : Int), k ≤ m ∧ k ≤ 13 ∧ i = .int .i64 k ∧ t5 = .int .i64 z ∧ wr = wo)
  (fun _ i _ => 13 - (intOf i).toNat)
 case atStart => exact ⟨0, 0, Nat.zero_le _, Nat.zero_le _, rfl, rfl, rfl⟩
 case round =>
  obtain ⟨k, z, hk, hk13, rfl, rfl, rfl⟩ := hrel
  by_cases hgo : k < m ∧ k ≤ 12
  · obtain ⟨hkl, hk12⟩ := hgo
    obtain ⟨Bn, on, rfl, hBn, hNc⟩ := hN (by intro e; rw [e] at HM; have := HM.out; simp at this; omega)
    obtain ⟨la, c, d0, _⟩ := hNc k (by rw [← HM.out]; exact hkl)
    have hk0 : (0 : Int) ≤ (k : Int) := by omega
    have hk1 : (k : Int) < (m : Int) := by omega
    have hk2 : (k : Int) ≤ 12 := by omega
    have hkt : (k : Int).toNat = k := by omega
    clear hNc
    go_wp2_with fail
    exact ⟨⟨k + 1, _, by omega, by omega, by simp, rfl, trivial⟩, by simp [intOf]; omega⟩
  · have HB2 := HB.out
    have hx : ¬ (k : Int) < (m : Int) ∨ ((k : Int) < (m : Int) ∧ ¬ (k : Int) ≤ 12) := by omega
    have fin : ∀ (b : Bool) (W : World), (b = true → n ≤ 12 ∧ m ≤ 12 ∧ r ≤ 12) → W = wr → LightPost n m r (.returned (.bool b)) ∧ Below w.heap.size w W := fun b W h e => ⟨⟨b, rfl, h⟩, by rw [e]; exact HB2⟩
    by_cases h1 : n ≤ 12
    · have g1 : (n : Int) ≤ 12 := by omega
      by_cases h2 : m ≤ 12
      · have g2 : (m : Int) ≤ 12 := by omega
        by_cases h3 : r ≤ 12
        · have g3 : (r : Int) ≤ 12 := by omega
          rcases hx with hx | ⟨hx, hy⟩
          · go_wp2_with fail
            all_goals (go_ret; exact fin _ _ (fun _ => ⟨h1, h2, h3⟩) rfl)
          · exfalso; omega
        · have g3 : ¬ (r : Int) ≤ 12 := by omega
          rcases hx with hx | ⟨hx, hy⟩
          · go_wp2_with fail
            all_goals (go_ret; exact fin false _ (fun h => by cases h) rfl)
          · exfalso; omega
      · have g2 : ¬ (m : Int) ≤ 12 := by omega
        rcases hx with hx | ⟨hx, hy⟩
        · go_wp2_with fail
          all_goals (go_ret; exact fin false _ (fun h => by cases h) rfl)
        · go_wp2_with fail
          all_goals (go_ret; exact fin false _ (fun h => by cases h) rfl)
    · have g1 : ¬ (n : Int) ≤ 12 := by omega
      rcases hx with hx | ⟨hx, hy⟩
      · go_wp2_with fail
        all_goals (go_ret; exact fin false _ (fun h => by cases h) rfl)
      · go_wp2_with fail
        all_goals (go_ret; exact fin false _ (fun h => by cases h) rfl)
theorem up_last {k : Int} : ∀ {l : List Int} {last : Int}, Up k last l → last ≤ l.getLastD last
 | [], _, _ => Int.le_refl _
 | x :: l, last, h => by
  have := up_last h.2.2
  have h1 := h.1
  show last ≤ (x :: l).getLastD last
  have e : (x :: l).getLastD last = l.getLastD x := by cases l <;> rfl
  rw [e]
  omega
set_option maxRecDepth 100000 in
set_option maxHeartbeats 4000000 in
theorem rcheck_k (N : Nf) (ac an ar : Option Addr) (cc cn cr : Nat) (w : World) (h : NfAt w N ac an ar) :
  Calls Tryz.prog 30 #[nfV ac an ar N.cl.length N.nx.length N.ru.length cc cn cr] w fun e w' => e = .returned (.int .i64 (ckN N)) ∧ Below w.heap.size w w' := by
 unfold nfV
 obtain ⟨n, hn⟩ : ∃ n, n = N.cl.length := ⟨_, rfl⟩
 obtain ⟨m, hm⟩ : ∃ m, m = N.nx.length := ⟨_, rfl⟩
 obtain ⟨r, hr⟩ : ∃ r, r = N.ru.length := ⟨_, rfl⟩
 rw [← hn, ← hm, ← hr]
 by_cases hbad : n < 1 ∨ 1024 < n ∨ m ≠ n ∨ r ≠ n
 · have hc : ckN N = 2 := if_neg (fun o => by have := o.one; have := o.most; have := o.nx; have := o.ru; omega)
   rw [hc]
   clear hc hn hm hr h
   by_cases h1 : n < 1
   · have : (n : Int) < 1 := by omega
     go_enter Tryz.func30, Tryz.ntmps30
     go_wp2
     exact bodyPost_ret (v := .int .i64 2) (by simp [results, Tryz.results30, go_sem]) rfl ⟨rfl, (Below.refl _ w).alloc (Nat.le_refl _) _⟩
   by_cases h2 : 1024 < n
   · have : ¬ (n : Int) < 1 := by omega
     have : (1024 : Int) < (n : Int) := by omega
     go_enter Tryz.func30, Tryz.ntmps30
     go_wp2
     exact bodyPost_ret (v := .int .i64 2) (by simp [results, Tryz.results30, go_sem]) rfl ⟨rfl, (Below.refl _ w).alloc (Nat.le_refl _) _⟩
   have g1 : ¬ (n : Int) < 1 := by omega
   have g2 : ¬ (1024 : Int) < (n : Int) := by omega
   by_cases h3 : m = n
   · have h4 : ((r : Int) != (n : Int)) = true := by simp; omega
     subst h3
     go_enter Tryz.func30, Tryz.ntmps30
     go_wp2
     exact bodyPost_ret (v := .int .i64 2) (by simp [results, Tryz.results30, go_sem]) rfl ⟨rfl, (Below.refl _ w).alloc (Nat.le_refl _) _⟩
   · have h4 : ((m : Int) != (n : Int)) = true := by simp; omega
     go_enter Tryz.func30, Tryz.ntmps30
     go_wp2
     exact bodyPost_ret (v := .int .i64 2) (by simp [results, Tryz.results30, go_sem]) rfl ⟨rfl, (Below.refl _ w).alloc (Nat.le_refl _) _⟩
 · have hm1 : n = m := by omega
   have hr1 : n = r := by omega
   have hn1 : 1 ≤ n := by omega
   have hn2 : n ≤ 1024 := by omega
   clear hbad
   obtain ⟨x, hx⟩ : ∃ x, N.cl[0]? = some x := ⟨_, List.getElem?_eq_getElem (by omega)⟩
   have hcne : N.cl ≠ [] := fun e => by rw [e] at hx; cases hx
   have hnne : N.nx ≠ [] := fun e => by rw [e] at hm; simp at hm; omega
   have hrne : N.ru ≠ [] := fun e => by rw [e] at hr; simp at hr; omega
   obtain ⟨Bc, oc, rfl, hBc, hC⟩ := h.c hcne
   obtain ⟨Bn, on, rfl, hBn, hN⟩ := h.n hnne
   obtain ⟨Br, or', rfl, hBr, hR⟩ := h.r hrne
   have hx0 : N.cl[0]'(by omega) = x := by
    have := List.getElem?_eq_getElem (l := N.cl) (i := 0) (by omega)
    rw [hx] at this
    exact (Option.some.inj this).symm
   obtain ⟨c0, c1, c2, c3⟩ := hC 0 (by omega)
   rw [hx0] at c0 c1 c2 c3
   simp only [Nat.zero_mul, Nat.add_zero] at c0 c1 c2 c3
   have hhead : N.cl.head? = some x := by rw [List.head?_eq_getElem?]; exact hx
   have hb0 : Below w.heap.size w (w.alloc (.cells #[.slice (some ⟨Bc, oc, none⟩) n cc, .slice (some ⟨Bn, on, none⟩) n cn, .slice (some ⟨Br, or', none⟩) n cr] 26)) := (Below.refl _ w).alloc (Nat.le_refl _) _
   have d0 := (hb0.cell (p := ⟨Bc, oc, none⟩) hBc).trans c0
   have d1 := (hb0.cell (p := ⟨Bc, oc + 1, none⟩) hBc).trans c1
   have d2 := (hb0.cell (p := ⟨Bc, oc + 2, none⟩) hBc).trans c2
   have d3 := (hb0.cell (p := ⟨Bc, oc + 3, none⟩) hBc).trans c3
   have he := fun w => neq_zero x w
   obtain ⟨z, hz⟩ : ∃ z, z = x.isZ := ⟨_, rfl⟩
   rw [← hz] at he
   have g1 : ¬ (n : Int) < 1 := by omega
   have g2 : ¬ (1024 : Int) < (n : Int) := by omega
   have g3 : (0 : Int) < (n : Int) := by omega
   have HN := Lib.hid hn
   have HM := Lib.hid hm
   have HRl := Lib.hid hr
   have HH := Lib.hid hhead
   have HZ := Lib.hid hz
   subst hm1
   subst hr1
   clear c0 c1 c2 c3 hC hx hx0 hhead hcne hnne hrne hn hm hr hz h
   cases z with
   | false =>
    have hc : ckN N = 2 := if_neg (fun o => by
     have := o.zero
     rw [HH.out] at this
     have e : x = Kl.zero := Option.some.inj this
     have h1 := (Kl.isZ_iff x).2 e
     rw [← HZ.out] at h1
     cases h1)
    rw [hc]
    clear hc
    go_enter Tryz.func30, Tryz.ntmps30
    go_wp2
    exact bodyPost_ret (v := .int .i64 2) (by simp [results, Tryz.results30, go_sem]) rfl ⟨rfl, hb0⟩
   | true =>
    have hz0 : N.cl.head? = some Kl.zero := by rw [HH.out, (Kl.isZ_iff x).1 HZ.out.symm]
    have HZ0 := Lib.hid hz0
    clear hz0 HZ HH
    go_enter Tryz.func30, Tryz.ntmps30
    go_upto_region 4 with (fail)
    obtain ⟨wo, hwo⟩ : ∃ wo, wo = w.alloc (.cells #[.slice (some ⟨Bc, oc, none⟩) n cc, .slice (some ⟨Bn, on, none⟩) n cn, .slice (some ⟨Br, or', none⟩) n cr] 26) := ⟨_, rfl⟩
    rw [← hwo] at hb0 ⊢
    obtain ⟨U, hU⟩ : ∃ U, U = w.heap.size := ⟨_, rfl⟩
    have w1c : wo.cell? ⟨U, 1, none⟩ = some (.slice (some ⟨Bn, on, none⟩) n cn) := by rw [hwo, hU]; simp
    have w2c : wo.cell? ⟨U, 2, none⟩ = some (.slice (some ⟨Br, or', none⟩) n cr) := by rw [hwo, hU]; simp
    rw [← hU]
    have hB : Hid (Below w.heap.size w wo) := Lib.hid hb0
    have hNw : ∀ (j : Nat) (l : List Int), N.nx[j]? = some l → ∃ la c, wo.cell? ⟨Bn, on + j, none⟩ = some (.slice la l.length c) ∧ IRow wo la l := fun j l hl => by
     obtain ⟨hj, rfl⟩ := List.getElem?_eq_some_iff.1 hl
     obtain ⟨la, c, e1, e2⟩ := hN j hj
     exact ⟨la, c, (hb0.cell (p := ⟨Bn, on + j, none⟩) hBn).trans e1, e2.below hb0 (Nat.le_refl _)⟩
    have hRw : ∀ (j : Nat) (q : Int), N.ru[j]? = some q → wo.cell? ⟨Br, or' + j, none⟩ = some (.int .i64 q) := fun j q hl => by
     obtain ⟨hj, rfl⟩ := List.getElem?_eq_some_iff.1 hl
     exact (hb0.cell (p := ⟨Br, or' + j, none⟩) hBr).trans (hR j hj)
    have hUs : U < wo.heap.size := by rw [hwo, hU]; simp
    have hBns : Bn < wo.heap.size := Nat.lt_of_lt_of_le hBn hb0.size
    clear hb0 d0 d1 d2 d3 hN hR he hU hwo
    have HNw := Lib.hid hNw
    have HRw := Lib.hid hRw
    clear hNw hRw
    go_wp2_with fail
    go_loopw [4] (fun i wr => ∃ k : Nat, k ≤ n ∧ i = .int .i64 k ∧ Hid (∀ j, j < k → (∀ l, N.nx[j]? = some l → Up n 0 l) ∧ ∀ q, N.ru[j]? = some q → -1 ≤ q ∧ q < 16) ∧ Below wo.heap.size wo wr)
     (fun i _ => n - (intOf i).toNat)
    case atStart => exact ⟨0, Nat.zero_le _, rfl, Lib.hid (fun j hj => absurd hj (Nat.not_lt_zero _)), Below.refl _ _⟩
    case round =>
     obtain ⟨k, hk, rfl, HK, hbk⟩ := hrel
     have v1 := (hbk.cell (p := ⟨U, 1, none⟩) hUs).trans w1c
     have v2 := (hbk.cell (p := ⟨U, 2, none⟩) hUs).trans w2c
     by_cases hkl : k < n
     · obtain ⟨l, hl⟩ : ∃ l, N.nx[k]? = some l := ⟨_, List.getElem?_eq_getElem (by rw [← HM.out]; exact hkl)⟩
       obtain ⟨q, hq⟩ : ∃ q, N.ru[k]? = some q := ⟨_, List.getElem?_eq_getElem (by rw [← HRl.out]; exact hkl)⟩
       obtain ⟨la, c, e1, e2⟩ := HNw.out k l hl
       have e3 := (hbk.cell (p := ⟨Br, or' + k, none⟩) (by have := (hB.out).size; simp only; omega)).trans (HRw.out k q hq)
       have HL := Lib.hid hl
       have HQ := Lib.hid hq
       have hk0 : (0 : Int) ≤ (k : Int) := by omega
       have hk1 : (k : Int) < (n : Int) := by omega
       have hkt : (k : Int).toNat = k := by omega
       clear hl hq
       by_cases hqb : q < -1 ∨ 16 ≤ q
       · have hc : ckN N = 2 := if_neg (fun o => by
          have h1 := o.rule q (List.mem_of_getElem? HQ.out)
          omega)
         have HC := Lib.hid hc
         have HB2 := hB.out.trans (hbk.mono hB.out.size)
         clear hc
         by_cases hb1 : q < -1
         · go_wp2_with fail
           exact bodyPost_ret (v := .int .i64 2) (by simp [results, Tryz.results30, go_sem]) rfl ⟨by rw [HC.out], HB2⟩
         · have hb2 : 16 ≤ q := by omega
           go_wp2_with fail
           exact bodyPost_ret (v := .int .i64 2) (by simp [results, Tryz.results30, go_sem]) rfl ⟨by rw [HC.out], HB2⟩
       have hb1 : ¬ q < -1 := by omega
       have hb2 : ¬ 16 ≤ q := by omega
       clear hqb
       have hlI := e2.below hbk (Nat.le_refl _)
       have e1' := (hbk.cell (p := ⟨Bn, on + k, none⟩) hBns).trans e1
       clear e1 e2
       go_wp2_with fail
       clear e3
       go_loopw [5] (fun t5 wx => ∃ j : Nat, j ≤ l.length ∧ t5 = .int .i64 j ∧ Hid (Up n 0 (l.take j)) ∧ Below wo.heap.size wo wx)
        (fun t5 _ => l.length - (intOf t5).toNat)
       case atStart => exact ⟨0, Nat.zero_le _, rfl, Lib.hid trivial, hbk⟩
       case round =>
        clear hbk hlI e1' v1 v2
        obtain ⟨j, hj, rfl, HU, hbx⟩ := hrel
        have v1 := (hbx.cell (p := ⟨U, 1, none⟩) hUs).trans w1c
        obtain ⟨la', c', f1, f2⟩ := HNw.out k l HL.out
        have f1' := (hbx.cell (p := ⟨Bn, on + k, none⟩) hBns).trans f1
        have hUx : U < wr.heap.size := Nat.lt_of_lt_of_le hUs hbx.size
        have hBnx : Bn < wr.heap.size := Nat.lt_of_lt_of_le hBns hbx.size
        have hj1024 : j ≤ 1024 := by
         have e : (l.take j).length = j := by rw [List.length_take]; omega
         rcases up_len HU.out with h | h
         · rw [h] at e
           have e : 0 = j := e
           omega
         · rw [e] at h
           omega
        by_cases hjl : j < l.length
        · obtain ⟨Bl, ol, rfl, hBl, hLc⟩ := f2 (by intro e; rw [e] at hjl; simp at hjl)
          obtain ⟨t, ht⟩ : ∃ t, t = l[j] := ⟨_, rfl⟩
          have g0 := (hbx.cell (p := ⟨Bl, ol + j, none⟩) hBl).trans (hLc j hjl)
          rw [← ht] at g0
          have hBlx : Bl < wr.heap.size := Nat.lt_of_lt_of_le hBl hbx.size
          have HTJ : Hid (l.take (j + 1) = l.take j ++ [t]) := Lib.hid (by rw [List.take_succ_eq_append_getElem hjl, ht])
          have hj0 : (0 : Int) ≤ (j : Int) := by omega
          have hj1 : (j : Int) < (l.length : Int) := by omega
          have hjt : (j : Int).toNat = j := by omega
          have A0 := AX.cell_all v1 hUx
          have A1 := AX.cell_all f1' hBnx
          have A2 := AX.cell_all g0 hBlx
          have HLC := Lib.hid hLc
          clear ht hLc f1 f2
          have hbadc : (t ≤ (l.take j).getLastD 0 ∨ (n : Int) ≤ t) → ckN N = 2 := fun hbad => if_neg (fun o => by
           have h1 := o.up l (List.mem_of_getElem? HL.out)
           rw [← HN.out] at h1
           have h2 := up_take h1 (j + 1)
           rw [HTJ.out, up_snoc] at h2
           omega)
          have hgood : (l.take j).getLastD 0 < t → t < n → Up n 0 (l.take (j + 1)) := fun h1 h2 => by
           rw [HTJ.out, up_snoc]
           exact ⟨HU.out, h1, h2⟩
          have HBC := Lib.hid hbadc
          have HGD := Lib.hid hgood
          clear hbadc hgood
          go_upto_region 12 with (fail)
          by_cases t1 : t < 1
          · have hz : 0 ≤ (l.take j).getLastD 0 := up_last HU.out
            have HC := Lib.hid (HBC.out (.inl (by omega)))
            clear hz
            refine AX.region_below (by kernel_rfl) (by kernel_rfl) ?_
            repeat (go_big_quiet_step (fail))
            refine wpQuiet_nil ?_
            rintro W4 ⟨p, rfl⟩
            obtain ⟨W4, hb4⟩ := p
            change Below _ _ _ at hb4
            have hb5 := hbx.trans (hb4.mono hbx.size)
            go_wp2_with fail
            exact bodyPost_ret (v := .int .i64 2) (by simp [results, Tryz.results30, go_sem]) rfl ⟨by rw [HC.out], hB.out.trans (hb5.mono hB.out.size)⟩
          by_cases t2 : (n : Int) ≤ t
          · have HC := Lib.hid (HBC.out (.inr t2))
            refine AX.region_below (by kernel_rfl) (by kernel_rfl) ?_
            repeat (go_big_quiet_step (fail))
            refine wpQuiet_nil ?_
            rintro W4 ⟨p, rfl⟩
            obtain ⟨W4, hb4⟩ := p
            change Below _ _ _ at hb4
            have hb5 := hbx.trans (hb4.mono hbx.size)
            go_wp2_with fail
            exact bodyPost_ret (v := .int .i64 2) (by simp [results, Tryz.results30, go_sem]) rfl ⟨by rw [HC.out], hB.out.trans (hb5.mono hB.out.size)⟩
          by_cases j0 : j = 0
          · have hjz : decide (0 < j) = false := decide_eq_false (by omega)
            have HU2 : Hid (Up n 0 (l.take (j + 1))) := Lib.hid (HGD.out (by rw [j0]; show (0 : Int) < t; omega) (by omega))
            clear j0
            refine AX.region_below (by kernel_rfl) (by kernel_rfl) ?_
            repeat (go_big_quiet_step (fail))
            refine wpQuiet_nil ?_
            rintro W4 ⟨p, rfl⟩
            obtain ⟨W4, hb4⟩ := p
            change Below _ _ _ at hb4
            have hb5 := hbx.trans (hb4.mono hbx.size)
            go_wp2_with fail
            exact ⟨⟨j + 1, by omega, by simp, HU2, hb5⟩, by simp [intOf]; omega⟩
          · obtain ⟨i, rfl⟩ : ∃ i, j = i + 1 := ⟨j - 1, by omega⟩
            obtain ⟨s, hs⟩ : ∃ s, s = l[i]'(by omega) := ⟨_, rfl⟩
            have g1 := (hbx.cell (p := ⟨Bl, ol + i, none⟩) hBl).trans (HLC.out i (by omega))
            rw [← hs] at g1
            have A3 := AX.cell_all g1 hBlx
            have hlast : (l.take (i + 1)).getLastD 0 = s := by rw [List.take_succ_eq_append_getElem (by omega : i < l.length), ← hs]; simp
            have HLS := Lib.hid hlast
            have i0 : (0 : Int) ≤ (i : Int) := by omega
            have i1 : (i : Int) < (l.length : Int) := by omega
            have i2 : (i : Int).toNat = i := by omega
            clear hs hlast
            by_cases t3 : t ≤ s
            · have HC := Lib.hid (HBC.out (.inl (by rw [HLS.out]; exact t3)))
              refine AX.region_below (by kernel_rfl) (by kernel_rfl) ?_
              repeat (go_big_quiet_step (fail))
              refine wpQuiet_nil ?_
              rintro W4 ⟨p, rfl⟩
              obtain ⟨W4, hb4⟩ := p
              change Below _ _ _ at hb4
              have hb5 := hbx.trans (hb4.mono hbx.size)
              go_wp2_with fail
              exact bodyPost_ret (v := .int .i64 2) (by simp [results, Tryz.results30, go_sem]) rfl ⟨by rw [HC.out], hB.out.trans (hb5.mono hB.out.size)⟩
            · have HU2 : Hid (Up n 0 (l.take (i + 1 + 1))) := Lib.hid (HGD.out (by rw [HLS.out]; omega) (by omega))
              refine AX.region_below (by kernel_rfl) (by kernel_rfl) ?_
              repeat (go_big_quiet_step (fail))
              refine wpQuiet_nil ?_
              rintro W4 ⟨p, rfl⟩
              obtain ⟨W4, hb4⟩ := p
              change Below _ _ _ at hb4
              have hb5 := hbx.trans (hb4.mono hbx.size)
              go_wp2_with fail
              exact ⟨⟨i + 1 + 1, by omega, by simp, HU2, hb5⟩, by simp [intOf]; omega⟩
        · obtain rfl : j = l.length := by omega
          rw [List.take_length] at HU
          have hl1 : ¬ (l.length : Int) < (l.length : Int) := by omega
          have HK2 : Hid (∀ j, j < k + 1 → (∀ l, N.nx[j]? = some l → Up n 0 l) ∧ ∀ q, N.ru[j]? = some q → -1 ≤ q ∧ q < 16) := Lib.hid (fun j hj => by
           by_cases hjk : j < k
           · exact HK.out j hjk
           · obtain rfl : j = k := by omega
             refine ⟨fun l' hl' => ?_, fun q' hq' => ?_⟩
             · rw [HL.out] at hl'
               cases hl'
               exact HU.out
             · rw [HQ.out] at hq'
               cases hq'
               exact ⟨by omega, by omega⟩)
          go_wp2_with fail
          exact ⟨⟨k + 1, by omega, by simp, HK2, hbx⟩, by simp [intOf]; omega⟩
     · obtain rfl : k = n := by omega
       have hc : ckN N = 0 := if_pos ⟨by rw [← HN.out]; exact hn1, by rw [← HN.out]; exact hn2, by rw [← HN.out, ← HM.out], by rw [← HN.out, ← HRl.out], HZ0.out, fun l hl => by
        obtain ⟨j, hj, rfl⟩ := List.getElem_of_mem hl
        rw [← HN.out]
        exact (HK.out j (by rw [HM.out]; exact hj)).1 _ (List.getElem?_eq_getElem hj), fun q hq => by
        obtain ⟨j, hj, rfl⟩ := List.getElem_of_mem hq
        exact (HK.out j (by rw [HRl.out]; exact hj)).2 _ (List.getElem?_eq_getElem hj)⟩
       have HC := Lib.hid hc
       have HB2 := hB.out.trans (hbk.mono hB.out.size)
       clear hc
       go_wp2_with fail
       exact bodyPost_ret (v := .int .i64 0) (by simp [results, Tryz.results30, go_sem]) rfl ⟨by rw [HC.out], HB2⟩
end Go.Proofs.YtaadkdmbhckdeaaGreatDoor
