/- Dfa: viewportref04.Same 9. -/
import Derived.Test.YtaadkdmbhckdeaaGreatDoorZ8
namespace Go.Proofs.YtaadkdmbhckdeaaGreatDoor
open Go Go.Proofs Go.RowKit
attribute [local go_sem] Oper.semAt_some
theorem getD_mem' {l : List Int} {i : Nat} (h : i < l.length) : l.getD i 0 ∈ l := by
 rw [List.getD_eq_getElem?_getD, List.getElem?_eq_getElem h]
 exact List.getElem_mem h
set_option maxRecDepth 100000 in
set_option maxHeartbeats 4000000 in
theorem rrun_k {next rule : List Int} {an ar : Option Addr} {cn cr : Nat} {w : World} (h : Tab w next rule an ar) (s : ByteArray) (hs : s.size ≤ 1000000) :
  Calls Tryz.prog 19 #[.agg #[.slice an next.length cn, .slice ar rule.length cr], .string s] w fun e w' => e = .returned (.int .i64 (ruleV rule (goV next rule.length (sb s)))) ∧ Below w.heap.size w w' := by
 obtain ⟨W0, hW0⟩ : ∃ W0, W0 = w.alloc (.cells #[.slice an next.length cn, .slice ar rule.length cr] 28) := ⟨_, rfl⟩
 obtain ⟨U, hU⟩ : ∃ U, U = w.heap.size := ⟨_, rfl⟩
 have hB : Below w.heap.size w W0 := by rw [hW0]; exact (Below.refl w.heap.size w).alloc (Nat.le_refl _) _
 have u0 : Bx W0 U 28 #[.slice an next.length cn, .slice ar rule.length cr] := by rw [hW0, hU]; exact Bx.new w 28 _
 have hT := h.below hB (Nat.le_refl _)
 have kc := rchk_ok (cn := cn) (cr := cr) hT
 obtain ⟨rv, hrv⟩ : ∃ rv, rv = ruleV rule (goV next rule.length (sb s)) := ⟨_, rfl⟩
 have HG : Hid (∀ k, k ≤ s.size → goV next rule.length ((sb s).take k) < 0 → rv = -1) := Lib.hid fun k hk h => by
  have h0 : goV next rule.length ((sb s).take k) = -1 := by
   have hb : ∀ l : List Nat, goV next rule.length l < 0 → goV next rule.length l = -1 := fun l => by
    rcases List.eq_nil_or_concat l with rfl | ⟨l', b, rfl⟩
    · intro h; have : goV next rule.length [] = 0 := rfl; omega
    · rw [List.concat_eq_append, goV_snoc]
      unfold stepV
      split
      · intro hlt
        by_cases hi : 256 * (goV next rule.length l').toNat + b < next.length
        · have := (hT.bd _ (getD_mem' hi)).1
          omega
        · rw [List.getD_eq_getElem?_getD, List.getElem?_eq_none (by omega)] at hlt
          exact absurd hlt (by decide)
      · intro _; rfl
   exact hb _ h
  have e : goV next rule.length (sb s) = -1 := by
   conv => lhs; rw [← List.take_append_drop k (sb s)]
   unfold goV at h0 ⊢
   rw [List.foldl_append, h0, fold_neg]
  rw [hrv, e]; exact if_neg (by omega)
 have HE : goV next rule.length ((sb s).take s.size) = goV next rule.length (sb s) := by rw [← sb_len, List.take_length]
 have HS : Hid (∀ (k st : Nat) (hk : k < s.size), st < rule.length → goV next rule.length ((sb s).take k) = st → (s[k]'hk).toNat < 256 ∧ goV next rule.length ((sb s).take (k + 1)) = next.getD (256 * st + (s[k]'hk).toNat) 0 ∧ next.getD (256 * st + (s[k]'hk).toNat) 0 < rule.length ∧
   256 * st + (s[k]'hk).toNat < next.length ∧ ∃ b off, an = some ⟨b, off, none⟩ ∧ b < W0.heap.size ∧ W0.cell? ⟨b, off + (256 * st + (s[k]'hk).toNat), none⟩ = some (.int .i64 (next.getD (256 * st + (s[k]'hk).toNat) 0))) := Lib.hid fun k st hk hst h => by
  have hk' : k < (sb s).length := by rw [sb_len]; exact hk
  have hbe : (s[k]'hk).toNat = (sb s)[k] := by
   have hkd : k < s.data.size := hk
   have h1 : (sb s)[k]? = some s.data[k].toNat := by
    unfold sb
    rw [List.getElem?_map, Array.getElem?_toList, Array.getElem?_eq_getElem hkd]
    rfl
   rw [List.getElem?_eq_getElem hk'] at h1
   exact (Option.some.inj h1).symm
  have hb := sb_lt s k hk'
  rw [hbe]
  have hlt : 256 * st + (sb s)[k] < next.length := by have := hT.nl; omega
  have e : next.getD (256 * st + (sb s)[k]) 0 = next[256 * st + (sb s)[k]] := by simp [hlt]
  obtain ⟨b, off, h1, h2, h3⟩ := hT.hN.at hlt
  refine ⟨hb, ?_, ?_, hlt, b, off, h1, h2, by rw [e]; exact h3⟩
  · rw [List.take_succ_eq_append_getElem hk', goV_snoc, h, stepV, if_pos ⟨by omega, by omega⟩]; rfl
  · rw [e]; exact (hT.bd _ (List.getElem_mem _)).2
 have HR : Hid (∀ st : Nat, st < rule.length → goV next rule.length ((sb s).take s.size) = st → ∃ b off x, ar = some ⟨b, off, none⟩ ∧ b < W0.heap.size ∧ W0.cell? ⟨b, off + st, none⟩ = some (.int .i64 x) ∧ rv = x) := Lib.hid fun st hst h => by
  obtain ⟨b, off, h1, h2, h3⟩ := hT.hR.at hst
  refine ⟨b, off, rule[st], h1, h2, h3, ?_⟩
  rw [hrv, ← HE, h, ruleV, if_pos ⟨by omega, by omega⟩]
  simp [hst]
 have HQ : Hid (goV next rule.length ((sb s).take 0) = 0) := Lib.hid rfl
 rw [← hrv]
 have hr1 := hT.r1
 have hr2 := hT.r2
 have d0 := u0.cell 0
 have d1 := u0.cell 1
 change W0.cell? _ = some (Value.slice an next.length cn) at d0
 change W0.cell? _ = some (Value.slice ar rule.length cr) at d1
 clear hrv hT h HE
 obtain ⟨G, hG⟩ : ∃ G : Nat → Int, G = fun k => goV next rule.length ((sb s).take k) := ⟨_, rfl⟩
 have HG' : Hid (∀ k, k ≤ s.size → G k < 0 → rv = -1) := Lib.hid (by rw [hG]; exact HG.out)
 have HS' : Hid (∀ (k st : Nat) (hk : k < s.size), st < rule.length → G k = st → (s[k]'hk).toNat < 256 ∧ G (k + 1) = next.getD (256 * st + (s[k]'hk).toNat) 0 ∧ next.getD (256 * st + (s[k]'hk).toNat) 0 < rule.length ∧
  256 * st + (s[k]'hk).toNat < next.length ∧ ∃ b off, an = some ⟨b, off, none⟩ ∧ b < W0.heap.size ∧ W0.cell? ⟨b, off + (256 * st + (s[k]'hk).toNat), none⟩ = some (.int .i64 (next.getD (256 * st + (s[k]'hk).toNat) 0))) := Lib.hid (by rw [hG]; exact HS.out)
 have HR' : Hid (∀ st : Nat, st < rule.length → G s.size = st → ∃ b off x, ar = some ⟨b, off, none⟩ ∧ b < W0.heap.size ∧ W0.cell? ⟨b, off + st, none⟩ = some (.int .i64 x) ∧ rv = x) := Lib.hid (by rw [hG]; exact HR.out)
 have HQ' : Hid (G 0 = 0) := Lib.hid (by rw [hG]; exact HQ.out)
 clear HG HS HR HQ hG
 have HW := Lib.hid hW0
 have HU := Lib.hid hU
 generalize rule.length = R at *
 obtain ⟨nl, hnl⟩ : ∃ nl, nl = next.length := ⟨_, rfl⟩
 have HNL := Lib.hid hnl
 rw [← hnl] at d0 kc
 have hW1 := hW0
 rw [← hnl] at hW1
 have HW1 := Lib.hid hW1
 rw [← hnl]
 clear hW0 hU hnl hW1 u0 HW
 go_enter Tryz.func19, Tryz.ntmps19
 go_upto_region 1 with (fail)
 rw [← HW1.out, ← HU.out]
 go_upto_region 3 with (go_at_call 11; ((with_reducible refine kc.mono ?_); rintro e Wd ⟨rfl, hBd⟩))
 have hU0 : U < W0.heap.size := by rw [HW1.out, HU.out]; simp
 have e0 := (hBd.cell (p := ⟨U, 0, none⟩) hU0).trans d0
 have e1 := (hBd.cell (p := ⟨U, 1, none⟩) hU0).trans d1
 have hfin := hB.trans (hBd.mono hB.size)
 have hUd : U < Wd.heap.size := Nat.lt_of_lt_of_le hU0 hBd.size
 have HC : Hid (∀ b o v, b < W0.heap.size → W0.cell? ⟨b, o, none⟩ = some v → Wd.cell? ⟨b, o, none⟩ = some v ∧ b < Wd.heap.size) := Lib.hid fun b o v hb hv => ⟨(hBd.cell (p := ⟨b, o, none⟩) hb).trans hv, Nat.lt_of_lt_of_le hb hBd.size⟩
 clear d0 d1 kc hU0
 go_wp2_with fail
 go_loopw [5, 6] (fun at_ i wr => ∃ (k : Nat) (z : Int), k ≤ s.size ∧ z < R ∧ i = .int .i64 k ∧ at_ = .int .i64 z ∧ Hid (G k = z) ∧ Below Wd.heap.size Wd wr) (fun _ i _ => s.size - (intOf i).toNat)
 case atStart => exact ⟨0, 0, Nat.zero_le _, by omega, rfl, rfl, HQ', Below.refl _ _⟩
 case round =>
  obtain ⟨k, z, hk, hz, rfl, rfl, hg, hbr⟩ := hrel
  have f0 := (hbr.cell (p := ⟨U, 0, none⟩) hUd).trans e0
  have f1 := (hbr.cell (p := ⟨U, 1, none⟩) hUd).trans e1
  have hk0 : (0 : Int) ≤ (k : Int) := by omega
  have hfin2 := hfin.trans (hbr.mono hfin.size)
  have hUr : U < wr.heap.size := Nat.lt_of_lt_of_le hUd hbr.size
  clear e0 e1 hBd
  by_cases hz0 : z < 0
  · have e : rv = -1 := HG'.out k hk (by rw [hg.out]; exact hz0)
    have hz1 : ¬ (0 : Int) ≤ z := by omega
    have HE := Lib.hid e
    clear e
    by_cases hlt : (k : Int) < (s.size : Int)
    · go_wp2_with fail
      go_ret
      exact ⟨by rw [HE.out]; rfl, hfin2⟩
    · go_wp2_with fail
      go_ret
      exact ⟨by rw [HE.out]; rfl, hfin2⟩
  · obtain ⟨q, rfl⟩ : ∃ q : Nat, z = (q : Int) := ⟨z.toNat, by omega⟩
    have hq0 : (0 : Int) ≤ (q : Int) := by omega
    have hqR : q < R := by omega
    have hq5 : (q : Int) < 512 := by omega
    by_cases hlt : k < s.size
    · obtain ⟨hc256, hnext, hxR, hltN, b, off, rfl, hb, hcell⟩ := HS'.out k q hlt hqR hg.out
      obtain ⟨hcell', hbd⟩ := HC.out _ _ _ hb hcell
      have hcr := (hbr.cell (p := ⟨b, off + (256 * q + (s[k]'hlt).toNat), none⟩) hbd).trans hcell'
      have hbr' : b < wr.heap.size := Nat.lt_of_lt_of_le hbd hbr.size
      have A0 := AX.cell_all hcr hbr'
      have A1 := AX.cell_all f0 hUr
      have hk1 : (k : Int) < (s.size : Int) := by omega
      have hc0 : (0 : Int) ≤ ((s[k]'hlt).toNat : Int) := by omega
      have hc1 : ((s[k]'hlt).toNat : Int) < 256 := by omega
      have hqc : 256 * (q : Int) + ((s[k]'hlt).toNat : Int) < (nl : Int) := by have := HNL.out; omega
      have hqc0 : (0 : Int) ≤ 256 * (q : Int) + ((s[k]'hlt).toNat : Int) := by omega
      have htn : (256 * (q : Int) + ((s[k]'hlt).toNat : Int)).toNat = 256 * q + (s[k]'hlt).toNat := by omega
      obtain ⟨x, hx⟩ : ∃ x, x = next.getD (256 * q + (s[k]'hlt).toNat) 0 := ⟨_, rfl⟩
      rw [← hx] at A0 hnext hxR
      have HX := Lib.hid hnext
      clear hcell hcell' hcr hnext hx hltN f1
      go_upto_region 7 with (fail)
      refine AX.region_below (by kernel_rfl) (by kernel_rfl) ?_
      repeat (go_big_quiet_step (fail))
      refine wpQuiet_nil ?_
      rintro W4 ⟨p4, rfl⟩
      obtain ⟨W4, hb4⟩ := p4
      change Below _ _ _ at hb4
      have hb4' := hbr.trans (hb4.mono hbr.size)
      clear A0 A1
      go_wp2_with fail
      go_round
      case rel => exact ⟨k + 1, x, by omega, hxR, by simp, rfl, HX, hb4'⟩
      case measure => simp [intOf]; omega
    · obtain rfl : k = s.size := by omega
      obtain ⟨b, off, x, rfl, hb, hcell, hrv⟩ := HR'.out q hqR hg.out
      obtain ⟨hcell', hbd⟩ := HC.out _ _ _ hb hcell
      have hcr := (hbr.cell (p := ⟨b, off + q, none⟩) hbd).trans hcell'
      have hq1 : (q : Int) < (R : Int) := by omega
      have HE := Lib.hid hrv
      clear hrv hcell hcell' f0
      go_wp2_with fail
      go_ret
      exact ⟨by rw [HE.out]; rfl, hfin2⟩
theorem eq_len {l1 l2 : List Int} (h : l1.length ≠ l2.length) : decide (l1 = l2) = false := decide_eq_false fun e => h (by rw [e])
theorem eq_at {l1 l2 : List Int} {k : Nat} (h : l1.getD k 0 ≠ l2.getD k 0) : decide (l1 = l2) = false := decide_eq_false fun e => h (by rw [e])
theorem eq_all {l1 l2 : List Int} (h : l1.length = l2.length) (h2 : ∀ k, k < l1.length → l1.getD k 0 = l2.getD k 0) : decide (l1 = l2) = true := decide_eq_true (List.ext_getElem h fun k h3 h4 => by
 have := h2 k h3
 simpa [h3, h4] using this)
set_option maxRecDepth 100000 in
set_option maxHeartbeats 4000000 in
theorem equal_k (l1 l2 : List Int) (hn : l1.length ≤ 1000000) (hr : l2.length ≤ 1000000) (a1 a2 : Option Addr) (c1 c2 : Nat) (w : World) (hI1 : IRow w a1 l1) (hI2 : IRow w a2 l2) :
  Calls Tryz.prog 36 #[.slice a1 l1.length c1, .slice a2 l2.length c2] w fun e w' => e = .returned (.bool (decide (l1 = l2))) ∧ Below w.heap.size w w' := by
 obtain ⟨bv, hbv⟩ : ∃ bv, bv = decide (l1 = l2) := ⟨_, rfl⟩
 have H1 : Hid (∀ k, k < l1.length → ∃ b off, a1 = some ⟨b, off, none⟩ ∧ b < w.heap.size ∧ w.cell? ⟨b, off + k, none⟩ = some (.int .i64 (l1.getD k 0))) := Lib.hid fun k hk => by
  obtain ⟨b, off, h1, h2, h3⟩ := hI1.at hk
  exact ⟨b, off, h1, h2, by rw [h3]; simp [hk]⟩
 have H2 : Hid (∀ k, k < l2.length → ∃ b off, a2 = some ⟨b, off, none⟩ ∧ b < w.heap.size ∧ w.cell? ⟨b, off + k, none⟩ = some (.int .i64 (l2.getD k 0))) := Lib.hid fun k hk => by
  obtain ⟨b, off, h1, h2, h3⟩ := hI2.at hk
  exact ⟨b, off, h1, h2, by rw [h3]; simp [hk]⟩
 have V1 : Hid (l1.length ≠ l2.length → bv = false) := Lib.hid fun h => by rw [hbv]; exact eq_len h
 have V2 : Hid (∀ k, l1.getD k 0 ≠ l2.getD k 0 → bv = false) := Lib.hid fun k h => by rw [hbv]; exact eq_at h
 have V3 : Hid (l1.length = l2.length → (∀ k, k < l1.length → l1.getD k 0 = l2.getD k 0) → bv = true) := Lib.hid fun h h2 => by rw [hbv]; exact eq_all h h2
 rw [← hbv]
 clear hbv hI1 hI2
 obtain ⟨g1, hg1⟩ : ∃ g : Nat → Int, g = fun k => l1.getD k 0 := ⟨_, rfl⟩
 obtain ⟨g2, hg2⟩ : ∃ g : Nat → Int, g = fun k => l2.getD k 0 := ⟨_, rfl⟩
 replace H1 : Hid (∀ k, k < l1.length → ∃ b off, a1 = some ⟨b, off, none⟩ ∧ b < w.heap.size ∧ w.cell? ⟨b, off + k, none⟩ = some (.int .i64 (g1 k))) := by rw [hg1]; exact H1
 replace H2 : Hid (∀ k, k < l2.length → ∃ b off, a2 = some ⟨b, off, none⟩ ∧ b < w.heap.size ∧ w.cell? ⟨b, off + k, none⟩ = some (.int .i64 (g2 k))) := by rw [hg2]; exact H2
 replace V2 : Hid (∀ k, g1 k ≠ g2 k → bv = false) := by rw [hg1, hg2]; exact V2
 replace V3 : Hid (l1.length = l2.length → (∀ k, k < l1.length → g1 k = g2 k) → bv = true) := by rw [hg1, hg2]; exact V3
 clear hg1 hg2
 generalize l1.length = n1 at *
 generalize l2.length = n2 at *
 by_cases hne : n1 = n2
 · subst hne
   go_enter Tryz.func36, Tryz.ntmps36
   go_wp2_with fail
   go_loopw [13] (fun i wr => ∃ k : Nat, k ≤ n1 ∧ i = .int .i64 k ∧ Hid (∀ j, j < k → g1 j = g2 j) ∧ Below w.heap.size w wr) (fun i _ => n1 - (intOf i).toNat)
   case atStart => exact ⟨0, Nat.zero_le _, rfl, Lib.hid (fun j hj => by omega), Below.refl _ _⟩
   case round =>
    obtain ⟨k, hk, rfl, hok, hb⟩ := hrel
    by_cases hlt : k < n1
    · obtain ⟨b1, o1, rfl, hb1, hc1⟩ := H1.out k hlt
      obtain ⟨b2, o2, rfl, hb2, hc2⟩ := H2.out k hlt
      have A0 := AX.cell_all ((hb.cell (p := ⟨b1, o1 + k, none⟩) hb1).trans hc1) (Nat.lt_of_lt_of_le hb1 hb.size)
      have A1 := AX.cell_all ((hb.cell (p := ⟨b2, o2 + k, none⟩) hb2).trans hc2) (Nat.lt_of_lt_of_le hb2 hb.size)
      obtain ⟨x1, hx1⟩ : ∃ x, x = g1 k := ⟨_, rfl⟩
      obtain ⟨x2, hx2⟩ : ∃ x, x = g2 k := ⟨_, rfl⟩
      rw [← hx1] at A0
      rw [← hx2] at A1
      have HX1 := Lib.hid hx1
      have HX2 := Lib.hid hx2
      have hk0 : (0 : Int) ≤ (k : Int) := by omega
      have hk1 : (k : Int) < (n1 : Int) := by omega
      clear hx1 hx2 hc1 hc2
      go_upto_region 6 with (fail)
      refine AX.region_below (by kernel_rfl) (by kernel_rfl) ?_
      repeat (go_big_quiet_step (fail))
      refine wpQuiet_nil ?_
      rintro W4 ⟨p4, rfl⟩
      obtain ⟨W4, hb4⟩ := p4
      change Below _ _ _ at hb4
      have hb4' := hb.trans (hb4.mono hb.size)
      clear A0 A1
      by_cases hx : x1 = x2
      · subst hx
        have hok' : Hid (∀ j, j < k + 1 → g1 j = g2 j) := Lib.hid fun j hj => by
         by_cases e : j = k
         · subst e; rw [← HX1.out, ← HX2.out]
         · exact hok.out j (by omega)
        go_wp2_with fail
        exact ⟨⟨k + 1, by omega, by simp, hok', hb4'⟩, by simp [intOf]; omega⟩
      · have e : bv = false := V2.out k (by rw [← HX1.out, ← HX2.out]; exact hx)
        subst e
        have hxb : (x1 != x2) = true := by simpa using hx
        go_wp2_with fail
        go_ret
        exact ⟨rfl, hb4'⟩
    · obtain rfl : k = n1 := by omega
      have e : bv = true := (by first | exact V3.out rfl hok.out | exact V3.out trivial hok.out)
      subst e
      have hkk : ¬ (k : Int) < (k : Int) := by omega
      go_wp2_with fail
      go_ret
      exact ⟨rfl, hb⟩
 · have e : bv = false := V1.out hne
   subst e
   have hnb : ((n1 : Int) != (n2 : Int)) = true := by simp; omega
   go_enter Tryz.func36, Tryz.ntmps36
   go_wp2_with fail
   go_ret
   exact ⟨rfl, Below.refl _ _⟩
set_option maxRecDepth 100000 in
set_option maxHeartbeats 4000000 in
theorem same_k (n1 r1 n2 r2 : List Int) (hn1 : n1.length ≤ 1000000) (hr1 : r1.length ≤ 1000000) (hn2 : n2.length ≤ 1000000) (hr2 : r2.length ≤ 1000000) (an1 ar1 an2 ar2 : Option Addr) (cn1 cr1 cn2 cr2 : Nat) (w : World) (hN1 : IRow w an1 n1) (hR1 : IRow w ar1 r1) (hN2 : IRow w an2 n2) (hR2 : IRow w ar2 r2) :
  Calls Tryz.prog 20 #[.agg #[.slice an1 n1.length cn1, .slice ar1 r1.length cr1], .agg #[.slice an2 n2.length cn2, .slice ar2 r2.length cr2]] w fun e w' => e = .returned (.bool (decide (n1 = n2) && decide (r1 = r2))) ∧ Below w.heap.size w w' := by
 obtain ⟨x0, hx0⟩ : ∃ v, v = Value.slice an1 n1.length cn1 := ⟨_, rfl⟩
 obtain ⟨x1, hx1⟩ : ∃ v, v = Value.slice ar1 r1.length cr1 := ⟨_, rfl⟩
 obtain ⟨y0, hy0⟩ : ∃ v, v = Value.slice an2 n2.length cn2 := ⟨_, rfl⟩
 obtain ⟨y1, hy1⟩ : ∃ v, v = Value.slice ar2 r2.length cr2 := ⟨_, rfl⟩
 have k1 : ∀ W, Below w.heap.size w W → Calls Tryz.prog 36 #[x0, y0] W fun e w' => e = .returned (.bool (decide (n1 = n2))) ∧ Below W.heap.size W w' := fun W hb => by
  rw [hx0, hy0]; exact equal_k n1 n2 hn1 hn2 an1 an2 cn1 cn2 W (hN1.below hb (Nat.le_refl _)) (hN2.below hb (Nat.le_refl _))
 have k2 : ∀ W, Below w.heap.size w W → Calls Tryz.prog 36 #[x1, y1] W fun e w' => e = .returned (.bool (decide (r1 = r2))) ∧ Below W.heap.size W w' := fun W hb => by
  rw [hx1, hy1]; exact equal_k r1 r2 hr1 hr2 ar1 ar2 cr1 cr2 W (hR1.below hb (Nat.le_refl _)) (hR2.below hb (Nat.le_refl _))
 rw [← hx0, ← hx1, ← hy0, ← hy1]
 have o0 : x0.oneCell' = true := by rw [hx0]; rfl
 have o1 : x1.oneCell' = true := by rw [hx1]; rfl
 have o2 : y0.oneCell' = true := by rw [hy0]; rfl
 have o3 : y1.oneCell' = true := by rw [hy1]; rfl
 obtain ⟨W0, hW0⟩ : ∃ W0, W0 = (w.alloc (.cells #[x0, x1] 28)).alloc (.cells #[y0, y1] 28) := ⟨_, rfl⟩
 obtain ⟨U, hU⟩ : ∃ U, U = w.heap.size := ⟨_, rfl⟩
 have hB : Below w.heap.size w W0 := by rw [hW0]; exact ((Below.refl _ w).alloc (Nat.le_refl _) _).alloc (by simp) _
 have u0 : Bx W0 U 28 #[x0, x1] := by rw [hW0, hU]; exact (Bx.new w 28 _).alloc _
 have u1 : Bx W0 (U + 1) 28 #[y0, y1] := by
  have := Bx.new (w.alloc (.cells #[x0, x1] 28)) 28 #[y0, y1]
  rw [World.size_alloc] at this
  rw [hW0, hU]; exact this
 have d0 := u0.cell 0
 have d1 := u1.cell 0
 have HW := Lib.hid hW0
 have HU := Lib.hid hU
 generalize decide (n1 = n2) = b1 at *
 generalize decide (r1 = r2) = b2 at *
 clear hW0 hU hx0 hx1 hy0 hy1 hN1 hR1 hN2 hR2
 go_enter Tryz.func20, Tryz.ntmps20
 go_upto_region 1 with (fail)
 rw [← HW.out, ← HU.out]
 cases b1 with
 | false =>
  go_wp2_with (first
   | (go_at_call 36; (with_reducible refine (k1 _ hB).mono ?_); rintro e W2 ⟨rfl, hb2⟩; have hfin := hB.trans (hb2.mono hB.size)))
  go_ret
  exact ⟨rfl, hfin⟩
 | true =>
  go_wp2_with (first
   | (go_at_call 36; (with_reducible refine (k1 _ hB).mono ?_); rintro e W2 ⟨rfl, hb2⟩; have hB2 := hB.trans (hb2.mono hB.size); have v0 := u0.below hb2 u0.lt; have v1 := u1.below hb2 u1.lt; have e0 := v0.cell 1; have e1 := v1.cell 1)
   | (go_at_call 36; (with_reducible refine (k2 _ hB2).mono ?_); rintro e W3 ⟨rfl, hb3⟩; have hfin := hB2.trans (hb3.mono hB2.size)))
  all_goals (first | (go_ret; exact ⟨by simp, hfin⟩) | (exact bodyPost_ret (v := .bool b2) (by simp [results, Tryz.results20, go_sem]) rfl ⟨by simp, hfin⟩))
set_option maxRecDepth 100000 in
set_option maxHeartbeats 4000000 in
theorem rsame_k (n1 r1 n2 r2 : List Int) (hn1 : n1.length ≤ 1000000) (hr1 : r1.length ≤ 1000000) (hn2 : n2.length ≤ 1000000) (hr2 : r2.length ≤ 1000000) (an1 ar1 an2 ar2 : Option Addr) (cn1 cr1 cn2 cr2 : Nat) (w : World) (hN1 : IRow w an1 n1) (hR1 : IRow w ar1 r1) (hN2 : IRow w an2 n2) (hR2 : IRow w ar2 r2) :
  Calls Tryz.prog 9 #[.agg #[.slice an1 n1.length cn1, .slice ar1 r1.length cr1], .agg #[.slice an2 n2.length cn2, .slice ar2 r2.length cr2]] w fun e w' => e = .returned (.bool (decide (n1 = n2) && decide (r1 = r2))) ∧ Below w.heap.size w w' := by
 obtain ⟨bv, hbv⟩ : ∃ bv, bv = (decide (n1 = n2) && decide (r1 = r2)) := ⟨_, rfl⟩
 have P1 : Hid (∀ k, k < n1.length → ∃ b off, an1 = some ⟨b, off, none⟩ ∧ b < w.heap.size ∧ w.cell? ⟨b, off + k, none⟩ = some (.int .i64 (n1.getD k 0))) := Lib.hid fun k hk => by
  obtain ⟨b, off, h1, h2, h3⟩ := hN1.at hk
  exact ⟨b, off, h1, h2, by rw [h3]; simp [hk]⟩
 have P2 : Hid (∀ k, k < n2.length → ∃ b off, an2 = some ⟨b, off, none⟩ ∧ b < w.heap.size ∧ w.cell? ⟨b, off + k, none⟩ = some (.int .i64 (n2.getD k 0))) := Lib.hid fun k hk => by
  obtain ⟨b, off, h1, h2, h3⟩ := hN2.at hk
  exact ⟨b, off, h1, h2, by rw [h3]; simp [hk]⟩
 have Q1 : Hid (∀ k, k < r1.length → ∃ b off, ar1 = some ⟨b, off, none⟩ ∧ b < w.heap.size ∧ w.cell? ⟨b, off + k, none⟩ = some (.int .i64 (r1.getD k 0))) := Lib.hid fun k hk => by
  obtain ⟨b, off, h1, h2, h3⟩ := hR1.at hk
  exact ⟨b, off, h1, h2, by rw [h3]; simp [hk]⟩
 have Q2 : Hid (∀ k, k < r2.length → ∃ b off, ar2 = some ⟨b, off, none⟩ ∧ b < w.heap.size ∧ w.cell? ⟨b, off + k, none⟩ = some (.int .i64 (r2.getD k 0))) := Lib.hid fun k hk => by
  obtain ⟨b, off, h1, h2, h3⟩ := hR2.at hk
  exact ⟨b, off, h1, h2, by rw [h3]; simp [hk]⟩
 have VL : Hid (n1.length ≠ n2.length ∨ r1.length ≠ r2.length → bv = false) := Lib.hid fun h => by
  rw [hbv]
  rcases h with h | h
  · rw [eq_len h]; rfl
  · rw [eq_len h, Bool.and_false]
 have VN : Hid (∀ k, n1.getD k 0 ≠ n2.getD k 0 → bv = false) := Lib.hid fun k h => by rw [hbv, eq_at h]; rfl
 have VR : Hid (∀ k, r1.getD k 0 ≠ r2.getD k 0 → bv = false) := Lib.hid fun k h => by rw [hbv, eq_at h, Bool.and_false]
 have VG : Hid (n1.length = n2.length → r1.length = r2.length → (∀ k, k < n1.length → n1.getD k 0 = n2.getD k 0) → (∀ k, k < r1.length → r1.getD k 0 = r2.getD k 0) → bv = true) := Lib.hid fun h1 h2 h3 h4 => by rw [hbv, eq_all h1 h3, eq_all h2 h4]; rfl
 rw [← hbv]
 clear hbv hN1 hR1 hN2 hR2
 obtain ⟨g1, hg1⟩ : ∃ g : Nat → Int, g = fun k => n1.getD k 0 := ⟨_, rfl⟩
 obtain ⟨g2, hg2⟩ : ∃ g : Nat → Int, g = fun k => n2.getD k 0 := ⟨_, rfl⟩
 obtain ⟨f1, hf1⟩ : ∃ g : Nat → Int, g = fun k => r1.getD k 0 := ⟨_, rfl⟩
 obtain ⟨f2, hf2⟩ : ∃ g : Nat → Int, g = fun k => r2.getD k 0 := ⟨_, rfl⟩
 replace P1 : Hid (∀ k, k < n1.length → ∃ b off, an1 = some ⟨b, off, none⟩ ∧ b < w.heap.size ∧ w.cell? ⟨b, off + k, none⟩ = some (.int .i64 (g1 k))) := by rw [hg1]; exact P1
 replace P2 : Hid (∀ k, k < n2.length → ∃ b off, an2 = some ⟨b, off, none⟩ ∧ b < w.heap.size ∧ w.cell? ⟨b, off + k, none⟩ = some (.int .i64 (g2 k))) := by rw [hg2]; exact P2
 replace Q1 : Hid (∀ k, k < r1.length → ∃ b off, ar1 = some ⟨b, off, none⟩ ∧ b < w.heap.size ∧ w.cell? ⟨b, off + k, none⟩ = some (.int .i64 (f1 k))) := by rw [hf1]; exact Q1
 replace Q2 : Hid (∀ k, k < r2.length → ∃ b off, ar2 = some ⟨b, off, none⟩ ∧ b < w.heap.size ∧ w.cell? ⟨b, off + k, none⟩ = some (.int .i64 (f2 k))) := by rw [hf2]; exact Q2
 replace VN : Hid (∀ k, g1 k ≠ g2 k → bv = false) := by rw [hg1, hg2]; exact VN
 replace VR : Hid (∀ k, f1 k ≠ f2 k → bv = false) := by rw [hf1, hf2]; exact VR
 replace VG : Hid (n1.length = n2.length → r1.length = r2.length → (∀ k, k < n1.length → g1 k = g2 k) → (∀ k, k < r1.length → f1 k = f2 k) → bv = true) := by rw [hg1, hg2, hf1, hf2]; exact VG
 clear hg1 hg2 hf1 hf2
 generalize n1.length = nn at *
 generalize n2.length = mm at *
 generalize r1.length = rr at *
 generalize r2.length = ss at *
 obtain ⟨W0, hW0⟩ : ∃ W0, W0 = (w.alloc (.cells #[.slice an1 nn cn1, .slice ar1 rr cr1] 28)).alloc (.cells #[.slice an2 mm cn2, .slice ar2 ss cr2] 28) := ⟨_, rfl⟩
 obtain ⟨U, hU⟩ : ∃ U, U = w.heap.size := ⟨_, rfl⟩
 have hB : Below w.heap.size w W0 := by rw [hW0]; exact ((Below.refl _ w).alloc (Nat.le_refl _) _).alloc (by simp) _
 have u0 : Bx W0 U 28 #[.slice an1 nn cn1, .slice ar1 rr cr1] := by rw [hW0, hU]; exact (Bx.new w 28 _).alloc _
 have u1 : Bx W0 (U + 1) 28 #[.slice an2 mm cn2, .slice ar2 ss cr2] := by
  have := Bx.new (w.alloc (.cells #[.slice an1 nn cn1, .slice ar1 rr cr1] 28)) 28 #[.slice an2 mm cn2, .slice ar2 ss cr2]
  rw [World.size_alloc] at this
  rw [hW0, hU]; exact this
 have d0 : W0.cell? ⟨U, 0, none⟩ = some (.slice an1 nn cn1) := u0.cell 0
 have d1 : W0.cell? ⟨U, 1, none⟩ = some (.slice ar1 rr cr1) := u0.cell 1
 have d2 : W0.cell? ⟨U + 1, 0, none⟩ = some (.slice an2 mm cn2) := u1.cell 0
 have d3 : W0.cell? ⟨U + 1, 1, none⟩ = some (.slice ar2 ss cr2) := u1.cell 1
 have lt0 := u0.lt
 have lt1 := u1.lt
 have HW := Lib.hid hW0
 have HU := Lib.hid hU
 clear hW0 hU u0 u1
 go_enter Tryz.func9, Tryz.ntmps9
 go_upto_region 1 with (fail)
 rw [← HW.out, ← HU.out]
 by_cases hne : nn = mm
 rotate_left
 · have e : bv = false := VL.out (.inl hne)
   subst e
   have hnb : ((nn : Int) != (mm : Int)) = true := by simp; omega
   go_wp2_with fail
   go_ret
   exact ⟨rfl, hB⟩
 by_cases hnr : rr = ss
 rotate_left
 · have e : bv = false := VL.out (.inr hnr)
   subst e
   subst hne
   have hnb : ((rr : Int) != (ss : Int)) = true := by simp; omega
   go_wp2_with fail
   go_ret
   exact ⟨rfl, hB⟩
 subst hne
 subst hnr
 go_wp2_with fail
 go_loopw [5] (fun i wr => ∃ k : Nat, k ≤ nn ∧ i = .int .i64 k ∧ Hid (∀ j, j < k → g1 j = g2 j) ∧ Below W0.heap.size W0 wr) (fun i _ => nn - (intOf i).toNat)
 case atStart => exact ⟨0, Nat.zero_le _, rfl, Lib.hid (fun j hj => by omega), Below.refl _ _⟩
 case round =>
  obtain ⟨k, hk, rfl, hok, hb⟩ := hrel
  have hBB := hB.trans (hb.mono hB.size)
  have c0 := (hb.cell (p := ⟨U, 0, none⟩) lt0).trans d0
  have c2 := (hb.cell (p := ⟨U + 1, 0, none⟩) lt1).trans d2
  by_cases hlt : k < nn
  · obtain ⟨b1, o1, rfl, hb1, hc1⟩ := P1.out k hlt
    obtain ⟨b2, o2, rfl, hb2, hc2⟩ := P2.out k hlt
    have A0 := AX.cell_all ((hBB.cell (p := ⟨b1, o1 + k, none⟩) hb1).trans hc1) (Nat.lt_of_lt_of_le hb1 hBB.size)
    have A1 := AX.cell_all ((hBB.cell (p := ⟨b2, o2 + k, none⟩) hb2).trans hc2) (Nat.lt_of_lt_of_le hb2 hBB.size)
    have A2 := AX.cell_all c0 (Nat.lt_of_lt_of_le lt0 hb.size)
    have A3 := AX.cell_all c2 (Nat.lt_of_lt_of_le lt1 hb.size)
    obtain ⟨x1, hx1⟩ : ∃ x, x = g1 k := ⟨_, rfl⟩
    obtain ⟨x2, hx2⟩ : ∃ x, x = g2 k := ⟨_, rfl⟩
    rw [← hx1] at A0
    rw [← hx2] at A1
    have HX1 := Lib.hid hx1
    have HX2 := Lib.hid hx2
    have hk0 : (0 : Int) ≤ (k : Int) := by omega
    have hk1 : (k : Int) < (nn : Int) := by omega
    clear hx1 hx2 hc1 hc2
    go_upto_region 6 with (fail)
    refine AX.region_below (by kernel_rfl) (by kernel_rfl) ?_
    repeat (go_big_quiet_step (fail))
    refine wpQuiet_nil ?_
    rintro W4 ⟨p4, rfl⟩
    obtain ⟨W4, hb4⟩ := p4
    change Below _ _ _ at hb4
    have hb4' := hb.trans (hb4.mono hb.size)
    have hB4 := hBB.trans (hb4.mono hBB.size)
    clear A0 A1 A2 A3
    by_cases hx : x1 = x2
    · subst hx
      have hok' : Hid (∀ j, j < k + 1 → g1 j = g2 j) := Lib.hid fun j hj => by
       by_cases e : j = k
       · subst e; rw [← HX1.out, ← HX2.out]
       · exact hok.out j (by omega)
      go_wp2_with fail
      exact ⟨⟨k + 1, by omega, by simp, hok', hb4'⟩, by simp [intOf]; omega⟩
    · have e : bv = false := VN.out k (by rw [← HX1.out, ← HX2.out]; exact hx)
      subst e
      have hxb : (x1 != x2) = true := by simpa using hx
      go_wp2_with fail
      go_ret
      exact ⟨rfl, hB4⟩
  · obtain rfl : k = nn := by omega
    have hkk : ¬ (k : Int) < (k : Int) := by omega
    have HOK := Lib.hid hok.out
    have e1 := (hb.cell (p := ⟨U, 1, none⟩) lt0).trans d1
    have e3 := (hb.cell (p := ⟨U + 1, 1, none⟩) lt1).trans d3
    have lt2 := Nat.lt_of_lt_of_le lt0 hb.size
    have lt3 := Nat.lt_of_lt_of_le lt1 hb.size
    obtain ⟨Wm, hWm⟩ : ∃ W, W = wr := ⟨_, rfl⟩
    rw [← hWm] at c0 c2 e1 e3 lt2 lt3 hBB ⊢
    clear hWm hok hb d0 d1 d2 d3
    go_wp2_with fail
    go_loopw [6] (fun i wr => ∃ k : Nat, k ≤ rr ∧ i = .int .i64 k ∧ Hid (∀ j, j < k → f1 j = f2 j) ∧ Below Wm.heap.size Wm wr) (fun i _ => rr - (intOf i).toNat)
    case atStart => exact ⟨0, Nat.zero_le _, rfl, Lib.hid (fun j hj => by omega), Below.refl _ _⟩
    case round =>
     obtain ⟨k, hk, rfl, hok, hb⟩ := hrel
     have hBB := hBB.trans (hb.mono hBB.size)
     have c0 := (hb.cell (p := ⟨U, 1, none⟩) lt2).trans e1
     have c2 := (hb.cell (p := ⟨U + 1, 1, none⟩) lt3).trans e3
     by_cases hlt : k < rr
     · obtain ⟨b1, o1, rfl, hb1, hc1⟩ := Q1.out k hlt
       obtain ⟨b2, o2, rfl, hb2, hc2⟩ := Q2.out k hlt
       have A0 := AX.cell_all ((hBB.cell (p := ⟨b1, o1 + k, none⟩) hb1).trans hc1) (Nat.lt_of_lt_of_le hb1 hBB.size)
       have A1 := AX.cell_all ((hBB.cell (p := ⟨b2, o2 + k, none⟩) hb2).trans hc2) (Nat.lt_of_lt_of_le hb2 hBB.size)
       have A2 := AX.cell_all c0 (Nat.lt_of_lt_of_le lt2 hb.size)
       have A3 := AX.cell_all c2 (Nat.lt_of_lt_of_le lt3 hb.size)
       obtain ⟨x1, hx1⟩ : ∃ x, x = f1 k := ⟨_, rfl⟩
       obtain ⟨x2, hx2⟩ : ∃ x, x = f2 k := ⟨_, rfl⟩
       rw [← hx1] at A0
       rw [← hx2] at A1
       have HX1 := Lib.hid hx1
       have HX2 := Lib.hid hx2
       have hk0 : (0 : Int) ≤ (k : Int) := by omega
       have hk1 : (k : Int) < (rr : Int) := by omega
       clear hx1 hx2 hc1 hc2
       go_upto_region 11 with (fail)
       refine AX.region_below (by kernel_rfl) (by kernel_rfl) ?_
       repeat (go_big_quiet_step (fail))
       refine wpQuiet_nil ?_
       rintro W4 ⟨p4, rfl⟩
       obtain ⟨W4, hb4⟩ := p4
       change Below _ _ _ at hb4
       have hb4' := hb.trans (hb4.mono hb.size)
       have hB4 := hBB.trans (hb4.mono hBB.size)
       clear A0 A1 A2 A3
       by_cases hx : x1 = x2
       · subst hx
         have hok' : Hid (∀ j, j < k + 1 → f1 j = f2 j) := Lib.hid fun j hj => by
          by_cases e : j = k
          · subst e; rw [← HX1.out, ← HX2.out]
          · exact hok.out j (by omega)
         go_wp2_with fail
         exact ⟨⟨k + 1, by omega, by simp, hok', hb4'⟩, by simp [intOf]; omega⟩
       · have e : bv = false := VR.out k (by rw [← HX1.out, ← HX2.out]; exact hx)
         subst e
         have hxb : (x1 != x2) = true := by simpa using hx
         go_wp2_with fail
         go_ret
         exact ⟨rfl, hB4⟩
     · obtain rfl : k = rr := by omega
       have hkk : ¬ (k : Int) < (k : Int) := by omega
       have e : bv = true := (by first | exact VG.out rfl rfl HOK.out hok.out | exact VG.out trivial trivial HOK.out hok.out | exact VG.out HOK.out hok.out)
       subst e
       go_wp2_with fail
       go_ret
       exact ⟨rfl, hBB⟩
end Go.Proofs.YtaadkdmbhckdeaaGreatDoor
