/- Dfa: DfaCalls 3, joined. -/
import Derived.Test.YtaadkdmbhckdeaaGreatDoorZ12
import Derived.Test.YtaadkdmbhckdeaaGreatDoorN23
namespace Go.Proofs.YtaadkdmbhckdeaaGreatDoor
open Go Go.Proofs Go.RowKit
section
variable {next rule : List Int} {an ar : Option Addr} {cn cr : Nat} {W : World}
theorem pairLen (hn : next.length ≤ 1000000) (hr : rule.length ≤ 1000000) : ∃ v : Int, ∀ (an ar : Option Addr) (cn cr : Nat) (W : World), IRow W an next → IRow W ar rule →
  (Calls Tryz.prog 12 #[.agg #[.slice an next.length cn, .slice ar rule.length cr]] W fun e w' => e = .returned (.int .i64 v) ∧ Below W.heap.size W w') ∧
  (Calls Tryz.prog 13 #[.agg #[.slice an next.length cn, .slice ar rule.length cr]] W fun e w' => e = .returned (.int .i64 v) ∧ Below W.heap.size W w') := by
 by_cases h : okT next rule = true
 · exact ⟨rule.length, fun an ar cn cr W hN hR => ⟨len_k (Tab.mk' h hN hR), rlen_k (Tab.mk' h hN hR)⟩⟩
 · exact ⟨0, fun an ar cn cr W hN hR => ⟨bad12 next rule hn hr h an ar cn cr W hN hR, bad13 next rule hn hr h an ar cn cr W hN hR⟩⟩
theorem pairStep (hn : next.length ≤ 1000000) (hr : rule.length ≤ 1000000) (st : Int) (b : Nat) (hb : b < 256) : ∃ v : Int, ∀ (an ar : Option Addr) (cn cr : Nat) (W : World), IRow W an next → IRow W ar rule →
  (Calls Tryz.prog 14 #[.agg #[.slice an next.length cn, .slice ar rule.length cr], .int .i64 st, .int .u8 (b : Nat)] W fun e w' => e = .returned (.int .i64 v) ∧ Below W.heap.size W w') ∧
  (Calls Tryz.prog 15 #[.agg #[.slice an next.length cn, .slice ar rule.length cr], .int .i64 st, .int .u8 (b : Nat)] W fun e w' => e = .returned (.int .i64 v) ∧ Below W.heap.size W w') := by
 by_cases h : okT next rule = true
 · exact ⟨_, fun an ar cn cr W hN hR => ⟨step_k (Tab.mk' h hN hR) st b hb, rstep_k (Tab.mk' h hN hR) st b hb⟩⟩
 · exact ⟨-1, fun an ar cn cr W hN hR => ⟨bad14 next rule hn hr h st b an ar cn cr W hN hR, bad15 next rule hn hr h st b an ar cn cr W hN hR⟩⟩
theorem pairRule (hn : next.length ≤ 1000000) (hr : rule.length ≤ 1000000) (st : Int) : ∃ v : Int, ∀ (an ar : Option Addr) (cn cr : Nat) (W : World), IRow W an next → IRow W ar rule →
  (Calls Tryz.prog 16 #[.agg #[.slice an next.length cn, .slice ar rule.length cr], .int .i64 st] W fun e w' => e = .returned (.int .i64 v) ∧ Below W.heap.size W w') ∧
  (Calls Tryz.prog 17 #[.agg #[.slice an next.length cn, .slice ar rule.length cr], .int .i64 st] W fun e w' => e = .returned (.int .i64 v) ∧ Below W.heap.size W w') := by
 by_cases h : okT next rule = true
 · exact ⟨_, fun an ar cn cr W hN hR => ⟨rule_k (Tab.mk' h hN hR) st, rrule_k (Tab.mk' h hN hR) st⟩⟩
 · exact ⟨-1, fun an ar cn cr W hN hR => ⟨bad16 next rule hn hr h st an ar cn cr W hN hR, bad17 next rule hn hr h st an ar cn cr W hN hR⟩⟩
theorem pairRun (hn : next.length ≤ 1000000) (hr : rule.length ≤ 1000000) (s : ByteArray) (hs : s.size ≤ 1000000) : ∃ v : Int, ∀ (an ar : Option Addr) (cn cr : Nat) (W : World), IRow W an next → IRow W ar rule →
  (Calls Tryz.prog 18 #[.agg #[.slice an next.length cn, .slice ar rule.length cr], .string s] W fun e w' => e = .returned (.int .i64 v) ∧ Below W.heap.size W w') ∧
  (Calls Tryz.prog 19 #[.agg #[.slice an next.length cn, .slice ar rule.length cr], .string s] W fun e w' => e = .returned (.int .i64 v) ∧ Below W.heap.size W w') := by
 by_cases h : okT next rule = true
 · exact ⟨_, fun an ar cn cr W hN hR => ⟨run_k (Tab.mk' h hN hR) s hs, rrun_k (Tab.mk' h hN hR) s hs⟩⟩
 · exact ⟨-1, fun an ar cn cr W hN hR => ⟨bad18 next rule hn hr h s an ar cn cr W hN hR, bad19 next rule hn hr h s an ar cn cr W hN hR⟩⟩
theorem pairCheck (hn : next.length ≤ 1000000) (hr : rule.length ≤ 1000000) : ∃ v : Int, ∀ (an ar : Option Addr) (cn cr : Nat) (W : World), IRow W an next → IRow W ar rule →
  (Calls Tryz.prog 10 #[.agg #[.slice an next.length cn, .slice ar rule.length cr]] W fun e w' => e = .returned (.int .i64 v) ∧ Below W.heap.size W w') ∧
  (Calls Tryz.prog 11 #[.agg #[.slice an next.length cn, .slice ar rule.length cr]] W fun e w' => e = .returned (.int .i64 v) ∧ Below W.heap.size W w') :=
 ⟨_, fun an ar cn cr W hN hR => ⟨check_k next rule hn hr an ar cn cr W hN hR, rchk_k next rule hn hr an ar cn cr W hN hR⟩⟩
end
def BAns (w : World) (next rule : List Int) (er : Int) (e : Ending) (w' : World) : Prop :=
 ∃ an ar cn cr, e = .returned (.tuple #[.agg #[.slice an next.length cn, .slice ar rule.length cr], .int .i64 er]) ∧ IRow w' an next ∧ IRow w' ar rule ∧ Below w.heap.size w w'
theorem irow_nil (W : World) (a : Option Addr) : IRow W a [] := fun h => absurd rfl h
theorem pairBuild (N : Nf) (hlen : N.cl.length ≤ 12) (room : Int) (hroom : room ≤ 64 ∨ 512 < room) : ∃ (next rule : List Int) (er : Int), next.length ≤ 1000000 ∧ rule.length ≤ 1000000 ∧ ∀ (ac an ar : Option Addr) (cc cn cr : Nat) (w : World), 0 < w.heap.size → TabAt w → NfAt w N ac an ar →
  Calls Tryz.prog 7 #[.agg #[.slice ac N.cl.length cc, .slice an N.nx.length cn, .slice ar N.ru.length cr], .int .i64 room] w (BAns w next rule er) ∧
  Calls Tryz.prog 8 #[.agg #[.slice ac N.cl.length cc, .slice an N.nx.length cn, .slice ar N.ru.length cr], .int .i64 room] w (BAns w next rule er) := by
 have emp : ∀ (er : Int) (e : Ending) (w w' : World), e = .returned (.tuple #[.agg #[.slice none 0 0, .slice none 0 0], .int .i64 er]) ∧ Below w.heap.size w w' → BAns w [] [] er e w' := fun er e w w' h =>
  ⟨none, none, 0, 0, h.1, irow_nil _ _, irow_nil _ _, h.2⟩
 by_cases o : NfOk N
 · by_cases hr : room < 1 ∨ 512 < room
   · exact ⟨[], [], 2, by simp, by simp, fun ac an ar cc cn cr w _ _ h => ⟨(bld_out N ac an ar cc cn cr room o hr w h).mono (fun e w' k => emp _ _ _ _ k), (rbld_out N ac an ar cc cn cr room o hr w h).mono (fun e w' k => emp _ _ _ _ k)⟩⟩
   · obtain ⟨m, rfl⟩ : ∃ m : Nat, room = (m : Int) := ⟨room.toNat, by omega⟩
     have hm1 : 1 ≤ m := by omega
     have hm2 : m ≤ 64 := by omega
     have hs := bld_same N m hm1
     cases hb : bldB m (stepN N) (lowsOf (spl N.cl)) (m + 1) 0 [[0]] with
     | none =>
      rw [hb] at hs
      refine ⟨[], [], 10, by simp, by simp, fun ac an ar cc cn cr w hp hT h => ⟨(build9_k N o hlen ac an ar cc cn cr m hm1 (by omega) w hp hT h).mono ?_, (rbuild_k N o ac an ar cc cn cr m hm1 (by omega) w h).mono ?_⟩⟩
      · rintro e w' ⟨h1, (⟨_, h2⟩ | ⟨tss, T, _, _, _, _, h3, _⟩)⟩
        · exact emp _ _ _ _ ⟨h2, h1⟩
        · rw [hb] at h3; cases h3
      · rintro e w' ⟨h1, (⟨_, h2⟩ | ⟨tss, T, _, _, _, _, h3, _⟩)⟩
        · exact emp _ _ _ _ ⟨h2, h1⟩
        · rw [hs] at h3; cases h3
     | some p =>
      obtain ⟨tss, T⟩ := p
      rw [hb] at hs
      obtain ⟨k1, k2, _⟩ := bldB_ok hb (by simpa using hm1) (by simp) (by omega)
      refine ⟨nextOf (clsOf (spl N.cl)) tss, rulesOf N.ru T, 0, by rw [nextOf_len]; omega, by unfold rulesOf; rw [List.length_map]; omega, fun ac an ar cc cn cr w hp hT h => ⟨(build9_k N o hlen ac an ar cc cn cr m hm1 (by omega) w hp hT h).mono ?_, (rbuild_k N o ac an ar cc cn cr m hm1 (by omega) w h).mono ?_⟩⟩
      · rintro e w' ⟨h1, (⟨h2, _⟩ | ⟨tss', T', an', ar', cn', cr', h3, h4, h5, h6⟩)⟩
        · rw [hb] at h2; cases h2
        · rw [hb] at h3; cases h3; exact ⟨an', ar', cn', cr', h4, h5, h6, h1⟩
      · rintro e w' ⟨h1, (⟨h2, _⟩ | ⟨tss', T', an', ar', cn', cr', h3, h4, h5, h6⟩)⟩
        · rw [hs] at h2; cases h2
        · rw [hs] at h3; cases h3
          rw [← nextOf_flat] at h4 h5
          exact ⟨an', ar', cn', cr', h4, h5, h6, h1⟩
 · exact ⟨[], [], 2, by simp, by simp, fun ac an ar cc cn cr w _ _ h => ⟨(bld_bad N ac an ar cc cn cr room o w h).mono (fun e w' k => emp _ _ _ _ k), (rbld_bad N ac an ar cc cn cr room o w h).mono (fun e w' k => emp _ _ _ _ k)⟩⟩
open Go Go.Proofs Go.RowKit
attribute [local go_sem] Oper.semAt_some
set_option maxRecDepth 100000 in
set_option maxHeartbeats 8000000 in
theorem calls_loL (n0 n1 n2 d0 d1 o0 o1 : Value) (room st : Int) (b : Nat) (s : ByteArray) (w : World) (hs : ¬ 40 < s.size) (hroom : room ≤ 64) (z2 z3 : Bool) (la lb lc : Nat)
  (q0 : n0.oneCell' = true) (q1 : n1.oneCell' = true) (q2 : n2.oneCell' = true) (q3 : d0.oneCell' = true) (q4 : d1.oneCell' = true) (q5 : o0.oneCell' = true) (q6 : o1.oneCell' = true)
  (hL : ∀ W, Below w.heap.size w W → Calls Tryz.prog 4 #[] W fun e w' => e = .returned (.bool true) ∧ Below W.heap.size W w')
  (hl1 : ∀ W, Below w.heap.size w W → Calls Tryz.prog 5 #[.agg #[n0, n1, n2], .int .i64 12] W fun e w' => LightPost la lb lc e ∧ Below W.heap.size W w')
  (hl2 : ∀ W, Below w.heap.size w W → Calls Tryz.prog 6 #[.agg #[d0, d1], .int .i64 24] W fun e w' => e = .returned (.bool z2) ∧ Below W.heap.size W w')
  (hl3 : ∀ W, Below w.heap.size w W → Calls Tryz.prog 6 #[.agg #[o0, o1], .int .i64 24] W fun e w' => e = .returned (.bool z3) ∧ Below W.heap.size W w')
  (hk : (la ≤ 12 ∧ lb ≤ 12 ∧ lc ≤ 12) → z2 = true → z3 = true → ∃ (next rule : List Int) (er vC vL vS vR vN : Int) (vO : Bool), next.length ≤ 1000000 ∧ rule.length ≤ 1000000 ∧
   (∀ W, Below w.heap.size w W → Calls Tryz.prog 7 #[.agg #[n0, n1, n2], .int .i64 room] W (BAns W next rule er)) ∧ (∀ W, Below w.heap.size w W → Calls Tryz.prog 8 #[.agg #[n0, n1, n2], .int .i64 room] W (BAns W next rule er)) ∧
   (∀ W, Below w.heap.size w W → Calls Tryz.prog 10 #[.agg #[d0, d1]] W fun e w' => e = .returned (.int .i64 vC) ∧ Below W.heap.size W w') ∧ (∀ W, Below w.heap.size w W → Calls Tryz.prog 11 #[.agg #[d0, d1]] W fun e w' => e = .returned (.int .i64 vC) ∧ Below W.heap.size W w') ∧
   (∀ W, Below w.heap.size w W → Calls Tryz.prog 12 #[.agg #[d0, d1]] W fun e w' => e = .returned (.int .i64 vL) ∧ Below W.heap.size W w') ∧ (∀ W, Below w.heap.size w W → Calls Tryz.prog 13 #[.agg #[d0, d1]] W fun e w' => e = .returned (.int .i64 vL) ∧ Below W.heap.size W w') ∧
   (∀ W, Below w.heap.size w W → Calls Tryz.prog 14 #[.agg #[d0, d1], .int .i64 st, .int .u8 (b : Nat)] W fun e w' => e = .returned (.int .i64 vS) ∧ Below W.heap.size W w') ∧ (∀ W, Below w.heap.size w W → Calls Tryz.prog 15 #[.agg #[d0, d1], .int .i64 st, .int .u8 (b : Nat)] W fun e w' => e = .returned (.int .i64 vS) ∧ Below W.heap.size W w') ∧
   (∀ W, Below w.heap.size w W → Calls Tryz.prog 16 #[.agg #[d0, d1], .int .i64 st] W fun e w' => e = .returned (.int .i64 vR) ∧ Below W.heap.size W w') ∧ (∀ W, Below w.heap.size w W → Calls Tryz.prog 17 #[.agg #[d0, d1], .int .i64 st] W fun e w' => e = .returned (.int .i64 vR) ∧ Below W.heap.size W w') ∧
   (∀ W, Below w.heap.size w W → Calls Tryz.prog 18 #[.agg #[d0, d1], .string s] W fun e w' => e = .returned (.int .i64 vN) ∧ Below W.heap.size W w') ∧ (∀ W, Below w.heap.size w W → Calls Tryz.prog 19 #[.agg #[d0, d1], .string s] W fun e w' => e = .returned (.int .i64 vN) ∧ Below W.heap.size W w') ∧
   (∀ W, Below w.heap.size w W → Calls Tryz.prog 20 #[.agg #[d0, d1], .agg #[o0, o1]] W fun e w' => e = .returned (.bool vO) ∧ Below W.heap.size W w') ∧ (∀ W, Below w.heap.size w W → Calls Tryz.prog 9 #[.agg #[d0, d1], .agg #[o0, o1]] W fun e w' => e = .returned (.bool vO) ∧ Below W.heap.size W w') ∧
   (∀ W, Below w.heap.size w W → Calls Tryz.prog 20 #[.agg #[d0, d1], .agg #[d0, d1]] W fun e w' => e = .returned (.bool true) ∧ Below W.heap.size W w')) :
  Calls Tryz.prog 3 #[.agg #[n0, n1, n2], .int .i64 room, .agg #[d0, d1], .agg #[o0, o1], .int .i64 st, .int .u8 (b : Nat), .string s] w fun e w' => e = .returned (.bool true) ∧ Below w.heap.size w w' := by
 obtain ⟨U, hU⟩ : ∃ U, U = w.heap.size := ⟨_, rfl⟩
 obtain ⟨W1, hW1⟩ : ∃ W1, W1 = ((w.alloc (.cells #[n0, n1, n2] 26)).alloc (.cells #[d0, d1] 28)).alloc (.cells #[o0, o1] 28) := ⟨_, rfl⟩
 have hB1 : Below w.heap.size w W1 := by rw [hW1]; exact (((Below.refl _ w).alloc (Nat.le_refl _) _).alloc (by simp) _).alloc (by simp; omega) _
 have u1 : Bx W1 U 26 #[n0, n1, n2] := by rw [hW1, hU]; exact ((Bx.new w 26 _).alloc _).alloc _
 have v1 : Bx W1 (U + 1) 28 #[d0, d1] := by
  have := (Bx.new (w.alloc (.cells #[n0, n1, n2] 26)) 28 #[d0, d1]).alloc (.cells #[o0, o1] 28)
  rw [World.size_alloc] at this
  rw [hW1, hU]; exact this
 have t1 : Bx W1 (U + 2) 28 #[o0, o1] := by
  have := Bx.new ((w.alloc (.cells #[n0, n1, n2] 26)).alloc (.cells #[d0, d1] 28)) 28 #[o0, o1]
  rw [World.size_alloc, World.size_alloc] at this
  rw [hW1, hU]; exact this
 have HW1 := Lib.hid hW1
 have HU := Lib.hid hU
 have HK := Lib.hid hk
 have hs' : ¬ (40 : Int) < (s.size : Int) := by omega
 clear hW1 hU hk
 go_enter Tryz.func3, Tryz.ntmps3
 go_upto_region 3 with (first
  | (go_at_call 4; (try rw [← HW1.out, ← HU.out]); (with_reducible refine (hL _ hB1).mono ?_); rintro e W2 ⟨rfl, hb2⟩; have hB2 := hB1.trans (hb2.mono hB1.size); have u2 := u1.below hb2 u1.lt; have v2 := v1.below hb2 v1.lt; have t2 := t1.below hb2 t1.lt))
 have e0 := u2.cell 0
 have e1 := u2.cell 1
 have e2 := u2.cell 2
 have hr1 : ¬ (64 : Int) < room := by omega
 clear hL
 cases z2 with
 | false =>
  go_wp2_with (first | (go_at_call 5; (with_reducible refine (hl1 _ hB2).mono ?_); rintro e W3 ⟨⟨z1, rfl, hz1⟩, hb3⟩; have hB3 := hB2.trans (hb3.mono hB2.size); have v3 := v2.below hb3 v2.lt; have t3 := t2.below hb3 t2.lt; have u3 := u2.below hb3 u2.lt; have f0 := v3.cell 0; have f1 := v3.cell 1) | (go_at_call 6; (with_reducible refine (hl2 _ hB3).mono ?_); rintro e W4 ⟨rfl, hb4⟩; have hB4 := hB3.trans (hb4.mono hB3.size); have v4 := v3.below hb4 v3.lt; have t4 := t3.below hb4 t3.lt; have u4 := u3.below hb4 u3.lt; have g0 := t4.cell 0; have g1 := t4.cell 1))
  all_goals (go_ret; first | exact ⟨rfl, hB4⟩ | exact ⟨rfl, hB3⟩)
 | true =>
 cases z3 with
 | false =>
  go_wp2_with (first | (go_at_call 5; (with_reducible refine (hl1 _ hB2).mono ?_); rintro e W3 ⟨⟨z1, rfl, hz1⟩, hb3⟩; have hB3 := hB2.trans (hb3.mono hB2.size); have v3 := v2.below hb3 v2.lt; have t3 := t2.below hb3 t2.lt; have u3 := u2.below hb3 u2.lt; have f0 := v3.cell 0; have f1 := v3.cell 1) | (go_at_call 6; (with_reducible refine (hl2 _ hB3).mono ?_); rintro e W4 ⟨rfl, hb4⟩; have hB4 := hB3.trans (hb4.mono hB3.size); have v4 := v3.below hb4 v3.lt; have t4 := t3.below hb4 t3.lt; have u4 := u3.below hb4 u3.lt; have g0 := t4.cell 0; have g1 := t4.cell 1) | (go_at_call 6; (with_reducible refine (hl3 _ hB4).mono ?_); rintro e W5 ⟨rfl, hb5⟩; have hB5 := hB4.trans (hb5.mono hB4.size); have v5 := v4.below hb5 v4.lt; have t5 := t4.below hb5 t4.lt; have u5 := u4.below hb5 u4.lt))
  all_goals (go_ret; first | exact ⟨rfl, hB5⟩ | exact ⟨rfl, hB3⟩)
 | true =>
 go_upto_if 46 with (first | (go_at_call 5; (with_reducible refine (hl1 _ hB2).mono ?_); rintro e W3 ⟨⟨z1, rfl, hz1⟩, hb3⟩; have hB3 := hB2.trans (hb3.mono hB2.size); have v3 := v2.below hb3 v2.lt; have t3 := t2.below hb3 t2.lt; have u3 := u2.below hb3 u2.lt; have f0 := v3.cell 0; have f1 := v3.cell 1) | (go_at_call 6; (with_reducible refine (hl2 _ hB3).mono ?_); rintro e W4 ⟨rfl, hb4⟩; have hB4 := hB3.trans (hb4.mono hB3.size); have v4 := v3.below hb4 v3.lt; have t4 := t3.below hb4 t3.lt; have u4 := u3.below hb4 u3.lt; have g0 := t4.cell 0; have g1 := t4.cell 1) | (go_at_call 6; (with_reducible refine (hl3 _ hB4).mono ?_); rintro e W5 ⟨rfl, hb5⟩; have hB5 := hB4.trans (hb5.mono hB4.size); have v5 := v4.below hb5 v4.lt; have t5 := t4.below hb5 t4.lt; have u5 := u4.below hb5 u4.lt))
 rotate_left
 · go_wp2_with fail
   go_ret
   exact ⟨rfl, hB3⟩
 have hzz : z1 = true := by assumption
 obtain ⟨next, rule, er, vC, vL, vS, vR, vN, vO, hn, hr, k7, k8, k10, k11, k12, k13, k14, k15, k16, k17, k18, k19, k20, k9, kdd⟩ := HK.out (by first | exact hz1 hzz | exact hz1 trivial) (by first | rfl | trivial) (by first | rfl | trivial)
 go_upto_region 5 with (fail)
 clear e0 e1 e2 f0 f1 g0 g1
 have e0 := u5.cell 0
 have e1 := u5.cell 1
 have e2 := u5.cell 2
 go_upto_region 6 with (first
  | (go_at_call 7; (with_reducible refine (k7 _ hB5).mono ?_); rintro e W6 ⟨xa, xr, xc, xd, rfl, hI1, hI2, hb6⟩))
 have hb6' := hb6
 obtain ⟨W7, hW7⟩ : ∃ W7, W7 = W6.alloc (.cells #[.slice xa next.length xc, .slice xr rule.length xd] 28) := ⟨_, rfl⟩
 obtain ⟨X, hX⟩ : ∃ X, X = W6.heap.size := ⟨_, rfl⟩
 have hb7 : Below W6.heap.size W6 W7 := by rw [hW7]; exact (Below.refl _ W6).alloc (Nat.le_refl _) _
 have x7 : Bx W7 X 28 #[.slice xa next.length xc, .slice xr rule.length xd] := by rw [hW7, hX]; exact Bx.new W6 28 _
 have hB6 := hB5.trans (hb6.mono hB5.size)
 have hB7 := hB6.trans (hb7.mono hB6.size)
 have u7 := (u5.below hb6 u5.lt).below hb7 (Nat.lt_of_lt_of_le u5.lt hb6.size)
 have v7 := (v5.below hb6 v5.lt).below hb7 (Nat.lt_of_lt_of_le v5.lt hb6.size)
 have t7 := (t5.below hb6 t5.lt).below hb7 (Nat.lt_of_lt_of_le t5.lt hb6.size)
 have hI1' := hI1.below hb7 (Nat.le_refl _)
 have hI2' := hI2.below hb7 (Nat.le_refl _)
 rw [← hW7, ← hX]
 clear hW7 hX e0 e1 e2
 have e0 := u7.cell 0
 have e1 := u7.cell 1
 have e2 := u7.cell 2
 go_upto_region 7 with (first
  | (go_at_call 8; (with_reducible refine (k8 _ hB7).mono ?_); rintro e W8 ⟨ya, yr, yc, yd, rfl, hJ1, hJ2, hb8⟩))
 obtain ⟨W9, hW9⟩ : ∃ W9, W9 = W8.alloc (.cells #[.slice ya next.length yc, .slice yr rule.length yd] 28) := ⟨_, rfl⟩
 obtain ⟨Y, hY⟩ : ∃ Y, Y = W8.heap.size := ⟨_, rfl⟩
 have hb9 : Below W8.heap.size W8 W9 := by rw [hW9]; exact (Below.refl _ W8).alloc (Nat.le_refl _) _
 have y9 : Bx W9 Y 28 #[.slice ya next.length yc, .slice yr rule.length yd] := by rw [hW9, hY]; exact Bx.new W8 28 _
 have hB8 := hB7.trans (hb8.mono hB7.size)
 have hB9 := hB8.trans (hb9.mono hB8.size)
 have hb79 := hb8.trans (hb9.mono hb8.size)
 have x9 := x7.below hb79 x7.lt
 have v9 := v7.below hb79 v7.lt
 have t9 := t7.below hb79 t7.lt
 have I1 := hI1'.below hb79 (Nat.le_refl _)
 have I2 := hI2'.below hb79 (Nat.le_refl _)
 have J1 := hJ1.below hb9 (Nat.le_refl _)
 have J2 := hJ2.below hb9 (Nat.le_refl _)
 have kxy : ∀ p : AX.BW W9, Calls Tryz.prog 9 #[.agg #[.slice xa next.length xc, .slice xr rule.length xd], .agg #[.slice ya next.length yc, .slice yr rule.length yd]] p.W fun e w' => e = .returned (.bool true) ∧ Below p.W.heap.size p.W w' := fun p => by
  have := rsame_k next rule next rule hn hr hn hr xa xr ya yr xc xd yc yd p.W (I1.below p.h (Nat.le_refl _)) (I2.below p.h (Nat.le_refl _)) (J1.below p.h (Nat.le_refl _)) (J2.below p.h (Nat.le_refl _))
  simpa using this
 obtain ⟨nl, hnl⟩ : ∃ nl, nl = next.length := ⟨_, rfl⟩
 obtain ⟨rl, hrl⟩ : ∃ rl, rl = rule.length := ⟨_, rfl⟩
 rw [← hW9, ← hY]
 rw [← hnl, ← hrl] at x9 y9 kxy ⊢
 have A0 := AX.cell_all (x9.cell 0) x9.lt
 have A1 := AX.cell_all (x9.cell 1) x9.lt
 have A2 := AX.cell_all (y9.cell 0) y9.lt
 have A3 := AX.cell_all (y9.cell 1) y9.lt
 have A4 := AX.cell_all (v9.cell 0) v9.lt
 have A5 := AX.cell_all (v9.cell 1) v9.lt
 have A6 := AX.cell_all (t9.cell 0) t9.lt
 have A7 := AX.cell_all (t9.cell 1) t9.lt
 have B9 := fun p : AX.BW W9 => hB9.trans (p.h.mono hB9.size)
 clear hW9 hY hnl hrl k7 k8 hl1 hl2 hl3 HK e0 e1 e2
 try rw [show U + 1 + 1 = U + 2 from rfl]
 refine AX.region_below (by kernel_rfl) (by kernel_rfl) ?_
 simp only [List.append_eq, List.cons_append, List.nil_append]
 repeat (go_big_quiet_step (first
  | (go_at_call 9; with_reducible exact AX.below_of (kxy _))
  | (go_at_call 9; with_reducible exact AX.below_of (k9 _ (B9 _)))
  | (go_at_call 10; with_reducible exact AX.below_of (k10 _ (B9 _)))
  | (go_at_call 11; with_reducible exact AX.below_of (k11 _ (B9 _)))
  | (go_at_call 12; with_reducible exact AX.below_of (k12 _ (B9 _)))
  | (go_at_call 13; with_reducible exact AX.below_of (k13 _ (B9 _)))
  | (go_at_call 14; with_reducible exact AX.below_of (k14 _ (B9 _)))
  | (go_at_call 15; with_reducible exact AX.below_of (k15 _ (B9 _)))
  | (go_at_call 16; with_reducible exact AX.below_of (k16 _ (B9 _)))
  | (go_at_call 17; with_reducible exact AX.below_of (k17 _ (B9 _)))
  | (go_at_call 18; with_reducible exact AX.below_of (k18 _ (B9 _)))
  | (go_at_call 19; with_reducible exact AX.below_of (k19 _ (B9 _)))
  | (go_at_call 20; with_reducible exact AX.below_of (kdd _ (B9 _)))
  | (go_at_call 20; with_reducible exact AX.below_of (k20 _ (B9 _)))))
 refine wpQuiet_nil ?_
 rintro Z ⟨pz, rfl⟩
 obtain ⟨Z, hbz⟩ := pz
 change Below _ _ _ at hbz
 have hfin := hB9.trans (hbz.mono hB9.size)
 clear A0 A1 A2 A3 A4 A5 A6 A7 B9
 go_wp2_with fail
 go_ret
 exact ⟨rfl, hfin⟩
set_option maxRecDepth 100000 in
set_option maxHeartbeats 8000000 in
theorem calls_hiL (n0 n1 n2 d0 d1 o0 o1 : Value) (room st : Int) (b : Nat) (s : ByteArray) (w : World) (hs : ¬ 40 < s.size) (hroom : 512 < room) (z2 z3 : Bool) (la lb lc : Nat)
  (q0 : n0.oneCell' = true) (q1 : n1.oneCell' = true) (q2 : n2.oneCell' = true) (q3 : d0.oneCell' = true) (q4 : d1.oneCell' = true) (q5 : o0.oneCell' = true) (q6 : o1.oneCell' = true)
  (hL : ∀ W, Below w.heap.size w W → Calls Tryz.prog 4 #[] W fun e w' => e = .returned (.bool true) ∧ Below W.heap.size W w')
  (hl1 : ∀ W, Below w.heap.size w W → Calls Tryz.prog 5 #[.agg #[n0, n1, n2], .int .i64 12] W fun e w' => LightPost la lb lc e ∧ Below W.heap.size W w')
  (hl2 : ∀ W, Below w.heap.size w W → Calls Tryz.prog 6 #[.agg #[d0, d1], .int .i64 24] W fun e w' => e = .returned (.bool z2) ∧ Below W.heap.size W w')
  (hl3 : ∀ W, Below w.heap.size w W → Calls Tryz.prog 6 #[.agg #[o0, o1], .int .i64 24] W fun e w' => e = .returned (.bool z3) ∧ Below W.heap.size W w')
  (hk : (la ≤ 12 ∧ lb ≤ 12 ∧ lc ≤ 12) → z2 = true → z3 = true → ∃ (next rule : List Int) (er vC vL vS vR vN : Int) (vO : Bool), next.length ≤ 1000000 ∧ rule.length ≤ 1000000 ∧
   (∀ W, Below w.heap.size w W → Calls Tryz.prog 7 #[.agg #[n0, n1, n2], .int .i64 room] W (BAns W next rule er)) ∧ (∀ W, Below w.heap.size w W → Calls Tryz.prog 8 #[.agg #[n0, n1, n2], .int .i64 room] W (BAns W next rule er)) ∧
   (∀ W, Below w.heap.size w W → Calls Tryz.prog 10 #[.agg #[d0, d1]] W fun e w' => e = .returned (.int .i64 vC) ∧ Below W.heap.size W w') ∧ (∀ W, Below w.heap.size w W → Calls Tryz.prog 11 #[.agg #[d0, d1]] W fun e w' => e = .returned (.int .i64 vC) ∧ Below W.heap.size W w') ∧
   (∀ W, Below w.heap.size w W → Calls Tryz.prog 12 #[.agg #[d0, d1]] W fun e w' => e = .returned (.int .i64 vL) ∧ Below W.heap.size W w') ∧ (∀ W, Below w.heap.size w W → Calls Tryz.prog 13 #[.agg #[d0, d1]] W fun e w' => e = .returned (.int .i64 vL) ∧ Below W.heap.size W w') ∧
   (∀ W, Below w.heap.size w W → Calls Tryz.prog 14 #[.agg #[d0, d1], .int .i64 st, .int .u8 (b : Nat)] W fun e w' => e = .returned (.int .i64 vS) ∧ Below W.heap.size W w') ∧ (∀ W, Below w.heap.size w W → Calls Tryz.prog 15 #[.agg #[d0, d1], .int .i64 st, .int .u8 (b : Nat)] W fun e w' => e = .returned (.int .i64 vS) ∧ Below W.heap.size W w') ∧
   (∀ W, Below w.heap.size w W → Calls Tryz.prog 16 #[.agg #[d0, d1], .int .i64 st] W fun e w' => e = .returned (.int .i64 vR) ∧ Below W.heap.size W w') ∧ (∀ W, Below w.heap.size w W → Calls Tryz.prog 17 #[.agg #[d0, d1], .int .i64 st] W fun e w' => e = .returned (.int .i64 vR) ∧ Below W.heap.size W w') ∧
   (∀ W, Below w.heap.size w W → Calls Tryz.prog 18 #[.agg #[d0, d1], .string s] W fun e w' => e = .returned (.int .i64 vN) ∧ Below W.heap.size W w') ∧ (∀ W, Below w.heap.size w W → Calls Tryz.prog 19 #[.agg #[d0, d1], .string s] W fun e w' => e = .returned (.int .i64 vN) ∧ Below W.heap.size W w') ∧
   (∀ W, Below w.heap.size w W → Calls Tryz.prog 20 #[.agg #[d0, d1], .agg #[o0, o1]] W fun e w' => e = .returned (.bool vO) ∧ Below W.heap.size W w') ∧ (∀ W, Below w.heap.size w W → Calls Tryz.prog 9 #[.agg #[d0, d1], .agg #[o0, o1]] W fun e w' => e = .returned (.bool vO) ∧ Below W.heap.size W w') ∧
   (∀ W, Below w.heap.size w W → Calls Tryz.prog 20 #[.agg #[d0, d1], .agg #[d0, d1]] W fun e w' => e = .returned (.bool true) ∧ Below W.heap.size W w')) :
  Calls Tryz.prog 3 #[.agg #[n0, n1, n2], .int .i64 room, .agg #[d0, d1], .agg #[o0, o1], .int .i64 st, .int .u8 (b : Nat), .string s] w fun e w' => e = .returned (.bool true) ∧ Below w.heap.size w w' := by
 obtain ⟨U, hU⟩ : ∃ U, U = w.heap.size := ⟨_, rfl⟩
 obtain ⟨W1, hW1⟩ : ∃ W1, W1 = ((w.alloc (.cells #[n0, n1, n2] 26)).alloc (.cells #[d0, d1] 28)).alloc (.cells #[o0, o1] 28) := ⟨_, rfl⟩
 have hB1 : Below w.heap.size w W1 := by rw [hW1]; exact (((Below.refl _ w).alloc (Nat.le_refl _) _).alloc (by simp) _).alloc (by simp; omega) _
 have u1 : Bx W1 U 26 #[n0, n1, n2] := by rw [hW1, hU]; exact ((Bx.new w 26 _).alloc _).alloc _
 have v1 : Bx W1 (U + 1) 28 #[d0, d1] := by
  have := (Bx.new (w.alloc (.cells #[n0, n1, n2] 26)) 28 #[d0, d1]).alloc (.cells #[o0, o1] 28)
  rw [World.size_alloc] at this
  rw [hW1, hU]; exact this
 have t1 : Bx W1 (U + 2) 28 #[o0, o1] := by
  have := Bx.new ((w.alloc (.cells #[n0, n1, n2] 26)).alloc (.cells #[d0, d1] 28)) 28 #[o0, o1]
  rw [World.size_alloc, World.size_alloc] at this
  rw [hW1, hU]; exact this
 have HW1 := Lib.hid hW1
 have HU := Lib.hid hU
 have HK := Lib.hid hk
 have hs' : ¬ (40 : Int) < (s.size : Int) := by omega
 clear hW1 hU hk
 go_enter Tryz.func3, Tryz.ntmps3
 go_upto_region 3 with (first
  | (go_at_call 4; (try rw [← HW1.out, ← HU.out]); (with_reducible refine (hL _ hB1).mono ?_); rintro e W2 ⟨rfl, hb2⟩; have hB2 := hB1.trans (hb2.mono hB1.size); have u2 := u1.below hb2 u1.lt; have v2 := v1.below hb2 v1.lt; have t2 := t1.below hb2 t1.lt))
 have e0 := u2.cell 0
 have e1 := u2.cell 1
 have e2 := u2.cell 2
 have hr1 : (64 : Int) < room := by omega
 have hr2 : ¬ room ≤ 512 := by omega
 clear hL
 cases z2 with
 | false =>
  go_wp2_with (first | (go_at_call 5; (with_reducible refine (hl1 _ hB2).mono ?_); rintro e W3 ⟨⟨z1, rfl, hz1⟩, hb3⟩; have hB3 := hB2.trans (hb3.mono hB2.size); have v3 := v2.below hb3 v2.lt; have t3 := t2.below hb3 t2.lt; have u3 := u2.below hb3 u2.lt; have f0 := v3.cell 0; have f1 := v3.cell 1) | (go_at_call 6; (with_reducible refine (hl2 _ hB3).mono ?_); rintro e W4 ⟨rfl, hb4⟩; have hB4 := hB3.trans (hb4.mono hB3.size); have v4 := v3.below hb4 v3.lt; have t4 := t3.below hb4 t3.lt; have u4 := u3.below hb4 u3.lt; have g0 := t4.cell 0; have g1 := t4.cell 1))
  all_goals (go_ret; first | exact ⟨rfl, hB4⟩ | exact ⟨rfl, hB3⟩)
 | true =>
 cases z3 with
 | false =>
  go_wp2_with (first | (go_at_call 5; (with_reducible refine (hl1 _ hB2).mono ?_); rintro e W3 ⟨⟨z1, rfl, hz1⟩, hb3⟩; have hB3 := hB2.trans (hb3.mono hB2.size); have v3 := v2.below hb3 v2.lt; have t3 := t2.below hb3 t2.lt; have u3 := u2.below hb3 u2.lt; have f0 := v3.cell 0; have f1 := v3.cell 1) | (go_at_call 6; (with_reducible refine (hl2 _ hB3).mono ?_); rintro e W4 ⟨rfl, hb4⟩; have hB4 := hB3.trans (hb4.mono hB3.size); have v4 := v3.below hb4 v3.lt; have t4 := t3.below hb4 t3.lt; have u4 := u3.below hb4 u3.lt; have g0 := t4.cell 0; have g1 := t4.cell 1) | (go_at_call 6; (with_reducible refine (hl3 _ hB4).mono ?_); rintro e W5 ⟨rfl, hb5⟩; have hB5 := hB4.trans (hb5.mono hB4.size); have v5 := v4.below hb5 v4.lt; have t5 := t4.below hb5 t4.lt; have u5 := u4.below hb5 u4.lt))
  all_goals (go_ret; first | exact ⟨rfl, hB5⟩ | exact ⟨rfl, hB3⟩)
 | true =>
 go_upto_if 46 with (first | (go_at_call 5; (with_reducible refine (hl1 _ hB2).mono ?_); rintro e W3 ⟨⟨z1, rfl, hz1⟩, hb3⟩; have hB3 := hB2.trans (hb3.mono hB2.size); have v3 := v2.below hb3 v2.lt; have t3 := t2.below hb3 t2.lt; have u3 := u2.below hb3 u2.lt; have f0 := v3.cell 0; have f1 := v3.cell 1) | (go_at_call 6; (with_reducible refine (hl2 _ hB3).mono ?_); rintro e W4 ⟨rfl, hb4⟩; have hB4 := hB3.trans (hb4.mono hB3.size); have v4 := v3.below hb4 v3.lt; have t4 := t3.below hb4 t3.lt; have u4 := u3.below hb4 u3.lt; have g0 := t4.cell 0; have g1 := t4.cell 1) | (go_at_call 6; (with_reducible refine (hl3 _ hB4).mono ?_); rintro e W5 ⟨rfl, hb5⟩; have hB5 := hB4.trans (hb5.mono hB4.size); have v5 := v4.below hb5 v4.lt; have t5 := t4.below hb5 t4.lt; have u5 := u4.below hb5 u4.lt))
 rotate_left
 · go_wp2_with fail
   go_ret
   exact ⟨rfl, hB3⟩
 have hzz : z1 = true := by assumption
 obtain ⟨next, rule, er, vC, vL, vS, vR, vN, vO, hn, hr, k7, k8, k10, k11, k12, k13, k14, k15, k16, k17, k18, k19, k20, k9, kdd⟩ := HK.out (by first | exact hz1 hzz | exact hz1 trivial) (by first | rfl | trivial) (by first | rfl | trivial)
 go_upto_region 5 with (fail)
 clear e0 e1 e2 f0 f1 g0 g1
 have e0 := u5.cell 0
 have e1 := u5.cell 1
 have e2 := u5.cell 2
 go_upto_region 6 with (first
  | (go_at_call 7; (with_reducible refine (k7 _ hB5).mono ?_); rintro e W6 ⟨xa, xr, xc, xd, rfl, hI1, hI2, hb6⟩))
 have hb6' := hb6
 obtain ⟨W7, hW7⟩ : ∃ W7, W7 = W6.alloc (.cells #[.slice xa next.length xc, .slice xr rule.length xd] 28) := ⟨_, rfl⟩
 obtain ⟨X, hX⟩ : ∃ X, X = W6.heap.size := ⟨_, rfl⟩
 have hb7 : Below W6.heap.size W6 W7 := by rw [hW7]; exact (Below.refl _ W6).alloc (Nat.le_refl _) _
 have x7 : Bx W7 X 28 #[.slice xa next.length xc, .slice xr rule.length xd] := by rw [hW7, hX]; exact Bx.new W6 28 _
 have hB6 := hB5.trans (hb6.mono hB5.size)
 have hB7 := hB6.trans (hb7.mono hB6.size)
 have u7 := (u5.below hb6 u5.lt).below hb7 (Nat.lt_of_lt_of_le u5.lt hb6.size)
 have v7 := (v5.below hb6 v5.lt).below hb7 (Nat.lt_of_lt_of_le v5.lt hb6.size)
 have t7 := (t5.below hb6 t5.lt).below hb7 (Nat.lt_of_lt_of_le t5.lt hb6.size)
 have hI1' := hI1.below hb7 (Nat.le_refl _)
 have hI2' := hI2.below hb7 (Nat.le_refl _)
 rw [← hW7, ← hX]
 clear hW7 hX e0 e1 e2
 have e0 := u7.cell 0
 have e1 := u7.cell 1
 have e2 := u7.cell 2
 go_upto_region 7 with (first
  | (go_at_call 8; (with_reducible refine (k8 _ hB7).mono ?_); rintro e W8 ⟨ya, yr, yc, yd, rfl, hJ1, hJ2, hb8⟩))
 obtain ⟨W9, hW9⟩ : ∃ W9, W9 = W8.alloc (.cells #[.slice ya next.length yc, .slice yr rule.length yd] 28) := ⟨_, rfl⟩
 obtain ⟨Y, hY⟩ : ∃ Y, Y = W8.heap.size := ⟨_, rfl⟩
 have hb9 : Below W8.heap.size W8 W9 := by rw [hW9]; exact (Below.refl _ W8).alloc (Nat.le_refl _) _
 have y9 : Bx W9 Y 28 #[.slice ya next.length yc, .slice yr rule.length yd] := by rw [hW9, hY]; exact Bx.new W8 28 _
 have hB8 := hB7.trans (hb8.mono hB7.size)
 have hB9 := hB8.trans (hb9.mono hB8.size)
 have hb79 := hb8.trans (hb9.mono hb8.size)
 have x9 := x7.below hb79 x7.lt
 have v9 := v7.below hb79 v7.lt
 have t9 := t7.below hb79 t7.lt
 have I1 := hI1'.below hb79 (Nat.le_refl _)
 have I2 := hI2'.below hb79 (Nat.le_refl _)
 have J1 := hJ1.below hb9 (Nat.le_refl _)
 have J2 := hJ2.below hb9 (Nat.le_refl _)
 have kxy : ∀ p : AX.BW W9, Calls Tryz.prog 9 #[.agg #[.slice xa next.length xc, .slice xr rule.length xd], .agg #[.slice ya next.length yc, .slice yr rule.length yd]] p.W fun e w' => e = .returned (.bool true) ∧ Below p.W.heap.size p.W w' := fun p => by
  have := rsame_k next rule next rule hn hr hn hr xa xr ya yr xc xd yc yd p.W (I1.below p.h (Nat.le_refl _)) (I2.below p.h (Nat.le_refl _)) (J1.below p.h (Nat.le_refl _)) (J2.below p.h (Nat.le_refl _))
  simpa using this
 obtain ⟨nl, hnl⟩ : ∃ nl, nl = next.length := ⟨_, rfl⟩
 obtain ⟨rl, hrl⟩ : ∃ rl, rl = rule.length := ⟨_, rfl⟩
 rw [← hW9, ← hY]
 rw [← hnl, ← hrl] at x9 y9 kxy ⊢
 have A0 := AX.cell_all (x9.cell 0) x9.lt
 have A1 := AX.cell_all (x9.cell 1) x9.lt
 have A2 := AX.cell_all (y9.cell 0) y9.lt
 have A3 := AX.cell_all (y9.cell 1) y9.lt
 have A4 := AX.cell_all (v9.cell 0) v9.lt
 have A5 := AX.cell_all (v9.cell 1) v9.lt
 have A6 := AX.cell_all (t9.cell 0) t9.lt
 have A7 := AX.cell_all (t9.cell 1) t9.lt
 have B9 := fun p : AX.BW W9 => hB9.trans (p.h.mono hB9.size)
 clear hW9 hY hnl hrl k7 k8 hl1 hl2 hl3 HK e0 e1 e2
 try rw [show U + 1 + 1 = U + 2 from rfl]
 refine AX.region_below (by kernel_rfl) (by kernel_rfl) ?_
 simp only [List.append_eq, List.cons_append, List.nil_append]
 repeat (go_big_quiet_step (first
  | (go_at_call 9; with_reducible exact AX.below_of (kxy _))
  | (go_at_call 9; with_reducible exact AX.below_of (k9 _ (B9 _)))
  | (go_at_call 10; with_reducible exact AX.below_of (k10 _ (B9 _)))
  | (go_at_call 11; with_reducible exact AX.below_of (k11 _ (B9 _)))
  | (go_at_call 12; with_reducible exact AX.below_of (k12 _ (B9 _)))
  | (go_at_call 13; with_reducible exact AX.below_of (k13 _ (B9 _)))
  | (go_at_call 14; with_reducible exact AX.below_of (k14 _ (B9 _)))
  | (go_at_call 15; with_reducible exact AX.below_of (k15 _ (B9 _)))
  | (go_at_call 16; with_reducible exact AX.below_of (k16 _ (B9 _)))
  | (go_at_call 17; with_reducible exact AX.below_of (k17 _ (B9 _)))
  | (go_at_call 18; with_reducible exact AX.below_of (k18 _ (B9 _)))
  | (go_at_call 19; with_reducible exact AX.below_of (k19 _ (B9 _)))
  | (go_at_call 20; with_reducible exact AX.below_of (kdd _ (B9 _)))
  | (go_at_call 20; with_reducible exact AX.below_of (k20 _ (B9 _)))))
 refine wpQuiet_nil ?_
 rintro Z ⟨pz, rfl⟩
 obtain ⟨Z, hbz⟩ := pz
 change Below _ _ _ at hbz
 have hfin := hB9.trans (hbz.mono hB9.size)
 clear A0 A1 A2 A3 A4 A5 A6 A7 B9
 go_wp2_with fail
 go_ret
 exact ⟨rfl, hfin⟩
set_option maxRecDepth 100000 in
set_option maxHeartbeats 8000000 in
theorem calls_longloL (n0 n1 n2 d0 d1 o0 o1 : Value) (room st : Int) (b : Nat) (s : ByteArray) (w : World) (hs : 40 < s.size) (hroom : room ≤ 64) (z2 z3 : Bool) (la lb lc : Nat)
  (q0 : n0.oneCell' = true) (q1 : n1.oneCell' = true) (q2 : n2.oneCell' = true) (q3 : d0.oneCell' = true) (q4 : d1.oneCell' = true) (q5 : o0.oneCell' = true) (q6 : o1.oneCell' = true)
  (hL : ∀ W, Below w.heap.size w W → Calls Tryz.prog 4 #[] W fun e w' => e = .returned (.bool true) ∧ Below W.heap.size W w')
  (hl1 : ∀ W, Below w.heap.size w W → Calls Tryz.prog 5 #[.agg #[n0, n1, n2], .int .i64 12] W fun e w' => LightPost la lb lc e ∧ Below W.heap.size W w')
  (hl2 : ∀ W, Below w.heap.size w W → Calls Tryz.prog 6 #[.agg #[d0, d1], .int .i64 24] W fun e w' => e = .returned (.bool z2) ∧ Below W.heap.size W w')
  (hl3 : ∀ W, Below w.heap.size w W → Calls Tryz.prog 6 #[.agg #[o0, o1], .int .i64 24] W fun e w' => e = .returned (.bool z3) ∧ Below W.heap.size W w') :
  Calls Tryz.prog 3 #[.agg #[n0, n1, n2], .int .i64 room, .agg #[d0, d1], .agg #[o0, o1], .int .i64 st, .int .u8 (b : Nat), .string s] w fun e w' => e = .returned (.bool true) ∧ Below w.heap.size w w' := by
 obtain ⟨U, hU⟩ : ∃ U, U = w.heap.size := ⟨_, rfl⟩
 obtain ⟨W1, hW1⟩ : ∃ W1, W1 = ((w.alloc (.cells #[n0, n1, n2] 26)).alloc (.cells #[d0, d1] 28)).alloc (.cells #[o0, o1] 28) := ⟨_, rfl⟩
 have hB1 : Below w.heap.size w W1 := by rw [hW1]; exact (((Below.refl _ w).alloc (Nat.le_refl _) _).alloc (by simp) _).alloc (by simp; omega) _
 have u1 : Bx W1 U 26 #[n0, n1, n2] := by rw [hW1, hU]; exact ((Bx.new w 26 _).alloc _).alloc _
 have v1 : Bx W1 (U + 1) 28 #[d0, d1] := by
  have := (Bx.new (w.alloc (.cells #[n0, n1, n2] 26)) 28 #[d0, d1]).alloc (.cells #[o0, o1] 28)
  rw [World.size_alloc] at this
  rw [hW1, hU]; exact this
 have t1 : Bx W1 (U + 2) 28 #[o0, o1] := by
  have := Bx.new ((w.alloc (.cells #[n0, n1, n2] 26)).alloc (.cells #[d0, d1] 28)) 28 #[o0, o1]
  rw [World.size_alloc, World.size_alloc] at this
  rw [hW1, hU]; exact this
 have HW1 := Lib.hid hW1
 have HU := Lib.hid hU
 have hs' : (40 : Int) < (s.size : Int) := by omega
 clear hW1 hU
 go_enter Tryz.func3, Tryz.ntmps3
 go_upto_region 3 with (first
  | (go_at_call 4; (try rw [← HW1.out, ← HU.out]); (with_reducible refine (hL _ hB1).mono ?_); rintro e W2 ⟨rfl, hb2⟩; have hB2 := hB1.trans (hb2.mono hB1.size); have u2 := u1.below hb2 u1.lt; have v2 := v1.below hb2 v1.lt; have t2 := t1.below hb2 t1.lt))
 have e0 := u2.cell 0
 have e1 := u2.cell 1
 have e2 := u2.cell 2
 have hr1 : ¬ (64 : Int) < room := by omega
 clear hL
 cases z2 with
 | false =>
  go_wp2_with (first | (go_at_call 5; (with_reducible refine (hl1 _ hB2).mono ?_); rintro e W3 ⟨⟨z1, rfl, hz1⟩, hb3⟩; have hB3 := hB2.trans (hb3.mono hB2.size); have v3 := v2.below hb3 v2.lt; have t3 := t2.below hb3 t2.lt; have u3 := u2.below hb3 u2.lt; have f0 := v3.cell 0; have f1 := v3.cell 1) | (go_at_call 6; (with_reducible refine (hl2 _ hB3).mono ?_); rintro e W4 ⟨rfl, hb4⟩; have hB4 := hB3.trans (hb4.mono hB3.size); have v4 := v3.below hb4 v3.lt; have t4 := t3.below hb4 t3.lt; have u4 := u3.below hb4 u3.lt; have g0 := t4.cell 0; have g1 := t4.cell 1))
  all_goals (go_ret; first | exact ⟨rfl, hB4⟩ | exact ⟨rfl, hB3⟩)
 | true =>
  go_wp2_with (first | (go_at_call 5; (with_reducible refine (hl1 _ hB2).mono ?_); rintro e W3 ⟨⟨z1, rfl, hz1⟩, hb3⟩; have hB3 := hB2.trans (hb3.mono hB2.size); have v3 := v2.below hb3 v2.lt; have t3 := t2.below hb3 t2.lt; have u3 := u2.below hb3 u2.lt; have f0 := v3.cell 0; have f1 := v3.cell 1) | (go_at_call 6; (with_reducible refine (hl2 _ hB3).mono ?_); rintro e W4 ⟨rfl, hb4⟩; have hB4 := hB3.trans (hb4.mono hB3.size); have v4 := v3.below hb4 v3.lt; have t4 := t3.below hb4 t3.lt; have u4 := u3.below hb4 u3.lt; have g0 := t4.cell 0; have g1 := t4.cell 1) | (go_at_call 6; (with_reducible refine (hl3 _ hB4).mono ?_); rintro e W5 ⟨rfl, hb5⟩; have hB5 := hB4.trans (hb5.mono hB4.size); have v5 := v4.below hb5 v4.lt; have t5 := t4.below hb5 t4.lt; have u5 := u4.below hb5 u4.lt))
  all_goals (go_ret; first | exact ⟨rfl, hB5⟩ | exact ⟨rfl, hB3⟩)
set_option maxRecDepth 100000 in
set_option maxHeartbeats 8000000 in
theorem calls_longhiL (n0 n1 n2 d0 d1 o0 o1 : Value) (room st : Int) (b : Nat) (s : ByteArray) (w : World) (hs : 40 < s.size) (hroom : 512 < room) (z2 z3 : Bool) (la lb lc : Nat)
  (q0 : n0.oneCell' = true) (q1 : n1.oneCell' = true) (q2 : n2.oneCell' = true) (q3 : d0.oneCell' = true) (q4 : d1.oneCell' = true) (q5 : o0.oneCell' = true) (q6 : o1.oneCell' = true)
  (hL : ∀ W, Below w.heap.size w W → Calls Tryz.prog 4 #[] W fun e w' => e = .returned (.bool true) ∧ Below W.heap.size W w')
  (hl1 : ∀ W, Below w.heap.size w W → Calls Tryz.prog 5 #[.agg #[n0, n1, n2], .int .i64 12] W fun e w' => LightPost la lb lc e ∧ Below W.heap.size W w')
  (hl2 : ∀ W, Below w.heap.size w W → Calls Tryz.prog 6 #[.agg #[d0, d1], .int .i64 24] W fun e w' => e = .returned (.bool z2) ∧ Below W.heap.size W w')
  (hl3 : ∀ W, Below w.heap.size w W → Calls Tryz.prog 6 #[.agg #[o0, o1], .int .i64 24] W fun e w' => e = .returned (.bool z3) ∧ Below W.heap.size W w') :
  Calls Tryz.prog 3 #[.agg #[n0, n1, n2], .int .i64 room, .agg #[d0, d1], .agg #[o0, o1], .int .i64 st, .int .u8 (b : Nat), .string s] w fun e w' => e = .returned (.bool true) ∧ Below w.heap.size w w' := by
 obtain ⟨U, hU⟩ : ∃ U, U = w.heap.size := ⟨_, rfl⟩
 obtain ⟨W1, hW1⟩ : ∃ W1, W1 = ((w.alloc (.cells #[n0, n1, n2] 26)).alloc (.cells #[d0, d1] 28)).alloc (.cells #[o0, o1] 28) := ⟨_, rfl⟩
 have hB1 : Below w.heap.size w W1 := by rw [hW1]; exact (((Below.refl _ w).alloc (Nat.le_refl _) _).alloc (by simp) _).alloc (by simp; omega) _
 have u1 : Bx W1 U 26 #[n0, n1, n2] := by rw [hW1, hU]; exact ((Bx.new w 26 _).alloc _).alloc _
 have v1 : Bx W1 (U + 1) 28 #[d0, d1] := by
  have := (Bx.new (w.alloc (.cells #[n0, n1, n2] 26)) 28 #[d0, d1]).alloc (.cells #[o0, o1] 28)
  rw [World.size_alloc] at this
  rw [hW1, hU]; exact this
 have t1 : Bx W1 (U + 2) 28 #[o0, o1] := by
  have := Bx.new ((w.alloc (.cells #[n0, n1, n2] 26)).alloc (.cells #[d0, d1] 28)) 28 #[o0, o1]
  rw [World.size_alloc, World.size_alloc] at this
  rw [hW1, hU]; exact this
 have HW1 := Lib.hid hW1
 have HU := Lib.hid hU
 have hs' : (40 : Int) < (s.size : Int) := by omega
 clear hW1 hU
 go_enter Tryz.func3, Tryz.ntmps3
 go_upto_region 3 with (first
  | (go_at_call 4; (try rw [← HW1.out, ← HU.out]); (with_reducible refine (hL _ hB1).mono ?_); rintro e W2 ⟨rfl, hb2⟩; have hB2 := hB1.trans (hb2.mono hB1.size); have u2 := u1.below hb2 u1.lt; have v2 := v1.below hb2 v1.lt; have t2 := t1.below hb2 t1.lt))
 have e0 := u2.cell 0
 have e1 := u2.cell 1
 have e2 := u2.cell 2
 have hr1 : (64 : Int) < room := by omega
 have hr2 : ¬ room ≤ 512 := by omega
 clear hL
 cases z2 with
 | false =>
  go_wp2_with (first | (go_at_call 5; (with_reducible refine (hl1 _ hB2).mono ?_); rintro e W3 ⟨⟨z1, rfl, hz1⟩, hb3⟩; have hB3 := hB2.trans (hb3.mono hB2.size); have v3 := v2.below hb3 v2.lt; have t3 := t2.below hb3 t2.lt; have u3 := u2.below hb3 u2.lt; have f0 := v3.cell 0; have f1 := v3.cell 1) | (go_at_call 6; (with_reducible refine (hl2 _ hB3).mono ?_); rintro e W4 ⟨rfl, hb4⟩; have hB4 := hB3.trans (hb4.mono hB3.size); have v4 := v3.below hb4 v3.lt; have t4 := t3.below hb4 t3.lt; have u4 := u3.below hb4 u3.lt; have g0 := t4.cell 0; have g1 := t4.cell 1))
  all_goals (go_ret; first | exact ⟨rfl, hB4⟩ | exact ⟨rfl, hB3⟩)
 | true =>
  go_wp2_with (first | (go_at_call 5; (with_reducible refine (hl1 _ hB2).mono ?_); rintro e W3 ⟨⟨z1, rfl, hz1⟩, hb3⟩; have hB3 := hB2.trans (hb3.mono hB2.size); have v3 := v2.below hb3 v2.lt; have t3 := t2.below hb3 t2.lt; have u3 := u2.below hb3 u2.lt; have f0 := v3.cell 0; have f1 := v3.cell 1) | (go_at_call 6; (with_reducible refine (hl2 _ hB3).mono ?_); rintro e W4 ⟨rfl, hb4⟩; have hB4 := hB3.trans (hb4.mono hB3.size); have v4 := v3.below hb4 v3.lt; have t4 := t3.below hb4 t3.lt; have u4 := u3.below hb4 u3.lt; have g0 := t4.cell 0; have g1 := t4.cell 1) | (go_at_call 6; (with_reducible refine (hl3 _ hB4).mono ?_); rintro e W5 ⟨rfl, hb5⟩; have hB5 := hB4.trans (hb5.mono hB4.size); have v5 := v4.below hb5 v4.lt; have t5 := t4.below hb5 t4.lt; have u5 := u4.below hb5 u4.lt))
  all_goals (go_ret; first | exact ⟨rfl, hB5⟩ | exact ⟨rfl, hB3⟩)
set_option maxRecDepth 100000 in
set_option maxHeartbeats 8000000 in
theorem calls_midL (n0 n1 n2 d0 d1 o0 o1 : Value) (room st : Int) (b : Nat) (s : ByteArray) (w : World) (hroom : 64 < room ∧ room ≤ 512) (z2 z3 : Bool) (la lb lc : Nat)
  (q0 : n0.oneCell' = true) (q1 : n1.oneCell' = true) (q2 : n2.oneCell' = true) (q3 : d0.oneCell' = true) (q4 : d1.oneCell' = true) (q5 : o0.oneCell' = true) (q6 : o1.oneCell' = true)
  (hL : ∀ W, Below w.heap.size w W → Calls Tryz.prog 4 #[] W fun e w' => e = .returned (.bool true) ∧ Below W.heap.size W w')
  (hl1 : ∀ W, Below w.heap.size w W → Calls Tryz.prog 5 #[.agg #[n0, n1, n2], .int .i64 12] W fun e w' => LightPost la lb lc e ∧ Below W.heap.size W w')
  (hl2 : ∀ W, Below w.heap.size w W → Calls Tryz.prog 6 #[.agg #[d0, d1], .int .i64 24] W fun e w' => e = .returned (.bool z2) ∧ Below W.heap.size W w')
  (hl3 : ∀ W, Below w.heap.size w W → Calls Tryz.prog 6 #[.agg #[o0, o1], .int .i64 24] W fun e w' => e = .returned (.bool z3) ∧ Below W.heap.size W w') :
  Calls Tryz.prog 3 #[.agg #[n0, n1, n2], .int .i64 room, .agg #[d0, d1], .agg #[o0, o1], .int .i64 st, .int .u8 (b : Nat), .string s] w fun e w' => e = .returned (.bool true) ∧ Below w.heap.size w w' := by
 obtain ⟨U, hU⟩ : ∃ U, U = w.heap.size := ⟨_, rfl⟩
 obtain ⟨W1, hW1⟩ : ∃ W1, W1 = ((w.alloc (.cells #[n0, n1, n2] 26)).alloc (.cells #[d0, d1] 28)).alloc (.cells #[o0, o1] 28) := ⟨_, rfl⟩
 have hB1 : Below w.heap.size w W1 := by rw [hW1]; exact (((Below.refl _ w).alloc (Nat.le_refl _) _).alloc (by simp) _).alloc (by simp; omega) _
 have u1 : Bx W1 U 26 #[n0, n1, n2] := by rw [hW1, hU]; exact ((Bx.new w 26 _).alloc _).alloc _
 have v1 : Bx W1 (U + 1) 28 #[d0, d1] := by
  have := (Bx.new (w.alloc (.cells #[n0, n1, n2] 26)) 28 #[d0, d1]).alloc (.cells #[o0, o1] 28)
  rw [World.size_alloc] at this
  rw [hW1, hU]; exact this
 have t1 : Bx W1 (U + 2) 28 #[o0, o1] := by
  have := Bx.new ((w.alloc (.cells #[n0, n1, n2] 26)).alloc (.cells #[d0, d1] 28)) 28 #[o0, o1]
  rw [World.size_alloc, World.size_alloc] at this
  rw [hW1, hU]; exact this
 have HW1 := Lib.hid hW1
 have HU := Lib.hid hU
 clear hW1 hU
 go_enter Tryz.func3, Tryz.ntmps3
 go_upto_region 3 with (first
  | (go_at_call 4; (try rw [← HW1.out, ← HU.out]); (with_reducible refine (hL _ hB1).mono ?_); rintro e W2 ⟨rfl, hb2⟩; have hB2 := hB1.trans (hb2.mono hB1.size); have u2 := u1.below hb2 u1.lt; have v2 := v1.below hb2 v1.lt; have t2 := t1.below hb2 t1.lt))
 have e0 := u2.cell 0
 have e1 := u2.cell 1
 have e2 := u2.cell 2
 have hr1 : (64 : Int) < room := by omega
 have hr2 : room ≤ 512 := by omega
 clear hL
 go_wp2_with (first | (go_at_call 5; (with_reducible refine (hl1 _ hB2).mono ?_); rintro e W3 ⟨⟨z1, rfl, hz1⟩, hb3⟩; have hB3 := hB2.trans (hb3.mono hB2.size); have v3 := v2.below hb3 v2.lt; have t3 := t2.below hb3 t2.lt; have u3 := u2.below hb3 u2.lt; have f0 := v3.cell 0; have f1 := v3.cell 1))
 all_goals (go_ret; exact ⟨rfl, hB3⟩)
theorem calls_k (N : Nf) (ac an ar : Option Addr) (cc cn cr : Nat) (room st : Int) (dn dr en er : List Int) (a1 a2 a3 a4 : Option Addr) (c1 c2 c3 c4 : Nat) (b : Nat) (hb : b < 256) (s : ByteArray) (w : World) (hp : 0 < w.heap.size) (hT : TabAt w) (h : NfAt w N ac an ar)
  (l1 : dn.length ≤ 9223372036854775807) (l2 : dr.length ≤ 9223372036854775807) (l3 : en.length ≤ 9223372036854775807) (l4 : er.length ≤ 9223372036854775807) (I1 : IRow w a1 dn) (I2 : IRow w a2 dr) (I3 : IRow w a3 en) (I4 : IRow w a4 er)
  (hL : ∀ W, Below w.heap.size w W → Calls Tryz.prog 4 #[] W fun e w' => e = .returned (.bool true) ∧ Below W.heap.size W w') :
  Calls Tryz.prog 3 #[.agg #[.slice ac N.cl.length cc, .slice an N.nx.length cn, .slice ar N.ru.length cr], .int .i64 room, .agg #[.slice a1 dn.length c1, .slice a2 dr.length c2], .agg #[.slice a3 en.length c3, .slice a4 er.length c4], .int .i64 st, .int .u8 (b : Nat), .string s] w fun e w' => e = .returned (.bool true) ∧ Below w.heap.size w w' := by
 have hl1 := fun W (hW : Below w.heap.size w W) => light7_k N ac an ar cc cn cr W (h.below hW (Nat.le_refl _))
 have hl2 := fun W (_ : Below w.heap.size w W) => light_k a1 a2 dn.length dr.length c1 c2 l1 l2 W
 have hl3 := fun W (_ : Below w.heap.size w W) => light_k a3 a4 en.length er.length c3 c4 l3 l4 W
 by_cases hmid : 64 < room ∧ room ≤ 512
 · exact calls_midL _ _ _ _ _ _ _ room st b s w hmid _ _ _ _ _ rfl rfl rfl rfl rfl rfl rfl hL hl1 hl2 hl3
 by_cases hs : 40 < s.size
 · by_cases hr : room ≤ 64
   · exact calls_longloL _ _ _ _ _ _ _ room st b s w hs hr _ _ _ _ _ rfl rfl rfl rfl rfl rfl rfl hL hl1 hl2 hl3
   · exact calls_longhiL _ _ _ _ _ _ _ room st b s w hs (by omega) _ _ _ _ _ rfl rfl rfl rfl rfl rfl rfl hL hl1 hl2 hl3
 by_cases hr0 : room ≤ 64
 case' pos => refine calls_loL _ _ _ _ _ _ _ room st b s w hs hr0 _ _ _ _ _ rfl rfl rfl rfl rfl rfl rfl hL hl1 hl2 hl3 ?_
 case' neg => refine calls_hiL _ _ _ _ _ _ _ room st b s w hs (by omega) _ _ _ _ _ rfl rfl rfl rfl rfl rfl rfl hL hl1 hl2 hl3 ?_
 all_goals
  intro k1 k2 k3
  simp only [Bool.and_eq_true, decide_eq_true_eq] at k2 k3
  have hroom : room ≤ 64 ∨ 512 < room := by omega
  have b1 : dn.length ≤ 1000000 := by omega
  have b2 : dr.length ≤ 1000000 := by omega
  have b3 : en.length ≤ 1000000 := by omega
  have b4 : er.length ≤ 1000000 := by omega
  obtain ⟨next, rule, ev, hn, hr, hB⟩ := pairBuild N k1.1 room hroom
  obtain ⟨vC, hC⟩ := pairCheck b1 b2
  obtain ⟨vL, hLn⟩ := pairLen b1 b2
  obtain ⟨vS, hS⟩ := pairStep b1 b2 st b hb
  obtain ⟨vR, hR⟩ := pairRule b1 b2 st
  obtain ⟨vN, hN⟩ := pairRun b1 b2 s (by omega)
  have lt := fun W (hW : Below w.heap.size w W) => (⟨I1.below hW (Nat.le_refl _), I2.below hW (Nat.le_refl _), I3.below hW (Nat.le_refl _), I4.below hW (Nat.le_refl _)⟩ : IRow W a1 dn ∧ IRow W a2 dr ∧ IRow W a3 en ∧ IRow W a4 er)
  have hBd := fun W (hW : Below w.heap.size w W) => hB ac an ar cc cn cr W (Nat.lt_of_lt_of_le hp hW.size) (hT.below hW hp) (h.below hW (Nat.le_refl _))
  exact ⟨next, rule, ev, vC, vL, vS, vR, vN, _, hn, hr, fun W hW => (hBd W hW).1, fun W hW => (hBd W hW).2,
   fun W hW => (hC a1 a2 c1 c2 W (lt W hW).1 (lt W hW).2.1).1, fun W hW => (hC a1 a2 c1 c2 W (lt W hW).1 (lt W hW).2.1).2,
   fun W hW => (hLn a1 a2 c1 c2 W (lt W hW).1 (lt W hW).2.1).1, fun W hW => (hLn a1 a2 c1 c2 W (lt W hW).1 (lt W hW).2.1).2,
   fun W hW => (hS a1 a2 c1 c2 W (lt W hW).1 (lt W hW).2.1).1, fun W hW => (hS a1 a2 c1 c2 W (lt W hW).1 (lt W hW).2.1).2,
   fun W hW => (hR a1 a2 c1 c2 W (lt W hW).1 (lt W hW).2.1).1, fun W hW => (hR a1 a2 c1 c2 W (lt W hW).1 (lt W hW).2.1).2,
   fun W hW => (hN a1 a2 c1 c2 W (lt W hW).1 (lt W hW).2.1).1, fun W hW => (hN a1 a2 c1 c2 W (lt W hW).1 (lt W hW).2.1).2,
   fun W hW => same_k dn dr en er b1 b2 b3 b4 a1 a2 a3 a4 c1 c2 c3 c4 W (lt W hW).1 (lt W hW).2.1 (lt W hW).2.2.1 (lt W hW).2.2.2,
   fun W hW => rsame_k dn dr en er b1 b2 b3 b4 a1 a2 a3 a4 c1 c2 c3 c4 W (lt W hW).1 (lt W hW).2.1 (lt W hW).2.2.1 (lt W hW).2.2.2,
   fun W hW => by simpa using same_k dn dr dn dr b1 b2 b1 b2 a1 a2 a1 a2 c1 c2 c1 c2 W (lt W hW).1 (lt W hW).2.1 (lt W hW).1 (lt W hW).2.1⟩
end Go.Proofs.YtaadkdmbhckdeaaGreatDoor
