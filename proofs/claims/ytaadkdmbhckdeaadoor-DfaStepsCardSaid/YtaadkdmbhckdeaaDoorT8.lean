/- DfaSteps: its walk. -/
import Derived.Test.YtaadkdmbhckdeaaDoorT7
namespace Go.Proofs.YtaadkdmbhckdeaaDoor
open Go Go.Proofs Go.RowKit
attribute [local go_sem] Oper.semAt_some
theorem cell_all {w : World} {b o : Nat} {v : Value} (h : w.cell? ⟨b, o, none⟩ = some v) (hb : b < w.heap.size) : ∀ p : BW w, p.W.cell? ⟨b, o, none⟩ = some v := fun p => (p.h.cell (p := ⟨b, o, none⟩) hb).trans h
/-- What is kept over the law's calls. -/
structure Env (w W : World) (next rule : List Int) (an ar : Option Addr) (cn cr : Nat) : Prop where
  b : Below w.heap.size w W
  lt : w.heap.size < W.heap.size
  c0 : W.cell? ⟨w.heap.size, 0, none⟩ = some (.slice an next.length cn)
  c1 : W.cell? ⟨w.heap.size, 1, none⟩ = some (.slice ar rule.length cr)
  hN : IRow W an next
  hR : IRow W ar rule
theorem Env.below {w W W' : World} {next rule : List Int} {an ar : Option Addr} {cn cr : Nat} (h : Env w W next rule an ar cn cr) (hb : Below W.heap.size W W') : Env w W' next rule an ar cn cr :=
  ⟨h.b.trans (hb.mono (Nat.le_of_lt h.lt)), Nat.lt_of_lt_of_le h.lt hb.size, (hb.cell (p := ⟨w.heap.size, 0, none⟩) h.lt).trans h.c0, (hb.cell (p := ⟨w.heap.size, 1, none⟩) h.lt).trans h.c1, h.hN.below hb (Nat.le_refl _), h.hR.below hb (Nat.le_refl _)⟩

theorem Env.new (w : World) {next rule : List Int} {an ar : Option Addr} {cn cr : Nat} (hN : IRow w an next) (hR : IRow w ar rule) : Env w (w.alloc (.cells #[.slice an next.length cn, .slice ar rule.length cr] 32)) next rule an ar cn cr :=
  have hB := (Below.refl w.heap.size w).alloc (Nat.le_refl _) (.cells #[.slice an next.length cn, .slice ar rule.length cr] 32)
  ⟨hB, by simp, (World.cell?_alloc_at _ _ w.heap.size 0 rfl).trans rfl, (World.cell?_alloc_at _ _ w.heap.size 1 rfl).trans rfl, hN.below hB (Nat.le_refl _), hR.below hB (Nat.le_refl _)⟩
theorem stepV_bd {w : World} {next rule : List Int} {an ar : Option Addr} (h : Tab w next rule an ar) (st : Int) (b : Nat) (hb : b < 256) : -1 ≤ stepV next rule.length st b ∧ stepV next rule.length st b < rule.length := by
  unfold stepV
  split
  · rename_i h0
    have hlt : 256 * st.toNat + b < next.length := by have := h.nl; omega
    have := h.bd _ (List.getElem_mem hlt)
    have e : next.getD (256 * st.toNat + b) 0 = next[256 * st.toNat + b] := by simp [hlt]
    rw [e]; exact this
  · have := h.r1; omega
theorem goV_bd' {w : World} {next rule : List Int} {an ar : Option Addr} (h : Tab w next rule an ar) : ∀ (l : List Nat) (st : Int), (∀ b ∈ l, b < 256) → -1 ≤ st ∧ st < rule.length → -1 ≤ l.foldl (stepV next rule.length) st ∧ l.foldl (stepV next rule.length) st < rule.length
  | [], st, _, hs => hs
  | b :: l, st, hl, _ => by
    rw [List.foldl_cons]
    exact goV_bd' h l _ (fun x hx => hl x (List.mem_cons_of_mem _ hx)) (stepV_bd h st b (hl b (List.mem_cons_self ..)))
theorem sb_lt' (s : ByteArray) : ∀ b ∈ sb s, b < 256 := fun b hb => by
  obtain ⟨u, _, hu⟩ := List.mem_map.1 hb
  have := UInt8.toNat_lt u
  omega
theorem goV_bd {w : World} {next rule : List Int} {an ar : Option Addr} (h : Tab w next rule an ar) (l : List Nat) (hl : ∀ b ∈ l, b < 256) (k : Nat) : -1 ≤ goV next rule.length (l.take k) ∧ goV next rule.length (l.take k) < rule.length :=
  goV_bd' h _ 0 (fun b hb => hl b (List.mem_of_mem_take hb)) (by have := h.r1; omega)
theorem sb_take (s : ByteArray) (k : Nat) : sb (s.extract 0 k) = (sb s).take k := by
  unfold sb
  rw [← List.map_take]
  congr 1
  simp
set_option maxRecDepth 100000 in
set_option maxHeartbeats 4000000 in
/-- What is not gone through. -/
theorem steps_out {next rule : List Int} {an ar : Option Addr} {cn cr : Nat} {w : World} (hnl : next.length ≤ 9223372036854775807) (hrl : rule.length ≤ 9223372036854775807) (hN : IRow w an next) (hR : IRow w ar rule) (s : ByteArray) (hs : s.size ≤ 9223372036854775807) (cut : Int)
    (hL : ∀ W, Below w.heap.size w W → Calls Tryd.prog 6 #[] W fun e w' => e = .returned (.bool true) ∧ Below W.heap.size W w')
    (hout : ¬ (rule.length ≤ 24 ∧ next.length ≤ 6144) ∨ ((rule.length ≤ 24 ∧ next.length ≤ 6144) ∧ 40 < s.size) ∨ ((rule.length ≤ 24 ∧ next.length ≤ 6144) ∧ s.size ≤ 40 ∧ okT next rule = false)) :
    Calls Tryd.prog 5 #[.agg #[.slice an next.length cn, .slice ar rule.length cr], .string s, .int .i64 cut] w fun e w' => e = .returned (.bool true) ∧ Below w.heap.size w w' := by
  have hE := Env.new w (cn := cn) (cr := cr) hN hR
  have hL1 := hL _ hE.b
  have hl := fun W => light_k an ar next.length rule.length cn cr hnl hrl W
  clear hN hR hL
  rcases hout with h | ⟨h, h40⟩ | ⟨h, h40, hok⟩
  · have e : (decide (rule.length ≤ 24) && decide (next.length ≤ 6144)) = false := by
      rw [Bool.and_eq_false_iff, decide_eq_false_iff_not, decide_eq_false_iff_not]; omega
    rw [e] at hl
    clear e h
    go_enter Tryd.func5, Tryd.ntmps5
    go_wp2_with fail
    generalize w.alloc (.cells #[.slice an next.length cn, .slice ar rule.length cr] 32) = W0 at *
    have hc0 := hE.c0
    have hc1 := hE.c1
    go_wp2_with (first
      | (go_at_call 6; ((with_reducible refine hL1.mono ?_); rintro e W1 ⟨rfl, hB1⟩; have hE1 := hE.below hB1; have d0 := hE1.c0; have d1 := hE1.c1))
      | (go_at_call 14; ((with_reducible refine (hl _).mono ?_); rintro e W2 ⟨rfl, hB2⟩; have hE2 := hE1.below hB2; have f0 := hE2.c0; have f1 := hE2.c1)))
    go_ret
    exact ⟨rfl, hE2.b⟩
  · have e : (decide (rule.length ≤ 24) && decide (next.length ≤ 6144)) = true := by
      rw [Bool.and_eq_true, decide_eq_true_eq, decide_eq_true_eq]; exact h
    rw [e] at hl
    have h4 : (40 : Int) < (s.size : Int) := by omega
    clear e h
    go_enter Tryd.func5, Tryd.ntmps5
    go_wp2_with fail
    generalize w.alloc (.cells #[.slice an next.length cn, .slice ar rule.length cr] 32) = W0 at *
    have hc0 := hE.c0
    have hc1 := hE.c1
    go_wp2_with (first
      | (go_at_call 6; ((with_reducible refine hL1.mono ?_); rintro e W1 ⟨rfl, hB1⟩; have hE1 := hE.below hB1; have d0 := hE1.c0; have d1 := hE1.c1))
      | (go_at_call 14; ((with_reducible refine (hl _).mono ?_); rintro e W2 ⟨rfl, hB2⟩; have hE2 := hE1.below hB2; have f0 := hE2.c0; have f1 := hE2.c1)))
    go_ret
    exact ⟨rfl, hE2.b⟩
  · have e : (decide (rule.length ≤ 24) && decide (next.length ≤ 6144)) = true := by
      rw [Bool.and_eq_true, decide_eq_true_eq, decide_eq_true_eq]; exact h
    rw [e] at hl
    have h4 : (s.size : Int) ≤ 40 := by omega
    have hk := fun W hN hR => check_k next rule (by omega) (by omega) an ar cn cr W hN hR
    rw [show checkV next rule = 2 from if_neg (by rw [hok]; simp)] at hk
    clear e h hok
    go_enter Tryd.func5, Tryd.ntmps5
    go_wp2_with fail
    generalize w.alloc (.cells #[.slice an next.length cn, .slice ar rule.length cr] 32) = W0 at *
    have hc0 := hE.c0
    have hc1 := hE.c1
    go_wp2_with (first
      | (go_at_call 6; ((with_reducible refine hL1.mono ?_); rintro e W1 ⟨rfl, hB1⟩; have hE1 := hE.below hB1; have d0 := hE1.c0; have d1 := hE1.c1))
      | (go_at_call 14; ((with_reducible refine (hl _).mono ?_); rintro e W2 ⟨rfl, hB2⟩; have hE2 := hE1.below hB2; have f0 := hE2.c0; have f1 := hE2.c1))
      | (go_at_call 11; ((with_reducible refine (hk _ hE2.hN hE2.hR).mono ?_); rintro e W3 ⟨rfl, hB3⟩; have hE3 := hE2.below hB3; have g0 := hE3.c0; have g1 := hE3.c1)))
    go_ret
    exact ⟨rfl, hE3.b⟩
set_option maxRecDepth 100000 in
set_option maxHeartbeats 4000000 in
theorem steps_in {next rule : List Int} {an ar : Option Addr} {cn cr : Nat} {w : World} (hN : IRow w an next) (hR : IRow w ar rule) (s : ByteArray) (cut : Int)
    (hL : ∀ W, Below w.heap.size w W → Calls Tryd.prog 6 #[] W fun e w' => e = .returned (.bool true) ∧ Below W.heap.size W w')
    (hin : rule.length ≤ 24 ∧ next.length ≤ 6144) (h40 : s.size ≤ 40) (hok : okT next rule = true) :
    Calls Tryd.prog 5 #[.agg #[.slice an next.length cn, .slice ar rule.length cr], .string s, .int .i64 cut] w fun e w' => e = .returned (.bool true) ∧ Below w.heap.size w w' := by
  have hE := Env.new w (cn := cn) (cr := cr) hN hR
  have hL1 := hL _ hE.b
  have hl := fun W => light_k an ar next.length rule.length cn cr (by omega) (by omega) W
  have hT := fun {W} (h : Env w W next rule an ar cn cr) => Tab.mk' hok h.hN h.hR
  clear hN hR hL
  have e : (decide (rule.length ≤ 24) && decide (next.length ≤ 6144)) = true := by
    rw [Bool.and_eq_true, decide_eq_true_eq, decide_eq_true_eq]; exact hin
  rw [e] at hl
  have h4 : (s.size : Int) ≤ 40 := by omega
  clear e hok
  have hpk := fun W => pick_k cut (s.size + 1) (by omega) (by omega) W
  go_enter Tryd.func5, Tryd.ntmps5
  go_wp2_with fail
  generalize w.alloc (.cells #[.slice an next.length cn, .slice ar rule.length cr] 32) = W0 at *
  have hc0 := hE.c0
  have hc1 := hE.c1
  go_wp2_with (first
    | (go_at_call 6; ((with_reducible refine hL1.mono ?_); rintro e W1 ⟨rfl, hB1⟩; have hE1 := hE.below hB1; have d0 := hE1.c0; have d1 := hE1.c1))
    | (go_at_call 14; ((with_reducible refine (hl _).mono ?_); rintro e W2 ⟨rfl, hB2⟩; have hE2 := hE1.below hB2; have f0 := hE2.c0; have f1 := hE2.c1))
    | (go_at_call 11; ((with_reducible refine (check_ok (hT hE2)).mono ?_); rintro e W3 ⟨rfl, hB3⟩; have hE3 := hE2.below hB3; have g0 := hE3.c0; have g1 := hE3.c1))
    | (go_at_call 15; ((refine (hpk _).mono ?_); rintro e W4 ⟨kc, rfl, rfl⟩)))
  clear hc0 hc1 d0 d1 f0 f1 hL1 hl hpk
  have hg := hE3.c0
  obtain ⟨wo, rfl⟩ : ∃ wo : World, wo = w := ⟨_, rfl⟩
  go_loopw [7, 8] (fun st i wr => ∃ k : Nat, k ≤ s.size ∧ i = .int .i64 k ∧ st = .int .i64 (goV next rule.length ((sb s).take k)) ∧ Env wo wr next rule an ar cn cr) (fun _ i _ => s.size - (intOf i).toNat)
  case atStart => exact ⟨0, Nat.zero_le _, rfl, rfl, hE3⟩
  case round =>
    obtain ⟨k, hk, rfl, rfl, hEr⟩ := hrel
    rcases Nat.lt_or_ge k s.size with hlt | hge
    · have hb := goV_bd (hT hEr) (sb s) (sb_lt' s) k
      have hk0 : (0 : Int) ≤ (k : Int) := by omega
      have hk1 : (k : Int) < (s.size : Int) := by omega
      have h12 : ∀ p : BW wr, Calls Tryd.prog 12 #[.agg #[.slice an next.length cn, .slice ar rule.length cr], .string (s.extract 0 k)] p.W fun e w' => e = .returned (.int .i64 (ruleV rule (goV next rule.length ((sb s).take k)))) ∧ Below p.W.heap.size p.W w' := fun p => by
        have := run_k (cn := cn) (cr := cr) ((hT hEr).below p.h (Nat.le_refl _)) (s.extract 0 k) (by rw [ByteArray.size_extract]; omega)
        rwa [sb_take s k] at this
      have h16 : ∀ p : BW wr, Calls Tryd.prog 16 #[.agg #[.slice an next.length cn, .slice ar rule.length cr], .int .i64 (goV next rule.length ((sb s).take k))] p.W fun e w' => e = .returned (.int .i64 (ruleV rule (goV next rule.length ((sb s).take k)))) ∧ Below p.W.heap.size p.W w' := fun p =>
        rule_k ((hT hEr).below p.h (Nat.le_refl _)) _
      have c0 := cell_all hEr.c0 hEr.lt
      have c1 := cell_all hEr.c1 hEr.lt
      have hb2 := goV_bd (hT hEr) (sb s) (sb_lt' s) (k + 1)
      have hnx : goV next rule.length ((sb s).take (k + 1)) = stepV next rule.length (goV next rule.length ((sb s).take k)) s[k].toNat := by
        have hkl : k < (sb s).length := by rw [sb_len]; exact hlt
        rw [List.take_succ_eq_append_getElem hkl, goV_snoc]
        congr 1
        simp [sb]; rfl
      obtain ⟨st', hst'⟩ : ∃ st', st' = goV next rule.length ((sb s).take (k + 1)) := ⟨_, rfl⟩
      rw [← hst'] at hnx hb2
      have HNX := Lib.hid hst'
      have HST' := Lib.hid hnx
      clear hst' hnx
      generalize ruleV rule (goV next rule.length ((sb s).take k)) = rr at *
      obtain ⟨st, hst⟩ : ∃ st, st = goV next rule.length ((sb s).take k) := ⟨_, rfl⟩
      rw [← hst] at h16 hb ⊢
      have HST : Hid (st' = stepV next rule.length st s[k].toNat) := Lib.hid (by rw [hst]; exact HST'.out)
      clear hst HST'
      by_cases hkc : kc = k
      · have q : ((k : Int) == kc) = true := by simp [hkc]
        clear hkc
        go_wp2
        refine region_below (by kernel_rfl) (by kernel_rfl) ?_
        repeat (go_big_quiet_step (first | (go_at_call 12; with_reducible exact Calls.below_of (h12 _)) | (go_at_call 16; with_reducible exact Calls.below_of (h16 _))))
        refine wpQuiet_nil ?_
        rintro _ ⟨p, rfl⟩
        have hEp := hEr.below p.h
        have c0 := cell_all hEp.c0 hEp.lt
        have c1 := cell_all hEp.c1 hEp.lt
        have h17 : ∀ q : BW p.W, Calls Tryd.prog 17 #[.agg #[.slice an next.length cn, .slice ar rule.length cr], .int .i64 st, .int .u8 (s[k].toNat : Nat)] q.W fun e w' => e = .returned (.int .i64 st') ∧ Below q.W.heap.size q.W w' := fun q => by
          have := step_k (cn := cn) (cr := cr) ((hT hEp).below q.h (Nat.le_refl _)) st s[k].toNat (UInt8.toNat_lt _)
          rwa [← HST.out] at this
        go_wp2
        refine region_below (by kernel_rfl) (by kernel_rfl) ?_
        repeat (go_big_quiet_step (first | (go_at_call 17; with_reducible exact Calls.below_of (h17 _))))
        refine wpQuiet_nil ?_
        rintro _ ⟨q, rfl⟩
        have hEq := hEp.below q.h
        have e0 := hEq.c0
        have e1 := hEq.c1
        clear h12 h16 h17 c0 c1
        go_wp2_with (go_at_call 10; ((with_reducible refine (len_k (hT hEq)).mono ?_); rintro e W5 ⟨rfl, hB5⟩; have hE5 := hEq.below hB5))
        go_roundw
        case rel => exact ⟨k + 1, by omega, by simp, by rw [HNX.out], hE5⟩
        case measure => simp [intOf]; omega
      · have q : ((k : Int) == kc) = false := by simp; omega
        go_wp2
        refine region_below (by kernel_rfl) (by kernel_rfl) ?_
        repeat (go_big_quiet_step (fail))
        refine wpQuiet_nil ?_
        rintro _ ⟨p, rfl⟩
        have hEp := hEr.below p.h
        have c0 := cell_all hEp.c0 hEp.lt
        have c1 := cell_all hEp.c1 hEp.lt
        have h17 : ∀ q : BW p.W, Calls Tryd.prog 17 #[.agg #[.slice an next.length cn, .slice ar rule.length cr], .int .i64 st, .int .u8 (s[k].toNat : Nat)] q.W fun e w' => e = .returned (.int .i64 st') ∧ Below q.W.heap.size q.W w' := fun q => by
          have := step_k (cn := cn) (cr := cr) ((hT hEp).below q.h (Nat.le_refl _)) st s[k].toNat (UInt8.toNat_lt _)
          rwa [← HST.out] at this
        go_wp2
        refine region_below (by kernel_rfl) (by kernel_rfl) ?_
        repeat (go_big_quiet_step (first | (go_at_call 17; with_reducible exact Calls.below_of (h17 _))))
        refine wpQuiet_nil ?_
        rintro _ ⟨q, rfl⟩
        have hEq := hEp.below q.h
        have e0 := hEq.c0
        have e1 := hEq.c1
        clear h12 h16 h17 c0 c1
        go_wp2_with (go_at_call 10; ((with_reducible refine (len_k (hT hEq)).mono ?_); rintro e W5 ⟨rfl, hB5⟩; have hE5 := hEq.below hB5))
        go_roundw
        case rel => exact ⟨k + 1, by omega, by simp, by rw [HNX.out], hE5⟩
        case measure => simp [intOf]; omega
    · obtain rfl : k = s.size := by omega
      have e : (sb s).take s.size = sb s := by rw [← sb_len, List.take_length]
      rw [e]
      have h12 : ∀ p : BW wr, Calls Tryd.prog 12 #[.agg #[.slice an next.length cn, .slice ar rule.length cr], .string s] p.W fun e w' => e = .returned (.int .i64 (ruleV rule (goV next rule.length (sb s)))) ∧ Below p.W.heap.size p.W w' := fun p =>
        run_k (cn := cn) (cr := cr) ((hT hEr).below p.h (Nat.le_refl _)) s (by omega)
      have h16 : ∀ p : BW wr, Calls Tryd.prog 16 #[.agg #[.slice an next.length cn, .slice ar rule.length cr], .int .i64 (goV next rule.length (sb s))] p.W fun e w' => e = .returned (.int .i64 (ruleV rule (goV next rule.length (sb s)))) ∧ Below p.W.heap.size p.W w' := fun p =>
        rule_k ((hT hEr).below p.h (Nat.le_refl _)) _
      have h17 : ∀ p : BW wr, Calls Tryd.prog 17 #[.agg #[.slice an next.length cn, .slice ar rule.length cr], .int .i64 (-1), .int .u8 7] p.W fun e w' => e = .returned (.int .i64 (-1)) ∧ Below p.W.heap.size p.W w' := fun p => by
        have := step_k (cn := cn) (cr := cr) ((hT hEr).below p.h (Nat.le_refl _)) (-1) 7 (by omega)
        rwa [stepV_neg] at this
      have c0 := cell_all hEr.c0 hEr.lt
      have c1 := cell_all hEr.c1 hEr.lt
      clear e
      generalize ruleV rule (goV next rule.length (sb s)) = rr at *
      generalize goV next rule.length (sb s) = st at *
      go_wp2
      refine region_below (by kernel_rfl) (by kernel_rfl) ?_
      repeat (go_big_quiet_step (first | (go_at_call 12; with_reducible exact Calls.below_of (h12 _)) | (go_at_call 16; with_reducible exact Calls.below_of (h16 _)) | (go_at_call 17; with_reducible exact Calls.below_of (h17 _))))
      refine wpQuiet_nil ?_
      rintro _ ⟨p, rfl⟩
      go_wp2
      go_ret
      exact ⟨rfl, (hEr.below p.h).b⟩
end Go.Proofs.YtaadkdmbhckdeaaDoor
