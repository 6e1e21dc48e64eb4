/- Dfa: DfaRuns 4. -/
import Derived.Test.YtaadkdmbhckdeaaDoorN32
namespace Go.Proofs.YtaadkdmbhckdeaaDoor
open Go Go.Proofs Go.RowKit
attribute [local go_sem] Oper.semAt_some
set_option maxRecDepth 100000 in
set_option maxHeartbeats 4000000 in
theorem runs_k (N : Nf) (ac an ar : Option Addr) (cc cn cr : Nat) (room : Int) (s : ByteArray) (w : World) (hp : 0 < w.heap.size) (hT : TabAt w) (h : NfAt w N ac an ar) (hL : ∀ W, Below w.heap.size w W → Calls Tryd.prog 6 #[] W fun e w' => e = .returned (.bool true) ∧ Below W.heap.size W w') :
    Calls Tryd.prog 4 #[.agg #[.slice ac N.cl.length cc, .slice an N.nx.length cn, .slice ar N.ru.length cr], .int .i64 room, .string s] w fun e w' => e = .returned (.bool true) ∧ Below w.heap.size w w' := by
  obtain ⟨x0, hx0⟩ : ∃ v, v = Value.slice ac N.cl.length cc := ⟨_, rfl⟩
  obtain ⟨x1, hx1⟩ : ∃ v, v = Value.slice an N.nx.length cn := ⟨_, rfl⟩
  obtain ⟨x2, hx2⟩ : ∃ v, v = Value.slice ar N.ru.length cr := ⟨_, rfl⟩
  have hlt : ∀ W, Below w.heap.size w W → Calls Tryd.prog 7 #[.agg #[x0, x1, x2], .int .i64 12] W fun e w' => LightPost N.cl.length N.nx.length N.ru.length e ∧ Below W.heap.size W w' := fun W hb => by
    rw [hx0, hx1, hx2]; exact light7_k N ac an ar cc cn cr W (h.below hb (Nat.le_refl _))
  have hbd : NfOk N → N.cl.length ≤ 12 → ∀ m : Nat, 1 ≤ m → m ≤ 512 → ∀ W, Below w.heap.size w W → Calls Tryd.prog 9 #[.agg #[x0, x1, x2], .int .i64 m] W (BPost W N m) := fun o hl m h1 h2 W hb => by
    rw [hx0, hx1, hx2]; exact build9_k N o hl ac an ar cc cn cr m h1 h2 W (Nat.lt_of_lt_of_le hp hb.size) (hT.below hb hp) (h.below hb (Nat.le_refl _))
  have hb0 : NfOk N → ∀ W, Below w.heap.size w W → Calls Tryd.prog 9 #[.agg #[x0, x1, x2], .int .i64 0] W fun e w' => e = .returned (.tuple #[.agg #[.slice none 0 0, .slice none 0 0], .int .i64 2]) ∧ Below W.heap.size W w' := fun o W hb => by
    rw [hx0, hx1, hx2]; exact build9_low N o ac an ar cc cn cr 0 (by decide) W (h.below hb (Nat.le_refl _))
  have hrc : ∀ W, Below w.heap.size w W → Calls Tryd.prog 8 #[.agg #[x0, x1, x2]] W fun e w' => e = .returned (.int .i64 (ckN N)) ∧ Below W.heap.size W w' := fun W hb => by
    rw [hx0, hx1, hx2]; exact rcheck_k N ac an ar cc cn cr W (h.below hb (Nat.le_refl _))
  have hru : NfOk N → s.size ≤ 1000000 → ∀ W, Below w.heap.size w W → Calls Tryd.prog 13 #[.agg #[x0, x1, x2], .string s] W fun e w' => e = .returned (.int .i64 (ruleF N.ru (Sk N (sb s)))) ∧ Below W.heap.size W w' := fun o hs W hb => by
    rw [hx0, hx1, hx2]; exact run13_k N o ac an ar cc cn cr s hs W (h.below hb (Nat.le_refl _))
  rw [← hx0, ← hx1, ← hx2]
  have o0 : x0.oneCell' = true := by rw [hx0]; rfl
  have o1 : x1.oneCell' = true := by rw [hx1]; rfl
  have o2 : x2.oneCell' = true := by rw [hx2]; rfl
  obtain ⟨U, hU⟩ : ∃ U, U = w.heap.size := ⟨_, rfl⟩
  obtain ⟨W1, hW1⟩ : ∃ W1, W1 = w.alloc (.cells #[x0, x1, x2] 26) := ⟨_, rfl⟩
  have hB1 : Below w.heap.size w W1 := by rw [hW1]; exact (Below.refl _ w).alloc (Nat.le_refl _) _
  have u1 : Bx W1 U 26 #[x0, x1, x2] := by rw [hW1, hU]; exact Bx.new w 26 _
  have HW1 := Lib.hid hW1
  have HU := Lib.hid hU
  clear hW1 hU hx0 hx1 hx2 hT h hp
  go_enter Tryd.func4, Tryd.ntmps4
  go_upto_region 3 with (first
    | (go_at_call 6; (try rw [← HW1.out, ← HU.out]); (with_reducible refine (hL _ hB1).mono ?_); rintro e W2 ⟨rfl, hb2⟩; have hB2 := hB1.trans (hb2.mono hB1.size); have u2 := u1.below hb2 u1.lt; have d0 := u2.cell 0; have d1 := u2.cell 1; have d2 := u2.cell 2))
  have e0 := u2.cell 0
  have e1 := u2.cell 1
  have e2 := u2.cell 2
  clear d0 d1 d2 hL
  by_cases hr1 : room < 1
  · clear hbd hb0 hrc hru
    go_wp2_with (first
      | (go_at_call 7; (with_reducible refine (hlt _ hB2).mono ?_); rintro e W3 ⟨⟨z, rfl, hz⟩, hb3⟩; have hB3 := hB2.trans (hb3.mono hB2.size)))
    all_goals (go_ret; exact ⟨rfl, hB3⟩)
  by_cases hr2 : 64 < room
  · clear hbd hb0 hrc hru
    go_wp2_with (first
      | (go_at_call 7; (with_reducible refine (hlt _ hB2).mono ?_); rintro e W3 ⟨⟨z, rfl, hz⟩, hb3⟩; have hB3 := hB2.trans (hb3.mono hB2.size)))
    all_goals (go_ret; exact ⟨rfl, hB3⟩)
  by_cases hr3 : 40 < s.size
  · clear hbd hb0 hrc hru
    go_wp2_with (first
      | (go_at_call 7; (with_reducible refine (hlt _ hB2).mono ?_); rintro e W3 ⟨⟨z, rfl, hz⟩, hb3⟩; have hB3 := hB2.trans (hb3.mono hB2.size)))
    all_goals (go_ret; exact ⟨rfl, hB3⟩)
  have hs6 : s.size ≤ 1000000 := by omega
  obtain ⟨rm, rfl⟩ : ∃ rm : Nat, room = (rm : Int) := ⟨room.toNat, by omega⟩
  have hm1 : 1 ≤ rm := by omega
  have hm2 : rm ≤ 64 := by omega
  obtain ⟨q, hq⟩ : ∃ q, q = ckN N := ⟨_, rfl⟩
  rw [← hq] at hrc
  have HQ := Lib.hid hq
  clear hq
  go_upto_if 35 with (first
    | (go_at_call 7; (with_reducible refine (hlt _ hB2).mono ?_); rintro e W3 ⟨⟨z, rfl, hz⟩, hb3⟩; have hB3 := hB2.trans (hb3.mono hB2.size); have u3 := u2.below hb3 u2.lt; have d0 := u3.cell 0; have d1 := u3.cell 1; have d2 := u3.cell 2)
    | (go_at_call 8; (with_reducible refine (hrc _ hB3).mono ?_); rintro e W4 ⟨rfl, hb4⟩; have hB4 := hB3.trans (hb4.mono hB3.size); have u4 := u3.below hb4 u3.lt))
  · have hr3' : ¬ (40 : Int) < (s.size : Int) := by omega
    have k1 : decide ((rm : Int) < 1) = false := decide_eq_false (by omega)
    have k2 : decide ((64 : Int) < (rm : Int)) = false := decide_eq_false (by omega)
    have k3 : decide ((40 : Int) < (s.size : Int)) = false := decide_eq_false hr3'
    simp only [k1, k2, k3, Bool.or_false, Bool.false_or]
    clear k1 k2 k3
    by_cases o : NfOk N
    · have hq0 : q = 0 := HQ.out.trans (if_pos o)
      subst hq0
      have hz1 := (hz (by assumption)).1
      have e5 := u4.cell 0
      have e6 := u4.cell 1
      have e7 := u4.cell 2
      have hb9 := hbd o hz1 rm hm1 (by omega) _ hB4
      cases hbl : bldB rm (stepN N) (lowsOf (spl N.cl)) (rm + 1) 0 [[0]] with
      | none =>
        replace hb9 := hb9.mono (R' := fun e w' => e = .returned (.tuple #[.agg #[.slice none 0 0, .slice none 0 0], .int .i64 10]) ∧ Below W4.heap.size W4 w') (by
          rintro e w' ⟨h1, (⟨_, h2⟩ | ⟨tss, T, _, _, _, _, h3, _⟩)⟩
          · exact ⟨h2, h1⟩
          · rw [hbl] at h3; cases h3)
        clear hbd hlt hrc hru hb0
        go_wp2_with (first | (go_at_call 9; (with_reducible refine hb9.mono ?_); rintro e W5 ⟨rfl, hb5⟩))
        go_ret
        exact ⟨rfl, (hB4.trans (hb5.mono hB4.size)).alloc (Nat.le_trans hB4.size hb5.size) _⟩
      | some p =>
        obtain ⟨tss, T⟩ := p
        replace hb9 := hb9.mono (R' := fun e w' => ∃ an ar cn cr, e = .returned (.tuple #[.agg #[.slice an (nextOf (clsOf (spl N.cl)) tss).length cn, .slice ar (rulesOf N.ru T).length cr], .int .i64 0]) ∧ IRow w' an (nextOf (clsOf (spl N.cl)) tss) ∧ IRow w' ar (rulesOf N.ru T) ∧ Below W4.heap.size W4 w') (by
          rintro e w' ⟨h1, (⟨h2, _⟩ | ⟨tss', T', an, ar, cn, cr, h3, h4, h5, h6⟩)⟩
          · rw [hbl] at h2; cases h2
          · rw [hbl] at h3; cases h3; exact ⟨an, ar, cn, cr, h4, h5, h6, h1⟩)
        have hBl := Bl.of hm1 hbl
        have hok := hBl.ok o (by omega)
        have hrun := hBl.run hm1 hbl s
        have hrl : (rulesOf N.ru T).length = T.length := by unfold rulesOf; simp
        have hless : ∀ m : Nat, 1 ≤ m → m < T.length → ∀ W, Below w.heap.size w W → Calls Tryd.prog 9 #[.agg #[x0, x1, x2], .int .i64 m] W fun e w' => e = .returned (.tuple #[.agg #[.slice none 0 0, .slice none 0 0], .int .i64 10]) ∧ Below W.heap.size W w' := fun m h1 h2 W hW =>
          (hbd o hz1 m h1 (by have := hBl.most; omega) W hW).mono (by
            rintro e w' ⟨h1', (⟨_, h2'⟩ | ⟨tss, T, _, _, _, _, h3, _⟩)⟩
            · exact ⟨h2', h1'⟩
            · rw [Bl.less hm1 hbl h1 h2] at h3; cases h3)
        have hone := hBl.one
        have hmost := hBl.most
        obtain ⟨want, hw1, hw2⟩ : ∃ want : Int, (T.length = 1 → want = 2) ∧ (T.length ≠ 1 → want = 10) := ⟨if T.length = 1 then 2 else 10, fun h => if_pos h, fun h => if_neg h⟩
        have hb9b : ∀ v : Int, v = (T.length : Int) - 1 → ∀ W, Below w.heap.size w W → Calls Tryd.prog 9 #[.agg #[x0, x1, x2], .int .i64 v] W fun e w' => e = .returned (.tuple #[.agg #[.slice none 0 0, .slice none 0 0], .int .i64 want]) ∧ Below W.heap.size W w' := fun v hv W hW => by
          by_cases h1 : T.length = 1
          · rw [hw1 h1, hv, h1]; exact hb0 o W hW
          · rw [hw2 h1, hv, show (T.length : Int) - 1 = ((T.length - 1 : Nat) : Int) by omega]
            exact hless _ (by omega) (by omega) W hW
        have hR13 := hru o hs6
        rw [← hrun] at hR13
        rw [hrl] at hb9
        have hlenk : ∀ (an ar : Option Addr) (cn cr : Nat) (w : World), Tab w (nextOf (clsOf (spl N.cl)) tss) (rulesOf N.ru T) an ar → Calls Tryd.prog 10 #[.agg #[.slice an (nextOf (clsOf (spl N.cl)) tss).length cn, .slice ar T.length cr]] w fun e w' => e = .returned (.int .i64 T.length) ∧ Below w.heap.size w w' := fun an ar cn cr w h => by
          have := len_k (cn := cn) (cr := cr) h
          rw [hrl] at this
          exact this
        have hckk : ∀ (an ar : Option Addr) (cn cr : Nat) (w : World), Tab w (nextOf (clsOf (spl N.cl)) tss) (rulesOf N.ru T) an ar → Calls Tryd.prog 11 #[.agg #[.slice an (nextOf (clsOf (spl N.cl)) tss).length cn, .slice ar T.length cr]] w fun e w' => e = .returned (.int .i64 0) ∧ Below w.heap.size w w' := fun an ar cn cr w h => by
          have := check_ok (cn := cn) (cr := cr) h
          rw [hrl] at this
          exact this
        have hrunk : ∀ (an ar : Option Addr) (cn cr : Nat) (w : World), Tab w (nextOf (clsOf (spl N.cl)) tss) (rulesOf N.ru T) an ar → Calls Tryd.prog 12 #[.agg #[.slice an (nextOf (clsOf (spl N.cl)) tss).length cn, .slice ar T.length cr], .string s] w fun e w' => e = .returned (.int .i64 (ruleV (rulesOf N.ru T) (goV (nextOf (clsOf (spl N.cl)) tss) (rulesOf N.ru T).length (sb s)))) ∧ Below w.heap.size w w' := fun an ar cn cr w h => by
          have := run_k (cn := cn) (cr := cr) h s hs6
          rw [hrl] at this ⊢
          exact this
        obtain ⟨rv, hrv⟩ : ∃ rv, rv = ruleV (rulesOf N.ru T) (goV (nextOf (clsOf (spl N.cl)) tss) (rulesOf N.ru T).length (sb s)) := ⟨_, rfl⟩
        rw [← hrv] at hR13 hrunk
        clear hrv hrun hbd hru hless hb0 hlt hrc hBl hrl hbl
        obtain ⟨next, hnext⟩ : ∃ next, next = nextOf (clsOf (spl N.cl)) tss := ⟨_, rfl⟩
        obtain ⟨rule, hrule⟩ : ∃ rule, rule = rulesOf N.ru T := ⟨_, rfl⟩
        rw [← hnext, ← hrule] at hok hb9 hlenk hckk hrunk
        obtain ⟨nl, hnl⟩ : ∃ nl, nl = next.length := ⟨_, rfl⟩
        obtain ⟨m, hm⟩ : ∃ m, m = T.length := ⟨_, rfl⟩
        rw [← hnl, ← hm] at hb9 hlenk hckk hrunk
        rw [← hm] at hone hmost hw1 hw2 hb9b
        clear hnext hrule hnl hm hz hz1 HQ hm1 hm2
        go_upto_region 8 with (first | (go_at_call 9; (with_reducible refine hb9.mono ?_); rintro e W5 ⟨an', ar', cn', cr', rfl, hI5, hJ5, hb5⟩))
        have hB5 := hB4.trans (hb5.mono hB4.size)
        have u5 := u4.below hb5 u4.lt
        obtain ⟨W6, hW6⟩ : ∃ W6, W6 = W5.alloc (.cells #[.slice an' nl cn', .slice ar' m cr'] 32) := ⟨_, rfl⟩
        obtain ⟨D, hD⟩ : ∃ D, D = W5.heap.size := ⟨_, rfl⟩
        have hb6 : Below W5.heap.size W5 W6 := by rw [hW6]; exact (Below.refl _ W5).alloc (Nat.le_refl _) _
        have hD6 : Bx W6 D 32 #[.slice an' nl cn', .slice ar' m cr'] := by rw [hW6, hD]; exact Bx.new W5 32 _
        have hT6 : Tab W6 next rule an' ar' := Tab.mk' hok (hI5.below hb6 (Nat.le_refl _)) (hJ5.below hb6 (Nat.le_refl _))
        have hB6 := hB5.trans (hb6.mono hB5.size)
        have u6 := u5.below hb6 u5.lt
        rw [← hW6, ← hD]
        clear hW6 hD hb6 hI5 hJ5 hb5 hb9 hok e0 e1 e2 e5 e6 e7
        have c0 := hD6.cell 0
        have c1 := hD6.cell 1
        have hl6 := hlenk an' ar' cn' cr' _ hT6
        go_upto_region 9 with (first | (go_at_call 10; (with_reducible refine hl6.mono ?_); rintro e W7 ⟨rfl, hb7⟩))
        have hB7 := hB6.trans (hb7.mono hB6.size)
        have u7 := u6.below hb7 u6.lt
        have hD7 := hD6.below hb7 hD6.lt
        have hT7 := hT6.below hb7 (Nat.le_refl _)
        clear hl6 c0 c1 hlenk hT6 hD6 u6 u5 u4 u3 u2 u1
        have e0 := u7.cell 0
        have e1 := u7.cell 1
        have e2 := u7.cell 2
        go_upto_region 10 with (first | (go_at_call 9; (with_reducible refine (hb9b _ (by omega) _ hB7).mono ?_); rintro e W8 ⟨rfl, hb8⟩))
        have hB8 := hB7.trans (hb8.mono hB7.size)
        have u8 := u7.below hb8 u7.lt
        have hD8 := hD7.below hb8 hD7.lt
        have hT8 := hT7.below hb8 (Nat.le_refl _)
        obtain ⟨W9, hW9⟩ : ∃ W9, W9 = W8.alloc (.cells #[.slice none 0 0, .slice none 0 0] 32) := ⟨_, rfl⟩
        have hb9 : Below W8.heap.size W8 W9 := by rw [hW9]; exact (Below.refl _ W8).alloc (Nat.le_refl _) _
        have hB9 := hB8.trans (hb9.mono hB8.size)
        have u9 := u8.below hb9 u8.lt
        have hD9 := hD8.below hb9 hD8.lt
        have hT9 := hT8.below hb9 (Nat.le_refl _)
        rw [← hW9]
        clear hW9 hb9 hb8 hb7 u8 u7 hD8 hD7 hT8 hT7 e0 e1 e2 hb9b
        have A0 := AX.cell_all (u9.cell 0) u9.lt
        have A1 := AX.cell_all (u9.cell 1) u9.lt
        have A2 := AX.cell_all (u9.cell 2) u9.lt
        have A3 := AX.cell_all (hD9.cell 0) hD9.lt
        have A4 := AX.cell_all (hD9.cell 1) hD9.lt
        have T9 := fun p : AX.BW W9 => hT9.below p.h (Nat.le_refl _)
        have B9 := fun p : AX.BW W9 => hB9.trans (p.h.mono hB9.size)
        by_cases hm1 : m = 1
        · have hwn := hw1 hm1
          subst hwn
          have hmi : (m : Int) = 1 := by omega
          have hml : (m : Int) ≤ (rm : Int) := by omega
          clear hw1 hw2 hm1
          go_upto_region 13 with (fail)
          refine AX.region_below (by kernel_rfl) (by kernel_rfl) ?_
          repeat (go_big_quiet_step (first
            | (go_at_call 11; with_reducible exact AX.below_of (hckk _ _ _ _ _ (T9 _)))
            | (go_at_call 12; with_reducible exact AX.below_of (hrunk _ _ _ _ _ (T9 _)))
            | (go_at_call 13; with_reducible exact AX.below_of (hR13 _ (B9 _)))))
          refine wpQuiet_nil ?_
          rintro X ⟨px, rfl⟩
          obtain ⟨X, hbx⟩ := px
          change Below _ _ _ at hbx
          have hBx := hB9.trans (hbx.mono hB9.size)
          clear A0 A1 A2 A3 A4 T9 B9
          go_wp2_with fail
          go_ret
          exact ⟨rfl, hBx⟩
        · have hwn := hw2 hm1
          subst hwn
          have hmi : ¬ (m : Int) = 1 := by omega
          have hml : (m : Int) ≤ (rm : Int) := by omega
          clear hw1 hw2 hm1
          go_upto_region 13 with (fail)
          refine AX.region_below (by kernel_rfl) (by kernel_rfl) ?_
          repeat (go_big_quiet_step (first
            | (go_at_call 11; with_reducible exact AX.below_of (hckk _ _ _ _ _ (T9 _)))
            | (go_at_call 12; with_reducible exact AX.below_of (hrunk _ _ _ _ _ (T9 _)))
            | (go_at_call 13; with_reducible exact AX.below_of (hR13 _ (B9 _)))))
          refine wpQuiet_nil ?_
          rintro X ⟨px, rfl⟩
          obtain ⟨X, hbx⟩ := px
          change Below _ _ _ at hbx
          have hBx := hB9.trans (hbx.mono hB9.size)
          clear A0 A1 A2 A3 A4 T9 B9
          go_wp2_with fail
          go_ret
          exact ⟨rfl, hBx⟩
    · have hq2 : q = 2 := HQ.out.trans (if_neg o)
      subst hq2
      clear hbd hb0 hrc hru hlt
      go_wp2_with fail
      go_ret
      exact ⟨rfl, hB4⟩
  · clear hbd hb0 hrc hru hlt
    go_wp2_with fail
    go_ret
    exact ⟨rfl, hB3⟩
end Go.Proofs.YtaadkdmbhckdeaaDoor
