/- Dfa: viewportref03.Run 13, walked. -/
import Derived.Test.YtaadkdmbhckdeaaDoorN24
import Derived.Test.YtaadkdmbhckdeaaDoorN28
import Derived.Test.YtaadkdmbhckdeaaDoorN30
namespace Go.Proofs.YtaadkdmbhckdeaaDoor
open Go Go.Proofs Go.RowKit
attribute [local go_sem] Oper.semAt_some
def row13_7 : List (Nat × Bool) := [(0, false), (1, false), (2, false), (3, false), (4, false), (5, true), (6, false)]
def inf13_7 : List AX.Inf := [⟨0, 131072, 4, true⟩, ⟨0, 262144, 32, true⟩, ⟨0, 524288, 2, true⟩, ⟨0, 1048576, 64, true⟩, ⟨12, 2097152, 1572864, true⟩, ⟨19, 4194304, 2490368, false⟩, ⟨63, 32, 4194304, true⟩]
theorem fit13_7 : AX.mixF inf13_7 row13_7 0 = true := by kernel_rfl
/-- The states behind a text's first bytes. -/
def Sk (N : Nf) (l : List Nat) : List Int := l.foldl (stepN N) [0]
theorem Sk_snoc (N : Nf) (l : List Nat) (b : Nat) : Sk N (l ++ [b]) = stepN N (Sk N l) b := by unfold Sk; rw [List.foldl_append]; rfl
theorem Sk_in (N : Nf) (o : NfOk N) (l : List Nat) : (Sk N l).length ≤ 1024 ∧ ∀ q ∈ Sk N l, 0 ≤ q ∧ q < (N.cl.length : Int) := by
  rcases List.eq_nil_or_concat l with rfl | ⟨l', b, rfl⟩
  · refine ⟨by show 1 ≤ 1024; omega, fun q hq => ?_⟩
    have : q = 0 := List.mem_singleton.1 hq
    have := o.one
    omega
  · rw [List.concat_eq_append, Sk_snoc]
    exact ⟨Nat.le_trans (stepF_len _ _ _ _ _) o.most, fun q hq => stepF_in hq⟩
set_option maxRecDepth 100000 in
set_option maxHeartbeats 4000000 in
theorem run13_k (N : Nf) (o : NfOk N) (ac an ar : Option Addr) (cc cn cr : Nat) (s : ByteArray) (hs : s.size ≤ 1000000) (w : World) (h : NfAt w N ac an ar) :
    Calls Tryd.prog 13 #[.agg #[.slice ac N.cl.length cc, .slice an N.nx.length cn, .slice ar N.ru.length cr], .string s] w fun e w' => e = .returned (.int .i64 (ruleF N.ru (Sk N (sb s)))) ∧ Below w.heap.size w w' := by
  obtain ⟨x0, hx0⟩ : ∃ v, v = Value.slice ac N.cl.length cc := ⟨_, rfl⟩
  obtain ⟨x1, hx1⟩ : ∃ v, v = Value.slice an N.nx.length cn := ⟨_, rfl⟩
  obtain ⟨x2, hx2⟩ : ∃ v, v = Value.slice ar N.ru.length cr := ⟨_, rfl⟩
  have hck : ∀ W, Below w.heap.size w W → Calls Tryd.prog 8 #[.agg #[x0, x1, x2]] W fun e w' => e = .returned (.int .i64 0) ∧ Below W.heap.size W w' := fun W hb => by
    rw [hx0, hx1, hx2]; exact rcheck_fine o (h.below hb (Nat.le_refl _))
  have hgo : ∀ (l : List Nat) (b : Nat), b < 256 → ∀ aS cs W, Below w.heap.size w W → IRow W aS (Sk N l) → Calls Tryd.prog 29 #[.agg #[x0, x1, x2], .slice aS (Sk N l).length cs, .int .u8 b] W fun e w' => ∃ a c, e = .returned (.slice a (Sk N (l ++ [b])).length c) ∧ IRow w' a (Sk N (l ++ [b])) ∧ Below W.heap.size W w' := fun l b hb aS cs W hW hI => by
    rw [hx0, hx1, hx2]
    obtain ⟨h1, h2⟩ := Sk_in N o l
    refine (go29_k N o ac an ar cc cn cr (Sk N l) (by omega) h2 aS cs b hb W (h.below hW (Nat.le_refl _)) hI).mono ?_
    rintro e w' ⟨v, rfl, hv, hb'⟩
    rw [Sk_snoc]
    obtain ⟨a, c, rfl, hI'⟩ := (SAt.of_own (bad := []) hv (by simp)).irow
    exact ⟨a, c, rfl, hI', hb'⟩
  have hend : ∀ aS cs W, Below w.heap.size w W → IRow W aS (Sk N (sb s)) → Calls Tryd.prog 30 #[.agg #[x0, x1, x2], .slice aS (Sk N (sb s)).length cs] W fun e w' => e = .returned (.int .i64 (ruleF N.ru (Sk N (sb s)))) ∧ Below W.heap.size W w' := fun aS cs W hW hI => by
    rw [hx0, hx1, hx2]
    obtain ⟨h1, h2⟩ := Sk_in N o (sb s)
    exact ends30_k N ac an ar cc cn cr (Sk N (sb s)) (by omega) (by rw [o.ru]; exact h2) aS cs W (h.below hW (Nat.le_refl _)) hI
  rw [← hx0, ← hx1, ← hx2]
  have o0 : x0.oneCell' = true := by rw [hx0]; rfl
  have o1 : x1.oneCell' = true := by rw [hx1]; rfl
  have o2 : x2.oneCell' = true := by rw [hx2]; rfl
  obtain ⟨U, hU⟩ : ∃ U, U = w.heap.size := ⟨_, rfl⟩
  obtain ⟨W1, hW1⟩ : ∃ W1, W1 = w.alloc (.cells #[x0, x1, x2] 26) := ⟨_, rfl⟩
  have hB1 : Below w.heap.size w W1 := by rw [hW1]; exact (Below.refl _ w).alloc (Nat.le_refl _) _
  have u1 : Bx W1 U 26 #[x0, x1, x2] := by rw [hW1, hU]; exact Bx.new w 26 _
  obtain ⟨rv, hrv⟩ : ∃ rv, rv = ruleF N.ru (Sk N (sb s)) := ⟨_, rfl⟩
  rw [← hrv] at hend ⊢
  have HW1 := Lib.hid hW1
  have HU := Lib.hid hU
  clear hW1 hU hx0 hx1 hx2 h hrv
  go_enter Tryd.func13, Tryd.ntmps13
  go_wp2_with (first
    | (go_at_call 8; (try rw [← HW1.out, ← HU.out]); (with_reducible refine (hck _ hB1).mono ?_); rintro e W2 ⟨rfl, hb2⟩; have hB2 := hB1.trans (hb2.mono hB1.size); have u2 := u1.below hb2 u1.lt))
  have hI0 : IRow (W2.alloc (.cells #[.int .i64 0] 3)) (some ⟨W2.heap.size, 0, none⟩) (Sk N ((sb s).take 0)) := fun _ => ⟨_, _, rfl, by simp, fun j hj => by
    obtain rfl : j = 0 := Nat.lt_one_iff.1 hj
    simp [Sk]⟩
  have hb3 := (Below.refl W2.heap.size W2).alloc (Nat.le_refl _) (.cells #[.int .i64 0] 3)
  have hB3 := hB2.trans (hb3.mono hB2.size)
  have u3 := u2.below hb3 u2.lt
  clear hb2 hB2 u2 hB1 u1 hck
  go_loopw [5, 6] (fun t5 i wr => ∃ (k : Nat) (aS : Option Addr) (cs : Nat), k ≤ s.size ∧ i = .int .i64 k ∧ t5 = .slice aS (Sk N ((sb s).take k)).length cs ∧ IRow wr aS (Sk N ((sb s).take k)) ∧ Bx wr U 26 #[x0, x1, x2] ∧ Below w.heap.size w wr)
    (fun _ i _ => s.size - (intOf i).toNat)
  case atStart => exact ⟨0, _, _, Nat.zero_le _, rfl, rfl, hI0, u3, hB3⟩
  case round =>
    clear hI0 u3 hB3 hb3
    obtain ⟨k, aS, cs, hk, rfl, rfl, hI, u, hB⟩ := hrel
    by_cases hkl : k < s.size
    · have hks : k < (sb s).length := by rw [sb_len]; exact hkl
      obtain ⟨b, hb⟩ : ∃ b, b = (sb s)[k] := ⟨_, rfl⟩
      have hb1 : b < 256 := by rw [hb]; exact sb_lt s k hks
      have hst : (sb s).take (k + 1) = (sb s).take k ++ [b] := by rw [hb, List.take_succ_eq_append_getElem hks]
      have hgk := fun W (hW : Below wr.heap.size wr W) => hgo _ b hb1 aS cs W (hB.trans (hW.mono hB.size)) (hI.below hW (Nat.le_refl _))
      rw [← hst] at hgk
      obtain ⟨S0, hS0⟩ : ∃ S0, S0 = (Sk N ((sb s).take k)).length := ⟨_, rfl⟩
      obtain ⟨S1, hS1⟩ : ∃ S1, S1 = (Sk N ((sb s).take (k + 1))).length := ⟨_, rfl⟩
      rw [← hS0, ← hS1] at hgk
      rw [← hS0]
      have HS1 := Lib.hid hS1
      have hbs : (s[k]'hkl).toNat = b := by
        have hkd : k < s.data.size := hkl
        have h1 : (sb s)[k]? = some s.data[k].toNat := by
          unfold sb
          rw [List.getElem?_map, Array.getElem?_toList, Array.getElem?_eq_getElem hkd]
          rfl
        rw [List.getElem?_eq_getElem hks] at h1
        rw [hb, Option.some.inj h1]
        rfl
      have HBS := Lib.hid hbs
      clear hbs
      have A0 := AX.cell_all (u.cell 0) u.lt
      have A1 := AX.cell_all (u.cell 1) u.lt
      have A2 := AX.cell_all (u.cell 2) u.lt
      have hk0 : (0 : Int) ≤ (k : Int) := by omega
      have hk1 : (k : Int) < (s.size : Int) := by omega
      go_upto_region 7 with (fail)
      refine AX.region_mixF (C := fun W => ∃ p : AX.BW wr, W = p.W) row13_7 inf13_7 (by kernel_rfl) (by kernel_rfl) (by kernel_rfl) (by kernel_rfl) fit13_7 (by intro c a d v w h; cases d <;> exact h) ⟨⟨_, (Below.refl _ wr).drew⟩, rfl⟩ ?_
      unfold row13_7
      repeat (refine AX.mix_plain _ (by rfl) ?_; go_big_quiet_step (fail); refine wpQuiet_nil ?_)
      rw [HBS.out]
      refine AX.mix_call2 (hgk _ (Below.refl _ wr).drew) (by rfl) (by rfl) (by rfl) Tryd.func29 (by kernel_rfl) (by rfl) (by simp only [List.map_toArray, List.map_cons, List.map_nil]; rfl) ?_
      rintro e W7 ⟨a, c, rfl, hI7, hb7⟩
      have hb7' : Below wr.heap.size wr W7 := (Below.refl _ wr).drew.trans hb7
      have u7 := u.below hb7' u.lt
      have hB7 := hB.trans (hb7'.mono hB.size)
      have HI7 := Lib.hid hI7
      clear hI7 hgk A0 A1 A2
      refine ⟨_, rfl, ⟨⟨_, hb7'⟩, rfl⟩, ?_⟩
      simp only [Act.put, List.setIfInBounds_toArray, List.set_cons_succ, List.set_cons_zero]
      repeat (refine AX.mix_plain _ (by rfl) ?_; go_big_quiet_step (fail); refine wpQuiet_nil ?_)
      unfold AX.wpMix
      go_wp2_with fail
      go_round
      case rel => exact ⟨k + 1, a, c, by omega, by simp, by rw [HS1.out], HI7.out, u7, hB7⟩
      case measure => simp [intOf]; omega
    · obtain rfl : k = s.size := by omega
      have hd : (sb s).take s.size = sb s := by rw [← sb_len, List.take_length]
      rw [hd] at hI ⊢
      have he := hend aS cs wr hB hI
      obtain ⟨S0, hS0⟩ : ∃ S0, S0 = (Sk N (sb s)).length := ⟨_, rfl⟩
      rw [← hS0] at he ⊢
      have c0 := u.cell 0
      have c1 := u.cell 1
      have c2 := u.cell 2
      clear hI hend hgo hS0
      go_wp2_with (first | (go_at_call 30; (with_reducible refine he.mono ?_); rintro e W7 ⟨rfl, hb7⟩))
      go_ret
      exact ⟨rfl, hB.trans (hb7.mono hB.size)⟩
end Go.Proofs.YtaadkdmbhckdeaaDoor
