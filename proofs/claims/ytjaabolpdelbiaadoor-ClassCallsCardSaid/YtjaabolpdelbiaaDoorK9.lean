/- ClassCalls: viewportkit.Own at classes. -/
import Derived.Test.YtjaabolpdelbiaaDoorSP5
import Derived.Test.YtjaabolpdelbiaaDoorLPA
import Derived.BigQuiet
import Derived.Laws.Cover1
namespace Go.Proofs.YtjaabolpdelbiaaDoor
open Go Go.Proofs Go.RowKit Go.Shelf
attribute [local go_sem] Oper.semAt_some

theorem rUnion_run (a0 a1 a2 a3 b0 b1 b2 b3 : Int) : AX.valOf (AX.callA cx0 3 (.fn 29) [cA a0 a1 a2 a3, cA b0 b1 b2 b3] .leaf 0) = some (cA (bits .or .u64 a0 b0) (bits .or .u64 a1 b1) (bits .or .u64 a2 b2) (bits .or .u64 a3 b3)) := by kernel_rfl
theorem rMeet_run (a0 a1 a2 a3 b0 b1 b2 b3 : Int) : AX.valOf (AX.callA cx0 3 (.fn 30) [cA a0 a1 a2 a3, cA b0 b1 b2 b3] .leaf 0) = some (cA (bits .and .u64 a0 b0) (bits .and .u64 a1 b1) (bits .and .u64 a2 b2) (bits .and .u64 a3 b3)) := by kernel_rfl
theorem rNot_run (a0 a1 a2 a3 : Int) : AX.valOf (AX.callA cx0 3 (.fn 31) [cA a0 a1 a2 a3] .leaf 0) = some (cA (bits .xor .u64 18446744073709551615 a0) (bits .xor .u64 18446744073709551615 a1) (bits .xor .u64 18446744073709551615 a2) (bits .xor .u64 18446744073709551615 a3)) := by kernel_rfl
theorem rUnion_k (x c : Kl) (w : World) : Calls Tryd.prog 29 #[.agg #[.int .u64 (x.a : Nat), .int .u64 (x.b : Nat), .int .u64 (x.c : Nat), .int .u64 (x.d : Nat)], .agg #[.int .u64 (c.a : Nat), .int .u64 (c.b : Nat), .int .u64 (c.c : Nat), .int .u64 (c.d : Nat)]] w fun e w' =>
    e = .returned (.agg #[.int .u64 ((x.or c).a : Nat), .int .u64 ((x.or c).b : Nat), .int .u64 ((x.or c).c : Nat), .int .u64 ((x.or c).d : Nat)]) ∧ Below w.heap.size w w' := by
  have := bin_calls 29 (bits .or .u64) rUnion_run x.a x.b x.c x.d c.a c.b c.c c.d w
  rwa [bits_or_u64_nat x.a c.a (x.h 0) (c.h 0), bits_or_u64_nat x.b c.b (x.h 1) (c.h 1), bits_or_u64_nat x.c c.c (x.h 2) (c.h 2), bits_or_u64_nat x.d c.d (x.h 3) (c.h 3)] at this
theorem rMeet_k (x c : Kl) (w : World) : Calls Tryd.prog 30 #[.agg #[.int .u64 (x.a : Nat), .int .u64 (x.b : Nat), .int .u64 (x.c : Nat), .int .u64 (x.d : Nat)], .agg #[.int .u64 (c.a : Nat), .int .u64 (c.b : Nat), .int .u64 (c.c : Nat), .int .u64 (c.d : Nat)]] w fun e w' =>
    e = .returned (.agg #[.int .u64 ((x.and c).a : Nat), .int .u64 ((x.and c).b : Nat), .int .u64 ((x.and c).c : Nat), .int .u64 ((x.and c).d : Nat)]) ∧ Below w.heap.size w w' := by
  have := bin_calls 30 (bits .and .u64) rMeet_run x.a x.b x.c x.d c.a c.b c.c c.d w
  rwa [bits_and_u64_nat x.a c.a (x.h 0) (c.h 0), bits_and_u64_nat x.b c.b (x.h 1) (c.h 1), bits_and_u64_nat x.c c.c (x.h 2) (c.h 2), bits_and_u64_nat x.d c.d (x.h 3) (c.h 3)] at this
theorem rNot_k (x : Kl) (w : World) : Calls Tryd.prog 31 #[.agg #[.int .u64 (x.a : Nat), .int .u64 (x.b : Nat), .int .u64 (x.c : Nat), .int .u64 (x.d : Nat)]] w fun e w' =>
    e = .returned (.agg #[.int .u64 (x.not.a : Nat), .int .u64 (x.not.b : Nat), .int .u64 (x.not.c : Nat), .int .u64 (x.not.d : Nat)]) ∧ Below w.heap.size w w' := by
  refine (AX.calls_of_val (C := cx0) pOk AX.ExtOk.leaf AX.OrcOk.leaf (rNot_run x.a x.b x.c x.d) glLeaf (.cons (cRel _ _ _ _ _) .nil)).mono ?_
  rintro e w' ⟨τ, v', rfl, hv, hk⟩
  obtain rfl := cInv hv
  rw [xor_all x.a (x.h 0), xor_all x.b (x.h 1), xor_all x.c (x.h 2), xor_all x.d (x.h 3)]
  exact ⟨rfl, hk.below⟩

/-- A class, and a byte. -/
def wput (w b i : Nat) : Nat := if b / 64 = i then w ||| 2 ^ (b % 64) else w
theorem wput_lt {w b i : Nat} (h : w < 18446744073709551616) : wput w b i < 18446744073709551616 := by
  unfold wput
  split
  · exact Nat.or_lt_two_pow (n := 64) h (Nat.pow_lt_pow_right (by decide) (Nat.mod_lt _ (by decide)))
  · exact h
def Kl.put (x : Kl) (b : Nat) : Kl := ⟨wput x.a b 0, wput x.b b 1, wput x.c b 2, wput x.d b 3, wlt_mk (wput_lt (x.h 0)) (wput_lt (x.h 1)) (wput_lt (x.h 2)) (wput_lt (x.h 3))⟩
theorem put_ofL (l : List Nat) (b : Nat) : (Kl.ofL l).put b = Kl.ofL (l ++ [b]) := by
  apply Kl.ext4 <;> (simp only [Kl.put, Kl.ofL, cw_snoc]; rfl)
theorem wput_bit {w b i : Nat} (j : Nat) (hj : j < 64) : (wput w b i).testBit j = (w.testBit j || decide (64 * i + j = b)) := by
  unfold wput
  split
  · rename_i h
    rw [Nat.testBit_or, Nat.testBit_two_pow]
    congr 1
    rw [decide_eq_decide]
    omega
  · rename_i h
    have : ¬ 64 * i + j = b := by omega
    simp [this]
theorem Kl.has_put (x : Kl) (b i : Nat) (hi : i < 256) : (x.put b).has i = (x.has i || decide (i = b)) := by
  unfold Kl.has hasB
  have h4 : i / 64 = 0 ∨ i / 64 = 1 ∨ i / 64 = 2 ∨ i / 64 = 3 := by omega
  have e : 64 * (i / 64) + i % 64 = i := by omega
  rcases h4 with h | h | h | h <;> rw [h] at e ⊢
  · have := wput_bit (w := wd x.a x.b x.c x.d 0) (b := b) (i := 0) (i % 64) (by omega); rw [e] at this; exact this
  · have := wput_bit (w := wd x.a x.b x.c x.d 1) (b := b) (i := 1) (i % 64) (by omega); rw [e] at this; exact this
  · have := wput_bit (w := wd x.a x.b x.c x.d 2) (b := b) (i := 2) (i % 64) (by omega); rw [e] at this; exact this
  · have := wput_bit (w := wd x.a x.b x.c x.d 3) (b := b) (i := 3) (i % 64) (by omega); rw [e] at this; exact this

theorem shr_bit (a r : Nat) (ha : a < 18446744073709551616) : (bits .and .u64 ((a : Int) / 2 ^ r) 1 == 1) = a.testBit r := by
  have e : (a : Int) / 2 ^ r = ((a / 2 ^ r : Nat) : Int) := by simp
  have hl : a / 2 ^ r < 18446744073709551616 := Nat.lt_of_le_of_lt (Nat.div_le_self _ _) ha
  have e2 : (a / 2 ^ r) &&& 1 = a / 2 ^ r % 2 := Nat.and_one_is_mod _
  rw [e, show ((1 : Int)) = ((1 : Nat) : Int) from rfl, bits_and_u64_nat _ 1 hl (by decide), e2, Nat.testBit_eq_decide_div_mod_eq]
  rw [Bool.eq_iff_iff]
  simp only [beq_iff_eq, decide_eq_true_eq]
  omega

set_option maxHeartbeats 1000000 in
theorem rHas_calls (a0 a1 a2 a3 b : Nat) (hw : wlt a0 a1 a2 a3) (hb : b < 256) (w : World) :
    Calls Tryd.prog 28 #[.agg #[.int .u64 a0, .int .u64 a1, .int .u64 a2, .int .u64 a3], .int .u8 b] w fun e w' => e = .returned (.bool (hasB a0 a1 a2 a3 b)) ∧ Below w.heap.size w w' := by
  obtain ⟨r, hr⟩ : ∃ r : Nat, r = b % 64 := ⟨_, rfl⟩
  have hr64 : r < 64 := by omega
  have hrm : (b : Int) % 64 = (r : Nat) := by omega
  have l0 : a0 < 18446744073709551616 := hw 0
  have l1 : a1 < 18446744073709551616 := hw 1
  have l2 : a2 < 18446744073709551616 := hw 2
  have l3 : a3 < 18446744073709551616 := hw 3
  have h4 : b / 64 = 0 ∨ b / 64 = 1 ∨ b / 64 = 2 ∨ b / 64 = 3 := by omega
  have hB : Below w.heap.size w (w.alloc (.cells #[.int .u64 a0, .int .u64 a1, .int .u64 a2, .int .u64 a3] 27)) := (Below.refl _ w).alloc (Nat.le_refl _) _
  have HR := Lib.hid hr
  clear hr
  obtain hq | hq | hq | hq := h4
  · have hqi : (b : Int) / 64 = 0 := by omega
    have HH := Lib.hid (show hasB a0 a1 a2 a3 b = a0.testBit r by unfold hasB; rw [hq, HR.out]; rfl)
    clear hq
    have ho := shr_bit _ r l0
    go_enter Tryd.func28, Tryd.ntmps28
    go_wp2
    go_ret
    exact ⟨by rw [HH.out]; rfl, hB⟩
  · have hqi : (b : Int) / 64 = 1 := by omega
    have HH := Lib.hid (show hasB a0 a1 a2 a3 b = a1.testBit r by unfold hasB; rw [hq, HR.out]; rfl)
    clear hq
    have ho := shr_bit _ r l1
    go_enter Tryd.func28, Tryd.ntmps28
    go_wp2
    go_ret
    exact ⟨by rw [HH.out]; rfl, hB⟩
  · have hqi : (b : Int) / 64 = 2 := by omega
    have HH := Lib.hid (show hasB a0 a1 a2 a3 b = a2.testBit r by unfold hasB; rw [hq, HR.out]; rfl)
    clear hq
    have ho := shr_bit _ r l2
    go_enter Tryd.func28, Tryd.ntmps28
    go_wp2
    go_ret
    exact ⟨by rw [HH.out]; rfl, hB⟩
  · have hqi : (b : Int) / 64 = 3 := by omega
    have HH := Lib.hid (show hasB a0 a1 a2 a3 b = a3.testBit r by unfold hasB; rw [hq, HR.out]; rfl)
    clear hq
    have ho := shr_bit _ r l3
    go_enter Tryd.func28, Tryd.ntmps28
    go_wp2
    go_ret
    exact ⟨by rw [HH.out]; rfl, hB⟩
set_option maxHeartbeats 1000000 in
theorem rWith_calls (a0 a1 a2 a3 b : Nat) (hw : wlt a0 a1 a2 a3) (hb : b < 256) (w : World) :
    Calls Tryd.prog 45 #[.agg #[.int .u64 a0, .int .u64 a1, .int .u64 a2, .int .u64 a3], .int .u8 b] w fun e w' => e = .returned (.agg #[.int .u64 (wput a0 b 0 : Nat), .int .u64 (wput a1 b 1 : Nat), .int .u64 (wput a2 b 2 : Nat), .int .u64 (wput a3 b 3 : Nat)]) ∧ Below w.heap.size w w' := by
  obtain ⟨r, hr⟩ : ∃ r : Nat, r = b % 64 := ⟨_, rfl⟩
  have hr64 : r < 64 := by omega
  have hrm : (b : Int) % 64 = (r : Nat) := by omega
  have l0 : a0 < 18446744073709551616 := hw 0
  have l1 : a1 < 18446744073709551616 := hw 1
  have l2 : a2 < 18446744073709551616 := hw 2
  have l3 : a3 < 18446744073709551616 := hw 3
  have h4 : b / 64 = 0 ∨ b / 64 = 1 ∨ b / 64 = 2 ∨ b / 64 = 3 := by omega
  have HR := Lib.hid hr
  clear hr
  obtain hq | hq | hq | hq := h4
  · have hqi : (b : Int) / 64 = 0 := by omega
    have HH : Hid (wput a0 b 0 = a0 ||| 2 ^ r ∧ wput a1 b 1 = a1 ∧ wput a2 b 2 = a2 ∧ wput a3 b 3 = a3) := by rw [HR.out]; unfold wput; rw [hq]; exact ⟨rfl, rfl, rfl, rfl⟩
    clear hq
    have ho := or_bit _ r l0 hr64
    go_enter Tryd.func45, Tryd.ntmps45
    go_wp2
    refine bodyPost_ret (v := .agg #[.int .u64 (a0 ||| 2 ^ r : Nat), .int .u64 (a1 : Nat), .int .u64 (a2 : Nat), .int .u64 (a3 : Nat)]) (by simp [results, Tryd.results45, go_sem]) rfl ⟨?_, ((Below.refl _ w).alloc (Nat.le_refl _) _).alloc (by simp) _⟩
    rw [HH.out.1, HH.out.2.1, HH.out.2.2.1, HH.out.2.2.2]
  · have hqi : (b : Int) / 64 = 1 := by omega
    have HH : Hid (wput a0 b 0 = a0 ∧ wput a1 b 1 = a1 ||| 2 ^ r ∧ wput a2 b 2 = a2 ∧ wput a3 b 3 = a3) := by rw [HR.out]; unfold wput; rw [hq]; exact ⟨rfl, rfl, rfl, rfl⟩
    clear hq
    have ho := or_bit _ r l1 hr64
    go_enter Tryd.func45, Tryd.ntmps45
    go_wp2
    refine bodyPost_ret (v := .agg #[.int .u64 (a0 : Nat), .int .u64 (a1 ||| 2 ^ r : Nat), .int .u64 (a2 : Nat), .int .u64 (a3 : Nat)]) (by simp [results, Tryd.results45, go_sem]) rfl ⟨?_, ((Below.refl _ w).alloc (Nat.le_refl _) _).alloc (by simp) _⟩
    rw [HH.out.1, HH.out.2.1, HH.out.2.2.1, HH.out.2.2.2]
  · have hqi : (b : Int) / 64 = 2 := by omega
    have HH : Hid (wput a0 b 0 = a0 ∧ wput a1 b 1 = a1 ∧ wput a2 b 2 = a2 ||| 2 ^ r ∧ wput a3 b 3 = a3) := by rw [HR.out]; unfold wput; rw [hq]; exact ⟨rfl, rfl, rfl, rfl⟩
    clear hq
    have ho := or_bit _ r l2 hr64
    go_enter Tryd.func45, Tryd.ntmps45
    go_wp2
    refine bodyPost_ret (v := .agg #[.int .u64 (a0 : Nat), .int .u64 (a1 : Nat), .int .u64 (a2 ||| 2 ^ r : Nat), .int .u64 (a3 : Nat)]) (by simp [results, Tryd.results45, go_sem]) rfl ⟨?_, ((Below.refl _ w).alloc (Nat.le_refl _) _).alloc (by simp) _⟩
    rw [HH.out.1, HH.out.2.1, HH.out.2.2.1, HH.out.2.2.2]
  · have hqi : (b : Int) / 64 = 3 := by omega
    have HH : Hid (wput a0 b 0 = a0 ∧ wput a1 b 1 = a1 ∧ wput a2 b 2 = a2 ∧ wput a3 b 3 = a3 ||| 2 ^ r) := by rw [HR.out]; unfold wput; rw [hq]; exact ⟨rfl, rfl, rfl, rfl⟩
    clear hq
    have ho := or_bit _ r l3 hr64
    go_enter Tryd.func45, Tryd.ntmps45
    go_wp2
    refine bodyPost_ret (v := .agg #[.int .u64 (a0 : Nat), .int .u64 (a1 : Nat), .int .u64 (a2 : Nat), .int .u64 (a3 ||| 2 ^ r : Nat)]) (by simp [results, Tryd.results45, go_sem]) rfl ⟨?_, ((Below.refl _ w).alloc (Nat.le_refl _) _).alloc (by simp) _⟩
    rw [HH.out.1, HH.out.2.1, HH.out.2.2.1, HH.out.2.2.2]
theorem rHas_k (x : Kl) (b : Nat) (hb : b < 256) (w : World) : Calls Tryd.prog 28 #[.agg #[.int .u64 (x.a : Nat), .int .u64 (x.b : Nat), .int .u64 (x.c : Nat), .int .u64 (x.d : Nat)], .int .u8 b] w fun e w' => e = .returned (.bool (x.has b)) ∧ Below w.heap.size w w' := rHas_calls x.a x.b x.c x.d b x.h hb w
theorem rWith_k (x : Kl) (b : Nat) (hb : b < 256) (w : World) : Calls Tryd.prog 45 #[.agg #[.int .u64 (x.a : Nat), .int .u64 (x.b : Nat), .int .u64 (x.c : Nat), .int .u64 (x.d : Nat)], .int .u8 b] w fun e w' =>
    e = .returned (.agg #[.int .u64 ((x.put b).a : Nat), .int .u64 ((x.put b).b : Nat), .int .u64 ((x.put b).c : Nat), .int .u64 ((x.put b).d : Nat)]) ∧ Below w.heap.size w w' := rWith_calls x.a x.b x.c x.d b x.h hb w
end Go.Proofs.YtjaabolpdelbiaaDoor

namespace Go.Proofs.YtjaabolpdelbiaaDoor
open Go Go.Proofs Go.RowKit Go.Shelf
attribute [local go_sem] Oper.semAt_some

theorem zero_ofL : Kl.ofL [] = Kl.zero := rfl
theorem KBox.drew {W : World} {B : Nat} {x : Kl} (h : KBox W B x) : KBox W.drew B x := h
set_option maxHeartbeats 4000000 in
theorem rRange_calls (low high : Nat) (hl : low < 256) (hh : high < 256) (w : World) :
    Calls Tryd.prog 27 #[.int .u8 low, .int .u8 high] w fun e w' => e = .returned (.agg #[.int .u64 ((Kl.ofL (rng low high)).a : Nat), .int .u64 ((Kl.ofL (rng low high)).b : Nat), .int .u64 ((Kl.ofL (rng low high)).c : Nat), .int .u64 ((Kl.ofL (rng low high)).d : Nat)]) ∧ Below w.heap.size w w' := by
  go_enter Tryd.func27, Tryd.ntmps27
  go_wp2
  have hR0 : KBox ((w.alloc (.cells #[.int .u64 0, .int .u64 0, .int .u64 0, .int .u64 0] 27)).alloc (.cells #[.int .u64 0, .int .u64 0, .int .u64 0, .int .u64 0] 27)) w.heap.size Kl.zero := (KBox.new w Kl.zero).below ((Below.refl (w.heap.size + 1) (w.alloc (.cells #[.int .u64 0, .int .u64 0, .int .u64 0, .int .u64 0] 27))).alloc (by simp) _) (by omega)
  have hC0 : KBox ((w.alloc (.cells #[.int .u64 0, .int .u64 0, .int .u64 0, .int .u64 0] 27)).alloc (.cells #[.int .u64 0, .int .u64 0, .int .u64 0, .int .u64 0] 27)) (w.heap.size + 1) (Kl.ofL []) := by
    have := KBox.new (w.alloc (.cells #[.int .u64 0, .int .u64 0, .int .u64 0, .int .u64 0] 27)) Kl.zero
    rwa [World.size_alloc] at this
  have hB0 : Below w.heap.size w ((w.alloc (.cells #[.int .u64 0, .int .u64 0, .int .u64 0, .int .u64 0] 27)).alloc (.cells #[.int .u64 0, .int .u64 0, .int .u64 0, .int .u64 0] 27)) := ((Below.refl _ w).alloc (Nat.le_refl _) _).alloc (by simp) _
  generalize (w.alloc (.cells #[.int .u64 0, .int .u64 0, .int .u64 0, .int .u64 0] 27)).alloc (.cells #[.int .u64 0, .int .u64 0, .int .u64 0, .int .u64 0] 27) = W0 at *
  go_loopw [6] (fun i wr => ∃ k : Nat, low ≤ k ∧ k ≤ 256 ∧ (k ≤ high + 1 ∨ k = low) ∧ i = .int .i64 k ∧ KBox wr w.heap.size Kl.zero ∧ KBox wr (w.heap.size + 1) (Kl.ofL (List.range' low (k - low))) ∧ Below w.heap.size w wr)
    (fun i _ => 256 - (intOf i).toNat)
  case atStart => exact ⟨low, Nat.le_refl _, by omega, .inr rfl, rfl, hR0, by rw [Nat.sub_self]; exact hC0, hB0⟩
  case round =>
    obtain ⟨k, hk, hk2, hk3, rfl, hR, hC, hB⟩ := hrel
    by_cases hlt : k ≤ high
    · have e : List.range' low (k + 1 - low) = List.range' low (k - low) ++ [k] := by
        rw [show k + 1 - low = (k - low) + 1 by omega, List.range'_concat]
        congr 2
        omega
      have HE : Hid (Kl.ofL (List.range' low (k + 1 - low)) = (Kl.ofL (List.range' low (k - low))).put k) := Lib.hid (by rw [e, put_ofL])
      clear e
      generalize Kl.ofL (List.range' low (k - low)) = x at *
      have hwk := rWith_k x k (by omega)
      obtain ⟨y, hy⟩ : ∃ y, y = x.put k := ⟨_, rfl⟩
      rw [← hy] at hwk HE
      clear hy
      obtain ⟨c0, c1, c2, c3⟩ := hC.at
      simp only [Nat.zero_add] at c0 c1 c2 c3
      have hltC := hC.lt
      have hltR := hR.lt
      go_wp2_with (go_at_call 45; refine (hwk _).mono ?_; rintro e Wd ⟨rfl, hBd⟩; have hCd : KBox Wd _ _ := hC.below hBd hltC; have f0 := hCd.frozen 0; have f1 := hCd.frozen 1; have f2 := hCd.frozen 2; have f3 := hCd.frozen 3; obtain ⟨q0, q1, q2, q3⟩ := hCd.at; simp only [Nat.zero_add] at q0 q1 q2 q3)
      go_roundw
      case rel => exact ⟨k + 1, by omega, by omega, by omega, by simp, (((((hR.below hBd hltR).other (by omega)).other (by omega)).other (by omega)).other (by omega)), by rw [HE.out]; exact hCd.set y,
        ((((hB.trans (hBd.mono (Nat.le_of_lt hltR))).setCell (p := ⟨w.heap.size + 1, 0, none⟩) (by simp) _).setCell (p := ⟨w.heap.size + 1, 1, none⟩) (by simp) _).setCell (p := ⟨w.heap.size + 1, 2, none⟩) (by simp) _).setCell (p := ⟨w.heap.size + 1, 3, none⟩) (by simp) _⟩
      case measure => simp [intOf]; omega
    · have e : List.range' low (k - low) = rng low high := by unfold rng; congr 1; omega
      rw [e] at hC
      obtain ⟨x, hx⟩ : ∃ x, x = Kl.ofL (rng low high) := ⟨_, rfl⟩
      rw [← hx] at hC
      have HX := Lib.hid hx
      clear hx
      obtain ⟨c0, c1, c2, c3⟩ := hC.at
      simp only [Nat.zero_add] at c0 c1 c2 c3
      have f0 := hR.frozen 0; have f1 := hR.frozen 1; have f2 := hR.frozen 2; have f3 := hR.frozen 3
      obtain ⟨q0, q1, q2, q3⟩ := hR.at
      simp only [Nat.zero_add] at q0 q1 q2 q3
      go_wp2
      have hF := hR.set x
      obtain ⟨d0, d1, d2, d3⟩ := hF.at
      simp only [Nat.zero_add] at d0 d1 d2 d3
      have hBf := (((hB.setCell (p := ⟨w.heap.size, 0, none⟩) (by simp) (.int .u64 (x.a : Nat))).setCell (p := ⟨w.heap.size, 1, none⟩) (by simp) (.int .u64 (x.b : Nat))).setCell (p := ⟨w.heap.size, 2, none⟩) (by simp) (.int .u64 (x.c : Nat))).setCell (p := ⟨w.heap.size, 3, none⟩) (by simp) (.int .u64 (x.d : Nat))
      generalize ((((wr.setCell ⟨w.heap.size, 0, none⟩ (.int .u64 (x.a : Nat))).setCell ⟨w.heap.size, 1, none⟩ (.int .u64 (x.b : Nat))).setCell ⟨w.heap.size, 2, none⟩ (.int .u64 (x.c : Nat))).setCell ⟨w.heap.size, 3, none⟩ (.int .u64 (x.d : Nat))) = Wf at *
      exact bodyPost_ret (v := .agg #[.int .u64 (x.a : Nat), .int .u64 (x.b : Nat), .int .u64 (x.c : Nat), .int .u64 (x.d : Nat)]) (by simp [results, Tryd.results27, go_sem, d0, d1, d2, d3]) rfl ⟨by rw [HX.out], hBf⟩
end Go.Proofs.YtjaabolpdelbiaaDoor

namespace Go.Proofs.YtjaabolpdelbiaaDoor
open Go Go.Proofs Go.RowKit Go.Shelf
attribute [local go_sem] Oper.semAt_some

set_option maxHeartbeats 4000000 in
theorem rOf_calls (s : ByteArray) (hs : s.size ≤ 1000000) (w : World) :
    Calls Tryd.prog 26 #[.string s] w fun e w' => e = .returned (.agg #[.int .u64 ((Kl.ofL (sb s)).a : Nat), .int .u64 ((Kl.ofL (sb s)).b : Nat), .int .u64 ((Kl.ofL (sb s)).c : Nat), .int .u64 ((Kl.ofL (sb s)).d : Nat)]) ∧ Below w.heap.size w w' := by
  go_enter Tryd.func26, Tryd.ntmps26
  go_wp2
  have hR0 : KBox ((w.alloc (.cells #[.int .u64 0, .int .u64 0, .int .u64 0, .int .u64 0] 27)).alloc (.cells #[.int .u64 0, .int .u64 0, .int .u64 0, .int .u64 0] 27)) w.heap.size Kl.zero := (KBox.new w Kl.zero).below ((Below.refl (w.heap.size + 1) (w.alloc (.cells #[.int .u64 0, .int .u64 0, .int .u64 0, .int .u64 0] 27))).alloc (by simp) _) (by omega)
  have hC0 : KBox ((w.alloc (.cells #[.int .u64 0, .int .u64 0, .int .u64 0, .int .u64 0] 27)).alloc (.cells #[.int .u64 0, .int .u64 0, .int .u64 0, .int .u64 0] 27)) (w.heap.size + 1) (Kl.ofL []) := by
    have := KBox.new (w.alloc (.cells #[.int .u64 0, .int .u64 0, .int .u64 0, .int .u64 0] 27)) Kl.zero
    rwa [World.size_alloc] at this
  have hB0 : Below w.heap.size w ((w.alloc (.cells #[.int .u64 0, .int .u64 0, .int .u64 0, .int .u64 0] 27)).alloc (.cells #[.int .u64 0, .int .u64 0, .int .u64 0, .int .u64 0] 27)) := ((Below.refl _ w).alloc (Nat.le_refl _) _).alloc (by simp) _
  generalize (w.alloc (.cells #[.int .u64 0, .int .u64 0, .int .u64 0, .int .u64 0] 27)).alloc (.cells #[.int .u64 0, .int .u64 0, .int .u64 0, .int .u64 0] 27) = W0 at *
  go_loopw [4] (fun i wr => ∃ k : Nat, k ≤ s.size ∧ i = .int .i64 k ∧ KBox wr w.heap.size Kl.zero ∧ KBox wr (w.heap.size + 1) (Kl.ofL ((sb s).take k)) ∧ Below w.heap.size w wr)
    (fun i _ => s.size - (intOf i).toNat)
  case atStart => exact ⟨0, Nat.zero_le _, rfl, hR0, hC0, hB0⟩
  case round =>
    obtain ⟨k, hk, rfl, hR, hC, hB⟩ := hrel
    by_cases hlt : k < s.size
    · have hby : sbAt s k = (s[k]'hlt).toNat := by
        unfold sbAt
        rw [List.getD_eq_getElem?_getD, List.getElem?_eq_getElem (by rw [Array.length_toList]; exact hlt)]
        rfl
      have HE : Hid (Kl.ofL ((sb s).take (k + 1)) = (Kl.ofL ((sb s).take k)).put (s[k]'hlt).toNat) := Lib.hid (by rw [sb_take s k hlt, put_ofL, hby])
      clear hby
      generalize Kl.ofL ((sb s).take k) = x at *
      have hwk := rWith_k x (s[k]'hlt).toNat (UInt8.toNat_lt _)
      obtain ⟨y, hy⟩ : ∃ y, y = x.put (s[k]'hlt).toNat := ⟨_, rfl⟩
      rw [← hy] at hwk HE
      clear hy
      have hk0 : (0 : Int) ≤ (k : Int) := by omega
      have hk1 : (k : Int) < (s.size : Int) := by omega
      obtain ⟨c0, c1, c2, c3⟩ := hC.at
      simp only [Nat.zero_add] at c0 c1 c2 c3
      have hltC := hC.lt
      have hltR := hR.lt
      go_wp2
      go_region_with (go_at_call 45; refine (hwk _).mono ?_; rintro e Wd ⟨rfl, hBd⟩; have hCd : KBox Wd (w.heap.size + 1) x := (hBd.block _ hltC).trans hC; have f0 := hCd.frozen 0; have f1 := hCd.frozen 1; have f2 := hCd.frozen 2; have f3 := hCd.frozen 3; obtain ⟨q0, q1, q2, q3⟩ := hCd.at; simp only [Nat.zero_add] at q0 q1 q2 q3)
      all_goals
        go_wp2
        go_roundw
        case rel => exact ⟨k + 1, by omega, by simp, ((((KBox.other ((hBd.block _ hltR).trans hR) (by omega)).other (by omega)).other (by omega)).other (by omega)), by rw [HE.out]; exact hCd.set y,
          ((((hB.drew.trans (hBd.mono (Nat.le_of_lt hltR))).setCell (p := ⟨w.heap.size + 1, 0, none⟩) (by simp) _).setCell (p := ⟨w.heap.size + 1, 1, none⟩) (by simp) _).setCell (p := ⟨w.heap.size + 1, 2, none⟩) (by simp) _).setCell (p := ⟨w.heap.size + 1, 3, none⟩) (by simp) _⟩
        case measure => simp [intOf]; omega
    · obtain rfl : k = s.size := by omega
      have e : (sb s).take s.size = sb s := List.take_of_length_le (by rw [sb_len]; omega)
      rw [e] at hC
      obtain ⟨x, hx⟩ : ∃ x, x = Kl.ofL (sb s) := ⟨_, rfl⟩
      rw [← hx] at hC
      have HX := Lib.hid hx
      clear hx e
      obtain ⟨c0, c1, c2, c3⟩ := hC.at
      simp only [Nat.zero_add] at c0 c1 c2 c3
      have f0 := hR.frozen 0; have f1 := hR.frozen 1; have f2 := hR.frozen 2; have f3 := hR.frozen 3
      obtain ⟨q0, q1, q2, q3⟩ := hR.at
      simp only [Nat.zero_add] at q0 q1 q2 q3
      go_wp2
      have hF := hR.set x
      obtain ⟨d0, d1, d2, d3⟩ := hF.at
      simp only [Nat.zero_add] at d0 d1 d2 d3
      have hBf := (((hB.setCell (p := ⟨w.heap.size, 0, none⟩) (by simp) (.int .u64 (x.a : Nat))).setCell (p := ⟨w.heap.size, 1, none⟩) (by simp) (.int .u64 (x.b : Nat))).setCell (p := ⟨w.heap.size, 2, none⟩) (by simp) (.int .u64 (x.c : Nat))).setCell (p := ⟨w.heap.size, 3, none⟩) (by simp) (.int .u64 (x.d : Nat))
      generalize ((((wr.setCell ⟨w.heap.size, 0, none⟩ (.int .u64 (x.a : Nat))).setCell ⟨w.heap.size, 1, none⟩ (.int .u64 (x.b : Nat))).setCell ⟨w.heap.size, 2, none⟩ (.int .u64 (x.c : Nat))).setCell ⟨w.heap.size, 3, none⟩ (.int .u64 (x.d : Nat))) = Wf at *
      exact bodyPost_ret (v := .agg #[.int .u64 (x.a : Nat), .int .u64 (x.b : Nat), .int .u64 (x.c : Nat), .int .u64 (x.d : Nat)]) (by simp [results, Tryd.results26, go_sem, d0, d1, d2, d3]) rfl ⟨by rw [HX.out], hBf⟩
end Go.Proofs.YtjaabolpdelbiaaDoor

namespace Go.Proofs.YtjaabolpdelbiaaDoor
open Go Go.Proofs Go.RowKit Go.Shelf
attribute [local go_sem] Oper.semAt_some

def Kl.up (x : Kl) (k : Nat) : List Nat := upB x.a x.b x.c x.d k
theorem Kl.up_256 (x : Kl) : x.up 256 = x.by_ := rfl
theorem Kl.up_succ (x : Kl) (k : Nat) : x.up (k + 1) = x.up k ++ (if x.has k then [k] else []) := upB_succ _ _ _ _ k
set_option maxRecDepth 100000 in
set_option maxHeartbeats 4000000 in
theorem rBytes_k (x : Kl) (w : World) :
    Calls Tryd.prog 25 #[.agg #[.int .u64 (x.a : Nat), .int .u64 (x.b : Nat), .int .u64 (x.c : Nat), .int .u64 (x.d : Nat)]] w fun e w' => e = .returned (.string (bstr x.by_)) ∧ Below w.heap.size w w' := by
  obtain ⟨i0, hi, hz0, hz1, hz2⟩ := info_parts info5
  have hX0 := KBox.new w x
  have hB0 : Below w.heap.size w (w.alloc (.cells (encC x).toArray 27)) := (Below.refl _ w).alloc (Nat.le_refl _) _
  have hs0 : (w.alloc (.cells (encC x).toArray 27)).heap.size = w.heap.size + 1 := by simp
  go_enter Tryd.func25, Tryd.ntmps25
  go_wp2
  change Code.wp _ _ _ _ (w.alloc (.cells (encC x).toArray 27))
  generalize w.alloc (.cells (encC x).toArray 27) = W0 at *
  go_loopw [3, 4] (fun v i wr => ∃ k : Nat, k ≤ 256 ∧ i = .int .i64 k ∧ (∃ xs : List (Fin 256), xs.map Fin.val = x.up k ∧ xs.length ≤ k ∧ wr.ownsRow (w.heap.size + 1) 5 1 v xs.length (xs.map encv)) ∧ Below (w.heap.size + 1) W0 wr)
    (fun _ i _ => 256 - (intOf i).toNat)
  case atStart => exact ⟨0, by decide, rfl, ⟨[], rfl, Nat.le_refl _, World.ownsRow_nil _ _ _ _⟩, Below.refl _ _⟩
  case round =>
    obtain ⟨k, hk, rfl, ⟨xs, hxs, hxl, hrow⟩, hB⟩ := hrel
    by_cases hlt : k < 256
    · have hsu := x.up_succ k
      obtain ⟨c0, c1, c2, c3⟩ := (hX0.below hB (Nat.lt_succ_self _)).at
      simp only [Nat.zero_add] at c0 c1 c2 c3
      have hh := rHas_k x k hlt
      have hsz := hB.size
      cases hxk : x.has k with
      | true =>
        rw [hxk] at hh hsu
        have HS : Hid ((xs ++ [(⟨k, hlt⟩ : Fin 256)]).map Fin.val = x.up (k + 1)) := Lib.hid (by rw [hsu, List.map_append, hxs]; rfl)
        clear hsu hxs hxk
        go_wp2_with (first | (go_at_call 28; refine (hh _).mono ?_; rintro e Wd ⟨rfl, hBd⟩; have hrd := row_below4 hrow hBd (fun g e => (hrow.lt g e).2); have hsd := hBd.size) | (at_builtin; refine wpList_append_own _ rfl _ _ 35 rfl (w.heap.size + 1) 5 i0 (.int .u8 0) 1 1 Tryd.underlying35 hi hz0 hz1 hz2 rfl (by decide) _ _ _ rfl (hrd.alloc _) ⟨Wd.heap.size, 0, none⟩ 1 1 [encv ⟨k, hlt⟩] rfl rfl (cell_one_new _ _ _) (by simp [Value.oneCell']) (by unfold maxLen; omega) (by omega) (by simp; omega) ?_; intro v' w1 hown' hgrow _))
        have hBW := ((hB.trans (hBd.mono (by omega))).alloc (by omega) (.cells #[.int .u8 (k : Nat)] 5)).grown hgrow (by simp; omega) fun k hk => ((hrd.alloc (.cells #[.int .u8 (k : Nat)] 5)).lt k hk).1
        go_roundw
        case rel => exact ⟨k + 1, by omega, by simp, ⟨xs ++ [⟨k, hlt⟩], HS.out, by simp; omega, by simpa using hown'⟩, hBW⟩
        case measure => simp [intOf]; omega
      | false =>
        rw [hxk] at hh hsu
        have HS : Hid (xs.map Fin.val = x.up (k + 1)) := Lib.hid (by rw [hsu, hxs]; simp)
        clear hsu hxs hxk
        go_wp2_with (go_at_call 28; refine (hh _).mono ?_; rintro e Wd ⟨rfl, hBd⟩; have hrd := row_below4 hrow hBd (fun g e => (hrow.lt g e).2))
        go_roundw
        case rel => exact ⟨k + 1, by omega, by simp, ⟨xs, HS.out, by omega, hrd⟩, hB.trans (hBd.mono (by omega))⟩
        case measure => simp [intOf]; omega
    · obtain rfl : k = 256 := by omega
      rw [Kl.up_256] at hxs
      have hcv := conv_row hrow
      rw [hxs] at hcv
      clear hxs
      go_wp2
      go_ret
      exact ⟨rfl, hB0.trans (hB.mono (Nat.le_succ _))⟩
end Go.Proofs.YtjaabolpdelbiaaDoor

namespace Go.Proofs.YtjaabolpdelbiaaDoor
open Go Go.Proofs Go.RowKit Go.Shelf
attribute [local go_sem] Oper.semAt_some

theorem bstr_toList (l : List Nat) : (bstr l).toList = l.map UInt8.ofNat := by rw [Lib.toList_data]; simp [bstr]
theorem bstr_head (y : Nat) (l : List Nat) (hy : y < 256) (h : 0 < (bstr (y :: l)).size) : ((bstr (y :: l))[0]'h).toNat = y := by
  show (UInt8.ofNat y).toNat = y
  simp; omega
set_option maxHeartbeats 1000000 in
theorem rLen_k (x : Kl) (w : World) :
    Calls Tryd.prog 32 #[.agg #[.int .u64 (x.a : Nat), .int .u64 (x.b : Nat), .int .u64 (x.c : Nat), .int .u64 (x.d : Nat)]] w fun e w' => e = .returned (.int .i64 (x.by_.length : Nat)) ∧ Below w.heap.size w w' := by
  have hb := rBytes_k x
  have HE := Lib.hid (bstr_size x.by_)
  have hB0 : Below w.heap.size w (w.alloc (.cells #[.int .u64 (x.a : Nat), .int .u64 (x.b : Nat), .int .u64 (x.c : Nat), .int .u64 (x.d : Nat)] 27)) := (Below.refl _ w).alloc (Nat.le_refl _) _
  go_enter Tryd.func32, Tryd.ntmps32
  go_wp2_with (go_at_call 25; refine (hb _).mono ?_; rintro e Wd ⟨rfl, hBd⟩)
  go_ret
  exact ⟨by rw [HE.out]; rfl, hB0.trans (hBd.mono (by simp))⟩
set_option maxHeartbeats 1000000 in
theorem rLeast_k (x : Kl) (w : World) :
    Calls Tryd.prog 24 #[.agg #[.int .u64 (x.a : Nat), .int .u64 (x.b : Nat), .int .u64 (x.c : Nat), .int .u64 (x.d : Nat)]] w fun e w' => e = .returned (.tuple #[.int .u8 (x.low : Nat), .bool !x.by_.isEmpty]) ∧ Below w.heap.size w w' := by
  have hb := rBytes_k x
  have hB0 : Below w.heap.size w (w.alloc (.cells #[.int .u64 (x.a : Nat), .int .u64 (x.b : Nat), .int .u64 (x.c : Nat), .int .u64 (x.d : Nat)] 27)) := (Below.refl _ w).alloc (Nat.le_refl _) _
  have HL : Hid (x.low = x.by_.headD 0) := Lib.hid rfl
  have HM : Hid (∀ y ∈ x.by_, y < 256) := Lib.hid fun y hy => (Kl.mem_by.1 hy).1
  generalize x.by_ = l at *
  cases l with
  | nil =>
    have he : (bstr []).toList.isEmpty = true := by rw [bstr_toList]; rfl
    go_enter Tryd.func24, Tryd.ntmps24
    go_wp2_with (go_at_call 25; refine (hb _).mono ?_; rintro e Wd ⟨rfl, hBd⟩)
    exact bodyPost_ret (v := .tuple #[.int .u8 0, .bool false]) (by simp [results, Tryd.f24, go_sem]) rfl ⟨by rw [HL.out]; rfl, hB0.trans (hBd.mono (by simp))⟩
  | cons y l =>
    have he : (bstr (y :: l)).toList.isEmpty = false := by rw [bstr_toList]; rfl
    have hsz : 0 < (bstr (y :: l)).size := by rw [bstr_size]; simp
    have hszi : (0 : Int) < ((bstr (y :: l)).size : Int) := by omega
    have hhd := bstr_head y l (HM.out y List.mem_cons_self) hsz
    go_enter Tryd.func24, Tryd.ntmps24
    go_wp2_with (go_at_call 25; refine (hb _).mono ?_; rintro e Wd ⟨rfl, hBd⟩)
    exact bodyPost_ret (v := .tuple #[.int .u8 (y : Nat), .bool true]) (by simp [results, Tryd.f24, go_sem]) rfl ⟨by rw [HL.out]; rfl, hB0.trans (hBd.mono (by simp))⟩
end Go.Proofs.YtjaabolpdelbiaaDoor

namespace Go.Proofs.YtjaabolpdelbiaaDoor
open Go Go.Proofs Go.RowKit Go.Shelf
attribute [local go_sem] Oper.semAt_some

theorem u8_lt {a b : Nat} (ha : a < 256) (hb : b < 256) : (UInt8.ofNat a < UInt8.ofNat b) ↔ a < b := by
  rw [UInt8.lt_iff_toNat_lt]
  simp
  omega
theorem u8_eq {a b : Nat} (ha : a < 256) (hb : b < 256) : (UInt8.ofNat a == UInt8.ofNat b) = (a == b) := by
  rw [Bool.eq_iff_iff, beq_iff_eq, beq_iff_eq]
  constructor
  · intro h
    have := congrArg UInt8.toNat h
    simp at this
    omega
  · rintro rfl; rfl
theorem cmp_less : ∀ l m : List Nat, (∀ y ∈ l, y < 256) → (∀ y ∈ m, y < 256) → AX.cmpB l m = if Op.bytesLess (l.map UInt8.ofNat) (m.map UInt8.ofNat) = true then -1 else if (l.map UInt8.ofNat == m.map UInt8.ofNat) = true then 0 else 1
  | [], [], _, _ => by simp [AX.cmpB, Op.bytesLess]
  | [], _ :: _, _, _ => by simp [AX.cmpB, Op.bytesLess]
  | _ :: _, [], _, _ => by simp [AX.cmpB, Op.bytesLess]
  | a :: x, b :: y, hl, hm => by
    have ha := hl a List.mem_cons_self
    have hb := hm b List.mem_cons_self
    have ih := cmp_less x y (fun z hz => hl z (List.mem_cons_of_mem _ hz)) (fun z hz => hm z (List.mem_cons_of_mem _ hz))
    simp only [AX.cmpB, List.map_cons, Op.bytesLess, List.cons_beq_cons, u8_eq ha hb, u8_lt ha hb]
    by_cases e : a = b
    · subst e
      have e1 : Nat.beq a a = true := by simp
      rw [e1]
      simp only [ih]
      simp
    · have e1 : Nat.beq a b = false := by rw [← Bool.not_eq_true]; simp [e]
      have e2 : (a == b) = false := by simp [e]
      rw [e1, e2]
      by_cases h : a < b
      · have e3 : Nat.ble a b = true := by rw [Nat.ble_eq]; omega
        simp [e3, h]
      · have e3 : Nat.ble a b = false := by rw [← Bool.not_eq_true, Nat.ble_eq]; omega
        simp [e3, h]
theorem by_lt {x : Kl} : ∀ y ∈ x.by_, y < 256 := fun _ h => (Kl.mem_by.1 h).1
set_option maxHeartbeats 1000000 in
theorem rCompare_k (x y : Kl) (w : World) :
    Calls Tryd.prog 33 #[.agg #[.int .u64 (x.a : Nat), .int .u64 (x.b : Nat), .int .u64 (x.c : Nat), .int .u64 (x.d : Nat)], .agg #[.int .u64 (y.a : Nat), .int .u64 (y.b : Nat), .int .u64 (y.c : Nat), .int .u64 (y.d : Nat)]] w fun e w' => e = .returned (.int .i64 (AX.cmpB x.by_ y.by_)) ∧ Below w.heap.size w w' := by
  have hbx := rBytes_k x
  have hby := rBytes_k y
  have hX0 : KAt ((w.alloc (.cells (encC x).toArray 27)).alloc (.cells (encC y).toArray 27)) w.heap.size 0 x := ((KBox.new w x).below ((Below.refl (w.heap.size + 1) (w.alloc (.cells (encC x).toArray 27))).alloc (by simp) _) (by omega)).at
  have hY0 : KAt ((w.alloc (.cells (encC x).toArray 27)).alloc (.cells (encC y).toArray 27)) (w.heap.size + 1) 0 y := by
    have := (KBox.new (w.alloc (.cells (encC x).toArray 27)) y).at
    rwa [World.size_alloc] at this
  have hB0 : Below w.heap.size w ((w.alloc (.cells (encC x).toArray 27)).alloc (.cells (encC y).toArray 27)) := ((Below.refl _ w).alloc (Nat.le_refl _) _).alloc (by simp) _
  have hs0 : ((w.alloc (.cells (encC x).toArray 27)).alloc (.cells (encC y).toArray 27)).heap.size = w.heap.size + 1 + 1 := by simp
  go_enter Tryd.func33, Tryd.ntmps33
  go_wp2
  change Code.wp _ _ _ _ ((w.alloc (.cells (encC x).toArray 27)).alloc (.cells (encC y).toArray 27))
  generalize (w.alloc (.cells (encC x).toArray 27)).alloc (.cells (encC y).toArray 27) = W0 at *
  obtain ⟨c0, c1, c2, c3⟩ := hX0.all (by omega)
  obtain ⟨d0, d1, d2, d3⟩ := hY0.all (by omega)
  simp only [Nat.zero_add] at c0 c1 c2 c3 d0 d1 d2 d3
  refine region_below (by kernel_rfl) (by kernel_rfl) ?_
  repeat (go_big_quiet_step (first | (go_at_call 25; first | with_reducible exact Calls.below_of (hbx _) | with_reducible exact Calls.below_of (hby _))))
  refine wpQuiet_nil ?_
  rintro _ ⟨p, rfl⟩
  have hBp := hB0.trans (p.h.mono (by omega))
  have HC : Hid (AX.cmpB x.by_ y.by_ = if Op.bytesLess (bstr x.by_).toList (bstr y.by_).toList = true then -1 else if ((bstr x.by_).toList == (bstr y.by_).toList) = true then 0 else 1) := Lib.hid (by rw [bstr_toList, bstr_toList]; exact cmp_less _ _ by_lt by_lt)
  cases h1 : Op.bytesLess (bstr x.by_).toList (bstr y.by_).toList with
  | true =>
    rw [h1] at HC
    go_wp2
    go_ret
    exact ⟨by rw [HC.out]; rfl, hBp⟩
  | false =>
    rw [h1] at HC
    cases h2 : ((bstr x.by_).toList == (bstr y.by_).toList) with
    | true =>
      rw [h2] at HC
      go_wp2
      go_ret
      exact ⟨by rw [HC.out]; rfl, hBp⟩
    | false =>
      rw [h2] at HC
      go_wp2
      go_ret
      exact ⟨by rw [HC.out]; rfl, hBp⟩
end Go.Proofs.YtjaabolpdelbiaaDoor

namespace Go.Proofs.YtjaabolpdelbiaaDoor
open Go Go.Proofs Go.RowKit Go.Shelf
attribute [local go_sem] Oper.semAt_some

def alikeB (l : List Kl) (a b : Nat) : Bool := l.all fun c => c.has a == c.has b
set_option maxHeartbeats 2000000 in
theorem alike_calls (l : List Kl) (hl : l.length ≤ 8) (la : Option Addr) (c : Nat) (a b : Nat) (ha : a < 256) (hb : b < 256) (w : World)
    (hL : l ≠ [] → ∃ B off, la = some ⟨B, off, none⟩ ∧ B < w.heap.size ∧ RowAt w B off l) :
    Calls Tryd.prog 46 #[.slice la l.length c, .int .u8 a, .int .u8 b] w fun e w' => e = .returned (.bool (alikeB l a b)) ∧ Below w.heap.size w w' := by
  go_enter Tryd.func46, Tryd.ntmps46
  go_wp2
  obtain ⟨wo, rfl⟩ : ∃ wo : World, wo = w := ⟨_, rfl⟩
  go_loopw [7] (fun i wr => ∃ k : Nat, k ≤ l.length ∧ i = .int .i64 k ∧ alikeB (l.take k) a b = true ∧ Below wo.heap.size wo wr)
    (fun i _ => l.length - (intOf i).toNat)
  case atStart => exact ⟨0, Nat.zero_le _, rfl, rfl, Below.refl _ _⟩
  case round =>
    obtain ⟨k, hk, rfl, hal, hB⟩ := hrel
    by_cases hlt : k < l.length
    · obtain ⟨B, off, hla, hBl, hRow⟩ := hL (by intro e; subst e; cases hlt)
      subst hla
      have hx := (hRow.below hB hBl).c4 hlt
      have hst : alikeB (l.take (k + 1)) a b = (l[k].has a == l[k].has b) := by
        unfold alikeB at hal ⊢
        rw [List.take_succ_eq_append_getElem hlt, List.all_append, hal]
        simp
      have hno : (l[k].has a == l[k].has b) = false → alikeB l a b = false := fun h => by
        unfold alikeB
        rw [List.all_eq_false]
        exact ⟨l[k], List.getElem_mem hlt, by simpa using h⟩
      generalize l[k] = x at *
      have HNO := Lib.hid hno
      have HST := Lib.hid hst
      clear hno hst hal
      have hk0 : (0 : Int) ≤ (k : Int) := by omega
      have hk1 : (k : Int) < (l.length : Int) := by omega
      have hlw : B < wr.heap.size := by have := hB.size; omega
      obtain ⟨c0, c1, c2, c3⟩ := hx.all hlw
      have h1 := rHas_k x a ha
      have h2 := rHas_k x b hb
      generalize x.has a = p1 at *
      generalize x.has b = p2 at *
      go_wp2
      refine region_below (by kernel_rfl) (by kernel_rfl) ?_
      repeat (go_big_quiet_step (first | (go_at_call 28; first | with_reducible exact Calls.below_of (h1 _) | with_reducible exact Calls.below_of (h2 _))))
      refine wpQuiet_nil ?_
      rintro _ ⟨p, rfl⟩
      have hBp := hB.trans (p.h.mono hB.size)
      cases hp : (p1 == p2) with
      | true =>
        rw [hp] at HST
        have hn : (p1 != p2) = false := by simp [bne, hp]
        go_wp2
        go_roundw
        case rel => exact ⟨k + 1, by omega, by simp, HST.out, hBp⟩
        case measure => simp [intOf]; omega
      | false =>
        have hn : (p1 != p2) = true := by simp [bne, hp]
        have HF := Lib.hid (HNO.out hp)
        go_wp2
        go_ret
        exact ⟨by rw [HF.out]; rfl, hBp⟩
    · obtain rfl : k = l.length := by omega
      rw [List.take_length] at hal
      have HF := Lib.hid hal
      clear hal
      go_wp2
      go_ret
      exact ⟨by rw [HF.out]; rfl, hB⟩
end Go.Proofs.YtjaabolpdelbiaaDoor

namespace Go.Proofs.YtjaabolpdelbiaaDoor
open Go Go.Proofs Go.RowKit Go.Shelf
attribute [local go_sem] Oper.semAt_some

set_option maxHeartbeats 2000000 in
theorem same_calls (d : List Kl) (hd : d.length ≤ 256) (g h cg ch : Nat) (w : World) (hg : g < w.heap.size) (hh : h < w.heap.size) (hG : RowAt w g 0 d) (hH : RowAt w h 0 d) :
    Calls Tryd.prog 34 #[.slice (some ⟨g, 0, none⟩) d.length cg, .slice (some ⟨h, 0, none⟩) d.length ch] w fun e w' => e = .returned (.bool true) ∧ Below w.heap.size w w' := by
  have hne : ((d.length : Int) != (d.length : Int)) = false := by simp
  go_enter Tryd.func34, Tryd.ntmps34
  go_wp2
  obtain ⟨wo, rfl⟩ : ∃ wo : World, wo = w := ⟨_, rfl⟩
  go_loopw [5] (fun i wr => ∃ k : Nat, k ≤ d.length ∧ i = .int .i64 k ∧ Below wo.heap.size wo wr)
    (fun i _ => d.length - (intOf i).toNat)
  case atStart => exact ⟨0, Nat.zero_le _, rfl, Below.refl _ _⟩
  case round =>
    obtain ⟨k, hk, rfl, hB⟩ := hrel
    by_cases hlt : k < d.length
    · have hx := (hG.below hB hg).c4 hlt
      have hy := (hH.below hB hh).c4 hlt
      rw [Nat.zero_add] at hx hy
      generalize d[k] = x at *
      have hk0 : (0 : Int) ≤ (k : Int) := by omega
      have hk1 : (k : Int) < (d.length : Int) := by omega
      have hs := hB.size
      obtain ⟨c0, c1, c2, c3⟩ := hx.all (by omega)
      obtain ⟨e0, e1, e2, e3⟩ := hy.all (by omega)
      have he := eq27 x x
      rw [decide_eq_true rfl] at he
      go_wp2
      refine region_below (by kernel_rfl) (by kernel_rfl) ?_
      repeat (go_big_quiet_step (fail))
      refine wpQuiet_nil ?_
      rintro _ ⟨p, rfl⟩
      have hBp := hB.trans (p.h.mono hB.size)
      go_wp2
      go_roundw
      case rel => exact ⟨k + 1, by omega, by simp, hBp⟩
      case measure => simp [intOf]; omega
    · obtain rfl : k = d.length := by omega
      go_wp2
      go_ret
      exact ⟨rfl, hB⟩
end Go.Proofs.YtjaabolpdelbiaaDoor

namespace Go.Proofs.YtjaabolpdelbiaaDoor
open Go Go.Proofs Go.RowKit Go.Shelf
attribute [local go_sem] Oper.semAt_some

set_option maxRecDepth 100000 in
set_option maxHeartbeats 2000000 in
theorem own_calls (l : List Kl) (hl : l.length ≤ 8) (la : Option Addr) (c : Nat) (w : World) (hc : la = none → c = 0)
    (hL : l ≠ [] → ∃ B off, la = some ⟨B, off, none⟩ ∧ B < w.heap.size ∧ RowAt w B off l) :
    Calls Tryd.prog 35 #[.slice la l.length c] w fun e w' => (∃ oa oc, e = .returned (.slice oa l.length oc) ∧ (l ≠ [] → ∃ B off, oa = some ⟨B, off, none⟩ ∧ B < w'.heap.size ∧ RowAt w' B off l)) ∧ Below w.heap.size w w' := by
  obtain ⟨ti, hi, hz0, hz1, hz2⟩ := info_parts info27
  have hown : (w.alloc (.cells #[] 27)).ownsRow w.heap.size 27 4 (.slice (some ⟨w.heap.size, 0, none⟩) 0 0) 0 [] :=
    ⟨rfl, .inr ⟨w.heap.size, 0, #[], rfl, Nat.le_refl _, World.alloc_heap_new w _, Nat.le_refl _, by decide, by simp, by simp⟩⟩
  cases la with
  | none =>
    obtain rfl := hc rfl
    obtain rfl : l = [] := by
      cases l with
      | nil => rfl
      | cons x l => obtain ⟨B, off, h, _⟩ := hL (by simp); cases h
    go_enter Tryd.func35, Tryd.ntmps35
    go_wp2
    go_ret
    exact ⟨⟨_, _, rfl⟩, (Below.refl _ w).alloc (Nat.le_refl _) _⟩
  | some ad =>
    have hnews : ∀ j u, (l.flatMap encC)[j]? = some u → (w.alloc (.cells #[] 27)).cell? (ad.add j) = some u := fun j u hj => by
      have hne : l ≠ [] := by intro e; subst e; simp at hj
      obtain ⟨B, off, h, hB, hR⟩ := hL hne
      cases h
      have hjl : j < l.length * 4 := by rw [← flat_len]; exact (List.getElem?_eq_some_iff.1 hj).1
      have hi4 : j / 4 < l.length := by omega
      have h1 := flat_get l (j / 4) hi4 (j % 4) ((encC l[j / 4])[j % 4]'(by rw [encC_len]; omega)) (List.getElem?_eq_getElem _)
      rw [show j / 4 * 4 + j % 4 = j by omega, hj] at h1
      have h2 := hR (j / 4) hi4 (j % 4) _ (List.getElem?_eq_getElem (by rw [encC_len]; omega))
      have h3 := Option.some.inj h1
      rw [addr_add]
      rw [show off + j / 4 * 4 + j % 4 = off + j by omega, ← h3] at h2
      exact (((Below.refl w.heap.size w).alloc (Nat.le_refl _) _).cell (p := ⟨B, off + j, none⟩) hB).trans h2
    have h1c : ∀ u ∈ l.flatMap encC, u.oneCell' = true := fun u hu => by
      obtain ⟨x, _, hx⟩ := List.mem_flatMap.1 hu
      exact encC_one x u hx
    go_enter Tryd.func35, Tryd.ntmps35
    go_wp2_with (at_builtin; refine wpList_append_own _ rfl _ _ 22 rfl w.heap.size 27 ti (.agg #[.int .u64 0, .int .u64 0, .int .u64 0, .int .u64 0]) 4 32 Tryd.underlying22 hi hz0 hz1 hz2 rfl (by decide) _ 0 [] rfl hown ad l.length c (l.flatMap encC) rfl (flat_len l) hnews h1c (by unfold maxLen; omega) (by omega) (by simp) ?_; intro v' w1 hown' hgrow _)
    have hBl : Below w.heap.size w w1 := ((Below.refl w.heap.size w).alloc (Nat.le_refl _) (.cells #[] 27)).grown hgrow (by simp) fun k hk => (hown.lt k hk).1
    rw [Nat.zero_add, List.nil_append] at hown'
    obtain ⟨oa, oc, rfl⟩ := row_shape hown'
    go_ret
    refine ⟨⟨oa, oc, rfl, fun hne => ?_⟩, hBl⟩
    have hpos : 0 < l.length := List.length_pos_iff.2 hne
    obtain ⟨g, rfl⟩ := row_addr4 hown' hpos
    exact ⟨g, 0, rfl, (hown'.lt g rfl).2, row_cells hown'⟩
end Go.Proofs.YtjaabolpdelbiaaDoor
