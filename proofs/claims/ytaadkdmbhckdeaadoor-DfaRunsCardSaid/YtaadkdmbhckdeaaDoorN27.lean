/- Dfa: viewportref01.Has 44. -/
import Derived.Test.YtaadkdmbhckdeaaDoorN13
namespace Go.Proofs.YtaadkdmbhckdeaaDoor
open Go Go.Proofs Go.RowKit Go.Shelf
attribute [local go_sem] Oper.semAt_some
theorem shr_and (a r : Nat) (ha : a < 18446744073709551616) (hr : r < 64) : (bits .and .u64 ((a : Int) / 2 ^ r) 1 == 1) = a.testBit r := by
  have e : ((a : Int) / 2 ^ r) = ((a >>> r : Nat) : Int) := by rw [Nat.shiftRight_eq_div_pow]; simp
  have hlt : a >>> r < 18446744073709551616 := Nat.lt_of_le_of_lt (by rw [Nat.shiftRight_eq_div_pow]; exact Nat.div_le_self _ _) ha
  rw [e, show (1 : Int) = ((1 : Nat) : Int) from rfl, bits_and_u64_nat _ 1 hlt (by decide), Nat.and_one_is_mod, Nat.testBit_eq_decide_div_mod_eq, ← Nat.shiftRight_eq_div_pow, Bool.eq_iff_iff, beq_iff_eq, decide_eq_true_eq]
  exact Int.natCast_inj
set_option maxHeartbeats 1000000 in
theorem rhas_calls (a0 a1 a2 a3 b : Nat) (hw : wlt a0 a1 a2 a3) (hb : b < 256) (w : World) :
    Calls Tryd.prog 44 #[.agg #[.int .u64 a0, .int .u64 a1, .int .u64 a2, .int .u64 a3], .int .u8 b] w fun e w' => e = .returned (.bool (hasB a0 a1 a2 a3 b)) ∧ Below w.heap.size w w' := by
  obtain ⟨r, hr⟩ : ∃ r : Nat, r = b % 64 := ⟨_, rfl⟩
  have hr64 : r < 64 := by omega
  have hrm : (b : Int) % 64 = (r : Nat) := by omega
  have l0 : a0 < 18446744073709551616 := hw 0
  have l1 : a1 < 18446744073709551616 := hw 1
  have l2 : a2 < 18446744073709551616 := hw 2
  have l3 : a3 < 18446744073709551616 := hw 3
  have h4 : b / 64 = 0 ∨ b / 64 = 1 ∨ b / 64 = 2 ∨ b / 64 = 3 := by omega
  have hB : Below w.heap.size w (w.alloc (.cells #[.int .u64 a0, .int .u64 a1, .int .u64 a2, .int .u64 a3] 50)) := (Below.refl _ w).alloc (Nat.le_refl _) _
  have HR := Lib.hid hr
  clear hr
  obtain hq | hq | hq | hq := h4
  · have hqi : (b : Int) / 64 = 0 := by omega
    have HH := Lib.hid (show hasB a0 a1 a2 a3 b = a0.testBit r by unfold hasB; rw [hq, HR.out]; rfl)
    clear hq
    have ho := shr_and _ r l0 hr64
    go_enter Tryd.func44, Tryd.ntmps44
    go_wp2
    go_ret
    exact ⟨by rw [HH.out]; rfl, hB⟩
  · have hqi : (b : Int) / 64 = 1 := by omega
    have HH := Lib.hid (show hasB a0 a1 a2 a3 b = a1.testBit r by unfold hasB; rw [hq, HR.out]; rfl)
    clear hq
    have ho := shr_and _ r l1 hr64
    go_enter Tryd.func44, Tryd.ntmps44
    go_wp2
    go_ret
    exact ⟨by rw [HH.out]; rfl, hB⟩
  · have hqi : (b : Int) / 64 = 2 := by omega
    have HH := Lib.hid (show hasB a0 a1 a2 a3 b = a2.testBit r by unfold hasB; rw [hq, HR.out]; rfl)
    clear hq
    have ho := shr_and _ r l2 hr64
    go_enter Tryd.func44, Tryd.ntmps44
    go_wp2
    go_ret
    exact ⟨by rw [HH.out]; rfl, hB⟩
  · have hqi : (b : Int) / 64 = 3 := by omega
    have HH := Lib.hid (show hasB a0 a1 a2 a3 b = a3.testBit r by unfold hasB; rw [hq, HR.out]; rfl)
    clear hq
    have ho := shr_and _ r l3 hr64
    go_enter Tryd.func44, Tryd.ntmps44
    go_wp2
    go_ret
    exact ⟨by rw [HH.out]; rfl, hB⟩
end Go.Proofs.YtaadkdmbhckdeaaDoor
