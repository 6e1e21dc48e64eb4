import Derived.Test.YtjaabolpdelbiaaDoorC5
namespace Go.Proofs.YtjaabolpdelbiaaDoor
open Go Go.Proofs Go.RowKit Go.Shelf
attribute [local go_sem] Oper.semAt_some

set_option maxHeartbeats 1000000 in
theorem has_calls (a0 a1 a2 a3 b : Nat) (hw : wlt a0 a1 a2 a3) (hb : b < 256) (w : World) :
    Calls Tryd.prog 15 #[.agg #[.int .u64 a0, .int .u64 a1, .int .u64 a2, .int .u64 a3], .int .u8 b] w fun e w' => e = .returned (.bool (hasB a0 a1 a2 a3 b)) ∧ Below w.heap.size w w' := by
  obtain ⟨r, hr⟩ : ∃ r : Nat, r = b % 64 := ⟨_, rfl⟩
  have hr64 : r < 64 := by omega
  have hrm : (b : Int) % 64 = (r : Nat) := by omega
  have l0 : a0 < 18446744073709551616 := hw 0
  have l1 : a1 < 18446744073709551616 := hw 1
  have l2 : a2 < 18446744073709551616 := hw 2
  have l3 : a3 < 18446744073709551616 := hw 3
  have h4 : b / 64 = 0 ∨ b / 64 = 1 ∨ b / 64 = 2 ∨ b / 64 = 3 := by omega
  have hB : Below w.heap.size w (w.alloc (.cells #[.int .u64 a0, .int .u64 a1, .int .u64 a2, .int .u64 a3] 27)) := (Below.refl _ w).alloc (Nat.le_refl _) _
  have HR := Lib.hid hr
  clear hr
  obtain hq | hq | hq | hq := h4
  · have hqi : (b : Int) / 64 = 0 := by omega
    have HH := Lib.hid (show hasB a0 a1 a2 a3 b = a0.testBit r by unfold hasB; rw [hq, HR.out]; rfl)
    clear hq
    have ho := and_bit _ r l0 hr64
    go_enter Tryd.func15, Tryd.ntmps15
    go_wp2
    go_ret
    exact ⟨by rw [HH.out]; rfl, hB⟩
  · have hqi : (b : Int) / 64 = 1 := by omega
    have HH := Lib.hid (show hasB a0 a1 a2 a3 b = a1.testBit r by unfold hasB; rw [hq, HR.out]; rfl)
    clear hq
    have ho := and_bit _ r l1 hr64
    go_enter Tryd.func15, Tryd.ntmps15
    go_wp2
    go_ret
    exact ⟨by rw [HH.out]; rfl, hB⟩
  · have hqi : (b : Int) / 64 = 2 := by omega
    have HH := Lib.hid (show hasB a0 a1 a2 a3 b = a2.testBit r by unfold hasB; rw [hq, HR.out]; rfl)
    clear hq
    have ho := and_bit _ r l2 hr64
    go_enter Tryd.func15, Tryd.ntmps15
    go_wp2
    go_ret
    exact ⟨by rw [HH.out]; rfl, hB⟩
  · have hqi : (b : Int) / 64 = 3 := by omega
    have HH := Lib.hid (show hasB a0 a1 a2 a3 b = a3.testBit r by unfold hasB; rw [hq, HR.out]; rfl)
    clear hq
    have ho := and_bit _ r l3 hr64
    go_enter Tryd.func15, Tryd.ntmps15
    go_wp2
    go_ret
    exact ⟨by rw [HH.out]; rfl, hB⟩
end Go.Proofs.YtjaabolpdelbiaaDoor
