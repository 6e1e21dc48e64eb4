import Derived.Test.YtjaabolpdelbiaaDoorC7
import Derived.Test.YtjaabolpdelbiaaDoorM3
namespace Go.Proofs.YtjaabolpdelbiaaDoor
open Go Go.Proofs Go.RowKit Go.Shelf
attribute [local go_sem] Oper.semAt_some

theorem and_i64 (s : Nat) (hs : s < 9223372036854775808) : bits .and .i64 (s : Int) 127 = ((s % 128 : Nat) : Int) := by
  have h1 : (BitVec.ofInt 64 (s : Int)).toNat = s := by
    rw [BitVec.ofInt_natCast, BitVec.toNat_ofNat]; exact Nat.mod_eq_of_lt (by omega)
  have h2 : (BitVec.ofInt 64 (127 : Int)).toNat = 127 := by decide
  show IntKind.i64.wrap ((BitVec.ofInt 64 (s : Int) &&& BitVec.ofInt 64 127).toNat : Int) = _
  rw [BitVec.toNat_and, h1, h2]
  have e : s &&& 127 = s % 128 := Nat.and_two_pow_sub_one_eq_mod s 7
  rw [e, IntKind.wrap_i64]
  omega
theorem wrapN (n : Nat) (m : Int) (h : m = n) (hn : n < 18446744073709551616) : IntKind.u64.wrap m = (n : Nat) := by
  subst h
  rw [IntKind.wrap_u64]
  omega

set_option maxHeartbeats 1000000 in
theorem ones_calls (x : Nat) (hx : x < 18446744073709551616) (w : World) :
    Calls Tryd.prog 40 #[.int .u64 x] w fun e w' => e = .returned (.int .i64 (pop x : Nat)) ∧ w' = w := by
  obtain ⟨s1, s2, s3, q1, q2, q3, b1, b2, b4, qe⟩ := pop_swar x hx
  obtain ⟨l1, l2⟩ := swar3_bd x hx
  obtain ⟨x1, hx1⟩ : ∃ x1, x1 = ((x / 2) &&& 6148914691236517205) + (x &&& 6148914691236517205) := ⟨_, rfl⟩
  obtain ⟨l2, l3⟩ := l2 x1 hx1
  obtain ⟨x2, hx2⟩ : ∃ x2, x2 = ((x1 / 4) &&& 3689348814741910323) + (x1 &&& 3689348814741910323) := ⟨_, rfl⟩
  have l3 := l3 x2 hx2
  rw [← hx1] at l1
  rw [← hx2] at l2
  have hs3 : swar3 x = (x2 / 16 + x2) &&& 1085102592571150095 := by unfold swar3; rw [hx2, hx1]
  obtain ⟨x3, hx3⟩ : ∃ x3, x3 = (x2 / 16 + x2) &&& 1085102592571150095 := ⟨_, rfl⟩
  rw [← hx3] at hs3
  rw [hs3] at q1
  obtain ⟨x2b, hx2b⟩ : ∃ x2b, x2b = x2 / 16 + x2 := ⟨_, rfl⟩
  rw [← hx2b] at l3 hx3
  obtain ⟨y1, hy1⟩ : ∃ y1, y1 = (x / 2) &&& 6148914691236517205 := ⟨_, rfl⟩
  obtain ⟨y2, hy2⟩ : ∃ y2, y2 = x &&& 6148914691236517205 := ⟨_, rfl⟩
  obtain ⟨y3, hy3⟩ : ∃ y3, y3 = (x1 / 4) &&& 3689348814741910323 := ⟨_, rfl⟩
  obtain ⟨y4, hy4⟩ : ∃ y4, y4 = x1 &&& 3689348814741910323 := ⟨_, rfl⟩
  have r1 : bits .and .u64 ((x : Int) / 2) 6148914691236517205 = (y1 : Nat) := by rw [hy1]; exact bits_and_u64_nat (x / 2) _ (by omega) (by decide)
  have r2 : bits .and .u64 (x : Int) 6148914691236517205 = (y2 : Nat) := by rw [hy2]; exact bits_and_u64_nat x _ hx (by decide)
  have r3 : IntKind.u64.wrap ((y1 : Int) + y2) = (x1 : Nat) := wrapN _ _ (by omega) l1
  have r4 : bits .and .u64 ((x1 : Int) / 4) 3689348814741910323 = (y3 : Nat) := by rw [hy3]; exact bits_and_u64_nat (x1 / 4) _ (by omega) (by decide)
  have r5 : bits .and .u64 (x1 : Int) 3689348814741910323 = (y4 : Nat) := by rw [hy4]; exact bits_and_u64_nat x1 _ l1 (by decide)
  have r6 : IntKind.u64.wrap ((y3 : Int) + y4) = (x2 : Nat) := wrapN _ _ (by omega) l2
  have r7 : IntKind.u64.wrap ((x2 : Int) / 16 + x2) = (x2b : Nat) := wrapN _ _ (by omega) l3
  have r8 : bits .and .u64 (x2b : Int) 1085102592571150095 = (x3 : Nat) := by rw [hx3]; exact bits_and_u64_nat x2b _ l3 (by decide)
  have r9 : IntKind.u64.wrap ((x3 : Int) + (x3 : Int) / 256) = (s1 : Nat) := wrapN _ _ (by omega) b1
  have r10 : IntKind.u64.wrap ((s1 : Int) + (s1 : Int) / 65536) = (s2 : Nat) := wrapN _ _ (by omega) b2
  have r11 : IntKind.u64.wrap ((s2 : Int) + (s2 : Int) / 4294967296) = (s3 : Nat) := wrapN _ _ (by omega) (by omega)
  have r12 : IntKind.i64.wrap (s3 : Int) = (s3 : Nat) := by rw [IntKind.wrap_i64]; omega
  have r13 := and_i64 s3 b4
  rw [qe] at r13
  clear hx1 hx2 hs3 hx3 hx2b hy1 hy2 hy3 hy4 q1 q2 q3 qe
  go_enter Tryd.func40, Tryd.ntmps40
  go_wp2
  go_ret
  exact ⟨rfl, rfl⟩

def popN (a0 a1 a2 a3 : Nat) : Nat → Nat
  | 0 => 0
  | n + 1 => popN a0 a1 a2 a3 n + pop (wd a0 a1 a2 a3 n)
theorem popN_le (a0 a1 a2 a3 : Nat) : ∀ n, popN a0 a1 a2 a3 n ≤ 64 * n
  | 0 => Nat.le_refl _
  | n + 1 => by
    have := popN_le a0 a1 a2 a3 n
    have := pop_le (wd a0 a1 a2 a3 n)
    unfold popN
    omega
theorem popN_bytes (a0 a1 a2 a3 : Nat) : popN a0 a1 a2 a3 4 = (bytesB a0 a1 a2 a3).length := by
  rw [len_bytes]
  simp [popN, wd]

set_option maxHeartbeats 2000000 in
theorem len_calls (a0 a1 a2 a3 : Nat) (hw : wlt a0 a1 a2 a3) (w : World) :
    Calls Tryd.prog 13 #[.agg #[.int .u64 a0, .int .u64 a1, .int .u64 a2, .int .u64 a3]] w fun e w' => e = .returned (.int .i64 ((bytesB a0 a1 a2 a3).length : Nat)) ∧ Below w.heap.size w w' := by
  have l0 : a0 < 18446744073709551616 := hw 0
  have l1 : a1 < 18446744073709551616 := hw 1
  have l2 : a2 < 18446744073709551616 := hw 2
  have l3 : a3 < 18446744073709551616 := hw 3
  have hB : Below w.heap.size w (w.alloc (.cells #[.int .u64 a0, .int .u64 a1, .int .u64 a2, .int .u64 a3] 27)) := (Below.refl _ w).alloc (Nat.le_refl _) _
  have hi0 := idx0; have hi1 := idx1; have hi2 := idx2; have hi3 := idx3
  have HP := Lib.hid (popN_bytes a0 a1 a2 a3)
  go_enter Tryd.func13, Tryd.ntmps13
  go_wp2
  go_loop [3, 7] (fun m i => ∃ (k : Nat) (z : Int), z = k ∧ k ≤ 4 ∧ i = .int .i64 z ∧ m = .int .i64 (popN a0 a1 a2 a3 k : Nat)) (fun _ i => 4 - (intOf i).toNat)
  case atStart => exact ⟨0, 0, rfl, by omega, rfl, rfl⟩
  case round =>
    obtain ⟨k, z, hz, hk, rfl, rfl⟩ := hrel
    have hp := popN_le a0 a1 a2 a3 k
    by_cases hlt : k < 4
    · obtain rfl | rfl | rfl | rfl : k = 0 ∨ k = 1 ∨ k = 2 ∨ k = 3 := by omega
      · obtain rfl : z = 0 := by omega
        clear hz
        have hpp := pop_le a0
        go_wp2_with (go_at_call 40; refine (ones_calls a0 l0 _).mono ?_; rintro e w' ⟨rfl, rfl⟩)
        go_round
        case rel => exact ⟨1, 1, rfl, by omega, rfl, by simp [popN, wd]⟩
        case measure => simp [intOf]
      · obtain rfl : z = 1 := by omega
        clear hz
        have hpp := pop_le a1
        go_wp2_with (go_at_call 40; refine (ones_calls a1 l1 _).mono ?_; rintro e w' ⟨rfl, rfl⟩)
        go_round
        case rel => exact ⟨2, 2, rfl, by omega, rfl, by simp [popN, wd]⟩
        case measure => simp [intOf]
      · obtain rfl : z = 2 := by omega
        clear hz
        have hpp := pop_le a2
        go_wp2_with (go_at_call 40; refine (ones_calls a2 l2 _).mono ?_; rintro e w' ⟨rfl, rfl⟩)
        go_round
        case rel => exact ⟨3, 3, rfl, by omega, rfl, by simp [popN, wd]⟩
        case measure => simp [intOf]
      · obtain rfl : z = 3 := by omega
        clear hz
        have hpp := pop_le a3
        go_wp2_with (go_at_call 40; refine (ones_calls a3 l3 _).mono ?_; rintro e w' ⟨rfl, rfl⟩)
        go_round
        case rel => exact ⟨4, 4, rfl, by omega, rfl, by simp [popN, wd]⟩
        case measure => simp [intOf]
    · obtain rfl : k = 4 := by omega
      obtain rfl : z = 4 := by omega
      clear hz
      go_wp2
      go_ret
      exact ⟨by rw [← HP.out]; rfl, hB⟩
end Go.Proofs.YtjaabolpdelbiaaDoor
