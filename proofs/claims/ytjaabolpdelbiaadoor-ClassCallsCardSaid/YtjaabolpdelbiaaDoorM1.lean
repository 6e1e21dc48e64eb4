/- Class, the plain mathematics: words, bits, the bytes of a class. -/
import Derived.Lib.TrailingZeros
namespace Go.Proofs.YtjaabolpdelbiaaDoor
open Go

def wd (a b c d i : Nat) : Nat := if i = 0 then a else if i = 1 then b else if i = 2 then c else d
def hasB (a b c d x : Nat) : Bool := (wd a b c d (x / 64)).testBit (x % 64)
/-- The bytes below n. -/
def upB (a b c d n : Nat) : List Nat := (List.range n).filter (hasB a b c d)
def bytesB (a b c d : Nat) : List Nat := upB a b c d 256

theorem upB_succ (a b c d n : Nat) : upB a b c d (n + 1) = upB a b c d n ++ (if hasB a b c d n then [n] else []) := by
  unfold upB; rw [List.range_succ, List.filter_append]; congr 1; simp [List.filter_cons]
theorem upB_skip (a b c d n : Nat) : ∀ k, (∀ j, j < k → hasB a b c d (n + j) = false) → upB a b c d (n + k) = upB a b c d n
  | 0, _ => rfl
  | k + 1, h => by
    rw [← Nat.add_assoc, upB_succ, h k (by omega), upB_skip a b c d n k (fun j hj => h j (by omega))]
    simp
theorem upB_len (a b c d n : Nat) : (upB a b c d n).length ≤ n := by
  have := List.length_filter_le (hasB a b c d) (List.range n)
  simpa [upB] using this
theorem upB_lt {a b c d n x : Nat} (h : x ∈ upB a b c d n) : x < n := by
  unfold upB at h; simpa using (List.mem_filter.1 h).1

theorem ctz_bits (x : Nat) (h0 : x ≠ 0) (h : x < 18446744073709551616) : Lib.ctz 64 x < 64 ∧ x.testBit (Lib.ctz 64 x) = true ∧ ∀ j, j < Lib.ctz 64 x → x.testBit j = false := by
  obtain ⟨m, hm, hk⟩ := Lib.ctzFrom_spec 64 x (by omega) (by simpa using h)
  have e : Lib.ctz 64 x = Lib.ctzFrom 64 x := by simp [Lib.ctz, h0]
  rw [e]
  refine ⟨hk, ?_, fun j hj => ?_⟩
  · rw [hm, Nat.testBit_two_pow_mul]
    simp [← hm]
  · rw [hm, Nat.testBit_two_pow_mul]
    have : ¬ Lib.ctzFrom 64 x ≤ j := by omega
    simp [this]
/-- The lowest bit taken away. -/
theorem drop_low (x : Nat) (h0 : x ≠ 0) (h : x < 18446744073709551616) : x &&& (x - 1) < x ∧ ∀ j, (x &&& (x - 1)).testBit j = (decide (Lib.ctz 64 x + 1 ≤ j) && x.testBit j) := by
  obtain ⟨m, hm, hk⟩ := Lib.ctzFrom_spec 64 x (by omega) (by simpa using h)
  have e : Lib.ctz 64 x = Lib.ctzFrom 64 x := by simp [Lib.ctz, h0]
  rw [e]
  generalize Lib.ctzFrom 64 x = k at hm hk
  have hp : 0 < 2 ^ k := Nat.two_pow_pos k
  have e1 : x - 1 = 2 ^ k * (2 * m) + (2 ^ k - 1) := by rw [hm, Nat.mul_add]; omega
  have key : ∀ j, (x &&& (x - 1)).testBit j = (decide (k + 1 ≤ j) && x.testBit j) := by
    intro j
    rw [Nat.testBit_and]
    by_cases h1 : j < k
    · have : x.testBit j = false := by
        rw [hm, Nat.testBit_two_pow_mul]
        have : ¬ k ≤ j := by omega
        simp [this]
      simp [this]
    · obtain ⟨i, rfl⟩ : ∃ i, j = k + i := ⟨j - k, by omega⟩
      have hx : x.testBit (k + i) = (2 * m + 1).testBit i := by rw [hm, Nat.testBit_two_pow_mul]; simp
      have hx1 : (x - 1).testBit (k + i) = (2 * m).testBit i := by
        rw [e1, Nat.testBit_two_pow_mul_add _ (by omega)]
        have : ¬ k + i < k := by omega
        simp [this]
      rw [hx, hx1]
      cases i with
      | zero => simp [Nat.testBit_zero]
      | succ i =>
        rw [Nat.testBit_succ, Nat.testBit_succ]
        have d1 : (2 * m + 1) / 2 = m := by omega
        have d2 : 2 * m / 2 = m := by omega
        rw [d1, d2]
        simp
  refine ⟨?_, key⟩
  have hle : x &&& (x - 1) ≤ x := Nat.and_le_left
  have hne : x &&& (x - 1) ≠ x := by
    intro hh
    have h1 := key k
    rw [hh] at h1
    have : x.testBit k = true := by rw [hm, Nat.testBit_two_pow_mul]; simp
    rw [this] at h1
    simp at h1
    omega
  omega
/-- A round of Each: the lowest bit's byte comes next. -/
theorem upB_low (a b c d k t x : Nat) (h0 : x ≠ 0) (hx : x < 18446744073709551616) (h : ∀ j, x.testBit j = (decide (t ≤ j) && (wd a b c d k).testBit j)) :
    t ≤ Lib.ctz 64 x ∧ upB a b c d (64 * k + (Lib.ctz 64 x + 1)) = upB a b c d (64 * k + t) ++ [64 * k + Lib.ctz 64 x] := by
  obtain ⟨hk, h1, h2⟩ := ctz_bits x h0 hx
  have ht' : t ≤ Lib.ctz 64 x := by
    rw [h] at h1
    simp at h1
    exact h1.1
  refine ⟨ht', ?_⟩
  have hb : ∀ j, j < 64 → hasB a b c d (64 * k + j) = (wd a b c d k).testBit j := fun j hj => by
    unfold hasB
    have e1 : (64 * k + j) / 64 = k := by omega
    have e2 : (64 * k + j) % 64 = j := by omega
    rw [e1, e2]
  have hw : ∀ j, t ≤ j → j < Lib.ctz 64 x → (wd a b c d k).testBit j = false := fun j h3 h4 => by
    have := h2 j h4
    rw [h] at this
    simpa [h3] using this
  rw [← Nat.add_assoc, upB_succ]
  have e := upB_skip a b c d (64 * k + t) (Lib.ctz 64 x - t) (fun j hj => by
    have : 64 * k + t + j = 64 * k + (t + j) := by omega
    rw [this, hb _ (by omega)]
    exact hw _ (by omega) (by omega))
  have e3 : 64 * k + t + (Lib.ctz 64 x - t) = 64 * k + Lib.ctz 64 x := by omega
  rw [e3] at e
  rw [e, hb _ hk]
  rw [h] at h1
  have h1 := h1
  simp at h1
  rw [if_pos h1.2]
theorem upB_end (a b c d k t : Nat) (ht : t ≤ 64) (h : ∀ j, (0 : Nat).testBit j = (decide (t ≤ j) && (wd a b c d k).testBit j)) :
    upB a b c d (64 * (k + 1)) = upB a b c d (64 * k + t) := by
  have e := upB_skip a b c d (64 * k + t) (64 - t) (fun j hj => by
    unfold hasB
    have e1 : (64 * k + t + j) / 64 = k := by omega
    have e2 : (64 * k + t + j) % 64 = t + j := by omega
    rw [e1, e2]
    have := h (t + j)
    simp at this
    exact this)
  rw [← e]
  congr 1
  omega
theorem left_step {x t c v : Nat} (h : ∀ j, x.testBit j = (decide (t ≤ j) && v.testBit j)) (hd : ∀ j, (x &&& (x - 1)).testBit j = (decide (c + 1 ≤ j) && x.testBit j)) (ht : t ≤ c) :
    ∀ j, (x &&& (x - 1)).testBit j = (decide (c + 1 ≤ j) && v.testBit j) := fun j => by
  rw [hd, h]
  by_cases h1 : c + 1 ≤ j
  · have h2 : t ≤ j := by omega
    simp [h1, h2]
  · simp [h1]
end Go.Proofs.YtjaabolpdelbiaaDoor
