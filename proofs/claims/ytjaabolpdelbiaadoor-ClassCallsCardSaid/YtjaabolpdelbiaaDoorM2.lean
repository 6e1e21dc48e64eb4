/- Class, the plain mathematics: a class of listed bytes. -/
import Derived.Test.YtjaabolpdelbiaaDoorM1
namespace Go.Proofs.YtjaabolpdelbiaaDoor
open Go

/-- Word i of the class of the listed bytes. -/
def cw (l : List Nat) (i : Nat) : Nat := l.foldl (fun w b => if b / 64 = i then w ||| 2 ^ (b % 64) else w) 0
theorem cw_snoc (l : List Nat) (b i : Nat) : cw (l ++ [b]) i = if b / 64 = i then cw l i ||| 2 ^ (b % 64) else cw l i := by simp [cw]
theorem cw_nil (i : Nat) : cw [] i = 0 := rfl
theorem cw_lt (l : List Nat) (i : Nat) : cw l i < 18446744073709551616 := by
  unfold cw
  suffices h : ∀ (l : List Nat) (w : Nat), w < 2 ^ 64 → l.foldl (fun w b => if b / 64 = i then w ||| 2 ^ (b % 64) else w) w < 2 ^ 64 from by simpa using h l 0 (by decide)
  intro l
  induction l with
  | nil => intro w h; exact h
  | cons b l ih =>
    intro w h
    rw [List.foldl_cons]
    apply ih
    split
    · exact Nat.or_lt_two_pow h (Nat.pow_lt_pow_right (by decide) (Nat.mod_lt _ (by decide)))
    · exact h
theorem cw_bit (i j : Nat) (hj : j < 64) (l : List Nat) : (cw l i).testBit j = decide (64 * i + j ∈ l) := by
  unfold cw
  suffices h : ∀ (l : List Nat) (w : Nat), (l.foldl (fun w b => if b / 64 = i then w ||| 2 ^ (b % 64) else w) w).testBit j = (w.testBit j || decide (64 * i + j ∈ l)) from by simpa using h l 0
  intro l
  induction l with
  | nil => intro w; simp
  | cons b l ih =>
    intro w
    rw [List.foldl_cons, ih]
    by_cases hb : b / 64 = i
    · rw [if_pos hb, Nat.testBit_or, Nat.testBit_two_pow]
      by_cases hm : b % 64 = j
      · have : 64 * i + j = b := by omega
        simp [hm, this]
      · have : ¬ 64 * i + j = b := by omega
        simp [hm, this]
    · rw [if_neg hb]
      have : ¬ 64 * i + j = b := by omega
      simp [this]
theorem wd_cw (l : List Nat) (i : Nat) (hi : i < 4) : wd (cw l 0) (cw l 1) (cw l 2) (cw l 3) i = cw l i := by
  obtain rfl | rfl | rfl | rfl : i = 0 ∨ i = 1 ∨ i = 2 ∨ i = 3 := by omega
  all_goals rfl
theorem has_cw (l : List Nat) (b : Nat) (hb : b < 256) : hasB (cw l 0) (cw l 1) (cw l 2) (cw l 3) b = decide (b ∈ l) := by
  unfold hasB
  rw [wd_cw l _ (by omega), cw_bit _ _ (by omega)]
  have : 64 * (b / 64) + b % 64 = b := by omega
  rw [this]
theorem word_ext {x y : Nat} (hx : x < 18446744073709551616) (hy : y < 18446744073709551616) (h : ∀ j, j < 64 → x.testBit j = y.testBit j) : x = y := by
  apply Nat.eq_of_testBit_eq
  intro j
  rcases Nat.lt_or_ge j 64 with hj | hj
  · exact h j hj
  · have e : 18446744073709551616 ≤ 2 ^ j := Nat.le_trans (by decide : 18446744073709551616 ≤ 2 ^ 64) (Nat.pow_le_pow_right (by decide) hj)
    rw [Nat.testBit_lt_two_pow (Nat.lt_of_lt_of_le hx e), Nat.testBit_lt_two_pow (Nat.lt_of_lt_of_le hy e)]
theorem mem_upB {a b c d n x : Nat} : x ∈ upB a b c d n ↔ x < n ∧ hasB a b c d x = true := by
  unfold upB
  rw [List.mem_filter]
  simp
theorem hasB_word (a b c d i j : Nat) (hj : j < 64) : hasB a b c d (64 * i + j) = (wd a b c d i).testBit j := by
  unfold hasB
  have e1 : (64 * i + j) / 64 = i := by omega
  have e2 : (64 * i + j) % 64 = j := by omega
  rw [e1, e2]
/-- The class of a class's bytes. -/
theorem cw_bytes (a b c d i : Nat) (hi : i < 4) (hw : ∀ k, wd a b c d k < 18446744073709551616) : cw (bytesB a b c d) i = wd a b c d i :=
  word_ext (cw_lt _ _) (hw i) fun j hj => by
    rw [cw_bit i j hj]
    unfold bytesB
    rw [← hasB_word a b c d i j hj]
    cases h : hasB a b c d (64 * i + j) with
    | true => simpa using mem_upB.2 ⟨by omega, h⟩
    | false => simpa using fun hm => by rw [(mem_upB.1 hm).2] at h; cases h
theorem cw_append (l m : List Nat) (i : Nat) : cw (l ++ m) i = cw l i ||| cw m i :=
  word_ext (cw_lt _ _) (Nat.or_lt_two_pow (n := 64) (cw_lt l i) (cw_lt m i)) fun j hj => by
    rw [Nat.testBit_or, cw_bit i j hj, cw_bit i j hj, cw_bit i j hj]
    simp
end Go.Proofs.YtjaabolpdelbiaaDoor
