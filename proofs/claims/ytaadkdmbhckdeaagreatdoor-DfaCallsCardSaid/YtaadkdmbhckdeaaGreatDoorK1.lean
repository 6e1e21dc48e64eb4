/- Dfa: classes and their parts, plain (turned from the class seat's M1, M2, L3, M5). -/
import Derived.Lib.TrailingZeros
namespace Go.Proofs.YtaadkdmbhckdeaaGreatDoor
open Go
def wd (a b c d i : Nat) : Nat := if i = 0 then a else if i = 1 then b else if i = 2 then c else d
def hasB (a b c d x : Nat) : Bool := (wd a b c d (x / 64)).testBit (x % 64)
def upB (a b c d n : Nat) : List Nat := (List.range n).filter (hasB a b c d)
def bytesB (a b c d : Nat) : List Nat := upB a b c d 256
theorem upB_succ (a b c d n : Nat) : upB a b c d (n + 1) = upB a b c d n ++ (if hasB a b c d n then [n] else []) := by
 unfold upB; rw [List.range_succ, List.filter_append]; congr 1; simp [List.filter_cons]
theorem upB_skip (a b c d n : Nat) : ∀ k, (∀ j, j < k → hasB a b c d (n + j) = false) → upB a b c d (n + k) = upB a b c d n
 | 0, _ => rfl
 | k + 1, h => by
  rw [← Nat.add_assoc, upB_succ, h k (by omega), upB_skip a b c d n k (fun j hj => h j (by omega))]
  simp
theorem upB_len (a b c d n : Nat) : (upB a b c d n).length ≤ n := by
 have := List.length_filter_le (hasB a b c d) (List.range n)
 simpa [upB] using this
theorem ctz_bits (x : Nat) (h0 : x ≠ 0) (h : x < 18446744073709551616) : Lib.ctz 64 x < 64 ∧ x.testBit (Lib.ctz 64 x) = true ∧ ∀ j, j < Lib.ctz 64 x → x.testBit j = false := by
 obtain ⟨m, hm, hk⟩ := Lib.ctzFrom_spec 64 x (by omega) (by simpa using h)
 have e : Lib.ctz 64 x = Lib.ctzFrom 64 x := by simp [Lib.ctz, h0]
 rw [e]
 refine ⟨hk, ?_, fun j hj => ?_⟩
 · rw [hm, Nat.testBit_two_pow_mul]
   simp [← hm]
 · rw [hm, Nat.testBit_two_pow_mul]
   have : ¬ Lib.ctzFrom 64 x ≤ j := by omega
   simp [this]
theorem drop_low (x : Nat) (h0 : x ≠ 0) (h : x < 18446744073709551616) : x &&& (x - 1) < x ∧ ∀ j, (x &&& (x - 1)).testBit j = (decide (Lib.ctz 64 x + 1 ≤ j) && x.testBit j) := by
 obtain ⟨m, hm, hk⟩ := Lib.ctzFrom_spec 64 x (by omega) (by simpa using h)
 have e : Lib.ctz 64 x = Lib.ctzFrom 64 x := by simp [Lib.ctz, h0]
 rw [e]
 generalize Lib.ctzFrom 64 x = k at hm hk
 have hp : 0 < 2 ^ k := Nat.two_pow_pos k
 have e1 : x - 1 = 2 ^ k * (2 * m) + (2 ^ k - 1) := by rw [hm, Nat.mul_add]; omega
 have key : ∀ j, (x &&& (x - 1)).testBit j = (decide (k + 1 ≤ j) && x.testBit j) := by
  intro j
  rw [Nat.testBit_and]
  by_cases h1 : j < k
  · have : x.testBit j = false := by
     rw [hm, Nat.testBit_two_pow_mul]
     have : ¬ k ≤ j := by omega
     simp [this]
    simp [this]
  · obtain ⟨i, rfl⟩ : ∃ i, j = k + i := ⟨j - k, by omega⟩
    have hx : x.testBit (k + i) = (2 * m + 1).testBit i := by rw [hm, Nat.testBit_two_pow_mul]; simp
    have hx1 : (x - 1).testBit (k + i) = (2 * m).testBit i := by
     rw [e1, Nat.testBit_two_pow_mul_add _ (by omega)]
     have : ¬ k + i < k := by omega
     simp [this]
    rw [hx, hx1]
    cases i with
    | zero => simp [Nat.testBit_zero]
    | succ i =>
     rw [Nat.testBit_succ, Nat.testBit_succ]
     have d1 : (2 * m + 1) / 2 = m := by omega
     have d2 : 2 * m / 2 = m := by omega
     rw [d1, d2]
     simp
 refine ⟨?_, key⟩
 have hle : x &&& (x - 1) ≤ x := Nat.and_le_left
 have hne : x &&& (x - 1) ≠ x := by
  intro hh
  have h1 := key k
  rw [hh] at h1
  have : x.testBit k = true := by rw [hm, Nat.testBit_two_pow_mul]; simp
  rw [this] at h1
  simp at h1
  omega
 omega
theorem upB_low (a b c d k t x : Nat) (h0 : x ≠ 0) (hx : x < 18446744073709551616) (h : ∀ j, x.testBit j = (decide (t ≤ j) && (wd a b c d k).testBit j)) :
  t ≤ Lib.ctz 64 x ∧ upB a b c d (64 * k + (Lib.ctz 64 x + 1)) = upB a b c d (64 * k + t) ++ [64 * k + Lib.ctz 64 x] := by
 obtain ⟨hk, h1, h2⟩ := ctz_bits x h0 hx
 have ht' : t ≤ Lib.ctz 64 x := by
  rw [h] at h1
  simp at h1
  exact h1.1
 refine ⟨ht', ?_⟩
 have hb : ∀ j, j < 64 → hasB a b c d (64 * k + j) = (wd a b c d k).testBit j := fun j hj => by
  unfold hasB
  have e1 : (64 * k + j) / 64 = k := by omega
  have e2 : (64 * k + j) % 64 = j := by omega
  rw [e1, e2]
 have hw : ∀ j, t ≤ j → j < Lib.ctz 64 x → (wd a b c d k).testBit j = false := fun j h3 h4 => by
  have := h2 j h4
  rw [h] at this
  simpa [h3] using this
 rw [← Nat.add_assoc, upB_succ]
 have e := upB_skip a b c d (64 * k + t) (Lib.ctz 64 x - t) (fun j hj => by
  have : 64 * k + t + j = 64 * k + (t + j) := by omega
  rw [this, hb _ (by omega)]
  exact hw _ (by omega) (by omega))
 have e3 : 64 * k + t + (Lib.ctz 64 x - t) = 64 * k + Lib.ctz 64 x := by omega
 rw [e3] at e
 rw [e, hb _ hk]
 rw [h] at h1
 have h1 := h1
 simp at h1
 rw [if_pos h1.2]
theorem upB_end (a b c d k t : Nat) (ht : t ≤ 64) (h : ∀ j, (0 : Nat).testBit j = (decide (t ≤ j) && (wd a b c d k).testBit j)) :
  upB a b c d (64 * (k + 1)) = upB a b c d (64 * k + t) := by
 have e := upB_skip a b c d (64 * k + t) (64 - t) (fun j hj => by
  unfold hasB
  have e1 : (64 * k + t + j) / 64 = k := by omega
  have e2 : (64 * k + t + j) % 64 = t + j := by omega
  rw [e1, e2]
  have := h (t + j)
  simp at this
  exact this)
 rw [← e]
 congr 1
 omega
theorem left_step {x t c v : Nat} (h : ∀ j, x.testBit j = (decide (t ≤ j) && v.testBit j)) (hd : ∀ j, (x &&& (x - 1)).testBit j = (decide (c + 1 ≤ j) && x.testBit j)) (ht : t ≤ c) :
  ∀ j, (x &&& (x - 1)).testBit j = (decide (c + 1 ≤ j) && v.testBit j) := fun j => by
 rw [hd, h]
 by_cases h1 : c + 1 ≤ j
 · have h2 : t ≤ j := by omega
   simp [h1, h2]
 · simp [h1]
def cw (l : List Nat) (i : Nat) : Nat := l.foldl (fun w b => if b / 64 = i then w ||| 2 ^ (b % 64) else w) 0
theorem cw_snoc (l : List Nat) (b i : Nat) : cw (l ++ [b]) i = if b / 64 = i then cw l i ||| 2 ^ (b % 64) else cw l i := by simp [cw]
theorem cw_nil (i : Nat) : cw [] i = 0 := rfl
theorem cw_lt (l : List Nat) (i : Nat) : cw l i < 18446744073709551616 := by
 unfold cw
 suffices h : ∀ (l : List Nat) (w : Nat), w < 2 ^ 64 → l.foldl (fun w b => if b / 64 = i then w ||| 2 ^ (b % 64) else w) w < 2 ^ 64 from by simpa using h l 0 (by decide)
 intro l
 induction l with
 | nil => intro w h; exact h
 | cons b l ih =>
  intro w h
  rw [List.foldl_cons]
  apply ih
  split
  · exact Nat.or_lt_two_pow h (Nat.pow_lt_pow_right (by decide) (Nat.mod_lt _ (by decide)))
  · exact h
theorem cw_bit (i j : Nat) (hj : j < 64) (l : List Nat) : (cw l i).testBit j = decide (64 * i + j ∈ l) := by
 unfold cw
 suffices h : ∀ (l : List Nat) (w : Nat), (l.foldl (fun w b => if b / 64 = i then w ||| 2 ^ (b % 64) else w) w).testBit j = (w.testBit j || decide (64 * i + j ∈ l)) from by simpa using h l 0
 intro l
 induction l with
 | nil => intro w; simp
 | cons b l ih =>
  intro w
  rw [List.foldl_cons, ih]
  by_cases hb : b / 64 = i
  · rw [if_pos hb, Nat.testBit_or, Nat.testBit_two_pow]
    by_cases hm : b % 64 = j
    · have : 64 * i + j = b := by omega
      simp [hm, this]
    · have : ¬ 64 * i + j = b := by omega
      simp [hm, this]
  · rw [if_neg hb]
    have : ¬ 64 * i + j = b := by omega
    simp [this]
theorem wd_cw (l : List Nat) (i : Nat) (hi : i < 4) : wd (cw l 0) (cw l 1) (cw l 2) (cw l 3) i = cw l i := by
 obtain rfl | rfl | rfl | rfl : i = 0 ∨ i = 1 ∨ i = 2 ∨ i = 3 := by omega
 all_goals rfl
theorem has_cw (l : List Nat) (b : Nat) (hb : b < 256) : hasB (cw l 0) (cw l 1) (cw l 2) (cw l 3) b = decide (b ∈ l) := by
 unfold hasB
 rw [wd_cw l _ (by omega), cw_bit _ _ (by omega)]
 have : 64 * (b / 64) + b % 64 = b := by omega
 rw [this]
theorem word_ext {x y : Nat} (hx : x < 18446744073709551616) (hy : y < 18446744073709551616) (h : ∀ j, j < 64 → x.testBit j = y.testBit j) : x = y := by
 apply Nat.eq_of_testBit_eq
 intro j
 rcases Nat.lt_or_ge j 64 with hj | hj
 · exact h j hj
 · have e : 18446744073709551616 ≤ 2 ^ j := Nat.le_trans (by decide : 18446744073709551616 ≤ 2 ^ 64) (Nat.pow_le_pow_right (by decide) hj)
   rw [Nat.testBit_lt_two_pow (Nat.lt_of_lt_of_le hx e), Nat.testBit_lt_two_pow (Nat.lt_of_lt_of_le hy e)]
theorem mem_upB {a b c d n x : Nat} : x ∈ upB a b c d n ↔ x < n ∧ hasB a b c d x = true := by
 unfold upB
 rw [List.mem_filter]
 simp
theorem hasB_word (a b c d i j : Nat) (hj : j < 64) : hasB a b c d (64 * i + j) = (wd a b c d i).testBit j := by
 unfold hasB
 have e1 : (64 * i + j) / 64 = i := by omega
 have e2 : (64 * i + j) % 64 = j := by omega
 rw [e1, e2]
theorem cw_bytes (a b c d i : Nat) (hi : i < 4) (hw : ∀ k, wd a b c d k < 18446744073709551616) : cw (bytesB a b c d) i = wd a b c d i :=
 word_ext (cw_lt _ _) (hw i) fun j hj => by
  rw [cw_bit i j hj]
  unfold bytesB
  rw [← hasB_word a b c d i j hj]
  cases h : hasB a b c d (64 * i + j) with
  | true => simpa using mem_upB.2 ⟨by omega, h⟩
  | false => simpa using fun hm => by rw [(mem_upB.1 hm).2] at h; cases h
def wlt (a0 a1 a2 a3 : Nat) : Prop := ∀ k, wd a0 a1 a2 a3 k < 18446744073709551616
def rng (low high : Nat) : List Nat := List.range' low (high + 1 - low)
theorem rng_mem {low high x : Nat} : x ∈ rng low high ↔ low ≤ x ∧ x ≤ high := by
 unfold rng
 rw [List.mem_range'_1]
 omega
def nw (a : Nat) : Nat := 18446744073709551615 ^^^ a
theorem nw_lt (a : Nat) (h : a < 18446744073709551616) : nw a < 18446744073709551616 := Nat.xor_lt_two_pow (n := 64) (by decide) h
theorem ones_bit (j : Nat) (hj : j < 64) : (18446744073709551615 : Nat).testBit j = true := by
 rw [show (18446744073709551615 : Nat) = 2 ^ 64 - 1 from by decide, Nat.testBit_two_pow_sub_one]
 simpa using hj
theorem nw_bit (a j : Nat) (hj : j < 64) : (nw a).testBit j = !a.testBit j := by
 unfold nw
 rw [Nat.testBit_xor, ones_bit j hj]
 simp
theorem wlt_mk {a0 a1 a2 a3 : Nat} (h0 : a0 < 18446744073709551616) (h1 : a1 < 18446744073709551616) (h2 : a2 < 18446744073709551616) (h3 : a3 < 18446744073709551616) : wlt a0 a1 a2 a3 := fun k => by
 unfold wd; split; exact h0; split; exact h1; split; exact h2; exact h3
section
variable {a0 a1 a2 a3 b0 b1 b2 b3 : Nat}
theorem wlt_nw (h : wlt a0 a1 a2 a3) : wlt (nw a0) (nw a1) (nw a2) (nw a3) := wlt_mk (nw_lt _ (h 0)) (nw_lt _ (h 1)) (nw_lt _ (h 2)) (nw_lt _ (h 3))
theorem wlt_or (h : wlt a0 a1 a2 a3) (k : wlt b0 b1 b2 b3) : wlt (a0 ||| b0) (a1 ||| b1) (a2 ||| b2) (a3 ||| b3) :=
 wlt_mk (Nat.or_lt_two_pow (n := 64) (h 0) (k 0)) (Nat.or_lt_two_pow (n := 64) (h 1) (k 1)) (Nat.or_lt_two_pow (n := 64) (h 2) (k 2)) (Nat.or_lt_two_pow (n := 64) (h 3) (k 3))
theorem wlt_and (k : wlt b0 b1 b2 b3) : wlt (a0 &&& b0) (a1 &&& b1) (a2 &&& b2) (a3 &&& b3) :=
 wlt_mk (Nat.and_lt_two_pow (n := 64) _ (k 0)) (Nat.and_lt_two_pow (n := 64) _ (k 1)) (Nat.and_lt_two_pow (n := 64) _ (k 2)) (Nat.and_lt_two_pow (n := 64) _ (k 3))
theorem wd_and (i : Nat) : wd (a0 &&& b0) (a1 &&& b1) (a2 &&& b2) (a3 &&& b3) i = wd a0 a1 a2 a3 i &&& wd b0 b1 b2 b3 i := by
 unfold wd; split; rfl; split; rfl; split <;> rfl
theorem hasB_and (x : Nat) : hasB (a0 &&& b0) (a1 &&& b1) (a2 &&& b2) (a3 &&& b3) x = (hasB a0 a1 a2 a3 x && hasB b0 b1 b2 b3 x) := by
 unfold hasB; rw [wd_and, Nat.testBit_and]
end
structure Kl where
 a : Nat
 b : Nat
 c : Nat
 d : Nat
 h : wlt a b c d
namespace Kl
def zero : Kl := ⟨0, 0, 0, 0, wlt_mk (by decide) (by decide) (by decide) (by decide)⟩
instance : Inhabited Kl := ⟨zero⟩
def has (x : Kl) (i : Nat) : Bool := hasB x.a x.b x.c x.d i
def by_ (x : Kl) : List Nat := bytesB x.a x.b x.c x.d
def and (x y : Kl) : Kl := ⟨x.a &&& y.a, x.b &&& y.b, x.c &&& y.c, x.d &&& y.d, wlt_and y.h⟩
def or (x y : Kl) : Kl := ⟨x.a ||| y.a, x.b ||| y.b, x.c ||| y.c, x.d ||| y.d, wlt_or x.h y.h⟩
def not (x : Kl) : Kl := ⟨nw x.a, nw x.b, nw x.c, nw x.d, wlt_nw x.h⟩
def ofL (l : List Nat) : Kl := ⟨cw l 0, cw l 1, cw l 2, cw l 3, wlt_mk (cw_lt _ _) (cw_lt _ _) (cw_lt _ _) (cw_lt _ _)⟩
def full : Kl := ofL (rng 0 255)
def isZ (x : Kl) : Bool := x.a == 0 && (x.b == 0 && (x.c == 0 && x.d == 0))
theorem ext4 {x y : Kl} (h0 : x.a = y.a) (h1 : x.b = y.b) (h2 : x.c = y.c) (h3 : x.d = y.d) : x = y := by
 cases x; cases y; simp only at h0 h1 h2 h3; subst h0 h1 h2 h3; rfl
theorem ext_has {x y : Kl} (h : ∀ i, i < 256 → x.has i = y.has i) : x = y := by
 have key : ∀ k, k < 4 → wd x.a x.b x.c x.d k = wd y.a y.b y.c y.d k := fun k hk =>
  word_ext (x.h k) (y.h k) fun j hj => by
   rw [← hasB_word _ _ _ _ k j hj, ← hasB_word _ _ _ _ k j hj]
   exact h _ (by omega)
 exact ext4 (key 0 (by decide)) (key 1 (by decide)) (key 2 (by decide)) (key 3 (by decide))
theorem has_and (x y : Kl) (i : Nat) : (x.and y).has i = (x.has i && y.has i) := hasB_and i
theorem has_not (x : Kl) (i : Nat) (hi : i < 256) : x.not.has i = !x.has i := by
 show hasB (nw x.a) (nw x.b) (nw x.c) (nw x.d) i = _
 unfold has hasB
 have e : wd (nw x.a) (nw x.b) (nw x.c) (nw x.d) (i / 64) = nw (wd x.a x.b x.c x.d (i / 64)) := by unfold wd; split; rfl; split; rfl; split <;> rfl
 rw [e, nw_bit _ _ (by omega)]
theorem has_ofL (l : List Nat) (i : Nat) (hi : i < 256) : (ofL l).has i = decide (i ∈ l) := has_cw l i hi
theorem has_full (i : Nat) (hi : i < 256) : full.has i = true := by
 unfold full
 rw [has_ofL _ i hi]
 simp only [rng_mem]
 simp; omega
theorem has_zero (i : Nat) : zero.has i = false := by
 have e : wd 0 0 0 0 (i / 64) = 0 := by unfold wd; split; rfl; split; rfl; split <;> rfl
 show hasB 0 0 0 0 i = false
 unfold hasB
 rw [e]; simp
theorem isZ_iff (x : Kl) : x.isZ = true ↔ x = zero := by
 unfold isZ
 simp only [Bool.and_eq_true, beq_iff_eq]
 exact ⟨fun ⟨h0, h1, h2, h3⟩ => ext4 h0 h1 h2 h3, fun h => by subst h; exact ⟨rfl, rfl, rfl, rfl⟩⟩
theorem mem_by {x : Kl} {i : Nat} : i ∈ x.by_ ↔ i < 256 ∧ x.has i = true := mem_upB
theorem exists_of_nz {x : Kl} (h : x.isZ = false) : ∃ i, i < 256 ∧ x.has i = true := by
 false_or_by_contra
 rename_i hn
 have : x = zero := ext_has fun i hi => by
  rw [has_zero]
  cases hx : x.has i with
  | false => rfl
  | true => exact (hn ⟨i, hi, hx⟩).elim
 rw [(isZ_iff x).2 this] at h
 cases h
theorem nz_of_has {x : Kl} {i : Nat} (h : x.has i = true) : x.isZ = false := by
 cases hz : x.isZ with
 | false => rfl
 | true => rw [(isZ_iff x).1 hz, has_zero] at h; cases h
def low (x : Kl) : Nat := x.by_.headD 0
theorem low_mem {x : Kl} {i : Nat} (h : x.has i = true) (hi : i < 256) : x.low ∈ x.by_ ∧ x.low ≤ i := by
 have hm : i ∈ x.by_ := mem_by.2 ⟨hi, h⟩
 have hs : x.by_.Pairwise (· < ·) := by
  unfold by_ bytesB upB
  exact List.Pairwise.filter _ List.pairwise_lt_range
 unfold low
 cases hx : x.by_ with
 | nil => rw [hx] at hm; cases hm
 | cons y l =>
  rw [hx] at hm hs
  refine ⟨List.mem_cons_self, ?_⟩
  rcases List.mem_cons.1 hm with rfl | hm
  · exact Nat.le_refl _
  · exact Nat.le_of_lt ((List.pairwise_cons.1 hs).1 _ hm)
theorem low_lt (x : Kl) : x.low < 256 := by
 unfold low
 cases h : x.by_ with
 | nil => decide
 | cons y l => exact (mem_by.1 (h ▸ List.mem_cons_self : y ∈ x.by_)).1
end Kl
open Kl
def halves (c x : Kl) : List Kl := (if (x.and c).isZ then [] else [x.and c]) ++ (if (x.and c.not).isZ then [] else [x.and c.not])
def stp (out : List Kl) (c : Kl) : List Kl := out.flatMap (halves c)
def parts (l : List Kl) : List Kl := l.foldl stp [full]
def Apart (l : List Kl) (p q : Kl) : Prop := ∀ i j, i < 256 → j < 256 → p.has i = true → q.has j = true → ∃ c ∈ l, c.has i ≠ c.has j
structure Parted (l out : List Kl) : Prop where
 some : ∀ p ∈ out, ∃ i, i < 256 ∧ p.has i = true
 same : ∀ p ∈ out, ∀ i j, i < 256 → j < 256 → p.has i = true → p.has j = true → ∀ c ∈ l, c.has i = c.has j
 apart : out.Pairwise (Apart l)
 all : ∀ i, i < 256 → ∃ p ∈ out, p.has i = true
theorem mem_halves {c x p : Kl} : p ∈ halves c x ↔ (p = x.and c ∨ p = x.and c.not) ∧ p.isZ = false := by
 unfold halves
 rw [List.mem_append]
 constructor
 · rintro (h | h)
   · split at h
     · cases h
     · rename_i hz
       obtain rfl := List.mem_singleton.1 h
       exact ⟨.inl rfl, by simpa using hz⟩
   · split at h
     · cases h
     · rename_i hz
       obtain rfl := List.mem_singleton.1 h
       exact ⟨.inr rfl, by simpa using hz⟩
 · rintro ⟨rfl | rfl, h⟩
   · exact .inl (by rw [if_neg (by simp [h])]; exact List.mem_singleton.2 rfl)
   · exact .inr (by rw [if_neg (by simp [h])]; exact List.mem_singleton.2 rfl)
theorem halves_sub {c x p : Kl} (h : p ∈ halves c x) {i : Nat} (hi : p.has i = true) : x.has i = true := by
 rcases (mem_halves.1 h).1 with rfl | rfl <;> rw [has_and] at hi <;> simp at hi <;> exact hi.1
theorem halves_len (c x : Kl) : (halves c x).length ≤ 2 := by
 unfold halves
 rw [List.length_append]
 split <;> split <;> simp
theorem Parted.start : Parted [] [full] where
 some p hp := by obtain rfl := List.mem_singleton.1 hp; exact ⟨0, by decide, has_full 0 (by decide)⟩
 same p hp i j _ _ _ _ c hc := by cases hc
 apart := List.pairwise_singleton _ _
 all i hi := ⟨full, List.mem_singleton.2 rfl, has_full i hi⟩
theorem Parted.step {l out : List Kl} (h : Parted l out) (c : Kl) : Parted (l ++ [c]) (stp out c) where
 some p hp := by
  obtain ⟨x, _, hp⟩ := List.mem_flatMap.1 hp
  exact exists_of_nz (mem_halves.1 hp).2
 same p hp i j hi hj h1 h2 c' hc' := by
  obtain ⟨x, hx, hp⟩ := List.mem_flatMap.1 hp
  rcases List.mem_append.1 hc' with hc' | hc'
  · exact h.same x hx i j hi hj (halves_sub hp h1) (halves_sub hp h2) c' hc'
  · obtain rfl := List.mem_singleton.1 hc'
    rcases (mem_halves.1 hp).1 with rfl | rfl
    · rw [has_and] at h1 h2; simp at h1 h2; rw [h1.2, h2.2]
    · rw [has_and, has_not _ _ hi] at h1; rw [has_and, has_not _ _ hj] at h2; simp at h1 h2; rw [h1.2, h2.2]
 apart := by
  unfold stp
  rw [List.pairwise_flatMap]
  refine ⟨fun x hx => ?_, h.apart.imp fun {x y} hxy p hp q hq i j hi hj h1 h2 => ?_⟩
  · have hpq : Apart (l ++ [c]) (x.and c) (x.and c.not) := fun i j hi hj h1 h2 => by
     refine ⟨c, List.mem_append.2 (.inr (List.mem_singleton.2 rfl)), ?_⟩
     rw [has_and] at h1; rw [has_and, has_not _ _ hj] at h2; simp at h1 h2; rw [h1.2, h2.2]; decide
    unfold halves
    split <;> split
    · exact List.Pairwise.nil
    · exact List.pairwise_singleton _ _
    · exact List.pairwise_singleton _ _
    · exact List.Pairwise.cons (fun y hy => by obtain rfl := List.mem_singleton.1 hy; exact hpq) (List.pairwise_singleton _ _)
  · obtain ⟨c', hc', hne⟩ := hxy i j hi hj (halves_sub hp h1) (halves_sub hq h2)
    exact ⟨c', List.mem_append.2 (.inl hc'), hne⟩
 all i hi := by
  obtain ⟨x, hx, hxi⟩ := h.all i hi
  cases hc : c.has i with
  | true =>
   have hh : (x.and c).has i = true := by rw [has_and, hxi, hc]; rfl
   exact ⟨_, List.mem_flatMap.2 ⟨x, hx, mem_halves.2 ⟨.inl rfl, nz_of_has hh⟩⟩, hh⟩
  | false =>
   have hh : (x.and c.not).has i = true := by rw [has_and, has_not _ _ hi, hxi, hc]; rfl
   exact ⟨_, List.mem_flatMap.2 ⟨x, hx, mem_halves.2 ⟨.inr rfl, nz_of_has hh⟩⟩, hh⟩
theorem stp_len (out : List Kl) (c : Kl) : (stp out c).length ≤ 2 * out.length := by
 unfold stp
 induction out with
 | nil => simp
 | cons x l ih => rw [List.flatMap_cons, List.length_append, List.length_cons]; have := halves_len c x; omega
theorem parts_snoc (l : List Kl) (c : Kl) : parts (l ++ [c]) = stp (parts l) c := by simp [parts]
theorem Parted.more : ∀ (l : List Kl) {l0 out : List Kl}, Parted l0 out → Parted (l0 ++ l) (l.foldl stp out)
 | [], l0, out, h => by rw [List.append_nil]; exact h
 | c :: l, l0, out, h => by
  have := Parted.more l (h.step c)
  rwa [List.append_assoc] at this
theorem parts_ok (l : List Kl) : Parted l (parts l) := Parted.more l .start
theorem foldl_len : ∀ (l out : List Kl), (l.foldl stp out).length ≤ 2 ^ l.length * out.length
 | [], out => by simp
 | c :: l, out => by
  refine Nat.le_trans (foldl_len l (stp out c)) ?_
  rw [List.length_cons, Nat.pow_succ, Nat.mul_assoc]
  exact Nat.mul_le_mul_left _ (stp_len out c)
theorem parts_len (l : List Kl) : (parts l).length ≤ 2 ^ l.length := by
 have := foldl_len l [full]
 rw [List.length_singleton, Nat.mul_one] at this
 exact this
theorem Parted.perm {l out out' : List Kl} (h : Parted l out) (hp : out'.Perm out) : Parted l out' where
 some p hm := h.some p (hp.mem_iff.1 hm)
 same p hm := h.same p (hp.mem_iff.1 hm)
 apart := hp.symm.pairwise h.apart fun {p q} hpq i j hi hj h1 h2 => by
  obtain ⟨c, hc, hne⟩ := hpq j i hj hi h2 h1
  exact ⟨c, hc, fun e => hne e.symm⟩
 all i hi := by
  obtain ⟨p, hm, hh⟩ := h.all i hi
  exact ⟨p, hp.mem_iff.2 hm, hh⟩
end Go.Proofs.YtaadkdmbhckdeaaGreatDoor
