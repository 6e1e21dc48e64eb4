/- The number of set bits, as math/bits.OnesCount64 counts them. -/
import Derived.Test.YtjaabolpdelbiaaDoorM2
namespace Go.Proofs.YtjaabolpdelbiaaDoor
open Go

theorem land_split (a m m' : Nat) (hm : m < 256) : a &&& (m + 256 * m') = ((a % 256) &&& m) + 256 * ((a / 256) &&& m') := by
  have h1 : (a &&& (m + 256 * m')) % 2 ^ 8 = (a % 2 ^ 8) &&& ((m + 256 * m') % 2 ^ 8) := Nat.and_mod_two_pow ..
  have h2 : (a &&& (m + 256 * m')) / 2 ^ 8 = (a / 2 ^ 8) &&& ((m + 256 * m') / 2 ^ 8) := Nat.and_div_two_pow ..
  have e1 : (m + 256 * m') % 2 ^ 8 = m := by omega
  have e2 : (m + 256 * m') / 2 ^ 8 = m' := by omega
  rw [e1] at h1
  rw [e2] at h2
  simp only [show (2 : Nat) ^ 8 = 256 from rfl] at h1 h2
  rw [← h1, ← h2]
  omega
/-- A mask of n equal bytes. -/
def msk (m : Nat) : Nat → Nat
  | 0 => 0
  | n + 1 => m + 256 * msk m n
def g1 (y : Nat) : Nat := ((y / 2) &&& 85) + (y &&& 85)
def g2 (y : Nat) : Nat := ((y / 4) &&& 51) + (y &&& 51)
def g3 (y : Nat) : Nat := (y / 16 + y) &&& 15
/-- f on each of n bytes. -/
def onB (f : Nat → Nat) : Nat → Nat → Nat
  | 0, _ => 0
  | n + 1, x => f (x % 256) + 256 * onB f n (x / 256)
theorem g1_edge : ∀ lo : Fin 256, ∀ e : Fin 2, ((lo.val / 2 + 128 * e.val) &&& 85) = ((lo.val / 2) &&& 85) := by decide +kernel
theorem g2_edge : ∀ lo : Fin 256, ∀ e : Fin 4, ((lo.val / 4 + 64 * e.val) &&& 51) = ((lo.val / 4) &&& 51) := by decide +kernel
theorem s1_eq : ∀ n x, x < 256 ^ n → ((x / 2) &&& msk 85 n) + (x &&& msk 85 n) = onB g1 n x
  | 0, x, h => by simp [msk, onB]
  | n + 1, x, h => by
    have hx : x / 256 < 256 ^ n := by rw [Nat.pow_succ] at h; omega
    have ih := s1_eq n (x / 256) hx
    have e := g1_edge ⟨x % 256, by omega⟩ ⟨x / 256 % 2, by omega⟩
    simp only at e
    have e1 : x / 2 % 256 = x % 256 / 2 + 128 * (x / 256 % 2) := by omega
    have e2 : x / 2 / 256 = x / 256 / 2 := by omega
    unfold msk onB
    rw [land_split _ _ _ (by decide), land_split _ _ _ (by decide), ← ih, e1, e2, e]
    unfold g1
    omega
theorem s2_eq : ∀ n x, x < 256 ^ n → ((x / 4) &&& msk 51 n) + (x &&& msk 51 n) = onB g2 n x
  | 0, x, h => by simp [msk, onB]
  | n + 1, x, h => by
    have hx : x / 256 < 256 ^ n := by rw [Nat.pow_succ] at h; omega
    have ih := s2_eq n (x / 256) hx
    have e := g2_edge ⟨x % 256, by omega⟩ ⟨x / 256 % 4, by omega⟩
    simp only at e
    have e1 : x / 4 % 256 = x % 256 / 4 + 64 * (x / 256 % 4) := by omega
    have e2 : x / 4 / 256 = x / 256 / 4 := by omega
    unfold msk onB
    rw [land_split _ _ _ (by decide), land_split _ _ _ (by decide), ← ih, e1, e2, e]
    unfold g2
    omega
/-- All nibbles are at most 4. -/
def nib : Nat → Nat → Prop
  | 0, x => x = 0
  | n + 1, x => x % 16 ≤ 4 ∧ x / 16 % 16 ≤ 4 ∧ nib n (x / 256)
theorem nib_le {n x : Nat} (h : nib n x) : x % 16 ≤ 4 := by
  cases n with
  | zero => have : x = 0 := h; omega
  | succ n => exact h.1
theorem g3_edge : ∀ a b c : Fin 5, (((a.val + 16 * b.val) / 16 + 16 * c.val + (a.val + 16 * b.val)) &&& 15) = (((a.val + 16 * b.val) / 16 + (a.val + 16 * b.val)) &&& 15) := by decide +kernel
theorem s3_eq : ∀ n x, nib n x → (x / 16 + x) &&& msk 15 n = onB g3 n x
  | 0, x, h => by simp [msk, onB]
  | n + 1, x, h => by
    obtain ⟨h1, h2, h3⟩ := h
    have h4 := nib_le h3
    have ih := s3_eq n (x / 256) h3
    have e := g3_edge ⟨x % 16, by omega⟩ ⟨x / 16 % 16, by omega⟩ ⟨x / 256 % 16, by omega⟩
    simp only at e
    have e0 : x % 16 + 16 * (x / 16 % 16) = x % 256 := by omega
    rw [e0] at e
    have e1 : (x / 16 + x) % 256 = x % 256 / 16 + 16 * (x / 256 % 16) + x % 256 := by omega
    have e2 : (x / 16 + x) / 256 = x / 256 / 16 + x / 256 := by omega
    unfold msk onB
    rw [land_split _ _ _ (by decide), ← ih, e1, e2, e]
    rfl
theorem onB_lt (f : Nat → Nat) (hf : ∀ y, y < 256 → f y < 256) : ∀ n x, onB f n x < 256 ^ n
  | 0, x => by simp [onB]
  | n + 1, x => by
    have := onB_lt f hf n (x / 256)
    have := hf (x % 256) (by omega)
    unfold onB
    rw [Nat.pow_succ]
    omega
theorem onB_onB (f g : Nat → Nat) (hf : ∀ y, y < 256 → f y < 256) : ∀ n x, onB g n (onB f n x) = onB (fun y => g (f y)) n x
  | 0, x => rfl
  | n + 1, x => by
    have := hf (x % 256) (by omega)
    have e0 : onB f (n + 1) x = f (x % 256) + 256 * onB f n (x / 256) := rfl
    have e1 : onB f (n + 1) x % 256 = f (x % 256) := by omega
    have e2 : onB f (n + 1) x / 256 = onB f n (x / 256) := by omega
    show g (onB f (n + 1) x % 256) + 256 * onB g n (onB f (n + 1) x / 256) = _
    rw [e1, e2, onB_onB f g hf n]
    rfl
theorem g1_lt : ∀ y : Fin 256, g1 y.val < 256 := by decide +kernel
theorem g21_nib : ∀ y : Fin 256, g2 (g1 y.val) < 256 ∧ g2 (g1 y.val) % 16 ≤ 4 ∧ g2 (g1 y.val) / 16 % 16 ≤ 4 := by decide +kernel
def pop8 (y : Nat) : Nat := ((List.range 8).filter y.testBit).length
theorem g321 : ∀ y : Fin 256, g3 (g2 (g1 y.val)) = pop8 y.val := by decide +kernel
theorem pop8_le (y : Nat) : pop8 y ≤ 8 := by
  have := List.length_filter_le y.testBit (List.range 8)
  simpa [pop8] using this
theorem nib_g : ∀ n x, nib n (onB (fun y => g2 (g1 y)) n x)
  | 0, x => rfl
  | n + 1, x => by
    have h := g21_nib ⟨x % 256, by omega⟩
    simp only at h
    have ih := nib_g n (x / 256)
    have e0 : onB (fun y => g2 (g1 y)) (n + 1) x = g2 (g1 (x % 256)) + 256 * onB (fun y => g2 (g1 y)) n (x / 256) := rfl
    have e : onB (fun y => g2 (g1 y)) (n + 1) x / 256 = onB (fun y => g2 (g1 y)) n (x / 256) := by omega
    refine ⟨by omega, by omega, ?_⟩
    rw [e]
    exact ih
theorem onB_pop : ∀ n x, onB (fun y => g3 (g2 (g1 y))) n x = onB pop8 n x
  | 0, x => rfl
  | n + 1, x => by
    unfold onB
    rw [onB_pop n, g321 ⟨x % 256, by omega⟩]
theorem nib_bd : ∀ n x, nib n x → 255 * x + 68 ≤ 68 * 256 ^ n
  | 0, x, h => by
    have : x = 0 := h
    subst this
    simp
  | n + 1, x, h => by
    obtain ⟨h1, h2, h3⟩ := h
    have ih := nib_bd n _ h3
    rw [Nat.pow_succ]
    have : x % 256 ≤ 68 := by omega
    omega
/-- The three steps. -/
def swar3 (x : Nat) : Nat :=
  let x1 := ((x / 2) &&& 6148914691236517205) + (x &&& 6148914691236517205)
  let x2 := ((x1 / 4) &&& 3689348814741910323) + (x1 &&& 3689348814741910323)
  (x2 / 16 + x2) &&& 1085102592571150095
theorem swar3_bd (x : Nat) (hx : x < 18446744073709551616) : ((x / 2) &&& 6148914691236517205) + (x &&& 6148914691236517205) < 18446744073709551616 ∧
    ∀ x1, x1 = ((x / 2) &&& 6148914691236517205) + (x &&& 6148914691236517205) → ((x1 / 4) &&& 3689348814741910323) + (x1 &&& 3689348814741910323) < 18446744073709551616 ∧
    ∀ x2, x2 = ((x1 / 4) &&& 3689348814741910323) + (x1 &&& 3689348814741910323) → x2 / 16 + x2 < 18446744073709551616 := by
  have m1 : msk 85 8 = 6148914691236517205 := by decide
  have m2 : msk 51 8 = 3689348814741910323 := by decide
  have b1 : ∀ y, y < 256 → g1 y < 256 := fun y hy => g1_lt ⟨y, hy⟩
  have b2 : ∀ y, y < 256 → g2 (g1 y) < 256 := fun y hy => (g21_nib ⟨y, hy⟩).1
  have e1 := s1_eq 8 x (by simpa using hx)
  have l1 := onB_lt g1 b1 8 x
  rw [m1] at e1
  rw [e1]
  refine ⟨by simpa using l1, ?_⟩
  rintro x1 rfl
  have e2 := s2_eq 8 _ l1
  rw [m2, onB_onB g1 g2 b1] at e2
  rw [e2]
  have l2 := onB_lt _ b2 8 x
  refine ⟨by simpa using l2, ?_⟩
  rintro x2 rfl
  have := nib_bd 8 _ (nib_g 8 x)
  simp only [show (256 : Nat) ^ 8 = 18446744073709551616 from by decide] at this
  omega
theorem swar3_eq (x : Nat) (hx : x < 18446744073709551616) : swar3 x = onB pop8 8 x := by
  have m1 : msk 85 8 = 6148914691236517205 := by decide
  have m2 : msk 51 8 = 3689348814741910323 := by decide
  have m3 : msk 15 8 = 1085102592571150095 := by decide
  have b1 : ∀ y, y < 256 → g1 y < 256 := fun y hy => g1_lt ⟨y, hy⟩
  unfold swar3
  simp only
  rw [← m1, ← m2, ← m3, s1_eq 8 x (by simpa using hx), s2_eq 8 _ (onB_lt g1 b1 8 x), onB_onB g1 g2 b1, s3_eq 8 _ (nib_g 8 x), onB_onB _ g3 (fun y hy => (g21_nib ⟨y, hy⟩).1), onB_pop]
/-- The number of set bits. -/
def pop (x : Nat) : Nat := ((List.range 64).filter x.testBit).length
theorem pop_le (x : Nat) : pop x ≤ 64 := by
  have := List.length_filter_le x.testBit (List.range 64)
  simpa [pop] using this
def sumB : Nat → Nat → Nat
  | 0, _ => 0
  | n + 1, x => pop8 (x % 256) + sumB n (x / 256)
theorem range_add' (m : Nat) : List.range (8 + m) = List.range 8 ++ (List.range m).map (8 + ·) := List.range_add
theorem pop_sum : ∀ n x, ((List.range (8 * n)).filter x.testBit).length = sumB n x
  | 0, x => rfl
  | n + 1, x => by
    have ih := pop_sum n (x / 256)
    rw [show 8 * (n + 1) = 8 + 8 * n by omega, range_add', List.filter_append, List.length_append, List.filter_map, List.length_map]
    unfold sumB
    rw [← ih]
    congr 1
    · unfold pop8
      congr 1
      apply List.filter_congr
      intro i hi
      rw [List.mem_range] at hi
      rw [show (256 : Nat) = 2 ^ 8 from rfl, Nat.testBit_mod_two_pow]
      simp [hi]
    · congr 1
      apply List.filter_congr
      intro i hi
      rw [show (256 : Nat) = 2 ^ 8 from rfl, Nat.testBit_div_two_pow]
      simp [Nat.add_comm]
theorem swar_end {d0 d1 d2 d3 d4 d5 d6 d7 x x1 x2 x3 x4 x5 x6 x7 : Nat} (h0 : d0 ≤ 8) (h1 : d1 ≤ 8) (h2 : d2 ≤ 8) (h3 : d3 ≤ 8) (h4 : d4 ≤ 8) (h5 : d5 ≤ 8) (h6 : d6 ≤ 8) (h7 : d7 ≤ 8)
    (e0 : x = d0 + 256 * x1) (e1 : x1 = d1 + 256 * x2) (e2 : x2 = d2 + 256 * x3) (e3 : x3 = d3 + 256 * x4) (e4 : x4 = d4 + 256 * x5) (e5 : x5 = d5 + 256 * x6) (e6 : x6 = d6 + 256 * x7) (e7 : x7 = d7) :
    x + x / 256 = x + x1 ∧ (x + x1) / 65536 = x2 + x3 ∧ (x + x1 + (x2 + x3)) / 4294967296 = x4 + x5 + (x6 + x7) ∧ x + x1 + (x2 + x3) + (x4 + x5 + (x6 + x7)) < 9223372036854775808 ∧
      (x + x1 + (x2 + x3) + (x4 + x5 + (x6 + x7))) % 128 = d0 + (d1 + (d2 + (d3 + (d4 + (d5 + (d6 + (d7 + 0))))))) := by
  have b7 : x7 ≤ 8 := by omega
  have b6 : x6 ≤ 2056 := by omega
  have b5 : x5 ≤ 526344 := by omega
  have b4 : x4 ≤ 134744072 := by omega
  have b3 : x3 ≤ 34494482440 := by omega
  have b2 : x2 ≤ 8830587504648 := by omega
  have b1 : x1 ≤ 2260630401189896 := by omega
  have b0 : x ≤ 578721382704613384 := by omega
  refine ⟨by omega, ?_, ?_, by omega, ?_⟩
  · clear e3 e4 e5 e6 e7 b0 b1 b2 b3 b4 b5 b6 b7
    omega
  · have q : x + x1 + (x2 + x3) = (d0 + d1 + d2 + d3) + 256 * (d1 + d2 + d3 + d4) + 65536 * (d2 + d3 + d4 + d5) + 16777216 * (d3 + d4 + d5 + d6) + 4294967296 * (x4 + x5 + (x6 + x7)) := by omega
    rw [q]
    clear q e0 e1 e2 e3 e4 e5 e6 e7 b0 b1 b2 b3 b4 b5 b6 b7
    generalize x4 + x5 + (x6 + x7) = t
    omega
  · have q : x + x1 + (x2 + x3) + (x4 + x5 + (x6 + x7)) = (d0 + (d1 + (d2 + (d3 + (d4 + (d5 + (d6 + (d7 + 0)))))))) + 256 * (x1 + x2 + x3 + x4 + x5 + x6 + x7) := by omega
    rw [q]
    clear q e0 e1 e2 e3 e4 e5 e6 e7 b0 b1 b2 b3 b4 b5 b6 b7
    generalize x1 + x2 + x3 + x4 + x5 + x6 + x7 = t
    omega
theorem pop_swar (x : Nat) (hx : x < 18446744073709551616) : ∃ s1 s2 s3 : Nat, swar3 x + swar3 x / 256 = s1 ∧ s1 + s1 / 65536 = s2 ∧ s2 + s2 / 4294967296 = s3 ∧ s1 < 18446744073709551616 ∧ s2 < 18446744073709551616 ∧ s3 < 9223372036854775808 ∧ s3 % 128 = pop x := by
  rw [swar3_eq x hx]
  have hp : pop x = sumB 8 x := pop_sum 8 x
  have q := swar_end (x := onB pop8 8 x) (x1 := onB pop8 7 (x / 256)) (x2 := onB pop8 6 (x / 256 / 256)) (x3 := onB pop8 5 (x / 256 / 256 / 256)) (x4 := onB pop8 4 (x / 256 / 256 / 256 / 256)) (x5 := onB pop8 3 (x / 256 / 256 / 256 / 256 / 256))
    (x6 := onB pop8 2 (x / 256 / 256 / 256 / 256 / 256 / 256)) (x7 := onB pop8 1 (x / 256 / 256 / 256 / 256 / 256 / 256 / 256))
    (pop8_le (x % 256)) (pop8_le (x / 256 % 256)) (pop8_le (x / 256 / 256 % 256)) (pop8_le (x / 256 / 256 / 256 % 256)) (pop8_le (x / 256 / 256 / 256 / 256 % 256)) (pop8_le (x / 256 / 256 / 256 / 256 / 256 % 256)) (pop8_le (x / 256 / 256 / 256 / 256 / 256 / 256 % 256)) (pop8_le (x / 256 / 256 / 256 / 256 / 256 / 256 / 256 % 256))
    rfl rfl rfl rfl rfl rfl rfl rfl
  have hs : sumB 8 x = pop8 (x % 256) + (pop8 (x / 256 % 256) + (pop8 (x / 256 / 256 % 256) + (pop8 (x / 256 / 256 / 256 % 256) + (pop8 (x / 256 / 256 / 256 / 256 % 256) + (pop8 (x / 256 / 256 / 256 / 256 / 256 % 256) + (pop8 (x / 256 / 256 / 256 / 256 / 256 / 256 % 256) + (pop8 (x / 256 / 256 / 256 / 256 / 256 / 256 / 256 % 256) + 0))))))) := rfl
  obtain ⟨q1, q2, q3, q4, q5⟩ := q
  refine ⟨_, _, _, q1, by rw [q2], by rw [q3], by omega, by omega, q4, ?_⟩
  rw [hp, hs, q5]
/-- The bits of the words, summed, are the class's bytes. -/
theorem len_bytes (a b c d : Nat) : (bytesB a b c d).length = pop a + pop b + pop c + pop d := by
  have key : ∀ k n, n = 64 * k + 64 → k < 4 → (upB a b c d n).length = (upB a b c d (64 * k)).length + pop (wd a b c d k) := by
    rintro k n rfl hk
    unfold upB pop
    rw [show List.range (64 * k + 64) = List.range (64 * k) ++ (List.range 64).map (64 * k + ·) from List.range_add, List.filter_append, List.length_append, List.filter_map, List.length_map]
    congr 2
    apply List.filter_congr
    intro j hj
    rw [List.mem_range] at hj
    exact hasB_word a b c d k j hj
  have h3 := key 3 256 rfl (by decide)
  have h2 := key 2 192 rfl (by decide)
  have h1 := key 1 128 rfl (by decide)
  have h0 := key 0 64 rfl (by decide)
  have hz : (upB a b c d 0).length = 0 := rfl
  simp only [Nat.reduceMul] at h3 h2 h1 h0
  unfold bytesB
  rw [h3, h2, h1, h0, hz]
  simp [wd]
end Go.Proofs.YtjaabolpdelbiaaDoor
