/- class.Split, the plain mathematics: a list of classes parted by classes. -/
import Derived.Test.YtjaabolpdelbiaaDoorL3
namespace Go.Proofs.YtjaabolpdelbiaaDoor
open Go

structure Kl where
  a : Nat
  b : Nat
  c : Nat
  d : Nat
  h : wlt a b c d
namespace Kl
def zero : Kl := ⟨0, 0, 0, 0, wlt_mk (by decide) (by decide) (by decide) (by decide)⟩
instance : Inhabited Kl := ⟨zero⟩
def has (x : Kl) (i : Nat) : Bool := hasB x.a x.b x.c x.d i
def by_ (x : Kl) : List Nat := bytesB x.a x.b x.c x.d
def and (x y : Kl) : Kl := ⟨x.a &&& y.a, x.b &&& y.b, x.c &&& y.c, x.d &&& y.d, wlt_and y.h⟩
def or (x y : Kl) : Kl := ⟨x.a ||| y.a, x.b ||| y.b, x.c ||| y.c, x.d ||| y.d, wlt_or x.h y.h⟩
def not (x : Kl) : Kl := ⟨nw x.a, nw x.b, nw x.c, nw x.d, wlt_nw x.h⟩
def ofL (l : List Nat) : Kl := ⟨cw l 0, cw l 1, cw l 2, cw l 3, wlt_mk (cw_lt _ _) (cw_lt _ _) (cw_lt _ _) (cw_lt _ _)⟩
def full : Kl := ofL (rng 0 255)
def isZ (x : Kl) : Bool := x.a == 0 && (x.b == 0 && (x.c == 0 && x.d == 0))
theorem ext4 {x y : Kl} (h0 : x.a = y.a) (h1 : x.b = y.b) (h2 : x.c = y.c) (h3 : x.d = y.d) : x = y := by
  cases x; cases y; simp only at h0 h1 h2 h3; subst h0 h1 h2 h3; rfl
theorem ext_has {x y : Kl} (h : ∀ i, i < 256 → x.has i = y.has i) : x = y := by
  have key : ∀ k, k < 4 → wd x.a x.b x.c x.d k = wd y.a y.b y.c y.d k := fun k hk =>
    word_ext (x.h k) (y.h k) fun j hj => by
      rw [← hasB_word _ _ _ _ k j hj, ← hasB_word _ _ _ _ k j hj]
      exact h _ (by omega)
  exact ext4 (key 0 (by decide)) (key 1 (by decide)) (key 2 (by decide)) (key 3 (by decide))
theorem has_and (x y : Kl) (i : Nat) : (x.and y).has i = (x.has i && y.has i) := hasB_and i
theorem has_or (x y : Kl) (i : Nat) : (x.or y).has i = (x.has i || y.has i) := hasB_or i
theorem has_not (x : Kl) (i : Nat) (hi : i < 256) : x.not.has i = !x.has i := by
  show hasB (nw x.a) (nw x.b) (nw x.c) (nw x.d) i = _
  unfold has hasB
  have e : wd (nw x.a) (nw x.b) (nw x.c) (nw x.d) (i / 64) = nw (wd x.a x.b x.c x.d (i / 64)) := by unfold wd; split; rfl; split; rfl; split <;> rfl
  rw [e, nw_bit _ _ (by omega)]
theorem has_ofL (l : List Nat) (i : Nat) (hi : i < 256) : (ofL l).has i = decide (i ∈ l) := has_cw l i hi
theorem has_full (i : Nat) (hi : i < 256) : full.has i = true := by
  unfold full
  rw [has_ofL _ i hi]
  simp only [rng_mem]
  simp; omega
theorem has_zero (i : Nat) : zero.has i = false := by
  have e : wd 0 0 0 0 (i / 64) = 0 := by unfold wd; split; rfl; split; rfl; split <;> rfl
  show hasB 0 0 0 0 i = false
  unfold hasB
  rw [e]; simp
theorem isZ_iff (x : Kl) : x.isZ = true ↔ x = zero := by
  unfold isZ
  simp only [Bool.and_eq_true, beq_iff_eq]
  exact ⟨fun ⟨h0, h1, h2, h3⟩ => ext4 h0 h1 h2 h3, fun h => by subst h; exact ⟨rfl, rfl, rfl, rfl⟩⟩
theorem mem_by {x : Kl} {i : Nat} : i ∈ x.by_ ↔ i < 256 ∧ x.has i = true := mem_upB
theorem exists_of_nz {x : Kl} (h : x.isZ = false) : ∃ i, i < 256 ∧ x.has i = true := by
  false_or_by_contra
  rename_i hn
  have : x = zero := ext_has fun i hi => by
    rw [has_zero]
    cases hx : x.has i with
    | false => rfl
    | true => exact (hn ⟨i, hi, hx⟩).elim
  rw [(isZ_iff x).2 this] at h
  cases h
theorem nz_of_has {x : Kl} {i : Nat} (h : x.has i = true) : x.isZ = false := by
  cases hz : x.isZ with
  | false => rfl
  | true => rw [(isZ_iff x).1 hz, has_zero] at h; cases h
theorem not_zero : zero.not = full := ext_has fun i hi => by rw [has_not _ _ hi, has_zero, has_full i hi]; rfl
/-- The least byte. -/
def low (x : Kl) : Nat := x.by_.headD 0
theorem low_mem {x : Kl} {i : Nat} (h : x.has i = true) (hi : i < 256) : x.low ∈ x.by_ ∧ x.low ≤ i := by
  have hm : i ∈ x.by_ := mem_by.2 ⟨hi, h⟩
  have hs : x.by_.Pairwise (· < ·) := by
    unfold by_ bytesB upB
    exact List.Pairwise.filter _ List.pairwise_lt_range
  unfold low
  cases hx : x.by_ with
  | nil => rw [hx] at hm; cases hm
  | cons y l =>
    rw [hx] at hm hs
    refine ⟨List.mem_cons_self, ?_⟩
    rcases List.mem_cons.1 hm with rfl | hm
    · exact Nat.le_refl _
    · exact Nat.le_of_lt ((List.pairwise_cons.1 hs).1 _ hm)
theorem low_lt (x : Kl) : x.low < 256 := by
  unfold low
  cases h : x.by_ with
  | nil => decide
  | cons y l => exact (mem_by.1 (h ▸ List.mem_cons_self : y ∈ x.by_)).1
end Kl
open Kl

/-- One class of those that are, parted by c. -/
def halves (c x : Kl) : List Kl := (if (x.and c).isZ then [] else [x.and c]) ++ (if (x.and c.not).isZ then [] else [x.and c.not])
def stp (out : List Kl) (c : Kl) : List Kl := out.flatMap (halves c)
def parts (l : List Kl) : List Kl := l.foldl stp [full]
/-- Told apart by one of l. -/
def Apart (l : List Kl) (p q : Kl) : Prop := ∀ i j, i < 256 → j < 256 → p.has i = true → q.has j = true → ∃ c ∈ l, c.has i ≠ c.has j
structure Parted (l out : List Kl) : Prop where
  some : ∀ p ∈ out, ∃ i, i < 256 ∧ p.has i = true
  same : ∀ p ∈ out, ∀ i j, i < 256 → j < 256 → p.has i = true → p.has j = true → ∀ c ∈ l, c.has i = c.has j
  apart : out.Pairwise (Apart l)
  all : ∀ i, i < 256 → ∃ p ∈ out, p.has i = true
theorem mem_halves {c x p : Kl} : p ∈ halves c x ↔ (p = x.and c ∨ p = x.and c.not) ∧ p.isZ = false := by
  unfold halves
  rw [List.mem_append]
  constructor
  · rintro (h | h)
    · split at h
      · cases h
      · rename_i hz
        obtain rfl := List.mem_singleton.1 h
        exact ⟨.inl rfl, by simpa using hz⟩
    · split at h
      · cases h
      · rename_i hz
        obtain rfl := List.mem_singleton.1 h
        exact ⟨.inr rfl, by simpa using hz⟩
  · rintro ⟨rfl | rfl, h⟩
    · exact .inl (by rw [if_neg (by simp [h])]; exact List.mem_singleton.2 rfl)
    · exact .inr (by rw [if_neg (by simp [h])]; exact List.mem_singleton.2 rfl)
theorem halves_sub {c x p : Kl} (h : p ∈ halves c x) {i : Nat} (hi : p.has i = true) : x.has i = true := by
  rcases (mem_halves.1 h).1 with rfl | rfl <;> rw [has_and] at hi <;> simp at hi <;> exact hi.1
theorem halves_len (c x : Kl) : (halves c x).length ≤ 2 := by
  unfold halves
  rw [List.length_append]
  split <;> split <;> simp
theorem Parted.start : Parted [] [full] where
  some p hp := by obtain rfl := List.mem_singleton.1 hp; exact ⟨0, by decide, has_full 0 (by decide)⟩
  same p hp i j _ _ _ _ c hc := by cases hc
  apart := List.pairwise_singleton _ _
  all i hi := ⟨full, List.mem_singleton.2 rfl, has_full i hi⟩
theorem Parted.step {l out : List Kl} (h : Parted l out) (c : Kl) : Parted (l ++ [c]) (stp out c) where
  some p hp := by
    obtain ⟨x, _, hp⟩ := List.mem_flatMap.1 hp
    exact exists_of_nz (mem_halves.1 hp).2
  same p hp i j hi hj h1 h2 c' hc' := by
    obtain ⟨x, hx, hp⟩ := List.mem_flatMap.1 hp
    rcases List.mem_append.1 hc' with hc' | hc'
    · exact h.same x hx i j hi hj (halves_sub hp h1) (halves_sub hp h2) c' hc'
    · obtain rfl := List.mem_singleton.1 hc'
      rcases (mem_halves.1 hp).1 with rfl | rfl
      · rw [has_and] at h1 h2; simp at h1 h2; rw [h1.2, h2.2]
      · rw [has_and, has_not _ _ hi] at h1; rw [has_and, has_not _ _ hj] at h2; simp at h1 h2; rw [h1.2, h2.2]
  apart := by
    unfold stp
    rw [List.pairwise_flatMap]
    refine ⟨fun x hx => ?_, h.apart.imp fun {x y} hxy p hp q hq i j hi hj h1 h2 => ?_⟩
    · have hpq : Apart (l ++ [c]) (x.and c) (x.and c.not) := fun i j hi hj h1 h2 => by
        refine ⟨c, List.mem_append.2 (.inr (List.mem_singleton.2 rfl)), ?_⟩
        rw [has_and] at h1; rw [has_and, has_not _ _ hj] at h2; simp at h1 h2; rw [h1.2, h2.2]; decide
      unfold halves
      split <;> split
      · exact List.Pairwise.nil
      · exact List.pairwise_singleton _ _
      · exact List.pairwise_singleton _ _
      · exact List.Pairwise.cons (fun y hy => by obtain rfl := List.mem_singleton.1 hy; exact hpq) (List.pairwise_singleton _ _)
    · obtain ⟨c', hc', hne⟩ := hxy i j hi hj (halves_sub hp h1) (halves_sub hq h2)
      exact ⟨c', List.mem_append.2 (.inl hc'), hne⟩
  all i hi := by
    obtain ⟨x, hx, hxi⟩ := h.all i hi
    cases hc : c.has i with
    | true =>
      have hh : (x.and c).has i = true := by rw [has_and, hxi, hc]; rfl
      exact ⟨_, List.mem_flatMap.2 ⟨x, hx, mem_halves.2 ⟨.inl rfl, nz_of_has hh⟩⟩, hh⟩
    | false =>
      have hh : (x.and c.not).has i = true := by rw [has_and, has_not _ _ hi, hxi, hc]; rfl
      exact ⟨_, List.mem_flatMap.2 ⟨x, hx, mem_halves.2 ⟨.inr rfl, nz_of_has hh⟩⟩, hh⟩
theorem stp_len (out : List Kl) (c : Kl) : (stp out c).length ≤ 2 * out.length := by
  unfold stp
  induction out with
  | nil => simp
  | cons x l ih => rw [List.flatMap_cons, List.length_append, List.length_cons]; have := halves_len c x; omega
theorem parts_snoc (l : List Kl) (c : Kl) : parts (l ++ [c]) = stp (parts l) c := by simp [parts]
theorem Parted.more : ∀ (l : List Kl) {l0 out : List Kl}, Parted l0 out → Parted (l0 ++ l) (l.foldl stp out)
  | [], l0, out, h => by rw [List.append_nil]; exact h
  | c :: l, l0, out, h => by
    have := Parted.more l (h.step c)
    rwa [List.append_assoc] at this
theorem parts_ok (l : List Kl) : Parted l (parts l) := Parted.more l .start
theorem foldl_len : ∀ (l out : List Kl), (l.foldl stp out).length ≤ 2 ^ l.length * out.length
  | [], out => by simp
  | c :: l, out => by
    refine Nat.le_trans (foldl_len l (stp out c)) ?_
    rw [List.length_cons, Nat.pow_succ, Nat.mul_assoc]
    exact Nat.mul_le_mul_left _ (stp_len out c)
theorem parts_len (l : List Kl) : (parts l).length ≤ 2 ^ l.length := by
  have := foldl_len l [full]
  rw [List.length_singleton, Nat.mul_one] at this
  exact this
theorem Parted.perm {l out out' : List Kl} (h : Parted l out) (hp : out'.Perm out) : Parted l out' where
  some p hm := h.some p (hp.mem_iff.1 hm)
  same p hm := h.same p (hp.mem_iff.1 hm)
  apart := hp.symm.pairwise h.apart fun {p q} hpq i j hi hj h1 h2 => by
    obtain ⟨c, hc, hne⟩ := hpq j i hj hi h2 h1
    exact ⟨c, hc, fun e => hne e.symm⟩
  all i hi := by
    obtain ⟨p, hm, hh⟩ := h.all i hi
    exact ⟨p, hp.mem_iff.2 hm, hh⟩
end Go.Proofs.YtjaabolpdelbiaaDoor
