/- ClassParts, the plain law: what holds of the parted classes in their order. -/
import Derived.Test.YtjaabolpdelbiaaDoorM5
namespace Go.Proofs.YtjaabolpdelbiaaDoor
open Go
open Kl

def orAll (d : List Kl) : Kl := d.foldl Kl.or zero
theorem orAll_snoc (d : List Kl) (x : Kl) : orAll (d ++ [x]) = (orAll d).or x := by simp [orAll]
theorem foldl_or_has (i : Nat) : ∀ (d : List Kl) (s : Kl), (d.foldl Kl.or s).has i = (s.has i || d.any fun x => x.has i)
  | [], s => by simp
  | x :: d, s => by rw [List.foldl_cons, foldl_or_has i d, has_or, List.any_cons, Bool.or_assoc]
theorem orAll_has (d : List Kl) (i : Nat) : (orAll d).has i = d.any fun x => x.has i := by
  unfold orAll
  rw [foldl_or_has, has_zero, Bool.false_or]
theorem or_len (x y : Kl) : (x.or y).by_.length + (x.and y).by_.length = x.by_.length + y.by_.length := len_sum x.a x.b x.c x.d y.a y.b y.c y.d
theorem by_zero : zero.by_ = [] := by
  cases h : zero.by_ with
  | nil => rfl
  | cons i l =>
    have := (mem_by.1 (h ▸ List.mem_cons_self : i ∈ zero.by_)).2
    rw [has_zero] at this
    cases this
theorem by_full : full.by_.length = 256 := by
  have e : full.by_ = List.range 256 := by
    unfold by_ bytesB upB
    exact List.filter_eq_self.2 fun i hi => has_full i (by simpa using hi)
  rw [e, List.length_range]
theorem by_le (x : Kl) : x.by_.length ≤ 256 := upB_len _ _ _ _ _

/-- All that the law asks of the row. -/
structure Lawful (l d : List Kl) : Prop where
  ne : ∀ i (h : i < d.length), d[i].by_.isEmpty = false
  low : ∀ i j (hj : j < d.length) (hij : i < j), (d[i]'(by omega)).low < d[j].low
  free : ∀ i (h : i < d.length), (orAll (d.take i)).and d[i] = zero
  cut : ∀ i (h : i < d.length), ∀ c ∈ l, c.and d[i] = zero ∨ c.and d[i] = d[i]
  apart : ∀ i j (hj : j < d.length) (hij : i < j), ∃ k, ∃ hk : k < l.length, l[k].has d[j].low ≠ l[k].has (d[i]'(by omega)).low
  all : orAll d = zero.not
theorem lawful {l d : List Kl} (h : Parted l d) (hs : d.Pairwise fun x y => x.low ≤ y.low) : Lawful l d := by
  have hlow : ∀ i (h' : i < d.length), d[i].low < 256 ∧ d[i].has d[i].low = true ∧ d[i].low ∈ d[i].by_ := fun i h' => by
    obtain ⟨j, hj, hh⟩ := h.some d[i] (List.getElem_mem h')
    have := (low_mem hh hj).1
    exact ⟨d[i].low_lt, (mem_by.1 this).2, this⟩
  have hap : ∀ i j (hj : j < d.length) (hij : i < j), Apart l (d[i]'(by omega)) d[j] := fun i j hj hij => List.pairwise_iff_getElem.1 h.apart i j (by omega) hj hij
  refine ⟨fun i h' => ?_, fun i j hj hij => ?_, fun i h' => ?_, fun i h' c hc => ?_, fun i j hj hij => ?_, ?_⟩
  · have := (hlow i h').2.2
    cases hb : d[i].by_ with
    | nil => rw [hb] at this; cases this
    | cons y t => rfl
  · have h1 := List.pairwise_iff_getElem.1 hs i j (by omega) hj hij
    rcases Nat.lt_or_eq_of_le h1 with h2 | h2
    · exact h2
    · obtain ⟨c, _, hne⟩ := hap i j hj hij _ _ (hlow i (by omega)).1 (hlow j hj).1 (hlow i (by omega)).2.1 (hlow j hj).2.1
      exact (hne (by rw [h2])).elim
  · refine ext_has fun k hk => ?_
    rw [has_zero, has_and, orAll_has]
    cases hx : d[i].has k with
    | false => simp
    | true =>
      simp only [Bool.and_true]
      rw [Bool.eq_false_iff]
      intro ha
      obtain ⟨y, hy, hyk⟩ := List.any_eq_true.1 ha
      obtain ⟨j, hj, rfl⟩ := List.getElem_of_mem hy
      have hji : j < i := by rw [List.length_take] at hj; omega
      rw [List.getElem_take] at hyk
      obtain ⟨c, _, hne⟩ := hap j i h' hji k k hk hk hyk hx
      exact hne rfl
  · obtain ⟨j, hj, hh⟩ := h.some d[i] (List.getElem_mem h')
    cases hcj : c.has j with
    | false =>
      refine .inl (ext_has fun k hk => ?_)
      rw [has_zero, has_and]
      cases hx : d[i].has k with
      | false => simp
      | true => rw [h.same d[i] (List.getElem_mem h') k j hk hj hx hh c hc, hcj]; rfl
    | true =>
      refine .inr (ext_has fun k hk => ?_)
      rw [has_and]
      cases hx : d[i].has k with
      | false => simp
      | true => rw [h.same d[i] (List.getElem_mem h') k j hk hj hx hh c hc, hcj]; rfl
  · obtain ⟨c, hc, hne⟩ := hap i j hj hij _ _ (hlow i (by omega)).1 (hlow j hj).1 (hlow i (by omega)).2.1 (hlow j hj).2.1
    obtain ⟨k, hk, rfl⟩ := List.getElem_of_mem hc
    exact ⟨k, hk, fun e => hne e.symm⟩
  · rw [not_zero]
    refine ext_has fun k hk => ?_
    rw [has_full k hk, orAll_has]
    obtain ⟨p, hp, hh⟩ := h.all k hk
    exact List.any_eq_true.2 ⟨p, hp, hh⟩
theorem orAll_take {d : List Kl} {i : Nat} (h : i < d.length) : orAll (d.take (i + 1)) = (orAll (d.take i)).or d[i] := by rw [List.take_succ_eq_append_getElem h, orAll_snoc]
theorem Lawful.count {l d : List Kl} (h : Lawful l d) {i : Nat} (hi : i < d.length) : (orAll (d.take (i + 1))).by_.length = (orAll (d.take i)).by_.length + d[i].by_.length := by
  have := or_len (orAll (d.take i)) d[i]
  rw [h.free i hi, by_zero] at this
  rw [orAll_take hi]
  simpa using this
end Go.Proofs.YtjaabolpdelbiaaDoor
