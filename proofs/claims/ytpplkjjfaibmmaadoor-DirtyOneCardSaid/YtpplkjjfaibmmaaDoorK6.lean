/- DirtyOne: Add with room for one, in plain terms. -/
import Derived.Test.YtpplkjjfaibmmaaDoorK5
namespace Go.Proofs.YtpplkjjfaibmmaaDoor
theorem Ins.nil {x : J} {o : List J} (h : Ins [] x o) : o = [x] := by
  obtain ⟨i, hi, rfl, _, _⟩ := h
  simp
/-- The one job that there is, if there is one. -/
def oneJ (f t : Int) : J := ⟨0, f, t, 0, 0⟩
theorem one_none {a d i : Int} {r : Nat} {out : List J} {slot : Int} {went : List (Int × Int)} (h : AddRel a d i 1 [] r out slot went) (hr : usedF [] r = false ∧ ∀ j, j < r → usedF [] j = true) : out = [oneJ a (a + i)] ∧ slot = 0 := by
  obtain ⟨s, hs, o2, hI, hN, hlen⟩ := h
  have hr0 : r = 0 := by
    rcases Nat.eq_zero_or_pos r with e | e
    · exact e
    · have := hr.2 0 e
      simp [usedF] at this
  subst hr0
  rw [List.foldl_nil] at hs
  subst hs
  have ho := hI.nil
  subst ho
  rcases hN with ⟨h1, h2, h3⟩ | ⟨hg, _⟩
  · exact ⟨h1, h2⟩
  · simp at hg
theorem one_some {a d i f t : Int} {r : Nat} {out : List J} {slot : Int} {went : List (Int × Int)} (h : AddRel a d i 1 [oneJ f t] r out slot went) (hr : usedF [oneJ f t] r = false ∧ ∀ j, j < r → usedF [oneJ f t] j = true) :
    out = [oneJ (min (stt f a d i) a) (max (max (stt f a d i) (enn t a d i)) (a + i))] ∧ slot = 0 := by
  obtain ⟨s, hs, o2, hI, hN, hlen⟩ := h
  have hr1 : r = 1 := by
    have h0 : r ≠ 0 := fun e => by
      subst e
      have := hr.1
      simp [usedF, oneJ] at this
    rcases Nat.lt_or_ge 1 r with e | e
    · have := hr.2 1 e
      simp [usedF, oneJ] at this
    · omega
  subst hr1
  rw [List.foldl_cons, List.foldl_nil] at hs
  obtain ⟨y, hy⟩ : ∃ y, y = mvJ a d i (oneJ f t) := ⟨_, rfl⟩
  have hyv : y = ⟨0, stt f a d i, max (stt f a d i) (enn t a d i), 0, 0⟩ := hy
  by_cases hc : tch a i (mvJ a d i (oneJ f t)) = true
  · have hs' : s = ⟨[], oneJ (min (stt f a d i) a) (max (max (stt f a d i) (enn t a d i)) (a + i)), 1, []⟩ := by
      rw [hs]
      unfold stepA
      rw [if_pos hc]
      simp only [mvJ, oneJ, if_true]
      rw [Int.min_comm a, Int.max_comm (a + i)]
      rfl
    subst hs'
    have ho := hI.nil
    subst ho
    rcases hN with ⟨h1, h2, h3⟩ | ⟨hg, _⟩
    · exact ⟨h1, h2⟩
    · simp at hg
  · have hs' : s = ⟨[y], ⟨1, a, a + i, 0, 0⟩, 0, []⟩ := by
      rw [hs]
      unfold stepA
      rw [if_neg hc, ← hy]
      rfl
    subst hs'
    have ho2l := hI.len
    have mem : ∀ z, z ∈ o2 ↔ z = ⟨1, a, a + i, 0, 0⟩ ∨ z = y := fun z => by rw [hI.mem]; simp
    rcases hN with ⟨rfl, _⟩ | ⟨_, p, q, hp, hq, hne, hI2, _, hsl⟩
    · simp only [List.length_cons, List.length_nil] at ho2l
      omega
    · have hnil : ((o2.filter fun x => x.s != p.s).filter fun x => x.s != q.s) = [] := by
        have := two_less hp hq hne
        simp only [List.length_cons, List.length_nil] at ho2l
        exact List.eq_nil_of_length_eq_zero (by omega)
      rw [hnil] at hI2
      have ho := hI2.nil
      have ys : y.s = 0 := by rw [hyv]
      subst ho
      have key : joinJ p q = oneJ (min (stt f a d i) a) (max (max (stt f a d i) (enn t a d i)) (a + i)) ∧ max p.s q.s = 1 ∧ min p.s q.s = 0 := by
        rcases (mem p).1 hp with rfl | rfl
        · rcases (mem q).1 hq with rfl | rfl
          · exact absurd rfl hne
          · rw [hyv]
            refine ⟨?_, (by show max (1 : Int) 0 = 1; decide), (by show min (1 : Int) 0 = 0; decide)⟩
            simp only [joinJ, oneJ]
            rw [Int.min_comm a, Int.max_comm (a + i)]
            rfl
        · rcases (mem q).1 hq with rfl | rfl
          · rw [hyv]
            exact ⟨rfl, (by show max (0 : Int) 1 = 1; decide), (by show min (0 : Int) 1 = 0; decide)⟩
          · exact absurd rfl hne
      obtain ⟨k1, k2, k3⟩ := key
      exact ⟨by rw [k1], by rw [hsl, k2, k3]; rfl⟩
end Go.Proofs.YtpplkjjfaibmmaaDoor
