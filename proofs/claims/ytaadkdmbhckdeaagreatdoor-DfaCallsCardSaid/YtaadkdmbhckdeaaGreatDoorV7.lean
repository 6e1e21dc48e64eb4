/- Dfa: the states behind some, as a map's keys gather them: plain. -/
import Derived.Test.YtaadkdmbhckdeaaGreatDoorV5
namespace Go.Proofs.YtaadkdmbhckdeaaGreatDoor
def addK (ks : List Int) (t : Int) : List Int := if t ∈ ks then ks else ks ++ [t]
def rowK (has : Int → Bool) (ks l : List Int) : List Int := l.foldl (fun ks t => if has t then addK ks t else ks) ks
def setKf (nx : List (List Int)) (has : Int → Bool) (S ks : List Int) : List Int := S.foldl (fun ks q => rowK has ks (nx.getD q.toNat [])) ks
theorem mem_addK {ks : List Int} {t x : Int} : x ∈ addK ks t ↔ x ∈ ks ∨ x = t := by
 unfold addK
 split
 · rename_i h
   exact ⟨.inl, fun h2 => h2.elim id fun e => e ▸ h⟩
 · simp
theorem nodup_addK {ks : List Int} {t : Int} (h : ks.Nodup) : (addK ks t).Nodup := by
 unfold addK
 split
 · exact h
 · rename_i hn
   refine List.nodup_append.2 ⟨h, by simp, ?_⟩
   intro a ha b hb
   rw [List.mem_singleton.1 hb]
   intro e
   exact hn (e ▸ ha)
theorem mem_rowK {has : Int → Bool} : ∀ {l ks : List Int} {x : Int}, x ∈ rowK has ks l ↔ x ∈ ks ∨ (x ∈ l ∧ has x = true)
 | [], ks, x => by simp [rowK]
 | t :: l, ks, x => by
  show x ∈ rowK has (if has t then addK ks t else ks) l ↔ _
  rw [mem_rowK]
  by_cases ht : has t = true
  · rw [if_pos ht, mem_addK, List.mem_cons]
    constructor
    · rintro ((h | rfl) | ⟨h1, h2⟩)
      · exact .inl h
      · exact .inr ⟨.inl rfl, ht⟩
      · exact .inr ⟨.inr h1, h2⟩
    · rintro (h | ⟨rfl | h1, h2⟩)
      · exact .inl (.inl h)
      · exact .inl (.inr rfl)
      · exact .inr ⟨h1, h2⟩
  · rw [if_neg ht, List.mem_cons]
    constructor
    · rintro (h | ⟨h1, h2⟩)
      · exact .inl h
      · exact .inr ⟨.inr h1, h2⟩
    · rintro (h | ⟨rfl | h1, h2⟩)
      · exact .inl h
      · exact absurd h2 ht
      · exact .inr ⟨h1, h2⟩
theorem nodup_rowK {has : Int → Bool} : ∀ {l ks : List Int}, ks.Nodup → (rowK has ks l).Nodup
 | [], ks, h => h
 | t :: l, ks, h => by
  show (rowK has (if has t then addK ks t else ks) l).Nodup
  refine nodup_rowK ?_
  split
  · exact nodup_addK h
  · exact h
theorem mem_setKf {nx : List (List Int)} {has : Int → Bool} : ∀ {S ks : List Int} {x : Int}, x ∈ setKf nx has S ks ↔ x ∈ ks ∨ ((∃ q ∈ S, x ∈ nx.getD q.toNat []) ∧ has x = true)
 | [], ks, x => by simp [setKf]
 | q :: S, ks, x => by
  show x ∈ setKf nx has S (rowK has ks (nx.getD q.toNat [])) ↔ _
  rw [mem_setKf, mem_rowK]
  constructor
  · rintro ((h | ⟨h1, h2⟩) | ⟨⟨p, hp, h1⟩, h2⟩)
    · exact .inl h
    · exact .inr ⟨⟨q, List.mem_cons_self .., h1⟩, h2⟩
    · exact .inr ⟨⟨p, List.mem_cons_of_mem _ hp, h1⟩, h2⟩
  · rintro (h | ⟨⟨p, hp, h1⟩, h2⟩)
    · exact .inl (.inl h)
    · rcases List.mem_cons.1 hp with rfl | hp
      · exact .inl (.inr ⟨h1, h2⟩)
      · exact .inr ⟨⟨p, hp, h1⟩, h2⟩
theorem nodup_setKf {nx : List (List Int)} {has : Int → Bool} : ∀ {S ks : List Int}, ks.Nodup → (setKf nx has S ks).Nodup
 | [], ks, h => h
 | q :: S, ks, h => nodup_setKf (S := S) (nodup_rowK h)
theorem mem_stepF {n : Nat} {nx : List (List Int)} {h : Nat → Nat → Bool} {S : List Int} {b : Nat} {x : Int} : x ∈ stepF n nx h S b ↔ ∃ m : Nat, x = (m : Int) ∧ m < n ∧ (∃ q ∈ S, (m : Int) ∈ nx.getD q.toNat []) ∧ h m b = true := by
 unfold stepF
 simp only [List.mem_map, List.mem_filter, List.mem_range, Bool.and_eq_true, List.any_eq_true, List.contains_iff_mem]
 constructor
 · rintro ⟨m, ⟨h1, h2, h3⟩, rfl⟩
   exact ⟨m, rfl, h1, h2, h3⟩
 · rintro ⟨m, rfl, h1, h2, h3⟩
   exact ⟨m, ⟨h1, h2, h3⟩, rfl⟩
theorem stepF_rising (n : Nat) (nx : List (List Int)) (h : Nat → Nat → Bool) (S : List Int) (b : Nat) : (stepF n nx h S b).Pairwise (· < ·) := by
 unfold stepF
 refine List.pairwise_map.2 ((List.Pairwise.filter _ List.pairwise_lt_range).imp fun h => ?_)
 exact Int.ofNat_lt.2 h
theorem stepF_len (n : Nat) (nx : List (List Int)) (h : Nat → Nat → Bool) (S : List Int) (b : Nat) : (stepF n nx h S b).length ≤ n := by
 unfold stepF
 rw [List.length_map]
 exact Nat.le_trans (List.length_filter_le _ _) (by simp)
theorem stepF_in {n : Nat} {nx : List (List Int)} {h : Nat → Nat → Bool} {S : List Int} {b : Nat} {x : Int} (hx : x ∈ stepF n nx h S b) : 0 ≤ x ∧ x < n := by
 obtain ⟨m, rfl, h1, _⟩ := mem_stepF.1 hx
 omega
theorem setKf_perm {n : Nat} {nx : List (List Int)} {h : Nat → Nat → Bool} {S : List Int} {b : Nat} (hin : ∀ l ∈ nx, ∀ x ∈ l, 0 ≤ x ∧ x < (n : Int)) : (setKf nx (fun t => h t.toNat b) S []).Perm (stepF n nx h S b) := by
 refine (List.perm_ext_iff_of_nodup (nodup_setKf .nil) ((stepF_rising n nx h S b).imp fun h e => by omega)).2 fun x => ?_
 rw [mem_setKf, mem_stepF]
 simp only [List.not_mem_nil, false_or]
 constructor
 · rintro ⟨⟨q, hq, h1⟩, h2⟩
   have hb : 0 ≤ x ∧ x < (n : Int) := by
    rw [List.getD_eq_getElem?_getD] at h1
    cases hg : nx[q.toNat]? with
    | none => rw [hg] at h1; simp at h1
    | some l => rw [hg] at h1; exact hin l (List.mem_of_getElem? hg) x h1
   have e : ((x.toNat : Nat) : Int) = x := by omega
   exact ⟨x.toNat, e.symm, by omega, ⟨q, hq, by rw [e]; exact h1⟩, h2⟩
 · rintro ⟨m, rfl, h1, ⟨q, hq, h2⟩, h3⟩
   exact ⟨⟨q, hq, h2⟩, by rw [Int.toNat_natCast]; exact h3⟩
theorem sort_is {l ss : List Int} (h : ss.Perm l) (hl : l.Pairwise (· < ·)) : ss.mergeSort (fun x y => decide (x ≤ y)) = l := by
 have tr : ∀ a b c : Int, decide (a ≤ b) = true → decide (b ≤ c) = true → decide (a ≤ c) = true := fun a b c h1 h2 => by simp only [decide_eq_true_eq] at *; omega
 have to : ∀ a b : Int, (decide (a ≤ b) || decide (b ≤ a)) = true := fun a b => by simp only [Bool.or_eq_true, decide_eq_true_eq]; omega
 refine List.Perm.eq_of_pairwise (le := fun a b : Int => decide (a ≤ b) = true) (fun a b _ _ h1 h2 => ?_) (List.pairwise_mergeSort tr to ss) (hl.imp fun h => by simp only [decide_eq_true_eq]; omega) ((List.mergeSort_perm ss _).trans h)
 simp only [decide_eq_true_eq] at h1 h2
 omega
end Go.Proofs.YtaadkdmbhckdeaaGreatDoor
