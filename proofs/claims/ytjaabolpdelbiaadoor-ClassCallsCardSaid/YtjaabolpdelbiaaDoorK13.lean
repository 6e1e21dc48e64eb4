/- ClassCalls: the state that is kept across its calls; the calls, told alike. -/
import Derived.Test.YtjaabolpdelbiaaDoorK9
import Derived.Maps.AppendAt
import Derived.OneCell
import Derived.Test.YtjaabolpdelbiaaDoorM6
import Derived.Deep.Cut
import Derived.Test.YtjaabolpdelbiaaDoorCS1
namespace Go.Proofs.YtjaabolpdelbiaaDoor
open Go Go.Proofs Go.RowKit Go.Shelf

theorem row_set {w : World} {base : Nat} {e : TypeId} {size g n cap : Nat} {xs : List Value} (h : w.ownsRow base e size (.slice (some ⟨g, 0, none⟩) n cap) n xs) (i : Nat) (v : Value) :
    (w.setCell ⟨g, i, none⟩ v).ownsRow base e size (.slice (some ⟨g, 0, none⟩) n cap) n (xs.set i v) := by
  refine ⟨by rw [List.length_set]; exact h.1, ?_⟩
  rcases h.2 with ⟨h0, _⟩ | ⟨g', cap', cur, h0, hb, hg, h1, h2, h3, h4⟩
  · cases h0
  · cases h0
    refine .inr ⟨g, cap, cur.setIfInBounds i v, rfl, hb, heap_setCell_same w g i cur e v hg, h1, h2, by simp [h3], ?_⟩
    rw [Array.toList_setIfInBounds, List.take_set, h4]
theorem row_frozen {w : World} {base : Nat} {e : TypeId} {size g n cap : Nat} {xs : List Value} (h : w.ownsRow base e size (.slice (some ⟨g, 0, none⟩) n cap) n xs) (j : Nat) : w.frozen? ⟨g, j, none⟩ = false := by
  rcases h.2 with ⟨h0, _⟩ | ⟨g', cap', cur, h0, hb, hg, _⟩
  · cases h0
  · cases h0
    simp [World.frozen?, hg]
theorem flat_set : ∀ (O : List Kl) (p : Nat), p < O.length → ∀ y : Kl, ((((O.flatMap encC).set (p * 4) (.int .u64 (y.a : Nat))).set (p * 4 + 1) (.int .u64 (y.b : Nat))).set (p * 4 + 2) (.int .u64 (y.c : Nat))).set (p * 4 + 3) (.int .u64 (y.d : Nat)) = (O.set p y).flatMap encC
  | x :: O, 0, _, y => by simp [encC]
  | x :: O, p + 1, h, y => by
    have ih := flat_set O p (by simpa using h) y
    rw [show (p + 1) * 4 = p * 4 + 1 + 1 + 1 + 1 by omega]
    simp only [List.flatMap_cons, encC, List.cons_append, List.nil_append, List.set_cons_succ, show ∀ k, p * 4 + 1 + 1 + 1 + 1 + k = p * 4 + k + 1 + 1 + 1 + 1 from fun k => by omega]
    rw [← ih]

def rpos (l : List Kl) (F : List Nat) (i : Nat) : Nat := F.findIdx fun f => alikeB l f i
def rmore (l : List Kl) (s : List Kl × List Nat) (i : Nat) : List Kl × List Nat := if rpos l s.2 i = s.2.length then (s.1 ++ [Kl.zero], s.2 ++ [i]) else s
def rput (O : List Kl) (p i : Nat) : List Kl := O.set p ((O.getD p Kl.zero).put i)
def rstep (l : List Kl) (s : List Kl × List Nat) (i : Nat) : List Kl × List Nat := (rput (rmore l s i).1 (rpos l s.2 i) i, (rmore l s i).2)
def rfold (l : List Kl) (n : Nat) : List Kl × List Nat := (List.range n).foldl (rstep l) ([], [])
theorem rfold_succ (l : List Kl) (n : Nat) : rfold l (n + 1) = rstep l (rfold l n) n := by simp [rfold, List.range_succ]
theorem rpos_le (l : List Kl) (F : List Nat) (i : Nat) : rpos l F i ≤ F.length := List.findIdx_le_length
structure RInv (n : Nat) (s : List Kl × List Nat) : Prop where
  len : s.1.length = s.2.length
  le : s.2.length ≤ n
  lt : ∀ f ∈ s.2, f < n
theorem rinv_step {l : List Kl} {n : Nat} {s : List Kl × List Nat} (h : RInv n s) : RInv (n + 1) (rstep l s n) := by
  obtain ⟨h1, h2, h3⟩ := h
  unfold rstep rmore
  split
  · exact ⟨by simp [rput, h1], by simp; omega, fun f hf => by
      rcases List.mem_append.1 hf with hf | hf
      · exact Nat.lt_succ_of_lt (h3 f hf)
      · obtain rfl := List.mem_singleton.1 hf; exact Nat.lt_succ_self _⟩
  · exact ⟨by simp [rput, h1], by show s.2.length ≤ n + 1; omega, fun f hf => Nat.lt_succ_of_lt (h3 f hf)⟩
theorem rinv (l : List Kl) : ∀ n, RInv n (rfold l n)
  | 0 => ⟨rfl, Nat.le_refl _, fun f hf => by cases hf⟩
  | n + 1 => by rw [rfold_succ]; exact rinv_step (rinv l n)
/-- The place that is found from j on. -/
def rfrom (l : List Kl) (F : List Nat) (i j : Nat) : Nat := j + (F.drop j).findIdx fun f => alikeB l f i
theorem rfrom_end (l : List Kl) (F : List Nat) (i : Nat) : rfrom l F i F.length = F.length := by simp [rfrom]
theorem rfrom_zero (l : List Kl) (F : List Nat) (i : Nat) : rfrom l F i 0 = rpos l F i := by simp [rfrom, rpos]
theorem rfrom_step (l : List Kl) (F : List Nat) (i j : Nat) (h : j < F.length) : rfrom l F i j = if alikeB l F[j] i then j else rfrom l F i (j + 1) := by
  unfold rfrom
  rw [List.drop_eq_getElem_cons h, List.findIdx_cons]
  split
  · rename_i e; simp [e]
  · rename_i e; simp [e]; omega
end Go.Proofs.YtjaabolpdelbiaaDoor

namespace Go.Proofs.YtjaabolpdelbiaaDoor
open Go
open Kl

theorem alike_iff {l : List Kl} {a b : Nat} : alikeB l a b = true ↔ ∀ c ∈ l, c.has a = c.has b := by simp [alikeB]
theorem alike_refl (l : List Kl) (a : Nat) : alikeB l a a = true := alike_iff.2 fun _ _ => rfl
theorem alike_symm {l : List Kl} {a b : Nat} (h : alikeB l a b = true) : alikeB l b a = true := alike_iff.2 fun c hc => (alike_iff.1 h c hc).symm
theorem alike_trans {l : List Kl} {a b c : Nat} (h : alikeB l a b = true) (h' : alikeB l b c = true) : alikeB l a c = true := alike_iff.2 fun x hx => (alike_iff.1 h x hx).trans (alike_iff.1 h' x hx)
theorem alike_not {l : List Kl} {a b : Nat} (h : alikeB l a b = false) : ∃ c ∈ l, c.has a ≠ c.has b := by
  false_or_by_contra
  rename_i hn
  have : alikeB l a b = true := alike_iff.2 fun c hc => by
    false_or_by_contra
    rename_i he
    exact hn ⟨c, hc, he⟩
  rw [this] at h; cases h

/-- What has been told behind n bytes. -/
structure RI (l : List Kl) (n : Nat) (s : List Kl × List Nat) : Prop where
  len : s.1.length = s.2.length
  lt : ∀ f ∈ s.2, f < n
  pw : s.2.Pairwise fun f g => f < g ∧ alikeB l f g = false
  all : ∀ i, i < n → ∃ f ∈ s.2, f ≤ i ∧ alikeB l f i = true
  has : ∀ k, k < s.2.length → ∀ i, i < 256 → (s.1.getD k zero).has i = (decide (i < n) && alikeB l (s.2.getD k 0) i)
theorem getD_mem {α : Type} {L : List α} {k : Nat} {z : α} (h : k < L.length) : L.getD k z = L[k] := by rw [List.getD_eq_getElem?_getD, List.getElem?_eq_getElem h]; rfl
theorem ri_ne {l : List Kl} {F : List Nat} (h : F.Pairwise fun f g => f < g ∧ alikeB l f g = false) {k p : Nat} (hk : k < F.length) (hp : p < F.length) (hne : k ≠ p) : alikeB l (F.getD k 0) (F.getD p 0) = false := by
  rw [getD_mem hk, getD_mem hp]
  rcases Nat.lt_or_gt_of_ne hne with hl | hl
  · exact (List.pairwise_iff_getElem.1 h k p hk hp hl).2
  · have := (List.pairwise_iff_getElem.1 h p k hp hk hl).2
    cases ha : alikeB l F[k] F[p] with
    | false => rfl
    | true => rw [alike_symm ha] at this; cases this
theorem getD_set {L : List Kl} {p k : Nat} {y : Kl} (hp : p < L.length) : (L.set p y).getD k zero = if k = p then y else L.getD k zero := by
  rw [List.getD_eq_getElem?_getD, List.getD_eq_getElem?_getD, List.getElem?_set]
  by_cases h : k = p
  · subst h; simp [hp]
  · have : ¬ p = k := fun e => h e.symm
    simp [h, this]
theorem ri_step {l : List Kl} {n : Nat} {s : List Kl × List Nat} (hn : n < 256) (h : RI l n s) : RI l (n + 1) (rstep l s n) := by
  obtain ⟨O, F⟩ := s
  obtain ⟨h1, h2, h3, h4, h5⟩ := h
  simp only at h1 h2 h3 h4 h5
  unfold rstep rmore
  simp only
  by_cases hq : rpos l F n = F.length
  · rw [if_pos hq]
    have hno : ∀ f ∈ F, alikeB l f n = false := by
      have := List.findIdx_eq_length.1 hq
      exact fun f hf => by simpa using this f hf
    have hlt : F.length < (O ++ [zero]).length := by simp [h1]
    have hz : (O ++ [zero]).getD F.length zero = zero := by rw [getD_mem hlt]; simp [← h1]
    refine ⟨by simp [rput, h1], fun f hf => ?_, ?_, fun i hi => ?_, fun k hk i hi => ?_⟩
    · rcases List.mem_append.1 hf with hf | hf
      · exact Nat.lt_succ_of_lt (h2 f hf)
      · obtain rfl := List.mem_singleton.1 hf; exact Nat.lt_succ_self _
    · show (F ++ [n]).Pairwise _
      rw [List.pairwise_append]
      exact ⟨h3, List.pairwise_singleton _ _, fun f hf g hg => by obtain rfl := List.mem_singleton.1 hg; exact ⟨h2 f hf, hno f hf⟩⟩
    · by_cases e : i = n
      · subst e; exact ⟨i, List.mem_append.2 (.inr (List.mem_singleton.2 rfl)), Nat.le_refl _, alike_refl _ _⟩
      · obtain ⟨f, hf, h6⟩ := h4 i (by omega)
        exact ⟨f, List.mem_append.2 (.inl hf), h6⟩
    · show ((rput (O ++ [zero]) (rpos l F n) n).getD k zero).has i = (decide (i < n + 1) && alikeB l ((F ++ [n]).getD k 0) i)
      unfold rput
      rw [hq, hz, getD_set hlt]
      have hk : k < F.length + 1 := by simpa using hk
      by_cases e : k = F.length
      · subst e
        rw [if_pos rfl, has_put _ _ _ hi, has_zero, getD_mem (by simp)]
        simp only [List.getElem_append_right (Nat.le_refl _), Nat.sub_self, List.getElem_cons_zero, Bool.false_or]
        by_cases e2 : i = n
        · subst e2; simp [alike_refl]
        · by_cases e3 : i < n
          · obtain ⟨f, hf, _, h6⟩ := h4 i e3
            have : alikeB l n i = false := by
              cases ha : alikeB l n i with
              | false => rfl
              | true => have := hno f hf; rw [alike_trans h6 (alike_symm ha)] at this; cases this
            simp [e2, this]
          · have : ¬ i < n + 1 := by omega
            simp [e2, this]
      · have hkl : k < F.length := by omega
        rw [if_neg e, getD_mem (by simp; omega), List.getElem_append_left (by omega), getD_mem (L := F ++ [n]) (by simp; omega), List.getElem_append_left hkl]
        have := h5 k hkl i hi
        rw [getD_mem (by omega), getD_mem hkl] at this
        rw [this]
        by_cases e2 : i = n
        · subst e2
          rw [hno _ (List.getElem_mem hkl)]; simp
        · have : (i < n + 1) = (i < n) := by apply propext; omega
          simp [this]
  · rw [if_neg hq]
    have hpl : rpos l F n < F.length := by have := rpos_le l F n; omega
    have hap : alikeB l (F.getD (rpos l F n) 0) n = true := by
      rw [getD_mem hpl]
      exact List.findIdx_getElem (w := hpl)
    refine ⟨by simp [rput, h1], fun f hf => Nat.lt_succ_of_lt (h2 f hf), h3, fun i hi => ?_, fun k hk i hi => ?_⟩
    · by_cases e : i = n
      · subst e
        refine ⟨F.getD (rpos l F i) 0, by rw [getD_mem hpl]; exact List.getElem_mem hpl, ?_, hap⟩
        exact Nat.le_of_lt (h2 _ (by rw [getD_mem hpl]; exact List.getElem_mem hpl))
      · exact h4 i (by omega)
    · show ((rput O (rpos l F n) n).getD k zero).has i = (decide (i < n + 1) && alikeB l (F.getD k 0) i)
      have hk : k < F.length := hk
      unfold rput
      rw [getD_set (by omega)]
      by_cases e : k = rpos l F n
      · rw [if_pos e, has_put _ _ _ hi, h5 _ hpl i hi, ← e]
        rw [← e] at hap
        by_cases e2 : i = n
        · subst e2; rw [hap]; simp
        · have : (i < n + 1) = (i < n) := by apply propext; omega
          simp [e2, this]
      · rw [if_neg e, h5 k hk i hi]
        by_cases e2 : i = n
        · subst e2
          have : alikeB l (F.getD k 0) i = false := by
            cases ha : alikeB l (F.getD k 0) i with
            | false => rfl
            | true =>
              have := ri_ne h3 hk hpl e
              rw [alike_trans ha (alike_symm hap)] at this
              cases this
          rw [this]; simp
        · have : (i < n + 1) = (i < n) := by apply propext; omega
          simp [this]
theorem ri (l : List Kl) : ∀ n, n ≤ 256 → RI l n (rfold l n)
  | 0, _ => ⟨rfl, (fun f hf => by cases hf), List.Pairwise.nil, (fun i hi => by omega), (fun k hk => by cases hk)⟩
  | n + 1, h => by rw [rfold_succ]; exact ri_step (by omega) (ri l n (by omega))
theorem sorted_ext {α : Type} (key : α → Nat) : ∀ l m : List α, l.Pairwise (fun x y => key x < key y) → m.Pairwise (fun x y => key x < key y) → (∀ x, x ∈ l ↔ x ∈ m) → l = m
  | [], [], _, _, _ => rfl
  | [], y :: m, _, _, h => by have := (h y).2 List.mem_cons_self; cases this
  | x :: l, [], _, _, h => by have := (h x).1 List.mem_cons_self; cases this
  | x :: l, y :: m, hl, hm, h => by
    obtain ⟨hx, hl2⟩ := List.pairwise_cons.1 hl
    obtain ⟨hy, hm2⟩ := List.pairwise_cons.1 hm
    have hxy : x = y := by
      rcases List.mem_cons.1 ((h x).1 List.mem_cons_self) with e | e
      · exact e
      · rcases List.mem_cons.1 ((h y).2 List.mem_cons_self) with e' | e'
        · exact e'.symm
        · have := hy x e; have := hx y e'; omega
    subst hxy
    rw [sorted_ext key l m hl2 hm2 fun z => ⟨fun hz => by
      rcases List.mem_cons.1 ((h z).1 (List.mem_cons_of_mem _ hz)) with e | e
      · subst e; have := hx z hz; omega
      · exact e, fun hz => by
      rcases List.mem_cons.1 ((h z).2 (List.mem_cons_of_mem _ hz)) with e | e
      · subst e; have := hy z hz; omega
      · exact e⟩]
theorem rsplit_parted (l : List Kl) : Parted l (rfold l 256).1 ∧ (rfold l 256).1.Pairwise fun x y => x.low < y.low := by
  obtain ⟨h1, h2, h3, h4, h5⟩ := ri l 256 (Nat.le_refl _)
  generalize rfold l 256 = s at *
  obtain ⟨O, F⟩ := s
  simp only at h1 h2 h3 h4 h5 ⊢
  have hh : ∀ k (hk : k < O.length) i, i < 256 → O[k].has i = alikeB l (F[k]'(by omega)) i := fun k hk i hi => by
    have := h5 k (by omega) i hi
    rw [getD_mem hk, getD_mem (by omega)] at this
    rw [this]; simp [hi]
  have hlow : ∀ k (hk : k < O.length), O[k].low = F[k]'(by omega) := fun k hk => by
    have hF : F[k]'(by omega) < 256 := h2 _ (List.getElem_mem _)
    have hs : O[k].has (F[k]'(by omega)) = true := by rw [hh k hk _ hF, alike_refl]
    obtain ⟨hm, hle⟩ := low_mem hs hF
    obtain ⟨hl, hl2⟩ := mem_by.1 hm
    rw [hh k hk _ hl] at hl2
    obtain ⟨f, hf, hfl, hfa⟩ := h4 _ hl
    obtain ⟨m, hm', rfl⟩ := List.getElem_of_mem hf
    have hmk : m = k := by
      false_or_by_contra
      rename_i hne
      have := ri_ne h3 hm' (show k < F.length by omega) hne
      rw [getD_mem hm', getD_mem (by omega), alike_trans hfa (alike_symm hl2)] at this
      cases this
    subst hmk
    omega
  refine ⟨⟨fun p hp => ?_, fun p hp i j hi hj h6 h7 c hc => ?_, ?_, fun i hi => ?_⟩, ?_⟩
  · obtain ⟨k, hk, rfl⟩ := List.getElem_of_mem hp
    have hF : F[k]'(by omega) < 256 := h2 _ (List.getElem_mem _)
    exact ⟨_, hF, by rw [hh k hk _ hF, alike_refl]⟩
  · obtain ⟨k, hk, rfl⟩ := List.getElem_of_mem hp
    rw [hh k hk _ hi] at h6
    rw [hh k hk _ hj] at h7
    exact alike_iff.1 (alike_trans (alike_symm h6) h7) c hc
  · rw [List.pairwise_iff_getElem]
    intro k m hk hm hkm i j hi hj h6 h7
    rw [hh k hk _ hi] at h6
    rw [hh m hm _ hj] at h7
    have hne := ri_ne h3 (show k < F.length by omega) (show m < F.length by omega) (by omega)
    rw [getD_mem (by omega), getD_mem (by omega)] at hne
    have hij : alikeB l i j = false := by
      cases ha : alikeB l i j with
      | false => rfl
      | true => rw [alike_trans (alike_trans h6 ha) (alike_symm h7)] at hne; cases hne
    exact alike_not hij
  · obtain ⟨f, hf, _, hfa⟩ := h4 i hi
    obtain ⟨k, hk, rfl⟩ := List.getElem_of_mem hf
    exact ⟨O[k]'(by omega), List.getElem_mem _, by rw [hh k (by omega) i hi, hfa]⟩
  · rw [List.pairwise_iff_getElem]
    intro k m hk hm hkm
    rw [hlow k hk, hlow m hm]
    exact (List.pairwise_iff_getElem.1 h3 k m (by omega) (by omega) hkm).1
theorem parted_eq {l d e : List Kl} (hd : Parted l d) (he : Parted l e) : ∀ x, x ∈ d → x ∈ e := fun x hx => by
  obtain ⟨i, hi, hh⟩ := hd.some x hx
  obtain ⟨y, hy, hyi⟩ := he.all i hi
  have key : ∀ {d : List Kl}, Parted l d → ∀ x, x ∈ d → x.has i = true → ∀ k, k < 256 → x.has k = alikeB l i k := fun {d} hd x hx hh k hk => by
    cases hxk : x.has k with
    | true => exact (alike_iff.2 fun c hc => hd.same x hx i k hi hk hh hxk c hc).symm
    | false =>
      cases ha : alikeB l i k with
      | false => rfl
      | true =>
        obtain ⟨z, hz, hzk⟩ := hd.all k hk
        obtain ⟨m, hm, rfl⟩ := List.getElem_of_mem hx
        obtain ⟨m', hm', rfl⟩ := List.getElem_of_mem hz
        have hne : m ≠ m' := by intro e; subst e; rw [hxk] at hzk; cases hzk
        rcases Nat.lt_or_gt_of_ne hne with hl | hl
        · obtain ⟨c, hc, hn⟩ := List.pairwise_iff_getElem.1 hd.apart m m' hm hm' hl i k hi hk hh hzk
          exact (hn (alike_iff.1 ha c hc)).elim
        · obtain ⟨c, hc, hn⟩ := List.pairwise_iff_getElem.1 hd.apart m' m hm' hm hl k i hk hi hzk hh
          exact (hn (alike_iff.1 ha c hc).symm).elim
  have : x = y := ext_has fun k hk => by rw [key hd x hx hh k hk, key he y hy hyi k hk]
  rw [this]; exact hy
theorem rsplit_eq {l d : List Kl} (hd : Parted l d) (hs : d.Pairwise fun x y => x.low ≤ y.low) : d = (rfold l 256).1 := by
  obtain ⟨h1, h2⟩ := rsplit_parted l
  have hlow := (lawful hd hs).low
  exact sorted_ext Kl.low _ _ (List.pairwise_iff_getElem.2 fun i j hi hj hij => hlow i j hj hij) h2 fun x => ⟨parted_eq hd h1 x, parted_eq h1 hd x⟩
theorem rsplit_pos (l : List Kl) : 0 < (rfold l 256).1.length := by
  obtain ⟨p, hp, _⟩ := (rsplit_parted l).1.all 0 (by decide)
  exact List.length_pos_of_mem hp
theorem rsplit_len (l : List Kl) : (rfold l 256).1.length ≤ 256 := by
  have := rinv l 256
  have h1 := this.len; have h2 := this.le
  omega
end Go.Proofs.YtjaabolpdelbiaaDoor

namespace Go.Proofs.YtjaabolpdelbiaaDoor
open Go Go.Proofs Go.RowKit Go.Shelf
attribute [local go_sem] Oper.semAt_some

theorem sepne {vo vf : Value} (h : ∀ g, vo.ownBlock = some g → vf.ownBlock ≠ some g) : vf.ownBlock = none ∨ vf.ownBlock ≠ vo.ownBlock := by
  cases hv : vf.ownBlock with
  | none => exact .inl rfl
  | some k => exact .inr fun e => h k e.symm hv
abbrev enc8 (x : Nat) : Value := .int .u8 (x : Nat)
set_option maxRecDepth 100000 in
set_option maxHeartbeats 4000000 in
theorem rSplit_calls (l : List Kl) (hl : l.length ≤ 8) (la : Option Addr) (c : Nat) (w : World)
    (hL : l ≠ [] → ∃ B off, la = some ⟨B, off, none⟩ ∧ B < w.heap.size ∧ RowAt w B off l) :
    Calls Tryd.prog 36 #[.slice la l.length c] w fun e w' => (∃ g oc, e = .returned (.slice (some ⟨g, 0, none⟩) (rfold l 256).1.length oc) ∧ g < w'.heap.size ∧ RowAt w' g 0 (rfold l 256).1) ∧ Below w.heap.size w w' := by
  obtain ⟨ti, hi, hz0, hz1, hz2⟩ := info_parts info27
  obtain ⟨i0, hi', hz0', hz1', hz2'⟩ := info_parts info5
  go_enter Tryd.func36, Tryd.ntmps36
  go_wp2
  obtain ⟨wo, rfl⟩ : ∃ wo : World, wo = w := ⟨_, rfl⟩
  go_loopw [3, 4, 5] (fun vo vf vi wr => ∃ n : Nat, n ≤ 256 ∧ vi = .int .i64 n ∧ wr.ownsRow wo.heap.size 27 4 vo (rfold l n).1.length ((rfold l n).1.flatMap encC) ∧ wr.ownsRow wo.heap.size 5 1 vf (rfold l n).2.length ((rfold l n).2.map enc8) ∧ (∀ g, vo.ownBlock = some g → vf.ownBlock ≠ some g) ∧ Below wo.heap.size wo wr)
    (fun _ _ vi _ => 256 - (intOf vi).toNat)
  case atStart => exact ⟨0, Nat.zero_le _, rfl, World.ownsRow_nil _ _ _ _, World.ownsRow_nil _ _ _ _, (fun g h => by cases h), Below.refl _ _⟩
  case round =>
    obtain ⟨n, hn, rfl, hro, hrf, hsep, hB⟩ := hrel
    by_cases hlt : n < 256
    · have hst := rfold_succ l n
      obtain ⟨hlen, hle, hff⟩ := rinv l n
      have HST := Lib.hid hst
      clear hst
      generalize rfold l n = s at *
      obtain ⟨O, F⟩ := s
      simp only at hro hrf hlen hle hff
      obtain ⟨oa, oc, rfl⟩ := row_shape hro
      obtain ⟨fa, fc, rfl⟩ := row_shape hrf
      rw [hlen] at hro hsep ⊢
      have HLEN := Lib.hid hlen
      have HFF := Lib.hid hff
      clear hlen hff
      have hnw : IntKind.u8.wrap (n : Int) = n := by rw [IntKind.wrap_u8]; omega
      have hd256 : decide ((n : Int) < 256) = true := by simp; omega
      have hw1 : wrap64 ((F.length : Int) - 1) = (F.length : Int) - 1 := by unfold wrap64; omega
      go_wp2
      obtain ⟨W1, hW1⟩ : ∃ W1, W1 = wr := ⟨_, rfl⟩
      rw [← hW1] at hro hrf hB
      have hro1 := fun W (h : Below W1.heap.size W1 W) => row_below4 hro h (fun g e => (hro.lt g e).2)
      have hrf1 := fun W (h : Below W1.heap.size W1 W) => row_below4 hrf h (fun g e => (hrf.lt g e).2)
      have hB1 : Below W1.heap.size W1 wr := by rw [hW1]; exact Below.refl _ _
      clear hW1
      have hs1 := hB.size
      go_loopw [6, 7] (fun va vk wr => ∃ j : Nat, j ≤ F.length ∧ vk = .int .i64 ((j : Int) - 1) ∧ va = .int .i64 (rfrom l F n j : Nat) ∧ Below W1.heap.size W1 wr)
        (fun _ vk _ => (intOf vk + 1).toNat)
      case atStart => exact ⟨F.length, Nat.le_refl _, rfl, by rw [rfrom_end], hB1⟩
      case round =>
        obtain ⟨j, hj, rfl, rfl, hBj⟩ := hrel
        cases j with
        | succ j =>
          have hjl : j < F.length := by omega
          have hrs := rfrom_step l F n j hjl
          have hfl := HFF.out F[j] (List.getElem_mem hjl)
          obtain ⟨fg, rfl⟩ := row_addr4 (hrf1 _ hBj) (by omega)
          have hcell : wr.cell? ⟨fg, j, none⟩ = some (.int .u8 (F[j] : Nat)) := by rw [(hrf1 _ hBj).cellAt _ (by omega)]; simp [hjl]
          have hal := alike_calls l hl la c F[j] n (by omega) hlt wr (fun h => by
            obtain ⟨B, off, e, h1, h2⟩ := hL h
            exact ⟨B, off, e, by have := hBj.size; omega, h2.below (hB.trans (hBj.mono (by omega))) h1⟩)
          generalize F[j] = f at *
          have hj1 : ((j + 1 : Nat) : Int) - 1 = (j : Int) := by omega
          have hj0 : (0 : Int) ≤ (j : Int) := by omega
          have hj2 : (j : Int) < (F.length : Int) := by omega
          rw [hj1]
          have hsj := hBj.size
          cases hap : alikeB l f n with
          | true =>
            rw [hap] at hal hrs
            have HRS := Lib.hid hrs
            clear hrs hap
            go_wp2_with (go_at_call 46; refine hal.mono ?_; rintro e Wd ⟨rfl, hBd⟩)
            go_roundw
            case rel => exact ⟨j, by omega, by simp, by rw [HRS.out]; rfl, hBj.trans (hBd.mono hsj)⟩
            case measure => simp [intOf]
          | false =>
            rw [hap] at hal hrs
            have HRS := Lib.hid hrs
            clear hrs hap
            go_wp2_with (go_at_call 46; refine hal.mono ?_; rintro e Wd ⟨rfl, hBd⟩)
            go_roundw
            case rel => exact ⟨j, by omega, by simp, by rw [HRS.out]; rfl, hBj.trans (hBd.mono hsj)⟩
            case measure => simp [intOf]
        | zero =>
          have hz : (((0 : Nat) : Int) - 1) = -1 := by omega
          rw [hz, rfrom_zero]
          have hrl := rpos_le l F n
          have hBw : Below wo.heap.size wo wr := hB.trans (hBj.mono (by omega))
          have hroj := hro1 _ hBj
          have hrfj := hrf1 _ hBj
          have hsj := hBj.size
          clear hro1 hrf1 hro hrf
          have HRL := Lib.hid (show rpos l F n = rpos l F n from rfl)
          obtain ⟨p, hp⟩ : ∃ p, p = rpos l F n := ⟨_, rfl⟩
          rw [← hp] at hrl ⊢
          have HP := Lib.hid hp
          clear hp HRL
          by_cases hq : p = F.length
          · have hqi : ((p : Int) == (F.length : Int)) = true := by rw [hq]; simp
            have HM : Hid (rmore l (O, F) n = (O ++ [Kl.zero], F ++ [n])) := Lib.hid (if_pos (by rw [← HP.out]; exact hq))
            have hpl : p ≤ F.length := by omega
            clear hq
            go_upto_region 13 with fail
            obtain ⟨vo, hvo⟩ : ∃ vo, vo = Value.slice oa F.length oc := ⟨_, rfl⟩
            obtain ⟨vf, hvf⟩ : ∃ vf, vf = Value.slice fa F.length fc := ⟨_, rfl⟩
            rw [← hvo] at hroj hsep ⊢
            rw [← hvf] at hrfj hsep ⊢
            clear hvo hvf
            have hne1 := sepne hsep
            have hrlt := hrfj.lt
            have hst1 : Below wo.heap.size wo (wr.alloc (.cells (encC Kl.zero).toArray 27)) := hBw.alloc (by omega) _
            go_wp2_with (first
              | (at_builtin; refine wpList_append_own_at _ rfl _ _ 22 rfl wo.heap.size 27 ti (.agg #[.int .u64 0, .int .u64 0, .int .u64 0, .int .u64 0]) 4 32 Tryd.underlying22 hi hz0 hz1 hz2 rfl (by decide) _ F.length _ rfl (hroj.alloc _) ⟨wr.heap.size, 0, none⟩ 1 1 (encC Kl.zero) rfl rfl (cells_new wr Kl.zero) (encC_one Kl.zero) (by unfold maxLen; omega) (by omega) (by simp; omega) ?_; intro v1 w1 hown1 hgrow1 _ hob1; have hrf1 := (hrfj.alloc (.cells (encC Kl.zero).toArray 27)).kept hgrow1 hne1; have hB1 := hst1.grown hgrow1 (by simp; omega) fun k hk => (hroj.lt k hk).1)
              | (at_builtin; refine wpList_append_own_at _ rfl _ _ 35 rfl wo.heap.size 5 i0 (.int .u8 0) 1 1 Tryd.underlying35 hi' hz0' hz1' hz2' rfl (by decide) _ F.length _ rfl (hrf1.alloc _) ⟨w1.heap.size, 0, none⟩ 1 1 [enc8 n] rfl rfl (cell_one_new _ _ _) (by simp [Value.oneCell']) (by unfold maxLen; omega) (by omega) (by have := hB1.size; simp; omega) ?_; intro v2 w2 hown2 hgrow2 _ hob2))
            obtain ⟨g, cc, rfl⟩ := ownsRow_succ hown1
            have hg1 := (hown1.lt g rfl).2
            have hne2 : ∀ k, vf.ownBlock = some k → g ≠ k := fun k hk e => by
              subst e
              have h1 := (hrlt g hk).2
              rcases hob1 with h | h
              · exact hsep g h.symm hk
              · have h2 := Option.some.inj h
                simp at h2
                omega
            have hro2 := (hown1.alloc (.cells #[.int .u8 (n : Nat)] 5)).kept (row := vf.ownBlock) hgrow2 (.inr fun e => hne2 g e.symm rfl)
            have hsep2 : ∀ g', (Value.slice (some ⟨g, 0, none⟩) (F.length + 1) cc).ownBlock = some g' → v2.ownBlock ≠ some g' := fun g' hg' e => by
              obtain rfl : g = g' := Option.some.inj hg'
              rcases hob2 with h | h
              · exact hne2 g (h.symm.trans e) rfl
              · have h2 := Option.some.inj (h.symm.trans e)
                simp at h2
                omega
            have hB2 := (hB1.alloc (by have := hB1.size; omega) (.cells #[.int .u8 (n : Nat)] 5)).grown (row := vf.ownBlock) hgrow2 (by have := hB1.size; simp; omega) fun k hk => (hrf1.lt k hk).1
            have hrf2 := hown2
            rw [← flat_one] at hro2
            obtain ⟨O', hOE⟩ : ∃ O', O' = O ++ [Kl.zero] := ⟨_, rfl⟩
            rw [← hOE] at hro2 HM
            have hO' : Hid (O'.length = F.length + 1) := Lib.hid (by rw [hOE, List.length_append, HLEN.out]; rfl)
            have hlO' := hO'.out
            clear hOE hroj hrfj hown1 hown2 hob1 hob2 hgrow1 hgrow2 hrf1 hB1 hne2 hrlt hne1 hst1
            have hpM : p < O'.length := by omega
            have hx := (row_cells hro2).c4 hpM
            rw [Nat.zero_add] at hx
            have hgx : O'.getD p Kl.zero = O'[p] := by rw [List.getD_eq_getElem?_getD, List.getElem?_eq_getElem hpM]; rfl
            have hwk := rWith_k O'[p] n hlt
            obtain ⟨y, hy⟩ : ∃ y, y = O'[p].put n := ⟨_, rfl⟩
            rw [← hy] at hwk
            have HY : Hid (rput O' p n = O'.set p y) := Lib.hid (by unfold rput; rw [hgx, hy])
            clear hy hgx
            generalize O'[p] = x at *
            obtain ⟨c0, c1, c2, c3⟩ := hx
            have hp0 : (0 : Int) ≤ (p : Int) := by omega
            have hp1 : (p : Int) < (F.length : Int) + 1 := by omega
            have hgl := hro2.lt _ rfl
            go_wp2_with (go_at_call 45; refine (hwk _).mono ?_; rintro e Wd ⟨rfl, hBd⟩; have hrod := row_below4 hro2 hBd (fun g e => (hro2.lt g e).2); have f0 := row_frozen hrod (p * 4); have f1 := row_frozen hrod (p * 4 + 1); have f2 := row_frozen hrod (p * 4 + 2); have f3 := row_frozen hrod (p * 4 + 3); have hq4 := (row_cells hrod).c4 hpM; rw [Nat.zero_add] at hq4; obtain ⟨q0, q1, q2, q3⟩ := hq4)
            have hrow := row_set (row_set (row_set (row_set hrod (p * 4) (.int .u64 (y.a : Nat))) (p * 4 + 1) (.int .u64 (y.b : Nat))) (p * 4 + 2) (.int .u64 (y.c : Nat))) (p * 4 + 3) (.int .u64 (y.d : Nat))
            rw [flat_set O' p hpM y] at hrow
            have hBfin := ((((hB2.trans (hBd.mono (by have := hB2.size; omega))).setCell (p := ⟨g, p * 4, none⟩) hgl.1 (.int .u64 (y.a : Nat))).setCell (p := ⟨g, p * 4 + 1, none⟩) hgl.1 (.int .u64 (y.b : Nat))).setCell (p := ⟨g, p * 4 + 2, none⟩) hgl.1 (.int .u64 (y.c : Nat))).setCell (p := ⟨g, p * 4 + 3, none⟩) hgl.1 (.int .u64 (y.d : Nat))
            have hrf3 := (row_below4 hrf2 hBd (fun g e => (hrf2.lt g e).2))
            have hrf4 := ownsRow_setCell_other (ownsRow_setCell_other (ownsRow_setCell_other (ownsRow_setCell_other hrf3 (a := ⟨g, p * 4, none⟩) (fun e => hsep2 g rfl e) (.int .u64 (y.a : Nat))) (a := ⟨g, p * 4 + 1, none⟩) (fun e => hsep2 g rfl e) (.int .u64 (y.b : Nat))) (a := ⟨g, p * 4 + 2, none⟩) (fun e => hsep2 g rfl e) (.int .u64 (y.c : Nat))) (a := ⟨g, p * 4 + 3, none⟩) (fun e => hsep2 g rfl e) (.int .u64 (y.d : Nat))
            go_roundw
            case rel =>
              have hst : rfold l (n + 1) = (O'.set p y, F ++ [n]) := by
                rw [HST.out]
                unfold rstep
                rw [show rmore l (O, F) n = (O', F ++ [n]) from HM.out]
                show (rput O' (rpos l F n) n, F ++ [n]) = _
                rw [← HP.out, HY.out]
              refine ⟨n + 1, by omega, by simp, ?_⟩
              rw [hst]
              exact ⟨by simpa [hO'.out] using hrow, by simpa using hrf4, hsep2, hBfin⟩
            case measure => simp [intOf]; omega
          · have hqi : ((p : Int) == (F.length : Int)) = false := by simp; omega
            have HM : Hid (rmore l (O, F) n = (O, F)) := Lib.hid (if_neg (by rw [← HP.out]; exact hq))
            have hpl : p < F.length := by omega
            obtain ⟨g, rfl⟩ := row_addr4 hroj (by omega)
            obtain ⟨O', hOE⟩ : ∃ O', O' = O := ⟨_, rfl⟩
            have hro2 := hroj
            have hrf2 := hrfj
            have hsep2 := hsep
            have hB2 := hBw
            rw [← hOE] at hro2
            have HM : Hid (rmore l (O, F) n = (O', F)) := Lib.hid (by rw [HM.out, hOE])
            have hO' : Hid (O'.length = F.length) := Lib.hid (by rw [hOE]; exact HLEN.out)
            have hlO' := hO'.out
            clear hOE hroj hrfj
            have hpM : p < O'.length := by omega
            have hx := (row_cells hro2).c4 hpM
            rw [Nat.zero_add] at hx
            have hgx : O'.getD p Kl.zero = O'[p] := by rw [List.getD_eq_getElem?_getD, List.getElem?_eq_getElem hpM]; rfl
            have hwk := rWith_k O'[p] n hlt
            obtain ⟨y, hy⟩ : ∃ y, y = O'[p].put n := ⟨_, rfl⟩
            rw [← hy] at hwk
            have HY : Hid (rput O' p n = O'.set p y) := Lib.hid (by unfold rput; rw [hgx, hy])
            clear hy hgx
            generalize O'[p] = x at *
            obtain ⟨c0, c1, c2, c3⟩ := hx
            have hp0 : (0 : Int) ≤ (p : Int) := by omega
            have hp1 : (p : Int) < (F.length : Int) := by omega
            have hgl := hro2.lt _ rfl
            go_wp2_with (go_at_call 45; refine (hwk _).mono ?_; rintro e Wd ⟨rfl, hBd⟩; have hrod := row_below4 hro2 hBd (fun g e => (hro2.lt g e).2); have f0 := row_frozen hrod (p * 4); have f1 := row_frozen hrod (p * 4 + 1); have f2 := row_frozen hrod (p * 4 + 2); have f3 := row_frozen hrod (p * 4 + 3); have hq4 := (row_cells hrod).c4 hpM; rw [Nat.zero_add] at hq4; obtain ⟨q0, q1, q2, q3⟩ := hq4)
            have hrow := row_set (row_set (row_set (row_set hrod (p * 4) (.int .u64 (y.a : Nat))) (p * 4 + 1) (.int .u64 (y.b : Nat))) (p * 4 + 2) (.int .u64 (y.c : Nat))) (p * 4 + 3) (.int .u64 (y.d : Nat))
            rw [flat_set O' p hpM y] at hrow
            have hBfin := ((((hB2.trans (hBd.mono (by have := hB2.size; omega))).setCell (p := ⟨g, p * 4, none⟩) hgl.1 (.int .u64 (y.a : Nat))).setCell (p := ⟨g, p * 4 + 1, none⟩) hgl.1 (.int .u64 (y.b : Nat))).setCell (p := ⟨g, p * 4 + 2, none⟩) hgl.1 (.int .u64 (y.c : Nat))).setCell (p := ⟨g, p * 4 + 3, none⟩) hgl.1 (.int .u64 (y.d : Nat))
            have hrf3 := (row_below4 hrf2 hBd (fun g e => (hrf2.lt g e).2))
            have hrf4 := ownsRow_setCell_other (ownsRow_setCell_other (ownsRow_setCell_other (ownsRow_setCell_other hrf3 (a := ⟨g, p * 4, none⟩) (fun e => hsep2 g rfl e) (.int .u64 (y.a : Nat))) (a := ⟨g, p * 4 + 1, none⟩) (fun e => hsep2 g rfl e) (.int .u64 (y.b : Nat))) (a := ⟨g, p * 4 + 2, none⟩) (fun e => hsep2 g rfl e) (.int .u64 (y.c : Nat))) (a := ⟨g, p * 4 + 3, none⟩) (fun e => hsep2 g rfl e) (.int .u64 (y.d : Nat))
            go_roundw
            case rel =>
              have hst : rfold l (n + 1) = (O'.set p y, F) := by
                rw [HST.out]
                unfold rstep
                rw [show rmore l (O, F) n = (O', F) from HM.out]
                show (rput O' (rpos l F n) n, F) = _
                rw [← HP.out, HY.out]
              refine ⟨n + 1, by omega, by simp, ?_⟩
              rw [hst]
              exact ⟨by simpa [hO'.out] using hrow, by simpa using hrf4, hsep2, hBfin⟩
            case measure => simp [intOf]; omega
    · obtain rfl : n = 256 := by omega
      have hpos : 0 < (rfold l 256).1.length := rsplit_pos l
      obtain ⟨oa, oc, rfl⟩ := row_shape hro
      obtain ⟨g, rfl⟩ := row_addr4 hro hpos
      have hgl := hro.lt g rfl
      go_wp2
      go_ret
      exact ⟨⟨g, oc, rfl, hgl.2, row_cells hro⟩, hB⟩
end Go.Proofs.YtjaabolpdelbiaaDoor

namespace Go.Proofs.YtjaabolpdelbiaaDoor
open Go Go.Proofs Go.RowKit Go.Shelf

/-- A world behind some calls: two classes in boxes, the table, what was there. -/
structure Env (w : World) (x y : Kl) (b6 b7 : Nat) (W : World) : Prop where
  b : Below w.heap.size w W
  hx : KAt W b6 0 x
  hy : KAt W b7 0 y
  l6 : b6 < W.heap.size
  l7 : b7 < W.heap.size
  g : AX.GlOk cx (AX.prOf W)
theorem Env.below {w W W' : World} {x y : Kl} {b6 b7 : Nat} (h : Env w x y b6 b7 W) (hB : Below W.heap.size W W') : Env w x y b6 b7 W' :=
  ⟨h.b.trans (hB.mono h.b.size), h.hx.below hB h.l6, h.hy.below hB h.l7, Nat.lt_of_lt_of_le h.l6 hB.size, Nat.lt_of_lt_of_le h.l7 hB.size, h.g.of_prot fun k ob hk => (hB.block k (Array.getElem?_eq_some_iff.1 hk).1).trans hk⟩
theorem Env.tab {w W : World} {x y : Kl} {b6 b7 : Nat} (h : Env w x y b6 b7 W) : TabAt W ∧ 0 < W.heap.size := tab_of h.g
theorem lives_at {W : World} (hg : AX.GlOk cx (AX.prOf W)) : Calls Tryd.prog 9 #[] W fun e w' => e = .returned (.bool true) ∧ Below W.heap.size W w' := by
  refine (callsIn_wide.1 (ans_lives.2 (fun _ => none) W #[] hg .nil)).mono ?_
  rintro e w' ⟨v', rfl, hv, hk⟩
  obtain rfl := hv.bool_inv
  exact ⟨rfl, hk.below⟩
theorem cmp_k (x y : Kl) {W : World} (hg : AX.GlOk cx (AX.prOf W)) : Calls Tryd.prog 23 #[.agg #[.int .u64 (x.a : Nat), .int .u64 (x.b : Nat), .int .u64 (x.c : Nat), .int .u64 (x.d : Nat)], .agg #[.int .u64 (y.a : Nat), .int .u64 (y.b : Nat), .int .u64 (y.c : Nat), .int .u64 (y.d : Nat)]] W fun e w' => e = .returned (.int .i64 (AX.cmpB x.by_ y.by_)) ∧ Below W.heap.size W w' := by
  refine (callsIn_wide.1 ((ans_compare x.a x.b x.c x.d y.a y.b y.c y.d x.h y.h).2 (fun _ => none) W #[cV x.a x.b x.c x.d, cV y.a y.b y.c y.d] hg (.cons (cRel _ _ _ _ _) (.cons (cRel _ _ _ _ _) .nil)))).mono ?_
  rintro e w' ⟨v', rfl, hv, hk⟩
  obtain rfl := hv.int_inv
  exact ⟨rfl, hk.below⟩
theorem of_k (s : ByteArray) (hs : s.size ≤ 1000000) (w : World) : Calls Tryd.prog 21 #[.string s] w fun e w' => e = .returned (.agg #[.int .u64 ((Kl.ofL (sb s)).a : Nat), .int .u64 ((Kl.ofL (sb s)).b : Nat), .int .u64 ((Kl.ofL (sb s)).c : Nat), .int .u64 ((Kl.ofL (sb s)).d : Nat)]) ∧ Below w.heap.size w w' := of_calls s hs w
theorem range_k (low high : Nat) (hl : low < 256) (hh : high < 256) (w : World) :
    Calls Tryd.prog 20 #[.int .u8 low, .int .u8 high] w fun e w' => e = .returned (.agg #[.int .u64 ((Kl.ofL (rng low high)).a : Nat), .int .u64 ((Kl.ofL (rng low high)).b : Nat), .int .u64 ((Kl.ofL (rng low high)).c : Nat), .int .u64 ((Kl.ofL (rng low high)).d : Nat)]) ∧ Below w.heap.size w w' := range_calls low high hl hh w
theorem least_b (x : Kl) (w : World) (hp : 0 < w.heap.size) (hT : TabAt w) : Calls Tryd.prog 11 #[.agg #[.int .u64 (x.a : Nat), .int .u64 (x.b : Nat), .int .u64 (x.c : Nat), .int .u64 (x.d : Nat)]] w fun e w' => e = .returned (.tuple #[.int .u8 (x.low : Nat), .bool !x.by_.isEmpty]) ∧ Below w.heap.size w w' :=
  (least_k x w hp hT).mono fun _ _ ⟨h1, h2⟩ => ⟨h1, h2.1⟩
theorem bytes_k (x : Kl) (w : World) (hp : 0 < w.heap.size) (hT : TabAt w) : Calls Tryd.prog 22 #[.agg #[.int .u64 (x.a : Nat), .int .u64 (x.b : Nat), .int .u64 (x.c : Nat), .int .u64 (x.d : Nat)]] w fun e w' => e = .returned (.string (bstr x.by_)) ∧ Below w.heap.size w w' := bytes_calls x.a x.b x.c x.d x.h w hp hT
theorem all_k (x : Kl) (w : World) (hp : 0 < w.heap.size) (hT : TabAt w) : Calls Tryd.prog 17 #[.agg #[.int .u64 (x.a : Nat), .int .u64 (x.b : Nat), .int .u64 (x.c : Nat), .int .u64 (x.d : Nat)]] w fun e w' => (∃ v, e = .returned (.tuple #[v, .bool true]) ∧ ∀ p : BW w', (convert 35 9 v).run Tryd.prog p.W = .ok (.string (bstr x.by_)) p.W) ∧ Below w.heap.size w w' := by
  refine (callsIn_wide.1 (all_in Fence.wide 4 trivial trivial trivial trivial rfl (by omega) x.a x.b x.c x.d x.h w hp hT)).mono ?_
  rintro e w' ⟨v, xs, rfl, hx, hr, hB⟩
  refine ⟨⟨v, rfl, fun p => ?_⟩, hB⟩
  have := conv_row (row_below4 hr p.h (fun g e => (hr.lt g e).2))
  rwa [hx] at this
theorem self27 (x : Kl) (W : World) : (Op.equalIn 10000 27 (.agg #[.int .u64 (x.a : Nat), .int .u64 (x.b : Nat), .int .u64 (x.c : Nat), .int .u64 (x.d : Nat)]) (.agg #[.int .u64 (x.a : Nat), .int .u64 (x.b : Nat), .int .u64 (x.c : Nat), .int .u64 (x.d : Nat)])).run Tryd.prog W = .ok true W := by
  rw [eq27 x x, decide_eq_true rfl]
end Go.Proofs.YtjaabolpdelbiaaDoor
