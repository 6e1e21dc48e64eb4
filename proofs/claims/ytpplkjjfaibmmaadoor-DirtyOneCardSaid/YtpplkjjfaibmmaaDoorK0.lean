/- Dirty: Add's first loop, in plain terms. -/
import Derived.Test.YtpplkjjfaibmmaaDoorK2
import Derived.Test.YtpplkjjfaibmmaaDoorE3
namespace Go.Proofs.YtpplkjjfaibmmaaDoor
section
variable {a d i r : Int}
/-- Those that touch, those that do not. -/
def tl (a d i : Int) (l : List J) : List J := l.filter fun x => tch a i (mvJ a d i x)
def nl (a d i : Int) (l : List J) : List J := l.filter fun x => !tch a i (mvJ a d i x)
structure Qs (a d i r : Int) (l : List J) (s : AS) : Prop where
  out : s.out = (nl a d i l).map (mvJ a d i)
  n : s.n = (tl a d i l).length
  s0 : tl a d i l = [] → s.own.s = r
  s1 : ∀ x rest, tl a d i l = x :: rest → s.own.s = x.s ∧ s.went = rest.map fun y => (y.s, x.s)
  w0 : tl a d i l = [] → s.went = []
  l0 : s.own.l = 0
  f : s.own.f ≤ a
  t : a + i ≤ s.own.t
  big : ∀ x ∈ tl a d i l, s.own.f ≤ (mvJ a d i x).f ∧ (mvJ a d i x).t ≤ s.own.t ∧ x.a ≤ s.own.a
  f0 : 0 ≤ a → (∀ x ∈ l, 0 ≤ (mvJ a d i x).f) → 0 ≤ s.own.f
  a0 : 0 ≤ s.own.a
theorem tl_snoc (l : List J) (x : J) : tl a d i (l ++ [x]) = if tch a i (mvJ a d i x) then tl a d i l ++ [x] else tl a d i l := by
  unfold tl
  rw [List.filter_append]
  by_cases h : tch a i (mvJ a d i x) = true <;> simp [h]
theorem nl_snoc (l : List J) (x : J) : nl a d i (l ++ [x]) = if tch a i (mvJ a d i x) then nl a d i l else nl a d i l ++ [x] := by
  unfold nl
  rw [List.filter_append]
  by_cases h : tch a i (mvJ a d i x) = true <;> simp [h]
theorem Qs.step {l : List J} {s : AS} (h : Qs a d i r l s) (x : J) : Qs a d i r (l ++ [x]) (stepA a d i s x) := by
  have e1 := tl_snoc (a := a) (d := d) (i := i) l x
  have e2 := nl_snoc (a := a) (d := d) (i := i) l x
  by_cases hx : tch a i (mvJ a d i x) = true
  · rw [if_pos hx] at e1 e2
    have hs : stepA a d i s x = ⟨s.out, ⟨if s.n = 0 then x.s else s.own.s, min s.own.f (mvJ a d i x).f, max s.own.t (mvJ a d i x).t, max s.own.a x.a, s.own.l⟩, s.n + 1, if s.n = 0 then s.went else s.went ++ [(x.s, s.own.s)]⟩ := by unfold stepA; rw [if_pos hx]
    rw [hs]
    refine ⟨by rw [e2]; exact h.out, by rw [e1, List.length_append, ← h.n]; rfl, fun e => by rw [e1] at e; simp at e, fun y rest e => ?_, fun e => by rw [e1] at e; simp at e, h.l0, by have := h.f; dsimp only; omega, by have := h.t; dsimp only; omega, fun y hy => ?_, fun h0 h1 => ?_, by have := h.a0; dsimp only; omega⟩
    · rw [e1] at e
      cases hT : tl a d i l with
      | nil =>
        rw [hT] at e
        simp at e
        obtain ⟨rfl, rfl⟩ := e
        have : s.n = 0 := by rw [h.n, hT]; rfl
        simp [this, h.w0 hT]
      | cons z rz =>
        rw [hT] at e
        simp at e
        obtain ⟨rfl, rfl⟩ := e
        obtain ⟨g1, g2⟩ := h.s1 _ _ hT
        have : s.n ≠ 0 := by rw [h.n, hT]; simp
        simp [this, g1, g2]
    · rw [e1] at hy
      rcases List.mem_append.1 hy with h' | h'
      · have := h.big y h'
        dsimp only
        omega
      · obtain rfl := List.mem_singleton.1 h'
        dsimp only
        omega
    · have g1 := h.f0 h0 fun y hy => h1 y (List.mem_append_left _ hy)
      have g2 := h1 x (by simp)
      dsimp only
      omega
  · rw [if_neg hx] at e1 e2
    have hs : stepA a d i s x = ⟨s.out ++ [mvJ a d i x], s.own, s.n, s.went⟩ := by unfold stepA; rw [if_neg hx]
    rw [hs]
    refine ⟨by rw [e2, List.map_append, ← h.out]; rfl, by rw [e1]; exact h.n, fun e => by rw [e1] at e; exact h.s0 e, fun y rest e => by rw [e1] at e; exact h.s1 y rest e, fun e => by rw [e1] at e; exact h.w0 e, h.l0, h.f, h.t, fun y hy => by rw [e1] at hy; exact h.big y hy, fun h0 h1 => h.f0 h0 fun y hy => h1 y (List.mem_append_left _ hy), h.a0⟩
theorem Qs.fold : ∀ (m l : List J) (s : AS), Qs a d i r l s → Qs a d i r (l ++ m) (m.foldl (stepA a d i) s)
  | [], l, s, h => by simpa using h
  | x :: m, l, s, h => by
    rw [List.foldl_cons, show l ++ x :: m = (l ++ [x]) ++ m by simp]
    exact Qs.fold m _ _ (h.step x)
theorem fold_Qs (a d i r : Int) (l : List J) : Qs a d i r l (l.foldl (stepA a d i) ⟨[], ⟨r, a, a + i, 0, 0⟩, 0, []⟩) := by
  have := Qs.fold (a := a) (d := d) (i := i) (r := r) l [] ⟨[], ⟨r, a, a + i, 0, 0⟩, 0, []⟩ ⟨rfl, rfl, fun _ => rfl, fun _ _ e => by simp [tl] at e, fun _ => rfl, rfl, Int.le_refl _, Int.le_refl _, fun _ h => by simp [tl] at h, fun h _ => h, Int.le_refl _⟩
  simpa using this
theorem Qs.sorted {l : List J} {s : AS} (h : Qs a d i r l s) (hl : l.Pairwise fun x y => x.s < y.s) : s.out.Pairwise fun x y => x.s < y.s := by
  rw [h.out, List.pairwise_map]
  exact List.Pairwise.filter _ hl
/-- Whoever is added has a slot of its own. -/
theorem Qs.fresh {l : List J} {s : AS} (h : Qs a d i r l s) (hl : l.Pairwise fun x y => x.s < y.s) (hr : ∀ x ∈ l, x.s ≠ r) : ∀ y ∈ s.out, y.s ≠ s.own.s := by
  intro y hy
  rw [h.out] at hy
  obtain ⟨x, hx, rfl⟩ := List.mem_map.1 hy
  obtain ⟨hxl, hxt⟩ := List.mem_filter.1 hx
  have e : (mvJ a d i x).s = x.s := rfl
  rw [e]
  cases hT : tl a d i l with
  | nil => rw [h.s0 hT]; exact hr x hxl
  | cons z rz =>
    rw [(h.s1 _ _ hT).1]
    have hz : z ∈ tl a d i l := by rw [hT]; simp
    obtain ⟨hzl, hzt⟩ := List.mem_filter.1 hz
    intro e
    have : x = z := by
      obtain ⟨ix, hix, rfl⟩ := List.getElem_of_mem hxl
      obtain ⟨iz, hiz, rfl⟩ := List.getElem_of_mem hzl
      rcases Nat.lt_trichotomy ix iz with hh | hh | hh
      · have := List.pairwise_iff_getElem.1 hl ix iz hix hiz hh; omega
      · subst hh; rfl
      · have := List.pairwise_iff_getElem.1 hl iz ix hiz hix hh; omega
    subst this
    rw [hzt] at hxt
    cases hxt
end
/-- A row with one more, at its place. -/
def Ins (l : List J) (x : J) (o : List J) : Prop := ∃ i, i ≤ l.length ∧ o = l.take i ++ x :: l.drop i ∧ (∀ (k : Nat) (h : k < l.length), k < i → l[k].s < x.s) ∧ ∀ (k : Nat) (h : k < l.length), i ≤ k → x.s ≤ l[k].s
theorem Ins.perm {l o : List J} {x : J} (h : Ins l x o) : o.Perm (x :: l) := by
  obtain ⟨i, _, rfl, _, _⟩ := h
  have := (List.perm_middle (a := x) (l₁ := l.take i) (l₂ := l.drop i))
  rwa [List.take_append_drop] at this
theorem Ins.len {l o : List J} {x : J} (h : Ins l x o) : o.length = l.length + 1 := h.perm.length_eq
theorem Ins.mem {l o : List J} {x y : J} (h : Ins l x o) : y ∈ o ↔ y = x ∨ y ∈ l := by rw [h.perm.mem_iff]; simp
theorem Ins.sorted {l o : List J} {x : J} (h : Ins l x o) (hl : l.Pairwise fun a b => a.s < b.s) (hx : ∀ y ∈ l, y.s ≠ x.s) : o.Pairwise fun a b => a.s < b.s := by
  obtain ⟨i, hi, rfl, h1, h2⟩ := h
  rw [List.pairwise_append]
  refine ⟨List.Pairwise.sublist (List.take_sublist _ _) hl, ?_, ?_⟩
  · rw [List.pairwise_cons]
    refine ⟨fun y hy => ?_, List.Pairwise.sublist (List.drop_sublist _ _) hl⟩
    obtain ⟨k, hk, rfl⟩ := List.getElem_of_mem hy
    rw [List.length_drop] at hk
    rw [List.getElem_drop]
    have := h2 (i + k) (by omega) (by omega)
    have := hx _ (List.getElem_mem (by omega : i + k < l.length))
    omega
  · intro y hy z hz
    obtain ⟨k, hk, rfl⟩ := List.getElem_of_mem hy
    rw [List.length_take] at hk
    rw [List.getElem_take]
    have g1 := h1 k (by omega) (by omega)
    rcases List.mem_cons.1 hz with rfl | hz
    · exact g1
    · obtain ⟨m, hm, rfl⟩ := List.getElem_of_mem hz
      rw [List.length_drop] at hm
      rw [List.getElem_drop]
      exact List.pairwise_iff_getElem.1 hl k (i + m) (by omega) (by omega) (by omega)
theorem slots_ne {l : List J} (h : l.Pairwise fun a b => a.s < b.s) : l.Pairwise fun a b => a.s ≠ b.s := h.imp fun h => by omega
/-- How Add goes on with a row that may be too long. -/
def Nx2 (room : Int) (s : AS) (o2 out : List J) (slot : Int) (went : List (Int × Int)) : Prop :=
  (out = o2 ∧ slot = s.own.s ∧ went = s.went) ∨ (room < o2.length ∧ ∃ p q, p ∈ o2 ∧ q ∈ o2 ∧ p.s ≠ q.s ∧ Ins ((o2.filter fun x => x.s != p.s).filter fun x => x.s != q.s) (joinJ p q) out ∧ went = s.went ++ [(max p.s q.s, min p.s q.s)] ∧ slot = if s.own.s = max p.s q.s then min p.s q.s else s.own.s)
theorem two_less {o2 : List J} {p q : J} (hp : p ∈ o2) (hq : q ∈ o2) (hne : p.s ≠ q.s) : ((o2.filter fun x => x.s != p.s).filter fun x => x.s != q.s).length + 2 ≤ o2.length := by
  have h1 : (o2.filter fun x => x.s != p.s).length < o2.length := List.length_filter_lt_length_iff_exists.2 ⟨p, hp, by simp⟩
  have h2 : ((o2.filter fun x => x.s != p.s).filter fun x => x.s != q.s).length < (o2.filter fun x => x.s != p.s).length := List.length_filter_lt_length_iff_exists.2 ⟨q, List.mem_filter.2 ⟨hq, by simp; omega⟩, by simp⟩
  omega
theorem Nx2.len {room : Int} {s : AS} {o2 out : List J} {slot : Int} {went : List (Int × Int)} (h : Nx2 room s o2 out slot went) (hl : (o2.length : Int) ≤ room + 1) (hg : room < out.length) : out = o2 ∧ slot = s.own.s ∧ went = s.went := by
  rcases h with h | ⟨_, p, q, hp, hq, hne, hI, _, _⟩
  · exact h
  · have := hI.len
    have := two_less hp hq hne
    omega
/-- What Add comes to. -/
def AddRel (a d i room : Int) (l : List J) (r : Int) (out : List J) (slot : Int) (went : List (Int × Int)) : Prop :=
  ∃ s, s = l.foldl (stepA a d i) ⟨[], ⟨r, a, a + i, 0, 0⟩, 0, []⟩ ∧ ∃ o2, Ins s.out s.own o2 ∧ Nx2 room s o2 out slot went ∧ ¬ room < out.length
end Go.Proofs.YtpplkjjfaibmmaaDoor
