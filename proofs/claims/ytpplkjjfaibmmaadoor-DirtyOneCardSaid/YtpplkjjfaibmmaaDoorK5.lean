/- Dirty: what Add's answer is good for, in plain terms. -/
import Derived.Test.YtpplkjjfaibmmaaDoorK0
import Derived.Test.YtpplkjjfaibmmaaDoorF2
namespace Go.Proofs.YtpplkjjfaibmmaaDoor
def gd (x : J) : Prop := x.s < 64 ∧ 0 ≤ x.f ∧ x.f ≤ x.t ∧ 0 ≤ x.a ∧ 0 ≤ x.l
theorem okJ_iff (last : Int) (x : J) : okJ last x = true ↔ last < x.s ∧ gd x := by
  unfold okJ gd
  simp only [Bool.and_eq_true, decide_eq_true_eq]
  omega
theorem okL_iff : ∀ (l : List J) (last : Int), okL last l = true ↔ l.Pairwise (fun a b => a.s < b.s) ∧ ∀ x ∈ l, last < x.s ∧ gd x
  | [], last => by simp [okL]
  | x :: r, last => by
    unfold okL
    rw [Bool.and_eq_true, okJ_iff, okL_iff r, List.pairwise_cons]
    constructor
    · rintro ⟨h1, h2, h3⟩
      refine ⟨⟨fun y hy => (h3 y hy).1, h2⟩, fun y hy => ?_⟩
      rcases List.mem_cons.1 hy with rfl | hy
      · exact h1
      · exact ⟨by have := (h3 y hy).1; omega, (h3 y hy).2⟩
    · rintro ⟨⟨h1, h2⟩, h3⟩
      exact ⟨h3 x (by simp), h2, fun y hy => ⟨h1 y hy, (h3 y (List.mem_cons_of_mem _ hy)).2⟩⟩
theorem checkV_iff (l : List J) : checkV l = 0 ↔ l.length ≤ 32 ∧ l.Pairwise (fun a b => a.s < b.s) ∧ ∀ x ∈ l, 0 ≤ x.s ∧ gd x := by
  unfold checkV
  by_cases h : 32 < l.length
  · rw [if_pos h]; constructor
    · intro e; cases e
    · intro e; omega
  · rw [if_neg h]
    by_cases h2 : okL (-1) l = true
    · rw [if_pos h2]
      have := (okL_iff l (-1)).1 h2
      exact ⟨fun _ => ⟨by omega, this.1, fun x hx => ⟨by have := (this.2 x hx).1; omega, (this.2 x hx).2⟩⟩, fun _ => rfl⟩
    · rw [if_neg h2]
      constructor
      · intro e; cases e
      · intro e
        exact absurd ((okL_iff l (-1)).2 ⟨e.2.1, fun x hx => ⟨by have := (e.2.2 x hx).1; omega, (e.2.2 x hx).2⟩⟩) h2
/-- There is a slot that is free. -/
theorem free_ex {l : List J} (hl : l.length ≤ 32) (hs : l.Pairwise fun a b => a.s < b.s) : ∃ j : Nat, j < 64 ∧ usedF l j = false := by
  refine Classical.byContradiction fun h => ?_
  have hu : ∀ j : Nat, j < 64 → ∃ (k : Nat) (hk : k < l.length), l[k].s = (j : Int) := fun j hj => by
    have h1 : usedF l j = true := by
      cases e : usedF l j with
      | true => rfl
      | false => exact absurd ⟨j, hj, e⟩ h
    unfold usedF at h1
    obtain ⟨x, hx, hxs⟩ := List.any_eq_true.1 h1
    obtain ⟨k, hk, rfl⟩ := List.getElem_of_mem hx
    exact ⟨k, hk, by simpa using hxs⟩
  have hidx : ∀ j : Nat, j < 64 → ∃ (k : Nat) (hk : k < l.length), l[k].s = (j : Int) ∧ j ≤ k := by
    intro j
    induction j with
    | zero => intro hj; obtain ⟨k, hk, e⟩ := hu 0 hj; exact ⟨k, hk, e, Nat.zero_le _⟩
    | succ j ih =>
      intro hj
      obtain ⟨k, hk, e, hjk⟩ := ih (by omega)
      obtain ⟨k', hk', e'⟩ := hu (j + 1) hj
      refine ⟨k', hk', e', ?_⟩
      rcases Nat.lt_trichotomy k k' with h1 | h1 | h1
      · omega
      · subst h1; omega
      · have := List.pairwise_iff_getElem.1 hs k' k hk' hk h1; omega
  obtain ⟨k, hk, _, h2⟩ := hidx 63 (by omega)
  omega
section
variable {a d i room : Int} {l : List J} {r : Int} {out : List J} {slot : Int} {went : List (Int × Int)}
theorem mv_le (x : J) : (mvJ a d i x).f ≤ (mvJ a d i x).t := Int.le_max_left _ _
theorem mv_ge (x : J) (ha : 0 ≤ a) (hi : 0 ≤ i) (hf : 0 ≤ x.f) : 0 ≤ (mvJ a d i x).f := by
  show 0 ≤ stt x.f a d i
  unfold stt bhd
  split
  · exact hf
  · split <;> omega
theorem mv_up (x : J) (M : Int) (hd : 0 ≤ d) (hi : 0 ≤ i) (hf : x.f ≤ M) (ht : x.t ≤ M) (haM : a ≤ M) : (mvJ a d i x).f ≤ M + i ∧ (mvJ a d i x).t ≤ M + i := by
  have h1 : stt x.f a d i ≤ M + i := by unfold stt bhd; split <;> (try split) <;> omega
  have h2 : enn x.t a d i ≤ M + i := by unfold enn bhd; split <;> (try split) <;> omega
  exact ⟨h1, by show max _ _ ≤ _; omega⟩
theorem uniq {l : List J} (h : l.Pairwise fun a b => a.s < b.s) {x y : J} (hx : x ∈ l) (hy : y ∈ l) (e : x.s = y.s) : x = y := by
  obtain ⟨ix, hix, rfl⟩ := List.getElem_of_mem hx
  obtain ⟨iz, hiz, rfl⟩ := List.getElem_of_mem hy
  rcases Nat.lt_trichotomy ix iz with hh | hh | hh
  · have := List.pairwise_iff_getElem.1 h ix iz hix hiz hh; omega
  · subst hh; rfl
  · have := List.pairwise_iff_getElem.1 h iz ix hiz hix hh; omega
def goTo (went : List (Int × Int)) (s : Int) : Int := went.foldl (fun s p => if p.1 = s then p.2 else s) s
theorem goTo_none {w : List (Int × Int)} {s : Int} (h : ∀ p ∈ w, p.1 ≠ s) : goTo w s = s := by
  unfold goTo
  induction w with
  | nil => rfl
  | cons p w ih =>
    rw [List.foldl_cons, if_neg (h p (by simp))]
    exact ih fun q hq => h q (List.mem_cons_of_mem _ hq)
theorem goTo_all {w : List (Int × Int)} {s t : Int} (h : ∀ p ∈ w, p.2 = t) (hs : ∃ p ∈ w, p.1 = s) (hn : ∀ p ∈ w, p.1 ≠ t) : goTo w s = t := by
  unfold goTo
  induction w with
  | nil => obtain ⟨p, hp, _⟩ := hs; cases hp
  | cons p w ih =>
    rw [List.foldl_cons]
    by_cases e : p.1 = s
    · rw [if_pos e, h p (by simp)]
      exact goTo_none fun q hq => hn q (List.mem_cons_of_mem _ hq)
    · rw [if_neg e]
      refine ih (fun q hq => h q (List.mem_cons_of_mem _ hq)) ?_ (fun q hq => hn q (List.mem_cons_of_mem _ hq))
      obtain ⟨q, hq, hqs⟩ := hs
      rcases List.mem_cons.1 hq with rfl | hq
      · exact absurd hqs e
      · exact ⟨q, hq, hqs⟩
theorem goTo_snoc (w : List (Int × Int)) (p : Int × Int) (s : Int) : goTo (w ++ [p]) s = if p.1 = goTo w s then p.2 else goTo w s := by
  unfold goTo
  rw [List.foldl_append]
  rfl
/-- What is good of a row that holds all. -/
structure Holds1 (a d i : Int) (l : List J) (out : List J) (slot : Int) (went : List (Int × Int)) : Prop where
  so : out.Pairwise fun a b => a.s < b.s
  gd : ∀ x ∈ out, 0 ≤ x.s ∧ gd x
  own : ∃ o ∈ out, o.s = slot ∧ o.f ≤ a ∧ a + i ≤ o.t
  all : ∀ x ∈ l, ∃ o ∈ out, o.s = goTo went x.s ∧ o.f ≤ (mvJ a d i x).f ∧ (mvJ a d i x).t ≤ o.t ∧ x.a ≤ o.a ∧ (goTo went x.s ≠ x.s → o.l = 0)
  len : out.length + went.length = l.length + 1 ∨ out.length + went.length = l.length
theorem part_len (l : List J) : (nl a d i l).length + (tl a d i l).length = l.length := by
  unfold nl tl
  induction l with
  | nil => rfl
  | cons x l ih => by_cases hx : tch a i (mvJ a d i x) = true <;> simp [hx] <;> omega
theorem Holds1.first {s : AS} {o2 : List J} (h : Qs a d i r l s) (hI : Ins s.out s.own o2) (hl : l.Pairwise fun a b => a.s < b.s) (hg : ∀ x ∈ l, 0 ≤ x.s ∧ Go.Proofs.YtpplkjjfaibmmaaDoor.gd x) (ha : 0 ≤ a) (hi : 0 ≤ i) (hr : 0 ≤ r ∧ r < 64) (hrf : ∀ x ∈ l, x.s ≠ r) : Holds1 a d i l o2 s.own.s s.went := by
  have hso := h.sorted hl
  have hfr := h.fresh hl hrf
  have ho2 := hI.sorted hso hfr
  have mem : ∀ y, y ∈ o2 ↔ y = s.own ∨ y ∈ s.out := fun y => hI.mem
  have tmem : ∀ x, x ∈ tl a d i l ↔ x ∈ l ∧ tch a i (mvJ a d i x) = true := fun x => List.mem_filter
  have tpw : (tl a d i l).Pairwise fun a b => a.s < b.s := List.Pairwise.filter _ hl
  refine ⟨ho2, fun y hy => ?_, ⟨s.own, (mem _).2 (.inl rfl), rfl, h.f, h.t⟩, fun x hx => ?_, ?_⟩
  · rcases (mem y).1 hy with rfl | hy
    · have hf0 := h.f0 ha fun x hx => mv_ge x ha hi (hg x hx).2.2.1
      have hsl : 0 ≤ s.own.s ∧ s.own.s < 64 := by
        cases hT : tl a d i l with
        | nil => rw [h.s0 hT]; exact hr
        | cons z rz =>
          rw [(h.s1 _ _ hT).1]
          have hz : z ∈ l := ((tmem z).1 (by rw [hT]; simp)).1
          exact ⟨(hg z hz).1, (hg z hz).2.1⟩
      exact ⟨hsl.1, hsl.2, hf0, by have := h.f; have := h.t; omega, h.a0, by rw [h.l0]; exact Int.le_refl _⟩
    · rw [h.out] at hy
      obtain ⟨x, hx, rfl⟩ := List.mem_map.1 hy
      have hxl := (List.mem_filter.1 hx).1
      obtain ⟨g0, g1, g2, g3, g4, g5⟩ := hg x hxl
      exact ⟨g0, g1, mv_ge x ha hi g2, mv_le x, g4, g5⟩
  · by_cases ht : tch a i (mvJ a d i x) = true
    · have hxT : x ∈ tl a d i l := (tmem x).2 ⟨hx, ht⟩
      have hb := h.big x hxT
      have hgo : goTo s.went x.s = s.own.s := by
        cases hT : tl a d i l with
        | nil => rw [hT] at hxT; cases hxT
        | cons z rz =>
          obtain ⟨g1, g2⟩ := h.s1 _ _ hT
          rw [hT] at hxT tpw
          rw [List.pairwise_cons] at tpw
          rw [g1, g2]
          rcases List.mem_cons.1 hxT with rfl | hxr
          · refine goTo_none fun p hp => ?_
            obtain ⟨y, hy, rfl⟩ := List.mem_map.1 hp
            have := tpw.1 y hy
            dsimp only
            omega
          · refine goTo_all (fun p hp => ?_) ⟨(x.s, z.s), List.mem_map.2 ⟨x, hxr, rfl⟩, rfl⟩ (fun p hp => ?_)
            · obtain ⟨y, hy, rfl⟩ := List.mem_map.1 hp
              rfl
            · obtain ⟨y, hy, rfl⟩ := List.mem_map.1 hp
              have := tpw.1 y hy
              dsimp only
              omega
      exact ⟨s.own, (mem _).2 (.inl rfl), hgo.symm, hb.1, hb.2.1, hb.2.2, fun _ => h.l0⟩
    · have hgo : goTo s.went x.s = x.s := by
        refine goTo_none fun p hp => ?_
        cases hT : tl a d i l with
        | nil => rw [h.w0 hT] at hp; cases hp
        | cons z rz =>
          rw [(h.s1 _ _ hT).2] at hp
          obtain ⟨y, hy, rfl⟩ := List.mem_map.1 hp
          have hyT : y ∈ tl a d i l := by rw [hT]; exact List.mem_cons_of_mem _ hy
          obtain ⟨hyl, hyt⟩ := (tmem y).1 hyT
          intro e
          have := uniq hl hyl hx e
          subst this
          exact ht hyt
      refine ⟨mvJ a d i x, (mem _).2 (.inr ?_), hgo.symm, Int.le_refl _, Int.le_refl _, Int.le_refl _, fun e => absurd hgo e⟩
      rw [h.out]
      exact List.mem_map.2 ⟨x, List.mem_filter.2 ⟨hx, by simpa using ht⟩, rfl⟩
  · have h1 := hI.len
    have h2 : s.out.length = (nl a d i l).length := by rw [h.out, List.length_map]
    have h3 := part_len (a := a) (d := d) (i := i) l
    cases hT : tl a d i l with
    | nil =>
      rw [hT] at h3
      rw [h.w0 hT]
      simp at h3 ⊢
      omega
    | cons z rz =>
      rw [hT] at h3
      rw [(h.s1 _ _ hT).2]
      simp at h3 ⊢
      omega
theorem filter_one : ∀ {l : List J} {p : J}, l.Pairwise (fun a b => a.s < b.s) → p ∈ l → (l.filter fun x => x.s != p.s).length + 1 = l.length
  | y :: t, p, h, hp => by
    rw [List.pairwise_cons] at h
    by_cases e : y.s = p.s
    · have : (t.filter fun x => x.s != p.s) = t := List.filter_eq_self.2 fun z hz => by have := h.1 z hz; simp; omega
      simp [e, this]
    · rcases List.mem_cons.1 hp with rfl | hp
      · exact absurd rfl e
      · have := filter_one h.2 hp
        simp [e]
        omega
theorem Holds1.next {o2 : List J} {p q : J} (h : Holds1 a d i l o2 slot went) (hp : p ∈ o2) (hq : q ∈ o2) (hne : p.s ≠ q.s) (hI : Ins ((o2.filter fun x => x.s != p.s).filter fun x => x.s != q.s) (joinJ p q) out) :
    Holds1 a d i l out (if slot = max p.s q.s then min p.s q.s else slot) (went ++ [(max p.s q.s, min p.s q.s)]) := by
  have hpw : ((o2.filter fun x => x.s != p.s).filter fun x => x.s != q.s).Pairwise fun a b => a.s < b.s := List.Pairwise.filter _ (List.Pairwise.filter _ h.so)
  have fm : ∀ y, y ∈ (o2.filter fun x => x.s != p.s).filter (fun x => x.s != q.s) ↔ y ∈ o2 ∧ y.s ≠ p.s ∧ y.s ≠ q.s := fun y => by
    rw [List.mem_filter, List.mem_filter]; simp [and_assoc]
  have mem : ∀ y, y ∈ out ↔ y = joinJ p q ∨ (y ∈ o2 ∧ y.s ≠ p.s ∧ y.s ≠ q.s) := fun y => by rw [hI.mem, fm]
  have js : (joinJ p q).s = min p.s q.s := rfl
  obtain ⟨p0, p1, p2, p3, p4, p5⟩ := h.gd p hp
  obtain ⟨q0, q1, q2, q3, q4, q5⟩ := h.gd q hq
  -- where an old one is now
  have now : ∀ o ∈ o2, ∃ o' ∈ out, o'.s = (if max p.s q.s = o.s then min p.s q.s else o.s) ∧ o'.f ≤ o.f ∧ o.t ≤ o'.t ∧ o.a ≤ o'.a ∧ (o' = o ∧ o'.s = o.s ∨ o'.l = 0) := fun o ho => by
    by_cases e1 : o.s = p.s
    · have := uniq h.so ho hp e1
      subst this
      refine ⟨joinJ o q, (mem _).2 (.inl rfl), ?_, ?_, ?_, ?_, .inr rfl⟩
      · show min o.s q.s = _; split <;> omega
      · show min _ _ ≤ _; omega
      · show _ ≤ max _ _; omega
      · show _ ≤ max _ _; omega
    · by_cases e2 : o.s = q.s
      · have := uniq h.so ho hq e2
        subst this
        refine ⟨joinJ p o, (mem _).2 (.inl rfl), ?_, ?_, ?_, ?_, .inr rfl⟩
        · show min p.s o.s = _; split <;> omega
        · show min _ _ ≤ _; omega
        · show _ ≤ max _ _; omega
        · show _ ≤ max _ _; omega
      · exact ⟨o, (mem _).2 (.inr ⟨ho, e1, e2⟩), by rw [if_neg (by omega)], Int.le_refl _, Int.le_refl _, Int.le_refl _, .inl ⟨rfl, rfl⟩⟩
  refine ⟨hI.sorted hpw fun y hy => ?_, fun y hy => ?_, ?_, fun x hx => ?_, ?_⟩
  · have := (fm y).1 hy
    rw [js]
    omega
  · rcases (mem y).1 hy with rfl | hy
    · refine ⟨by rw [js]; omega, by rw [js]; omega, ?_, ?_, ?_, Int.le_refl _⟩
      · show 0 ≤ min _ _; omega
      · show min _ _ ≤ max _ _; omega
      · show 0 ≤ max _ _; omega
    · exact h.gd y hy.1
  · obtain ⟨o, ho, e, e1, e2⟩ := h.own
    obtain ⟨o', ho', g1, g2, g3, _⟩ := now o ho
    refine ⟨o', ho', ?_, by omega, by omega⟩
    rw [g1, e]
    by_cases hh : slot = max p.s q.s
    · rw [if_pos hh, if_pos hh.symm]
    · rw [if_neg hh, if_neg (fun e => hh e.symm)]
  · obtain ⟨o, ho, e, e1, e2, e3, e4⟩ := h.all x hx
    obtain ⟨o', ho', g1, g2, g3, g4, g5⟩ := now o ho
    refine ⟨o', ho', ?_, by omega, by omega, by omega, fun hn => ?_⟩
    · rw [goTo_snoc, g1, e]
    · rcases g5 with ⟨rfl, g5⟩ | g5
      · refine e4 fun hx' => hn ?_
        rw [goTo_snoc]
        dsimp only
        rw [← e, if_neg (fun e5 => by rw [if_pos e5] at g1; rw [g1] at e5; omega), e]
        exact hx'
      · exact g5
  · have h1 := hI.len
    have h2 := filter_one h.so hp
    have h3 := filter_one (l := o2.filter fun x => x.s != p.s) (p := q) (List.Pairwise.filter _ h.so) (List.mem_filter.2 ⟨hq, by simp; omega⟩)
    have h4 := h.len
    simp
    omega
/-- What Add's answer is good for. -/
theorem AddRel.holds (h : AddRel a d i room l r out slot went) (hl : l.Pairwise fun a b => a.s < b.s) (hg : ∀ x ∈ l, 0 ≤ x.s ∧ Go.Proofs.YtpplkjjfaibmmaaDoor.gd x) (ha : 0 ≤ a) (hi : 0 ≤ i) (hr : 0 ≤ r ∧ r < 64) (hrf : ∀ x ∈ l, x.s ≠ r) : Holds1 a d i l out slot went ∧ ¬ room < out.length := by
  obtain ⟨s, hs, o2, hI, hN, hlen⟩ := h
  have hQ := fold_Qs a d i r l
  rw [← hs] at hQ
  have h1 := Holds1.first hQ hI hl hg ha hi hr hrf
  refine ⟨?_, hlen⟩
  rcases hN with ⟨rfl, rfl, rfl⟩ | ⟨_, p, q, hp, hq, hne, hI2, rfl, rfl⟩
  · exact h1
  · exact h1.next hp hq hne hI2
end
end Go.Proofs.YtpplkjjfaibmmaaDoor
