/- OX, part 6: a call told again: the theorem. -/
import Derived.Test.YtdjeokgkeejpcaaGreatDoorOx4
import Derived.Test.YtdjeokgkeejpcaaGreatDoorSx5
import Derived.Test.YtdjeokgkeejpcaaGreatDoorAx24
namespace Go.Proofs.YtdjeokgkeejpcaaGreatDoor.AX
open Go
variable {ρ : Nat → Option Nat} {σ τ : Sig}

def Carries (ρ : Nat → Option Nat) (σ τ : Sig) : Prop := ∀ i k, ρ i = some k → ∀ j, σ i = some j → τ k = some j
def pull (ρ : Nat → Option Nat) (σ : Sig) : Sig := fun i => (ρ i).bind σ
theorem pull_at {i k : Nat} (h : ρ i = some k) : pull ρ σ i = σ k := by simp [pull, h]
theorem pull_some : pull some σ = σ := by funext i; rfl

theorem ren0_rel (hc : Carries ρ σ τ) {v u : AV} {x : Value} (h : ren0 ρ v = some u) (hx : VRel σ v x) : VRel τ u x := by
  unfold ren0 at h
  split at h <;> (try split at h) <;> cases h
  all_goals cases hx
  all_goals first
    | exact .ptr (hc _ _ ‹_› _ ‹_›)
    | exact .slice (hc _ _ ‹_› _ ‹_›) ‹_› ‹_›
    | exact .opn (hc _ _ ‹_› _ ‹_›) ‹_› ‹_› ‹_›
    | exact .map (hc _ _ ‹_› _ ‹_›)
    | exact .bool _
    | exact .int _ _
    | exact .str _ ‹_›
    | exact .nilp
    | exact .gptr _ _
    | exact .nils
    | exact .gsl _ _ ‹_›
    | exact .nilm
    | exact .nilf
    | exact .nili
theorem ren0_back {v u : AV} {x : Value} (h : ren0 ρ v = some u) (hx : VRel σ u x) : VRel (pull ρ σ) v x := by
  unfold ren0 at h
  split at h <;> (try split at h) <;> cases h
  all_goals cases hx
  all_goals first
    | exact .ptr ((pull_at ‹_›).trans ‹_›)
    | exact .slice ((pull_at ‹_›).trans ‹_›) ‹_› ‹_›
    | exact .opn ((pull_at ‹_›).trans ‹_›) ‹_› ‹_› ‹_›
    | exact .map ((pull_at ‹_›).trans ‹_›)
    | exact .bool _
    | exact .int _ _
    | exact .str _ ‹_›
    | exact .nilp
    | exact .gptr _ _
    | exact .nils
    | exact .gsl _ _ ‹_›
    | exact .nilm
    | exact .nilf
    | exact .nili
theorem renL_rel (hc : Carries ρ σ τ) : ∀ {l m : List AV} {xs : List Value}, renL ρ l = some m → VRels σ l xs → VRels τ m xs
  | [], m, xs, h, hx => by
    cases hx
    cases h
    exact .nil
  | v :: l, m, xs, h, hx => by
    cases hx with
    | cons h1 h2 =>
    simp only [renL] at h
    split at h
    · rename_i u r hu hr
      cases h
      exact .cons (ren0_rel hc hu h1) (renL_rel hc hr h2)
    · cases h
theorem renL_back : ∀ {l m : List AV} {xs : List Value}, renL ρ l = some m → VRels σ m xs → VRels (pull ρ σ) l xs
  | [], m, xs, h, hx => by
    cases h
    cases hx
    exact .nil
  | v :: l, m, xs, h, hx => by
    simp only [renL] at h
    split at h
    · rename_i u r hu hr
      cases h
      cases hx with
      | cons h1 h2 => exact .cons (ren0_back hu h1) (renL_back hr h2)
    · cases h
theorem ren1_rel (hc : Carries ρ σ τ) {v u : AV} {x : Value} (h : ren1 ρ v = some u) (hx : VRel σ v x) : VRel τ u x := by
  unfold ren1 at h
  split at h
  · split at h
    · rename_i l hl
      cases h
      cases hx with
      | agg h1 => exact .agg (renL_rel hc hl h1)
    · cases h
  · split at h
    · rename_i l m hl hm
      cases h
      cases hx with
      | fn f h1 h2 => exact .fn _ (renL_rel hc hl h1) (renL_rel hc hm h2)
    · cases h
  · split at h
    · rename_i y hy
      cases h
      cases hx with
      | iface t h1 => exact .iface _ (ren0_rel hc hy h1)
    · cases h
  · exact ren0_rel hc h hx
theorem ren1_back {v u : AV} {x : Value} (h : ren1 ρ v = some u) (hx : VRel σ u x) : VRel (pull ρ σ) v x := by
  unfold ren1 at h
  split at h
  · split at h
    · rename_i l hl
      cases h
      cases hx with
      | agg h1 => exact .agg (renL_back hl h1)
    · cases h
  · split at h
    · rename_i l m hl hm
      cases h
      cases hx with
      | fn f h1 h2 => exact .fn _ (renL_back hl h1) (renL_back hm h2)
    · cases h
  · split at h
    · rename_i y hy
      cases h
      cases hx with
      | iface t h1 => exact .iface _ (ren0_back hy h1)
    · cases h
  · exact ren0_back h hx
theorem renL1_cons (v : AV) (l : List AV) : renL1 ρ (v :: l) = (match ren1 ρ v with
    | some u => match renL1 ρ l with
      | some r => some (u :: r)
      | none => none
    | none => none) := rfl
theorem renL1_rel (hc : Carries ρ σ τ) : ∀ {l m : List AV} {xs : List Value}, renL1 ρ l = some m → VRels σ l xs → VRels τ m xs
  | [], m, xs, h, hx => by
    cases hx
    cases h
    exact .nil
  | v :: l, m, xs, h, hx => by
    cases hx with
    | cons h1 h2 =>
    rw [renL1_cons] at h
    split at h
    · rename_i u hu
      split at h
      · rename_i r hr
        cases h
        exact .cons (ren1_rel hc hu h1) (renL1_rel hc hr h2)
      · cases h
    · cases h
theorem renL1_get : ∀ {l m : List AV}, renL1 ρ l = some m → ∀ j : Nat, (l[j]? = none ∧ m[j]? = none) ∨ ∃ v u, l[j]? = some v ∧ m[j]? = some u ∧ ren1 ρ v = some u
  | [], m, h, j => by
    cases h
    exact .inl ⟨by simp, by simp⟩
  | v :: l, m, h, j => by
    rw [renL1_cons] at h
    split at h
    · rename_i u hu
      split at h
      · rename_i r hr
        cases h
        cases j with
        | zero => exact .inr ⟨v, u, by simp, by simp, hu⟩
        | succ j => simpa using renL1_get hr j
      · cases h
    · cases h
theorem ren2_rel (hc : Carries ρ σ τ) {v u : AV} {x : Value} (h : ren2 ρ v = some u) (hx : VRel σ v x) : VRel τ u x := by
  unfold ren2 at h
  split at h
  · split at h
    · rename_i l hl
      cases h
      cases hx with
      | tup h1 => exact .tup (renL1_rel hc hl h1)
    · cases h
  · exact ren1_rel hc h hx
theorem eqV_imp {a b : AV} (h : eqV ρ a b = true) : ren1 ρ a = some b := by
  unfold eqV at h
  split at h
  · rename_i u hu
    rw [hu, avEq_imp h]
  · cases h
theorem brecB (a b : Bool) (c : Bool) : (Bool.rec a b c : Bool) = if c = true then b else a := by cases c <;> rfl
theorem eqLs_cons (a : AV) (l m : List AV) : eqLs ρ (a :: l) m = (match m with
    | [] => false
    | b :: m => (eqV ρ a b && eqLs ρ l m)) := by
  cases m with
  | nil => rfl
  | cons b m =>
    show (Bool.rec false (eqLs ρ l m) (eqV ρ a b) : Bool) = (eqV ρ a b && eqLs ρ l m)
    rw [brecB]
    cases eqV ρ a b <;> simp
theorem eqLs_back : ∀ {l m : List AV} {xs : List Value}, eqLs ρ l m = true → VRels σ m xs → VRels (pull ρ σ) l xs
  | [], m, xs, h, hx => by
    cases m with
    | nil => cases hx; exact .nil
    | cons b m => cases h
  | a :: l, m, xs, h, hx => by
    rw [eqLs_cons] at h
    cases m with
    | nil => cases h
    | cons b m =>
      simp only [Bool.and_eq_true] at h
      cases hx with
      | cons h1 h2 => exact .cons (ren1_back (eqV_imp h.1) h1) (eqLs_back h.2 h2)
theorem eqCs_get {c : Cells} : ∀ {l : List AV} {j : Nat}, eqCs ρ c l j = true → ∀ k v, l[k]? = some v → ∃ u, c.get (j + k) = some u ∧ ren1 ρ v = some u
  | [], _, _, k, v, hk => by simp at hk
  | a :: l, j, h, k, v, hk => by
    have h : (Option.rec false (fun b => Bool.rec false (eqCs ρ c l (j + 1)) (eqV ρ a b)) (c.get j) : Bool) = true := h
    cases hg : c.get j with
    | none => rw [hg] at h; cases h
    | some b =>
      rw [hg] at h
      have h : (Bool.rec false (eqCs ρ c l (j + 1)) (eqV ρ a b) : Bool) = true := h
      rw [brecB] at h
      split at h
      · rename_i he
        cases k with
        | zero =>
          simp only [List.getElem?_cons_zero, Option.some.injEq] at hk
          subst hk
          exact ⟨b, by simpa using hg, eqV_imp he⟩
        | succ k =>
          obtain ⟨u, h1, h2⟩ := eqCs_get h k v (by simpa using hk)
          exact ⟨u, by rw [← h1]; congr 1; omega, h2⟩
      · cases h
theorem eqRs_get {c : Cells} : ∀ {l : List AV} {j : Nat}, eqRs c l j = true → ∀ k v, l[k]? = some v → c.get (j + k) = some v
  | [], _, _, k, v, hk => by simp at hk
  | a :: l, j, h, k, v, hk => by
    have h : (Option.rec false (fun b => Bool.rec false (eqRs c l (j + 1)) (atomEq a b)) (c.get j) : Bool) = true := h
    cases hg : c.get j with
    | none => rw [hg] at h; cases h
    | some b =>
      rw [hg] at h
      have h : (Bool.rec false (eqRs c l (j + 1)) (atomEq a b) : Bool) = true := h
      rw [brecB] at h
      split at h
      · rename_i he
        cases k with
        | zero =>
          simp only [List.getElem?_cons_zero, Option.some.injEq] at hk
          subst hk
          rw [atomEq_imp he]
          simpa using hg
        | succ k =>
          have h1 := eqRs_get h k v (by simpa using hk)
          rw [← h1]; congr 1; omega
      · cases h
theorem eqNs_imp : ∀ {l m : List Nat}, eqNs l m = true → l = m
  | [], [], _ => rfl
  | [], _ :: _, h => by cases h
  | _ :: _, [], h => by cases h
  | a :: l, b :: m, h => by
    have h : (Bool.rec false (eqNs l m) (Nat.beq a b) : Bool) = true := h
    rw [brecB] at h
    split at h
    · rename_i he
      rw [Nat.eq_of_beq_eq_true he, eqNs_imp h]
    · cases h
theorem eqEs_cons {a b : AV × AV} {l m : List (AV × AV)} (h : eqEs ρ (a :: l) (b :: m) = true) : ren1 ρ a.1 = some b.1 ∧ ren1 ρ a.2 = some b.2 ∧ eqEs ρ l m = true := by
  have h : (Bool.rec false (Bool.rec false (eqEs ρ l m) (eqV ρ a.2 b.2)) (eqV ρ a.1 b.1) : Bool) = true := h
  rw [brecB] at h
  split at h
  · rename_i h1
    rw [brecB] at h
    split at h
    · rename_i h2
      exact ⟨eqV_imp h1, eqV_imp h2, h⟩
    · cases h
  · cases h
theorem eqEs_back : ∀ {l m : List (AV × AV)} {ms : List MapEntry}, eqEs ρ l m = true → EntsRel σ m ms → EntsRel (pull ρ σ) l ms
  | [], [], ms, _, h => by cases ms with
    | nil => trivial
    | cons _ _ => exact h.elim
  | [], _ :: _, _, h, _ => by cases h
  | _ :: _, [], _, h, _ => by cases h
  | a :: l, b :: m, ms, h, hx => by
    obtain ⟨h1, h2, h3⟩ := eqEs_cons h
    cases ms with
    | nil => exact hx.elim
    | cons e ms => exact ⟨ren1_back h1 hx.1, ren1_back h2 hx.2.1, eqEs_back h3 hx.2.2⟩
theorem eqEs_rel (hc : Carries ρ σ τ) : ∀ {l m : List (AV × AV)} {ms : List MapEntry}, eqEs ρ l m = true → EntsRel σ l ms → EntsRel τ m ms
  | [], [], ms, _, h => by cases ms with
    | nil => trivial
    | cons _ _ => exact h.elim
  | [], _ :: _, _, h, _ => by cases h
  | _ :: _, [], _, h, _ => by cases h
  | a :: l, b :: m, ms, h, hx => by
    obtain ⟨h1, h2, h3⟩ := eqEs_cons h
    cases ms with
    | nil => exact hx.elim
    | cons e ms => exact ⟨ren1_rel hc h1 hx.1, ren1_rel hc h2 hx.2.1, eqEs_rel hc h3 hx.2.2⟩
theorem renE_rel (hc : Carries ρ σ τ) : ∀ {l m : List (AV × AV)} {ms : List MapEntry}, renE ρ l = some m → EntsRel σ l ms → EntsRel τ m ms
  | [], m, ms, h, hx => by
    cases h
    cases ms with
    | nil => trivial
    | cons _ _ => exact hx.elim
  | a :: l, m, ms, h, hx => by
    have h : (match ren1 ρ a.1, ren1 ρ a.2 with
      | some x, some y => match renE ρ l with
        | some r => some ((x, y) :: r)
        | none => none
      | _, _ => none) = some m := h
    split at h
    · rename_i x y h1 h2
      split at h
      · rename_i r hr
        cases h
        cases ms with
        | nil => exact hx.elim
        | cons e ms => exact ⟨ren1_rel hc h1 hx.1, ren1_rel hc h2 hx.2.1, renE_rel hc hr hx.2.2⟩
      · cases h
    · cases h
theorem rawL_any : ∀ {l : List AV}, rawL l = true → ∀ (j : Nat) (v : AV), l[j]? = some v → ∀ {σ τ : Sig} {x : Value}, VRel σ v x → VRel τ v x
  | [], _, j, v, hj, _, _, _, _ => by simp at hj
  | a :: l, h, j, v, hj, σ, τ, x, hx => by
    cases j with
    | zero =>
      simp only [List.getElem?_cons_zero, Option.some.injEq] at hj
      subst hj
      cases a <;> first | (cases h; done) | skip
      all_goals cases hx
      all_goals first
        | exact .bool _
        | exact .int _ _
        | exact .str _ ‹_›
        | exact .nilp
        | exact .nils
        | exact .nilm
        | exact .nilf
        | exact .nili
    | succ j =>
      refine rawL_any (l := l) ?_ j v (by simpa using hj) hx
      cases a <;> first | (cases h; done) | exact h
def rawM : MB → Bool
  | .raw l _ => rawL l
  | _ => true
theorem eqCl_imp {a b : Cl} (h : eqCl a b = true) : a = b := by
  cases a <;> cases b <;> first | rfl | (cases h; done) | skip
  all_goals rw [Nat.eq_of_beq_eq_true h]
variable {h : Array Obj} {i : Info} {m : MB} {b : Blk}
theorem eqBk_back (hr : rawM m = true) (he : eqBk ρ m b = true) (hb : BlkRel σ b i h) : BlkRel (pull ρ σ) (blkOf m) i h := by
  unfold eqBk at he
  split at he
  · rename_i l cl c n cl'
    simp only [Bool.and_eq_true] at he
    obtain ⟨⟨h1, h2⟩, h3⟩ := he
    have h1 := Nat.eq_of_beq_eq_true h1
    have h2 := eqCl_imp h2
    subst h1 h2
    obtain ⟨cs, e, fz, g1, g2, g3, g4, g5, g6⟩ := hb
    refine ⟨cs, e, fz, g1, g2, g3, g4, g5, fun j v hj hv => ?_⟩
    rw [ofL_get] at hv
    obtain ⟨u, k1, k2⟩ := eqCs_get h3 j v hv
    rw [Nat.zero_add] at k1
    obtain ⟨x, k3, k4⟩ := g6 j u hj k1
    exact ⟨x, k3, ren1_back k2 k4⟩
  · rename_i l cl c n cl'
    simp only [Bool.and_eq_true] at he
    obtain ⟨⟨h1, h2⟩, h3⟩ := he
    have h1 := Nat.eq_of_beq_eq_true h1
    have h2 := eqCl_imp h2
    subst h1 h2
    obtain ⟨cs, e, fz, g1, g2, g3, g4, g5, g6⟩ := hb
    refine ⟨cs, e, fz, g1, g2, g3, g4, g5, fun j v hj hv => ?_⟩
    rw [ofL_get] at hv
    have k1 := eqRs_get h3 j v hv
    rw [Nat.zero_add] at k1
    obtain ⟨x, k3, k4⟩ := g6 j v hj k1
    exact ⟨x, k3, rawL_any hr j v hv k4⟩
  · rename_i es bs clk es' bs' clk'
    simp only [Bool.and_eq_true] at he
    obtain ⟨⟨h1, h2⟩, h3⟩ := he
    have h1 := Nat.eq_of_beq_eq_true h1
    have h2 := eqNs_imp h2
    subst h1 h2
    obtain ⟨ms, g1, g2, g3⟩ := hb
    exact ⟨ms, g1, eqEs_back h3 g2, g3⟩
  · cases he
theorem eqBk_rel (hr : rawM m = true) (hc : Carries ρ σ τ) (he : eqBk ρ m b = true) (hb : BlkRel σ (blkOf m) i h) : BlkRel τ b i h := by
  unfold eqBk at he
  split at he
  · rename_i l cl c n cl'
    simp only [Bool.and_eq_true] at he
    obtain ⟨⟨h1, h2⟩, h3⟩ := he
    have h1 := Nat.eq_of_beq_eq_true h1
    have h2 := eqCl_imp h2
    subst h1 h2
    obtain ⟨cs, e, fz, g1, g2, g3, g4, g5, g6⟩ := hb
    refine ⟨cs, e, fz, g1, g2, g3, g4, g5, fun j u hj hu => ?_⟩
    obtain ⟨u', k1, k2⟩ := eqCs_get h3 j _ (List.getElem?_eq_getElem hj)
    rw [Nat.zero_add, hu] at k1
    cases k1
    obtain ⟨x, k3, k4⟩ := g6 j _ hj (by rw [ofL_get]; exact List.getElem?_eq_getElem hj)
    exact ⟨x, k3, ren1_rel hc k2 k4⟩
  · rename_i l cl c n cl'
    simp only [Bool.and_eq_true] at he
    obtain ⟨⟨h1, h2⟩, h3⟩ := he
    have h1 := Nat.eq_of_beq_eq_true h1
    have h2 := eqCl_imp h2
    subst h1 h2
    obtain ⟨cs, e, fz, g1, g2, g3, g4, g5, g6⟩ := hb
    refine ⟨cs, e, fz, g1, g2, g3, g4, g5, fun j u hj hu => ?_⟩
    have k1 := eqRs_get h3 j _ (List.getElem?_eq_getElem hj)
    rw [Nat.zero_add, hu] at k1
    cases k1
    obtain ⟨x, k3, k4⟩ := g6 j _ hj (by rw [ofL_get]; exact List.getElem?_eq_getElem hj)
    exact ⟨x, k3, rawL_any hr j _ (List.getElem?_eq_getElem hj) k4⟩
  · rename_i es bs clk es' bs' clk'
    simp only [Bool.and_eq_true] at he
    obtain ⟨⟨h1, h2⟩, h3⟩ := he
    have h1 := Nat.eq_of_beq_eq_true h1
    have h2 := eqNs_imp h2
    subst h1 h2
    obtain ⟨ms, g1, g2, g3⟩ := hb
    exact ⟨ms, g1, eqEs_rel hc h3 g2, g3⟩
  · cases he
theorem renB_rel (hr : rawM m = true) (hc : Carries ρ σ τ) (he : renB ρ m = some b) (hb : BlkRel σ (blkOf m) i h) : BlkRel τ b i h := by
  unfold renB at he
  split at he
  · rename_i l cl
    split at he
    · rename_i l' hl
      cases he
      obtain ⟨cs, e, fz, g1, g2, g3, g4, g5, g6⟩ := hb
      have hlen : l'.length = l.length := by
        rcases renL1_get hl l.length with ⟨q1, q2⟩ | ⟨v, u, q1, _, _⟩
        · rcases renL1_get hl l'.length with ⟨r1, r2⟩ | ⟨v, u, _, r2, _⟩
          · have := List.getElem?_eq_none_iff.1 q2; have := List.getElem?_eq_none_iff.1 r1; omega
          · simp at r2
        · simp at q1
      refine ⟨cs, e, fz, g1, g2, by omega, g4, by rw [hlen]; exact g5, fun j u hj hu => ?_⟩
      rw [ofL_get] at hu
      rcases renL1_get hl j with ⟨q1, q2⟩ | ⟨v, u', q1, q2, q3⟩
      · rw [q2] at hu; cases hu
      · rw [q2] at hu
        cases hu
        obtain ⟨x, k3, k4⟩ := g6 j v (by omega) (by rw [ofL_get]; exact q1)
        exact ⟨x, k3, ren1_rel hc q3 k4⟩
    · cases he
  · rename_i l cl
    cases he
    obtain ⟨cs, e, fz, g1, g2, g3, g4, g5, g6⟩ := hb
    refine ⟨cs, e, fz, g1, g2, g3, g4, g5, fun j u hj hu => ?_⟩
    obtain ⟨x, k3, k4⟩ := g6 j u hj hu
    rw [ofL_get] at hu
    exact ⟨x, k3, rawL_any hr j u hu k4⟩
  · rename_i es bs clk
    split at he
    · rename_i es' hes
      cases he
      obtain ⟨ms, g1, g2, g3⟩ := hb
      exact ⟨ms, g1, renE_rel hc hes g2, g3⟩
    · cases he

/- THE LISTS. -/
theorem rawOk_mem : ∀ {l : List (Nat × MB)}, rawOk l = true → ∀ i m, (i, m) ∈ l → rawM m = true
  | [], _, _, _, h => by cases h
  | (j, n) :: l, h, i, m, hm => by
    rcases List.mem_cons.1 hm with e | hm
    · cases e
      cases n with
      | raw l' cl => simp only [rawOk, Bool.and_eq_true] at h; exact h.1
      | _ => rfl
    · refine rawOk_mem (l := l) ?_ i m hm
      cases n with
      | raw l' cl => simp only [rawOk, Bool.and_eq_true] at h; exact h.2
      | _ => exact h
theorem idsOk_mem {a c : Nat} : ∀ {l : List (Nat × MB)}, idsOk a c l = true → ∀ i m, (i, m) ∈ l → a ≤ i ∧ i < c
  | [], _, _, _, h => by cases h
  | (j, n) :: l, h, i, m, hm => by
    simp only [idsOk, Bool.and_eq_true] at h
    rcases List.mem_cons.1 hm with e | hm
    · cases e
      exact ⟨Nat.le_of_ble_eq_true h.1.1, Nat.le_of_ble_eq_true h.1.2⟩
    · exact idsOk_mem h.2 i m hm
theorem insOk_mem {n0 : Nat} {t : T Nat} {hp : Hp} : ∀ {l : List (Nat × MB)}, insOk n0 t hp l = true → ∀ i m, (i, m) ∈ l → ∃ k b, rho n0 t i = some k ∧ hp.get k = some b ∧ eqBk (rho n0 t) m b = true
  | [], _, _, _, h => by cases h
  | (j, n) :: l, h, i, m, hm => by
    simp only [insOk] at h
    split at h
    · rename_i k hk
      split at h
      · rename_i b hb
        simp only [Bool.and_eq_true] at h
        rcases List.mem_cons.1 hm with e | hm
        · cases e; exact ⟨k, b, hk, hb, h.1⟩
        · exact insOk_mem h.2 i m hm
      · cases h
    · cases h
theorem injOk_mem {t u : T Nat} : ∀ {l : List (Nat × MB)}, injOk t u l = true → ∀ i m, (i, m) ∈ l → ∃ k, t.get i = some k ∧ u.get k = some i
  | [], _, _, _, h => by cases h
  | (j, n) :: l, h, i, m, hm => by
    simp only [injOk] at h
    split at h
    · rename_i k hk
      simp only [Bool.and_eq_true] at h
      rcases List.mem_cons.1 hm with e | hm
      · cases e
        refine ⟨k, hk, ?_⟩
        have h1 := h.1
        unfold isAt at h1
        split at h1
        · rename_i k' hk'
          rw [hk', Nat.eq_of_beq_eq_true h1]
        · cases h1
      · exact injOk_mem h.2 i m hm
    · cases h
theorem toldIn_mem {hp : Hp} : ∀ {l : List (Nat × MB)}, toldIn hp l = true → ∀ i m, (i, m) ∈ l → ∃ b, hp.get i = some b ∧ eqBk some m b = true
  | [], _, _, _, h => by cases h
  | (j, n) :: l, h, i, m, hm => by
    simp only [toldIn] at h
    split at h
    · rename_i b hb
      simp only [Bool.and_eq_true] at h
      rcases List.mem_cons.1 hm with e | hm
      · cases e; exact ⟨b, hb, h.1⟩
      · exact toldIn_mem h.2 i m hm
    · cases h
theorem layI_mem {i : Nat} {b : Blk} : ∀ {l : List (Nat × MB)}, (layI l).get i = some b → ∃ m, (i, m) ∈ l ∧ b = blkOf m
  | [], h => by simp [layI, T.get_leaf] at h
  | (j, n) :: l, h => by
    simp only [layI] at h
    rw [T.get_set] at h
    split at h
    · rename_i e
      subst e
      cases h
      exact ⟨n, List.mem_cons_self .., rfl⟩
    · obtain ⟨m, h1, h2⟩ := layI_mem h
      exact ⟨m, List.mem_cons_of_mem _ h1, h2⟩
theorem layO_mem {ρ : Nat → Option Nat} {k : Nat} {b : Blk} : ∀ {l : List (Nat × MB)} {hp hp' : Hp}, layO ρ hp l = some hp' → hp'.get k = some b → (∃ i m, (i, m) ∈ l ∧ ρ i = some k ∧ renB ρ m = some b) ∨ (hp.get k = some b ∧ ∀ i m, (i, m) ∈ l → ρ i ≠ some k)
  | [], hp, hp', h, hb => by
    cases h
    exact .inr ⟨hb, fun _ _ h => by cases h⟩
  | (j, n) :: l, hp, hp', h, hb => by
    simp only [layO] at h
    split at h
    · rename_i k' b' hk' hb'
      rcases layO_mem h hb with ⟨i, m, h1, h2⟩ | ⟨h1, h2⟩
      · exact .inl ⟨i, m, List.mem_cons_of_mem _ h1, h2⟩
      · rw [T.get_set] at h1
        split at h1
        · rename_i e
          subst e
          cases h1
          exact .inl ⟨j, n, List.mem_cons_self .., hk', hb'⟩
        · rename_i e
          refine .inr ⟨h1, fun i m hm hi => ?_⟩
          rcases List.mem_cons.1 hm with e' | hm
          · cases e'
            rw [hk'] at hi
            cases hi
            exact e rfl
          · exact h2 i m hm hi
    · cases h
theorem eqV2_imp {a b : AV} (h : eqV2 a b = true) : a = b := by
  unfold eqV2 at h
  split at h
  · rename_i l m
    have key : ∀ (l m : List AV), (List.rec (motive := fun _ => List AV → Bool) (fun m => List.rec true (fun _ _ _ => false) m) (fun a _ ih m => List.rec false (fun b m' _ => Bool.rec false (ih m') (avEq a b)) m) l m : Bool) = true → l = m := by
      intro l
      induction l with
      | nil => intro m h; cases m with
        | nil => rfl
        | cons _ _ => cases h
      | cons a l ih => intro m h; cases m with
        | nil => cases h
        | cons b m =>
          simp only at h
          rw [brecB] at h
          split at h
          · rename_i he
            rw [avEq_imp he, ih m h]
          · cases h
    rw [key l m h]
  · exact avEq_imp h
theorem rho_some {n0 : Nat} {t : T Nat} {i k : Nat} (h : rho n0 t i = some k) : i < n0 ∧ t.get i = some k := by
  unfold rho at h
  have e : (Bool.rec none (t.get i) (Nat.ble (Nat.succ i) n0) : Option Nat) = if Nat.ble (Nat.succ i) n0 = true then t.get i else none := by cases Nat.ble (Nat.succ i) n0 <;> rfl
  rw [e] at h
  split at h
  · rename_i hb
    exact ⟨Nat.le_of_ble_eq_true hb, h⟩
  · cases h
theorem rho_lt {n0 : Nat} {t : T Nat} {i : Nat} (h : i < n0) : rho n0 t i = t.get i := by
  unfold rho
  rw [Nat.ble_eq_true_of_le (show Nat.succ i ≤ n0 from h)]
theorem rho'_lt {n0 nx : Nat} {t : T Nat} {i : Nat} (h : i < n0) : rho' n0 nx t i = t.get i := by
  unfold rho'
  rw [Nat.ble_eq_true_of_le (show Nat.succ i ≤ n0 from h)]
theorem rho'_ge {n0 nx : Nat} {t : T Nat} {i : Nat} (h : n0 ≤ i) : rho' n0 nx t i = some (nx + (i - n0)) := by
  unfold rho'
  have : Nat.ble (Nat.succ i) n0 = false := by
    cases hb : Nat.ble (Nat.succ i) n0 with
    | false => rfl
    | true => have := Nat.le_of_ble_eq_true hb; omega
  rw [this]
  rfl
end Go.Proofs.YtdjeokgkeejpcaaGreatDoor.AX

namespace Go.Proofs.YtdjeokgkeejpcaaGreatDoor.AX
open Go
theorem recallA_good {C D : Ctx} {cl : CallF} (hc : CallsOk D cl) (hP : D.P = C.P) (hG : D.gl = C.gl) {f : FuncId} {m : Memo} (hb : ∃ (fn : Func) (c : Code), C.P.funcs[f]? = some fn ∧ fn.body = some c)
    (hf : formOk m = true) (hm : memoOk cl f m = true) : OrcGood C f (recallA m) := by
  refine ⟨hb, fun args hp nx v hp' nx' ho => ?_⟩
  simp only [formOk, Bool.and_eq_true] at hf
  obtain ⟨⟨⟨⟨f1, f2⟩, f3⟩, f4⟩, f5⟩ := hf
  have f5 := Nat.le_of_ble_eq_true f5
  unfold memoOk at hm
  split at hm
  rotate_left
  · cases hm
  rename_i v1 hp1 nx1 hrun
  simp only [Bool.and_eq_true] at hm
  obtain ⟨⟨⟨m1, m2⟩, m3⟩, m4⟩ := hm
  obtain rfl := eqV2_imp m1
  have m2 := Nat.eq_of_beq_eq_true m2
  subst m2
  unfold recallA at ho
  simp only at ho
  generalize uniI hp m.ins (uniL1 m.args args T.leaf) = t at ho
  split at ho
  rotate_left
  · cases ho
  rename_i hchk
  simp only [Bool.and_eq_true] at hchk
  obtain ⟨⟨c1, c2⟩, c3⟩ := hchk
  split at ho
  rotate_left
  · cases ho
  rename_i v2 hp2 hv2 hl2
  cases ho
  refine ⟨Nat.le_add_right _ _, fun pr σ w args' r hg hfr ha => ?_⟩
  -- the places
  have hin : ∀ i b, (i, b) ∈ m.ins → i < m.n0 ∧ ∃ k bl j, t.get i = some k ∧ hp.get k = some bl ∧ σ k = some j ∧ BlkRel σ bl j w.heap ∧ eqBk (rho m.n0 t) b bl = true := by
    intro i b hi
    obtain ⟨k, bl, h1, h2, h3⟩ := insOk_mem c2 i b hi
    obtain ⟨g1, g2⟩ := rho_some h1
    obtain ⟨j, h4, h5⟩ := r.blk k bl h2
    exact ⟨g1, k, bl, j, g2, h2, h4, h5, h3⟩
  have hinj : ∀ i b i' b' k, (i, b) ∈ m.ins → (i', b') ∈ m.ins → t.get i = some k → t.get i' = some k → i = i' := by
    intro i b i' b' k hi hi' h1 h2
    obtain ⟨k1, g1, g2⟩ := injOk_mem c3 i b hi
    obtain ⟨k2, g3, g4⟩ := injOk_mem c3 i' b' hi'
    rw [h1] at g1
    rw [h2] at g3
    cases g1
    cases g3
    rw [g2] at g4
    exact Option.some.inj g4
  -- the world that the call saw
  let σ0 : Sig := pull (rho m.n0 t) σ
  let Im : Nat → Prop := fun q => ∃ i b k j, (i, b) ∈ m.ins ∧ t.get i = some k ∧ σ k = some j ∧ j.blk = q
  classical
  let pr0 : Pr := ⟨fun q => if Im q then none else w.heap[q]?, w.os, (w.output, w.tape)⟩
  have im_not : ∀ q o, pr q = some o → ¬ Im q := by
    rintro q o hq ⟨i, b, k, j, hi, h1, h2, rfl⟩
    obtain ⟨_, k', bl, j', g1, g2, g3, _⟩ := hin i b hi
    rw [h1] at g1
    cases g1
    have := r.free _ _ _ g2 h2
    rw [hq] at this
    cases this
  have s0 : ∀ i b, (i, b) ∈ m.ins → ∃ k j, t.get i = some k ∧ σ k = some j ∧ σ0 i = some j := by
    intro i b hi
    obtain ⟨h0, k, bl, j, h1, h2, h3, _⟩ := hin i b hi
    exact ⟨k, j, h1, h3, by show pull _ σ i = _; rw [pull_at (by rw [rho_lt h0]; exact h1)]; exact h3⟩
  have r0 : R pr0 σ0 (layI m.ins) w := by
    refine ⟨fun i b hb => ?_, fun i i' b b' j j' hb hb' hj hj' e => ?_, fun q o hq => ?_, fun i b j hb hj => ?_, rfl, rfl⟩
    · obtain ⟨mb, h1, rfl⟩ := layI_mem hb
      obtain ⟨h0, k, bl, j, h2, h3, h4, h5, h6⟩ := hin i mb h1
      obtain ⟨k', j', g1, g2, g3⟩ := s0 i mb h1
      rw [h2] at g1; cases g1
      rw [h4] at g2; cases g2
      exact ⟨j, g3, eqBk_back (rawOk_mem f1 i mb h1) h6 h5⟩
    · obtain ⟨mb, h1, _⟩ := layI_mem hb
      obtain ⟨mb', h1', _⟩ := layI_mem hb'
      obtain ⟨_, k, bl, _, h2, h3, _⟩ := hin i mb h1
      obtain ⟨_, k', bl', _, h2', h3', _⟩ := hin i' mb' h1'
      obtain ⟨k1, j1, g1, g2, g3⟩ := s0 i mb h1
      obtain ⟨k2, j2, g4, g5, g6⟩ := s0 i' mb' h1'
      rw [h2] at g1; cases g1
      rw [h2'] at g4; cases g4
      rw [hj] at g3; cases g3
      rw [hj'] at g6; cases g6
      have := r.inj _ _ _ _ _ _ h3 h3' g2 g5 e
      subst this
      exact hinj i mb i' mb' _ h1 h1' h2 h2'
    · have hq : (if Im q then none else w.heap[q]?) = some o := hq
      split at hq
      · cases hq
      · exact hq
    · obtain ⟨mb, h1, _⟩ := layI_mem hb
      obtain ⟨k1, j1, g1, g2, g3⟩ := s0 i mb h1
      rw [hj] at g3; cases g3
      show (if Im j.blk then none else w.heap[j.blk]?) = none
      rw [if_pos ⟨i, mb, k1, j, h1, g1, g2, rfl⟩]
  have hg0 : GlOk D pr0 := by
    intro g c hgc
    rw [hG] at hgc
    obtain ⟨cs, e, fz, h1, h2⟩ := hg g c hgc
    refine ⟨cs, e, fz, ?_, h2⟩
    show (if Im g then none else w.heap[g]?) = _
    rw [if_neg (im_not _ _ h1)]
    exact r.prot _ _ h1
  have hfr0 : Fresh σ0 m.n0 m.n1 := by
    intro id h1 _
    show pull (rho m.n0 t) σ id = none
    have : rho m.n0 t id = none := by
      cases hh : rho m.n0 t id with
      | none => rfl
      | some k => have := (rho_some hh).1; omega
    simp [pull, this]
  have ha0 : VRels σ0 m.args args'.toList := eqLs_back c1 ha
  have key := (hc.fn f m.args (layI m.ins) m.n0 m.out hp1 m.n1 hrun pr0 σ0 w args' r0 hg0 hfr0 ha0).2
  rw [hP] at key
  refine key.mono ?_
  rintro e w' ⟨τ0, y, rfl, hy, hext, hR⟩
  -- the names behind
  have old : ∀ id, σ id ≠ none → ¬ (nx ≤ id ∧ id < nx + (m.n1 - m.n0)) := fun id h1 h2 => h1 (hfr id h2.1 h2.2)
  let τ : Sig := fun k => if nx ≤ k ∧ k < nx + (m.n1 - m.n0) then τ0 (m.n0 + (k - nx)) else σ k
  have t_old : ∀ k j, σ k = some j → τ k = some j := fun k j h => by
    show (if _ then _ else _) = _
    rw [if_neg (old k (by rw [h]; simp))]
    exact h
  have hcar : Carries (rho' m.n0 nx t) τ0 τ := by
    intro i k hk j hj
    rcases Nat.lt_or_ge i m.n0 with hi | hi
    · rw [rho'_lt hi] at hk
      have h1 : τ0 i = σ0 i := hext.out i (.inl hi)
      have h2 : σ0 i = σ k := by show pull _ σ i = _; exact pull_at (by rw [rho_lt hi]; exact hk)
      rw [h1, h2] at hj
      exact t_old k j hj
    · rw [rho'_ge hi] at hk
      cases hk
      have hlt : i < m.n1 := by
        rcases Nat.lt_or_ge i m.n1 with h | h
        · exact h
        · rw [hext.out i (.inr h)] at hj
          have : σ0 i = none := by
            show pull (rho m.n0 t) σ i = none
            have : rho m.n0 t i = none := by
              cases hh : rho m.n0 t i with
              | none => rfl
              | some k => have := (rho_some hh).1; omega
            simp [pull, this]
          rw [this] at hj; cases hj
      show (if _ then _ else _) = _
      rw [if_pos (by omega), show m.n0 + (nx + (i - m.n0) - nx) = i from by omega]
      exact hj
  have hout : ∀ i b, (i, b) ∈ m.outs → m.n0 ≤ i ∧ i < m.n1 ∧ ∃ b1 j, hp1.get i = some b1 ∧ τ0 i = some j ∧ BlkRel τ0 (blkOf b) j w'.heap := by
    intro i b hi
    obtain ⟨h1, h2⟩ := idsOk_mem f4 i b hi
    obtain ⟨b1, h3, h4⟩ := toldIn_mem m4 i b hi
    obtain ⟨j, h5, h6⟩ := hR.blk i b1 h3
    have := eqBk_back (rawOk_mem f2 i b hi) h4 h6
    rw [pull_some] at this
    exact ⟨h1, h2, b1, j, h3, h5, this⟩
  have hins : ∀ i b, (i, b) ∈ m.ins → ∃ b1 j, hp1.get i = some b1 ∧ τ0 i = some j ∧ σ0 i = some j ∧ BlkRel τ0 (blkOf b) j w'.heap := by
    intro i b hi
    obtain ⟨b1, h3, h4⟩ := toldIn_mem m3 i b hi
    obtain ⟨j, h5, h6⟩ := hR.blk i b1 h3
    have := eqBk_back (rawOk_mem f1 i b hi) h4 h6
    rw [pull_some] at this
    obtain ⟨h0, _⟩ := hin i b hi
    exact ⟨b1, j, h3, h5, by rw [← hext.out i (.inl h0)]; exact h5, this⟩
  have hle1 : m.n0 ≤ m.n1 := f5
  -- what stands at a name
  have hget : ∀ k b, hp'.get k = some b → (∃ i mb b1 j, (i, mb) ∈ m.outs ∧ m.n0 ≤ i ∧ k = nx + (i - m.n0) ∧ hp1.get i = some b1 ∧ τ0 i = some j ∧ τ k = some j ∧ BlkRel τ b j w'.heap) ∨ (∃ j, hp.get k = some b ∧ σ k = some j ∧ τ k = some j ∧ BlkRel σ b j w.heap) := by
    intro k b hb
    rcases layO_mem hl2 hb with ⟨i, mb, h1, h2, h3⟩ | ⟨h1, _⟩
    · obtain ⟨g1, g2, b1, j, g3, g4, g5⟩ := hout i mb h1
      have hk := h2
      rw [rho'_ge g1] at hk
      cases hk
      exact .inl ⟨i, mb, b1, j, h1, g1, rfl, g3, g4, hcar i _ h2 j g4, renB_rel (rawOk_mem f2 i mb h1) hcar h3 g5⟩
    · obtain ⟨j, h2, h3⟩ := r.blk k b h1
      exact .inr ⟨j, h1, h2, t_old k j h2, h3⟩
  have new_im : ∀ i b1 j q, hp1.get i = some b1 → τ0 i = some j → w.heap[j.blk]? = some q → m.n0 ≤ i → False := by
    intro i b1 j q h1 h2 h3 h4
    have hfree : (if Im j.blk then none else w.heap[j.blk]?) = none := hR.free i b1 j h1 h2
    split at hfree
    · rename_i him
      obtain ⟨i', b', k', j', g1, g2, g3, g4⟩ := him
      obtain ⟨b2, j2, g5, g6, g7, _⟩ := hins i' b' g1
      obtain ⟨k2, j3, g8, g9, g10⟩ := s0 i' b' g1
      rw [g2] at g8; cases g8
      rw [g3] at g9; cases g9
      rw [g10] at g7; cases g7
      have := hR.inj _ _ _ _ _ _ h1 g5 h2 g6 g4.symm
      have := (hin i' b' g1).1
      omega
    · rw [h3] at hfree; cases hfree
  refine ⟨τ, y, rfl, ren2_rel hcar hv2 hy, ⟨fun id j hj => t_old id j hj, Nat.le_add_right _ _, fun id hid => ?_⟩, ⟨fun k b hb => ?_, fun k k' b b' j j' hb hb' hj hj' e => ?_, fun q o hq => ?_, fun k b j hb hj => ?_, ?_, ?_⟩⟩
  · show (if _ then _ else _) = _
    have hid : id < nx ∨ nx + (m.n1 - m.n0) ≤ id := hid
    rw [if_neg (by omega)]
  · rcases hget k b hb with ⟨i, mb, b1, j, _, _, _, _, _, h6, h7⟩ | ⟨j, h1, h2, h3, h4⟩
    · exact ⟨j, h6, h7⟩
    · refine ⟨j, h3, ?_⟩
      by_cases him : Im j.blk
      · obtain ⟨i', b', k', j', g1, g2, g3, g4⟩ := him
        obtain ⟨h0, k2, bl, j2, q1, q2, q3, q4, q5⟩ := hin i' b' g1
        rw [g2] at q1; cases q1
        rw [g3] at q3; cases q3
        have := r.inj _ _ _ _ _ _ h1 q2 h2 g3 g4.symm
        subst this
        rw [h1] at q2; cases q2
        rw [h2] at g3; cases g3
        obtain ⟨b2, j3, p1, p2, p3, p4⟩ := hins i' b' g1
        obtain ⟨k4, j4, p5, p6, p7⟩ := s0 i' b' g1
        rw [g2] at p5; cases p5
        rw [h2] at p6; cases p6
        rw [p7] at p3; cases p3
        have hc2 : Carries (rho m.n0 t) τ0 τ := fun i k hk j hj => by
          obtain ⟨u1, u2⟩ := rho_some hk
          exact hcar i k (by rw [rho'_lt u1]; exact u2) j hj
        exact eqBk_rel (rawOk_mem f1 i' b' g1) hc2 q5 p4
      · have hlt := h4.lt
        have hw : w.heap[j.blk]? = some w.heap[j.blk] := Array.getElem?_eq_getElem hlt
        have : pr0 j.blk = some w.heap[j.blk] := by
          show (if Im j.blk then none else w.heap[j.blk]?) = _
          rw [if_neg him]; exact hw
        have hw' := hR.prot _ _ this
        exact (h4.mono (fun a c hac => t_old a c hac)).heap (by rw [hw', hw])
  · rcases hget k b hb with ⟨i, mb, b1, j1, h1, h2, h3, h4, h5, h6, h7⟩ | ⟨j1, h1, h2, h3, h4⟩ <;> rcases hget k' b' hb' with ⟨i', mb', b1', j1', h1', h2', h3', h4', h5', h6', h7'⟩ | ⟨j1', h1', h2', h3', h4'⟩
    · rw [hj] at h6; cases h6
      rw [hj'] at h6'; cases h6'
      have := hR.inj _ _ _ _ _ _ h4 h4' h5 h5' e
      rw [h3, h3', this]
    · rw [hj] at h6; cases h6
      rw [hj'] at h3'; cases h3'
      exact (new_im i b1 j _ h4 h5 (by rw [e]; exact Array.getElem?_eq_getElem h4'.lt) h2).elim
    · rw [hj] at h3; cases h3
      rw [hj'] at h6'; cases h6'
      exact (new_im i' b1' j' _ h4' h5' (by rw [← e]; exact Array.getElem?_eq_getElem h4.lt) h2').elim
    · rw [hj] at h3; cases h3
      rw [hj'] at h3'; cases h3'
      exact r.inj _ _ _ _ _ _ h1 h1' h2 h2' e
  · refine hR.prot q o ?_
    show (if Im q then none else w.heap[q]?) = _
    rw [if_neg (im_not _ _ hq)]
    exact r.prot _ _ hq
  · rcases hget k b hb with ⟨i, mb, b1, j1, h1, h2, h3, h4, h5, h6, h7⟩ | ⟨j1, h1, h2, h3, h4⟩
    · rw [hj] at h6; cases h6
      cases hq : pr j.blk with
      | none => rfl
      | some o => exact (new_im i b1 j o h4 h5 (r.prot _ _ hq) h2).elim
    · rw [hj] at h3; cases h3
      exact r.free _ _ _ h1 h2
  · exact hR.same.1.trans r.same.1
  · exact hR.same.2.trans r.same.2
theorem recallL_good {C : Ctx} {f : FuncId} (hb : ∃ (fn : Func) (c : Code), C.P.funcs[f]? = some fn ∧ fn.body = some c) : ∀ {l : List Memo}, (∀ m, m ∈ l → OrcGood C f (recallA m)) → OrcGood C f (recallL l)
  | [], _ => ⟨hb, fun args hp nx v hp' nx' h => by cases h⟩
  | m :: l, hl => by
    refine ⟨hb, fun args hp nx v hp' nx' h => ?_⟩
    simp only [recallL] at h
    split at h
    · rename_i r hr
      cases h
      exact (hl m (List.mem_cons_self ..)).2 _ _ _ _ _ _ hr
    · exact (recallL_good hb (l := l) fun m hm => hl m (List.mem_cons_of_mem _ hm)).2 _ _ _ _ _ _ h
/-- A deferred function that asks for a panic, and finds none. -/
noncomputable def idleA (n : Nat) (args : List AV) (hp : Hp) (nx : Nat) : Option (AV × Hp × Nat) :=
  match Nat.beq args.length n with
  | true => some (.tup [], hp, nx)
  | false => none
theorem idle_ok {P : Program} {gl : T Cells} {x : T Nat} {y : T (List AV → Hp → Nat → Option (AV × Hp × Nat))} {b : Bool} {f n : Nat} (hb : ∃ (fn : Func) (c : Code), P.funcs[f]? = some fn ∧ fn.body = some c)
    (h : ∀ (args : Array Value) (w : World), args.size = n → CallsDIn Fence.wide 0 P f args .returning w fun e u' w' => e = .returned (.tuple #[]) ∧ u' = .returning ∧ w' = w) : DfdOk ⟨P, gl, x, y, T.set .leaf f (idleA n), b⟩ := by
  intro g o ho
  simp only at ho
  rw [T.get_set] at ho
  split at ho
  · rename_i e
    subst e
    cases ho
    refine ⟨hb, fun args hp nx v hp' nx' hv => ?_⟩
    unfold idleA at hv
    split at hv
    · rename_i hl
      cases hv
      refine ⟨Nat.le_refl _, fun pr σ w args' r hg hf ha => ?_⟩
      have hl := Nat.eq_of_beq_eq_true hl
      have := ha.length
      refine CallsDIn.mono (h args' w (by simp at this; omega)) ?_
      rintro e u' w' ⟨rfl, rfl, rfl⟩
      exact ⟨rfl, σ, _, rfl, .tup .nil, Ext.refl _ _, r⟩
    · cases hv
  · simp [T.get_leaf] at ho
/-- A program with what is known of its calls. -/
noncomputable def ctxOf (P : Program) (gl : T Cells) (d t : T (List AV → Hp → Nat → Option (AV × Hp × Nat))) : Ctx := ⟨P, gl, .leaf, t, d, false⟩
section
variable {P : Program} {gl : T Cells} {d t : T (List AV → Hp → Nat → Option (AV × Hp × Nat))}
/-- What a table of known answers is to be. -/
def TabOk (P : Program) (gl : T Cells) (d t : T (List AV → Hp → Nat → Option (AV × Hp × Nat))) : Prop := ∀ s f o, t.get f = some o → OrcGood (ctxOf P gl d s) f o
theorem TabOk.orc (h : TabOk P gl d t) : OrcOk (ctxOf P gl d t) := OrcOk.of (h t)
theorem TabOk.calls (hP : POk P) (hd : ∀ s, DfdOk (ctxOf P gl d s)) (h : TabOk P gl d t) (n : Nat) : CallsOk (ctxOf P gl d t) (callA (ctxOf P gl d t) n) := callA_ok hP ExtOk.leaf h.orc (hd t) n
/-- One more told call. -/
theorem TabOk.tell (hP : POk P) (hd : ∀ s, DfdOk (ctxOf P gl d s)) (h : TabOk P gl d t) {n f : Nat} {m : Memo} {l : List Memo} (hb : ∃ (fn : Func) (c : Code), P.funcs[f]? = some fn ∧ fn.body = some c) (hf : formOk m = true) (hm : memoOk (callS (ctxOf P gl d t) n) f m = true)
    (hl : ∀ x, x ∈ l → ∀ s, OrcGood (ctxOf P gl d s) f (recallA x)) : TabOk P gl d (t.set f (recallL (m :: l))) ∧ ∀ x, x ∈ m :: l → ∀ s, OrcGood (ctxOf P gl d s) f (recallA x) := by
  have hm' : ∀ s, OrcGood (ctxOf P gl d s) f (recallA m) := fun s => recallA_good (D := ctxOf P gl d t) (C := ctxOf P gl d s) (h.calls hP hd n) rfl rfl hb hf (by rw [← callS_eq]; exact hm)
  have hall : ∀ x, x ∈ m :: l → ∀ s, OrcGood (ctxOf P gl d s) f (recallA x) := fun x hx s => by
    rcases List.mem_cons.1 hx with rfl | hx
    · exact hm' s
    · exact hl x hx s
  exact ⟨fun s => orc_set (recallL_good hb fun x hx => hall x hx s) (h s), hall⟩
/-- A law that is run whole. -/
theorem TabOk.run (hP : POk P) (hd : ∀ s, DfdOk (ctxOf P gl d s)) (h : TabOk P gl d t) {n f : Nat} {args : List AV} {args' : Array Value} {w : World} (hr : saysTrue (callS (ctxOf P gl d t) n (.fn f) args .leaf 0) = true) (hg : GlOk (ctxOf P gl d t) (prOf w)) (ha : VRels (fun _ => none) args args'.toList) :
    Calls P f args' w (fun e w' => e = .returned (.bool true) ∧ Kept w w') := by
  obtain ⟨hp', nx', hr⟩ := saysTrue_spec hr
  rw [callS_eq] at hr
  refine (calls_of (C := ctxOf P gl d t) hP ExtOk.leaf h.orc (hd t) hr hg ha).mono fun e w' hp => ?_
  obtain ⟨τ, v', rfl, h2, h3⟩ := hp
  obtain rfl := h2.bool_inv
  exact ⟨rfl, h3⟩
/-- A family of told calls, by a byte that is handed in. -/
noncomputable def famA (N : Nat) (ms : Nat → List Memo) (args : List AV) (hp : Hp) (nx : Nat) : Option (AV × Hp × Nat) :=
  match args with
  | [_, _, .int .u8 (.ofNat b)] => match Nat.ble (Nat.succ b) N with
    | true => recallL (ms b) args hp nx
    | false => none
  | _ => none
theorem TabOk.family (hP : POk P) (hd : ∀ s, DfdOk (ctxOf P gl d s)) (h : TabOk P gl d t) {n f N : Nat} {ms : Nat → List Memo} (hb : ∃ (fn : Func) (c : Code), P.funcs[f]? = some fn ∧ fn.body = some c)
    (hf : (List.range N).all (fun b => (ms b).all formOk) = true) (hm : (List.range N).all (fun b => (ms b).all (memoOk (callS (ctxOf P gl d t) n) f)) = true) : TabOk P gl d (t.set f (famA N ms)) := by
  refine fun s => orc_set ⟨hb, fun args hp nx v hp' nx' ho => ?_⟩ (h s)
  unfold famA at ho
  split at ho
  · rename_i b
    split at ho
    · rename_i hlt
      have hlt := Nat.le_of_ble_eq_true hlt
      have h1 := List.all_eq_true.1 hf b (List.mem_range.2 hlt)
      have h2 := List.all_eq_true.1 hm b (List.mem_range.2 hlt)
      refine (recallL_good (C := ctxOf P gl d s) (f := f) hb (l := ms b) fun m hmem => ?_).2 _ _ _ _ _ _ ho
      exact recallA_good (D := ctxOf P gl d t) (C := ctxOf P gl d s) (h.calls hP hd n) rfl rfl hb (List.all_eq_true.1 h1 m hmem) (by rw [← callS_eq]; exact List.all_eq_true.1 h2 m hmem)
    · cases ho
  · cases ho
end
end Go.Proofs.YtdjeokgkeejpcaaGreatDoor.AX
