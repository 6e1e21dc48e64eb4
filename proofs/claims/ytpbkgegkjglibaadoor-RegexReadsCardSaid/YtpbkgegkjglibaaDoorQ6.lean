/- Regex, plain: what RegexReads says. -/
import Derived.Test.YtpbkgegkjglibaaDoorQ3
import Derived.Test.YtpbkgegkjglibaaDoorS10
import Derived.Test.YtpbkgegkjglibaaDoorA8
namespace Go.Proofs.YtpbkgegkjglibaaDoor
open Go
/-- No error; an error at a byte; an error at the end. -/
def EOk (s : ByteArray) (k : Nat) (e : Int) : Prop := e = 0 ∨ (e = 7 ∧ k < s.size) ∨ (e = 8 ∧ k = s.size)
def E3 (s : ByteArray) (x : Int × Int × Int) : Prop := EOk s x.2.1.toNat x.2.2
theorem digits_e (s : ByteArray) (a : Nat) : E3 s (digitsV s a 0) := by
  unfold digitsV failV E3
  split
  · exact .inr (.inr ⟨rfl, by simp⟩)
  · split
    · exact .inr (.inl ⟨rfl, by simp; omega⟩)
    · split
      · exact .inr (.inr ⟨rfl, by simp⟩)
      · split
        · exact .inr (.inl ⟨rfl, by simp; omega⟩)
        · exact .inl rfl
theorem escape_e (s : ByteArray) (a : Nat) : E3 s (escapeV s a 0) := by
  unfold escapeV
  split
  · exact .inr (.inr ⟨rfl, by simp [failV]⟩)
  · rename_i hm
    have hal : a < s.size := by
      rw [Bool.not_eq_false, more_iff] at hm
      exact hm.2
    split
    · exact digits_e s a
    · split
      · exact .inr (.inl ⟨rfl, by simpa [failV] using hal⟩)
      · exact .inl rfl
theorem one_e (s : ByteArray) (a : Nat) : E3 s (oneV s a 0) := by
  unfold oneV
  split
  · exact escape_e s (a + 1)
  · exact .inl rfl
theorem pair_e (s : ByteArray) (a : Nat) : EOk s (clsPair s a).2.2.1 (clsPair s a).2.2.2 := by
  unfold clsPair
  dsimp only
  split
  · rename_i hc
    split
    · exact .inr (.inl ⟨rfl, hc.2.1⟩)
    · exact one_e s _
  · exact one_e s a
theorem clsL_e (s : ByteArray) : ∀ (n a : Nat) (e : Int) (W : C4), EOk s a e → EOk s (clsL s n a e W).1 (clsL s n a e W).2.1
  | 0, _, _, _, h => h
  | n + 1, a, e, W, h => by
    unfold clsL
    split
    · exact clsL_e s n _ _ _ (pair_e s a)
    · exact h
theorem class_e (s : ByteArray) (a : Nat) : EOk s (classV s a).2.1 (classV s a).2.2 := by
  unfold classV
  obtain ⟨nt, hnt⟩ : ∃ nt, nt = (moreV s.size a 0 && (byteI s a == 94)) := ⟨_, rfl⟩
  obtain ⟨a1, ha1⟩ : ∃ a1, a1 = (if nt then a + 1 else a) := ⟨_, rfl⟩
  simp only [← hnt, ← ha1]
  have h := clsL_e s (s.size - a1) a1 0 .zero (.inl rfl)
  generalize clsL s (s.size - a1) a1 0 .zero = z at h
  split
  · exact .inl rfl
  · by_cases h0 : z.2.1 = 0
    · simp only [if_pos h0]
      exact .inr (.inr ⟨rfl, rfl⟩)
    · simp only [if_neg h0]
      exact h
theorem thing_e (s : ByteArray) (a : Nat) (c : Int) : EOk s (thingV s a c).2.1 (thingV s a c).2.2 := by
  unfold thingV
  split
  · exact class_e s a
  · split
    · exact .inl rfl
    · split
      · exact escape_e s a
      · exact .inl rfl
theorem step_e {σ α : Type} (mk : σ → H5 → List α → σ × α) (s : ByteArray) (x : Ms σ α) (he : x.e = 0) (hal : x.a < s.size) : EOk s (stepG mk s x).a (stepG mk s x).e := by
  have hag : ∀ k, EOk s (againG mk x k).a (againG mk x k).e := fun k => by
    unfold againG
    cases e : x.I.getLast? with
    | none => exact .inr (.inl ⟨rfl, hal⟩)
    | some y => exact .inl he
  unfold stepG
  split
  · exact .inl he
  split
  · exact .inl he
  split
  · cases e : x.f with
    | nil => exact .inr (.inl ⟨rfl, hal⟩)
    | cons y f => exact .inl he
  split
  · exact .inr (.inl ⟨rfl, hal⟩)
  split
  · exact hag 5
  split
  · exact hag 6
  split
  · exact hag 7
  · exact thing_e s _ _
theorem reach_e {σ α : Type} {mk : σ → H5 → List α → σ × α} {s : ByteArray} {b x : Ms σ α} (h : Reach mk s b x) (hb : b.e = 0) : EOk s x.a x.e := by
  induction h with
  | refl => exact .inl hb
  | more _ hm ih => obtain ⟨h1, h2⟩ := more_iff.1 hm; exact step_e mk s _ h1 h2
/-- An error's place. -/
theorem out_e {s : ByteArray} {x : Ms (List Nd) Int} (h : Reads s x) (he : (outE s x).2 ≠ 0) : ((outE s x).2 = 7 ∧ 0 ≤ (outE s x).1 ∧ (outE s x).1 < s.size) ∨ ((outE s x).2 = 8 ∧ (outE s x).1 = s.size) := by
  have h1 := reach_e h.1 rfl
  unfold outE failV at he ⊢
  by_cases hf : x.f = []
  · rw [if_pos hf] at he ⊢
    rcases h1 with h1 | ⟨h1, h2⟩ | ⟨h1, h2⟩
    · exact absurd h1 he
    · exact .inl ⟨h1, by simp, by simpa using h2⟩
    · exact .inr ⟨h1, by simp [h2]⟩
  · rw [if_neg hf] at he ⊢
    dsimp only at he ⊢
    by_cases h0 : x.e = 0
    · rw [if_pos h0]
      exact .inr ⟨rfl, rfl⟩
    · rw [if_neg h0]
      rcases h1 with h1 | ⟨h1, h2⟩ | ⟨h1, h2⟩
      · exact absurd h1 h0
      · exact .inl ⟨h1, by simp, by simpa using h2⟩
      · exact .inr ⟨h1, by simp [h2]⟩
-- the same wherever it stands
structure Sub (s u : ByteArray) (d : Nat) : Prop where
  le : d + s.size ≤ u.size
  eq : ∀ i, i < s.size → byteI u (d + i) = byteI s i
theorem digits_sub {s u : ByteArray} {d a : Nat} (h : Sub s u d) (he : (digitsV s a 0).2.2 = 0) : digitsV u (d + a) 0 = ((digitsV s a 0).1, (d : Int) + (digitsV s a 0).2.1, 0) := by
  unfold digitsV failV at he ⊢
  have hle := h.le
  by_cases h1 : s.size ≤ a + 1
  · rw [if_pos h1] at he; cases he
  rw [if_neg h1] at he
  by_cases h2 : hx s (a + 1) < 0
  · rw [if_pos h2] at he; cases he
  rw [if_neg h2] at he
  by_cases h3 : s.size ≤ a + 2
  · rw [if_pos h3] at he; cases he
  rw [if_neg h3] at he
  by_cases h4 : hx s (a + 2) < 0
  · rw [if_pos h4] at he; cases he
  have e1 : hx u (d + a + 1) = hx s (a + 1) := by unfold hx; rw [show d + a + 1 = d + (a + 1) by omega, h.eq _ (by omega)]
  have e2 : hx u (d + a + 2) = hx s (a + 2) := by unfold hx; rw [show d + a + 2 = d + (a + 2) by omega, h.eq _ (by omega)]
  rw [if_neg h1, if_neg h2, if_neg h3, if_neg h4, if_neg (by omega), e1, if_neg h2, if_neg (by omega), e2, if_neg h4]
  simp only [Prod.mk.injEq, true_and, and_true]
  omega
theorem escape_sub {s u : ByteArray} {d a : Nat} (h : Sub s u d) (he : (escapeV s a 0).2.2 = 0) : escapeV u (d + a) 0 = ((escapeV s a 0).1, (d : Int) + (escapeV s a 0).2.1, 0) := by
  unfold escapeV at he ⊢
  have hle := h.le
  by_cases hm : moreV s.size a 0 = false
  · rw [if_pos hm] at he; simp [failV] at he
  · have hm' := hm
    rw [Bool.not_eq_false, more_iff] at hm'
    have hal := hm'.2
    have hmu : ¬ moreV u.size ((d + a : Nat) : Int) 0 = false := by
      rw [Bool.not_eq_false, more_iff]; exact ⟨rfl, by omega⟩
    rw [if_neg hm] at he ⊢
    rw [if_neg hmu, h.eq a hal]
    by_cases h120 : byteI s a = 120
    · rw [if_pos h120] at he ⊢
      rw [if_pos h120]
      exact digits_sub h he
    · rw [if_neg h120] at he ⊢
      rw [if_neg h120]
      by_cases hl : letterV (escC (byteI s a)) = true
      · rw [if_pos hl] at he; simp [failV] at he
      · rw [if_neg hl, if_neg hl]
        simp only [Prod.mk.injEq, true_and, and_true]
        omega
theorem one_sub {s u : ByteArray} {d a : Nat} (h : Sub s u d) (ha : a < s.size) (he : (oneV s a 0).2.2 = 0) : oneV u (d + a) 0 = ((oneV s a 0).1, (d : Int) + (oneV s a 0).2.1, 0) := by
  unfold oneV at he ⊢
  rw [h.eq a ha]
  by_cases h92 : byteI s a = 92
  · rw [if_pos h92] at he ⊢
    rw [if_pos h92]
    exact escape_sub h he
  · rw [if_neg h92, if_neg h92]
    simp only [Prod.mk.injEq, true_and, and_true]
    omega
theorem pair_def {s : ByteArray} {a v k1 : Nat} {e1 : Int} (h1 : oneV s a 0 = ((v : Int), (k1 : Int), e1)) : clsPair s a = if e1 = 0 ∧ k1 + 1 < s.size ∧ byteI s k1 = 45 ∧ byteI s (k1 + 1) ≠ 93 then
    (if (oneV s (k1 + 1) 0).2.2 = 0 ∧ (oneV s (k1 + 1) 0).1.toNat < v then (v, (oneV s (k1 + 1) 0).1.toNat, k1 + 1, 7) else (v, (oneV s (k1 + 1) 0).1.toNat, (oneV s (k1 + 1) 0).2.1.toNat, (oneV s (k1 + 1) 0).2.2)) else (v, v, k1, e1) := by
  unfold clsPair
  simp only [h1, Int.toNat_natCast]
theorem pair_sub {s u : ByteArray} {d a kf : Nat} (h : Sub s u d) (ha : a < s.size) (he : (clsPair s a).2.2.2 = 0) (hk : (clsPair s a).2.2.1 ≤ kf) (hkf : kf < s.size) (h93 : byteI s kf = 93) :
    clsPair u (d + a) = ((clsPair s a).1, (clsPair s a).2.1, d + (clsPair s a).2.2.1, 0) := by
  have hle := h.le
  obtain ⟨v, k1, e1, h1, h2, h3, h4⟩ := one_out s a ha
  have hou := one_sub h ha
  have hps := pair_def h1
  rw [h1] at hou
  have h0 : e1 = 0 := Classical.byContradiction fun h0 => by
    rw [if_neg (fun h => h0 h.1)] at hps
    rw [hps] at he
    exact h0 he
  subst h0
  have hpu := pair_def (v := v) (k1 := d + k1) (e1 := 0) (by rw [hou rfl]; simp : oneV u (d + a) 0 = ((v : Int), ((d + k1 : Nat) : Int), 0))
  by_cases hP : (0 : Int) = 0 ∧ k1 + 1 < s.size ∧ byteI s k1 = 45 ∧ byteI s (k1 + 1) ≠ 93
  · obtain ⟨p0, p1, p2, p3⟩ := id hP
    have hU : (0 : Int) = 0 ∧ d + k1 + 1 < u.size ∧ byteI u (d + k1) = 45 ∧ byteI u (d + k1 + 1) ≠ 93 := ⟨rfl, by omega, by rw [h.eq k1 (by omega)]; exact p2, by rw [show d + k1 + 1 = d + (k1 + 1) by omega, h.eq _ p1]; exact p3⟩
    rw [if_pos hP] at hps
    rw [if_pos hU] at hpu
    obtain ⟨v2, k2, e2, g1, g2, g3, g4⟩ := one_out s (k1 + 1) p1
    have hou2 := one_sub h p1
    rw [g1] at hps hou2
    simp only [Int.toNat_natCast] at hps
    by_cases hb : e2 = 0 ∧ v2 < v
    · rw [if_pos hb] at hps; rw [hps] at he; cases he
    · rw [if_neg hb] at hps
      rw [hps] at he
      dsimp only at he
      subst he
      rw [show d + k1 + 1 = d + (k1 + 1) by omega, hou2 rfl] at hpu
      dsimp only at hpu
      simp only [Int.toNat_natCast] at hpu
      rw [if_neg (fun h => hb ⟨rfl, h.2⟩)] at hpu
      rw [hpu, hps]
      simp only [Prod.mk.injEq, true_and, and_true]
      omega
  · rw [if_neg hP] at hps
    rw [hps] at hk
    dsimp only at hk
    rw [if_neg] at hpu
    · rw [hpu, hps]
    · rintro ⟨_, q1, q2, q3⟩
      rw [h.eq k1 (by omega)] at q2
      by_cases hn : k1 + 1 < s.size
      · rw [show d + k1 + 1 = d + (k1 + 1) by omega, h.eq _ hn] at q3
        exact hP ⟨rfl, hn, q2, q3⟩
      · have : k1 = kf := by omega
        rw [this, h93] at q2
        cases q2
theorem clsL_stop (s : ByteArray) : ∀ (n a : Nat) (W : C4), a ≤ s.size → s.size - a ≤ n → (clsL s n a 0 W).2.1 = 0 → (clsL s n a 0 W).1 < s.size → byteI s (clsL s n a 0 W).1 = 93
  | 0, a, W, ha, hn, he, hk => by simp only [clsL] at hk; omega
  | n + 1, a, W, ha, hn, he, hk => by
    unfold clsL at he hk ⊢
    by_cases hc : moreV s.size a 0 = true ∧ byteI s a ≠ 93
    · rw [if_pos hc] at he hk ⊢
      have hal := (more_iff.1 hc.1).2
      obtain ⟨_, _, h3, h4⟩ := pair_out s a hal
      by_cases hp : (clsPair s a).2.2.2 = 0
      · rw [hp] at he hk ⊢
        have := h4 hp
        exact clsL_stop s n _ _ h3 (by omega) he hk
      · exfalso
        cases n with
        | zero => exact hp he
        | succ n =>
          unfold clsL at he
          rw [if_neg (fun h => hp (more_iff.1 h.1).1)] at he
          exact hp he
    · rw [if_neg hc] at hk ⊢
      dsimp only at hk ⊢
      exact Classical.byContradiction fun h => hc ⟨more_iff.2 ⟨rfl, hk⟩, h⟩
theorem clsL_ge (s : ByteArray) : ∀ (n a : Nat) (e : Int) (W : C4), a ≤ s.size → s.size - a ≤ n → (clsL s n a e W).2.1 = 0 → a ≤ (clsL s n a e W).1
  | 0, a, e, W, ha, _, _ => Nat.le_refl _
  | n + 1, a, e, W, ha, hn, h0 => by
    unfold clsL at h0 ⊢
    by_cases hc : moreV s.size a e = true ∧ byteI s a ≠ 93
    · rw [if_pos hc] at h0 ⊢
      have hal := (more_iff.1 hc.1).2
      obtain ⟨_, _, h3, h4⟩ := pair_out s a hal
      by_cases hp : (clsPair s a).2.2.2 = 0
      · have := h4 hp
        have := clsL_ge s n _ _ _ h3 (by omega) h0
        omega
      · exfalso
        cases n with
        | zero => exact hp h0
        | succ n =>
          unfold clsL at h0
          rw [if_neg (fun h => hp (more_iff.1 h.1).1)] at h0
          exact hp h0
    · rw [if_neg hc]; exact Nat.le_refl _
theorem clsL_sub {s u : ByteArray} {d : Nat} (h : Sub s u d) : ∀ (n a : Nat) (W : C4), a ≤ s.size → s.size - a ≤ n → (clsL s n a 0 W).2.1 = 0 → (clsL s n a 0 W).1 < s.size → byteI s (clsL s n a 0 W).1 = 93 → ∀ m, n ≤ m → clsL u m (d + a) 0 W = (d + (clsL s n a 0 W).1, 0, (clsL s n a 0 W).2.2)
  | 0, a, W, ha, hn, he, hk, _, m, _ => by simp only [clsL] at hk; omega
  | n + 1, a, W, ha, hn, he, hk, h93, m, hm => by
    have hle := h.le
    obtain ⟨m, rfl⟩ : ∃ m', m = m' + 1 := ⟨m - 1, by omega⟩
    unfold clsL at he hk h93 ⊢
    by_cases hc : moreV s.size a 0 = true ∧ byteI s a ≠ 93
    · rw [if_pos hc] at he hk h93 ⊢
      have hal := (more_iff.1 hc.1).2
      obtain ⟨_, _, h3, h4⟩ := pair_out s a hal
      have hcu : moreV u.size ((d + a : Nat) : Int) 0 = true ∧ byteI u (d + a) ≠ 93 := ⟨more_iff.2 ⟨rfl, by omega⟩, by rw [h.eq a hal]; exact hc.2⟩
      rw [if_pos hcu]
      by_cases hp : (clsPair s a).2.2.2 = 0
      · have h5 := h4 hp
        rw [hp] at he hk h93 ⊢
        have h6 := clsL_ge s n (clsPair s a).2.2.1 0 (W.or (.ofL (rng (clsPair s a).1 (clsPair s a).2.1))) h3 (by omega) he
        rw [pair_sub h hal hp h6 hk h93]
        dsimp only
        exact clsL_sub h n _ _ h3 (by omega) he hk h93 m (by omega)
      · exfalso
        cases n with
        | zero => exact hp he
        | succ n =>
          unfold clsL at he
          rw [if_neg (fun h => hp (more_iff.1 h.1).1)] at he
          exact hp he
    · rw [if_neg hc] at he hk h93 ⊢
      dsimp only at he hk h93 ⊢
      rw [if_neg]
      rintro ⟨_, q⟩
      rw [h.eq a hk] at q
      exact q h93
theorem class_sub {s u : ByteArray} {d a : Nat} (h : Sub s u d) (_hu : d + s.size < u.size ∨ True) (ha : a ≤ s.size) (he : (classV s a).2.2 = 0) : classV u (d + a) = ((classV s a).1, d + (classV s a).2.1, 0) := by
  have hle := h.le
  unfold classV at he ⊢
  obtain ⟨nt, hnt⟩ : ∃ nt, nt = (moreV s.size a 0 && (byteI s a == 94)) := ⟨_, rfl⟩
  obtain ⟨a1, ha1⟩ : ∃ a1, a1 = (if nt then a + 1 else a) := ⟨_, rfl⟩
  simp only [← hnt, ← ha1] at he ⊢
  have ha1b : a1 ≤ s.size ∧ a ≤ a1 := by
    cases nt with
    | false => rw [ha1]; simpa using ha
    | true =>
      have h1 := hnt.symm
      rw [Bool.and_eq_true, more_iff] at h1
      rw [ha1]; simp; omega
  have hz := clsL_stop s (s.size - a1) a1 .zero ha1b.1 (Nat.le_refl _)
  have hz2 := clsL_ge s (s.size - a1) a1 0 .zero ha1b.1 (Nat.le_refl _)
  have hz3 := clsL_sub h (s.size - a1) a1 .zero ha1b.1 (Nat.le_refl _)
  generalize clsL s (s.size - a1) a1 0 .zero = z at he hz hz2 hz3 ⊢
  by_cases hm : moreV s.size z.1 z.2.1 = true
  · obtain ⟨h1, h2⟩ := more_iff.1 hm
    have h3 := hz h1 h2
    have h4 := hz2 h1
    have hal : a < s.size := by omega
    have hntu : (moreV u.size ((d + a : Nat) : Int) 0 && (byteI u (d + a) == 94)) = nt := by
      rw [hnt, h.eq a hal, more_iff.2 ⟨rfl, hal⟩, more_iff.2 ⟨rfl, (by omega : d + a < u.size)⟩]
    have ha1u : (if nt then d + a + 1 else d + a) = d + a1 := by
      rw [ha1]; cases nt <;> simp <;> omega
    rw [hntu, ha1u, hz3 h1 h2 h3 _ (by omega)]
    dsimp only
    have hmu : moreV u.size ((d + z.1 : Nat) : Int) 0 = true := more_iff.2 ⟨rfl, by omega⟩
    rw [if_pos hmu, if_pos hm]
    simp only [Prod.mk.injEq, true_and, and_true]
    omega
  · rw [if_neg hm] at he
    dsimp only at he
    by_cases h0 : z.2.1 = 0
    · rw [if_pos h0] at he; cases he
    · rw [if_neg h0] at he; exact absurd he h0
theorem thing_sub {s u : ByteArray} {d a : Nat} (h : Sub s u d) (ha : a ≤ s.size) (c : Int) (he : (thingV s a c).2.2 = 0) : thingV u (d + a) c = ((thingV s a c).1, d + (thingV s a c).2.1, 0) := by
  unfold thingV at he ⊢
  by_cases h91 : c = 91
  · rw [if_pos h91] at he ⊢
    rw [if_pos h91]
    exact class_sub h (.inr trivial) ha he
  rw [if_neg h91] at he ⊢
  rw [if_neg h91]
  by_cases h46 : c = 46
  · rw [if_pos h46, if_pos h46]
  rw [if_neg h46] at he ⊢
  rw [if_neg h46]
  by_cases h92 : c = 92
  · rw [if_pos h92] at he ⊢
    rw [if_pos h92, escape_sub h he]
    obtain ⟨v, k, e, h1, _, _, _⟩ := escape_out s a ha
    rw [h1]
    simp only [Prod.mk.injEq, true_and, and_true, Int.toNat_natCast]
    omega
  · rw [if_neg h92, if_neg h92]
/-- Read within another text, over other frames. -/
def liftM (d : Nat) (g : List (Fr (List Cd))) (x : Ms Unit (List Cd)) : Ms Unit (List Cd) := ⟨(), d + x.a, x.e, x.A, x.I, x.f ++ g⟩
theorem again_sub (d : Nat) (g : List (Fr (List Cd))) (x : Ms Unit (List Cd)) (k : Int) (_he : (againG mkC x k).e = 0) : againG mkC (liftM d g x) k = liftM d g (againG mkC x k) := by
  unfold againG liftM
  dsimp only
  cases e : x.I.getLast? with
  | none => rfl
  | some y => simp only [Ms.mk.injEq, true_and, and_true]; omega
theorem step_sub {s u : ByteArray} {d : Nat} (h : Sub s u d) (g : List (Fr (List Cd))) (x : Ms Unit (List Cd)) (hal : x.a < s.size) (he : (stepG mkC s x).e = 0) : stepG mkC u (liftM d g x) = liftM d g (stepG mkC s x) := by
  have eb : byteI u (liftM d g x).a = byteI s x.a := h.eq x.a hal
  unfold stepG at he ⊢
  rw [eb]
  by_cases c1 : byteI s x.a = 124
  · rw [if_pos c1, if_pos c1]; rfl
  rw [if_neg c1] at he ⊢
  rw [if_neg c1]
  by_cases c2 : byteI s x.a = 40
  · rw [if_pos c2, if_pos c2]; rfl
  rw [if_neg c2] at he ⊢
  rw [if_neg c2]
  by_cases c3 : byteI s x.a = 41
  · rw [if_pos c3] at he ⊢
    rw [if_pos c3]
    cases e : x.f with
    | nil => rw [e] at he; cases he
    | cons y f => simp only [liftM, e, List.cons_append]; rfl
  rw [if_neg c3] at he ⊢
  rw [if_neg c3]
  by_cases c4 : byteI s x.a = 93
  · rw [if_pos c4] at he; cases he
  rw [if_neg c4] at he ⊢
  rw [if_neg c4]
  by_cases c5 : byteI s x.a = 42
  · rw [if_pos c5] at he ⊢
    rw [if_pos c5]
    exact again_sub d g x 5 he
  rw [if_neg c5] at he ⊢
  rw [if_neg c5]
  by_cases c6 : byteI s x.a = 43
  · rw [if_pos c6] at he ⊢
    rw [if_pos c6]
    exact again_sub d g x 6 he
  rw [if_neg c6] at he ⊢
  rw [if_neg c6]
  by_cases c7 : byteI s x.a = 63
  · rw [if_pos c7] at he ⊢
    rw [if_pos c7]
    exact again_sub d g x 7 he
  rw [if_neg c7] at he ⊢
  rw [if_neg c7]
  have et : thingV u ((liftM d g x).a + 1) (byteI s x.a) = ((thingV s (x.a + 1) (byteI s x.a)).1, d + (thingV s (x.a + 1) (byteI s x.a)).2.1, 0) := thing_sub h hal _ he
  rw [et]
  have he' : (thingV s (x.a + 1) (byteI s x.a)).2.2 = 0 := he
  simp only [liftM, he']
theorem reach_sub {s u : ByteArray} {d : Nat} (h : Sub s u d) (g : List (Fr (List Cd))) {x : Ms Unit (List Cd)} (hr : Reach mkC s (begG ()) x) (he : x.e = 0) : Reach mkC u (liftM d g (begG ())) (liftM d g x) := by
  have hle := h.le
  induction hr with
  | refl => exact .refl _
  | @more y _ hm ih =>
    obtain ⟨h1, h2⟩ := more_iff.1 hm
    rw [← step_sub h g y h2 he]
    exact .more (ih h1) (more_iff.2 ⟨h1, by show d + y.a < u.size; omega⟩)
end Go.Proofs.YtpbkgegkjglibaaDoor

namespace Go.Proofs.YtpbkgegkjglibaaDoor
open Go
theorem reach_trans {σ α : Type} {mk : σ → H5 → List α → σ × α} {s : ByteArray} {x y z : Ms σ α} (h : Reach mk s x y) (g : Reach mk s y z) : Reach mk s x z := by
  induction g with
  | refl => exact h
  | more _ hm ih => exact .more ih hm
theorem reach_one {σ α : Type} {mk : σ → H5 → List α → σ × α} {s : ByteArray} {x : Ms σ α} (hm : moreV s.size x.a x.e = true) : Reach mk s x (stepG mk s x) := .more (.refl x) hm
/-- Steps, told by how many. -/
def runN {σ α : Type} (mk : σ → H5 → List α → σ × α) (s : ByteArray) (b : Ms σ α) : Nat → Ms σ α
  | 0 => b
  | n + 1 => if moreV s.size (runN mk s b n).a (runN mk s b n).e = true then stepG mk s (runN mk s b n) else runN mk s b n
theorem reach_run {σ α : Type} {mk : σ → H5 → List α → σ × α} {s : ByteArray} {b y : Ms σ α} (h : Reach mk s b y) : ∃ n, y = runN mk s b n := by
  induction h with
  | refl => exact ⟨0, rfl⟩
  | @more y _ hm ih =>
    obtain ⟨n, rfl⟩ := ih
    exact ⟨n + 1, by rw [runN, if_pos hm]⟩
theorem run_stop {σ α : Type} {mk : σ → H5 → List α → σ × α} {s : ByteArray} {b : Ms σ α} {n : Nat} (h : ¬ moreV s.size (runN mk s b n).a (runN mk s b n).e = true) : ∀ k, runN mk s b (n + k) = runN mk s b n
  | 0 => rfl
  | k + 1 => by
    have ih := run_stop h k
    show (if moreV s.size (runN mk s b (n + k)).a (runN mk s b (n + k)).e = true then stepG mk s (runN mk s b (n + k)) else runN mk s b (n + k)) = _
    rw [ih, if_neg h]
theorem fin_uniq {σ α : Type} {mk : σ → H5 → List α → σ × α} {s : ByteArray} {b y z : Ms σ α} (h : Reach mk s b y) (g : Reach mk s b z) (hy : ¬ moreV s.size y.a y.e = true) (hz : ¬ moreV s.size z.a z.e = true) : y = z := by
  obtain ⟨n, rfl⟩ := reach_run h
  obtain ⟨m, rfl⟩ := reach_run g
  have h1 := run_stop hy m
  have h2 := run_stop hz n
  rw [← h1, ← h2, Nat.add_comm]
/-- A text that is read to its end: its alternatives, its last one's items. -/
def Fin2 (s : ByteArray) (A I : List (List Cd)) : Prop := Reach mkC s (begG ()) ⟨(), s.size, 0, A, I, []⟩
def endC (A I : List (List Cd)) : List Cd := (shutG mkC () A I).2
theorem paren {s u : ByteArray} {A I : List (List Cd)} (h : Fin2 s A I) {d : Nat} (h40 : byteI u d = 40) (hs : Sub s u (d + 1)) (h41 : byteI u (d + 1 + s.size) = 41) (hle : d + s.size + 2 ≤ u.size) (B J : List (List Cd)) (g : List (Fr (List Cd))) :
    Reach mkC u ⟨(), d, 0, B, J, g⟩ ⟨(), d + s.size + 2, 0, B, J ++ [endC A I], g⟩ := by
  have e1 : stepG mkC u ⟨(), d, 0, B, J, g⟩ = liftM (d + 1) ((B, J) :: g) (begG ()) := by
    unfold stepG
    dsimp only
    rw [h40]
    rfl
  have r1 : Reach mkC u ⟨(), d, 0, B, J, g⟩ (liftM (d + 1) ((B, J) :: g) (begG ())) := by
    rw [← e1]
    exact reach_one (more_iff.2 ⟨rfl, by show d < _; omega⟩)
  have r2 := reach_sub hs ((B, J) :: g) h rfl
  have e3 : stepG mkC u (liftM (d + 1) ((B, J) :: g) ⟨(), s.size, 0, A, I, []⟩) = ⟨(), d + 1 + s.size + 1, 0, B, J ++ [endC A I], g⟩ := by
    unfold stepG liftM
    dsimp only
    rw [h41]
    rfl
  have r3 := reach_one (mk := mkC) (s := u) (x := liftM (d + 1) ((B, J) :: g) ⟨(), s.size, 0, A, I, []⟩) (more_iff.2 ⟨rfl, by show d + 1 + s.size < _; omega⟩)
  rw [e3, show d + 1 + s.size + 1 = d + s.size + 2 by omega] at r3
  exact reach_trans r1 (reach_trans r2 r3)
theorem bar {u : ByteArray} {d : Nat} (h : byteI u d = 124) (hd : d < u.size) (B J : List (List Cd)) (g : List (Fr (List Cd))) : Reach mkC u ⟨(), d, 0, B, J, g⟩ ⟨(), d + 1, 0, B ++ [(manyG mkC () 3 J).2], [], g⟩ := by
  have e1 : stepG mkC u ⟨(), d, 0, B, J, g⟩ = ⟨(), d + 1, 0, B ++ [(manyG mkC () 3 J).2], [], g⟩ := by
    unfold stepG
    dsimp only
    rw [h]
    rfl
  rw [← e1]
  exact reach_one (more_iff.2 ⟨rfl, hd⟩)
-- what Read makes
theorem reach_ok {s : ByteArray} (hs : s.size ≤ 256) {x : Ms (List Nd) Int} (h : Reach mkI s (begG []) x) : (x.e = 0 → MsOk s x) ∧ Reach mkC s (begG ()) (absM x) := by
  induction h with
  | refl => exact ⟨fun _ => beg_ok s, .refl _⟩
  | @more y _ hm ih =>
    obtain ⟨h1, h2⟩ := more_iff.1 hm
    have hok := ih.1 h1
    refine ⟨fun he => step_ok hok hs h2 h1 he, ?_⟩
    rw [step_abs s y hok.fo.inR]
    exact .more ih.2 hm
def rowOf (x : Ms (List Nd) Int) : List Nd := (shutG mkI x.st x.A x.I).1
/-- A row that may be, and tells its text's tree. -/
structure Good2 (s : ByteArray) (r : List Nd) (A I : List (List Cd)) : Prop where
  fin : Fin2 s A I
  ok : RxOk r
  code : codeOf r = endC A I
  len : r.length ≤ 2 * s.size + 2
theorem root_last {out : List Nd} {k : Int} (h : Forest out [k]) (h1 : 1 ≤ out.length) : k = (out.length : Int) - 1 := by
  have hk := h.roots k (List.mem_cons_self ..)
  by_cases e : k = (out.length : Int) - 1
  · exact e
  · have h2 := h.one (out.length - 1) (by omega)
    have h3 : (kidsOf out).count ((out.length - 1 : Nat) : Int) = 0 := List.count_eq_zero_of_not_mem (fun hm => by
      have := kids_bound (n := 0) (fun i x hx => by simpa using h.nd i x hx) _ hm
      omega)
    have h4 : [k].count ((out.length - 1 : Nat) : Int) = 0 := List.count_eq_zero_of_not_mem (fun hm => e (by
      have := List.mem_singleton.1 hm
      omega))
    omega
theorem forest_ok {out : List Nd} {k : Int} (h : Forest out [k]) (hm : out.length ≤ 512) : RxOk out := by
  have hk := h.roots k (List.mem_cons_self ..)
  have hl := root_last h (by omega)
  refine ⟨by omega, hm, h.nd, fun j hj => ?_⟩
  have h2 := h.one j (by omega)
  have h4 : [k].count (j : Int) = 0 := List.count_eq_zero_of_not_mem (fun hm => by
    have := List.mem_singleton.1 hm
    omega)
  omega
theorem read_good {s : ByteArray} (hs : s.size ≤ 254) {x : Ms (List Nd) Int} (h : Reads s x) (he : (outE s x).2 = 0) : Good2 s (rowOf x) (x.A.map (codeAt x.st)) (x.I.map (codeAt x.st)) := by
  obtain ⟨hr, hm, hok⟩ := h
  have hf : x.f = [] := Classical.byContradiction fun hf => by
    unfold outE failV at he
    rw [if_neg hf] at he
    dsimp only at he
    by_cases h0 : x.e = 0
    · rw [if_pos h0] at he; cases he
    · rw [if_neg h0] at he; exact h0 he
  have he0 : x.e = 0 := by
    unfold outE at he
    rw [if_pos hf] at he
    exact he
  have hk := hok he0
  have ha : x.a = s.size := by
    have h1 := hk.al
    have h2 : ¬ x.a < s.size := fun h2 => by
      rw [more_iff.2 ⟨he0, h2⟩] at hm
      cases hm
    omega
  have hfo := hk.fo
  have hrl := hk.rl
  have hsl := hk.sl
  unfold rootsM at hfo hrl
  rw [hf] at hfo hrl
  simp only [List.flatMap_nil, List.append_nil, List.length_append] at hfo hrl
  obtain ⟨h1, h2⟩ := (hfo.perm (R' := x.A ++ x.I ++ []) (by rw [List.append_nil])).shutF (by omega) (by omega)
  have hrow : RxOk (rowOf x) := forest_ok h1 (by show (shutG mkI x.st x.A x.I).1.length ≤ 512; omega)
  have habs : absM x = ⟨(), s.size, 0, x.A.map (codeAt x.st), x.I.map (codeAt x.st), []⟩ := by
    unfold absM
    rw [ha, he0, hf]
    rfl
  refine ⟨?_, hrow, ?_, by show (shutG mkI x.st x.A x.I).1.length ≤ _; omega⟩
  · have := (reach_ok (by omega) hr).2
    rw [habs] at this
    exact this
  · unfold codeOf endC
    have hrl2 : ((rowOf x).length : Int) - 1 = (shutG mkI x.st x.A x.I).2 := (root_last h1 hrow.one).symm
    rw [hrl2]
    exact shut_code _ _ _ (inR_left hfo.inR) (inR_right hfo.inR)
/-- What is known to be read is what Read makes. -/
theorem read_of_fin {s : ByteArray} (hs : s.size ≤ 254) {A I : List (List Cd)} (hfin : Fin2 s A I) {x : Ms (List Nd) Int} (h : Reads s x) : (outE s x).2 = 0 ∧ Good2 s (rowOf x) A I := by
  obtain ⟨hr, hm, _⟩ := id h
  have h1 := (reach_ok (by omega : s.size ≤ 256) hr).2
  have h2 := fin_uniq h1 hfin (by show ¬ moreV s.size x.a x.e = true; rw [hm]; simp) (by rw [more_iff]; rintro ⟨_, h⟩; exact Nat.lt_irrefl _ h)
  have he : x.e = 0 := congrArg Ms.e h2
  have hf : x.f = [] := by
    have := congrArg Ms.f h2
    exact List.map_eq_nil_iff.1 this
  have ho : (outE s x).2 = 0 := by
    unfold outE
    rw [if_pos hf]
    exact he
  refine ⟨ho, ?_⟩
  have hg := read_good hs h ho
  have hA : x.A.map (codeAt x.st) = A := congrArg Ms.A h2
  have hI : x.I.map (codeAt x.st) = I := congrArg Ms.I h2
  rw [hA, hI] at hg
  exact hg
-- bytes of texts put together
theorem byteI_app (a b : ByteArray) (i : Nat) : byteI (a ++ b) i = if i < a.size then byteI a i else byteI b (i - a.size) := by
  unfold byteI
  by_cases h : i < a.size
  · rw [if_pos h, dif_pos h, dif_pos (by rw [ByteArray.size_append]; omega), ByteArray.getElem_append_left h]
  · rw [if_neg h]
    by_cases h2 : i - a.size < b.size
    · rw [dif_pos h2, dif_pos (by rw [ByteArray.size_append]; omega), ByteArray.getElem_append_right (by omega)]
    · rw [dif_neg h2, dif_neg (by rw [ByteArray.size_append]; omega)]
end Go.Proofs.YtpbkgegkjglibaaDoor

namespace Go.Proofs.YtpbkgegkjglibaaDoor
open Go
def tx1 (s : ByteArray) : ByteArray := (⟨#[40]⟩ ++ s) ++ ⟨#[41]⟩
def tx2 (s t : ByteArray) : ByteArray := (((⟨#[40]⟩ ++ s) ++ ⟨#[41, 124, 40]⟩) ++ t) ++ ⟨#[41]⟩
def tx3 (s t : ByteArray) : ByteArray := (((⟨#[40]⟩ ++ s) ++ ⟨#[41, 40]⟩) ++ t) ++ ⟨#[41]⟩
theorem sz1 (a : UInt8) : (⟨#[a]⟩ : ByteArray).size = 1 := rfl
theorem sz2 (a b : UInt8) : (⟨#[a, b]⟩ : ByteArray).size = 2 := rfl
theorem sz3' (a b c : UInt8) : (⟨#[a, b, c]⟩ : ByteArray).size = 3 := rfl
theorem tx1_size (s : ByteArray) : (tx1 s).size = s.size + 2 := by unfold tx1; rw [ByteArray.size_append, ByteArray.size_append, sz1, sz1]; omega
theorem tx2_size (s t : ByteArray) : (tx2 s t).size = s.size + t.size + 5 := by unfold tx2; rw [ByteArray.size_append, ByteArray.size_append, ByteArray.size_append, ByteArray.size_append, sz1, sz1, sz3']; omega
theorem tx3_size (s t : ByteArray) : (tx3 s t).size = s.size + t.size + 4 := by unfold tx3; rw [ByteArray.size_append, ByteArray.size_append, ByteArray.size_append, ByteArray.size_append, sz1, sz1, sz2]; omega
theorem app_l {a b : ByteArray} {i : Nat} (h : i < a.size) : byteI (a ++ b) i = byteI a i := by rw [byteI_app, if_pos h]
theorem app_r {a b : ByteArray} {i j : Nat} (h : i = a.size + j) : byteI (a ++ b) i = byteI b j := by rw [byteI_app, if_neg (by omega)]; congr 1; omega
theorem fin1 {s : ByteArray} {A I : List (List Cd)} (h : Fin2 s A I) : Fin2 (tx1 s) [] [endC A I] := by
  have hz := tx1_size s
  have z1 : (⟨#[40]⟩ ++ s : ByteArray).size = 1 + s.size := by rw [ByteArray.size_append, sz1]
  have hp := paren (u := tx1 s) (d := 0) h (by unfold tx1; rw [app_l (by omega), app_l (by rw [sz1]; decide)]; rfl)
    ⟨by omega, fun i hi => by unfold tx1; rw [app_l (by omega), app_r (j := i) (by have := sz1 40; omega)]⟩ (by unfold tx1; rw [app_r (j := 0) (by omega)]; try rfl) (by omega) [] [] []
  have e : (0 : Nat) + s.size + 2 = (tx1 s).size := by omega
  rw [e] at hp
  exact hp
theorem fin2 {s t : ByteArray} {A I A' I' : List (List Cd)} (h : Fin2 s A I) (h' : Fin2 t A' I') : Fin2 (tx2 s t) [endC A I] [endC A' I'] := by
  have hz := tx2_size s t
  have z1 : (⟨#[40]⟩ ++ s : ByteArray).size = 1 + s.size := by rw [ByteArray.size_append, sz1]
  have z2 : ((⟨#[40]⟩ ++ s) ++ ⟨#[41, 124, 40]⟩ : ByteArray).size = 4 + s.size := by rw [ByteArray.size_append, z1, sz3']; omega
  have z3 : (((⟨#[40]⟩ ++ s) ++ ⟨#[41, 124, 40]⟩) ++ t : ByteArray).size = 4 + s.size + t.size := by rw [ByteArray.size_append, z2]
  have hp := paren (u := tx2 s t) (d := 0) h (by unfold tx2; rw [app_l (by omega), app_l (by omega), app_l (by omega), app_l (by rw [sz1]; decide)]; rfl)
    ⟨by omega, fun i hi => by unfold tx2; rw [app_l (by omega), app_l (by omega), app_l (by omega), app_r (j := i) (by have := sz1 40; omega)]⟩ (by unfold tx2; rw [app_l (by omega), app_l (by omega), app_r (j := 0) (by omega)]; try rfl) (by omega) [] [] []
  have hb := bar (u := tx2 s t) (d := 0 + s.size + 2) (by unfold tx2; rw [app_l (by omega), app_l (by omega), app_r (j := 1) (by omega)]; try rfl) (by omega) [] ([] ++ [endC A I]) []
  have hq := paren (u := tx2 s t) (d := 0 + s.size + 2 + 1) h' (by unfold tx2; rw [app_l (by omega), app_l (by omega), app_r (j := 2) (by omega)]; try rfl)
    ⟨by omega, fun i hi => by unfold tx2; rw [app_l (by omega), app_r (j := i) (by omega)]⟩ (by unfold tx2; rw [app_r (j := 0) (by omega)]; try rfl) (by omega) ([] ++ [(manyG mkC () 3 ([] ++ [endC A I])).2]) [] []
  have e : (0 : Nat) + s.size + 2 + 1 + t.size + 2 = (tx2 s t).size := by omega
  rw [e] at hq
  exact reach_trans hp (reach_trans hb hq)
theorem fin3 {s t : ByteArray} {A I A' I' : List (List Cd)} (h : Fin2 s A I) (h' : Fin2 t A' I') : Fin2 (tx3 s t) [] [endC A I, endC A' I'] := by
  have hz := tx3_size s t
  have z1 : (⟨#[40]⟩ ++ s : ByteArray).size = 1 + s.size := by rw [ByteArray.size_append, sz1]
  have z2 : ((⟨#[40]⟩ ++ s) ++ ⟨#[41, 40]⟩ : ByteArray).size = 3 + s.size := by rw [ByteArray.size_append, z1, sz2]; omega
  have z3 : (((⟨#[40]⟩ ++ s) ++ ⟨#[41, 40]⟩) ++ t : ByteArray).size = 3 + s.size + t.size := by rw [ByteArray.size_append, z2]
  have hp := paren (u := tx3 s t) (d := 0) h (by unfold tx3; rw [app_l (by omega), app_l (by omega), app_l (by omega), app_l (by rw [sz1]; decide)]; rfl)
    ⟨by omega, fun i hi => by unfold tx3; rw [app_l (by omega), app_l (by omega), app_l (by omega), app_r (j := i) (by have := sz1 40; omega)]⟩ (by unfold tx3; rw [app_l (by omega), app_l (by omega), app_r (j := 0) (by omega)]; try rfl) (by omega) [] [] []
  have hq := paren (u := tx3 s t) (d := 0 + s.size + 2) h' (by unfold tx3; rw [app_l (by omega), app_l (by omega), app_r (j := 1) (by omega)]; try rfl)
    ⟨by omega, fun i hi => by unfold tx3; rw [app_l (by omega), app_r (j := i) (by omega)]⟩ (by unfold tx3; rw [app_r (j := 0) (by omega)]; try rfl) (by omega) [] ([] ++ [endC A I]) []
  have e : (0 : Nat) + s.size + 2 + t.size + 2 = (tx3 s t).size := by omega
  rw [e] at hq
  exact reach_trans hp hq
-- trees of rows put together
theorem codes_join (a : List Nd) : ∀ (n : Nat) (b : List Nd), b.length = n → (∀ i x, b[i]? = some x → NdOk i x) → codesOf (a ++ b.map (shN a.length)) = codesOf a ++ codesOf b
  | 0, b, hn, _ => by
    obtain rfl := List.eq_nil_of_length_eq_zero hn
    simp [codesOf]
  | n + 1, b, hn, hb => by
    obtain ⟨D, x, rfl⟩ : ∃ D x, b = D ++ [x] := by
      rcases List.eq_nil_or_concat b with rfl | ⟨D, x, h⟩
      · simp at hn
      · exact ⟨D, x, by rw [h, List.concat_eq_append]⟩
    have hD : D.length = n := by simp at hn; exact hn
    have hx := (hb D.length x (by simp)).kids
    have ih := codes_join a n D hD (fun i y hy => hb i y (by rw [List.getElem?_append_left (List.getElem?_eq_some_iff.1 hy).1]; exact hy))
    rw [List.map_append, List.map_cons, List.map_nil, ← List.append_assoc, codes_snoc, ih, codes_snoc, List.append_assoc]
    have hh : hdC (shN (a.length : Int) x) = hdC x := by simp [hdC, shN]
    have hf : (shN (a.length : Int) x).kids.flatMap (codeAt (a ++ D.map (shN a.length))) = x.kids.flatMap (codeAt D) := by
      show (x.kids.map (· + (a.length : Int))).flatMap (codeAt (a ++ D.map (shN a.length))) = _
      rw [List.flatMap_map, List.flatMap_def, List.flatMap_def]
      congr 1
      refine List.map_congr_left fun k hk => ?_
      have hk := hx k hk
      unfold codeAt
      rw [ih, List.getD_eq_getElem?_getD, List.getElem?_append_right (by rw [codes_len]; omega), codes_len, List.getD_eq_getElem?_getD]
      congr 2
      omega
    rw [hh, hf]
theorem code_join (k : Int) {a b : List Nd} (ha : RxOk a) (hb : RxOk b) : codeOf (joinV k [a, b]) = ⟨k, .zero, 2⟩ :: (codeOf a ++ codeOf b) := by
  have h1 := ha.one
  have h2 := hb.one
  rw [join_two]
  have hl : (((a ++ b.map (shN a.length)) ++ [(⟨k, 0, 0, 0, 0, [(a.length : Int) - 1, (a.length : Int) + b.length - 1]⟩ : Nd)]).length : Int) - 1 = ((a ++ b.map (shN a.length)).length : Int) := by simp; omega
  unfold codeOf
  rw [hl, code_new]
  have c1 : codeAt (a ++ b.map (shN a.length)) ((a.length : Int) - 1) = codeAt a ((a.length : Int) - 1) := code_ext a _ (by omega) _
  have c2 : codeAt (a ++ b.map (shN a.length)) ((a.length : Int) + b.length - 1) = codeAt b ((b.length : Int) - 1) := by
    unfold codeAt
    rw [codes_join a b.length b rfl hb.nd, List.getD_eq_getElem?_getD, List.getElem?_append_right (by rw [codes_len]; omega), codes_len, List.getD_eq_getElem?_getD]
    congr 2
    omega
  simp only [List.flatMap_cons, List.flatMap_nil, List.append_nil, c1, c2]
  rfl
theorem same1 {s : ByteArray} {a c : List Nd} {A I : List (List Cd)} (ha : Good2 s a A I) (hc : Good2 (tx1 s) c [] [endC A I]) : SameV a c := ⟨ha.ok, hc.ok, by rw [ha.code, hc.code]; rfl⟩
theorem same2 {s t : ByteArray} {a b d : List Nd} {A I A' I' : List (List Cd)} (ha : Good2 s a A I) (hb : Good2 t b A' I') (hl : a.length + b.length < 512) (hd : Good2 (tx2 s t) d [endC A I] [endC A' I']) : SameV d (joinV 4 [a, b]) :=
  ⟨hd.ok, ok_two ha.ok hb.ok hl (.inr rfl), by rw [hd.code, code_join 4 ha.ok hb.ok, ha.code, hb.code]; simp [endC, shutG, manyG, mkC, h5]⟩
theorem same3 {s t : ByteArray} {a b d : List Nd} {A I A' I' : List (List Cd)} (ha : Good2 s a A I) (hb : Good2 t b A' I') (hl : a.length + b.length < 512) (hd : Good2 (tx3 s t) d [] [endC A I, endC A' I']) : SameV d (joinV 3 [a, b]) :=
  ⟨hd.ok, ok_two ha.ok hb.ok hl (.inl rfl), by rw [hd.code, code_join 3 ha.ok hb.ok, ha.code, hb.code]; simp [endC, shutG, manyG, mkC, h5]⟩
end Go.Proofs.YtpbkgegkjglibaaDoor
