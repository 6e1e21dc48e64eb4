/- Marks: what is stale, how far leaves reach, what is confirmed, in plain Lean; what MarksLater asks of them. -/
namespace Go.Proofs.YtdjeokgkeejpcaaGreatDoor
structure Pt where
  sym : Int
  kind : Int
  frm : Int
  inn : Int
  too : Int
  look : Int
  kids : List Int
  met : Nat
instance : Inhabited Pt := ⟨⟨0, 0, 0, 0, 0, 0, [], 0⟩⟩
abbrev pt (l : List Pt) (i : Nat) : Pt := l.getD i default
def kidsF (l : List Pt) (e : Nat → Option Nat) : Nat → Int → List Int → Option (Nat × Int)
  | n, a, [] => some (n, a)
  | n, a, k :: ks => if k = n ∧ n < l.length ∧ a ≤ (pt l n).frm then (e n).bind fun m => kidsF l e m (pt l n).too ks else none
def endF (l : List Pt) : Nat → Nat → Option Nat
  | 0, _ => none
  | f + 1, i => (kidsF l (endF l f) (i + 1) (pt l i).frm (pt l i).kids).bind fun x => if x.2 ≤ (pt l i).too then some x.1 else none
def leafK (k : Int) : Bool := decide (k ≠ 1) && decide (k ≠ 2)
theorem endF_succ {l : List Pt} {f i e : Nat} (h : endF l (f + 1) i = some e) : ∃ a, kidsF l (endF l f) (i + 1) (pt l i).frm (pt l i).kids = some (e, a) ∧ a ≤ (pt l i).too := by
  simp only [endF] at h
  cases hk : kidsF l (endF l f) (i + 1) (pt l i).frm (pt l i).kids with
  | none => rw [hk] at h; cases h
  | some x =>
    rw [hk] at h
    simp only [Option.bind_some] at h
    split at h
    · cases h; exact ⟨x.2, rfl, by assumption⟩
    · cases h
theorem kidsF_cons {l : List Pt} {e : Nat → Option Nat} {n : Nat} {a k : Int} {ks : List Int} {x : Nat × Int} (h : kidsF l e n a (k :: ks) = some x) :
    k = n ∧ n < l.length ∧ a ≤ (pt l n).frm ∧ ∃ m, e n = some m ∧ kidsF l e m (pt l n).too ks = some x := by
  simp only [kidsF] at h
  split at h
  · rename_i hc
    cases he : e n with
    | none => rw [he] at h; cases h
    | some m => rw [he] at h; exact ⟨hc.1, hc.2.1, hc.2.2, m, rfl, h⟩
  · cases h
/- How many kids parts i to e have. -/
def kidsN (l : List Pt) (i e : Nat) : Nat := ((l.drop i).take (e - i)).foldr (fun p n => p.kids.length + n) 0
theorem kidsN_self (l : List Pt) (i : Nat) : kidsN l i i = 0 := by simp [kidsN]
theorem kidsN_add (l : List Pt) {i j e : Nat} (h1 : i ≤ j) (h2 : j ≤ e) : kidsN l i e = kidsN l i j + kidsN l j e := by
  have h : (l.drop i).take (e - i) = (l.drop i).take (j - i) ++ (l.drop j).take (e - j) := by
    have e1 : e - i = (j - i) + (e - j) := by omega
    rw [e1, List.take_add, List.drop_drop, show i + (j - i) = j by omega]
  have hf : ∀ (x : List Pt) (m : Nat), x.foldr (fun p n => p.kids.length + n) m = x.foldr (fun p n => p.kids.length + n) 0 + m := by
    intro x m
    induction x with
    | nil => simp
    | cons p x ih => simp only [List.foldr_cons, ih]; omega
  unfold kidsN
  rw [h, List.foldr_append, hf]
theorem kidsN_one (l : List Pt) {i : Nat} (h : i < l.length) : kidsN l i (i + 1) = (pt l i).kids.length := by
  have e1 : (l.drop i).take (i + 1 - i) = [pt l i] := by
    rw [show i + 1 - i = 1 by omega, List.drop_eq_getElem_cons h]
    simp only [List.take_succ_cons, List.take_zero]
    simp [pt, h]
  unfold kidsN
  rw [e1]; simp
theorem kids_end {l : List Pt} {e : Nat → Option Nat} (he : ∀ n m, n < l.length → e n = some m → n < m ∧ m ≤ l.length ∧ kidsN l n m + 1 = m - n) :
    ∀ (ks : List Int) (n : Nat) (a : Int) (m : Nat) (b : Int), n ≤ l.length → kidsF l e n a ks = some (m, b) → n ≤ m ∧ m ≤ l.length ∧ kidsN l n m + ks.length = m - n
  | [], n, a, m, b, hn, h => by cases h; exact ⟨Nat.le_refl _, hn, by rw [kidsN_self]; simp⟩
  | k :: ks, n, a, m, b, hn, h => by
    obtain ⟨_, h2, _, m', h4, h5⟩ := kidsF_cons h
    obtain ⟨g1, g2, g3⟩ := he n m' h2 h4
    obtain ⟨r1, r2, r3⟩ := kids_end he ks m' _ m b g2 h5
    refine ⟨by omega, r2, ?_⟩
    rw [kidsN_add l (Nat.le_of_lt g1) r1, List.length_cons]
    omega
theorem end_lt {l : List Pt} : ∀ (f i e : Nat), i < l.length → endF l f i = some e → i < e ∧ e ≤ l.length ∧ kidsN l i e + 1 = e - i
  | 0, _, _, _, h => by cases h
  | f + 1, i, e, hi, h => by
    obtain ⟨a, hk, _⟩ := endF_succ h
    obtain ⟨r1, r2, r3⟩ := kids_end (end_lt f) _ _ _ _ _ hi hk
    refine ⟨r1, r2, ?_⟩
    rw [kidsN_add l (Nat.le_succ i) r1, kidsN_one l hi]
    omega
/- A part's kids: each lies behind it, in its span, one behind the other. -/
theorem kids_in {l : List Pt} {e : Nat → Option Nat} (he : ∀ n m, n < l.length → e n = some m → n < m ∧ m ≤ l.length) :
    ∀ (ks : List Int) (n : Nat) (a : Int) (m : Nat) (b : Int), n ≤ l.length → kidsF l e n a ks = some (m, b) → ∀ k, k ∈ ks → ∃ c : Nat, k = c ∧ n ≤ c ∧ c < l.length ∧ ∃ d, e c = some d ∧ d ≤ m
  | [], _, _, _, _, _, _, k, hk => by cases hk
  | k0 :: ks, n, a, m, b, hn, h, k, hk => by
    obtain ⟨h1, h2, _, m', h4, h5⟩ := kidsF_cons h
    obtain ⟨g1, g2⟩ := he n m' h2 h4
    have hm : m' ≤ m := by
      clear hk
      have go : ∀ (ks : List Int) (n : Nat) (a : Int), n ≤ l.length → kidsF l e n a ks = some (m, b) → n ≤ m := by
        intro ks
        induction ks with
        | nil => intro n a _ h; cases h; exact Nat.le_refl _
        | cons k ks ih =>
          intro n a _ h
          obtain ⟨_, q2, _, q3, q4, q5⟩ := kidsF_cons h
          have := he _ _ q2 q4
          have := ih _ _ this.2 q5
          omega
      exact go ks m' _ g2 h5
    rcases List.mem_cons.1 hk with rfl | hk
    · exact ⟨n, h1, Nat.le_refl _, h2, m', h4, hm⟩
    · obtain ⟨c, q1, q2, q3, d, q4, q5⟩ := kids_in he ks m' _ m b g2 h5 k hk
      exact ⟨c, q1, by omega, q3, d, q4, q5⟩
/- Every part that stands in a span has a span of its own in it. -/
theorem kids_cover {l : List Pt} {e : Nat → Option Nat} (he : ∀ n m, n < l.length → e n = some m → n < m ∧ m ≤ l.length) :
    ∀ (ks : List Int) (n : Nat) (a : Int) (m : Nat) (b : Int), n ≤ l.length → kidsF l e n a ks = some (m, b) → ∀ j, n ≤ j → j < m → ∃ c : Nat, (c : Int) ∈ ks ∧ c < l.length ∧ c ≤ j ∧ ∃ d, e c = some d ∧ j < d ∧ d ≤ m
  | [], n, a, m, b, hn, h, j, h1, h2 => by cases h; omega
  | k :: ks, n, a, m, b, hn, h, j, h1, h2 => by
    obtain ⟨q1, q2, _, m', q4, q5⟩ := kidsF_cons h
    obtain ⟨g1, g2⟩ := he n m' q2 q4
    by_cases hj : j < m'
    · refine ⟨n, by rw [q1]; exact List.mem_cons_self .., q2, h1, m', q4, hj, ?_⟩
      clear hj
      have go : ∀ (ks : List Int) (n : Nat) (a : Int), n ≤ l.length → kidsF l e n a ks = some (m, b) → n ≤ m := by
        intro ks
        induction ks with
        | nil => intro n a _ h; cases h; exact Nat.le_refl _
        | cons k ks ih =>
          intro n a _ h
          obtain ⟨_, q2, _, q3, q4, q5⟩ := kidsF_cons h
          have := he _ _ q2 q4
          have := ih _ _ this.2 q5
          omega
      exact go ks m' _ g2 q5
    · obtain ⟨c, c1, c2, c3, d, d1, d2, d3⟩ := kids_cover he ks m' _ m b g2 q5 j (by omega) h2
      exact ⟨c, List.mem_cons_of_mem _ c1, c2, c3, d, d1, d2, d3⟩
theorem end_sub {l : List Pt} : ∀ (f i e : Nat), i < l.length → endF l f i = some e → ∀ j, i ≤ j → j < e → ∃ f' e', endF l (f' + 1) j = some e' ∧ e' ≤ e
  | 0, _, _, _, h, _, _, _ => by cases h
  | f + 1, i, e, hi, h, j, h1, h2 => by
    by_cases hj : j = i
    · subst hj; exact ⟨f, e, h, Nat.le_refl _⟩
    · obtain ⟨a, hk, _⟩ := endF_succ h
      obtain ⟨c, _, c2, c3, d, d1, d2, d3⟩ := kids_cover (fun n m hn hm => ⟨(end_lt f n m hn hm).1, (end_lt f n m hn hm).2.1⟩) _ _ _ _ _ hi hk j (by omega) h2
      obtain ⟨f', e', r1, r2⟩ := end_sub f c d c2 d1 j c3 d2
      exact ⟨f', e', r1, by omega⟩
/- The tree may be. -/
structure Tr (l : List Pt) : Prop where
  some : l ≠ []
  whole : endF l l.length 0 = .some l.length
theorem Tr.pos {l : List Pt} (h : Tr l) : 0 < l.length := List.length_pos_iff.2 h.some
theorem Tr.at {l : List Pt} (h : Tr l) {j : Nat} (hj : j < l.length) : ∃ f e, endF l (f + 1) j = .some e ∧ e ≤ l.length := by
  obtain ⟨f, e, h1, h2⟩ := end_sub _ _ _ h.pos h.whole j (Nat.zero_le _) hj
  exact ⟨f, e, h1, h2⟩
theorem Tr.kid {l : List Pt} (h : Tr l) {j : Nat} (hj : j < l.length) {k : Int} (hk : k ∈ (pt l j).kids) : ∃ c : Nat, k = c ∧ j < c ∧ c < l.length := by
  obtain ⟨f, e, h1, _⟩ := h.at hj
  obtain ⟨a, h3, _⟩ := endF_succ h1
  obtain ⟨c, q1, q2, q3, _⟩ := kids_in (fun n m hn hm => ⟨(end_lt f n m hn hm).1, (end_lt f n m hn hm).2.1⟩) _ _ _ _ _ hj h3 k hk
  exact ⟨c, q1, q2, q3⟩
theorem Tr.sum {l : List Pt} (h : Tr l) : kidsN l 0 l.length + 1 = l.length := by
  have := (end_lt _ _ _ h.pos h.whole).2.2
  omega
/- The kids of a part lie in order. -/
def liesF (l : List Pt) : Int → List Int → Option Int
  | a, [] => some a
  | a, k :: ks => if (pt l k.toNat).frm < a then none else liesF l (pt l k.toNat).too ks
theorem lies_of {l : List Pt} {e : Nat → Option Nat} : ∀ (ks : List Int) (n : Nat) (a : Int) (m : Nat) (b : Int), kidsF l e n a ks = some (m, b) → liesF l a ks = some b
  | [], _, _, _, _, h => by cases h; rfl
  | k :: ks, n, a, m, b, h => by
    obtain ⟨q1, _, q3, m', _, q5⟩ := kidsF_cons h
    have hn : k.toNat = n := by omega
    simp only [liesF, hn]
    rw [if_neg (by omega)]
    exact lies_of ks m' _ m b q5
theorem Tr.lies {l : List Pt} (h : Tr l) {j : Nat} (hj : j < l.length) : ∃ b, liesF l (pt l j).frm (pt l j).kids = .some b ∧ b ≤ (pt l j).too := by
  obtain ⟨f, e, h1, _⟩ := h.at hj
  obtain ⟨a, h3, h4⟩ := endF_succ h1
  exact ⟨a, lies_of _ _ _ _ _ h3, h4⟩
end Go.Proofs.YtdjeokgkeejpcaaGreatDoor

namespace Go.Proofs.YtdjeokgkeejpcaaGreatDoor
abbrev bt (X : List Bool) (i : Nat) : Bool := X.getD i false
abbrev it (X : List Int) (i : Nat) : Int := X.getD i 0
structure StaleOk (l : List Pt) (X : List Bool) : Prop where
  len : X.length = l.length
  is : ∀ j, j < l.length → bt X j = (decide ((pt l j).met ≠ 0) || (pt l j).kids.any fun k => bt X k.toNat)
def aheadF (first look : Int) : Bool := decide (first = -1) || decide (look ≤ first)
def sureF (l : List Pt) (R M : List Int) (first : Int) (j : Nat) : Bool :=
  if leafK (pt l j).kind then aheadF first (it R j) else (pt l j).kids.foldl (fun b k => b && decide (it M k.toNat = 3)) (aheadF first (pt l j).look)
def markF (l : List Pt) (X : List Bool) (R M : List Int) (first : Int) (j : Nat) : Int := if bt X j then 1 else if sureF l R M first j then 3 else 2
structure MarksOk (l : List Pt) (X : List Bool) (R : List Int) (first : Int) (M : List Int) : Prop where
  len : M.length = l.length
  is : ∀ j, j < l.length → it M j = markF l X R M first j
theorem foldl_all {α : Type} (p : α → Bool) : ∀ (ks : List α) (b : Bool), ks.foldl (fun b k => b && p k) b = (b && ks.all p)
  | [], b => by simp
  | k :: ks, b => by rw [List.foldl_cons, foldl_all p ks, List.all_cons, Bool.and_assoc]
/- From the last part to the first one. -/
theorem back {n : Nat} {p : Nat → Prop} (h : ∀ j, j < n → (∀ c, j < c → c < n → p c) → p j) : ∀ j, j < n → p j := by
  have go : ∀ d j, j < n → n - j ≤ d → p j := by
    intro d
    induction d with
    | zero => intro j hj hd; omega
    | succ d ih => intro j hj hd; exact h j hj fun c h1 h2 => ih c h2 (by omega)
  exact fun j hj => go (n - j) j hj (Nat.le_refl _)
theorem any_same {α : Type} {p q : α → Bool} : ∀ (ks : List α), (∀ k, k ∈ ks → p k = q k) → ks.any p = ks.any q
  | [], _ => rfl
  | k :: ks, h => by rw [List.any_cons, List.any_cons, h k (List.mem_cons_self ..), any_same ks fun k hk => h k (List.mem_cons_of_mem _ hk)]
theorem stale_same {l : List Pt} (hT : Tr l) {X Y : List Bool} (hX : StaleOk l X) (hY : StaleOk l Y) : ∀ j, j < l.length → bt X j = bt Y j := by
  refine back fun j hj ih => ?_
  rw [hX.is j hj, hY.is j hj]
  congr 1
  refine any_same _ fun k hk => ?_
  obtain ⟨c, rfl, h1, h2⟩ := hT.kid hj hk
  exact ih c h1 h2
theorem ahead_mono {f f' a a' : Int} (h0 : 0 ≤ f) (hf : f' = -1 ∨ f ≤ f') (ha : a' ≤ a) (h : aheadF f a = true) : aheadF f' a' = true := by
  simp only [aheadF, Bool.or_eq_true, decide_eq_true_eq] at h ⊢
  omega
theorem mark3 {l : List Pt} {X : List Bool} {R M : List Int} {first : Int} {j : Nat} : markF l X R M first j = 3 ↔ bt X j = false ∧ sureF l R M first j = true := by
  unfold markF
  cases bt X j <;> cases sureF l R M first j <;> simp
theorem mark1 {l : List Pt} {X : List Bool} {R M : List Int} {first : Int} {j : Nat} : markF l X R M first j = 1 ↔ bt X j = true := by
  unfold markF
  cases bt X j <;> cases sureF l R M first j <;> simp
theorem marks_mono {l : List Pt} (hT : Tr l) {X Y : List Bool} {R R' M M' : List Int} {f f' : Int} (hX : StaleOk l X) (hY : StaleOk l Y) (h0 : 0 ≤ f) (hf : f' = -1 ∨ f ≤ f') (hR : ∀ j, it R' j ≤ it R j) (hM : MarksOk l X R f M) (hM' : MarksOk l Y R' f' M') :
    ∀ j, j < l.length → it M j = 3 → it M' j = 3 := by
  refine back fun j hj ih h => ?_
  rw [hM.is j hj, mark3] at h
  rw [hM'.is j hj, mark3]
  refine ⟨by rw [← stale_same hT hX hY j hj]; exact h.1, ?_⟩
  have h2 := h.2
  unfold sureF at h2 ⊢
  split at h2
  · rename_i hl
    rw [if_pos hl]
    exact ahead_mono h0 hf (hR j) h2
  · rename_i hl
    rw [if_neg hl]
    rw [foldl_all (fun k : Int => decide (it M k.toNat = 3)), Bool.and_eq_true, List.all_eq_true] at h2
    rw [foldl_all (fun k : Int => decide (it M' k.toNat = 3)), Bool.and_eq_true, List.all_eq_true]
    refine ⟨ahead_mono h0 hf (Int.le_refl _) h2.1, fun k hk => ?_⟩
    have := h2.2 k hk
    obtain ⟨c, rfl, h3, h4⟩ := hT.kid hj hk
    exact decide_eq_true (ih c h3 h4 (by simpa using this))
theorem stale_iff {l : List Pt} (hT : Tr l) {X Y : List Bool} {R R' M M' : List Int} {f f' : Int} (hX : StaleOk l X) (hY : StaleOk l Y) (hM : MarksOk l X R f M) (hM' : MarksOk l Y R' f' M') :
    ∀ j, j < l.length → (it M j = 1 ↔ it M' j = 1) := by
  intro j hj
  rw [hM.is j hj, hM'.is j hj, mark1, mark1, stale_same hT hX hY j hj]
/- How far leaves reach. -/
def nearF (k : Int) (A : List Int) : List Int := A.drop (A.length - k.toNat)
def foldMax (l : List Int) (x : Int) : Int := l.foldl (fun a b => max a b) x
def r1 (l : List Pt) (k : Int) : List Nat → List Int → List Int → List Int
  | [], _, out => out
  | i :: is, A, out => r1 l k is (if (pt l i).kind ≠ 4 then nearF k A ++ [(pt l i).look] else A) (out.set i (foldMax (nearF k A) (pt l i).look))
def r2 (l : List Pt) : List Nat → Int → List Int → List Int
  | [], _, out => out
  | i :: is, m, out => r2 l is (max m (pt l i).look) (out.set i (max (it out i) (max m (pt l i).look)))
def leavesF (l : List Pt) : List Nat := (List.range l.length).filter fun i => leafK (pt l i).kind
def reachF (l : List Pt) (k : Int) : List Int := r2 l (leavesF l) 0 (r1 l k (leavesF l).reverse [] (List.replicate l.length 0))
theorem foldMax_le : ∀ (l : List Int) (x y : Int), x ≤ y → foldMax l x ≤ foldMax l y
  | [], x, y, h => h
  | a :: l, x, y, h => by simp only [foldMax, List.foldl_cons]; exact foldMax_le l _ _ (by omega)
theorem foldMax_ge : ∀ (l : List Int) (x : Int), x ≤ foldMax l x
  | [], x => Int.le_refl _
  | a :: l, x => by
    have := foldMax_ge l (max x a)
    simp only [foldMax, List.foldl_cons] at this ⊢
    omega
theorem foldMax_suffix {A B : List Int} (h : A <:+ B) (x : Int) : foldMax A x ≤ foldMax B x := by
  obtain ⟨C, rfl⟩ := h
  unfold foldMax
  rw [List.foldl_append]
  exact foldMax_le A _ _ (foldMax_ge C x)
theorem near_suffix {A B : List Int} {j k : Int} (h : A <:+ B) (hj : j ≤ k) : nearF j A <:+ nearF k B := by
  obtain ⟨C, rfl⟩ := h
  unfold nearF
  have e : A.drop (A.length - j.toNat) = (C ++ A).drop (C.length + (A.length - j.toNat)) := by
    rw [List.drop_append, List.drop_eq_nil_of_le (as := C) (by omega), Nat.add_sub_cancel_left]; rfl
  rw [e]
  have : (C ++ A).length - k.toNat ≤ C.length + (A.length - j.toNat) := by rw [List.length_append]; omega
  obtain ⟨d, hd⟩ : ∃ d, C.length + (A.length - j.toNat) = (C ++ A).length - k.toNat + d := ⟨_, (Nat.add_sub_cancel' this).symm⟩
  rw [hd, ← List.drop_drop]
  exact List.drop_suffix _ _
theorem set_le {X Y : List Int} (hl : X.length = Y.length) (h : ∀ p, it X p ≤ it Y p) (i : Nat) {a b : Int} (hab : a ≤ b) : ∀ p, it (X.set i a) p ≤ it (Y.set i b) p := by
  intro p
  have hp := h p
  simp only [it, List.getD_eq_getElem?_getD, List.getElem?_set] at hp ⊢
  by_cases e : i = p
  · subst e
    simp only [if_true, hl]
    split
    · exact hab
    · exact Int.le_refl _
  · simp only [if_neg e]; exact hp
theorem r1_le {l : List Pt} {j k : Int} (hj : j ≤ k) : ∀ (is : List Nat) (A B X Y : List Int), A <:+ B → X.length = Y.length → (∀ p, it X p ≤ it Y p) → (r1 l j is A X).length = (r1 l k is B Y).length ∧ ∀ p, it (r1 l j is A X) p ≤ it (r1 l k is B Y) p
  | [], _, _, _, _, _, hl, h => ⟨hl, h⟩
  | i :: is, A, B, X, Y, hs, hl, h => by
    have hn := near_suffix hs hj
    have hset := set_le hl h i (foldMax_suffix hn (pt l i).look)
    simp only [r1]
    refine r1_le hj is _ _ _ _ ?_ (by simp [hl]) hset
    split
    · obtain ⟨C, hC⟩ := hn
      exact ⟨C, by rw [← List.append_assoc, hC]⟩
    · exact hs
theorem r2_le {l : List Pt} : ∀ (is : List Nat) (m : Int) (X Y : List Int), X.length = Y.length → (∀ p, it X p ≤ it Y p) → ∀ p, it (r2 l is m X) p ≤ it (r2 l is m Y) p
  | [], _, _, _, _, h => h
  | i :: is, m, X, Y, hl, h => by
    simp only [r2]
    exact r2_le is _ _ _ (by simp [hl]) (set_le hl h i (by have := h i; omega))
theorem reach_le {l : List Pt} {j k : Int} (hj : j ≤ k) : ∀ p, it (reachF l j) p ≤ it (reachF l k) p := by
  have := r1_le (l := l) hj (leavesF l).reverse [] [] (List.replicate l.length 0) (List.replicate l.length 0) (List.suffix_refl _) rfl (fun _ => Int.le_refl _)
  exact r2_le _ _ _ _ this.1 this.2
end Go.Proofs.YtdjeokgkeejpcaaGreatDoor
