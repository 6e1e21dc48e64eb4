/- Regex: the laws, in plain terms. -/
namespace Go.Proofs.YtpbkgegkjglibaaDoor

abbrev Lg := List Int → Prop
def lnone : Lg := fun _ => False
def lnil : Lg := fun s => s = []
def lor (A B : Lg) : Lg := fun s => A s ∨ B s
def lcat (A B : Lg) : Lg := fun s => ∃ u v, s = u ++ v ∧ A u ∧ B v
inductive LStar (A : Lg) : Lg
  | nil : LStar A []
  | more {u v : List Int} : A u → LStar A v → LStar A (u ++ v)

/-- From leaf p on, through leaves that follow one another, to one that ends: the text's bytes. -/
inductive Path (H : Nat → Int → Prop) (G : Nat → Nat → Prop) (L : Nat → Prop) : Nat → List Int → Prop
  | one {p : Nat} {c : Int} : H p c → L p → Path H G L p [c]
  | cons {p q : Nat} {c : Int} {s : List Int} : H p c → G p q → Path H G L q s → Path H G L p (c :: s)

def Run (H : Nat → Int → Prop) (F L : Nat → Prop) (G : Nat → Nat → Prop) (s : List Int) : Prop := ∃ p, F p ∧ Path H G L p s

variable {H : Nat → Int → Prop} {G G' G1 G2 : Nat → Nat → Prop} {L L' L1 L2 F F1 F2 P P1 P2 : Nat → Prop}

theorem Path.ne {p : Nat} {s : List Int} (h : Path H G L p s) : s ≠ [] := by cases h <;> simp
theorem Path.inside (hG : ∀ p q, P p → G p q → G' p q ∧ P q) (hL : ∀ p, P p → L p → L' p) {p : Nat} {s : List Int} (h : Path H G L p s) : P p → Path H G' L' p s := by
  induction h with
  | one hc hl => intro hp; exact .one hc (hL _ hp hl)
  | cons hc hg _ ih => intro hp; exact .cons hc (hG _ _ hp hg).1 (ih (hG _ _ hp hg).2)
theorem Path.mono (hG : ∀ p q, G p q → G' p q) (hL : ∀ p, L p → L' p) {p : Nat} {s : List Int} (h : Path H G L p s) : Path H G' L' p s :=
  h.inside (P := fun _ => True) (fun p q _ hg => ⟨hG p q hg, trivial⟩) (fun p _ hl => hL p hl) trivial
theorem Path.append (hJ : ∀ p q, L1 p → F q → G p q) {p q : Nat} {u v : List Int} (h : Path H G L1 p u) (hq : F q) (hv : Path H G L q v) : Path H G L p (u ++ v) := by
  induction h with
  | one hc hl => exact .cons hc (hJ _ _ hl hq) hv
  | cons hc hg _ ih => exact .cons hc hg ih

structure Good (H : Nat → Int → Prop) (P : Nat → Prop) (e : Prop) (F L : Nat → Prop) (G : Nat → Nat → Prop) (A : Lg) : Prop where
  f : ∀ p, F p → P p
  l : ∀ p, L p → P p
  g : ∀ p q, G p q → P p ∧ P q
  a : ∀ s, A s ↔ (e ∧ s = []) ∨ Run H F L G s

theorem Good.of {e e' : Prop} {F' : Nat → Prop} {P' : Nat → Prop} {A A' : Lg} (h : Good H P e F L G A) (hP : ∀ p, P p → P' p) (he : e' ↔ e) (hF : ∀ p, F' p ↔ F p) (hL : ∀ p, L' p ↔ L p) (hG : ∀ p q, G' p q ↔ G p q) (hA : ∀ s, A' s ↔ A s) : Good H P' e' F' L' G' A' where
  f := fun p x => hP p (h.f p ((hF p).1 x))
  l := fun p x => hP p (h.l p ((hL p).1 x))
  g := fun p q x => ⟨hP p (h.g p q ((hG p q).1 x)).1, hP q (h.g p q ((hG p q).1 x)).2⟩
  a := fun s => by
    rw [hA, h.a, he]
    constructor
    · rintro (x | ⟨p, x, y⟩)
      · exact .inl x
      · exact .inr ⟨p, (hF p).2 x, y.mono (fun p q => (hG p q).2) (fun p => (hL p).2)⟩
    · rintro (x | ⟨p, x, y⟩)
      · exact .inl x
      · exact .inr ⟨p, (hF p).1 x, y.mono (fun p q => (hG p q).1) (fun p => (hL p).1)⟩

end Go.Proofs.YtpbkgegkjglibaaDoor

namespace Go.Proofs.YtpbkgegkjglibaaDoor

/-- A node: its kind, its class' words, its parts. -/
structure Nd where
  k : Int
  a : Nat
  b : Nat
  c : Nat
  d : Nat
  kids : List Int
deriving Inhabited
def Nd.wd (x : Nd) (i : Nat) : Nat := if i = 0 then x.a else if i = 1 then x.b else if i = 2 then x.c else x.d
def Nd.has (x : Nd) (v : Int) : Bool := (x.wd (v.toNat / 64)).testBit (v.toNat % 64)
def lowV (k : Int) : Int := if k = 1 ∨ k = 2 then 0 else if k = 3 ∨ k = 4 then 2 else if k = 5 ∨ k = 6 ∨ k = 7 then 1 else 0
def highV (k : Int) : Int := if k = 1 ∨ k = 2 then 0 else if k = 3 ∨ k = 4 then 512 else if k = 5 ∨ k = 6 ∨ k = 7 then 1 else 0
def kindV (k : Int) : Bool := decide (1 ≤ k) && decide (k ≤ 7)
/-- A node at place i may be. -/
structure NdOk (i : Nat) (x : Nd) : Prop where
  k : 1 ≤ x.k ∧ x.k ≤ 7
  low : lowV x.k ≤ x.kids.length
  high : (x.kids.length : Int) ≤ highV x.k
  cls : x.k ≠ 2 → x.a = 0 ∧ x.b = 0 ∧ x.c = 0 ∧ x.d = 0
  kids : ∀ k ∈ x.kids, 0 ≤ k ∧ k < i
def kidsOf (r : List Nd) : List Int := r.flatMap Nd.kids
structure RxOk (r : List Nd) : Prop where
  one : 1 ≤ r.length
  most : r.length ≤ 512
  nd : ∀ i x, r[i]? = some x → NdOk i x
  once : ∀ j : Nat, j + 1 < r.length → (kidsOf r).count (j : Int) = 1

def mem (s : List Bool) (p : Nat) : Prop := s[p]? = some true
def memN (nx : List (List Bool)) (p q : Nat) : Prop := ∃ row, nx[p]? = some row ∧ mem row q
def zeros (n : Nat) : List Bool := List.replicate n false
structure En where
  e : Bool
  f : List Bool
  l : List Bool
deriving Inhabited
def en (ends : List En) (k : Int) : En := ends.getD k.toNat default
end Go.Proofs.YtpbkgegkjglibaaDoor

namespace Go.Proofs.YtpbkgegkjglibaaDoor
variable {r : List Nd}

def Par (r : List Nd) (p q : Nat) : Prop := ∃ x, r[q]? = some x ∧ (p : Int) ∈ x.kids
inductive Desc (r : List Nd) : Nat → Nat → Prop
  | refl (p : Nat) : Desc r p p
  | up {p q i : Nat} : Par r p q → Desc r q i → Desc r p i

theorem kidsOf_cons (x : Nd) (r : List Nd) : kidsOf (x :: r) = x.kids ++ kidsOf r := by simp [kidsOf]
theorem lt_of_some {α : Type} {l : List α} {i : Nat} {x : α} (h : l[i]? = some x) : i < l.length := by
  rcases Nat.lt_or_ge i l.length with y | y
  · exact y
  · rw [List.getElem?_eq_none y] at h; simp at h

theorem Par.lt (ok : RxOk r) {p q : Nat} (h : Par r p q) : p < q := by
  obtain ⟨x, hx, hp⟩ := h
  have := ((ok.nd q x hx).kids _ hp).2
  omega
theorem Desc.le (ok : RxOk r) {p i : Nat} (h : Desc r p i) : p ≤ i := by
  induction h with
  | refl => exact Nat.le_refl _
  | up hp _ ih => have := hp.lt ok; omega
theorem Desc.snoc {p k i : Nat} (h : Desc r p k) (hk : Par r k i) : Desc r p i := by
  induction h with
  | refl => exact .up hk (.refl _)
  | up hp _ ih => exact .up hp (ih hk)
theorem Desc.last {p i : Nat} (h : Desc r p i) : p = i ∨ ∃ k, Par r k i ∧ Desc r p k := by
  induction h with
  | refl => exact .inl rfl
  | up hp _ ih =>
    rcases ih with rfl | ⟨k, hk, hd⟩
    · exact .inr ⟨_, hp, .refl _⟩
    · exact .inr ⟨k, hk, .up hp hd⟩
end Go.Proofs.YtpbkgegkjglibaaDoor

namespace Go.Proofs.YtpbkgegkjglibaaDoor
variable {r : List Nd}

def nodeL (acc : List Lg) (x : Nd) : Lg :=
  if x.k = 2 then fun s => ∃ c, s = [c] ∧ x.has c = true
  else if x.k = 3 then x.kids.foldl (fun A k => lcat A (acc.getD k.toNat lnone)) lnil
  else
    let A := x.kids.foldl (fun A k => lor A (acc.getD k.toNat lnone)) (if x.k = 1 then lnil else lnone)
    if x.k = 5 then LStar A else if x.k = 6 then lcat A (LStar A) else if x.k = 7 then lor A lnil else A
def allL (r : List Nd) : Nat → List Lg
  | 0 => []
  | m + 1 => allL r m ++ [nodeL (allL r m) (r.getD m default)]
/-- The rows that are made are of n, the others are none. -/
structure Rows (n M : Nat) (nx : List (List Bool)) : Prop where
  len : nx.length = n
  row : ∀ p row, nx[p]? = some row → row.length = if p < M then n else 0
theorem Rows.get {n M : Nat} {nx : List (List Bool)} (h : Rows n M nx) {p : Nat} (hp : p < M) (hM : M ≤ n) : ∃ row, nx[p]? = some row ∧ row.length = n := by
  have h1 : p < nx.length := by have := h.len; omega
  refine ⟨_, List.getElem?_eq_getElem h1, ?_⟩
  rw [h.row p _ (List.getElem?_eq_getElem h1), if_pos hp]
/-- What is known of a node's ends. -/
structure EnOk (H : Nat → Int → Prop) (n : Nat) (P : Nat → Prop) (G : Nat → Nat → Prop) (A : Lg) (x : En) : Prop where
  lf : x.f.length = n
  ll : x.l.length = n
  good : Good H P (x.e = true) (mem x.f) (mem x.l) G A

variable {H : Nat → Int → Prop} {n M : Nat} {ends : List En} {Pk : Int → Nat → Prop} {Gk : Int → Nat → Nat → Prop} {Lk : Int → Lg}

end Go.Proofs.YtpbkgegkjglibaaDoor

namespace Go.Proofs.YtpbkgegkjglibaaDoor
variable {r : List Nd}

/-- Does the leaf at a place have a byte? -/
def hasAt (r : List Nd) (p : Nat) (c : Int) : Prop := (r.getD p default).has c = true
structure Inv (r : List Nd) (m : Nat) (s : List En × List (List Bool)) : Prop where
  le : s.1.length = m
  rows : Rows r.length m s.2
  c : ∃ C : Nat → Nat → Nat → Prop, (∀ p q, memN s.2 p q ↔ ∃ j, j < m ∧ C j p q) ∧
    ∀ i, i < m → EnOk (hasAt r) r.length (fun p => Desc r p i) (fun p q => ∃ j, Desc r j i ∧ C j p q) ((allL r m).getD i lnone) (en s.1 (i : Int))

end Go.Proofs.YtpbkgegkjglibaaDoor

namespace Go.Proofs.YtpbkgegkjglibaaDoor
variable {r : List Nd}

end Go.Proofs.YtpbkgegkjglibaaDoor

namespace Go.Proofs.YtpbkgegkjglibaaDoor

def shN (d : Int) (x : Nd) : Nd := ⟨x.k, x.a, x.b, x.c, x.d, x.kids.map (· + d)⟩
def joinK (s : List Nd × List Int) (p : List Nd) : List Nd × List Int := (s.1 ++ p.map (shN s.1.length), s.2 ++ [(s.1.length : Int) + p.length - 1])
def joinV (k : Int) (l : List (List Nd)) : List Nd := (l.foldl joinK ([], [])).1 ++ [⟨k, 0, 0, 0, 0, (l.foldl joinK ([], [])).2⟩]

/-- Trees, and the places of their roots. -/
structure Forest (out : List Nd) (roots : List Int) : Prop where
  nd : ∀ i x, out[i]? = some x → NdOk i x
  one : ∀ j : Nat, j < out.length → (kidsOf out).count (j : Int) + roots.count (j : Int) = 1
  roots : ∀ k ∈ roots, 0 ≤ k ∧ k < out.length

theorem kids_bound : ∀ {out : List Nd} {n : Nat}, (∀ i x, out[i]? = some x → NdOk (n + i) x) → ∀ k ∈ kidsOf out, 0 ≤ k ∧ k + 1 < n + out.length
  | [], _, _, k, hk => by simp [kidsOf] at hk
  | x :: out, n, h, k, hk => by
    rw [kidsOf_cons, List.mem_append] at hk
    rcases hk with hk | hk
    · have := (h 0 x rfl).kids k hk
      simp; omega
    · have := kids_bound (out := out) (n := n + 1) (fun i y hy => by have := h (i + 1) y (by simpa using hy); rwa [show n + 1 + i = n + (i + 1) by omega]) k hk
      simp; omega
theorem kidsOf_append (a b : List Nd) : kidsOf (a ++ b) = kidsOf a ++ kidsOf b := by simp [kidsOf]
theorem count_shift (d j : Int) : ∀ l : List Int, (l.map (· + d)).count j = l.count (j - d)
  | [] => rfl
  | x :: l => by
    rw [List.map_cons, List.count_cons, List.count_cons, count_shift d j l]
    by_cases h : x + d = j
    · rw [if_pos (by simpa using h), if_pos (by simp; omega)]
    · rw [if_neg (by simpa using h), if_neg (by simp; omega)]
theorem kidsOf_shift (d : Int) : ∀ b : List Nd, kidsOf (b.map (shN d)) = (kidsOf b).map (· + d)
  | [] => rfl
  | x :: b => by
    rw [List.map_cons, kidsOf_cons, kidsOf_cons, kidsOf_shift d b, List.map_append]; rfl

theorem forest_nil : Forest [] [] := ⟨fun i x h => by simp at h, fun j h => by simp at h, fun k h => by simp at h⟩
theorem Forest.join {out : List Nd} {roots : List Int} (h : Forest out roots) {p : List Nd} (ok : RxOk p) : Forest (joinK (out, roots) p).1 (joinK (out, roots) p).2 := by
  have h1 := ok.one
  have hb := kids_bound (n := 0) (fun i x hx => by simpa using ok.nd i x hx)
  have ho := kids_bound (n := 0) (fun i x hx => by simpa using h.nd i x hx)
  constructor
  · intro i x hx
    show NdOk i x
    simp only [joinK] at hx
    by_cases hi : i < out.length
    · rw [List.getElem?_append_left hi] at hx
      exact h.nd i x hx
    · rw [List.getElem?_append_right (by omega), List.getElem?_map] at hx
      cases e : p[i - out.length]? with
      | none => rw [e] at hx; simp at hx
      | some y =>
        rw [e] at hx
        simp at hx
        subst hx
        have hy := ok.nd _ y e
        refine ⟨hy.k, by simpa [shN] using hy.low, by simpa [shN] using hy.high, hy.cls, fun k hk => ?_⟩
        simp only [shN, List.mem_map] at hk
        obtain ⟨k', hk', rfl⟩ := hk
        have := hy.kids k' hk'
        omega
  · intro j hj
    simp only [joinK, List.length_append, List.length_map] at hj ⊢
    rw [kidsOf_append, kidsOf_shift, List.count_append, List.count_append, count_shift, List.count_singleton]
    by_cases hi : j < out.length
    · have e1 : (kidsOf p).count ((j : Int) - (out.length : Int)) = 0 := List.count_eq_zero_of_not_mem (fun hm => by have := hb _ hm; omega)
      rw [if_neg (by simp; omega), e1]
      have := h.one j hi
      omega
    · have e1 : (kidsOf out).count (j : Int) = 0 := List.count_eq_zero_of_not_mem (fun hm => by have := ho _ hm; omega)
      have e2 : roots.count (j : Int) = 0 := List.count_eq_zero_of_not_mem (fun hm => by have := h.roots _ hm; omega)
      rw [e1, e2]
      by_cases hl : j + 1 = out.length + p.length
      · have e3 : (kidsOf p).count ((j : Int) - (out.length : Int)) = 0 := List.count_eq_zero_of_not_mem (fun hm => by have := hb _ hm; omega)
        rw [e3, if_pos (by simp; omega)]
      · have e3 := ok.once (j - out.length) (by omega)
        rw [show (((j - out.length : Nat)) : Int) = (j : Int) - (out.length : Int) by omega] at e3
        rw [e3, if_neg (by simp; omega)]
  · intro k hk
    simp only [joinK, List.mem_append, List.mem_singleton, List.length_append, List.length_map] at hk ⊢
    rcases hk with hk | rfl
    · have := h.roots k hk; omega
    · omega
theorem Forest.shut {out : List Nd} {roots : List Int} (h : Forest out roots) (hm : out.length + 1 ≤ 512) {k : Int} (hk : 1 ≤ k ∧ k ≤ 7 ∧ k ≠ 2) (hl : lowV k ≤ roots.length) (hh : (roots.length : Int) ≤ highV k) :
    RxOk (out ++ [⟨k, 0, 0, 0, 0, roots⟩]) := by
  refine ⟨by simp, by simpa using hm, ?_, ?_⟩
  · intro i x hx
    by_cases hi : i < out.length
    · rw [List.getElem?_append_left hi] at hx
      exact h.nd i x hx
    · rw [List.getElem?_append_right (by omega)] at hx
      by_cases e : i = out.length
      · subst e
        simp at hx
        subst hx
        exact ⟨⟨hk.1, hk.2.1⟩, hl, hh, fun _ => ⟨rfl, rfl, rfl, rfl⟩, fun k hk => h.roots k hk⟩
      · rw [List.getElem?_eq_none (by simp; omega)] at hx; simp at hx
  · intro j hj
    simp at hj
    rw [kidsOf_append, List.count_append]
    simpa [kidsOf] using h.one j hj

-- languages of parts
theorem shN_zero (x : Nd) : shN 0 x = x := by simp [shN]
theorem map_shN_zero : ∀ a : List Nd, a.map (shN 0) = a
  | [] => rfl
  | x :: a => by rw [List.map_cons, shN_zero, map_shN_zero a]
theorem join_one (k : Int) (a : List Nd) : joinV k [a] = a ++ [⟨k, 0, 0, 0, 0, [(a.length : Int) - 1]⟩] := by
  simp [joinV, joinK, map_shN_zero]
theorem ok_one {k : Int} {a : List Nd} (ha : RxOk a) (h : a.length < 512) (hk : k = 5 ∨ k = 6 ∨ k = 7) : RxOk (joinV k [a]) := by
  refine (forest_nil.join ha).shut ?_ (by omega) ?_ ?_
  · simp [joinK]; omega
  · rcases hk with rfl | rfl | rfl <;> simp [joinK, lowV]
  · rcases hk with rfl | rfl | rfl <;> simp [joinK, highV]
end Go.Proofs.YtpbkgegkjglibaaDoor

namespace Go.Proofs.YtpbkgegkjglibaaDoor
variable {a b : List Nd} {s : List Int}

end Go.Proofs.YtpbkgegkjglibaaDoor
