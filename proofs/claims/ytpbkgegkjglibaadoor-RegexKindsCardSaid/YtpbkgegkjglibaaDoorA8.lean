/- Regex: the laws, in plain terms. -/
namespace Go.Proofs.YtpbkgegkjglibaaDoor

abbrev Lg := List Int → Prop
def lnone : Lg := fun _ => False
def lnil : Lg := fun s => s = []
def lor (A B : Lg) : Lg := fun s => A s ∨ B s
def lcat (A B : Lg) : Lg := fun s => ∃ u v, s = u ++ v ∧ A u ∧ B v
inductive LStar (A : Lg) : Lg
  | nil : LStar A []
  | more {u v : List Int} : A u → LStar A v → LStar A (u ++ v)

/-- From leaf p on, through leaves that follow one another, to one that ends: the text's bytes. -/
inductive Path (H : Nat → Int → Prop) (G : Nat → Nat → Prop) (L : Nat → Prop) : Nat → List Int → Prop
  | one {p : Nat} {c : Int} : H p c → L p → Path H G L p [c]
  | cons {p q : Nat} {c : Int} {s : List Int} : H p c → G p q → Path H G L q s → Path H G L p (c :: s)

def Run (H : Nat → Int → Prop) (F L : Nat → Prop) (G : Nat → Nat → Prop) (s : List Int) : Prop := ∃ p, F p ∧ Path H G L p s

variable {H : Nat → Int → Prop} {G G' G1 G2 : Nat → Nat → Prop} {L L' L1 L2 F F1 F2 P P1 P2 : Nat → Prop}

theorem Path.ne {p : Nat} {s : List Int} (h : Path H G L p s) : s ≠ [] := by cases h <;> simp
theorem Path.inside (hG : ∀ p q, P p → G p q → G' p q ∧ P q) (hL : ∀ p, P p → L p → L' p) {p : Nat} {s : List Int} (h : Path H G L p s) : P p → Path H G' L' p s := by
  induction h with
  | one hc hl => intro hp; exact .one hc (hL _ hp hl)
  | cons hc hg _ ih => intro hp; exact .cons hc (hG _ _ hp hg).1 (ih (hG _ _ hp hg).2)
theorem Path.mono (hG : ∀ p q, G p q → G' p q) (hL : ∀ p, L p → L' p) {p : Nat} {s : List Int} (h : Path H G L p s) : Path H G' L' p s :=
  h.inside (P := fun _ => True) (fun p q _ hg => ⟨hG p q hg, trivial⟩) (fun p _ hl => hL p hl) trivial
theorem Path.append (hJ : ∀ p q, L1 p → F q → G p q) {p q : Nat} {u v : List Int} (h : Path H G L1 p u) (hq : F q) (hv : Path H G L q v) : Path H G L p (u ++ v) := by
  induction h with
  | one hc hl => exact .cons hc (hJ _ _ hl hq) hv
  | cons hc hg _ ih => exact .cons hc hg ih

structure Good (H : Nat → Int → Prop) (P : Nat → Prop) (e : Prop) (F L : Nat → Prop) (G : Nat → Nat → Prop) (A : Lg) : Prop where
  f : ∀ p, F p → P p
  l : ∀ p, L p → P p
  g : ∀ p q, G p q → P p ∧ P q
  a : ∀ s, A s ↔ (e ∧ s = []) ∨ Run H F L G s

theorem Good.of {e e' : Prop} {F' : Nat → Prop} {P' : Nat → Prop} {A A' : Lg} (h : Good H P e F L G A) (hP : ∀ p, P p → P' p) (he : e' ↔ e) (hF : ∀ p, F' p ↔ F p) (hL : ∀ p, L' p ↔ L p) (hG : ∀ p q, G' p q ↔ G p q) (hA : ∀ s, A' s ↔ A s) : Good H P' e' F' L' G' A' where
  f := fun p x => hP p (h.f p ((hF p).1 x))
  l := fun p x => hP p (h.l p ((hL p).1 x))
  g := fun p q x => ⟨hP p (h.g p q ((hG p q).1 x)).1, hP q (h.g p q ((hG p q).1 x)).2⟩
  a := fun s => by
    rw [hA, h.a, he]
    constructor
    · rintro (x | ⟨p, x, y⟩)
      · exact .inl x
      · exact .inr ⟨p, (hF p).2 x, y.mono (fun p q => (hG p q).2) (fun p => (hL p).2)⟩
    · rintro (x | ⟨p, x, y⟩)
      · exact .inl x
      · exact .inr ⟨p, (hF p).1 x, y.mono (fun p q => (hG p q).1) (fun p => (hL p).1)⟩

theorem good_nil : Good H (fun _ => False) True (fun _ => False) (fun _ => False) (fun _ _ => False) lnil where
  f := fun _ x => x.elim
  l := fun _ x => x.elim
  g := fun _ _ x => x.elim
  a := fun s => by simp [lnil, Run]
theorem good_none : Good H (fun _ => False) False (fun _ => False) (fun _ => False) (fun _ _ => False) lnone where
  f := fun _ x => x.elim
  l := fun _ x => x.elim
  g := fun _ _ x => x.elim
  a := fun s => by simp [lnone, Run]
theorem good_leaf (i : Nat) : Good H (fun p => p = i) False (fun p => p = i) (fun p => p = i) (fun _ _ => False) (fun s => ∃ c, s = [c] ∧ H i c) where
  f := fun _ x => x
  l := fun _ x => x
  g := fun _ _ x => x.elim
  a := fun s => by
    constructor
    · rintro ⟨c, rfl, hc⟩; exact .inr ⟨i, rfl, .one hc rfl⟩
    · rintro (⟨x, _⟩ | ⟨p, rfl, y⟩)
      · exact x.elim
      · cases y with
        | one hc _ => exact ⟨_, rfl, hc⟩
        | cons _ hg _ => exact hg.elim

theorem cat_cut {e2 : Prop} (hd : ∀ p, P1 p → P2 p → False) (hf2 : ∀ p, F2 p → P2 p) (hl2 : ∀ p, L2 p → P2 p) (hg1 : ∀ p q, G1 p q → P1 p ∧ P1 q) (hg2 : ∀ p q, G2 p q → P2 p ∧ P2 q) (hl1 : ∀ p, L1 p → P1 p)
    {p : Nat} {s : List Int} (h : Path H (fun p q => G1 p q ∨ G2 p q ∨ (L1 p ∧ F2 q)) (fun p => L2 p ∨ (e2 ∧ L1 p)) p s) :
    P1 p → (Path H G1 L1 p s ∧ e2) ∨ ∃ u v q, s = u ++ v ∧ Path H G1 L1 p u ∧ F2 q ∧ Path H G2 L2 q v := by
  induction h with
  | one hc hl =>
    intro hp
    rcases hl with hl | ⟨he, hl⟩
    · exact (hd _ hp (hl2 _ hl)).elim
    · exact .inl ⟨.one hc hl, he⟩
  | cons hc hg hr ih =>
    intro hp
    rcases hg with hg | hg | ⟨hl, hf⟩
    · rcases ih (hg1 _ _ hg).2 with ⟨x, he⟩ | ⟨u, v, q, rfl, x, y, z⟩
      · exact .inl ⟨.cons hc hg x, he⟩
      · exact .inr ⟨_ :: u, v, q, rfl, .cons hc hg x, y, z⟩
    · exact (hd _ hp (hg2 _ _ hg).1).elim
    · refine .inr ⟨[_], _, _, rfl, .one hc hl, hf, hr.inside (P := P2) ?_ ?_ (hf2 _ hf)⟩
      · rintro a b ha (x | x | ⟨x, _⟩)
        · exact (hd _ (hg1 _ _ x).1 ha).elim
        · exact ⟨x, (hg2 _ _ x).2⟩
        · exact (hd _ (hl1 _ x) ha).elim
      · rintro a ha (x | ⟨_, x⟩)
        · exact x
        · exact (hd _ (hl1 _ x) ha).elim

theorem good_cat {e1 e2 : Prop} {A1 A2 : Lg} (h1 : Good H P1 e1 F1 L1 G1 A1) (h2 : Good H P2 e2 F2 L2 G2 A2) (hd : ∀ p, P1 p → P2 p → False) :
    Good H (fun p => P1 p ∨ P2 p) (e1 ∧ e2) (fun p => F1 p ∨ (e1 ∧ F2 p)) (fun p => L2 p ∨ (e2 ∧ L1 p)) (fun p q => G1 p q ∨ G2 p q ∨ (L1 p ∧ F2 q)) (lcat A1 A2) where
  f := fun p x => x.elim (fun y => .inl (h1.f p y)) (fun y => .inr (h2.f p y.2))
  l := fun p x => x.elim (fun y => .inr (h2.l p y)) (fun y => .inl (h1.l p y.2))
  g := fun p q x => by
    rcases x with x | x | ⟨x, y⟩
    · exact ⟨.inl (h1.g _ _ x).1, .inl (h1.g _ _ x).2⟩
    · exact ⟨.inr (h2.g _ _ x).1, .inr (h2.g _ _ x).2⟩
    · exact ⟨.inl (h1.l _ x), .inr (h2.f _ y)⟩
  a := fun s => by
    constructor
    · rintro ⟨u, v, rfl, hu, hv⟩
      rcases (h1.a u).1 hu with ⟨e, rfl⟩ | ⟨p, hp, x⟩ <;> rcases (h2.a v).1 hv with ⟨e', rfl⟩ | ⟨q, hq, y⟩
      · exact .inl ⟨⟨e, e'⟩, rfl⟩
      · exact .inr ⟨q, .inr ⟨e, hq⟩, y.mono (fun _ _ z => .inr (.inl z)) (fun _ z => .inl z)⟩
      · exact .inr ⟨p, .inl hp, by rw [List.append_nil]; exact x.mono (fun _ _ z => .inl z) (fun _ z => .inr ⟨e', z⟩)⟩
      · exact .inr ⟨p, .inl hp, (x.mono (G' := fun p q => G1 p q ∨ G2 p q ∨ (L1 p ∧ F2 q)) (L' := L1) (fun _ _ z => .inl z) (fun _ z => z)).append (F := F2) (fun _ _ a b => .inr (.inr ⟨a, b⟩)) hq (y.mono (fun _ _ z => .inr (.inl z)) (fun _ z => .inl z))⟩
    · rintro (⟨⟨e, e'⟩, rfl⟩ | ⟨p, hp | ⟨e, hp⟩, x⟩)
      · exact ⟨[], [], rfl, (h1.a _).2 (.inl ⟨e, rfl⟩), (h2.a _).2 (.inl ⟨e', rfl⟩)⟩
      · rcases cat_cut hd h2.f h2.l h1.g h2.g h1.l x (h1.f _ hp) with ⟨y, e⟩ | ⟨u, v, q, rfl, y, hq, z⟩
        · exact ⟨s, [], by simp, (h1.a _).2 (.inr ⟨p, hp, y⟩), (h2.a _).2 (.inl ⟨e, rfl⟩)⟩
        · exact ⟨u, v, rfl, (h1.a _).2 (.inr ⟨p, hp, y⟩), (h2.a _).2 (.inr ⟨q, hq, z⟩)⟩
      · refine ⟨[], s, rfl, (h1.a _).2 (.inl ⟨e, rfl⟩), (h2.a _).2 (.inr ⟨p, hp, x.inside (P := P2) ?_ ?_ (h2.f _ hp)⟩)⟩
        · rintro a b ha (x | x | ⟨x, _⟩)
          · exact (hd _ (h1.g _ _ x).1 ha).elim
          · exact ⟨x, (h2.g _ _ x).2⟩
          · exact (hd _ (h1.l _ x) ha).elim
        · rintro a ha (x | ⟨_, x⟩)
          · exact x
          · exact (hd _ (h1.l _ x) ha).elim

theorem good_alt {e1 e2 : Prop} {A1 A2 : Lg} (h1 : Good H P1 e1 F1 L1 G1 A1) (h2 : Good H P2 e2 F2 L2 G2 A2) (hd : ∀ p, P1 p → P2 p → False) :
    Good H (fun p => P1 p ∨ P2 p) (e1 ∨ e2) (fun p => F1 p ∨ F2 p) (fun p => L1 p ∨ L2 p) (fun p q => G1 p q ∨ G2 p q) (lor A1 A2) where
  f := fun p x => x.imp (h1.f p) (h2.f p)
  l := fun p x => x.imp (h1.l p) (h2.l p)
  g := fun p q x => by
    rcases x with x | x
    · exact ⟨.inl (h1.g _ _ x).1, .inl (h1.g _ _ x).2⟩
    · exact ⟨.inr (h2.g _ _ x).1, .inr (h2.g _ _ x).2⟩
  a := fun s => by
    constructor
    · rintro (hu | hu)
      · rcases (h1.a s).1 hu with ⟨e, rfl⟩ | ⟨p, hp, x⟩
        · exact .inl ⟨.inl e, rfl⟩
        · exact .inr ⟨p, .inl hp, x.mono (fun _ _ => .inl) (fun _ => .inl)⟩
      · rcases (h2.a s).1 hu with ⟨e, rfl⟩ | ⟨p, hp, x⟩
        · exact .inl ⟨.inr e, rfl⟩
        · exact .inr ⟨p, .inr hp, x.mono (fun _ _ => .inr) (fun _ => .inr)⟩
    · rintro (⟨e | e, rfl⟩ | ⟨p, hp | hp, x⟩)
      · exact .inl ((h1.a _).2 (.inl ⟨e, rfl⟩))
      · exact .inr ((h2.a _).2 (.inl ⟨e, rfl⟩))
      · refine .inl ((h1.a _).2 (.inr ⟨p, hp, x.inside (P := P1) ?_ ?_ (h1.f _ hp)⟩))
        · rintro a b ha (y | y)
          · exact ⟨y, (h1.g _ _ y).2⟩
          · exact (hd _ ha (h2.g _ _ y).1).elim
        · rintro a ha (y | y)
          · exact y
          · exact (hd _ ha (h2.l _ y)).elim
      · refine .inr ((h2.a _).2 (.inr ⟨p, hp, x.inside (P := P2) ?_ ?_ (h2.f _ hp)⟩))
        · rintro a b ha (y | y)
          · exact (hd _ (h1.g _ _ y).1 ha).elim
          · exact ⟨y, (h2.g _ _ y).2⟩
        · rintro a ha (y | y)
          · exact (hd _ (h1.l _ y) ha).elim
          · exact y

theorem star_cut {e : Prop} {A : Lg} (h : Good H P e F L G A) {p : Nat} {s : List Int} (x : Path H (fun p q => G p q ∨ (L p ∧ F q)) L p s) :
    ∃ u v, s = u ++ v ∧ Path H G L p u ∧ LStar A v := by
  induction x with
  | one hc hl => exact ⟨[_], [], rfl, .one hc hl, .nil⟩
  | cons hc hg _ ih =>
    obtain ⟨u, v, rfl, y, z⟩ := ih
    rcases hg with hg | ⟨hl, hf⟩
    · exact ⟨_ :: u, v, rfl, .cons hc hg y, z⟩
    · exact ⟨[_], u ++ v, rfl, .one hc hl, .more ((h.a _).2 (.inr ⟨_, hf, y⟩)) z⟩
theorem good_star {e : Prop} {A : Lg} (h : Good H P e F L G A) : Good H P True F L (fun p q => G p q ∨ (L p ∧ F q)) (LStar A) where
  f := h.f
  l := h.l
  g := fun p q x => x.elim (h.g p q) (fun y => ⟨h.l p y.1, h.f q y.2⟩)
  a := fun s => by
    constructor
    · intro x
      induction x with
      | nil => exact .inl ⟨trivial, rfl⟩
      | @more u v hu _ ih =>
        rcases (h.a u).1 hu with ⟨_, rfl⟩ | ⟨p, hp, x⟩
        · exact ih
        · rcases ih with ⟨_, rfl⟩ | ⟨q, hq, y⟩
          · exact .inr ⟨p, hp, by rw [List.append_nil]; exact x.mono (fun _ _ => .inl) (fun _ z => z)⟩
          · exact .inr ⟨p, hp, (x.mono (G' := fun p q => G p q ∨ (L p ∧ F q)) (L' := L) (fun _ _ => .inl) (fun _ z => z)).append (F := F) (fun _ _ a b => .inr ⟨a, b⟩) hq y⟩
    · rintro (⟨_, rfl⟩ | ⟨p, hp, x⟩)
      · exact .nil
      · obtain ⟨u, v, rfl, y, z⟩ := star_cut h x
        exact .more ((h.a _).2 (.inr ⟨p, hp, y⟩)) z
theorem good_plus {e : Prop} {A : Lg} (h : Good H P e F L G A) : Good H P e F L (fun p q => G p q ∨ (L p ∧ F q)) (lcat A (LStar A)) where
  f := h.f
  l := h.l
  g := fun p q x => x.elim (h.g p q) (fun y => ⟨h.l p y.1, h.f q y.2⟩)
  a := fun s => by
    constructor
    · rintro ⟨u, v, rfl, hu, hv⟩
      rcases (h.a u).1 hu with ⟨e, rfl⟩ | ⟨p, hp, x⟩ <;> rcases ((good_star h).a v).1 hv with ⟨_, rfl⟩ | ⟨q, hq, y⟩
      · exact .inl ⟨e, rfl⟩
      · exact .inr ⟨q, hq, y⟩
      · exact .inr ⟨p, hp, by rw [List.append_nil]; exact x.mono (fun _ _ => .inl) (fun _ z => z)⟩
      · exact .inr ⟨p, hp, (x.mono (G' := fun p q => G p q ∨ (L p ∧ F q)) (L' := L) (fun _ _ => .inl) (fun _ z => z)).append (F := F) (fun _ _ a b => .inr ⟨a, b⟩) hq y⟩
    · rintro (⟨e, rfl⟩ | ⟨p, hp, x⟩)
      · exact ⟨[], [], rfl, (h.a _).2 (.inl ⟨e, rfl⟩), .nil⟩
      · obtain ⟨u, v, rfl, y, z⟩ := star_cut h x
        exact ⟨u, v, rfl, (h.a _).2 (.inr ⟨p, hp, y⟩), z⟩
theorem good_maybe {e : Prop} {A : Lg} (h : Good H P e F L G A) : Good H P True F L G (lor A lnil) where
  f := h.f
  l := h.l
  g := h.g
  a := fun s => by
    constructor
    · rintro (x | rfl)
      · rcases (h.a s).1 x with ⟨_, y⟩ | y
        · exact .inl ⟨trivial, y⟩
        · exact .inr y
      · exact .inl ⟨trivial, rfl⟩
    · rintro (⟨_, rfl⟩ | x)
      · exact .inr rfl
      · exact .inl ((h.a _).2 (.inr x))
end Go.Proofs.YtpbkgegkjglibaaDoor

namespace Go.Proofs.YtpbkgegkjglibaaDoor

/-- A node: its kind, its class' words, its parts. -/
structure Nd where
  k : Int
  a : Nat
  b : Nat
  c : Nat
  d : Nat
  kids : List Int
deriving Inhabited
def Nd.wd (x : Nd) (i : Nat) : Nat := if i = 0 then x.a else if i = 1 then x.b else if i = 2 then x.c else x.d
def Nd.has (x : Nd) (v : Int) : Bool := (x.wd (v.toNat / 64)).testBit (v.toNat % 64)
def lowV (k : Int) : Int := if k = 1 ∨ k = 2 then 0 else if k = 3 ∨ k = 4 then 2 else if k = 5 ∨ k = 6 ∨ k = 7 then 1 else 0
def highV (k : Int) : Int := if k = 1 ∨ k = 2 then 0 else if k = 3 ∨ k = 4 then 512 else if k = 5 ∨ k = 6 ∨ k = 7 then 1 else 0
def kindV (k : Int) : Bool := decide (1 ≤ k) && decide (k ≤ 7)
/-- A node at place i may be. -/
structure NdOk (i : Nat) (x : Nd) : Prop where
  k : 1 ≤ x.k ∧ x.k ≤ 7
  low : lowV x.k ≤ x.kids.length
  high : (x.kids.length : Int) ≤ highV x.k
  cls : x.k ≠ 2 → x.a = 0 ∧ x.b = 0 ∧ x.c = 0 ∧ x.d = 0
  kids : ∀ k ∈ x.kids, 0 ≤ k ∧ k < i
def kidsOf (r : List Nd) : List Int := r.flatMap Nd.kids
structure RxOk (r : List Nd) : Prop where
  one : 1 ≤ r.length
  most : r.length ≤ 512
  nd : ∀ i x, r[i]? = some x → NdOk i x
  once : ∀ j : Nat, j + 1 < r.length → (kidsOf r).count (j : Int) = 1

def mem (s : List Bool) (p : Nat) : Prop := s[p]? = some true
def memN (nx : List (List Bool)) (p q : Nat) : Prop := ∃ row, nx[p]? = some row ∧ mem row q
def zeros (n : Nat) : List Bool := List.replicate n false
def orS (a b : List Bool) : List Bool := List.zipWith (fun x y => x || y) a b
def folS (nx : List (List Bool)) (l f : List Bool) : List (List Bool) := List.zipWith (fun row is => if is = true then orS row f else row) nx l
structure En where
  e : Bool
  f : List Bool
  l : List Bool
deriving Inhabited
def catE (a b : En) : En := ⟨a.e && b.e, if a.e = true then orS a.f b.f else a.f, if b.e = true then orS b.l a.l else b.l⟩
def altE (a b : En) : En := ⟨a.e || b.e, orS a.f b.f, orS a.l b.l⟩
def en (ends : List En) (k : Int) : En := ends.getD k.toNat default
def catK (ends : List En) (s : List (List Bool) × En) (k : Int) : List (List Bool) × En := (folS s.1 s.2.l (en ends k).f, catE s.2 (en ends k))
def altK (ends : List En) (s : En) (k : Int) : En := altE s (en ends k)
def nodeV (n : Nat) (ends : List En) (nx : List (List Bool)) (i : Nat) (x : Nd) : List (List Bool) × En :=
  if x.k = 2 then (nx, ⟨false, (zeros n).set i true, (zeros n).set i true⟩)
  else if x.k = 3 then x.kids.foldl (catK ends) (nx, ⟨true, zeros n, zeros n⟩)
  else
    let y := x.kids.foldl (altK ends) ⟨decide (x.k = 1), zeros n, zeros n⟩
    (if x.k = 5 ∨ x.k = 6 then folS nx y.l y.f else nx, ⟨if x.k = 5 ∨ x.k = 7 then true else y.e, y.f, y.l⟩)
def allV (r : List Nd) : Nat → List En × List (List Bool)
  | 0 => ([], List.replicate r.length [])
  | m + 1 =>
    let s := allV r m
    let t := nodeV r.length s.1 (s.2.set m (zeros r.length)) m (r.getD m default)
    (s.1 ++ [t.2], t.1)
/-- A byte is read: which leaves it hits, and which may come next. -/
def hitV (r : List Nd) (may : List Bool) (c : Int) : List Bool := (List.range r.length).map fun i => may.getD i false && (r.getD i default).has c
def nowK (nx : List (List Bool)) (hit : List Bool) (acc : List Bool) (i : Nat) : List Bool := if hit.getD i false = true then orS acc (nx.getD i []) else acc
def nowV (r : List Nd) (nx : List (List Bool)) (hit : List Bool) : List Bool := (List.range r.length).foldl (nowK nx hit) (zeros r.length)
def readV (r : List Nd) (nx : List (List Bool)) (s : List Bool × List Bool) (c : Int) : List Bool × List Bool := (nowV r nx (hitV r s.1 c), hitV r s.1 c)
def endV (hit last : List Bool) : Bool := (List.range hit.length).any fun i => hit.getD i false && last.getD i false
def matchV (r : List Nd) (s : List Int) : Bool :=
  let t := allV r r.length
  let top := t.1.getD (r.length - 1) default
  if s = [] then top.e else endV (s.foldl (readV r t.2) (top.f, [])).2 top.l

-- what the sets have
theorem mem_zeros (n p : Nat) : ¬ mem (zeros n) p := by
  simp [mem, zeros, List.getElem?_replicate]
theorem len_orS {a b : List Bool} (h : a.length = b.length) : (orS a b).length = a.length := by simp [orS, h]
theorem mem_orS {a b : List Bool} (h : a.length = b.length) (p : Nat) : mem (orS a b) p ↔ mem a p ∨ mem b p := by
  unfold mem orS
  rw [List.getElem?_zipWith]
  by_cases hp : p < a.length
  · rw [List.getElem?_eq_getElem hp, List.getElem?_eq_getElem (h ▸ hp)]
    simp
  · rw [List.getElem?_eq_none (by omega), List.getElem?_eq_none (by omega)]
    simp
theorem len_folS {nx : List (List Bool)} {l f : List Bool} (h : nx.length = l.length) : (folS nx l f).length = nx.length := by simp [folS, h]
theorem row_folS {nx : List (List Bool)} {l f : List Bool} (h : nx.length = l.length) (p : Nat) (row : List Bool) (hr : nx[p]? = some row) :
    (folS nx l f)[p]? = some (if l.getD p false = true then orS row f else row) := by
  have hp : p < nx.length := by
    rcases Nat.lt_or_ge p nx.length with x | x
    · exact x
    · rw [List.getElem?_eq_none x] at hr; simp at hr
  unfold folS
  rw [List.getElem?_zipWith, hr, List.getElem?_eq_getElem (h ▸ hp)]
  simp [List.getD, List.getElem?_eq_getElem (h ▸ hp : p < l.length)]
theorem getD_mem (l : List Bool) (p : Nat) : l.getD p false = true ↔ mem l p := by
  unfold mem
  rw [List.getD_eq_getElem?_getD]
  cases l[p]? <;> simp
theorem mem_folS {nx : List (List Bool)} {l f : List Bool} (h : nx.length = l.length) (hr : ∀ p, mem l p → ∃ row, nx[p]? = some row ∧ row.length = f.length) (p q : Nat) :
    memN (folS nx l f) p q ↔ memN nx p q ∨ (mem l p ∧ mem f q) := by
  constructor
  · rintro ⟨row, h1, h2⟩
    have hp : p < nx.length := by
      rcases Nat.lt_or_ge p (folS nx l f).length with x | x
      · rw [len_folS h] at x; exact x
      · rw [List.getElem?_eq_none x] at h1; simp at h1
    have h3 := row_folS (f := f) h p _ (List.getElem?_eq_getElem hp)
    rw [h1] at h3
    have h4 := Option.some.inj h3
    by_cases hl : l.getD p false = true
    · rw [if_pos hl] at h4
      obtain ⟨row', e1, e2⟩ := hr p ((getD_mem l p).1 hl)
      rw [List.getElem?_eq_getElem hp] at e1
      rw [Option.some.inj e1] at h4
      rw [h4, mem_orS e2] at h2
      rcases h2 with h2 | h2
      · exact .inl ⟨row', by rw [List.getElem?_eq_getElem hp]; exact e1, h2⟩
      · exact .inr ⟨(getD_mem l p).1 hl, h2⟩
    · rw [if_neg hl] at h4
      exact .inl ⟨row, by rw [h4]; exact List.getElem?_eq_getElem hp, h2⟩
  · rintro (⟨row, h1, h2⟩ | ⟨h1, h2⟩)
    · have h3 := row_folS (f := f) h p row h1
      refine ⟨_, h3, ?_⟩
      by_cases hl : l.getD p false = true
      · rw [if_pos hl]
        obtain ⟨row', e1, e2⟩ := hr p ((getD_mem l p).1 hl)
        rw [h1] at e1
        rw [mem_orS (by rw [Option.some.inj e1]; exact e2)]
        exact .inl h2
      · rw [if_neg hl]; exact h2
    · obtain ⟨row, e1, e2⟩ := hr p h1
      refine ⟨_, row_folS (f := f) h p row e1, ?_⟩
      rw [if_pos ((getD_mem l p).2 h1), mem_orS e2]
      exact .inr h2
theorem mem_set (n i p : Nat) (hi : i < n) : mem ((zeros n).set i true) p ↔ p = i := by
  unfold mem zeros
  rw [List.getElem?_set]
  by_cases h : i = p
  · subst h; simp [hi]
  · rw [if_neg h]; simp [List.getElem?_replicate]; omega
end Go.Proofs.YtpbkgegkjglibaaDoor

namespace Go.Proofs.YtpbkgegkjglibaaDoor
variable {r : List Nd}

def Par (r : List Nd) (p q : Nat) : Prop := ∃ x, r[q]? = some x ∧ (p : Int) ∈ x.kids
inductive Desc (r : List Nd) : Nat → Nat → Prop
  | refl (p : Nat) : Desc r p p
  | up {p q i : Nat} : Par r p q → Desc r q i → Desc r p i

theorem kidsOf_cons (x : Nd) (r : List Nd) : kidsOf (x :: r) = x.kids ++ kidsOf r := by simp [kidsOf]
theorem count_le (a : Int) : ∀ (r : List Nd) (q : Nat) (x : Nd), r[q]? = some x → x.kids.count a ≤ (kidsOf r).count a
  | [], _, _, h => by simp at h
  | y :: r, 0, x, h => by
    simp at h; subst h
    rw [kidsOf_cons, List.count_append]; omega
  | y :: r, q + 1, x, h => by
    have := count_le a r q x (by simpa using h)
    rw [kidsOf_cons, List.count_append]; omega
theorem count_two (a : Int) : ∀ (r : List Nd) (q q' : Nat) (x y : Nd), q < q' → r[q]? = some x → r[q']? = some y → a ∈ x.kids → a ∈ y.kids → 2 ≤ (kidsOf r).count a
  | [], _, _, _, _, _, h, _, _, _ => by simp at h
  | z :: r, 0, q' + 1, x, y, _, h, h', hx, hy => by
    simp at h; subst h
    have h1 := count_le a r q' y (by simpa using h')
    have h2 := List.count_pos_iff.2 hx
    have h3 := List.count_pos_iff.2 hy
    rw [kidsOf_cons, List.count_append]; omega
  | z :: r, q + 1, q' + 1, x, y, hq, h, h', hx, hy => by
    have := count_two a r q q' x y (by omega) (by simpa using h) (by simpa using h') hx hy
    rw [kidsOf_cons, List.count_append]; omega
  | z :: r, q + 1, 0, x, y, hq, _, _, _, _ => by omega

theorem lt_of_some {α : Type} {l : List α} {i : Nat} {x : α} (h : l[i]? = some x) : i < l.length := by
  rcases Nat.lt_or_ge i l.length with y | y
  · exact y
  · rw [List.getElem?_eq_none y] at h; simp at h

theorem Par.lt (ok : RxOk r) {p q : Nat} (h : Par r p q) : p < q := by
  obtain ⟨x, hx, hp⟩ := h
  have := ((ok.nd q x hx).kids _ hp).2
  omega
theorem Par.in_row {p q : Nat} (h : Par r p q) : q < r.length := by
  obtain ⟨x, hx, _⟩ := h
  exact lt_of_some hx
theorem par_one (ok : RxOk r) {p q q' : Nat} (h : Par r p q) (h' : Par r p q') : q = q' := by
  have l1 := h.lt ok
  have l2 := h.in_row
  have hc := ok.once p (by omega)
  obtain ⟨x, hx, hp⟩ := h
  obtain ⟨y, hy, hp'⟩ := h'
  rcases Nat.lt_trichotomy q q' with e | e | e
  · have := count_two _ r q q' x y e hx hy hp hp'; omega
  · exact e
  · have := count_two _ r q' q y x e hy hx hp' hp; omega
theorem kids_nodup (ok : RxOk r) {i : Nat} {x : Nd} (hx : r[i]? = some x) : x.kids.Nodup := by
  rw [List.nodup_iff_count]
  intro a
  by_cases ha : a ∈ x.kids
  · have h1 := (ok.nd i x hx).kids a ha
    have h2 := lt_of_some hx
    have h3 := ok.once a.toNat (by omega)
    have h4 := count_le a r i x hx
    rw [show ((a.toNat : Nat) : Int) = a by omega] at h3
    omega
  · rw [List.count_eq_zero_of_not_mem ha]; omega
theorem Desc.le (ok : RxOk r) {p i : Nat} (h : Desc r p i) : p ≤ i := by
  induction h with
  | refl => exact Nat.le_refl _
  | up hp _ ih => have := hp.lt ok; omega
theorem Desc.snoc {p k i : Nat} (h : Desc r p k) (hk : Par r k i) : Desc r p i := by
  induction h with
  | refl => exact .up hk (.refl _)
  | up hp _ ih => exact .up hp (ih hk)
theorem Desc.last {p i : Nat} (h : Desc r p i) : p = i ∨ ∃ k, Par r k i ∧ Desc r p k := by
  induction h with
  | refl => exact .inl rfl
  | up hp _ ih =>
    rcases ih with rfl | ⟨k, hk, hd⟩
    · exact .inr ⟨_, hp, .refl _⟩
    · exact .inr ⟨k, hk, .up hp hd⟩
theorem desc_two (ok : RxOk r) {p k k' : Nat} (h : Desc r p k) (h' : Desc r p k') : Desc r k k' ∨ Desc r k' k := by
  induction h with
  | refl => exact .inl h'
  | up hp hd ih =>
    cases h' with
    | refl => exact .inr (.up hp hd)
    | up hp' hd' =>
      have := par_one ok hp hp'
      subst this
      exact ih hd'
theorem kid_not (ok : RxOk r) {k k' i : Nat} (hk : Par r k i) (hk' : Par r k' i) (hd : Desc r k k') : k = k' := by
  cases hd with
  | refl => rfl
  | up hp hd =>
    have := par_one ok hp hk
    subst this
    have h1 := hd.le ok
    have h2 := hk'.lt ok
    omega
theorem kids_apart (ok : RxOk r) {p k k' i : Nat} (hk : Par r k i) (hk' : Par r k' i) (h : Desc r p k) (h' : Desc r p k') : k = k' := by
  rcases desc_two ok h h' with x | x
  · exact kid_not ok hk hk' x
  · exact (kid_not ok hk' hk x).symm
theorem has_par (ok : RxOk r) {j : Nat} (hj : j + 1 < r.length) : ∃ q, Par r j q := by
  have hc := ok.once j hj
  have hm : (j : Int) ∈ kidsOf r := by
    apply List.count_pos_iff.1; omega
  unfold kidsOf at hm
  rw [List.mem_flatMap] at hm
  obtain ⟨x, hx, hk⟩ := hm
  obtain ⟨q, hq⟩ := List.getElem?_of_mem hx
  exact ⟨q, x, hq, hk⟩
theorem all_desc (ok : RxOk r) : ∀ (n j : Nat), j < r.length → r.length - j ≤ n → Desc r j (r.length - 1)
  | 0, j, hj, hn => by omega
  | n + 1, j, hj, hn => by
    by_cases h : j + 1 < r.length
    · obtain ⟨q, hq⟩ := has_par ok h
      have h1 := hq.lt ok
      have h2 := hq.in_row
      exact .up hq (all_desc ok n q h2 (by omega))
    · have : j = r.length - 1 := by omega
      subst this
      exact .refl _
end Go.Proofs.YtpbkgegkjglibaaDoor

namespace Go.Proofs.YtpbkgegkjglibaaDoor
variable {r : List Nd}

def nodeL (acc : List Lg) (x : Nd) : Lg :=
  if x.k = 2 then fun s => ∃ c, s = [c] ∧ x.has c = true
  else if x.k = 3 then x.kids.foldl (fun A k => lcat A (acc.getD k.toNat lnone)) lnil
  else
    let A := x.kids.foldl (fun A k => lor A (acc.getD k.toNat lnone)) (if x.k = 1 then lnil else lnone)
    if x.k = 5 then LStar A else if x.k = 6 then lcat A (LStar A) else if x.k = 7 then lor A lnil else A
def allL (r : List Nd) : Nat → List Lg
  | 0 => []
  | m + 1 => allL r m ++ [nodeL (allL r m) (r.getD m default)]
theorem len_allL (r : List Nd) : ∀ m, (allL r m).length = m
  | 0 => rfl
  | m + 1 => by simp [allL, len_allL r m]

/-- The rows that are made are of n, the others are none. -/
structure Rows (n M : Nat) (nx : List (List Bool)) : Prop where
  len : nx.length = n
  row : ∀ p row, nx[p]? = some row → row.length = if p < M then n else 0
theorem Rows.get {n M : Nat} {nx : List (List Bool)} (h : Rows n M nx) {p : Nat} (hp : p < M) (hM : M ≤ n) : ∃ row, nx[p]? = some row ∧ row.length = n := by
  have h1 : p < nx.length := by have := h.len; omega
  refine ⟨_, List.getElem?_eq_getElem h1, ?_⟩
  rw [h.row p _ (List.getElem?_eq_getElem h1), if_pos hp]
theorem Rows.fol {n M : Nat} {nx : List (List Bool)} (h : Rows n M nx) (hM : M ≤ n) {l f : List Bool} (hl : l.length = n) (hf : f.length = n) (hb : ∀ p, mem l p → p < M) :
    Rows n M (folS nx l f) ∧ ∀ p q, memN (folS nx l f) p q ↔ memN nx p q ∨ (mem l p ∧ mem f q) := by
  have e : nx.length = l.length := by rw [h.len, hl]
  refine ⟨⟨by rw [len_folS e, h.len], ?_⟩, ?_⟩
  · intro p row hr
    have hp : p < nx.length := by have := lt_of_some hr; rwa [len_folS e] at this
    have h3 := row_folS (f := f) e p _ (List.getElem?_eq_getElem hp)
    rw [hr] at h3
    have h4 := Option.some.inj h3
    have h5 := h.row p _ (List.getElem?_eq_getElem hp)
    by_cases hm : l.getD p false = true
    · have hb' := hb p ((getD_mem l p).1 hm)
      rw [if_pos hb'] at h5
      rw [if_pos hm] at h4
      rw [h4, len_orS (by rw [h5, hf]), h5, if_pos hb']
    · rw [if_neg hm] at h4
      rw [h4, h5]
  · exact mem_folS e fun p hp => by
      obtain ⟨row, e1, e2⟩ := h.get (hb p hp) hM
      exact ⟨row, e1, by rw [e2, hf]⟩

/-- What is known of a node's ends. -/
structure EnOk (H : Nat → Int → Prop) (n : Nat) (P : Nat → Prop) (G : Nat → Nat → Prop) (A : Lg) (x : En) : Prop where
  lf : x.f.length = n
  ll : x.l.length = n
  good : Good H P (x.e = true) (mem x.f) (mem x.l) G A

variable {H : Nat → Int → Prop} {n M : Nat} {ends : List En} {Pk : Int → Nat → Prop} {Gk : Int → Nat → Nat → Prop} {Lk : Int → Lg}

theorem cat_fold (hM : M ≤ n) : ∀ (ks : List Int) (nx : List (List Bool)) (y : En) (A : Lg) (P0 : Nat → Prop) (G0 : Nat → Nat → Prop), Rows n M nx → EnOk H n P0 G0 A y →
    (∀ k ∈ ks, EnOk H n (Pk k) (Gk k) (Lk k) (en ends k)) → (∀ k ∈ ks, ∀ p, P0 p → Pk k p → False) → ks.Pairwise (fun k k' => ∀ p, Pk k p → Pk k' p → False) →
    (∀ p, P0 p → p < M) → (∀ k ∈ ks, ∀ p, Pk k p → p < M) →
    ∃ D : Nat → Nat → Prop, Rows n M (ks.foldl (catK ends) (nx, y)).1 ∧ (∀ p q, memN (ks.foldl (catK ends) (nx, y)).1 p q ↔ memN nx p q ∨ D p q) ∧
      EnOk H n (fun p => P0 p ∨ ∃ k ∈ ks, Pk k p) (fun p q => G0 p q ∨ (∃ k ∈ ks, Gk k p q) ∨ D p q) (ks.foldl (fun A k => lcat A (Lk k)) A) (ks.foldl (catK ends) (nx, y)).2
  | [], nx, y, A, P0, G0, hR, hy, _, _, _, _, _ =>
    ⟨fun _ _ => False, hR, fun p q => by simp, hy.lf, hy.ll, hy.good.of (fun p hp => .inl hp) Iff.rfl (fun _ => Iff.rfl) (fun _ => Iff.rfl) (fun p q => by simp) (fun _ => Iff.rfl)⟩
  | k :: ks, nx, y, A, P0, G0, hR, hy, hk, hd, hpw, hb, hbk => by
    have hx := hk k (List.mem_cons_self ..)
    rw [List.pairwise_cons] at hpw
    obtain ⟨hR', hm'⟩ := hR.fol hM hy.ll hx.lf (fun p hp => hb p (hy.good.l p hp))
    have hz : EnOk H n (fun p => P0 p ∨ Pk k p) (fun p q => G0 p q ∨ Gk k p q ∨ (mem y.l p ∧ mem (en ends k).f q)) (lcat A (Lk k)) (catE y (en ends k)) := by
      refine ⟨?_, ?_, (good_cat hy.good hx.good (hd k (List.mem_cons_self ..))).of (fun p hp => hp) ?_ ?_ ?_ (fun _ _ => Iff.rfl) (fun _ => Iff.rfl)⟩
      · show (if y.e = true then orS y.f (en ends k).f else y.f).length = n
        split
        · rw [len_orS (by rw [hy.lf, hx.lf]), hy.lf]
        · exact hy.lf
      · show (if (en ends k).e = true then orS (en ends k).l y.l else (en ends k).l).length = n
        split
        · rw [len_orS (by rw [hy.ll, hx.ll]), hx.ll]
        · exact hx.ll
      · simp [catE]
      · intro p
        show mem (if y.e = true then orS y.f (en ends k).f else y.f) p ↔ _
        split
        · rename_i he
          rw [mem_orS (by rw [hy.lf, hx.lf])]; simp [he]
        · rename_i he
          simp [he]
      · intro p
        show mem (if (en ends k).e = true then orS (en ends k).l y.l else (en ends k).l) p ↔ _
        split
        · rename_i he
          rw [mem_orS (by rw [hy.ll, hx.ll])]; simp [he]
        · rename_i he
          simp [he]
    obtain ⟨D, h1, h2, h3⟩ := cat_fold hM ks (folS nx y.l (en ends k).f) (catE y (en ends k)) (lcat A (Lk k)) _ _ hR' hz (fun k' hk' => hk k' (List.mem_cons_of_mem _ hk'))
      (fun k' hk' p hp hp' => hp.elim (fun a => hd k' (List.mem_cons_of_mem _ hk') p a hp') (fun a => hpw.1 k' hk' p a hp')) hpw.2
      (fun p hp => hp.elim (hb p) (hbk k (List.mem_cons_self ..) p)) (fun k' hk' => hbk k' (List.mem_cons_of_mem _ hk'))
    refine ⟨fun p q => (mem y.l p ∧ mem (en ends k).f q) ∨ D p q, h1, fun p q => ?_, h3.lf, h3.ll, h3.good.of ?_ Iff.rfl (fun _ => Iff.rfl) (fun _ => Iff.rfl) ?_ (fun _ => Iff.rfl)⟩
    · show memN (ks.foldl (catK ends) (folS nx y.l (en ends k).f, catE y (en ends k))).1 p q ↔ _
      rw [h2, hm', or_assoc]
    · rintro p ((a | a) | ⟨k', hk', a⟩)
      · exact .inl a
      · exact .inr ⟨k, List.mem_cons_self .., a⟩
      · exact .inr ⟨k', List.mem_cons_of_mem _ hk', a⟩
    · intro p q
      constructor
      · rintro (a | ⟨k', hk', a⟩ | a | a)
        · exact .inl (.inl a)
        · rcases List.mem_cons.1 hk' with rfl | hk'
          · exact .inl (.inr (.inl a))
          · exact .inr (.inl ⟨k', hk', a⟩)
        · exact .inl (.inr (.inr a))
        · exact .inr (.inr a)
      · rintro ((a | a | a) | ⟨k', hk', a⟩ | a)
        · exact .inl a
        · exact .inr (.inl ⟨k, List.mem_cons_self .., a⟩)
        · exact .inr (.inr (.inl a))
        · exact .inr (.inl ⟨k', List.mem_cons_of_mem _ hk', a⟩)
        · exact .inr (.inr (.inr a))

theorem alt_fold : ∀ (ks : List Int) (y : En) (A : Lg) (P0 : Nat → Prop) (G0 : Nat → Nat → Prop), EnOk H n P0 G0 A y →
    (∀ k ∈ ks, EnOk H n (Pk k) (Gk k) (Lk k) (en ends k)) → (∀ k ∈ ks, ∀ p, P0 p → Pk k p → False) → ks.Pairwise (fun k k' => ∀ p, Pk k p → Pk k' p → False) →
      EnOk H n (fun p => P0 p ∨ ∃ k ∈ ks, Pk k p) (fun p q => G0 p q ∨ ∃ k ∈ ks, Gk k p q) (ks.foldl (fun A k => lor A (Lk k)) A) (ks.foldl (altK ends) y)
  | [], y, A, P0, G0, hy, _, _, _ =>
    ⟨hy.lf, hy.ll, hy.good.of (fun p hp => .inl hp) Iff.rfl (fun _ => Iff.rfl) (fun _ => Iff.rfl) (fun p q => by simp) (fun _ => Iff.rfl)⟩
  | k :: ks, y, A, P0, G0, hy, hk, hd, hpw => by
    have hx := hk k (List.mem_cons_self ..)
    rw [List.pairwise_cons] at hpw
    have hz : EnOk H n (fun p => P0 p ∨ Pk k p) (fun p q => G0 p q ∨ Gk k p q) (lor A (Lk k)) (altE y (en ends k)) := by
      refine ⟨?_, ?_, (good_alt hy.good hx.good (hd k (List.mem_cons_self ..))).of (fun p hp => hp) ?_ ?_ ?_ (fun _ _ => Iff.rfl) (fun _ => Iff.rfl)⟩
      · show (orS y.f (en ends k).f).length = n
        rw [len_orS (by rw [hy.lf, hx.lf]), hy.lf]
      · show (orS y.l (en ends k).l).length = n
        rw [len_orS (by rw [hy.ll, hx.ll]), hy.ll]
      · simp [altE]
      · intro p
        show mem (orS y.f (en ends k).f) p ↔ _
        rw [mem_orS (by rw [hy.lf, hx.lf])]
      · intro p
        show mem (orS y.l (en ends k).l) p ↔ _
        rw [mem_orS (by rw [hy.ll, hx.ll])]
    have h3 := alt_fold ks (altE y (en ends k)) (lor A (Lk k)) _ _ hz (fun k' hk' => hk k' (List.mem_cons_of_mem _ hk'))
      (fun k' hk' p hp hp' => hp.elim (fun a => hd k' (List.mem_cons_of_mem _ hk') p a hp') (fun a => hpw.1 k' hk' p a hp')) hpw.2
    refine ⟨h3.lf, h3.ll, h3.good.of ?_ Iff.rfl (fun _ => Iff.rfl) (fun _ => Iff.rfl) ?_ (fun _ => Iff.rfl)⟩
    · rintro p ((a | a) | ⟨k', hk', a⟩)
      · exact .inl a
      · exact .inr ⟨k, List.mem_cons_self .., a⟩
      · exact .inr ⟨k', List.mem_cons_of_mem _ hk', a⟩
    · intro p q
      constructor
      · rintro (a | ⟨k', hk', a⟩)
        · exact .inl (.inl a)
        · rcases List.mem_cons.1 hk' with rfl | hk'
          · exact .inl (.inr a)
          · exact .inr ⟨k', hk', a⟩
      · rintro ((a | a) | ⟨k', hk', a⟩)
        · exact .inl a
        · exact .inr ⟨k, List.mem_cons_self .., a⟩
        · exact .inr ⟨k', List.mem_cons_of_mem _ hk', a⟩
end Go.Proofs.YtpbkgegkjglibaaDoor

namespace Go.Proofs.YtpbkgegkjglibaaDoor
variable {r : List Nd}

theorem zeros_len (n : Nat) : (zeros n).length = n := by simp [zeros]
theorem EnOk.of' {H : Nat → Int → Prop} {n : Nat} {P P' : Nat → Prop} {G G' : Nat → Nat → Prop} {A : Lg} {x : En} (h : EnOk H n P G A x) (hP : ∀ p, P p → P' p) (hG : ∀ p q, G' p q ↔ G p q) : EnOk H n P' G' A x :=
  ⟨h.lf, h.ll, h.good.of hP Iff.rfl (fun _ => Iff.rfl) (fun _ => Iff.rfl) hG (fun _ => Iff.rfl)⟩

theorem node_ok {H : Nat → Int → Prop} {n m : Nat} {ends : List En} {nx : List (List Bool)} {x : Nd} {langs : List Lg} {Pk : Int → Nat → Prop} {Gk : Int → Nat → Nat → Prop}
    (hm : m < n) (hx : NdOk m x) (hH : ∀ c, H m c ↔ x.has c = true) (hR : Rows n (m + 1) nx)
    (hk : ∀ k ∈ x.kids, EnOk H n (Pk k) (Gk k) (langs.getD k.toNat lnone) (en ends k)) (hpw : x.kids.Pairwise (fun k k' => ∀ p, Pk k p → Pk k' p → False)) (hb : ∀ k ∈ x.kids, ∀ p, Pk k p → p < m + 1) :
    ∃ D : Nat → Nat → Prop, Rows n (m + 1) (nodeV n ends nx m x).1 ∧ (∀ p q, memN (nodeV n ends nx m x).1 p q ↔ memN nx p q ∨ D p q) ∧
      EnOk H n (fun p => p = m ∨ ∃ k ∈ x.kids, Pk k p) (fun p q => (∃ k ∈ x.kids, Gk k p q) ∨ D p q) (nodeL langs x) (nodeV n ends nx m x).2 := by
  have hM : m + 1 ≤ n := hm
  by_cases h2 : x.k = 2
  · have e : x.kids = [] := by
      have := hx.high
      rw [highV, if_pos (.inr h2)] at this
      exact List.eq_nil_of_length_eq_zero (by omega)
    rw [show nodeV n ends nx m x = (nx, ⟨false, (zeros n).set m true, (zeros n).set m true⟩) by unfold nodeV; rw [if_pos h2]]
    rw [show nodeL langs x = fun s => ∃ c, s = [c] ∧ x.has c = true by unfold nodeL; rw [if_pos h2]]
    refine ⟨fun _ _ => False, hR, fun p q => by simp, by simp [zeros], by simp [zeros], (good_leaf (H := H) m).of (fun p hp => .inl hp) (by simp) (fun p => mem_set n m p hm) (fun p => mem_set n m p hm) (fun p q => by simp [e]) (fun s => ?_)⟩
    simp [hH]
  by_cases h3 : x.k = 3
  · rw [show nodeV n ends nx m x = x.kids.foldl (catK ends) (nx, ⟨true, zeros n, zeros n⟩) by unfold nodeV; rw [if_neg h2, if_pos h3]]
    rw [show nodeL langs x = x.kids.foldl (fun A k => lcat A (langs.getD k.toNat lnone)) lnil by unfold nodeL; rw [if_neg h2, if_pos h3]]
    have h0 : EnOk H n (fun _ => False) (fun _ _ => False) lnil ⟨true, zeros n, zeros n⟩ :=
      ⟨zeros_len n, zeros_len n, (good_nil (H := H)).of (fun _ h => h) (by simp) (fun p => iff_of_false (mem_zeros n p) id) (fun p => iff_of_false (mem_zeros n p) id) (fun _ _ => Iff.rfl) (fun _ => Iff.rfl)⟩
    obtain ⟨D, a, b, c⟩ := cat_fold hM x.kids nx _ _ _ _ hR h0 hk (fun _ _ _ h => h.elim) hpw (fun _ h => h.elim) hb
    exact ⟨D, a, b, c.of' (fun p hp => hp.elim (fun h => h.elim) .inr) (fun p q => by simp)⟩
  · have h0 : EnOk H n (fun _ => False) (fun _ _ => False) (if x.k = 1 then lnil else lnone) ⟨decide (x.k = 1), zeros n, zeros n⟩ := by
      refine ⟨zeros_len n, zeros_len n, ?_⟩
      by_cases h1 : x.k = 1
      · rw [if_pos h1]
        exact (good_nil (H := H)).of (fun _ h => h) (by simp [h1]) (fun p => iff_of_false (mem_zeros n p) id) (fun p => iff_of_false (mem_zeros n p) id) (fun _ _ => Iff.rfl) (fun _ => Iff.rfl)
      · rw [if_neg h1]
        exact (good_none (H := H)).of (fun _ h => h) (by simp [h1]) (fun p => iff_of_false (mem_zeros n p) id) (fun p => iff_of_false (mem_zeros n p) id) (fun _ _ => Iff.rfl) (fun _ => Iff.rfl)
    have hy := alt_fold x.kids _ _ _ _ h0 hk (fun _ _ _ h => h.elim) hpw
    have ev : nodeV n ends nx m x = (if x.k = 5 ∨ x.k = 6 then folS nx (x.kids.foldl (altK ends) ⟨decide (x.k = 1), zeros n, zeros n⟩).l (x.kids.foldl (altK ends) ⟨decide (x.k = 1), zeros n, zeros n⟩).f else nx,
        ⟨if x.k = 5 ∨ x.k = 7 then true else (x.kids.foldl (altK ends) ⟨decide (x.k = 1), zeros n, zeros n⟩).e, (x.kids.foldl (altK ends) ⟨decide (x.k = 1), zeros n, zeros n⟩).f, (x.kids.foldl (altK ends) ⟨decide (x.k = 1), zeros n, zeros n⟩).l⟩) := by
      unfold nodeV; rw [if_neg h2, if_neg h3]
    rw [ev]
    have el : nodeL langs x = if x.k = 5 then LStar (x.kids.foldl (fun A k => lor A (langs.getD k.toNat lnone)) (if x.k = 1 then lnil else lnone)) else if x.k = 6 then lcat (x.kids.foldl (fun A k => lor A (langs.getD k.toNat lnone)) (if x.k = 1 then lnil else lnone)) (LStar (x.kids.foldl (fun A k => lor A (langs.getD k.toNat lnone)) (if x.k = 1 then lnil else lnone))) else if x.k = 7 then lor (x.kids.foldl (fun A k => lor A (langs.getD k.toNat lnone)) (if x.k = 1 then lnil else lnone)) lnil else (x.kids.foldl (fun A k => lor A (langs.getD k.toNat lnone)) (if x.k = 1 then lnil else lnone)) := by
      unfold nodeL; rw [if_neg h2, if_neg h3]
    rw [el]
    clear ev el
    revert hy
    generalize x.kids.foldl (altK ends) ⟨decide (x.k = 1), zeros n, zeros n⟩ = y
    generalize x.kids.foldl (fun A k => lor A (langs.getD k.toNat lnone)) (if x.k = 1 then lnil else lnone) = A
    intro hy
    have hP : ∀ p, (False ∨ ∃ k ∈ x.kids, Pk k p) → (p = m ∨ ∃ k ∈ x.kids, Pk k p) := fun p h => h.elim (fun h => h.elim) .inr
    have hf := hR.fol hM hy.ll hy.lf (fun p hp => by
      rcases hy.good.l p hp with h | ⟨k, hk', h⟩
      · exact h.elim
      · exact hb k hk' p h)
    by_cases h5 : x.k = 5
    · rw [if_pos (.inl h5), if_pos (.inl h5), if_pos h5]
      exact ⟨fun p q => mem y.l p ∧ mem y.f q, hf.1, hf.2, hy.lf, hy.ll, (good_star hy.good).of hP (by simp) (fun _ => Iff.rfl) (fun _ => Iff.rfl) (fun p q => by simp) (fun _ => Iff.rfl)⟩
    by_cases h6 : x.k = 6
    · rw [if_pos (.inr h6), if_neg (by omega), if_neg h5, if_pos h6]
      exact ⟨fun p q => mem y.l p ∧ mem y.f q, hf.1, hf.2, hy.lf, hy.ll, (good_plus hy.good).of hP (by simp) (fun _ => Iff.rfl) (fun _ => Iff.rfl) (fun p q => by simp) (fun _ => Iff.rfl)⟩
    rw [if_neg (by omega), if_neg h5, if_neg h6]
    by_cases h7 : x.k = 7
    · rw [if_pos (.inr h7), if_pos h7]
      exact ⟨fun _ _ => False, hR, fun p q => by simp, hy.lf, hy.ll, (good_maybe hy.good).of hP (by simp) (fun _ => Iff.rfl) (fun _ => Iff.rfl) (fun p q => by simp) (fun _ => Iff.rfl)⟩
    · rw [if_neg (by omega), if_neg h7]
      exact ⟨fun _ _ => False, hR, fun p q => by simp, hy.lf, hy.ll, hy.good.of hP (by simp) (fun _ => Iff.rfl) (fun _ => Iff.rfl) (fun p q => by simp) (fun _ => Iff.rfl)⟩

/-- Does the leaf at a place have a byte? -/
def hasAt (r : List Nd) (p : Nat) (c : Int) : Prop := (r.getD p default).has c = true
structure Inv (r : List Nd) (m : Nat) (s : List En × List (List Bool)) : Prop where
  le : s.1.length = m
  rows : Rows r.length m s.2
  c : ∃ C : Nat → Nat → Nat → Prop, (∀ p q, memN s.2 p q ↔ ∃ j, j < m ∧ C j p q) ∧
    ∀ i, i < m → EnOk (hasAt r) r.length (fun p => Desc r p i) (fun p q => ∃ j, Desc r j i ∧ C j p q) ((allL r m).getD i lnone) (en s.1 (i : Int))

theorem inv_all (ok : RxOk r) : ∀ m, m ≤ r.length → Inv r m (allV r m)
  | 0, _ => ⟨rfl, ⟨by simp [allV], fun p row h => by
      simp only [allV, List.getElem?_replicate] at h
      split at h
      · simp at h; subst h; rfl
      · simp at h⟩, fun _ _ _ => False, fun p q => by
      simp only [allV, memN, mem, List.getElem?_replicate]
      constructor
      · rintro ⟨row, h, h'⟩
        split at h
        · simp at h; subst h; simp at h'
        · simp at h
      · rintro ⟨j, h, _⟩; omega, fun i hi => by omega⟩
  | m + 1, hm => by
    obtain ⟨le, rows, C, c1, c2⟩ := inv_all ok m (by omega)
    have hmr : r[m]? = some (r.getD m default) := by
      rw [List.getD_eq_getElem?_getD, List.getElem?_eq_getElem (by omega)]; rfl
    have hx := ok.nd m _ hmr
    have hR : Rows r.length (m + 1) ((allV r m).2.set m (zeros r.length)) := by
      refine ⟨by rw [List.length_set]; exact rows.len, fun p row h => ?_⟩
      rw [List.getElem?_set] at h
      by_cases e : m = p
      · subst e
        rw [if_pos rfl, if_pos (by rw [rows.len]; omega)] at h
        rw [← Option.some.inj h, zeros_len, if_pos (by omega)]
      · rw [if_neg e] at h
        rw [rows.row p row h]
        by_cases e' : p < m
        · rw [if_pos e', if_pos (by omega)]
        · rw [if_neg e', if_neg (by omega)]
    have hm0 : ∀ p q, memN ((allV r m).2.set m (zeros r.length)) p q ↔ memN (allV r m).2 p q := by
      intro p q
      unfold memN
      rw [List.getElem?_set]
      by_cases e : m = p
      · subst e
        rw [if_pos rfl, if_pos (by rw [rows.len]; omega)]
        constructor
        · rintro ⟨row, h, h'⟩
          rw [← Option.some.inj h] at h'
          exact (mem_zeros _ _ h').elim
        · rintro ⟨row, h, h'⟩
          have := rows.row m row h
          rw [if_neg (by omega)] at this
          rw [List.eq_nil_of_length_eq_zero this] at h'
          simp [mem] at h'
      · rw [if_neg e]
    have hkk : ∀ k ∈ (r.getD m default).kids, 0 ≤ k ∧ k < m := fun k hk => hx.kids k hk
    have hpar : ∀ k ∈ (r.getD m default).kids, Par r k.toNat m := fun k hk => ⟨_, hmr, by rw [show ((k.toNat : Nat) : Int) = k by have := hkk k hk; omega]; exact hk⟩
    obtain ⟨D, d1, d2, d3⟩ := node_ok (H := hasAt r) (langs := allL r m) (ends := (allV r m).1) (Pk := fun k p => Desc r p k.toNat) (Gk := fun k p q => ∃ j, Desc r j k.toNat ∧ C j p q) (by omega : m < r.length) hx (fun c => Iff.rfl) hR
      (fun k hk => by
        have h1 := hkk k hk
        have := c2 k.toNat (by omega)
        rw [show ((k.toNat : Nat) : Int) = k by omega] at this
        exact this)
      ((kids_nodup ok hmr).imp_of_mem (fun {k k'} hk hk' hne p h h' => hne (by
        have h1 := hkk k hk
        have h2 := hkk k' hk'
        have := kids_apart ok (hpar k hk) (hpar k' hk') h h'
        omega)))
      (fun k hk p hp => by
        have h1 := hkk k hk
        have := hp.le ok
        omega)
    refine ⟨by simp [allV, le], d1, fun j p q => if j = m then D p q else C j p q, ?_, ?_⟩
    · intro p q
      show memN (nodeV _ _ _ _ _).1 p q ↔ _
      rw [d2, hm0, c1]
      constructor
      · rintro (⟨j, hj, h⟩ | h)
        · exact ⟨j, by omega, by dsimp only; rw [if_neg (by omega)]; exact h⟩
        · exact ⟨m, by omega, by dsimp only; rw [if_pos rfl]; exact h⟩
      · rintro ⟨j, hj, h⟩
        by_cases e : j = m
        · rw [if_pos e] at h; exact .inr h
        · rw [if_neg e] at h; exact .inl ⟨j, by omega, h⟩
    · intro i hi
      by_cases e : i = m
      · subst e
        have e1 : (allL r (i + 1)).getD i lnone = nodeL (allL r i) (r.getD i default) := by
          simp only [allL]
          rw [List.getD_eq_getElem?_getD, List.getElem?_append_right (by rw [len_allL]; omega), len_allL]
          simp
        have e2 : en (allV r (i + 1)).1 (i : Int) = (nodeV r.length (allV r i).1 ((allV r i).2.set i (zeros r.length)) i (r.getD i default)).2 := by
          simp only [allV, en]
          rw [List.getD_eq_getElem?_getD, List.getElem?_append_right (by rw [le]; simp), le]
          simp
        rw [e1, e2]
        refine d3.of' ?_ ?_
        · rintro p (rfl | ⟨k, hk, hp⟩)
          · exact .refl _
          · exact hp.snoc (hpar k hk)
        · intro p q
          constructor
          · rintro ⟨j, hj, h⟩
            by_cases e : j = i
            · rw [if_pos e] at h; exact .inr h
            · rw [if_neg e] at h
              rcases hj.last with rfl | ⟨k, ⟨x, hx', hk⟩, hd⟩
              · exact (e rfl).elim
              · rw [hmr] at hx'
                have := Option.some.inj hx'
                subst this
                exact .inl ⟨k, hk, j, by simpa using hd, h⟩
          · rintro (⟨k, hk, j, hj, h⟩ | h)
            · refine ⟨j, hj.snoc (hpar k hk), ?_⟩
              have h1 := hj.le ok
              have h2 := hkk k hk
              dsimp only at h2 ⊢
              rw [if_neg (by omega)]
              exact h
            · exact ⟨i, .refl _, by dsimp only; rw [if_pos rfl]; exact h⟩
      · have e1 : (allL r (m + 1)).getD i lnone = (allL r m).getD i lnone := by
          simp only [allL]
          rw [List.getD_eq_getElem?_getD, List.getElem?_append_left (by rw [len_allL]; omega), List.getD_eq_getElem?_getD]
        have e2 : en (allV r (m + 1)).1 (i : Int) = en (allV r m).1 (i : Int) := by
          simp only [allV, en]
          rw [List.getD_eq_getElem?_getD, List.getElem?_append_left (by rw [le]; simp; omega), List.getD_eq_getElem?_getD]
        rw [e1, e2]
        refine (c2 i (by omega)).of' (fun p hp => hp) ?_
        intro p q
        constructor
        · rintro ⟨j, hj, h⟩
          have := hj.le ok
          rw [if_neg (by omega)] at h
          exact ⟨j, hj, h⟩
        · rintro ⟨j, hj, h⟩
          have := hj.le ok
          exact ⟨j, hj, by dsimp only; rw [if_neg (by omega)]; exact h⟩
end Go.Proofs.YtpbkgegkjglibaaDoor

namespace Go.Proofs.YtpbkgegkjglibaaDoor
variable {r : List Nd}

theorem len_hitV (r : List Nd) (may : List Bool) (c : Int) : (hitV r may c).length = r.length := by simp [hitV]
theorem mem_hitV {may : List Bool} (h : may.length = r.length) (c : Int) (p : Nat) : mem (hitV r may c) p ↔ mem may p ∧ hasAt r p c := by
  unfold mem hitV hasAt
  rw [List.getElem?_map]
  by_cases hp : p < r.length
  · rw [List.getElem?_range hp, List.getElem?_eq_getElem (h ▸ hp)]
    simp [List.getD_eq_getElem?_getD, List.getElem?_eq_getElem (h ▸ hp : p < may.length)]
  · rw [List.getElem?_eq_none (by simp; omega), List.getElem?_eq_none (by omega)]
    simp
theorem now_fold {n : Nat} {nx : List (List Bool)} (hR : Rows n n nx) (hit : List Bool) : ∀ (l : List Nat) (acc : List Bool), acc.length = n → (∀ i ∈ l, i < n) →
    (l.foldl (nowK nx hit) acc).length = n ∧ ∀ q, mem (l.foldl (nowK nx hit) acc) q ↔ mem acc q ∨ ∃ i ∈ l, mem hit i ∧ memN nx i q
  | [], acc, h, _ => ⟨h, fun q => by simp⟩
  | i :: l, acc, h, hl => by
    have hi := hl i (List.mem_cons_self ..)
    obtain ⟨row, e1, e2⟩ := hR.get hi (Nat.le_refl _)
    have hg : nx.getD i [] = row := by rw [List.getD_eq_getElem?_getD, e1]; rfl
    have h1 : (nowK nx hit acc i).length = n ∧ ∀ q, mem (nowK nx hit acc i) q ↔ mem acc q ∨ (mem hit i ∧ memN nx i q) := by
      unfold nowK
      by_cases hh : hit.getD i false = true
      · rw [if_pos hh, hg]
        refine ⟨by rw [len_orS (by rw [h, e2]), h], fun q => ?_⟩
        rw [mem_orS (by rw [h, e2])]
        have : memN nx i q ↔ mem row q := ⟨fun ⟨row', a, b⟩ => by rw [e1] at a; rw [Option.some.inj a]; exact b, fun a => ⟨row, e1, a⟩⟩
        rw [this]
        simp [(getD_mem hit i).1 hh]
      · rw [if_neg hh]
        refine ⟨h, fun q => ?_⟩
        have : ¬ mem hit i := fun a => hh ((getD_mem hit i).2 a)
        simp [this]
    obtain ⟨h2, h3⟩ := now_fold hR hit l _ h1.1 (fun j hj => hl j (List.mem_cons_of_mem _ hj))
    refine ⟨h2, fun q => ?_⟩
    show mem (l.foldl (nowK nx hit) (nowK nx hit acc i)) q ↔ _
    rw [h3, h1.2]
    simp [or_assoc]
theorem mem_nowV {nx : List (List Bool)} (hR : Rows r.length r.length nx) (hit : List Bool) (hh : hit.length = r.length) :
    (nowV r nx hit).length = r.length ∧ ∀ q, mem (nowV r nx hit) q ↔ ∃ p, mem hit p ∧ memN nx p q := by
  obtain ⟨a, b⟩ := now_fold hR hit (List.range r.length) (zeros r.length) (zeros_len _) (fun i hi => List.mem_range.1 hi)
  refine ⟨a, fun q => ?_⟩
  unfold nowV
  rw [b]
  constructor
  · rintro (x | ⟨i, _, x, y⟩)
    · exact (mem_zeros _ _ x).elim
    · exact ⟨i, x, y⟩
  · rintro ⟨p, x, y⟩
    refine .inr ⟨p, ?_, x, y⟩
    have := lt_of_some x
    rw [List.mem_range]; omega
theorem endV_iff (hit last : List Bool) : endV hit last = true ↔ ∃ p, mem hit p ∧ mem last p := by
  unfold endV
  rw [List.any_eq_true]
  constructor
  · rintro ⟨p, _, h⟩
    rw [Bool.and_eq_true, getD_mem, getD_mem] at h
    exact ⟨p, h⟩
  · rintro ⟨p, h, h'⟩
    refine ⟨p, List.mem_range.2 (lt_of_some h), ?_⟩
    rw [Bool.and_eq_true, getD_mem, getD_mem]
    exact ⟨h, h'⟩
theorem read_iff {nx : List (List Bool)} (hR : Rows r.length r.length nx) (last : List Bool) : ∀ (s : List Int) (st : List Bool × List Bool), s ≠ [] → st.1.length = r.length →
    (endV (s.foldl (readV r nx) st).2 last = true ↔ ∃ p, mem st.1 p ∧ Path (hasAt r) (memN nx) (mem last) p s)
  | [], _, h, _ => (h rfl).elim
  | [c], st, _, hl => by
    show endV (hitV r st.1 c) last = true ↔ _
    rw [endV_iff]
    constructor
    · rintro ⟨p, h, h'⟩
      rw [mem_hitV hl] at h
      exact ⟨p, h.1, .one h.2 h'⟩
    · rintro ⟨p, h, h'⟩
      cases h' with
      | one a b => exact ⟨p, (mem_hitV hl c p).2 ⟨h, a⟩, b⟩
      | cons _ _ z => exact (z.ne rfl).elim
  | c :: d :: s, st, _, hl => by
    obtain ⟨h1, h2⟩ := mem_nowV hR (hitV r st.1 c) (len_hitV ..)
    show endV ((d :: s).foldl (readV r nx) (readV r nx st c)).2 last = true ↔ _
    rw [read_iff hR last (d :: s) (readV r nx st c) (by simp) h1]
    constructor
    · rintro ⟨q, h, h'⟩
      obtain ⟨p, a, b⟩ := (h2 q).1 h
      rw [mem_hitV hl] at a
      exact ⟨p, a.1, .cons a.2 b h'⟩
    · rintro ⟨p, h, h'⟩
      cases h' with
      | cons a b z => exact ⟨_, (h2 _).2 ⟨p, (mem_hitV hl c p).2 ⟨h, a⟩, b⟩, z⟩

/-- The language of the last node. -/
def rootL (r : List Nd) : Lg := (allL r r.length).getD (r.length - 1) lnone
theorem match_iff (ok : RxOk r) (s : List Int) : matchV r s = true ↔ rootL r s := by
  obtain ⟨le, rows, C, c1, c2⟩ := inv_all ok r.length (Nat.le_refl _)
  have h1 := ok.one
  have hE := c2 (r.length - 1) (by omega)
  have hG : ∀ p q, memN (allV r r.length).2 p q ↔ ∃ j, Desc r j (r.length - 1) ∧ C j p q := by
    intro p q
    rw [c1]
    constructor
    · rintro ⟨j, hj, h⟩; exact ⟨j, all_desc ok _ j hj (Nat.le_refl _), h⟩
    · rintro ⟨j, hj, h⟩; exact ⟨j, by have := hj.le ok; omega, h⟩
  have e : en (allV r r.length).1 ((r.length - 1 : Nat) : Int) = (allV r r.length).1.getD (r.length - 1) default := rfl
  rw [e] at hE
  show _ ↔ (allL r r.length).getD (r.length - 1) lnone s
  rw [hE.good.a s]
  unfold matchV
  by_cases hs : s = []
  · subst hs
    rw [if_pos rfl]
    constructor
    · intro h; exact .inl ⟨h, rfl⟩
    · rintro (⟨h, _⟩ | ⟨p, _, h⟩)
      · exact h
      · exact (h.ne rfl).elim
  · rw [if_neg hs, read_iff rows _ s _ hs hE.lf]
    constructor
    · rintro ⟨p, a, b⟩; exact .inr ⟨p, a, b.mono (fun p q => (hG p q).1) (fun _ h => h)⟩
    · rintro (⟨_, h⟩ | ⟨p, a, b⟩)
      · exact (hs h).elim
      · exact ⟨p, a, b.mono (fun p q => (hG p q).2) (fun _ h => h)⟩
end Go.Proofs.YtpbkgegkjglibaaDoor

namespace Go.Proofs.YtpbkgegkjglibaaDoor

def shN (d : Int) (x : Nd) : Nd := ⟨x.k, x.a, x.b, x.c, x.d, x.kids.map (· + d)⟩
def joinK (s : List Nd × List Int) (p : List Nd) : List Nd × List Int := (s.1 ++ p.map (shN s.1.length), s.2 ++ [(s.1.length : Int) + p.length - 1])
def joinV (k : Int) (l : List (List Nd)) : List Nd := (l.foldl joinK ([], [])).1 ++ [⟨k, 0, 0, 0, 0, (l.foldl joinK ([], [])).2⟩]

/-- Trees, and the places of their roots. -/
structure Forest (out : List Nd) (roots : List Int) : Prop where
  nd : ∀ i x, out[i]? = some x → NdOk i x
  one : ∀ j : Nat, j < out.length → (kidsOf out).count (j : Int) + roots.count (j : Int) = 1
  roots : ∀ k ∈ roots, 0 ≤ k ∧ k < out.length

theorem kids_bound : ∀ {out : List Nd} {n : Nat}, (∀ i x, out[i]? = some x → NdOk (n + i) x) → ∀ k ∈ kidsOf out, 0 ≤ k ∧ k + 1 < n + out.length
  | [], _, _, k, hk => by simp [kidsOf] at hk
  | x :: out, n, h, k, hk => by
    rw [kidsOf_cons, List.mem_append] at hk
    rcases hk with hk | hk
    · have := (h 0 x rfl).kids k hk
      simp; omega
    · have := kids_bound (out := out) (n := n + 1) (fun i y hy => by have := h (i + 1) y (by simpa using hy); rwa [show n + 1 + i = n + (i + 1) by omega]) k hk
      simp; omega
theorem kidsOf_append (a b : List Nd) : kidsOf (a ++ b) = kidsOf a ++ kidsOf b := by simp [kidsOf]
theorem count_shift (d j : Int) : ∀ l : List Int, (l.map (· + d)).count j = l.count (j - d)
  | [] => rfl
  | x :: l => by
    rw [List.map_cons, List.count_cons, List.count_cons, count_shift d j l]
    by_cases h : x + d = j
    · rw [if_pos (by simpa using h), if_pos (by simp; omega)]
    · rw [if_neg (by simpa using h), if_neg (by simp; omega)]
theorem kidsOf_shift (d : Int) : ∀ b : List Nd, kidsOf (b.map (shN d)) = (kidsOf b).map (· + d)
  | [] => rfl
  | x :: b => by
    rw [List.map_cons, kidsOf_cons, kidsOf_cons, kidsOf_shift d b, List.map_append]; rfl

theorem forest_nil : Forest [] [] := ⟨fun i x h => by simp at h, fun j h => by simp at h, fun k h => by simp at h⟩
theorem Forest.join {out : List Nd} {roots : List Int} (h : Forest out roots) {p : List Nd} (ok : RxOk p) : Forest (joinK (out, roots) p).1 (joinK (out, roots) p).2 := by
  have h1 := ok.one
  have hb := kids_bound (n := 0) (fun i x hx => by simpa using ok.nd i x hx)
  have ho := kids_bound (n := 0) (fun i x hx => by simpa using h.nd i x hx)
  constructor
  · intro i x hx
    show NdOk i x
    simp only [joinK] at hx
    by_cases hi : i < out.length
    · rw [List.getElem?_append_left hi] at hx
      exact h.nd i x hx
    · rw [List.getElem?_append_right (by omega), List.getElem?_map] at hx
      cases e : p[i - out.length]? with
      | none => rw [e] at hx; simp at hx
      | some y =>
        rw [e] at hx
        simp at hx
        subst hx
        have hy := ok.nd _ y e
        refine ⟨hy.k, by simpa [shN] using hy.low, by simpa [shN] using hy.high, hy.cls, fun k hk => ?_⟩
        simp only [shN, List.mem_map] at hk
        obtain ⟨k', hk', rfl⟩ := hk
        have := hy.kids k' hk'
        omega
  · intro j hj
    simp only [joinK, List.length_append, List.length_map] at hj ⊢
    rw [kidsOf_append, kidsOf_shift, List.count_append, List.count_append, count_shift, List.count_singleton]
    by_cases hi : j < out.length
    · have e1 : (kidsOf p).count ((j : Int) - (out.length : Int)) = 0 := List.count_eq_zero_of_not_mem (fun hm => by have := hb _ hm; omega)
      rw [if_neg (by simp; omega), e1]
      have := h.one j hi
      omega
    · have e1 : (kidsOf out).count (j : Int) = 0 := List.count_eq_zero_of_not_mem (fun hm => by have := ho _ hm; omega)
      have e2 : roots.count (j : Int) = 0 := List.count_eq_zero_of_not_mem (fun hm => by have := h.roots _ hm; omega)
      rw [e1, e2]
      by_cases hl : j + 1 = out.length + p.length
      · have e3 : (kidsOf p).count ((j : Int) - (out.length : Int)) = 0 := List.count_eq_zero_of_not_mem (fun hm => by have := hb _ hm; omega)
        rw [e3, if_pos (by simp; omega)]
      · have e3 := ok.once (j - out.length) (by omega)
        rw [show (((j - out.length : Nat)) : Int) = (j : Int) - (out.length : Int) by omega] at e3
        rw [e3, if_neg (by simp; omega)]
  · intro k hk
    simp only [joinK, List.mem_append, List.mem_singleton, List.length_append, List.length_map] at hk ⊢
    rcases hk with hk | rfl
    · have := h.roots k hk; omega
    · omega
theorem Forest.shut {out : List Nd} {roots : List Int} (h : Forest out roots) (hm : out.length + 1 ≤ 512) {k : Int} (hk : 1 ≤ k ∧ k ≤ 7 ∧ k ≠ 2) (hl : lowV k ≤ roots.length) (hh : (roots.length : Int) ≤ highV k) :
    RxOk (out ++ [⟨k, 0, 0, 0, 0, roots⟩]) := by
  refine ⟨by simp, by simpa using hm, ?_, ?_⟩
  · intro i x hx
    by_cases hi : i < out.length
    · rw [List.getElem?_append_left hi] at hx
      exact h.nd i x hx
    · rw [List.getElem?_append_right (by omega)] at hx
      by_cases e : i = out.length
      · subst e
        simp at hx
        subst hx
        exact ⟨⟨hk.1, hk.2.1⟩, hl, hh, fun _ => ⟨rfl, rfl, rfl, rfl⟩, fun k hk => h.roots k hk⟩
      · rw [List.getElem?_eq_none (by simp; omega)] at hx; simp at hx
  · intro j hj
    simp at hj
    rw [kidsOf_append, List.count_append]
    simpa [kidsOf] using h.one j hj

-- languages of parts
theorem nodeL_shift {A B : List Lg} {x : Nd} (hk : ∀ k ∈ x.kids, 0 ≤ k ∧ k < B.length) : nodeL (A ++ B) (shN A.length x) = nodeL B x := by
  have e : ∀ k ∈ x.kids, (A ++ B).getD (k + (A.length : Int)).toNat lnone = B.getD k.toNat lnone := by
    intro k hk'
    have := hk k hk'
    rw [List.getD_eq_getElem?_getD, List.getElem?_append_right (by omega), List.getD_eq_getElem?_getD]
    congr 2
    omega
  have e1 : ∀ A0, (x.kids.map (· + (A.length : Int))).foldl (fun L k => lcat L ((A ++ B).getD k.toNat lnone)) A0 = x.kids.foldl (fun L k => lcat L (B.getD k.toNat lnone)) A0 := by
    intro A0
    rw [List.foldl_map]
    have : ∀ (ks : List Int) (A0 : Lg), (∀ k ∈ ks, k ∈ x.kids) → ks.foldl (fun L k => lcat L ((A ++ B).getD (k + (A.length : Int)).toNat lnone)) A0 = ks.foldl (fun L k => lcat L (B.getD k.toNat lnone)) A0 := by
      intro ks
      induction ks with
      | nil => intro _ _; rfl
      | cons k ks ih =>
        intro A0 hs
        rw [List.foldl_cons, List.foldl_cons, e k (hs k (List.mem_cons_self ..)), ih _ (fun k' hk' => hs k' (List.mem_cons_of_mem _ hk'))]
    exact this x.kids A0 (fun _ h => h)
  have e2 : ∀ A0, (x.kids.map (· + (A.length : Int))).foldl (fun L k => lor L ((A ++ B).getD k.toNat lnone)) A0 = x.kids.foldl (fun L k => lor L (B.getD k.toNat lnone)) A0 := by
    intro A0
    rw [List.foldl_map]
    have : ∀ (ks : List Int) (A0 : Lg), (∀ k ∈ ks, k ∈ x.kids) → ks.foldl (fun L k => lor L ((A ++ B).getD (k + (A.length : Int)).toNat lnone)) A0 = ks.foldl (fun L k => lor L (B.getD k.toNat lnone)) A0 := by
      intro ks
      induction ks with
      | nil => intro _ _; rfl
      | cons k ks ih =>
        intro A0 hs
        rw [List.foldl_cons, List.foldl_cons, e k (hs k (List.mem_cons_self ..)), ih _ (fun k' hk' => hs k' (List.mem_cons_of_mem _ hk'))]
    exact this x.kids A0 (fun _ h => h)
  unfold nodeL
  simp only [shN, e1, e2]
  rfl
theorem allL_left (a rest : List Nd) : ∀ m, m ≤ a.length → allL (a ++ rest) m = allL a m
  | 0, _ => rfl
  | m + 1, h => by
    simp only [allL]
    rw [allL_left a rest m (by omega)]
    congr 2
    rw [List.getD_eq_getElem?_getD, List.getElem?_append_left (by omega), List.getD_eq_getElem?_getD]
theorem allL_join (a b rest : List Nd) (hb : ∀ i x, b[i]? = some x → NdOk i x) : ∀ j, j ≤ b.length → allL (a ++ b.map (shN a.length) ++ rest) (a.length + j) = allL a a.length ++ allL b j
  | 0, _ => by
    rw [Nat.add_zero, List.append_assoc, allL_left _ _ _ (Nat.le_refl _)]
    simp [allL]
  | j + 1, h => by
    have e : a.length + (j + 1) = (a.length + j) + 1 := by omega
    rw [e]
    simp only [allL]
    rw [allL_join a b rest hb j (by omega), List.append_assoc]
    congr 2
    have e1 : (a ++ b.map (shN a.length) ++ rest).getD (a.length + j) default = shN a.length (b.getD j default) := by
      rw [List.getD_eq_getElem?_getD, List.append_assoc, List.getElem?_append_right (by omega), List.getElem?_append_left (by simp; omega), List.getElem?_map, List.getD_eq_getElem?_getD]
      rw [show a.length + j - a.length = j by omega, List.getElem?_eq_getElem (by omega)]
      rfl
    have hj : b[j]? = some (b.getD j default) := by
      rw [List.getD_eq_getElem?_getD, List.getElem?_eq_getElem (by omega)]; rfl
    rw [e1, show (a.length : Int) = ((allL a a.length).length : Int) by rw [len_allL], nodeL_shift (fun k hk => by
      have := (hb j _ hj).kids k hk
      rw [len_allL]; exact this)]
theorem shN_zero (x : Nd) : shN 0 x = x := by simp [shN]
theorem map_shN_zero : ∀ a : List Nd, a.map (shN 0) = a
  | [] => rfl
  | x :: a => by rw [List.map_cons, shN_zero, map_shN_zero a]
theorem join_one (k : Int) (a : List Nd) : joinV k [a] = a ++ [⟨k, 0, 0, 0, 0, [(a.length : Int) - 1]⟩] := by
  simp [joinV, joinK, map_shN_zero]
theorem join_two (k : Int) (a b : List Nd) : joinV k [a, b] = a ++ b.map (shN a.length) ++ [⟨k, 0, 0, 0, 0, [(a.length : Int) - 1, (a.length : Int) + b.length - 1]⟩] := by
  simp [joinV, joinK, map_shN_zero]
theorem ok_one {k : Int} {a : List Nd} (ha : RxOk a) (h : a.length < 512) (hk : k = 5 ∨ k = 6 ∨ k = 7) : RxOk (joinV k [a]) := by
  refine (forest_nil.join ha).shut ?_ (by omega) ?_ ?_
  · simp [joinK]; omega
  · rcases hk with rfl | rfl | rfl <;> simp [joinK, lowV]
  · rcases hk with rfl | rfl | rfl <;> simp [joinK, highV]
theorem ok_two {k : Int} {a b : List Nd} (ha : RxOk a) (hb : RxOk b) (h : a.length + b.length < 512) (hk : k = 3 ∨ k = 4) : RxOk (joinV k [a, b]) := by
  refine ((forest_nil.join ha).join hb).shut ?_ (by omega) ?_ ?_
  · simp [joinK]; omega
  · rcases hk with rfl | rfl <;> simp [joinK, lowV]
  · rcases hk with rfl | rfl <;> simp [joinK, highV]
theorem root_snoc (out : List Nd) (x : Nd) : rootL (out ++ [x]) = nodeL (allL out out.length) x := by
  unfold rootL
  rw [List.length_append]
  simp only [List.length_singleton, allL]
  rw [allL_left _ _ _ (Nat.le_refl _), List.getD_eq_getElem?_getD, List.getElem?_append_right (by rw [len_allL]; omega), len_allL]
  simp [List.getD_eq_getElem?_getD]
theorem root_one (k : Int) (a : List Nd) (h1 : 1 ≤ a.length) : rootL (joinV k [a]) = nodeL [rootL a] ⟨k, 0, 0, 0, 0, [0]⟩ := by
  rw [join_one, root_snoc]
  have e : (allL a a.length).getD ((a.length : Int) - 1).toNat lnone = rootL a := by
    unfold rootL
    congr 1
    omega
  unfold nodeL
  simp only [List.foldl_cons, List.foldl_nil, e]
  rfl
theorem root_two (k : Int) (a b : List Nd) (h1 : 1 ≤ a.length) (hb : RxOk b) : rootL (joinV k [a, b]) = nodeL [rootL a, rootL b] ⟨k, 0, 0, 0, 0, [0, 1]⟩ := by
  have h2 := hb.one
  rw [join_two, root_snoc]
  have e0 : allL (a ++ b.map (shN a.length)) (a ++ b.map (shN a.length)).length = allL a a.length ++ allL b b.length := by
    have := allL_join a b [] hb.nd b.length (Nat.le_refl _)
    rw [List.append_nil] at this
    rw [List.length_append, List.length_map, this]
  rw [e0]
  have e : (allL a a.length ++ allL b b.length).getD ((a.length : Int) - 1).toNat lnone = rootL a := by
    unfold rootL
    rw [List.getD_eq_getElem?_getD, List.getElem?_append_left (by rw [len_allL]; omega), List.getD_eq_getElem?_getD]
    congr 2
    omega
  have e' : (allL a a.length ++ allL b b.length).getD ((a.length : Int) + b.length - 1).toNat lnone = rootL b := by
    unfold rootL
    rw [List.getD_eq_getElem?_getD, List.getElem?_append_right (by rw [len_allL]; omega), List.getD_eq_getElem?_getD, len_allL]
    congr 2
    omega
  unfold nodeL
  simp only [List.foldl_cons, List.foldl_nil, e, e']
  rfl
end Go.Proofs.YtpbkgegkjglibaaDoor

namespace Go.Proofs.YtpbkgegkjglibaaDoor
variable {a b : List Nd} {s : List Int}

theorem root_star (h : 1 ≤ a.length) : rootL (joinV 5 [a]) = LStar (lor lnone (rootL a)) := by rw [root_one _ _ h]; rfl
theorem root_plus (h : 1 ≤ a.length) : rootL (joinV 6 [a]) = lcat (lor lnone (rootL a)) (LStar (lor lnone (rootL a))) := by rw [root_one _ _ h]; rfl
theorem root_maybe (h : 1 ≤ a.length) : rootL (joinV 7 [a]) = lor (lor lnone (rootL a)) lnil := by rw [root_one _ _ h]; rfl
theorem root_cat (h : 1 ≤ a.length) (hb : RxOk b) : rootL (joinV 3 [a, b]) = lcat (lcat lnil (rootL a)) (rootL b) := by rw [root_two _ _ _ h hb]; rfl
theorem root_alt (h : 1 ≤ a.length) (hb : RxOk b) : rootL (joinV 4 [a, b]) = lor (lor lnone (rootL a)) (rootL b) := by rw [root_two _ _ _ h hb]; rfl
theorem lor_none (A : Lg) : lor lnone A = A := by funext s; simp [lor, lnone]
theorem nil_cat (A : Lg) : lcat lnil A = A := by
  funext s
  apply propext
  constructor
  · rintro ⟨u, v, rfl, rfl, h⟩; exact h
  · intro h; exact ⟨[], s, rfl, rfl, h⟩
theorem star_one {A : Lg} (h : A s) : LStar A s := by
  have := LStar.more h (LStar.nil (A := A)); rwa [List.append_nil] at this
theorem star_app {A : Lg} {u v : List Int} (h : LStar A u) (h' : LStar A v) : LStar A (u ++ v) := by
  induction h with
  | nil => exact h'
  | more x _ ih => rw [List.append_assoc]; exact .more x ih
theorem star_star {A : Lg} : LStar (LStar A) s ↔ LStar A s := by
  constructor
  · intro h
    induction h with
    | nil => exact .nil
    | more x _ ih => exact star_app x ih
  · exact star_one
/-- Once, by a text that is not empty, and then as often. -/
theorem star_iff {A : Lg} : LStar A s ↔ s = [] ∨ ∃ u v, s = u ++ v ∧ u ≠ [] ∧ A u ∧ LStar A v := by
  constructor
  · intro h
    induction h with
    | nil => exact .inl rfl
    | @more u v x y ih =>
      by_cases hu : u = []
      · subst hu; exact ih
      · exact .inr ⟨u, v, rfl, hu, x, y⟩
  · rintro (rfl | ⟨u, v, rfl, _, x, y⟩)
    · exact .nil
    · exact .more x y
theorem cuts {P : List Int → List Int → Prop} : (∃ u v, s = u ++ v ∧ P u v) ↔ ∃ i, i ≤ s.length ∧ P (s.take i) (s.drop i) := by
  constructor
  · rintro ⟨u, v, rfl, h⟩
    exact ⟨u.length, by simp, by rw [List.take_left, List.drop_left]; exact h⟩
  · rintro ⟨i, _, h⟩
    exact ⟨_, _, (List.take_append_drop i s).symm, h⟩

theorem or_right {p q r : Prop} (h : ¬ p → (q ↔ r)) : (p ∨ q) ↔ (p ∨ r) := by
  by_cases hp : p
  · simp [hp]
  · simp [hp, h hp]
theorem m_iff {A : Prop} {b : Bool} (h : b = true ↔ A) {c : Bool} (h' : c = true ↔ A) : b = c := by
  cases b <;> cases c <;> simp_all
theorem kind_alt (ha : RxOk a) (hb : RxOk b) (h : a.length + b.length < 512) : matchV (joinV 4 [a, b]) s = (matchV a s || matchV b s) := by
  apply m_iff (match_iff (ok_two ha hb h (.inr rfl)) s)
  rw [root_alt ha.one hb, lor_none, Bool.or_eq_true, match_iff ha, match_iff hb]
  exact Iff.rfl
theorem kind_cat (ha : RxOk a) (hb : RxOk b) (h : a.length + b.length < 512) : matchV (joinV 3 [a, b]) s = (List.range (s.length + 1)).any fun i => matchV a (s.take i) && matchV b (s.drop i) := by
  apply m_iff (match_iff (ok_two ha hb h (.inl rfl)) s)
  rw [root_cat ha.one hb, nil_cat, List.any_eq_true]
  show _ ↔ ∃ u v, s = u ++ v ∧ _
  rw [cuts]
  simp [match_iff ha, match_iff hb, Nat.lt_succ_iff]
theorem kind_maybe (ha : RxOk a) (h : a.length < 512) : matchV (joinV 7 [a]) s = (matchV a s || decide (s = [])) := by
  apply m_iff (match_iff (ok_one ha h (.inr (.inr rfl))) s)
  rw [root_maybe ha.one, lor_none, Bool.or_eq_true, match_iff ha, decide_eq_true_eq]
  exact Iff.rfl
theorem star_match (ha : RxOk a) (h : a.length < 512) (s : List Int) : matchV (joinV 5 [a]) s = true ↔ LStar (rootL a) s := by
  rw [match_iff (ok_one ha h (.inl rfl)), root_star ha.one, lor_none]
theorem plus_match (ha : RxOk a) (h : a.length < 512) (s : List Int) : matchV (joinV 6 [a]) s = true ↔ lcat (rootL a) (LStar (rootL a)) s := by
  rw [match_iff (ok_one ha h (.inr (.inl rfl))), root_plus ha.one, lor_none]
theorem kind_star (ha : RxOk a) (h : a.length < 512) : matchV (joinV 5 [a]) s = (decide (s = []) || (List.range (s.length + 1)).any fun i => decide (0 < i) && (matchV a (s.take i) && matchV (joinV 5 [a]) (s.drop i))) := by
  apply m_iff (star_match ha h s)
  rw [star_iff, Bool.or_eq_true, decide_eq_true_eq, List.any_eq_true]
  rw [cuts (P := fun u v => u ≠ [] ∧ rootL a u ∧ LStar (rootL a) v)]
  apply or_right
  intro hs
  apply Iff.symm
  constructor
  · rintro ⟨i, hi, h1, h2, h3⟩
    have : i ≠ 0 := by rintro rfl; exact h1 (by simp)
    refine ⟨i, List.mem_range.2 (by omega), ?_⟩
    rw [Bool.and_eq_true, Bool.and_eq_true, match_iff ha, star_match ha h, decide_eq_true_eq]
    exact ⟨by omega, h2, h3⟩
  · rintro ⟨i, hi, h1⟩
    rw [Bool.and_eq_true, Bool.and_eq_true, match_iff ha, star_match ha h, decide_eq_true_eq] at h1
    have := List.mem_range.1 hi
    refine ⟨i, by omega, ?_, h1.2⟩
    intro h2
    have h3 := congrArg List.length h2
    have h4 : s.length ≠ 0 := fun h => hs (List.eq_nil_of_length_eq_zero h)
    rw [List.length_take, List.length_nil] at h3
    omega
theorem plus_iff {A : Lg} : lcat A (LStar A) s ↔ (LStar A s ∧ s ≠ []) ∨ (s = [] ∧ A s) := by
  constructor
  · rintro ⟨u, v, rfl, h, h'⟩
    by_cases e : u ++ v = []
    · rw [List.append_eq_nil_iff] at e
      obtain ⟨rfl, rfl⟩ := e
      exact .inr ⟨rfl, h⟩
    · exact .inl ⟨.more h h', e⟩
  · rintro (⟨h, h'⟩ | ⟨rfl, h⟩)
    · rcases star_iff.1 h with rfl | ⟨u, v, rfl, _, x, y⟩
      · exact (h' rfl).elim
      · exact ⟨u, v, rfl, x, y⟩
    · exact ⟨[], [], rfl, h, .nil⟩
theorem kind_plus (ha : RxOk a) (h : a.length < 512) : matchV (joinV 6 [a]) s = (matchV (joinV 5 [a]) s && !decide (s = []) || decide (s = []) && matchV a s) := by
  apply m_iff (plus_match ha h s)
  rw [plus_iff, Bool.or_eq_true, Bool.and_eq_true, Bool.and_eq_true, star_match ha h, match_iff ha]
  simp
theorem law_star (ha : RxOk a) (h : a.length < 511) : matchV (joinV 5 [joinV 5 [a]]) s = matchV (joinV 5 [a]) s := by
  have h1 : (joinV 5 [a]).length < 512 := by rw [join_one]; simp; omega
  have h2 := ok_one ha (by omega) (.inl rfl : (5 : Int) = 5 ∨ _)
  apply m_iff (star_match h2 h1 s)
  rw [star_match ha (by omega), root_star ha.one, lor_none, star_star]
theorem law_plus (ha : RxOk a) (h : a.length + a.length < 511) : matchV (joinV 3 [a, joinV 5 [a]]) s = matchV (joinV 6 [a]) s := by
  have h1 : a.length + (joinV 5 [a]).length < 512 := by rw [join_one]; simp; omega
  have h2 := ok_one ha (by omega) (.inl rfl : (5 : Int) = 5 ∨ _)
  apply m_iff (match_iff (ok_two ha h2 h1 (.inl rfl)) s)
  rw [plus_match ha (by omega), root_cat ha.one h2, nil_cat, root_star ha.one, lor_none]
theorem law_maybe (ha : RxOk a) (h : a.length < 511) : matchV (joinV 7 [joinV 6 [a]]) s = matchV (joinV 5 [a]) s := by
  have h1 : (joinV 6 [a]).length < 512 := by rw [join_one]; simp; omega
  have h2 := ok_one ha (by omega) (.inr (.inl rfl) : (6 : Int) = 5 ∨ _)
  apply m_iff (match_iff (ok_one h2 h1 (.inr (.inr rfl))) s)
  rw [star_match ha (by omega), root_maybe h2.one, root_plus ha.one, lor_none, lor_none]
  show _ ↔ lcat (rootL a) (LStar (rootL a)) s ∨ s = []
  rw [plus_iff]
  constructor
  · intro h
    by_cases e : s = []
    · exact .inr e
    · exact .inl (.inl ⟨h, e⟩)
  · rintro ((h | ⟨rfl, _⟩) | rfl)
    · exact h.1
    · exact .nil
    · exact .nil
theorem law_alt (ha : RxOk a) (hb : RxOk b) (h : a.length + b.length < 512) : matchV (joinV 4 [a, b]) s = matchV (joinV 4 [b, a]) s := by
  rw [kind_alt ha hb h, kind_alt hb ha (by omega), Bool.or_comm]
def emptyR : List Nd := [⟨1, 0, 0, 0, 0, []⟩]
def leafR : List Nd := [⟨2, 0, 0, 0, 0, []⟩]
theorem ok_leafs (k : Int) (hk : k = 1 ∨ k = 2) : RxOk [⟨k, 0, 0, 0, 0, []⟩] := by
  refine ⟨by simp, by simp, ?_, fun j hj => by simp at hj⟩
  intro i x hx
  cases i with
  | zero =>
    simp at hx
    subst hx
    refine ⟨?_, ?_, ?_, fun _ => ⟨rfl, rfl, rfl, rfl⟩, fun k h => by simp at h⟩ <;> rcases hk with rfl | rfl <;> simp [lowV, highV]
  | succ i => simp at hx
theorem ok_empty : RxOk emptyR := ok_leafs 1 (.inl rfl)
theorem ok_leaf : RxOk leafR := ok_leafs 2 (.inr rfl)
theorem root_empty : rootL emptyR = lnil := by
  show nodeL [] ⟨1, 0, 0, 0, 0, []⟩ = lnil
  simp [nodeL]
theorem root_leaf : rootL leafR = lnone := by
  show nodeL [] ⟨2, 0, 0, 0, 0, []⟩ = lnone
  funext s
  simp only [nodeL, lnone, if_true]
  apply propext
  constructor
  · rintro ⟨c, _, h⟩
    simp [Nd.has, Nd.wd] at h
  · exact fun h => h.elim
theorem law_empty (ha : RxOk a) (h : a.length < 511) : matchV (joinV 3 [emptyR, a]) s = matchV a s := by
  apply m_iff (match_iff (ok_two ok_empty ha (by simp [emptyR]; omega) (.inl rfl)) s)
  rw [match_iff ha, root_cat ok_empty.one ha, nil_cat, root_empty, nil_cat]
theorem law_leaf (ha : RxOk a) (h : a.length < 511) : matchV (joinV 3 [leafR, a]) s = false := by
  rw [Bool.eq_false_iff]
  intro hm
  rw [match_iff (ok_two ok_leaf ha (by simp [leafR]; omega) (.inl rfl)), root_cat ok_leaf.one ha, nil_cat, root_leaf] at hm
  obtain ⟨u, v, _, h, _⟩ := hm
  exact h
end Go.Proofs.YtpbkgegkjglibaaDoor
