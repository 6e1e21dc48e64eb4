/- Regex: how what Matches keeps is turned. -/
import Derived.Test.YtpbkgegkjglibaaDoorW9
import Derived.Test.YtpbkgegkjglibaaDoorW10
import Derived.Test.YtpbkgegkjglibaaDoorW11
import Derived.Test.YtpbkgegkjglibaaDoorA8
namespace Go.Proofs.YtpbkgegkjglibaaDoor
open Go Go.Proofs Go.RowKit
attribute [local go_sem] Oper.semAt_some

theorem flat_len {α : Type} (enc : α → List Value) (k : Nat) (hk : ∀ x, (enc x).length = k) (l : List α) : (l.flatMap enc).length = l.length * k := by
  induction l with
  | nil => simp
  | cons x l ih => rw [List.flatMap_cons, List.length_append, ih, hk, List.length_cons, Nat.add_mul, Nat.one_mul]; omega
theorem flat_get {α : Type} (enc : α → List Value) (k : Nat) (hk : ∀ x, (enc x).length = k) : ∀ (l : List α) (i : Nat) (x : α) (_ : l[i]? = some x) (j : Nat) (v : Value), (enc x)[j]? = some v → (l.flatMap enc)[i * k + j]? = some v
  | [], i, x, h, _, _, _ => by simp at h
  | y :: l, 0, x, h, j, v, hv => by
    simp at h; subst h
    have hj : j < (enc y).length := (List.getElem?_eq_some_iff.1 hv).1
    rw [List.flatMap_cons, Nat.zero_mul, Nat.zero_add, List.getElem?_append_left hj]
    exact hv
  | y :: l, i + 1, x, h, j, v, hv => by
    have e : (i + 1) * k + j = k + (i * k + j) := by rw [Nat.add_mul, Nat.one_mul]; omega
    rw [List.flatMap_cons, e, List.getElem?_append_right (by rw [hk]; omega), hk, Nat.add_sub_cancel_left]
    exact flat_get enc k hk l i x (by simpa using h) j v hv
/-- Ends, and where their sets lie. -/
structure EL where
  x : En
  F : Nat
  cf : Nat
  L : Nat
  cl : Nat
def encE (n : Nat) (y : EL) : List Value := [.bool y.x.e, .slice (some ⟨y.F, 0, none⟩) n y.cf, .slice (some ⟨y.L, 0, none⟩) n y.cl]
def ERow (w : World) (base n : Nat) (v : Value) (l : List EL) : Prop := w.ownsRow base 79 3 v l.length (l.flatMap (encE n))
theorem own_type {w : World} {base : Nat} {e : TypeId} {size n : Nat} {v : Value} {xs : List Value} (h : w.ownsRow base e size v n xs) (g : Nat) (hg : v.ownBlock = some g) : ∃ cur, w.heap[g]? = some (.cells cur e (0, 0)) := by
  rcases h.2 with ⟨rfl, _⟩ | ⟨g', cap, cur, rfl, _, hh, _⟩
  · cases hg
  · cases hg; exact ⟨cur, hh⟩
theorem own_same {w w' : World} {base : Nat} {e : TypeId} {size n : Nat} {v : Value} {xs : List Value} (h : w.ownsRow base e size v n xs) (he : ∀ g, v.ownBlock = some g → w'.heap[g]? = w.heap[g]?) : w'.ownsRow base e size v n xs := by
  refine ⟨h.1, ?_⟩
  rcases h.2 with ⟨rfl, hn⟩ | ⟨g, cap, cur, rfl, hg, hh, rest⟩
  · exact .inl ⟨rfl, hn⟩
  · exact .inr ⟨g, cap, cur, rfl, hg, (he g rfl).trans hh, rest⟩
theorem not_own {w : World} {base : Nat} {e t : TypeId} {size n B : Nat} {v : Value} {xs : List Value} {cs : Array Value} (h : w.ownsRow base e size v n xs) (hB : w.heap[B]? = some (.cells cs t (0, 0))) (ht : t ≠ e) : some B ≠ v.ownBlock := fun hg => by
  obtain ⟨cur, hc⟩ := own_type h B hg.symm
  rw [hB] at hc
  cases hc
  exact ht rfl
theorem BRow.notOwn {w : World} {base : Nat} {size n B : Nat} {v : Value} {xs : List Value} {l : List Bool} (hB : BRow w B l) (h : w.ownsRow base 79 size v n xs) : some B ≠ v.ownBlock := by
  obtain ⟨cs, hc, _⟩ := hB
  exact not_own h hc (by decide)

/-- A row more. -/
theorem NAt.grow {W W' : World} {NB n k U : Nat} {bs : Nat → Nat} {nx : List (List Bool)} (h : NAt W NB n k bs nx) (hk : k < n) {cs : Array Value} (hcs : W.heap[NB]? = some (.cells cs 77 (0, 0))) (hN : W'.heap[NB]? = some (.cells (cs.setIfInBounds k (.slice (some ⟨U, 0, none⟩) n n)) 77 (0, 0)))
    (hU : BRow W' U (zeros n)) (hnew : ∀ j, j < k → bs j ≠ U) (hNU : NB ≠ U) (hsame : ∀ j, j < k → W'.heap[bs j]? = W.heap[bs j]?) : NAt W' NB n (k + 1) (fun j => if j = k then U else bs j) (nx.set k (zeros n)) := by
  obtain ⟨cs', h1, h2, h3⟩ := h.cells
  obtain rfl : cs = cs' := by rw [hcs] at h1; cases h1; rfl
  refine ⟨by rw [List.length_set, h.len], ⟨_, hN, by simp [h2], fun i hi => ?_⟩, fun i row hi hr => ?_, fun i j hi hj e => ?_, fun i hi => ?_⟩
  · rw [Array.getElem?_setIfInBounds]
    by_cases e : i = k
    · subst e; rw [if_pos rfl, if_pos (by omega), if_pos rfl]
    · rw [if_neg (fun x => e x.symm), h3 i (by omega), if_neg e]
  · rw [List.getElem?_set] at hr
    by_cases e : i = k
    · subst e
      rw [if_pos rfl, if_pos (by rw [h.len]; omega)] at hr
      rw [if_pos rfl, ← Option.some.inj hr]
      exact ⟨hU, by simp [zeros]⟩
    · rw [if_neg (fun x => e x.symm)] at hr
      rw [if_neg e]
      obtain ⟨a, b⟩ := h.row i row (by omega) hr
      exact ⟨a.same (hsame i (by omega)), b⟩
  · by_cases e1 : i = k <;> by_cases e2 : j = k
    · omega
    · simp only [if_pos e1, if_neg e2] at e; exact absurd e.symm (hnew j (by omega))
    · simp only [if_pos e2, if_neg e1] at e; exact absurd e (hnew i (by omega))
    · simp only [if_neg e1, if_neg e2] at e; exact h.inj i j (by omega) (by omega) e
  · by_cases e : i = k
    · simp only [if_pos e]; exact fun x => hNU x.symm
    · simp only [if_neg e]; exact h.nb i (by omega)
/-- What Matches keeps while it makes the ends. -/
structure Mst (w W : World) (Mb NB n k : Nat) (bs : Nat → Nat) (rv ev : Value) (l : List EL) (nx : List (List Bool)) : Prop where
  mb : Bx W Mb 75 #[rv, ev, .slice (some ⟨NB, 0, none⟩) n n]
  nat : NAt W NB n k bs nx
  row : ERow W w.heap.size n ev l
  sets : ∀ y ∈ l, (BRow W y.F y.x.f ∧ BRow W y.L y.x.l) ∧ (w.heap.size ≤ y.F ∧ w.heap.size ≤ y.L) ∧ ∀ i, i < k → bs i ≠ y.F ∧ bs i ≠ y.L
  low : Below w.heap.size w W
  bsl : ∀ i, i < k → w.heap.size ≤ bs i
  nbl : w.heap.size ≤ NB
  mbl : w.heap.size ≤ Mb
end Go.Proofs.YtpbkgegkjglibaaDoor

namespace Go.Proofs.YtpbkgegkjglibaaDoor
open Go Go.Proofs Go.RowKit
attribute [local go_sem] Oper.semAt_some

theorem NAt.brow {W : World} {NB n k : Nat} {bs : Nat → Nat} {nx : List (List Bool)} (h : NAt W NB n k bs nx) (i : Nat) (hi : i < k) : ∃ row, BRow W (bs i) row := by
  obtain ⟨cs, c1, c2, c3⟩ := h.cells
  have h3 := (Array.getElem?_eq_some_iff.1 (c3 i hi)).1
  have h4 : i < nx.length := by rw [h.len]; omega
  exact ⟨_, (h.row i _ hi (List.getElem?_eq_getElem h4)).1⟩
theorem BRow.notBx {W : World} {B B' : Nat} {l : List Bool} {t : TypeId} {cs : Array Value} (h : BRow W B l) (h' : Bx W B' t cs) (ht : t ≠ 4) : B ≠ B' := fun e => by
  subst e
  obtain ⟨cs', hc, _⟩ := h
  have h2 : W.heap[B]? = _ := h'
  rw [hc] at h2
  cases h2
  exact ht rfl
theorem ERow.notBx {W : World} {base n B : Nat} {v : Value} {l : List EL} {t : TypeId} {cs : Array Value} (h : ERow W base n v l) (h' : Bx W B t cs) (ht : t ≠ 79) : some B ≠ v.ownBlock := not_own h h' ht
theorem NAt.lt' {W : World} {NB n k : Nat} {bs : Nat → Nat} {nx : List (List Bool)} (h : NAt W NB n k bs nx) (i : Nat) (hi : i < k) : bs i < W.heap.size := by
  obtain ⟨row, hr⟩ := h.brow i hi
  exact hr.lt
theorem Mst.below {w W W' : World} {Mb NB n k : Nat} {bs : Nat → Nat} {rv ev : Value} {l : List EL} {nx : List (List Bool)} (h : Mst w W Mb NB n k bs rv ev l nx) (hb : Below W.heap.size W W') : Mst w W' Mb NB n k bs rv ev l nx :=
  ⟨h.mb.below hb h.mb.lt, h.nat.below hb h.nat.lt (fun i hi => h.nat.lt' i hi), own_same h.row (fun g e => hb.block _ (World.ownsRow.lt h.row g e).2),
   fun y hy => ⟨⟨(h.sets y hy).1.1.below hb (h.sets y hy).1.1.lt, (h.sets y hy).1.2.below hb (h.sets y hy).1.2.lt⟩, (h.sets y hy).2⟩, h.low.trans (hb.mono h.low.size), h.bsl, h.nbl, h.mbl⟩
/-- Another row of what may come next. -/
theorem Mst.next {w W W1 W2 : World} {Mb NB n k U : Nat} {bs : Nat → Nat} {rv ev : Value} {l : List EL} {nx : List (List Bool)} (h : Mst w W Mb NB n k bs rv ev l nx) (hk : k < n) (hU : U = W.heap.size) (hb : Below W.heap.size W W1) (hR : BRow W1 U (zeros n)) {cs : Array Value} (hcs : W1.heap[NB]? = some (.cells cs 77 (0, 0)))
    (h3 : W2.heap[NB]? = some (.cells (cs.setIfInBounds k (.slice (some ⟨U, 0, none⟩) n n)) 77 (0, 0))) (h4 : ∀ j, j ≠ NB → W2.heap[j]? = W1.heap[j]?) (h5 : AX.Same W1 W2) : Mst w W2 Mb NB n (k + 1) (fun j => if j = k then U else bs j) rv ev l (nx.set k (zeros n)) := by
  have h1 := h.below hb
  have hlow := h.low.size
  have hbt := AX.below_turn (n := w.heap.size) h.nbl (.inl (Array.getElem?_eq_some_iff.1 h3).1) h4 h5
  have hnb : ∀ j, j < k → bs j ≠ NB := fun j hj => h1.nat.nb j hj
  have hNl := h.nat.lt
  have hM : Mb ≠ NB := fun e => by
    have := h1.mb
    unfold Bx at this
    rw [e, hcs] at this
    cases this
  refine ⟨(h4 _ hM).trans h1.mb, h1.nat.grow hk hcs h3 (hR.same (h4 _ (by omega))) (fun j hj => by have := h.nat.lt' j hj; omega) (by omega) (fun j hj => h4 _ (hnb j hj)), own_same h1.row (fun g e => h4 _ (fun e' => not_own h1.row hcs (by decide) (e' ▸ e.symm))), fun y hy => ?_, h1.low.trans hbt, fun i hi => ?_, h.nbl, h.mbl⟩
  · obtain ⟨⟨a1, a2⟩, ⟨a3, a4⟩, a5⟩ := h1.sets y hy
    obtain ⟨⟨b1, b2⟩, _, _⟩ := h.sets y hy
    have e1 : y.F ≠ NB := fun e => by obtain ⟨cs', hc, _⟩ := a1; rw [e, hcs] at hc; cases hc
    have e2 : y.L ≠ NB := fun e => by obtain ⟨cs', hc, _⟩ := a2; rw [e, hcs] at hc; cases hc
    refine ⟨⟨a1.same (h4 _ e1), a2.same (h4 _ e2)⟩, ⟨a3, a4⟩, fun i hi => ?_⟩
    by_cases e : i = k
    · simp only [if_pos e]
      have := b1.lt; have := b2.lt
      exact ⟨by omega, by omega⟩
    · simp only [if_neg e]; exact a5 i (by omega)
  · by_cases e : i = k
    · simp only [if_pos e]; omega
    · simp only [if_neg e]; exact h.bsl i (by omega)
/-- Rows of what may come next are turned. -/
theorem Mst.called {w W W' : World} {Mb NB n k : Nat} {bs : Nat → Nat} {rv ev : Value} {l : List EL} {nx nx' : List (List Bool)} (h : Mst w W Mb NB n k bs rv ev l nx) (hb : ButS (fun q => ∃ i, i < k ∧ q = bs i) W W') (hN : NAt W' NB n k bs nx') : Mst w W' Mb NB n k bs rv ev l nx' := by
  have hbr := fun i hi => h.nat.brow i hi
  refine ⟨h.mb.buts hb (by rintro ⟨i, hi, e⟩; obtain ⟨row, hr⟩ := hbr i hi; exact hr.notBx h.mb (by decide) e.symm), hN, own_same h.row (fun g e => hb.same _ (World.ownsRow.lt h.row g e).2 (by rintro ⟨i, hi, e'⟩; obtain ⟨row, hr⟩ := hbr i hi; exact hr.notOwn h.row (by rw [← e', e]))), fun y hy => ?_,
    h.low.trans (hb.below h.low.size (by rintro q ⟨i, hi, rfl⟩; exact h.bsl i hi)), h.bsl, h.nbl, h.mbl⟩
  obtain ⟨⟨a1, a2⟩, a3, a5⟩ := h.sets y hy
  exact ⟨⟨a1.buts hb (by rintro ⟨i, hi, e⟩; exact (a5 i hi).1 e.symm), a2.buts hb (by rintro ⟨i, hi, e⟩; exact (a5 i hi).2 e.symm)⟩, a3, a5⟩
/-- Ends are put behind the others. -/
theorem Mst.push {w W W1 W2 : World} {Mb NB n k : Nat} {bs : Nat → Nat} {rv ev v' : Value} {l : List EL} {nx : List (List Bool)} (h : Mst w W Mb NB n k bs rv ev l nx) (y : EL) (hy : (BRow W y.F y.x.f ∧ BRow W y.L y.x.l) ∧ (w.heap.size ≤ y.F ∧ w.heap.size ≤ y.L) ∧ ∀ i, i < k → bs i ≠ y.F ∧ bs i ≠ y.L)
    (hR : ERow W1 w.heap.size n v' (l ++ [y])) (hg : W.grownBy W1 ev.ownBlock) (h3 : W2.heap[Mb]? = some (.cells #[rv, v', .slice (some ⟨NB, 0, none⟩) n n] 75 (0, 0))) (h4 : ∀ j, j ≠ Mb → W2.heap[j]? = W1.heap[j]?) (h5 : AX.Same W1 W2) : Mst w W2 Mb NB n k bs rv v' (l ++ [y]) nx := by
  have hb1 := (Below.refl w.heap.size W).grown hg h.low.size fun j ej => (World.ownsRow.lt h.row j ej).1
  have hb2 := AX.below_turn (n := w.heap.size) h.mbl (.inl (Array.getElem?_eq_some_iff.1 h3).1) h4 h5
  have hm1 : Bx W1 Mb 75 #[rv, ev, .slice (some ⟨NB, 0, none⟩) n n] := (hg.block Mb h.mb.lt (ERow.notBx h.row h.mb (by decide))).trans h.mb
  have same : ∀ (B : Nat) (row : List Bool), BRow W B row → W2.heap[B]? = W.heap[B]? := fun B row hr => (h4 B (hr.notBx h.mb (by decide))).trans (hg.block B hr.lt (hr.notOwn h.row))
  have hset : ∀ z : EL, ((BRow W z.F z.x.f ∧ BRow W z.L z.x.l) ∧ (w.heap.size ≤ z.F ∧ w.heap.size ≤ z.L) ∧ ∀ i, i < k → bs i ≠ z.F ∧ bs i ≠ z.L) → ((BRow W2 z.F z.x.f ∧ BRow W2 z.L z.x.l) ∧ (w.heap.size ≤ z.F ∧ w.heap.size ≤ z.L) ∧ ∀ i, i < k → bs i ≠ z.F ∧ bs i ≠ z.L) := fun z hz =>
    ⟨⟨hz.1.1.same (same _ _ hz.1.1), hz.1.2.same (same _ _ hz.1.2)⟩, hz.2⟩
  refine ⟨h3, ?_, own_same hR (fun g e => h4 _ (fun e' => ERow.notBx hR hm1 (by decide) (e' ▸ e.symm))), fun z hz => ?_, h.low.trans (hb1.trans hb2), h.bsl, h.nbl, h.mbl⟩
  · obtain ⟨cs, c1, c2, c3⟩ := h.nat.cells
    have hne : NB ≠ Mb := fun e => by have := h.mb; unfold Bx at this; rw [← e, c1] at this; cases this
    exact h.nat.same ((h4 _ hne).trans (hg.block _ h.nat.lt (not_own h.row c1 (by decide)))) (fun i hi => by obtain ⟨row, hr⟩ := h.nat.brow i hi; exact same _ _ hr)
  · rcases List.mem_append.1 hz with hz | hz
    · exact hset z (h.sets z hz)
    · rw [List.mem_singleton.1 hz]; exact hset y hy
end Go.Proofs.YtpbkgegkjglibaaDoor
