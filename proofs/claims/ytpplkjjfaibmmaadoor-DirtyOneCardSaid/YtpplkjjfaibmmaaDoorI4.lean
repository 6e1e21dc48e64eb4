/- Dirty: slices.Insert of one job, as the abstract machine knows it. -/
import Derived.Test.YtpplkjjfaibmmaaDoorI3
import Derived.Test.YtpplkjjfaibmmaaDoorOx8
namespace Go.Proofs.YtpplkjjfaibmmaaDoor
open Go Go.Proofs Go.RowKit Go.Lib Go.Shelf
theorem heap_setCell_row {w : World} {b o : Nat} {cs : Array Value} {e : TypeId} {fz : Nat × Nat} (h : w.heap[b]? = some (.cells cs e fz)) (v : Value) : (w.setCell ⟨b, o, none⟩ v).heap[b]? = some (.cells (cs.setIfInBounds o v) e fz) := by
  have hb := (Array.getElem?_eq_some_iff.1 h).1
  simp [World.setCell, Array.getElem?_modify, h]
theorem heap_setCells_row (b : Nat) {e : TypeId} {fz : Nat × Nat} : ∀ (vs : List Value) (o : Nat) {w : World} {cs : Array Value}, w.heap[b]? = some (.cells cs e fz) → ∃ cs', (w.setCells b o vs).heap[b]? = some (.cells cs' e fz) ∧ cs'.size = cs.size
  | [], _, _, cs, h => ⟨cs, h, rfl⟩
  | v :: r, o, w, cs, h => by
    obtain ⟨cs', h1, h2⟩ := heap_setCells_row b r (o + 1) (heap_setCell_row (o := o) h v)
    exact ⟨cs', h1, by rw [h2]; simp⟩
theorem heap_setCells_off (b : Nat) : ∀ (vs : List Value) (o : Nat) (w : World) (k : Nat), k ≠ b → (w.setCells b o vs).heap[k]? = w.heap[k]?
  | [], _, _, _, _ => rfl
  | v :: r, o, w, k, h => by
    rw [World.setCells, heap_setCells_off b r (o + 1) _ k h]
    exact Below.heap_setCell w _ v k h
theorem same_setCells (b : Nat) : ∀ (vs : List Value) (o : Nat) (w : World), AX.Same w (w.setCells b o vs)
  | [], _, w => AX.Same.refl w
  | v :: r, o, w => by
    have := same_setCells b r (o + 1) (w.setCell ⟨b, o, none⟩ v)
    exact ⟨this.1, this.2⟩
theorem frozen_row {w : World} {b k : Nat} {cs : Array Value} {e : TypeId} {fz : Nat × Nat} (h : w.heap[b]? = some (.cells cs e fz)) (hk : ¬ (fz.1 ≤ k ∧ k < fz.2)) : w.frozen? ⟨b, k, none⟩ = false := by
  obtain ⟨lo, hi⟩ := fz
  simp [World.frozen?, h] at hk ⊢
  exact hk
theorem shape_row {w : World} {b : Nat} {cs : Array Value} {e : TypeId} {fz : Nat × Nat} (h : w.heap[b]? = some (.cells cs e fz)) : w.shape? b = some (e, cs.size) := by simp [World.shape?, h]
/-- What lies in a row where v was put in. -/
theorem put_in {b off n i : Nat} {cs vs : List Value} (hi : i ≤ n) (hcl : cs.length = n * 5) (hvl : vs.length = 5) (W : World) (l : List Value) (hl : l = cs.drop (i * 5))
    (h0 : ∀ j v, j < i * 5 → cs[j]? = some v → W.cell? ⟨b, off + j, none⟩ = some v) (h1 : ∀ j, j < (n + 1) * 5 → (W.cell? ⟨b, off + j, none⟩).isSome = true) :
    (∀ j v, (cs.take (i * 5) ++ (vs ++ cs.drop (i * 5)))[j]? = some v → ((W.setCells b (off + (i + 1) * 5) l).setCells b (off + i * 5) vs).cell? ⟨b, off + j, none⟩ = some v) ∧
    (∀ j v, (cs.take (i * 5) ++ (vs ++ cs.drop (i * 5)))[j]? = some v → ((W.setCells b (off + i * 5) vs).setCells b (off + (i + 1) * 5) l).cell? ⟨b, off + j, none⟩ = some v) := by
  subst hl
  have hdl : (cs.drop (i * 5)).length = (n - i) * 5 := by rw [List.length_drop, hcl]; omega
  have htl : (cs.take (i * 5)).length = i * 5 := by rw [List.length_take, hcl]; omega
  have i1 : ∀ j, j < (cs.drop (i * 5)).length → (W.cell? ⟨b, off + (i + 1) * 5 + j, none⟩).isSome = true := fun j hj => by rw [Nat.add_assoc]; exact h1 _ (by omega)
  have i2 : ∀ j, j < vs.length → (W.cell? ⟨b, off + i * 5 + j, none⟩).isSome = true := fun j hj => by rw [Nat.add_assoc]; exact h1 _ (by omega)
  constructor
  all_goals
    intro j v hv
    by_cases c1 : j < i * 5
    · rw [List.getElem?_append_left (by omega), List.getElem?_take, if_pos c1] at hv
      rw [World.cell?_setCells_out _ _ _ _ _ (fun _ _ => .inl (by simp only; omega)), World.cell?_setCells_out _ _ _ _ _ (fun _ _ => .inl (by simp only; omega))]
      exact h0 j v c1 hv
    · rw [List.getElem?_append_right (by omega), htl] at hv
      by_cases c2 : j < (i + 1) * 5
      · rw [List.getElem?_append_left (by omega)] at hv
        obtain ⟨hk, rfl⟩ := List.getElem?_eq_some_iff.1 hv
        have e : off + j = off + i * 5 + (j - i * 5) := by omega
        first
          | (rw [e, World.cell?_setCells_in b vs _ _ (fun j' hj' => by rw [Nat.add_assoc]; exact isSome_setCells b _ _ _ i1 _ (h1 _ (by omega))) (j - i * 5) hk]; done)
          | (rw [World.cell?_setCells_out _ _ _ _ _ (fun _ _ => .inl (by simp only; omega)), e, World.cell?_setCells_in b vs _ _ i2 (j - i * 5) hk]; done)
      · rw [List.getElem?_append_right (by omega), hvl] at hv
        obtain ⟨hk, rfl⟩ := List.getElem?_eq_some_iff.1 hv
        have e : off + j = off + (i + 1) * 5 + (j - i * 5 - 5) := by omega
        first
          | (rw [World.cell?_setCells_out _ _ _ _ _ (fun _ _ => .inr (by simp only; omega)), e, World.cell?_setCells_in b _ _ _ i1 (j - i * 5 - 5) hk]; done)
          | (rw [e, World.cell?_setCells_in b _ _ _ (fun j' hj' => by rw [Nat.add_assoc]; exact isSome_setCells b _ _ _ i2 _ (h1 _ (by omega))) (j - i * 5 - 5) hk]; done)
theorem insOk : AX.InsOk Tryd.prog 46 5 := by
  intro b off n c i vb voff vc cs vs w row vrow e ve fz hi hnc hn hcl hvl hvb hr hfz hroom hv hcs hvs h1c h1v
  have k0 : ∀ k, w.cell? ⟨b, k, none⟩ = row[k]? := fun k => cell_of_row w b k row e fz hr
  have q0 : ∀ k, w.cell? ⟨vb, k, none⟩ = vrow[k]? := fun k => cell_of_row w vb k vrow ve (0, 0) hv
  have f0 : ∀ k, k < row.size → w.frozen? ⟨b, k, none⟩ = false := fun k hk => frozen_row hr (hfz k hk)
  have hcs' : ∀ j v, cs[j]? = some v → w.cell? ⟨b, off + j, none⟩ = some v := fun j v h => (k0 _).trans (hcs j v h)
  have hvs' : ∀ j v, vs[j]? = some v → w.cell? ⟨vb, voff + j, none⟩ = some v := fun j v h => (q0 _).trans (hvs j v h)
  have hblt := (Array.getElem?_eq_some_iff.1 hr).1
  by_cases hc : n + 1 ≤ c
  · have hroom := hroom (by omega)
    have hsp : ∀ j, j < (n + 1) * 5 → (w.cell? ⟨b, off + j, none⟩).isSome = true := fun j hj => by rw [k0, Array.getElem?_eq_getElem (by omega)]; rfl
    have hfr : ∀ j, j < (n + 1) * 5 → w.frozen? ⟨b, off + j, none⟩ = false := fun j hj => f0 _ (by omega)
    rcases Nat.lt_or_ge i n with hlt | hge
    · refine (insert_shift b off n c i vb voff vc cs vs w hlt hc hn hvb hcl hvl hcs' hsp hfr hvs' h1c h1v ve e vrow.size row.size (shape_row hv) (shape_row hr) (by omega) (frozen_row hv (by simp)) (frozen_row hv (by simp))).mono ?_
      rintro en w' ⟨rfl, rfl⟩
      obtain ⟨r1, g1, s1⟩ := heap_setCells_row b (cs.drop (i * 5)) (off + (i + 1) * 5) (w := w.drew) hr
      obtain ⟨r2, g2, s2⟩ := heap_setCells_row b vs (off + i * 5) g1
      refine ⟨b, off, c, r2, e, fz, rfl, hc, g2, by rw [s2, s1]; exact hfz, by rw [s2, s1]; exact hroom, fun j v hj => ?_, ?_, .inl ⟨rfl, fun k hk => ?_⟩⟩
      · rw [← cell_of_row _ b (off + j) r2 e fz g2]
        exact (put_in hi hcl hvl w.drew _ rfl (fun j v _ h => hcs' j v h) hsp).1 j v hj
      · exact (show AX.Same w w.drew from ⟨rfl, rfl⟩).trans ((same_setCells b _ _ _).trans (same_setCells b _ _ _))
      · rw [heap_setCells_off b _ _ _ k hk, heap_setCells_off b _ _ _ k hk]; rfl
    · obtain rfl : i = n := by omega
      refine (insert_end_room b off i c vb voff vc vs w hc hn hvl (fun j hj => by rw [Nat.add_assoc]; exact hsp _ (by omega)) (fun j hj => by rw [Nat.add_assoc]; exact hfr _ (by omega)) hvs' h1v).mono ?_
      rintro en w' ⟨rfl, rfl⟩
      obtain ⟨r2, g2, s2⟩ := heap_setCells_row b vs (off + i * 5) hr
      have hd : cs.drop (i * 5) = [] := List.drop_eq_nil_of_le (by omega)
      refine ⟨b, off, c, r2, e, fz, rfl, hc, g2, by rw [s2]; exact hfz, by rw [s2]; exact hroom, fun j v hj => ?_, same_setCells b _ _ _, .inl ⟨rfl, fun k hk => heap_setCells_off b _ _ _ k hk⟩⟩
      rw [← cell_of_row _ b (off + j) r2 e fz g2]
      have := (put_in hi hcl hvl w [] hd.symm (fun j v _ h => hcs' j v h) hsp).1 j v hj
      exact this
  · rcases Nat.lt_or_ge i n with hlt | hge
    · refine (insert_grow b off n c i vb voff vc cs vs w hlt hnc (by omega) (by omega) hcl hvl hcs' hvs' h1c h1v).mono ?_
      rintro en w' ⟨rfl, rfl⟩
      obtain ⟨G, hG⟩ : ∃ G, G = grownCap w (n + 1) c 38 := ⟨_, rfl⟩
      have hGn : n + 1 ≤ G := by rw [hG]; exact grownCap_ge w _ _ _
      rw [← hG]
      obtain ⟨ROW, hROW⟩ : ∃ ROW : Array Value, ROW = (cs.take (i * 5)).toArray ++ Builtin.zeroCells z5 (n + 1 - i) ++ Builtin.zeroCells z5 (G - (n + 1)) := ⟨_, rfl⟩
      rw [← hROW]
      have hRl : ROW.size = G * 5 := by
        rw [hROW]
        simp [size_zeroCells, z5]
        omega
      obtain ⟨w1, hw1⟩ : ∃ w1, w1 = (w.alloc (.cells ROW 38)).drew := ⟨_, rfl⟩
      rw [← hw1]
      have hr1 : w1.heap[w.heap.size]? = some (.cells ROW 38 (0, 0)) := by rw [hw1]; exact World.alloc_heap_new w _
      obtain ⟨r1, g1, s1⟩ := heap_setCells_row w.heap.size vs (i * 5) hr1
      obtain ⟨r2, g2, s2⟩ := heap_setCells_row w.heap.size (cs.drop (i * 5)) ((i + 1) * 5) (w := (w1.setCells w.heap.size (i * 5) vs).drew) g1
      have p1 : ∀ k, w1.cell? ⟨w.heap.size, k, none⟩ = ROW[k]? := fun k => cell_of_row w1 _ k ROW 38 (0, 0) hr1
      refine ⟨w.heap.size, 0, G, r2, 38, (0, 0), rfl, hGn, g2, fun _ _ => by simp, by rw [s2, s1]; omega, fun j v hj => ?_, ?_, .inr ⟨rfl, fun k o hk => ?_⟩⟩
      · rw [← cell_of_row _ _ (0 + j) r2 38 (0, 0) g2]
        have := (put_in (b := w.heap.size) (off := 0) hi hcl hvl w1 _ rfl (fun j v hj h => by
          rw [p1, Nat.zero_add, hROW, Array.getElem?_append_left (by simp [size_zeroCells]; omega), Array.getElem?_append_left (by simp; omega)]
          simp [hj, h]) (fun j hj => by rw [p1, Array.getElem?_eq_getElem (by omega)]; rfl)).2 j v hj
        simp only [Nat.zero_add] at this ⊢
        rw [← drew_setCells]
        exact this
      · have a1 : AX.Same w w1 := by rw [hw1]; exact ⟨rfl, rfl⟩
        exact a1.trans ((same_setCells _ vs _ _).trans ((show AX.Same _ (World.drew _) from ⟨rfl, rfl⟩).trans (same_setCells _ _ _ _)))
      · have hkl := (Array.getElem?_eq_some_iff.1 hk).1
        rw [heap_setCells_off _ _ _ _ k (by omega)]
        show (w1.setCells w.heap.size (i * 5) vs).heap[k]? = some o
        rw [heap_setCells_off _ _ _ _ k (by omega), hw1]
        exact (Below.heap_alloc w _ k hkl).trans hk
    · obtain rfl : i = n := by omega
      refine (insert_end_grow (some ⟨b, off, none⟩) i c vb voff vc cs vs w hnc (by omega) (by omega) hcl hvl (fun h => by cases h) (fun a ha j v hj => by cases ha; rw [Addr.add_lit]; exact hcs' j v hj) hvs' h1v).mono ?_
      rintro en w' ⟨rfl, rfl⟩
      obtain ⟨G, hG⟩ : ∃ G, G = grownCap w (i + 1) c 38 := ⟨_, rfl⟩
      have hGn : i + 1 ≤ G := by rw [hG]; exact grownCap_ge w _ _ _
      rw [← hG]
      have hd : cs.drop (i * 5) = [] := List.drop_eq_nil_of_le (by omega)
      have ht : cs.take (i * 5) = cs := List.take_of_length_le (by omega)
      refine ⟨w.heap.size, 0, G, _, 38, (0, 0), rfl, hGn, World.alloc_heap_new w.drew _, fun _ _ => by simp, ?_, fun j v hj => ?_, ⟨rfl, rfl⟩, .inr ⟨rfl, fun k o hk => ?_⟩⟩
      · simp [size_zeroCells, z5]; omega
      · rw [hd, ht, List.append_nil] at hj
        have hjl := (List.getElem?_eq_some_iff.1 hj).1
        rw [Nat.zero_add, Array.getElem?_append_left (by simpa using hjl)]
        simpa using hj
      · exact (Below.heap_alloc w.drew _ k (Array.getElem?_eq_some_iff.1 hk).1).trans hk
end Go.Proofs.YtpplkjjfaibmmaaDoor
