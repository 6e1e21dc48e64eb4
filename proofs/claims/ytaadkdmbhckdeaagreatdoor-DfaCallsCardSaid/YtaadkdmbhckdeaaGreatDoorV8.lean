/- Dfa: one row of the table, plain. -/
import Derived.Test.YtaadkdmbhckdeaaGreatDoorV5
import Derived.Test.YtaadkdmbhckdeaaGreatDoorK1
namespace Go.Proofs.YtaadkdmbhckdeaaGreatDoor
open Go Kl
def lowsOf (d : List Kl) : List Nat := d.map Kl.low
def clsOf (d : List Kl) (x : Nat) : Nat := d.findIdx (fun c => c.has x)
theorem has_low {p : Kl} {i : Nat} (hi : i < 256) (h : p.has i = true) : p.low < 256 ∧ p.has p.low = true ∧ p.low ≤ i := by
 obtain ⟨h1, h2⟩ := low_mem h hi
 exact ⟨low_lt p, (mem_by.1 h1).2, h2⟩
theorem part_one {l d : List Kl} (h : Parted l d) {i j : Nat} (hi : i < d.length) (hj : j < d.length) {x : Nat} (hx : x < 256) (h1 : d[i].has x = true) (h2 : d[j].has x = true) : i = j := by
 have key : ∀ i j (hi : i < d.length) (hj : j < d.length), i < j → d[i].has x = true → d[j].has x = true → False := fun i j hi hj hij a b => by
  have := List.pairwise_iff_getElem.1 h.apart i j hi hj hij x x hx hx a b
  obtain ⟨c, _, hc⟩ := this
  exact hc rfl
 by_cases hij : i < j
 · exact (key i j hi hj hij h1 h2).elim
 by_cases hji : j < i
 · exact (key j i hj hi hji h2 h1).elim
 · omega
theorem cls_at {l d : List Kl} (h : Parted l d) {x : Nat} (hx : x < 256) : ∃ hl : clsOf d x < d.length, d[clsOf d x].has x = true := by
 obtain ⟨p, hp, hpx⟩ := h.all x hx
 have hl : clsOf d x < d.length := List.findIdx_lt_length_of_exists ⟨p, hp, hpx⟩
 exact ⟨hl, List.findIdx_getElem (w := hl)⟩
theorem lay_of {l d : List Kl} (h : Parted l d) (hs : d.Pairwise fun x y => x.low ≤ y.low) : Lay (lowsOf d) (clsOf d) := by
 have hlen : (lowsOf d).length = d.length := List.length_map ..
 have hlow : ∀ j (hj : j < d.length), d[j].low < 256 ∧ d[j].has d[j].low = true := fun j hj => by
  obtain ⟨i, hi, hh⟩ := h.some d[j] (List.getElem_mem hj)
  exact ⟨(has_low hi hh).1, (has_low hi hh).2.1⟩
 refine ⟨fun x hx => ?_, fun x hx => ?_, fun j hj => ?_, fun i j hi hj hij => ?_⟩
 · obtain ⟨hl, _⟩ := cls_at h hx
   rw [hlen]
   exact hl
 · obtain ⟨hl, hh⟩ := cls_at h hx
   simp only [lowsOf, List.getElem_map]
   exact (has_low hx hh).2.2
 · have hj' : j < d.length := by rw [← hlen]; exact hj
   obtain ⟨h1, h2⟩ := hlow j hj'
   simp only [lowsOf, List.getElem_map]
   refine ⟨h1, ?_⟩
   obtain ⟨hl, hh⟩ := cls_at h h1
   exact part_one h hl hj' h1 hh h2
 · have hi' : i < d.length := by rw [← hlen]; exact hi
   have hj' : j < d.length := by rw [← hlen]; exact hj
   simp only [lowsOf, List.getElem_map]
   have hle := List.pairwise_iff_getElem.1 hs i j hi' hj' hij
   by_cases he : d[i].low = d[j].low
   · have a := hlow i hi'
     have b := hlow j hj'
     rw [← he] at b
     have := part_one h hi' hj' a.1 a.2 b.2
     omega
   · omega
theorem cls_alike {l d : List Kl} (h : Parted l d) (hs : d.Pairwise fun x y => x.low ≤ y.low) {x : Nat} (hx : x < 256) {c : Kl} (hc : c ∈ l) : c.has x = c.has ((lowsOf d)[clsOf d x]'((lay_of h hs).lt x hx)) := by
 obtain ⟨hl, hh⟩ := cls_at h hx
 simp only [lowsOf, List.getElem_map]
 have := has_low hx hh
 exact h.same d[clsOf d x] (List.getElem_mem hl) x _ hx this.1 hh this.2.1 c hc
def fillR (rw : List Int) (t : Int) (xs : List Nat) : List Int := xs.foldl (fun l x => l.set x t) rw
theorem fillR_snoc (rw : List Int) (t : Int) (xs : List Nat) (x : Nat) : fillR rw t (xs ++ [x]) = (fillR rw t xs).set x t := by simp [fillR]
theorem fillR_len (rw : List Int) (t : Int) : ∀ xs : List Nat, (fillR rw t xs).length = rw.length := by
 intro xs
 induction xs generalizing rw with
 | nil => rfl
 | cons x xs ih => exact (ih (rw.set x t)).trans (by simp)
theorem fillR_at (t : Int) : ∀ (xs : List Nat) (rw : List Int) (x : Nat), x < rw.length → (fillR rw t xs).getD x 0 = if x ∈ xs then t else rw.getD x 0
 | [], rw, x, _ => by simp [fillR]
 | y :: xs, rw, x, h => by
  show (fillR (rw.set y t) t xs).getD x 0 = _
  rw [fillR_at t xs (rw.set y t) x (by simpa using h)]
  by_cases hx : x ∈ xs
  · rw [if_pos hx, if_pos (List.mem_cons_of_mem _ hx)]
  · rw [if_neg hx]
    by_cases e : x = y
    · subst e
      rw [if_pos (List.mem_cons_self ..)]
      simp [List.getD_eq_getElem?_getD, List.getElem?_set, h]
    · rw [if_neg (by simp [hx, e])]
      simp [List.getD_eq_getElem?_getD, List.getElem?_set, Ne.symm e]
structure Rw (d : List Kl) (ts : List Int) (j : Nat) (rw : List Int) : Prop where
 len : rw.length = 256
 at_ : ∀ x, x < 256 → clsOf d x < j → rw.getD x 0 = ts.getD (clsOf d x) 0
theorem Rw.start (d : List Kl) : Rw d [] 0 (List.replicate 256 0) := ⟨List.length_replicate .., fun _ _ h => absurd h (Nat.not_lt_zero _)⟩
theorem Rw.step {l d : List Kl} (hP : Parted l d) {ts rw : List Int} {j : Nat} (h : Rw d ts j rw) (hts : ts.length = j) (hj : j < d.length) (t : Int) : Rw d (ts ++ [t]) (j + 1) (fillR rw t (d[j]).by_) := by
 refine ⟨by rw [fillR_len, h.len], fun x hx hc => ?_⟩
 rw [fillR_at _ _ _ _ (by rw [h.len]; exact hx)]
 obtain ⟨hl, hh⟩ := cls_at hP hx
 by_cases e : clsOf d x = j
 · have hm : x ∈ (d[j]).by_ := Kl.mem_by.2 ⟨hx, by simp only [← e]; exact hh⟩
   rw [if_pos hm, e, List.getD_eq_getElem?_getD, List.getElem?_append_right (by omega), hts]
   simp
 · have hm : x ∉ (d[j]).by_ := fun hm => e (part_one hP hl hj hx hh (Kl.mem_by.1 hm).2)
   rw [if_neg hm, h.at_ x hx (by omega), List.getD_eq_getElem?_getD, List.getD_eq_getElem?_getD, List.getElem?_append_left (by omega)]
theorem Rw.done {l d : List Kl} (hP : Parted l d) {ts rw : List Int} (h : Rw d ts d.length rw) : rw = (List.range 256).map fun x => ts.getD (clsOf d x) 0 := by
 refine List.ext_getElem (by simp [h.len]) fun x h1 h2 => ?_
 have hx : x < 256 := by rw [h.len] at h1; exact h1
 obtain ⟨hl, _⟩ := cls_at hP hx
 have := h.at_ x hx hl
 rw [List.getD_eq_getElem?_getD, List.getElem?_eq_getElem h1] at this
 simpa using this
theorem nextOf_snoc (cls : Nat → Nat) (tss : List (List Int)) (ts : List Int) : nextOf cls (tss ++ [ts]) = nextOf cls tss ++ (List.range 256).map fun x => ts.getD (cls x) 0 := by simp [nextOf]
theorem rowB_app {most : Nat} {f : Nat → List Int} : ∀ (bs cs : List Nat) (T : Sets), rowB most f (bs ++ cs) T = match rowB most f bs T with
  | none => none
  | some (ts, T1) => match rowB most f cs T1 with
   | none => none
   | some (us, T2) => some (ts ++ us, T2)
 | [], cs, T => by
  simp only [List.nil_append, rowB]
  cases rowB most f cs T with
  | none => rfl
  | some p => rfl
 | b :: bs, cs, T => by
  simp only [List.cons_append, rowB]
  cases addS most T (f b) with
  | none => rfl
  | some p =>
   obtain ⟨t, T1⟩ := p
   simp only [rowB_app bs cs T1]
   cases rowB most f bs T1 with
   | none => rfl
   | some p =>
    obtain ⟨ts, T2⟩ := p
    simp only
    cases rowB most f cs T2 with
    | none => rfl
    | some p => rfl
theorem rowB_next {most : Nat} {f : Nat → List Int} {bs : List Nat} {j b : Nat} {T0 T1 T2 : Sets} {ts : List Int} {t : Int} (h : rowB most f (bs.take j) T0 = some (ts, T1)) (hb : bs[j]? = some b) (ha : addS most T1 (f b) = some (t, T2)) : rowB most f (bs.take (j + 1)) T0 = some (ts ++ [t], T2) := by
 obtain ⟨hj, rfl⟩ := List.getElem?_eq_some_iff.1 hb
 rw [List.take_succ_eq_append_getElem hj, rowB_app, h]
 simp only [rowB, ha]
theorem rowB_none {most : Nat} {f : Nat → List Int} {bs : List Nat} {j b : Nat} {T0 T1 : Sets} {ts : List Int} (h : rowB most f (bs.take j) T0 = some (ts, T1)) (hb : bs[j]? = some b) (ha : addS most T1 (f b) = none) : rowB most f bs T0 = none := by
 obtain ⟨hj, rfl⟩ := List.getElem?_eq_some_iff.1 hb
 have e : bs = bs.take j ++ bs[j] :: bs.drop (j + 1) := by
  rw [← List.drop_eq_getElem_cons hj, List.take_append_drop]
 rw [e, rowB_app, h]
 simp only [rowB, ha]
def BldS (most : Nat) (f : List Int → Nat → List Int) (lows : List Nat) (T0 : Sets) (i : Nat) (tss : List (List Int)) (T : Sets) : Prop :=
 bldB most f lows (most + 1) 0 T0 = match bldB most f lows (most + 1 - i) i T with
  | none => none
  | some (us, T2) => some (tss ++ us, T2)
theorem BldS.start (most : Nat) (f : List Int → Nat → List Int) (lows : List Nat) (T0 : Sets) : BldS most f lows T0 0 [] T0 := by
 unfold BldS
 rw [Nat.sub_zero]
 cases bldB most f lows (most + 1) 0 T0 with
 | none => rfl
 | some p => rfl
theorem BldS.next {most : Nat} {f : List Int → Nat → List Int} {lows : List Nat} {T0 T T1 : Sets} {i : Nat} {tss : List (List Int)} {ts : List Int} (h : BldS most f lows T0 i tss T) (hi : i < T.length) (hm : T.length ≤ most) (hr : rowB most (f (T.getD i [])) lows T = some (ts, T1)) : BldS most f lows T0 (i + 1) (tss ++ [ts]) T1 := by
 unfold BldS at *
 rw [h, show most + 1 - i = (most - i) + 1 by omega, bldB, if_pos hi, hr]
 simp only
 rw [show most + 1 - (i + 1) = most - i by omega]
 cases bldB most f lows (most - i) (i + 1) T1 with
 | none => rfl
 | some p => simp
theorem BldS.none {most : Nat} {f : List Int → Nat → List Int} {lows : List Nat} {T0 T : Sets} {i : Nat} {tss : List (List Int)} (h : BldS most f lows T0 i tss T) (hi : i < T.length) (hm : T.length ≤ most) (hr : rowB most (f (T.getD i [])) lows T = Option.none) : bldB most f lows (most + 1) 0 T0 = Option.none := by
 unfold BldS at h
 rw [h, show most + 1 - i = (most - i) + 1 by omega, bldB, if_pos hi, hr]
theorem BldS.done {most : Nat} {f : List Int → Nat → List Int} {lows : List Nat} {T0 T : Sets} {i : Nat} {tss : List (List Int)} (h : BldS most f lows T0 i tss T) (hi : ¬ i < T.length) (hm : i ≤ most) : bldB most f lows (most + 1) 0 T0 = some (tss, T) := by
 unfold BldS at h
 rw [h, show most + 1 - i = (most - i) + 1 by omega, bldB, if_neg hi]
 simp
theorem addS_sub {most : Nat} {T T1 : Sets} {S : List Int} {t : Int} (h : addS most T S = some (t, T1)) : ∀ U ∈ T1, U ∈ T ∨ U = S := by
 unfold addS at h
 split at h
 · cases h; exact fun U hU => .inl hU
 split at h
 · cases h; exact fun U hU => .inl hU
 split at h
 · cases h
 · cases h
   intro U hU
   rcases List.mem_append.1 hU with hU | hU
   · exact .inl hU
   · exact .inr (List.mem_singleton.1 hU)
end Go.Proofs.YtaadkdmbhckdeaaGreatDoor
