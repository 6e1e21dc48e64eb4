/- Dfa: a table's run is the states' own: plain. -/
namespace Go.Proofs.YtaadkdmbhckdeaaDoor
/-- How many states there are behind some answers, s ahead of them: an answer s itself is a new one. -/
def cntS (s : Int) (ts : List Int) : Int := ts.foldl (fun a t => if t = a then a + 1 else a) s
theorem cntS_cons (s t : Int) (ts : List Int) : cntS s (t :: ts) = cntS (if t = s then s + 1 else s) ts := rfl
theorem cntS_app (s : Int) (a b : List Int) : cntS s (a ++ b) = cntS (cntS s a) b := by simp [cntS]
theorem cntS_ge : ∀ (ts : List Int) (s : Int), s ≤ cntS s ts
  | [], s => Int.le_refl s
  | t :: ts, s => by
    rw [cntS_cons]
    split
    · have := cntS_ge ts (s + 1); omega
    · exact cntS_ge ts s
/-- No answer is beyond the next new state. -/
def GoodT (s : Int) (ts : List Int) : Prop := ∀ j (h : j < ts.length), ts[j] ≤ cntS s (ts.take j)
theorem cntS_take (s : Int) (ts : List Int) (j : Nat) (h : j < ts.length) : cntS s (ts.take (j + 1)) = if ts[j] = cntS s (ts.take j) then cntS s (ts.take j) + 1 else cntS s (ts.take j) := by
  rw [List.take_succ_eq_append_getElem h, cntS_app]
  rfl
theorem cntS_mono (s : Int) (ts : List Int) {i j : Nat} (h : i ≤ j) : cntS s (ts.take i) ≤ cntS s (ts.take j) := by
  have e : ts.take j = ts.take i ++ (ts.take j).drop i := by
    conv => lhs; rw [← List.take_append_drop i (ts.take j)]
    rw [List.take_take, Nat.min_eq_left h]
  rw [e, cntS_app]
  exact cntS_ge _ _
/-- Bytes' classes, by their least bytes. -/
structure Lay (lows : List Nat) (cls : Nat → Nat) : Prop where
  lt : ∀ x, x < 256 → cls x < lows.length
  le : ∀ x (h : x < 256), lows[cls x]'(lt x h) ≤ x
  low : ∀ j (h : j < lows.length), lows[j] < 256 ∧ cls lows[j] = j
  inc : ∀ i j (hi : i < lows.length) (hj : j < lows.length), i < j → lows[i] < lows[j]
/-- How many classes begin ahead of a byte. -/
def pre (lows : List Nat) (x : Nat) : Nat := (lows.filter (fun l => decide (l < x))).length
theorem pre_iff {lows : List Nat} (h : ∀ i j (hi : i < lows.length) (hj : j < lows.length), i < j → lows[i] < lows[j]) (x : Nat) : ∀ j (hj : j < lows.length), (lows[j] < x ↔ j < pre lows x) := by
  induction lows with
  | nil => intro j hj; simp at hj
  | cons l ls ih =>
    have h' : ∀ i j (hi : i < ls.length) (hj : j < ls.length), i < j → ls[i] < ls[j] := fun i j hi hj hij => by
      have := h (i + 1) (j + 1) (by simp; omega) (by simp; omega) (by omega)
      simpa using this
    intro j hj
    by_cases hl : l < x
    · have e : pre (l :: ls) x = pre ls x + 1 := by simp [pre, hl]
      rw [e]
      cases j with
      | zero => simp [hl]
      | succ j =>
        have := ih h' j (by simpa using hj)
        simp only [List.getElem_cons_succ]
        rw [this]
        omega
    · have e : pre (l :: ls) x = 0 := by
        unfold pre
        rw [List.filter_eq_nil_iff.2]
        · rfl
        · intro a ha
          simp only [decide_eq_true_eq]
          rcases List.mem_cons.1 ha with rfl | ha
          · exact hl
          · obtain ⟨k, hk, rfl⟩ := List.getElem_of_mem ha
            have := h 0 (k + 1) (by simp) (by simp; omega) (by omega)
            simp only [List.getElem_cons_zero, List.getElem_cons_succ] at this
            omega
      rw [e]
      cases j with
      | zero => simp [hl]
      | succ j =>
        have := h 0 (j + 1) (by simp) hj (by omega)
        simp only [List.getElem_cons_zero] at this
        constructor
        · intro h2; omega
        · intro h2; omega
theorem pre_le (lows : List Nat) (x : Nat) : pre lows x ≤ lows.length := List.length_filter_le _ _
/-- The greatest state that was met ahead of byte x of a row. -/
def fndR (R : Nat → Int) (f : Int) : Nat → Int
  | 0 => f
  | x + 1 => max (fndR R f x) (R x)
theorem row_scan {lows : List Nat} {cls : Nat → Nat} (L : Lay lows cls) {s : Int} {ts : List Int} (hl : ts.length = lows.length) (hg : GoodT s ts) (R : Nat → Int) (hR : ∀ x (h : x < 256), R x = ts[cls x]'(by rw [hl]; exact L.lt x h)) :
    ∀ x, x ≤ 256 → fndR R (s - 1) x = cntS s (ts.take (pre lows x)) - 1 ∧ (x < 256 → R x ≤ fndR R (s - 1) x + 1)
  | 0, _ => by
    have e : pre lows 0 = 0 := by unfold pre; rw [List.filter_eq_nil_iff.2]; · rfl
                                  · intro a _; simp
    refine ⟨by rw [e]; simp [fndR, cntS], fun h => ?_⟩
    have h0 := hR 0 h
    have hle := L.le 0 h
    have hlow := (L.low (cls 0) (L.lt 0 h)).2
    have hz : cls 0 = 0 := by
      by_cases hc : cls 0 = 0
      · exact hc
      · have := L.inc 0 (cls 0) (by have := L.lt 0 h; omega) (L.lt 0 h) (by omega)
        omega
    rw [h0]
    have := hg (cls 0) (by rw [hl]; exact L.lt 0 h)
    simp only [hz] at this ⊢
    have e0 : cntS s (ts.take 0) = s := rfl
    rw [e0] at this
    have e1 : fndR R (s - 1) 0 = s - 1 := rfl
    rw [e1]
    omega
  | x + 1, hx => by
    obtain ⟨ih, ihr⟩ := row_scan L hl hg R hR x (by omega)
    have hx2 : x < 256 := by omega
    have step : ∀ y, y < 256 → ∀ F : Int, F = cntS s (ts.take (pre lows y)) - 1 → R y ≤ F + 1 ∧ max F (R y) = cntS s (ts.take (pre lows (y + 1))) - 1 := by
      intro y hy F hF
      have hj := L.lt y hy
      have hle := L.le y hy
      have hjl : cls y < ts.length := by rw [hl]; exact hj
      have hRy := hR y hy
      have hgj := hg (cls y) hjl
      have hct := cntS_take s ts (cls y) hjl
      by_cases he : lows[cls y] = y
      · have p1 : pre lows y = cls y := by
          have a1 := (pre_iff L.inc y (cls y) hj)
          rw [he] at a1
          have n1 : ¬ cls y < pre lows y := fun h => absurd (a1.2 h) (Nat.lt_irrefl y)
          by_cases hc : pre lows y < cls y
          · have a2 := (pre_iff L.inc y (pre lows y) (by omega))
            have a3 := L.inc (pre lows y) (cls y) (by omega) hj hc
            rw [he] at a3
            exact absurd (a2.1 a3) (Nat.lt_irrefl _)
          · omega
        have p2 : pre lows (y + 1) = cls y + 1 := by
          have a1 := (pre_iff L.inc (y + 1) (cls y) hj)
          rw [he] at a1
          have n1 : cls y < pre lows (y + 1) := a1.1 (by omega)
          by_cases hc : cls y + 1 < pre lows (y + 1)
          · have hlen : cls y + 1 < lows.length := by have := pre_le lows (y + 1); omega
            have a2 := (pre_iff L.inc (y + 1) (cls y + 1) hlen).2 hc
            have a3 := L.inc (cls y) (cls y + 1) hj hlen (by omega)
            rw [he] at a3
            omega
          · omega
        rw [hF, p1, p2, hRy, hct]
        constructor
        · omega
        · split <;> omega
      · have hlt : lows[cls y] < y := by omega
        have hp := (pre_iff L.inc y (cls y) hj).1 hlt
        have p2 : pre lows (y + 1) = pre lows y := by
          have hge : pre lows y ≤ pre lows (y + 1) := by
            by_cases hc : pre lows (y + 1) < pre lows y
            · have hlen : pre lows (y + 1) < lows.length := by have := pre_le lows y; omega
              have a2 := (pre_iff L.inc y (pre lows (y + 1)) hlen).2 hc
              have a3 := (pre_iff L.inc (y + 1) (pre lows (y + 1)) hlen).1 (by omega)
              exact absurd a3 (Nat.lt_irrefl _)
            · omega
          by_cases hc : pre lows y < pre lows (y + 1)
          · have hlen : pre lows y < lows.length := by have := pre_le lows (y + 1); omega
            have a2 := (pre_iff L.inc (y + 1) (pre lows y) hlen).2 hc
            have a3 : ¬ lows[pre lows y] < y := fun h => absurd ((pre_iff L.inc y (pre lows y) hlen).1 h) (Nat.lt_irrefl _)
            have e : lows[pre lows y] = y := by omega
            have h4 := (L.low (pre lows y) hlen).2
            rw [e] at h4
            simp only [← h4] at e
            exact absurd e (by
              have := hlt
              omega)
          · omega
        have hm := cntS_mono s ts (i := cls y + 1) (j := pre lows y) (by omega)
        have hlt2 : ts[cls y] < cntS s (ts.take (cls y + 1)) := by rw [hct]; split <;> omega
        rw [p2, hF, hRy]
        constructor
        · omega
        · omega
    have e1 : fndR R (s - 1) (x + 1) = cntS s (ts.take (pre lows (x + 1))) - 1 := by
      show max (fndR R (s - 1) x) (R x) = _
      exact (step x hx2 _ ih).2
    exact ⟨e1, fun h => (step (x + 1) h _ e1).1⟩
end Go.Proofs.YtaadkdmbhckdeaaDoor

namespace Go.Proofs.YtaadkdmbhckdeaaDoor
/-- The greatest state that was met ahead of place i. -/
def fnd (next : List Int) : Nat → Int
  | 0 => 0
  | i + 1 => max (fnd next i) (next.getD i 0)
theorem fnd_row (next : List Int) (i : Nat) : ∀ x, fnd next (i + x) = fndR (fun x => next.getD (i + x) 0) (fnd next i) x
  | 0 => rfl
  | x + 1 => by
    show max (fnd next (i + x)) (next.getD (i + x) 0) = max _ _
    rw [fnd_row next i x]
/-- Rows as they come to be: ts k are the answers of row k's classes, s k how many states there are ahead of it. -/
structure BldR (lows : List Nat) (cls : Nat → Nat) (m : Nat) (ts : Nat → List Int) (s : Nat → Int) (next : List Int) : Prop where
  s0 : s 0 = 1
  len : ∀ k, k < m → (ts k).length = lows.length
  good : ∀ k, k < m → GoodT (s k) (ts k)
  nxt : ∀ k, k < m → s (k + 1) = cntS (s k) (ts k)
  lt : ∀ k : Nat, k < m → (k : Int) < s k
  fin : s m = (m : Int)
  row : ∀ k, k < m → ∀ x, x < 256 → next.getD (256 * k + x) 0 = (ts k).getD (cls x) 0
theorem pre_all {lows : List Nat} (h : ∀ j (hj : j < lows.length), lows[j] < 256) : pre lows 256 = lows.length := by
  unfold pre
  rw [List.filter_eq_self.2]
  intro a ha
  obtain ⟨k, hk, rfl⟩ := List.getElem_of_mem ha
  exact decide_eq_true (h k hk)
theorem fnd_rows {lows : List Nat} {cls : Nat → Nat} (L : Lay lows cls) {m : Nat} {ts : Nat → List Int} {s : Nat → Int} {next : List Int} (B : BldR lows cls m ts s next) :
    ∀ k, k ≤ m → fnd next (256 * k) = s k - 1
  | 0, _ => by rw [B.s0]; rfl
  | k + 1, hk => by
    have ih := fnd_rows L B k (by omega)
    have hlen := B.len k (by omega)
    have hs := (row_scan L hlen (B.good k (by omega)) (fun x => next.getD (256 * k + x) 0) (fun x hx => by
      show next.getD (256 * k + x) 0 = _
      rw [B.row k (by omega) x hx, List.getD_eq_getElem?_getD, List.getElem?_eq_getElem (by rw [hlen]; exact L.lt x hx)]
      rfl) 256 (Nat.le_refl _)).1
    rw [show 256 * (k + 1) = 256 * k + 256 by omega, fnd_row, ih, hs, pre_all (fun j hj => (L.low j hj).1), ← hlen, List.take_length, B.nxt k (by omega)]
theorem fndR_ge (R : Nat → Int) (f : Int) : ∀ x, f ≤ fndR R f x
  | 0 => Int.le_refl _
  | x + 1 => by
    have := fndR_ge R f x
    show f ≤ max _ _
    omega
/-- What the law asks at each place. -/
theorem fnd_ok {lows : List Nat} {cls : Nat → Nat} (L : Lay lows cls) {m : Nat} {ts : Nat → List Int} {s : Nat → Int} {next : List Int} (B : BldR lows cls m ts s next) (i : Nat) (hi : i < 256 * m) :
    next.getD i 0 ≤ fnd next i + 1 ∧ ((i / 256 : Nat) : Int) ≤ fnd next i := by
  obtain ⟨k, x, hx, rfl⟩ : ∃ k x, x < 256 ∧ i = 256 * k + x := ⟨i / 256, i % 256, Nat.mod_lt _ (by decide), by omega⟩
  have hk : k < m := by omega
  have ih := fnd_rows L B k (by omega)
  have hlen := B.len k hk
  have hs := (row_scan L hlen (B.good k hk) (fun x => next.getD (256 * k + x) 0) (fun x hx => by
      show next.getD (256 * k + x) 0 = _
      rw [B.row k hk x hx, List.getD_eq_getElem?_getD, List.getElem?_eq_getElem (by rw [hlen]; exact L.lt x hx)]
      rfl) x (by omega)).2 hx
  have hge := fndR_ge (fun x => next.getD (256 * k + x) 0) (s k - 1) x
  have hlt := B.lt k hk
  rw [fnd_row, ih]
  refine ⟨hs, ?_⟩
  rw [show (256 * k + x) / 256 = k by omega]
  omega
theorem fnd_end {lows : List Nat} {cls : Nat → Nat} (L : Lay lows cls) {m : Nat} {ts : Nat → List Int} {s : Nat → Int} {next : List Int} (B : BldR lows cls m ts s next) : fnd next (256 * m) = (m : Int) - 1 := by
  rw [fnd_rows L B m (Nat.le_refl _), B.fin]
end Go.Proofs.YtaadkdmbhckdeaaDoor

namespace Go.Proofs.YtaadkdmbhckdeaaDoor
abbrev Sets := List (List Int)
/-- The state of a set; none: there would be too many. -/
def addS (most : Nat) (T : Sets) (S : List Int) : Option (Int × Sets) :=
  if S = [] then some (-1, T)
  else if T.findIdx (fun U => U == S) < T.length then some ((T.findIdx (fun U => U == S) : Int), T)
  else if T.length = most then none
  else some ((T.length : Int), T ++ [S])
/-- The states behind a state, by each class's least byte. -/
def rowB (most : Nat) (f : Nat → List Int) : List Nat → Sets → Option (List Int × Sets)
  | [], T => some ([], T)
  | b :: bs, T => match addS most T (f b) with
    | none => none
    | some (t, T1) => match rowB most f bs T1 with
      | none => none
      | some (ts, T2) => some (t :: ts, T2)
/-- All rows from place i on. -/
def bldB (most : Nat) (f : List Int → Nat → List Int) (lows : List Nat) : Nat → Nat → Sets → Option (List (List Int) × Sets)
  | 0, _, T => some ([], T)
  | n + 1, i, T => if i < T.length then
      match rowB most (f (T.getD i [])) lows T with
      | none => none
      | some (ts, T1) => match bldB most f lows n (i + 1) T1 with
        | none => none
        | some (tss, T2) => some (ts :: tss, T2)
    else some ([], T)
theorem addS_ok {most : Nat} {T T1 : Sets} {S : List Int} {t : Int} (h : addS most T S = some (t, T1)) (hm : T.length ≤ most) : t ≤ (T.length : Int) ∧ (T1.length : Int) = (if t = (T.length : Int) then (T.length : Int) + 1 else T.length) ∧ T1.length ≤ most ∧ -1 ≤ t ∧ t < T1.length ∧ ∃ R, T1 = T ++ R := by
  unfold addS at h
  split at h
  · obtain ⟨rfl, rfl⟩ : (-1 : Int) = t ∧ T = T1 := by simpa using h
    refine ⟨by omega, ?_, hm, by omega, by omega, [], by simp⟩
    rw [if_neg (by omega)]
  split at h
  · rename_i hlt
    obtain ⟨rfl, rfl⟩ : ((T.findIdx (fun U => U == S) : Nat) : Int) = t ∧ T = T1 := by simpa using h
    refine ⟨by omega, ?_, hm, by omega, by omega, [], by simp⟩
    rw [if_neg (by omega)]
  split at h
  · cases h
  · rename_i hne
    obtain ⟨rfl, rfl⟩ : (T.length : Int) = t ∧ T ++ [S] = T1 := by simpa using h
    refine ⟨by omega, ?_, by simp; omega, by omega, by simp; omega, [S], rfl⟩
    rw [if_pos rfl]
    simp
theorem rowB_ok {most : Nat} {f : Nat → List Int} : ∀ {bs : List Nat} {T T2 : Sets} {ts : List Int}, rowB most f bs T = some (ts, T2) → T.length ≤ most →
    ts.length = bs.length ∧ GoodT (T.length : Int) ts ∧ (T2.length : Int) = cntS (T.length : Int) ts ∧ T2.length ≤ most ∧ (∀ t ∈ ts, -1 ≤ t ∧ t < (T2.length : Int)) ∧ ∃ R, T2 = T ++ R
  | [], T, T2, ts, h, hm => by
    obtain ⟨rfl, rfl⟩ : [] = ts ∧ T = T2 := by simpa [rowB] using h
    exact ⟨rfl, fun j hj => by simp at hj, rfl, hm, fun t ht => by simp at ht, [], by simp⟩
  | b :: bs, T, T2, ts, h, hm => by
    unfold rowB at h
    cases h1 : addS most T (f b) with
    | none => rw [h1] at h; cases h
    | some p =>
      obtain ⟨t, T1⟩ := p
      rw [h1] at h
      dsimp only at h
      cases h2 : rowB most f bs T1 with
      | none => rw [h2] at h; cases h
      | some p =>
        obtain ⟨ts', T2'⟩ := p
        rw [h2] at h
        dsimp only at h
        obtain ⟨rfl, rfl⟩ : t :: ts' = ts ∧ T2' = T2 := by simpa using h
        obtain ⟨a1, a2, a3, a4, a5, R1, a6⟩ := addS_ok h1 hm
        obtain ⟨b1, b2, b3, b4, b5, R2, b6⟩ := rowB_ok h2 a3
        have hge := cntS_ge ts' (T1.length : Int)
        refine ⟨by simp [b1], fun j hj => ?_, ?_, b4, fun u hu => ?_, R1 ++ R2, by rw [b6, a6, List.append_assoc]⟩
        · cases j with
          | zero => exact a1
          | succ j =>
            have := b2 j (by simpa using hj)
            rw [List.take_succ_cons, cntS_cons, ← a2]
            exact this
        · rw [cntS_cons, ← a2]
          exact b3
        · rcases List.mem_cons.1 hu with rfl | hu
          · exact ⟨a4, by omega⟩
          · exact b5 u hu
/-- How many states there are ahead of row k. -/
def sOf (s : Int) (tss : List (List Int)) : Nat → Int
  | 0 => s
  | k + 1 => cntS (sOf s tss k) (tss.getD k [])
theorem sOf_cons (s : Int) (ts : List Int) (tss : List (List Int)) : ∀ k, sOf s (ts :: tss) (k + 1) = sOf (cntS s ts) tss k
  | 0 => rfl
  | k + 1 => by
    show cntS (sOf s (ts :: tss) (k + 1)) (tss.getD k []) = cntS (sOf (cntS s ts) tss k) (tss.getD k [])
    rw [sOf_cons s ts tss k]
theorem bldB_ok {most : Nat} {f : List Int → Nat → List Int} {lows : List Nat} : ∀ {n i : Nat} {T T2 : Sets} {tss : List (List Int)}, bldB most f lows n i T = some (tss, T2) → T.length ≤ most → i ≤ T.length → most < n + i →
    i + tss.length = T2.length ∧ T2.length ≤ most ∧ sOf T.length tss tss.length = (T2.length : Int) ∧ (∃ R, T2 = T ++ R) ∧ ∀ k, k < tss.length → (tss.getD k []).length = lows.length ∧ GoodT (sOf T.length tss k) (tss.getD k []) ∧ ((i + k : Nat) : Int) < sOf T.length tss k ∧ ∀ t ∈ tss.getD k [], -1 ≤ t ∧ t < (T2.length : Int)
  | 0, i, T, T2, tss, h, hm, hi, hn => by omega
  | n + 1, i, T, T2, tss, h, hm, hi, hn => by
    unfold bldB at h
    split at h
    · rename_i hlt
      cases h1 : rowB most (f (T.getD i [])) lows T with
      | none => rw [h1] at h; cases h
      | some p =>
        obtain ⟨ts, T1⟩ := p
        rw [h1] at h
        dsimp only at h
        cases h2 : bldB most f lows n (i + 1) T1 with
        | none => rw [h2] at h; cases h
        | some p =>
          obtain ⟨tss', T2'⟩ := p
          rw [h2] at h
          dsimp only at h
          obtain ⟨rfl, rfl⟩ : ts :: tss' = tss ∧ T2' = T2 := by simpa using h
          obtain ⟨a1, a2, a3, a4, a5, R1, a6⟩ := rowB_ok h1 hm
          have hle : T.length ≤ T1.length := by rw [a6, List.length_append]; omega
          obtain ⟨b1, b2, b3, ⟨R2, b4⟩, b5⟩ := bldB_ok h2 a4 (by omega) (by omega)
          have hle2 : T1.length ≤ T2'.length := by rw [b4, List.length_append]; omega
          refine ⟨by simp; omega, b2, ?_, ⟨R1 ++ R2, by rw [b4, a6, List.append_assoc]⟩, fun k hk => ?_⟩
          · rw [List.length_cons, sOf_cons, ← a3]
            exact b3
          · cases k with
            | zero =>
              refine ⟨a1, a2, (by show ((i + 0 : Nat) : Int) < (T.length : Int); omega), fun t ht => ?_⟩
              have := a5 t ht
              exact ⟨this.1, by omega⟩
            | succ k =>
              have := b5 k (by simpa using hk)
              rw [sOf_cons, ← a3]
              refine ⟨this.1, this.2.1, ?_, this.2.2.2⟩
              have h3 := this.2.2.1
              rw [show i + (k + 1) = i + 1 + k by omega]
              exact h3
    · rename_i hlt
      obtain ⟨rfl, rfl⟩ : [] = tss ∧ T = T2 := by simpa using h
      exact ⟨by simp; omega, hm, rfl, ⟨[], by simp⟩, fun k hk => by simp at hk⟩
/-- The table's row of numbers. -/
def nextOf (cls : Nat → Nat) (tss : List (List Int)) : List Int := tss.flatMap fun ts => (List.range 256).map fun x => ts.getD (cls x) 0
theorem nextOf_at (cls : Nat → Nat) : ∀ (tss : List (List Int)) (k x : Nat), k < tss.length → x < 256 → (nextOf cls tss).getD (256 * k + x) 0 = (tss.getD k []).getD (cls x) 0
  | [], _, _, h, _ => by simp at h
  | ts :: tss, 0, x, _, hx => by
    unfold nextOf
    rw [List.flatMap_cons, List.getD_eq_getElem?_getD, List.getElem?_append_left (by simp; omega)]
    simp [hx]
  | ts :: tss, k + 1, x, h, hx => by
    have ih := nextOf_at cls tss k x (by simpa using h) hx
    unfold nextOf at ih ⊢
    rw [List.flatMap_cons, List.getD_eq_getElem?_getD, List.getElem?_append_right (by simp; omega), ← List.getD_eq_getElem?_getD]
    rw [show 256 * (k + 1) + x - ((List.range 256).map fun x => ts.getD (cls x) 0).length = 256 * k + x by simp; omega]
    exact ih
theorem nextOf_len (cls : Nat → Nat) : ∀ tss : List (List Int), (nextOf cls tss).length = 256 * tss.length
  | [] => rfl
  | ts :: tss => by
    have ih := nextOf_len cls tss
    unfold nextOf at ih ⊢
    rw [List.flatMap_cons, List.length_append, ih]
    simp
    omega
theorem bld_r {most : Nat} {f : List Int → Nat → List Int} {lows : List Nat} (cls : Nat → Nat) {S0 : List Int} {tss : List (List Int)} {T : Sets} (h : bldB most f lows (most + 1) 0 [S0] = some (tss, T)) (hm : 1 ≤ most) :
    BldR lows cls T.length (fun k => tss.getD k []) (sOf 1 tss) (nextOf cls tss) ∧ tss.length = T.length := by
  obtain ⟨h1, h2, h3, _, h5⟩ := bldB_ok h (by simpa using hm) (by simp) (by omega)
  rw [Nat.zero_add] at h1
  simp only [List.length_cons, List.length_nil, Nat.zero_add] at h3 h5
  refine ⟨⟨rfl, fun k hk => (h5 k (by omega)).1, fun k hk => (h5 k (by omega)).2.1, fun k hk => rfl, fun k hk => by have := (h5 k (by omega)).2.2.1; simpa using this, ?_, fun k hk x hx => nextOf_at cls tss k x (by omega) hx⟩, h1⟩
  rw [← h1]
  exact h3.trans (by rw [h1])
end Go.Proofs.YtaadkdmbhckdeaaDoor

namespace Go.Proofs.YtaadkdmbhckdeaaDoor
/-- Number t tells set S. -/
def Tells (T : Sets) (S : List Int) (t : Int) : Prop := (S = [] ∧ t = -1) ∨ (S ≠ [] ∧ ∃ p : Nat, t = (p : Int) ∧ T[p]? = some S)
theorem Tells.more {T : Sets} {S : List Int} {t : Int} (h : Tells T S t) (R : Sets) : Tells (T ++ R) S t := by
  rcases h with h | ⟨h, p, h1, h2⟩
  · exact .inl h
  · exact .inr ⟨h, p, h1, by rw [List.getElem?_append_left (List.getElem?_eq_some_iff.1 h2).1]; exact h2⟩
/-! Less room. -/
end Go.Proofs.YtaadkdmbhckdeaaDoor

namespace Go.Proofs.YtaadkdmbhckdeaaDoor
/-- The states behind some by a byte, rising. -/
def stepF (n : Nat) (nx : List (List Int)) (has : Nat → Nat → Bool) (S : List Int) (b : Nat) : List Int :=
  ((List.range n).filter fun t : Nat => S.any (fun k => (nx.getD k.toNat []).contains (t : Int)) && has t b).map fun t : Nat => (t : Int)
/-- The least rule of some states. -/
def ruleK (ru : List Int) (out k : Int) : Int := if 0 ≤ k ∧ k < (ru.length : Int) then (if 0 ≤ ru.getD k.toNat (-1) ∧ (out < 0 ∨ ru.getD k.toNat (-1) < out) then ru.getD k.toNat (-1) else out) else out
def ruleF (ru : List Int) (S : List Int) : Int := S.foldl (ruleK ru) (-1)
/-- The rules of a table. -/
def rulesOf (ru : List Int) (T : Sets) : List Int := T.map (ruleF ru)
end Go.Proofs.YtaadkdmbhckdeaaDoor
