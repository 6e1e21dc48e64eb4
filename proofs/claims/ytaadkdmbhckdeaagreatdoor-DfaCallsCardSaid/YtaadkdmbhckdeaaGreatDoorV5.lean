/- Dfa: a table's run is the states' own: plain. -/
namespace Go.Proofs.YtaadkdmbhckdeaaGreatDoor
def cntS (s : Int) (ts : List Int) : Int := ts.foldl (fun a t => if t = a then a + 1 else a) s
theorem cntS_cons (s t : Int) (ts : List Int) : cntS s (t :: ts) = cntS (if t = s then s + 1 else s) ts := rfl
theorem cntS_ge : ∀ (ts : List Int) (s : Int), s ≤ cntS s ts
 | [], s => Int.le_refl s
 | t :: ts, s => by
  rw [cntS_cons]
  split
  · have := cntS_ge ts (s + 1); omega
  · exact cntS_ge ts s
def GoodT (s : Int) (ts : List Int) : Prop := ∀ j (h : j < ts.length), ts[j] ≤ cntS s (ts.take j)
structure Lay (lows : List Nat) (cls : Nat → Nat) : Prop where
 lt : ∀ x, x < 256 → cls x < lows.length
 le : ∀ x (h : x < 256), lows[cls x]'(lt x h) ≤ x
 low : ∀ j (h : j < lows.length), lows[j] < 256 ∧ cls lows[j] = j
 inc : ∀ i j (hi : i < lows.length) (hj : j < lows.length), i < j → lows[i] < lows[j]
def pre (lows : List Nat) (x : Nat) : Nat := (lows.filter (fun l => decide (l < x))).length
structure BldR (lows : List Nat) (cls : Nat → Nat) (m : Nat) (ts : Nat → List Int) (s : Nat → Int) (next : List Int) : Prop where
 s0 : s 0 = 1
 len : ∀ k, k < m → (ts k).length = lows.length
 good : ∀ k, k < m → GoodT (s k) (ts k)
 nxt : ∀ k, k < m → s (k + 1) = cntS (s k) (ts k)
 lt : ∀ k : Nat, k < m → (k : Int) < s k
 fin : s m = (m : Int)
 row : ∀ k, k < m → ∀ x, x < 256 → next.getD (256 * k + x) 0 = (ts k).getD (cls x) 0
abbrev Sets := List (List Int)
def addS (most : Nat) (T : Sets) (S : List Int) : Option (Int × Sets) :=
 if S = [] then some (-1, T)
 else if T.findIdx (fun U => U == S) < T.length then some ((T.findIdx (fun U => U == S) : Int), T)
 else if T.length = most then none
 else some ((T.length : Int), T ++ [S])
def rowB (most : Nat) (f : Nat → List Int) : List Nat → Sets → Option (List Int × Sets)
 | [], T => some ([], T)
 | b :: bs, T => match addS most T (f b) with
  | none => none
  | some (t, T1) => match rowB most f bs T1 with
   | none => none
   | some (ts, T2) => some (t :: ts, T2)
def bldB (most : Nat) (f : List Int → Nat → List Int) (lows : List Nat) : Nat → Nat → Sets → Option (List (List Int) × Sets)
 | 0, _, T => some ([], T)
 | n + 1, i, T => if i < T.length then
   match rowB most (f (T.getD i [])) lows T with
   | none => none
   | some (ts, T1) => match bldB most f lows n (i + 1) T1 with
    | none => none
    | some (tss, T2) => some (ts :: tss, T2)
  else some ([], T)
theorem addS_ok {most : Nat} {T T1 : Sets} {S : List Int} {t : Int} (h : addS most T S = some (t, T1)) (hm : T.length ≤ most) : t ≤ (T.length : Int) ∧ (T1.length : Int) = (if t = (T.length : Int) then (T.length : Int) + 1 else T.length) ∧ T1.length ≤ most ∧ -1 ≤ t ∧ t < T1.length ∧ ∃ R, T1 = T ++ R := by
 unfold addS at h
 split at h
 · obtain ⟨rfl, rfl⟩ : (-1 : Int) = t ∧ T = T1 := by simpa using h
   refine ⟨by omega, ?_, hm, by omega, by omega, [], by simp⟩
   rw [if_neg (by omega)]
 split at h
 · rename_i hlt
   obtain ⟨rfl, rfl⟩ : ((T.findIdx (fun U => U == S) : Nat) : Int) = t ∧ T = T1 := by simpa using h
   refine ⟨by omega, ?_, hm, by omega, by omega, [], by simp⟩
   rw [if_neg (by omega)]
 split at h
 · cases h
 · rename_i hne
   obtain ⟨rfl, rfl⟩ : (T.length : Int) = t ∧ T ++ [S] = T1 := by simpa using h
   refine ⟨by omega, ?_, by simp; omega, by omega, by simp; omega, [S], rfl⟩
   rw [if_pos rfl]
   simp
theorem rowB_ok {most : Nat} {f : Nat → List Int} : ∀ {bs : List Nat} {T T2 : Sets} {ts : List Int}, rowB most f bs T = some (ts, T2) → T.length ≤ most →
  ts.length = bs.length ∧ GoodT (T.length : Int) ts ∧ (T2.length : Int) = cntS (T.length : Int) ts ∧ T2.length ≤ most ∧ (∀ t ∈ ts, -1 ≤ t ∧ t < (T2.length : Int)) ∧ ∃ R, T2 = T ++ R
 | [], T, T2, ts, h, hm => by
  obtain ⟨rfl, rfl⟩ : [] = ts ∧ T = T2 := by simpa [rowB] using h
  exact ⟨rfl, fun j hj => by simp at hj, rfl, hm, fun t ht => by simp at ht, [], by simp⟩
 | b :: bs, T, T2, ts, h, hm => by
  unfold rowB at h
  cases h1 : addS most T (f b) with
  | none => rw [h1] at h; cases h
  | some p =>
   obtain ⟨t, T1⟩ := p
   rw [h1] at h
   dsimp only at h
   cases h2 : rowB most f bs T1 with
   | none => rw [h2] at h; cases h
   | some p =>
    obtain ⟨ts', T2'⟩ := p
    rw [h2] at h
    dsimp only at h
    obtain ⟨rfl, rfl⟩ : t :: ts' = ts ∧ T2' = T2 := by simpa using h
    obtain ⟨a1, a2, a3, a4, a5, R1, a6⟩ := addS_ok h1 hm
    obtain ⟨b1, b2, b3, b4, b5, R2, b6⟩ := rowB_ok h2 a3
    have hge := cntS_ge ts' (T1.length : Int)
    refine ⟨by simp [b1], fun j hj => ?_, ?_, b4, fun u hu => ?_, R1 ++ R2, by rw [b6, a6, List.append_assoc]⟩
    · cases j with
      | zero => exact a1
      | succ j =>
       have := b2 j (by simpa using hj)
       rw [List.take_succ_cons, cntS_cons, ← a2]
       exact this
    · rw [cntS_cons, ← a2]
      exact b3
    · rcases List.mem_cons.1 hu with rfl | hu
      · exact ⟨a4, by omega⟩
      · exact b5 u hu
def sOf (s : Int) (tss : List (List Int)) : Nat → Int
 | 0 => s
 | k + 1 => cntS (sOf s tss k) (tss.getD k [])
theorem sOf_cons (s : Int) (ts : List Int) (tss : List (List Int)) : ∀ k, sOf s (ts :: tss) (k + 1) = sOf (cntS s ts) tss k
 | 0 => rfl
 | k + 1 => by
  show cntS (sOf s (ts :: tss) (k + 1)) (tss.getD k []) = cntS (sOf (cntS s ts) tss k) (tss.getD k [])
  rw [sOf_cons s ts tss k]
theorem bldB_ok {most : Nat} {f : List Int → Nat → List Int} {lows : List Nat} : ∀ {n i : Nat} {T T2 : Sets} {tss : List (List Int)}, bldB most f lows n i T = some (tss, T2) → T.length ≤ most → i ≤ T.length → most < n + i →
  i + tss.length = T2.length ∧ T2.length ≤ most ∧ sOf T.length tss tss.length = (T2.length : Int) ∧ (∃ R, T2 = T ++ R) ∧ ∀ k, k < tss.length → (tss.getD k []).length = lows.length ∧ GoodT (sOf T.length tss k) (tss.getD k []) ∧ ((i + k : Nat) : Int) < sOf T.length tss k ∧ ∀ t ∈ tss.getD k [], -1 ≤ t ∧ t < (T2.length : Int)
 | 0, i, T, T2, tss, h, hm, hi, hn => by omega
 | n + 1, i, T, T2, tss, h, hm, hi, hn => by
  unfold bldB at h
  split at h
  · rename_i hlt
    cases h1 : rowB most (f (T.getD i [])) lows T with
    | none => rw [h1] at h; cases h
    | some p =>
     obtain ⟨ts, T1⟩ := p
     rw [h1] at h
     dsimp only at h
     cases h2 : bldB most f lows n (i + 1) T1 with
     | none => rw [h2] at h; cases h
     | some p =>
      obtain ⟨tss', T2'⟩ := p
      rw [h2] at h
      dsimp only at h
      obtain ⟨rfl, rfl⟩ : ts :: tss' = tss ∧ T2' = T2 := by simpa using h
      obtain ⟨a1, a2, a3, a4, a5, R1, a6⟩ := rowB_ok h1 hm
      have hle : T.length ≤ T1.length := by rw [a6, List.length_append]; omega
      obtain ⟨b1, b2, b3, ⟨R2, b4⟩, b5⟩ := bldB_ok h2 a4 (by omega) (by omega)
      have hle2 : T1.length ≤ T2'.length := by rw [b4, List.length_append]; omega
      refine ⟨by simp; omega, b2, ?_, ⟨R1 ++ R2, by rw [b4, a6, List.append_assoc]⟩, fun k hk => ?_⟩
      · rw [List.length_cons, sOf_cons, ← a3]
        exact b3
      · cases k with
        | zero =>
         refine ⟨a1, a2, (by show ((i + 0 : Nat) : Int) < (T.length : Int); omega), fun t ht => ?_⟩
         have := a5 t ht
         exact ⟨this.1, by omega⟩
        | succ k =>
         have := b5 k (by simpa using hk)
         rw [sOf_cons, ← a3]
         refine ⟨this.1, this.2.1, ?_, this.2.2.2⟩
         have h3 := this.2.2.1
         rw [show i + (k + 1) = i + 1 + k by omega]
         exact h3
  · rename_i hlt
    obtain ⟨rfl, rfl⟩ : [] = tss ∧ T = T2 := by simpa using h
    exact ⟨by simp; omega, hm, rfl, ⟨[], by simp⟩, fun k hk => by simp at hk⟩
def nextOf (cls : Nat → Nat) (tss : List (List Int)) : List Int := tss.flatMap fun ts => (List.range 256).map fun x => ts.getD (cls x) 0
theorem nextOf_len (cls : Nat → Nat) : ∀ tss : List (List Int), (nextOf cls tss).length = 256 * tss.length
 | [] => rfl
 | ts :: tss => by
  have ih := nextOf_len cls tss
  unfold nextOf at ih ⊢
  rw [List.flatMap_cons, List.length_append, ih]
  simp
  omega
def Tells (T : Sets) (S : List Int) (t : Int) : Prop := (S = [] ∧ t = -1) ∨ (S ≠ [] ∧ ∃ p : Nat, t = (p : Int) ∧ T[p]? = some S)
theorem Tells.more {T : Sets} {S : List Int} {t : Int} (h : Tells T S t) (R : Sets) : Tells (T ++ R) S t := by
 rcases h with h | ⟨h, p, h1, h2⟩
 · exact .inl h
 · exact .inr ⟨h, p, h1, by rw [List.getElem?_append_left (List.getElem?_eq_some_iff.1 h2).1]; exact h2⟩
theorem addS_tells {most : Nat} {T T1 : Sets} {S : List Int} {t : Int} (h : addS most T S = some (t, T1)) : Tells T1 S t := by
 unfold addS at h
 split at h
 · rename_i h0
   obtain ⟨rfl, rfl⟩ : (-1 : Int) = t ∧ T = T1 := by simpa using h
   exact .inl ⟨h0, rfl⟩
 rename_i h0
 split at h
 · rename_i hlt
   obtain ⟨rfl, rfl⟩ : ((T.findIdx (fun U => U == S) : Nat) : Int) = t ∧ T = T1 := by simpa using h
   refine .inr ⟨h0, _, rfl, ?_⟩
   have := List.findIdx_getElem (w := hlt)
   rw [List.getElem?_eq_getElem hlt]
   simpa using this
 split at h
 · cases h
 · obtain ⟨rfl, rfl⟩ : (T.length : Int) = t ∧ T ++ [S] = T1 := by simpa using h
   exact .inr ⟨h0, T.length, rfl, by simp⟩
theorem rowB_tells {most : Nat} {f : Nat → List Int} : ∀ {bs : List Nat} {T T2 : Sets} {ts : List Int}, rowB most f bs T = some (ts, T2) → T.length ≤ most → ∀ j b, bs[j]? = some b → Tells T2 (f b) (ts.getD j 0)
 | [], _, _, _, _, _, j, b, hb => by simp at hb
 | b :: bs, T, T2, ts, h, hm, j, c, hc => by
  unfold rowB at h
  cases h1 : addS most T (f b) with
  | none => rw [h1] at h; cases h
  | some p =>
   obtain ⟨t, T1⟩ := p
   rw [h1] at h
   dsimp only at h
   cases h2 : rowB most f bs T1 with
   | none => rw [h2] at h; cases h
   | some p =>
    obtain ⟨ts', T2'⟩ := p
    rw [h2] at h
    dsimp only at h
    obtain ⟨rfl, rfl⟩ : t :: ts' = ts ∧ T2' = T2 := by simpa using h
    have a3 := (addS_ok h1 hm).2.2.1
    obtain ⟨_, _, _, _, _, R2, b6⟩ := rowB_ok h2 a3
    cases j with
    | zero =>
     obtain rfl : b = c := by simpa using hc
     rw [b6]
     exact (addS_tells h1).more R2
    | succ j => exact rowB_tells h2 a3 j c (by simpa using hc)
def stepF (n : Nat) (nx : List (List Int)) (has : Nat → Nat → Bool) (S : List Int) (b : Nat) : List Int :=
 ((List.range n).filter fun t : Nat => S.any (fun k => (nx.getD k.toNat []).contains (t : Int)) && has t b).map fun t : Nat => (t : Int)
theorem stepF_alike {n : Nat} {nx : List (List Int)} {has : Nat → Nat → Bool} {b c : Nat} (h : ∀ t, t < n → has t b = has t c) (S : List Int) : stepF n nx has S b = stepF n nx has S c := by
 unfold stepF
 congr 1
 exact List.filter_congr fun t ht => by rw [h t (List.mem_range.1 ht)]
def ruleK (ru : List Int) (out k : Int) : Int := if 0 ≤ k ∧ k < (ru.length : Int) then (if 0 ≤ ru.getD k.toNat (-1) ∧ (out < 0 ∨ ru.getD k.toNat (-1) < out) then ru.getD k.toNat (-1) else out) else out
def ruleF (ru : List Int) (S : List Int) : Int := S.foldl (ruleK ru) (-1)
def rulesOf (ru : List Int) (T : Sets) : List Int := T.map (ruleF ru)
end Go.Proofs.YtaadkdmbhckdeaaGreatDoor
