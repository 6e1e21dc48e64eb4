/- AX, part 11f: keys of several ints. -/
import Derived.Test.YtnlieipdeepemaaGreatDoorAx11
namespace Go.Proofs.YtnlieipdeepemaaGreatDoor.AX
open Go
variable {P : Program} {σ : Sig} {w : World} {pr : Pr} {hp : Hp}

theorem numsOf_cons (v : AV) (l : List AV) : numsOf (v :: l) = (match numOf v, numsOf l with
    | some n, some r => some (n :: r)
    | _, _ => none) := rfl
theorem numOf_eq {v : AV} {n : Int} (h : numOf v = some n) : v = .int .i64 n := by
  unfold numOf at h
  split at h
  · cases h; rfl
  · cases h
theorem numsOf_eq : ∀ {l : List AV} {x : List Int}, numsOf l = some x → l = x.map (AV.int .i64)
  | [], x, h => by cases h; rfl
  | v :: l, x, h => by
    rw [numsOf_cons] at h
    split at h
    · rename_i n r h1 h2
      cases h
      rw [List.map_cons, numOf_eq h1, numsOf_eq h2]
    · cases h
theorem eqL_cons (a b : Int) (l m : List Int) : eqL (a :: l) (b :: m) = (Bool.rec false (eqL l m) (eqI a b) : Bool) := rfl
theorem eqL_eq : ∀ (l m : List Int), eqL l m = decide (l = m)
  | [], [] => by simp [eqL]
  | [], _ :: _ => by simp [eqL]
  | _ :: _, [] => by simp [eqL]
  | a :: l, b :: m => by
    rw [eqL_cons, eqI_eq, eqL_eq l m]
    by_cases h : a = b
    · subst h; simp
    · have : (a == b) = false := by simpa using h
      rw [this]
      simp [h]
/-- A flat value, of the type's own make. -/
def flatV (P : Program) (t : TypeId) (x : List Int) : Option AV :=
  match isAggT P t with
  | some true => some (.agg (x.map (AV.int .i64)))
  | some false => (x.map (AV.int .i64))[0]?
  | none => none
theorem flat_size {d : Nat} {t : TypeId} {n : Nat} (h : flatI P d t = some n) : (isAggT P t = some true) ∨ (isAggT P t = some false ∧ n = 1 ∧ P.underlying t = some (.int .i64)) := by
  cases d with
  | zero => cases h
  | succ d =>
    unfold flatI at h
    split at h
    · rename_i hu
      split at h
      · cases h; exact .inr ⟨by simp [isAggT, hu], rfl, hu⟩
      · cases h
    · rename_i hu; exact .inl (by simp [isAggT, hu])
    · rename_i hu; exact .inl (by simp [isAggT, hu])
    · cases h
theorem part_flat {d : Nat} {t : TypeId} {n off : Nat} {cs : List Int} (h : flatI P d t = some n) (hz : sizeT P t = some n) (hn : 0 < n ∨ isAggT P t = some true) (hle : off + n ≤ cs.length) :
    partA P t (cs.map (AV.int .i64)) off = flatV P t ((cs.drop off).take n) := by
  unfold partA flatV
  rcases flat_size h with ha | ⟨ha, rfl, _⟩
  · rw [ha, hz]
    simp [List.map_drop, List.map_take]
  · rw [ha]
    simp only [List.getElem?_map, List.getElem?_take]
    simp
theorem both_some' {f : AV → AV → Option Bool} {a b : AV} : both f (some a) (some b) = f a b := rfl
theorem flat_some {d : Nat} {t : TypeId} {n : Nat} {x : List Int} (h : flatI P d t = some n) (hx : x.length = n) : ∃ a, flatV P t x = some a := by
  unfold flatV
  rcases flat_size h with ha | ⟨ha, rfl, _⟩
  · rw [ha]; exact ⟨_, rfl⟩
  · rw [ha]
    cases x with
    | nil => simp at hx
    | cons v l => exact ⟨_, rfl⟩
theorem take_split {x y : List Int} (off k m : Nat) : (x.drop off).take (k + m) = (y.drop off).take (k + m) ↔ (x.drop off).take k = (y.drop off).take k ∧ (x.drop (off + k)).take m = (y.drop (off + k)).take m := by
  have e : ∀ z : List Int, (z.drop off).take (k + m) = (z.drop off).take k ++ (z.drop (off + k)).take m := fun z => by
    rw [List.take_add, List.drop_drop]
  constructor
  · intro h
    refine ⟨?_, ?_⟩
    · have := congrArg (List.take k) h
      simpa [List.take_take, Nat.min_eq_left (Nat.le_add_right k m)] using this
    · have := congrArg (List.drop k) h
      rw [e x, e y] at h
      have h2 := congrArg (List.drop k) h
      have q : ∀ z : List Int, List.drop k ((z.drop off).take (k + m)) = (z.drop (off + k)).take m := fun z => by
        rw [List.drop_take, List.drop_drop]; congr 1; omega
      rw [q x, q y] at this
      exact this
  · rintro ⟨h1, h2⟩
    rw [e x, e y, h1, h2]
theorem flat_arr {d D : Nat} {e : TypeId} {k : Nat} {x y : List Int} (hk : flatI P d e = some k) (hz : sizeT P e = some k)
    (ih : ∀ (u v : List Int) (a b : AV), u.length = k → v.length = k → flatV P e u = some a → flatV P e v = some b → eqA P D e a b = some (decide (u = v))) :
    ∀ (n i : Nat), (i + n) * k ≤ x.length → (i + n) * k ≤ y.length → (0 < k ∨ isAggT P e = some true) →
      arrEq (fun i => both (eqA P D e) (partA P e (x.map (AV.int .i64)) (i * k)) (partA P e (y.map (AV.int .i64)) (i * k))) n i = some (decide ((x.drop (i * k)).take (n * k) = (y.drop (i * k)).take (n * k)))
  | 0, i, _, _, _ => by simp [arrEq]
  | n + 1, i, hx, hy, h0 => by
    have e1 : (i + (n + 1)) * k = i * k + k + n * k := by rw [Nat.add_mul, Nat.add_mul]; omega
    have e2 : (i + 1 + n) * k = (i + (n + 1)) * k := by congr 1; omega
    have l1 : ((x.drop (i * k)).take k).length = k := by simp; omega
    have l2 : ((y.drop (i * k)).take k).length = k := by simp; omega
    obtain ⟨a, ha⟩ := flat_some (P := P) hk l1
    obtain ⟨b, hb⟩ := flat_some (P := P) hk l2
    have r := ih _ _ a b l1 l2 ha hb
    unfold arrEq
    simp only [part_flat hk hz h0 (show i * k + k ≤ x.length by omega), part_flat hk hz h0 (show i * k + k ≤ y.length by omega), ha, hb, both_some', r]
    have rc := flat_arr (x := x) (y := y) hk hz ih n (i + 1) (by omega) (by omega) h0
    have e3 : (n + 1) * k = k + n * k := by rw [Nat.add_mul]; omega
    have e4 : (i + 1) * k = i * k + k := by rw [Nat.add_mul]; omega
    rw [e4] at rc
    have sp := take_split (x := x) (y := y) (i * k) k (n * k)
    rw [e3]
    by_cases h : (x.drop (i * k)).take k = (y.drop (i * k)).take k
    · simp only [h, decide_true]
      rw [rc]
      congr 1
      rw [decide_eq_decide, sp]
      simp [h]
    · simp only [h, decide_false]
      congr 1
      symm
      rw [decide_eq_false_iff_not, sp]
      simp [h]
theorem flat_fs {d D : Nat} {x y : List Int}
    (ih : ∀ (t : TypeId) (k : Nat), flatI P d t = some k → sizeT P t = some k → (0 < k ∨ isAggT P t = some true) ∧ ∀ (u v : List Int) (a b : AV), u.length = k → v.length = k → flatV P t u = some a → flatV P t v = some b → eqA P D t a b = some (decide (u = v))) :
    ∀ (l : List Field) (off n : Nat), flatFs (flatI P d) (sizeT P) l off = some n → n ≤ x.length → n ≤ y.length → off ≤ n ∧
      fldEq (fun f => both (eqA P D f.type) (partA P f.type (x.map (AV.int .i64)) f.offset) (partA P f.type (y.map (AV.int .i64)) f.offset)) l = some (decide ((x.drop off).take (n - off) = (y.drop off).take (n - off)))
  | [], off, n, h, _, _ => by
    simp only [flatFs, Option.some.injEq] at h
    subst h
    exact ⟨Nat.le_refl _, by simp [fldEq]⟩
  | f :: l, off, n, h, hx, hy => by
    unfold flatFs at h
    split at h
    · rename_i k k' hnm hoff hk hz
      split at h
      · rename_i hkk
        have hkk := Nat.eq_of_beq_eq_true hkk
        subst hkk
        have hoff := Nat.eq_of_beq_eq_true hoff
        obtain ⟨h0, ihf⟩ := ih f.type k hk hz
        obtain ⟨hle, rc⟩ := flat_fs ih l (off + k) n h hx hy
        have l1 : ((x.drop off).take k).length = k := by simp; omega
        have l2 : ((y.drop off).take k).length = k := by simp; omega
        obtain ⟨a, ha⟩ := flat_some (P := P) hk l1
        obtain ⟨b, hb⟩ := flat_some (P := P) hk l2
        have r := ihf _ _ a b l1 l2 ha hb
        refine ⟨by omega, ?_⟩
        unfold fldEq
        simp only [hnm, hoff, part_flat hk hz h0 (show off + k ≤ x.length by omega), part_flat hk hz h0 (show off + k ≤ y.length by omega), ha, hb, both_some', r]
        have sp := take_split (x := x) (y := y) off k (n - (off + k))
        rw [show k + (n - (off + k)) = n - off from by omega] at sp
        by_cases h : (x.drop off).take k = (y.drop off).take k
        · simp only [h, decide_true]
          rw [rc]
          congr 1
          rw [decide_eq_decide, sp]
          simp [h]
        · simp only [h, decide_false]
          congr 1
          symm
          rw [decide_eq_false_iff_not, sp]
          simp [h]
      · cases h
    · cases h
theorem flat_pos {d : Nat} {t : TypeId} {n : Nat} (h : flatI P d t = some n) : 0 < n ∨ isAggT P t = some true := by
  rcases flat_size h with ha | ⟨_, rfl, _⟩
  · exact .inr ha
  · exact .inl Nat.one_pos
theorem flat_eq : ∀ (d D : Nat), d ≤ D → ∀ (t : TypeId) (n : Nat), flatI P d t = some n → ∀ (u v : List Int) (a b : AV), u.length = n → v.length = n → flatV P t u = some a → flatV P t v = some b → eqA P D t a b = some (decide (u = v)) := by
  intro d
  induction d with
  | zero => intro D _ t n h; cases h
  | succ d ih =>
    intro D hD t n h u v a b hu hv ha hb
    obtain ⟨D, rfl⟩ : ∃ D', D = D' + 1 := ⟨D - 1, by omega⟩
    unfold flatI at h
    split at h
    · rename_i hut
      split at h
      · cases h
        have hag : isAggT P t = some false := by simp [isAggT, hut]
        match u, v, hu, hv with
        | [p], [q], _, _ =>
          unfold flatV at ha hb
          rw [hag] at ha hb
          cases ha
          cases hb
          unfold eqA
          simp only [hut, kindEq]
          rw [eqI_eq]
          by_cases hpq : p = q <;> simp [hpq]
      · cases h
    · rename_i len e hut
      split at h
      · rename_i k k' hk hz
        split at h
        · rename_i hkk
          have hkk := Nat.eq_of_beq_eq_true hkk
          subst hkk
          cases h
          have hag : isAggT P t = some true := by simp [isAggT, hut]
          unfold flatV at ha hb
          rw [hag] at ha hb
          cases ha
          cases hb
          unfold eqA
          simp only [hut, hz]
          have := flat_arr (D := D) (x := u) (y := v) hk hz (fun p q a b h1 h2 h3 h4 => ih D (by omega) e k hk p q a b h1 h2 h3 h4) len 0 (by simp; omega) (by simp; omega) (flat_pos hk)
          rw [this]
          simp only [Nat.zero_mul, List.drop_zero]
          rw [List.take_of_length_le (by omega), List.take_of_length_le (by omega)]
        · cases h
      · cases h
    · rename_i fs hut
      split at h
      · rename_i hst
        have hag : isAggT P t = some true := by simp [isAggT, hut]
        unfold flatV at ha hb
        rw [hag] at ha hb
        cases ha
        cases hb
        unfold eqA
        simp only [hut, hst]
        have := (flat_fs (D := D) (x := u) (y := v) (fun t k hk hz => ⟨flat_pos hk, fun p q a b h1 h2 h3 h4 => ih D (by omega) t k hk p q a b h1 h2 h3 h4⟩) fs.toList 0 n h (by omega) (by omega)).2
        rw [this]
        simp only [Nat.sub_zero, List.drop_zero]
        rw [List.take_of_length_le (by omega), List.take_of_length_le (by omega)]
      · cases h
    · cases h
/-- The look at a flat key passes. -/
theorem check_flat : ∀ (d D : Nat), d ≤ D → ∀ (t : TypeId) (n : Nat), flatI P d t = some n → ∀ (x : List Int) (v : Value) (em : Bool), x.length = n → (isAggT P t = some true → v = .agg (x.map (Value.int .i64)).toArray) → (isAggT P t = some false → ∃ k m, v = .int k m) →
    (Instr.checkKey em D t v).run P w = .ok () w := by
  intro d
  induction d with
  | zero => intro D _ t n h; cases h
  | succ d ih =>
    intro D hD t n h x v em hx hv1 hv2
    obtain ⟨D, rfl⟩ : ∃ D', D = D' + 1 := ⟨D - 1, by omega⟩
    have part_ok : ∀ (e : TypeId) (k off : Nat), flatI P d e = some k → sizeT P e = some k → off + k ≤ x.length → ∃ y, (part e (x.map (Value.int .i64)).toArray off).run P w = .ok y w ∧ (Instr.checkKey em D e y).run P w = .ok () w := by
      intro e k off hk hz hle
      have hp := part_flat (P := P) (cs := x) hk hz (flat_pos hk) hle
      have l1 : ((x.drop off).take k).length = k := by simp; omega
      obtain ⟨a, ha⟩ := flat_some (P := P) hk l1
      rw [ha] at hp
      have hr : VRels (fun _ => none) (x.map (AV.int .i64)) (x.map (Value.int .i64)).toArray.toList := by
        have := VRels.map (σ := fun _ => none) (f := AV.int .i64) (g := Value.int .i64) (l := x) (fun z _ => .int _ _)
        simpa using this
      obtain ⟨y, hy, hyr⟩ := part_sound (w := w) hp hr
      refine ⟨y, hy, ih D (by omega) e k hk _ y em l1 (fun hag => ?_) (fun hag => ?_)⟩
      · unfold flatV at ha
        rw [hag] at ha
        cases ha
        obtain ⟨vs, rfl, hvs⟩ := hyr.agg_inv
        congr 1
        have : ∀ (l : List Int) (xs : List Value), VRels (fun _ => none) (l.map (AV.int .i64)) xs → xs = l.map (Value.int .i64) := by
          intro l
          induction l with
          | nil => intro xs h; cases h; rfl
          | cons z l ih => intro xs h; cases h with | cons h1 h2 => rw [h1.int_inv, ih _ h2]; rfl
        have := this _ _ hvs
        rw [← this]
      · unfold flatV at ha
        rw [hag] at ha
        rw [List.getElem?_map] at ha
        cases hq : ((x.drop off).take k)[0]? with
        | none => rw [hq] at ha; cases ha
        | some z =>
          rw [hq] at ha
          cases ha
          exact ⟨_, _, hyr.int_inv⟩
    unfold flatI at h
    split at h
    · rename_i hut
      obtain ⟨k, m, rfl⟩ := hv2 (by simp [isAggT, hut])
      unfold Instr.checkKey
      simp only [Sem.run_bind, run_underlying_some hut, Result.andThen_ok, Sem.run_pure]
    · rename_i len e hut
      split at h
      · rename_i k k' hk hz
        split at h
        · rename_i hkk
          have hkk := Nat.eq_of_beq_eq_true hkk
          subst hkk
          cases h
          obtain rfl := hv1 (by simp [isAggT, hut])
          have loop : ∀ (n i : Nat), i + n ≤ len → (forIn (List.range' i n) PUnit.unit fun i (_ : PUnit) => do
              Instr.checkKey em D e (← part e (x.map (Value.int .i64)).toArray (i * (← sizeOf e)))
              pure (ForInStep.yield PUnit.unit) : Sem PUnit).run P w = .ok PUnit.unit w := by
            intro n
            induction n with
            | zero => intro i _; simp
            | succ n ihn =>
              intro i hi
              rw [List.range'_succ, List.forIn_cons]
              have hle : i * k + k ≤ x.length := by
                rw [hx]
                have : (i + 1) * k ≤ len * k := Nat.mul_le_mul_right _ (by omega)
                rw [Nat.add_mul] at this
                omega
              obtain ⟨y, h1, h2⟩ := part_ok e k (i * k) hk hz hle
              simp only [Sem.run_bind, run_sizeOf hz, Result.andThen_ok, h1, h2, Sem.run_pure]
              exact ihn (i + 1) (by omega)
          have := loop len 0 (by omega)
          unfold Instr.checkKey
          simp only [Sem.run_bind, run_underlying_some hut, Result.andThen_ok, Std.Legacy.Range.forIn_eq_forIn_range', Std.Legacy.Range.size, Nat.sub_zero, Nat.add_one_sub_one, Nat.div_one]
          simp at this ⊢
          simp [this]
        · cases h
      · cases h
    · rename_i fs hut
      split at h
      · rename_i hst
        obtain rfl := hv1 (by simp [isAggT, hut])
        have loop : ∀ (l : List Field) (off : Nat), flatFs (flatI P d) (sizeT P) l off = some n → off ≤ n ∧ (forIn l PUnit.unit fun f (_ : PUnit) => do
            if f.name ≠ "_" then Instr.checkKey em D f.type (← part f.type (x.map (Value.int .i64)).toArray f.offset)
            pure (ForInStep.yield PUnit.unit) : Sem PUnit).run P w = .ok PUnit.unit w := by
          intro l
          induction l with
          | nil => intro off h; simp only [flatFs, Option.some.injEq] at h; subst h; exact ⟨Nat.le_refl _, by simp⟩
          | cons f l ihl =>
            intro off h
            unfold flatFs at h
            split at h
            · rename_i k k' hnm hoff hk hz
              split at h
              · rename_i hkk
                have hkk := Nat.eq_of_beq_eq_true hkk
                subst hkk
                have hoff := Nat.eq_of_beq_eq_true hoff
                obtain ⟨hle, rc⟩ := ihl _ h
                obtain ⟨y, h1, h2⟩ := part_ok f.type k off hk hz (by omega)
                have hnm : f.name ≠ "_" := by simpa using hnm
                refine ⟨by omega, ?_⟩
                rw [List.forIn_cons]
                simp only [ne_eq, hnm, not_false_eq_true, if_true, Sem.run_bind, hoff, h1, Result.andThen_ok, h2, Sem.run_pure]
                exact rc
              · cases h
            · cases h
        have := (loop fs.toList 0 h).2
        unfold Instr.checkKey
        simp only [Sem.run_bind, run_underlying_some hut, Result.andThen_ok, ← Array.forIn_toList]
        simp at this ⊢
        simp [this]
      · cases h
    · cases h
end Go.Proofs.YtnlieipdeepemaaGreatDoor.AX
