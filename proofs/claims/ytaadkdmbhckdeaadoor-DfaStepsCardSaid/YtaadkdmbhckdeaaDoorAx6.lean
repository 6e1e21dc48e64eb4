/- AX, part 6: equal values. -/
import Derived.Test.YtaadkdmbhckdeaaDoorAx5
import Derived.Laws.StructEq
namespace Go.Proofs.YtaadkdmbhckdeaaDoor.AX
open Go
variable {P : Program} {σ : Sig} {w : World}

theorem ne_of_beq {a b : Nat} (h : Nat.beq a b = false) : a ≠ b := fun e => by rw [e, Nat.beq_refl] at h; cases h
theorem run_underlying_some {t : TypeId} {d : TypeDesc} (h : P.underlying t = some d) : (underlying t).run P w = .ok d w := by
  simp [underlying, h]
theorem run_isAgg {t : TypeId} {b : Bool} (h : isAggT P t = some b) : (isAgg t).run P w = .ok b w := by
  unfold isAggT at h
  split at h
  · rename_i fs hu; cases h; simp [isAgg, run_underlying_some hu]
  · rename_i n e hu; cases h; simp [isAgg, run_underlying_some hu]
  · rename_i d h1 h2 hu
    cases h
    simp only [isAgg, Sem.run_bind, run_underlying_some hu, Result.andThen_ok]
    cases d <;> first | rfl | exact absurd rfl (h1 _) | exact absurd rfl (h2 _ _)
  · cases h
theorem sizeT_info {t : TypeId} {n : Nat} (h : sizeT P t = some n) : ∃ i, P.info? t = some i ∧ i.size = n := by
  unfold sizeT at h
  cases hi : P.info? t with
  | none => simp [hi] at h
  | some i => simp [hi] at h; exact ⟨i, rfl, h⟩
theorem run_typeInfo {t : TypeId} {i : TypeInfo} (h : P.info? t = some i) : (typeInfo t).run P w = .ok i w := by
  simp [typeInfo, h]
theorem run_sizeOf {t : TypeId} {n : Nat} (h : sizeT P t = some n) : (sizeOf t).run P w = .ok n w := by
  obtain ⟨i, hi, hn⟩ := sizeT_info h
  simp [sizeOf, run_typeInfo hi, hn]
theorem part_sound {t : TypeId} {cs : List AV} {xs : Array Value} {off : Nat} {v : AV} (h : partA P t cs off = some v) (hr : VRels σ cs xs.toList) :
    ∃ x, (part t xs off).run P w = .ok x w ∧ VRel σ v x := by
  unfold partA at h
  split at h
  · rename_i ha
    split at h
    · rename_i n hn
      cases h
      refine ⟨.agg (xs.extract off (off + n)), by simp [part, run_isAgg ha, run_sizeOf hn], .agg ?_⟩
      have := (hr.drop off).take n
      simpa [List.take_drop, Array.toList_extract, List.extract_eq_take_drop] using this
    · cases h
  · rename_i ha
    obtain ⟨x, hx, hv⟩ := hr.get h
    refine ⟨x, ?_, hv⟩
    have : xs[off]? = some x := by simpa using hx
    simp [part, run_isAgg ha, this]
  · cases h

theorem arr_loop {f : Nat → Option Bool} {g : Nat → Sem Bool} (hg : ∀ i b, f i = some b → ∀ w, (g i).run P w = .ok b w) :
    ∀ (n i : Nat) (r : Bool), arrEq f n i = some r →
      (forIn (List.range' i n) ((none, ()) : Option Bool × Unit) fun i (_ : Option Bool × Unit) => do
        let b ← g i
        if b = false then pure (ForInStep.done ((some false, ()) : Option Bool × Unit)) else pure (ForInStep.yield (none, ())) : Sem (Option Bool × Unit)).run P w
      = .ok (if r then none else some false, ()) w := by
  intro n
  induction n with
  | zero => intro i r h; simp [arrEq] at h; subst h; simp
  | succ n ih =>
    intro i r h
    simp only [arrEq] at h
    rw [List.range'_succ]
    simp only [List.forIn_cons, Sem.run_bind]
    split at h
    · rename_i hf
      simp only [hg i _ hf, Result.andThen_ok, Bool.true_eq_false, if_false, Sem.run_pure]
      exact ih _ _ h
    · rename_i hf
      cases h
      simp [hg i _ hf]
    · cases h
theorem fld_loop {f : Field → Option Bool} {g : Field → Sem Bool} (hg : ∀ x b, f x = some b → ∀ w, (g x).run P w = .ok b w) :
    ∀ (l : List Field) (r : Bool), fldEq f l = some r →
      (forIn l ((none, ()) : Option Bool × Unit) fun x (_ : Option Bool × Unit) =>
        if x.name = "_" then pure (ForInStep.yield ((none, ()) : Option Bool × Unit)) else do
        let b ← g x
        if b = false then pure (ForInStep.done ((some false, ()) : Option Bool × Unit)) else pure (ForInStep.yield (none, ())) : Sem (Option Bool × Unit)).run P w
      = .ok (if r then none else some false, ()) w := by
  intro l
  induction l with
  | nil => intro r h; simp [fldEq] at h; subst h; simp
  | cons x l ih =>
    intro r h
    simp only [fldEq] at h
    simp only [List.forIn_cons, Sem.run_bind, Sem.run_ite]
    split at h
    · rename_i hx
      have hx : x.name = "_" := by simpa using hx
      simp only [hx, if_true, Sem.run_pure, Result.andThen_ok]
      exact ih _ h
    · rename_i hx
      have hx : ¬ x.name = "_" := by simpa using hx
      simp only [hx, if_false]
      split at h
      · rename_i hf
        simp only [hg x _ hf, Result.andThen_ok, Bool.true_eq_false, if_false, Sem.run_pure]
        exact ih _ h
      · rename_i hf
        cases h
        simp [hg x _ hf]
      · cases h
theorem both_some {f : AV → AV → Option Bool} {a b : Option AV} {r : Bool} (h : both f a b = some r) : ∃ x y, a = some x ∧ b = some y ∧ f x y = some r := by
  unfold both at h
  split at h
  · exact ⟨_, _, rfl, rfl, h⟩
  · cases h

set_option maxHeartbeats 2000000 in
theorem eqA_sound (d : Nat) : ∀ {t : TypeId} {a b : AV} {x y : Value} {r : Bool} {w : World}, eqA P d t a b = some r → VRel σ a x → VRel σ b y →
    (Op.equalIn d t x y).run P w = .ok r w := by
  induction d with
  | zero => intro t a b x y r w h; simp [eqA] at h
  | succ d ih =>
    intro t a b x y r w h hx hy
    unfold eqA at h
    split at h
    case h_1 hu =>
      split at h
      · cases h; cases hx; cases hy; simp [Op.equalIn, run_underlying_some hu]
      · cases h
    case h_2 hu =>
      split at h
      · split at h
        · rename_i hk
          cases h; cases hx; cases hy
          have := kindEq_eq hk; subst this
          rw [eqI_eq]
          simp [Op.equalIn, run_underlying_some hu]
        · cases h
      · cases h
    case h_3 hu =>
      split at h
      · cases h; cases hx; cases hy
        rename_i s1 h1 s2 h2
        subst h1 h2
        have e1 : eqB (bytesOf s1) (bytesOf s2) = (s1.toList == s2.toList) := by rw [← toList_bytes, ← toList_bytes]; exact eqB_eq _ _
        rw [e1, ← beq_toListBytes]
        simp [Op.equalIn, run_underlying_some hu]
      · cases h
    case h_4 hu =>
      split at h <;> first | (cases h; done) | (cases h; cases hx; cases hy; simp only [Op.equalIn, Sem.run_bind, run_underlying_some hu, Result.andThen_ok]; rfl)
    case h_5 hu =>
      split at h <;> first | (cases h; done) | (cases h; cases hx; cases hy; simp only [Op.equalIn, Sem.run_bind, run_underlying_some hu, Result.andThen_ok]; rfl)
    case h_6 hu =>
      split at h <;> first | (cases h; done) | (cases h; cases hx; cases hy; simp only [Op.equalIn, Sem.run_bind, run_underlying_some hu, Result.andThen_ok]; rfl)
    case h_7 hu =>
      split at h <;> first | (cases h; done) | (cases h; cases hx; cases hy; simp only [Op.equalIn, Sem.run_bind, run_underlying_some hu, Result.andThen_ok]; rfl)
    case h_8 hu =>
      split at h
      · cases h; cases hx; cases hy; simp only [Op.equalIn, Sem.run_bind, run_underlying_some hu, Result.andThen_ok]; rfl
      · cases h; cases hx; cases hy; simp only [Op.equalIn, Sem.run_bind, run_underlying_some hu, Result.andThen_ok]; rfl
      · cases h; cases hx; cases hy; simp only [Op.equalIn, Sem.run_bind, run_underlying_some hu, Result.andThen_ok]; rfl
      · split at h
        · rename_i hte
          have hte := Nat.eq_of_beq_eq_true hte
          split at h
          · rename_i i hi
            split at h
            · rename_i hc
              cases hx; cases hy
              rename_i x' hx' y' hy'
              subst hte
              have := ih (w := w) h hx' hy'
              simp only [Op.equalIn, Sem.run_bind, run_underlying_some hu, Result.andThen_ok, ne_eq, not_true_eq_false, if_false, run_typeInfo hi, hc, Bool.not_true, Bool.false_eq_true, Sem.run_ite, this]
            · cases h
          · cases h
        · rename_i hte
          cases h; cases hx; cases hy
          have hne := ne_of_beq hte
          simp only [Op.equalIn, Sem.run_bind, run_underlying_some hu, Result.andThen_ok]
          rw [Sem.run_ite, if_pos hne]; rfl
      · cases h
    case h_9 fs hu =>
      split at h
      · split at h
        · rename_i hst
          cases hx; cases hy
          rename_i xs hxs ys hys
          have := fld_loop (P := P) (w := w) (g := fun f => do
              let a ← part f.type xs f.offset
              let b ← part f.type ys f.offset
              Op.equalIn d f.type a b) (fun f b hf w => by
            obtain ⟨u, v, hu', hv', hr⟩ := both_some hf
            obtain ⟨x1, e1, r1⟩ := part_sound (w := w) hu' hxs
            obtain ⟨x2, e2, r2⟩ := part_sound (w := w) hv' hys
            simp [e1, e2, ih hr r1 r2]) _ _ h
          simp only [bind_assoc] at this
          simp only [Op.equalIn, Sem.run_bind, run_underlying_some hu, Result.andThen_ok, run_program, hst]
          simp only [Bool.false_eq_true, if_false, ite_not, ne_eq, Bool.not_eq_true', ← Array.forIn_toList, Sem.run_bind]
          rw [this]
          cases r <;> simp
        · cases h
      · cases h
    case h_10 len e hu =>
      split at h
      · split at h
        · rename_i n hn
          cases hx; cases hy
          rename_i xs hxs ys hys
          have := arr_loop (P := P) (w := w) (g := fun i => do
              let a ← part e xs (i * n)
              let b ← part e ys (i * n)
              Op.equalIn d e a b) (fun i b hf w => by
            obtain ⟨u, v, hu', hv', hr⟩ := both_some hf
            obtain ⟨x1, e1, r1⟩ := part_sound (w := w) hu' hxs
            obtain ⟨x2, e2, r2⟩ := part_sound (w := w) hv' hys
            simp [e1, e2, ih hr r1 r2]) _ _ _ h
          simp only [bind_assoc] at this
          simp only [Op.equalIn, Sem.run_bind, run_underlying_some hu, Result.andThen_ok, run_sizeOf hn]
          simp only [Std.Legacy.Range.forIn_eq_forIn_range', Std.Legacy.Range.size, Bool.not_eq_true']
          simp only [Nat.sub_zero, Nat.add_one_sub_one, Nat.div_one]
          rw [this]
          cases r <;> simp
        · cases h
      · cases h
    case h_11 => cases h
end Go.Proofs.YtaadkdmbhckdeaaDoor.AX
