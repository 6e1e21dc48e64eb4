/- ClassSets: its loops, whole. -/
import Derived.Test.YtjaabolpdelbiaaDoorCS5
namespace Go.Proofs.YtjaabolpdelbiaaDoor
open Go Go.Proofs Go.RowKit
section
variable {a0 a1 a2 a3 b0 b1 b2 b3 : Nat} {w : World} {σ : AX.Sig} {pr : AX.Pr} {a : Act}
theorem slot_int {sz : Nat} {fr : AX.Fr} {hp : AX.Hp} {nx t : Nat} {i : Int} (m : AX.Mid pr σ sz fr hp nx a w) (h : fr.get t = some (.int .i64 i)) : a.tmps.getD t undef = .int .i64 i := by
  obtain ⟨x, h1, h2⟩ := m.fr.2 t _ h
  obtain rfl := h2.int_inv
  rw [Array.getD_eq_getD_getElem?, h1]
  rfl
theorem fr1_back (n i n' i' : Int) : ∀ t v, (AX.frOf s1 (v1 n' i')).get t = some v → AX.plainV v = true ∨ (AX.frOf s1 (v1 n i)).get t = some v := by
  intro t v h
  simp only [s1, v1, AX.frOf, AX.T.get_set, AX.T.get_leaf] at h ⊢
  by_cases h9 : t = 9
  · subst h9; simp at h; subst h; exact .inl rfl
  · by_cases h8 : t = 8
    · subst h8; simp at h; subst h; exact .inl rfl
    · simp only [h8, h9, if_false] at h ⊢
      exact .inr h
theorem loop1_ok (ha : wlt a0 a1 a2 a3) (hb : wlt b0 b1 b2 b3) (hg : AX.GlOk cx pr) {Q : Exit → Act → World → Prop} (m : AX.Mid pr σ 133 (AX.frOf s1 (v1 0 0)) (hp3 a0 a1 a2 a3 b0 b1 b2 b3) 9 a w)
    (hQ : ∀ a' w', AX.Mid pr σ 133 (AX.frOf s1 (v1 ((bytesB a0 a1 a2 a3).length : Nat) 256)) (hp3 a0 a1 a2 a3 b0 b1 b2 b3) 9 a' w' → Q .normal a' w') : (Code.block 0 (.loop pB1)).wpIn (AX.FF none) 0 Tryd.prog Q a w := by
  refine wpIn_block (wpIn_loop (fun a' w' => ∃ i : Nat, i ≤ 256 ∧ AX.Mid pr σ 133 (AX.frOf s1 (v1 ((upB a0 a1 a2 a3 i).length : Nat) i)) (hp3 a0 a1 a2 a3 b0 b1 b2 b3) 9 a' w') (fun a' _ => 256 - (intOf (a'.tmps.getD 9 undef)).toNat) ⟨0, by omega, m⟩ ?_)
  rintro a' w' ⟨i, hi, m'⟩
  have hmu := slot_int (t := 9) m' rfl
  by_cases h : i < 256
  · refine wpIn_mono (round1 ha hb hg i h m') ?_
    rintro e a2 w2 ⟨rfl, τ, ex, m2⟩
    have m3 := m'.back m2 ex.le (fr1_back _ _ _ _)
    have hmu3 := slot_int (t := 9) m3 rfl
    refine ⟨⟨i + 1, by omega, m3⟩, ?_⟩
    rw [hmu3, hmu]
    simp only [intOf]
    omega
  · obtain rfl : i = 256 := by omega
    refine wpIn_mono (pcPiece (ie_val a0 a1 a2 a3 b0 b1 b2 b3 (upB a0 a1 a2 a3 256).length) (ie_nx ..) (ie_calls ..) (ie_vals ..) (ie_hp ..) (fun x hx => by cases hx) hg sl1 m') ?_
    rintro e a2 w2 ⟨rfl, τ, ex, m2⟩
    have m3 := m'.back m2 ex.le (fr1_back _ _ _ _)
    show Exit.inBlock 0 Q (.exit 0) a2 w2
    simp only [Exit.inBlock, if_true]
    exact hQ _ _ m3
theorem fr2_back (n j j' : Nat) : ∀ t v, (AX.frOf s2 (v2 a0 a1 a2 a3 n j')).get t = some v → AX.plainV v = true ∨ (AX.frOf s2 (v2 a0 a1 a2 a3 n j)).get t = some v := by
  intro t v h
  simp only [s2, v2, AX.frOf, AX.T.get_set, AX.T.get_leaf] at h ⊢
  by_cases h9 : t = 13
  · subst h9; simp at h; subst h; exact .inl rfl
  · simp only [h9, if_false] at h ⊢
    exact .inr h
theorem sl2 : ∀ t ∈ s2, t < 133 := by
  intro t ht
  simp only [s2, List.mem_cons, List.not_mem_nil, or_false] at ht
  omega
theorem wsub1 (j : Nat) (h1 : 1 ≤ j) (hj : j ≤ 1000000) : AX.wrapA .i64 (AX.subA (j : Nat) 1) = ((j - 1 : Nat) : Int) := by
  rw [AX.wrapA_eq, AX.subA_eq, IntKind.wrap_i64]; omega
theorem idx_str (S : List Nat) (j : Nat) (hj : j < S.length) : AX.indexA Tryd.prog 9 (.str S) (.int .i64 (j : Nat)) = some (.int .u8 ((S[j] : Nat) : Int)) := by
  simp only [AX.indexA, Tryd.underlying9]
  show (match S[j]? with
    | some b => some (AX.AV.int .u8 (.ofNat b))
    | none => none) = _
  rw [List.getElem?_eq_getElem hj]
  rfl
theorem loop2_ok (hg : AX.GlOk cx pr) {n : Nat} {Q : Exit → Act → World → Prop} (m : AX.Mid pr σ 133 (AX.frOf s2 (v2 a0 a1 a2 a3 n 1)) (hp3 a0 a1 a2 a3 b0 b1 b2 b3) 10 a w)
    (hQ : ∀ j a' w', AX.Mid pr σ 133 (AX.frOf s2 (v2 a0 a1 a2 a3 n j)) (hp3 a0 a1 a2 a3 b0 b1 b2 b3) 10 a' w' → Q .normal a' w') : (Code.block 2 (.loop pB2)).wpIn (AX.FF none) 0 Tryd.prog Q a w := by
  have hl : (bytesB a0 a1 a2 a3).length ≤ 256 := upB_len _ _ _ _ 256
  have hsrt : (bytesB a0 a1 a2 a3).Pairwise (· < ·) := by
    unfold bytesB upB
    exact List.Pairwise.filter _ List.pairwise_lt_range
  refine wpIn_block (wpIn_loop (fun a' w' => ∃ j : Nat, 1 ≤ j ∧ j ≤ 257 ∧ AX.Mid pr σ 133 (AX.frOf s2 (v2 a0 a1 a2 a3 n j)) (hp3 a0 a1 a2 a3 b0 b1 b2 b3) 10 a' w') (fun a' _ => 300 - (intOf (a'.tmps.getD 13 undef)).toNat) ⟨1, by omega, by omega, m⟩ ?_)
  rintro a' w' ⟨j, hj1, hj2, m'⟩
  have hmu := slot_int (t := 13) m' rfl
  by_cases h : j < (bytesB a0 a1 a2 a3).length
  · have hp : (bytesB a0 a1 a2 a3)[j - 1] < (bytesB a0 a1 a2 a3)[j] := List.pairwise_iff_getElem.1 hsrt (j - 1) j (by omega) h (by omega)
    have e1 := wadd1 j (by omega)
    have e2 := wsub1 j hj1 (by omega)
    have e3 := idx_str _ j h
    have e4 := idx_str _ (j - 1) (show j - 1 < (bytesB a0 a1 a2 a3).length by omega)
    generalize (bytesB a0 a1 a2 a3)[j - 1] = y at hp e4
    generalize (bytesB a0 a1 a2 a3)[j] = z at hp e3
    have e5 : AX.leI (z : Nat) (y : Nat) = false := by rw [AX.leI_eq]; simp; omega
    have e6 : AX.ltI (j : Nat) (Int.ofNat (bytesB a0 a1 a2 a3).length) = true := by rw [AX.ltI_eq]; simp; omega
    refine wpIn_mono (pcPiece (i2_val a0 a1 a2 a3 b0 b1 b2 b3 n j y z) (i2_nx ..) (i2_calls ..) ((i2_vals ..).trans (Eq.trans ?_ (i2_asm ..).symm)) (i2_hp ..) (fun x hx => by cases hx) hg sl2 m') ?_
    · rw [e1, e5, e2, e3, e4, e6]
    · rintro e a2 w2 ⟨rfl, τ, ex, m2⟩
      have m3 := m'.back m2 ex.le (fr2_back n j (j + 1))
      have hmu3 := slot_int (t := 13) m3 rfl
      refine ⟨⟨j + 1, by omega, by omega, m3⟩, ?_⟩
      rw [hmu3, hmu]
      simp only [intOf]
      omega
  · have e6 : AX.ltI (j : Nat) (Int.ofNat (bytesB a0 a1 a2 a3).length) = false := by rw [AX.ltI_eq]; simp; omega
    refine wpIn_mono (pcPiece (x2_val a0 a1 a2 a3 b0 b1 b2 b3 n j) (x2_nx ..) (x2_calls ..) ((x2_vals ..).trans (Eq.trans ?_ (x2_asm ..).symm)) (x2_hp ..) (fun x hx => by cases hx) hg sl2 m') ?_
    · rw [e6]
    · rintro e a2 w2 ⟨rfl, τ, ex, m2⟩
      have m3 := m'.back m2 ex.le (fr2_back n j j)
      show Exit.inBlock 2 Q (.exit 2) a2 w2
      simp only [Exit.inBlock, if_true]
      exact hQ _ _ _ m3
end
end Go.Proofs.YtjaabolpdelbiaaDoor
