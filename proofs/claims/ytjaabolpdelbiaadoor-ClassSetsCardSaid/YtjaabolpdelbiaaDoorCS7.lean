/- ClassSets: the whole run. -/
import Derived.Test.YtjaabolpdelbiaaDoorCS6
namespace Go.Proofs.YtjaabolpdelbiaaDoor
open Go Go.Proofs Go.RowKit

theorem cmp_refl : ∀ l : List Nat, AX.cmpB l l = 0
  | [] => rfl
  | a :: l => by simp [AX.cmpB, cmp_refl l]
theorem cmp_anti : ∀ l m : List Nat, AX.cmpB m l = - AX.cmpB l m
  | [], [] => rfl
  | [], _ :: _ => rfl
  | _ :: _, [] => rfl
  | a :: l, b :: m => by
    have ih := cmp_anti l m
    by_cases h : a = b
    · subst h
      simp [AX.cmpB, ih]
    · have h1 : Nat.beq a b = false := by rw [Bool.eq_false_iff]; simpa using h
      have h2 : Nat.beq b a = false := by rw [Bool.eq_false_iff]; simpa using fun e => h e.symm
      simp only [AX.cmpB, h1, h2]
      by_cases hl : a ≤ b
      · have h3 : Nat.ble a b = true := Nat.ble_eq_true_of_le hl
        have h4 : Nat.ble b a = false := by rw [Bool.eq_false_iff]; intro e; have := Nat.le_of_ble_eq_true e; omega
        simp [h3, h4]
      · have h3 : Nat.ble a b = false := by rw [Bool.eq_false_iff]; intro e; have := Nat.le_of_ble_eq_true e; omega
        have h4 : Nat.ble b a = true := Nat.ble_eq_true_of_le (by omega)
        simp [h3, h4]
theorem cmp_zero : ∀ l m : List Nat, AX.cmpB l m = 0 → l = m
  | [], [], _ => rfl
  | [], _ :: _, h => by cases h
  | _ :: _, [], h => by cases h
  | a :: l, b :: m, h => by
    by_cases e : a = b
    · subst e
      simp only [AX.cmpB, Nat.beq_refl] at h
      rw [cmp_zero l m h]
    · have h1 : Nat.beq a b = false := by rw [Bool.eq_false_iff]; simpa using e
      simp only [AX.cmpB, h1] at h
      split at h <;> cases h
theorem cmp_bd : ∀ l m : List Nat, -1 ≤ AX.cmpB l m ∧ AX.cmpB l m ≤ 1
  | [], [] => by decide
  | [], _ :: _ => by simp [AX.cmpB]
  | _ :: _, [] => by simp [AX.cmpB]
  | a :: l, b :: m => by
    simp only [AX.cmpB]
    split
    · exact cmp_bd l m
    · split <;> decide
theorem cmp_val131 (S T : List Nat) : AX.eqI (AX.cmpB S T) (AX.wrapA .i64 (AX.subA 0 (AX.cmpB T S))) = true := by
  have h := cmp_bd S T
  rw [cmp_anti S T, AX.wrapA_eq, AX.subA_eq, IntKind.wrap_i64, AX.eqI_eq]
  simp
  omega
section
variable {a0 a1 a2 a3 b0 b1 b2 b3 : Nat}
theorem bytes_inj (ha : wlt a0 a1 a2 a3) (hb : wlt b0 b1 b2 b3) (h : bytesB a0 a1 a2 a3 = bytesB b0 b1 b2 b3) : a0 = b0 ∧ a1 = b1 ∧ a2 = b2 ∧ a3 = b3 := by
  have key : ∀ k, k < 4 → wd a0 a1 a2 a3 k = wd b0 b1 b2 b3 k := fun k hk => by
    rw [← cw_bytes _ _ _ _ k hk ha, ← cw_bytes _ _ _ _ k hk hb, h]
  exact ⟨key 0 (by decide), key 1 (by decide), key 2 (by decide), key 3 (by decide)⟩
theorem eq_false_run (x y : Operand) (hne : ¬ (a0 = b0 ∧ a1 = b1 ∧ a2 = b2 ∧ a3 = b3)) : AX.binA Tryd.prog .eql 27 x y (cA a0 a1 a2 a3) (cA b0 b1 b2 b3) = some (.bool false) := by
  rw [eq_run]
  have hn : ∀ u v : Nat, AX.eqI (u : Int) (v : Int) = decide (u = v) := fun u v => by rw [AX.eqI_eq, Bool.eq_iff_iff]; simp; omega
  rw [hn, hn, hn, hn]
  by_cases h0 : a0 = b0
  · by_cases h1 : a1 = b1
    · by_cases h2 : a2 = b2
      · have h3 : ¬ a3 = b3 := fun h3 => hne ⟨h0, h1, h2, h3⟩
        simp [h0, h1, h2, h3]
      · simp [h0, h1, h2]
    · simp [h0, h1]
  · simp [h0]
theorem slots_lt {l : List Nat} (h : l.all (· < 133) = true) : ∀ t ∈ l, t < 133 := fun t ht => by
  have := List.all_eq_true.1 h t ht
  simpa using this
theorem kept_of {w w' : World} {σ : AX.Sig} {hp : AX.Hp} (r : AX.R (AX.prOf w) σ hp w') : AX.Kept w w' :=
  ⟨r.same.1, congrArg Prod.fst r.same.2, congrArg Prod.snd r.same.2, fun k o hk => r.prot k o hk⟩
theorem weak {pr : AX.Pr} {σ : AX.Sig} {sz nx : Nat} {fr fr' : AX.Fr} {hp : AX.Hp} {a : Act} {w : World} (m : AX.Mid pr σ sz fr hp nx a w) (h : ∀ t v, fr'.get t = some v → fr.get t = some v) : AX.Mid pr σ sz fr' hp nx a w :=
  ⟨⟨m.fr.1, fun t v ht => m.fr.2 t v (h t v ht)⟩, m.ds, m.r, m.fresh⟩
theorem weak1 (p q u x y : AX.AV) (t : Nat) (v : AX.AV) (z s : AX.AV) (h : (AX.frOf [2, 3, 8] [p, q, u]).get t = some v) : (AX.frOf s1 [p, q, x, y, z, u, s]).get t = some v := by
  simp only [s1, AX.frOf, AX.T.get_set, AX.T.get_leaf] at h ⊢
  by_cases h2 : t = 2
  · subst h2; simpa using h
  by_cases h3 : t = 3
  · subst h3; simpa using h
  by_cases h8 : t = 8
  · subst h8; simpa using h
  simp [h2, h3, h8] at h
theorem weak2 (p q u x y : AX.AV) (t : Nat) (v : AX.AV) (h : (AX.frOf [2, 3, 8, 12] [p, q, u, x]).get t = some v) : (AX.frOf s2 [p, q, u, x, y]).get t = some v := by
  simp only [s2, AX.frOf, AX.T.get_set, AX.T.get_leaf] at h ⊢
  by_cases h2 : t = 2
  · subst h2; simpa using h
  by_cases h3 : t = 3
  · subst h3; simpa using h
  by_cases h8 : t = 8
  · subst h8; simpa using h
  by_cases h12 : t = 12
  · subst h12; simpa using h
  simp [h2, h3, h8, h12] at h
theorem cmp_val104 (n : Nat) : AX.eqI (n : Nat) (n : Nat) = true := by rw [AX.eqI_eq]; simp
theorem fin_val (hp : AX.Hp) : AX.leaveA [] hp (fun hp => match AX.resultA cx Tryd.f8 (AX.frOf [4] [.bool true]) hp with
      | some v => AX.forceV v fun v => AX.Res.done v hp 0
      | none => .fail none) = .done (.bool true) hp 0 := by kernel_rfl
theorem classSets_run (ha : wlt a0 a1 a2 a3) (hb : wlt b0 b1 b2 b3) (w : World) (hg : AX.GlOk cx (AX.prOf w)) :
    Calls Tryd.prog 8 #[cV a0 a1 a2 a3, cV b0 b1 b2 b3] w fun e w' => e = .returned (.bool true) ∧ AX.Kept w w' := by
  refine (callsIn_wide (n := 0)).1 ?_
  refine callsIn_of_wp_marks (F := AX.FF none) Tryd.func8 c8_parts trivial ?_
  have m0 : AX.Mid (AX.prOf w) (fun _ => none) 133 (AX.ofL [cA a0 a1 a2 a3, cA b0 b1 b2 b3]) .leaf 0 { tmps := #[cV a0 a1 a2 a3, cV b0 b1 b2 b3] ++ Array.replicate (Tryd.f8.ntmps - (#[cV a0 a1 a2 a3, cV b0 b1 b2 b3] : Array Value).size) undef, defers := [] } w :=
    ⟨AX.enter_rel (.cons (cRel _ _ _ _ _) (.cons (cRel _ _ _ _ _) .nil)) (show 2 ≤ 133 by decide), rfl, AX.R.start w, fun _ _ => rfl⟩
  -- the boxes
  refine wpIn_seq (wpIn_mono (pcPiece (r0_val a0 a1 a2 a3 b0 b1 b2 b3) (r0_nx ..) (r0_calls ..) (r0_vals ..) rfl (fun x hx => by cases hx) hg (slots_lt rfl) m0) ?_)
  rintro e a1' w1 ⟨rfl, τ1, _, m1⟩
  -- the examples
  refine wpIn_seq (wpIn_mono (pcPiece (r1_val a0 a1 a2 a3 b0 b1 b2 b3) (r1_nx ..) (r1_calls ..) (r1_vals ..) (r1_hp ..) ?_ hg (slots_lt rfl) m1) ?_)
  · intro x hx
    simp only [pad, List.mem_cons, reduceCtorEq, false_or, Option.some.injEq, List.not_mem_nil, or_false] at hx
    subst hx
    exact ans_lives
  rintro e a2' w2 ⟨rfl, τ2, _, m2⟩
  refine wpIn_seq (wpIn_mono (pcPiece (r3_val a0 a1 a2 a3 b0 b1 b2 b3) (r3_nx ..) (r3_calls ..) (r3_vals ..) rfl ?_ hg (slots_lt rfl) m2) ?_)
  · intro x hx
    simp only [pad, List.mem_cons, reduceCtorEq, false_or, Option.some.injEq, List.not_mem_nil, or_false] at hx
    rcases hx with rfl | rfl | rfl
    · exact ans_union _ _ _ _ _ _ _ _ ha hb rfl rfl rfl rfl
    · exact ans_meet _ _ _ _ _ _ _ _ ha hb rfl rfl rfl rfl
    · exact ans_not _ _ _ _ ha rfl rfl rfl rfl
  rintro e a3' w3 ⟨rfl, τ3, _, m3⟩
  refine wpIn_seq (wpIn_mono (pcPiece (r4_val a0 a1 a2 a3 b0 b1 b2 b3) (r4_nx ..) (r4_calls ..) (r4_vals ..) (r4_hp ..) (fun x hx => by cases hx) hg (slots_lt rfl) m3) ?_)
  rintro e a4' w4 ⟨rfl, τ4, _, m4⟩
  refine wpIn_seq (wpIn_seq (wpIn_mono (pcPiece (r5_val a0 a1 a2 a3 b0 b1 b2 b3) (r5_nx ..) (r5_calls ..) (r5_vals ..) (r5_hp ..) (fun x hx => by cases hx) hg (slots_lt rfl) m4) ?_))
  rintro e a5' w5 ⟨rfl, τ5, _, m5⟩
  refine loop1_ok ha hb hg m5 ?_
  intro a6' w6 m6
  refine wpIn_seq (wpIn_mono (pcPiece (r13_val a0 a1 a2 a3 b0 b1 b2 b3 (bytesB a0 a1 a2 a3).length) (r13_nx ..) (r13_calls ..) (r13_vals ..) (r13_hp ..) ?_ hg (slots_lt rfl) (weak m6 (fun t v h => weak1 _ _ _ _ _ t v _ _ h))) ?_)
  · intro x hx
    simp only [pad, List.mem_cons, reduceCtorEq, false_or, Option.some.injEq, List.not_mem_nil, or_false] at hx
    subst hx
    exact ans_bytes _ _ _ _ ha
  rintro e a7' w7 ⟨rfl, τ7, _, m7⟩
  refine wpIn_seq (wpIn_seq (wpIn_mono (pcPiece (r14_val a0 a1 a2 a3 b0 b1 b2 b3 (bytesB a0 a1 a2 a3).length) (r14_nx ..) (r14_calls ..) (r14_vals ..) (r14_hp ..) (fun x hx => by cases hx) hg (slots_lt rfl) m7) ?_))
  rintro e a8' w8 ⟨rfl, τ8, _, m8⟩
  refine loop2_ok hg m8 ?_
  intro j a9' w9 m9
  refine wpIn_seq (wpIn_mono (pcPiece (r19_val a0 a1 a2 a3 b0 b1 b2 b3 (bytesB a0 a1 a2 a3).length) (r19_nx ..) (r19_calls ..) (r19_vals ..) (r19_hp ..) ?_ hg (slots_lt rfl) (weak m9 (fun t v h => weak2 _ _ _ _ _ t v h))) ?_)
  · intro x hx
    simp only [pad, List.mem_cons, reduceCtorEq, false_or, Option.some.injEq, List.not_mem_nil, or_false] at hx
    subst hx
    exact ans_compare _ _ _ _ _ _ _ _ ha hb
  rintro e aa w10 ⟨rfl, τ10, _, m10⟩
  have hL : ∀ x, some x ∈ pad 11 [some (13, [cA a0 a1 a2 a3], .int .i64 ((bytesB a0 a1 a2 a3).length : Nat)), some (21, [.str (bytesB a0 a1 a2 a3)], cA a0 a1 a2 a3), some (23, [cA b0 b1 b2 b3, cA a0 a1 a2 a3], .int .i64 (AX.cmpB (bytesB b0 b1 b2 b3) (bytesB a0 a1 a2 a3)))] → AX.AnsOk cx x := by
    intro x hx
    simp only [pad, List.mem_cons, reduceCtorEq, false_or, Option.some.injEq, List.not_mem_nil, or_false] at hx
    rcases hx with rfl | rfl | rfl
    · exact ans_len _ _ _ _ ha
    · exact ans_str _ (Nat.le_trans bytes_le (by decide)) (cw_bytes _ _ _ _ 0 (by decide) ha) (cw_bytes _ _ _ _ 1 (by decide) ha) (cw_bytes _ _ _ _ 2 (by decide) ha) (cw_bytes _ _ _ _ 3 (by decide) ha)
    · exact ans_compare _ _ _ _ _ _ _ _ hb ha
  have fin : ∀ a' w' σ' hp' nx', AX.Mid (AX.prOf w) σ' 133 (AX.frOf [4] [.bool true]) hp' nx' a' w' → Exit.then (Code.wpIn (AX.FF none) 0 Tryd.prog .ret (bodyPostM (AX.FF none) 0 Tryd.prog Tryd.f8 fun e w' => e = Ending.returned (Value.bool true) ∧ AX.Kept w w')) (bodyPostM (AX.FF none) 0 Tryd.prog Tryd.f8 fun e w' => e = Ending.returned (Value.bool true) ∧ AX.Kept w w') .normal a' w' := by
    intro a' w' σ' hp' nx' m
    refine wpIn_ret ?_
    refine AX.leaveA_sound (C := cx) (nf := 0) (nx := 0) hg (fun v' w'' hv r => ?_) [] _ hp' w' (fin_val hp') m.fr (show AX.DsRel _ [] _ from by rw [m.ds]; trivial) m.r
    obtain rfl := hv.bool_inv
    exact ⟨rfl, kept_of r⟩
  by_cases hE : a0 = b0 ∧ a1 = b1 ∧ a2 = b2 ∧ a3 = b3
  · refine wpIn_seq (wpIn_mono (pcPiece (r201_val a0 a1 a2 a3 b0 b1 b2 b3 (bytesB a0 a1 a2 a3).length) (r201_nx ..) (r201_calls ..) ((r201_vals ..).trans (Eq.trans ?_ (r201_asm ..).symm)) rfl hL hg (slots_lt rfl) m10) ?_)
    · obtain ⟨rfl, rfl, rfl, rfl⟩ := hE
      rw [cmp_val131, eq_same, eq_same, cmp_val104, cmp_refl]
      rfl
    · rintro e a' w' ⟨rfl, τ, _, m⟩
      exact fin _ _ _ _ _ m
  · refine wpIn_seq (wpIn_mono (pcPiece (r200_val a0 a1 a2 a3 b0 b1 b2 b3 (bytesB a0 a1 a2 a3).length) (r200_nx ..) (r200_calls ..) ((r200_vals ..).trans (Eq.trans ?_ (r200_asm ..).symm)) rfl hL hg (slots_lt rfl) m10) ?_)
    · have hc : AX.eqI (AX.cmpB (bytesB a0 a1 a2 a3) (bytesB b0 b1 b2 b3)) 0 = false := by
        rw [Bool.eq_false_iff]
        intro h
        rw [AX.eqI_eq] at h
        exact hE (bytes_inj ha hb (cmp_zero _ _ (by simpa using h)))
      rw [cmp_val131, eq_same, eq_false_run _ _ hE, cmp_val104, hc]
    · rintro e a' w' ⟨rfl, τ, _, m⟩
      exact fin _ _ _ _ _ m
end
end Go.Proofs.YtjaabolpdelbiaaDoor
