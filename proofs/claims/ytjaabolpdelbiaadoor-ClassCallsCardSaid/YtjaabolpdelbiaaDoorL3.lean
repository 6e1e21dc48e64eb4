/- ClassLaws returns true. -/
import Derived.Test.YtjaabolpdelbiaaDoorL2
import Derived.Test.YtjaabolpdelbiaaDoorS1
import Derived.Test.YtjaabolpdelbiaaDoorRows
import Derived.Test.YtjaabolpdelbiaaDoorTie
import Derived.Test.YtjaabolpdelbiaaDoorCards
import Derived.LaidMore
import Derived.Stop.Joined
namespace Go.Proofs.YtjaabolpdelbiaaDoor
open Go Go.Proofs Go.ChangeShapes Go.WideShapes Go.ChangeAt Go.RowKit

theorem ones_bit (j : Nat) (hj : j < 64) : (18446744073709551615 : Nat).testBit j = true := by
  rw [show (18446744073709551615 : Nat) = 2 ^ 64 - 1 from by decide, Nat.testBit_two_pow_sub_one]
  simpa using hj
theorem nw_bit (a j : Nat) (hj : j < 64) : (nw a).testBit j = !a.testBit j := by
  unfold nw
  rw [Nat.testBit_xor, ones_bit j hj]
  simp
theorem nw_and (a b : Nat) (ha : a < 18446744073709551616) (hb : b < 18446744073709551616) : nw a &&& nw b = nw (a ||| b) :=
  word_ext (Nat.and_lt_two_pow (n := 64) _ (nw_lt b hb)) (nw_lt _ (Nat.or_lt_two_pow (n := 64) ha hb)) fun j hj => by
    rw [Nat.testBit_and, nw_bit _ _ hj, nw_bit _ _ hj, nw_bit _ _ hj, Nat.testBit_or]
    simp
theorem nw_nw (a : Nat) (ha : a < 18446744073709551616) : nw (nw a) = a :=
  word_ext (nw_lt _ (nw_lt a ha)) ha fun j hj => by rw [nw_bit _ _ hj, nw_bit _ _ hj]; simp
theorem wlt_mk {a0 a1 a2 a3 : Nat} (h0 : a0 < 18446744073709551616) (h1 : a1 < 18446744073709551616) (h2 : a2 < 18446744073709551616) (h3 : a3 < 18446744073709551616) : wlt a0 a1 a2 a3 := fun k => by
  unfold wd; split; exact h0; split; exact h1; split; exact h2; exact h3
section
variable {a0 a1 a2 a3 b0 b1 b2 b3 : Nat}
theorem wlt_nw (h : wlt a0 a1 a2 a3) : wlt (nw a0) (nw a1) (nw a2) (nw a3) := wlt_mk (nw_lt _ (h 0)) (nw_lt _ (h 1)) (nw_lt _ (h 2)) (nw_lt _ (h 3))
theorem wlt_or (h : wlt a0 a1 a2 a3) (k : wlt b0 b1 b2 b3) : wlt (a0 ||| b0) (a1 ||| b1) (a2 ||| b2) (a3 ||| b3) :=
  wlt_mk (Nat.or_lt_two_pow (n := 64) (h 0) (k 0)) (Nat.or_lt_two_pow (n := 64) (h 1) (k 1)) (Nat.or_lt_two_pow (n := 64) (h 2) (k 2)) (Nat.or_lt_two_pow (n := 64) (h 3) (k 3))
theorem wlt_and (k : wlt b0 b1 b2 b3) : wlt (a0 &&& b0) (a1 &&& b1) (a2 &&& b2) (a3 &&& b3) :=
  wlt_mk (Nat.and_lt_two_pow (n := 64) _ (k 0)) (Nat.and_lt_two_pow (n := 64) _ (k 1)) (Nat.and_lt_two_pow (n := 64) _ (k 2)) (Nat.and_lt_two_pow (n := 64) _ (k 3))
theorem wd_or (i : Nat) : wd (a0 ||| b0) (a1 ||| b1) (a2 ||| b2) (a3 ||| b3) i = wd a0 a1 a2 a3 i ||| wd b0 b1 b2 b3 i := by
  unfold wd; split; rfl; split; rfl; split <;> rfl
theorem wd_and (i : Nat) : wd (a0 &&& b0) (a1 &&& b1) (a2 &&& b2) (a3 &&& b3) i = wd a0 a1 a2 a3 i &&& wd b0 b1 b2 b3 i := by
  unfold wd; split; rfl; split; rfl; split <;> rfl
theorem hasB_or (x : Nat) : hasB (a0 ||| b0) (a1 ||| b1) (a2 ||| b2) (a3 ||| b3) x = (hasB a0 a1 a2 a3 x || hasB b0 b1 b2 b3 x) := by
  unfold hasB; rw [wd_or, Nat.testBit_or]
theorem hasB_and (x : Nat) : hasB (a0 &&& b0) (a1 &&& b1) (a2 &&& b2) (a3 &&& b3) x = (hasB a0 a1 a2 a3 x && hasB b0 b1 b2 b3 x) := by
  unfold hasB; rw [wd_and, Nat.testBit_and]
end
theorem filter_sum (p q : Nat → Bool) : ∀ l : List Nat, (l.filter fun x => p x || q x).length + (l.filter fun x => p x && q x).length = (l.filter p).length + (l.filter q).length
  | [] => rfl
  | x :: l => by
    have ih := filter_sum p q l
    simp only [List.filter_cons]
    cases p x <;> cases q x <;> simp <;> omega
theorem len_sum (a0 a1 a2 a3 b0 b1 b2 b3 : Nat) : (bytesB (a0 ||| b0) (a1 ||| b1) (a2 ||| b2) (a3 ||| b3)).length + (bytesB (a0 &&& b0) (a1 &&& b1) (a2 &&& b2) (a3 &&& b3)).length = (bytesB a0 a1 a2 a3).length + (bytesB b0 b1 b2 b3).length := by
  unfold bytesB upB
  rw [← filter_sum (hasB a0 a1 a2 a3) (hasB b0 b1 b2 b3)]
  congr 2
  · exact List.filter_congr fun x _ => hasB_or x
  · exact List.filter_congr fun x _ => hasB_and x
section
variable {a0 a1 a2 a3 b0 b1 b2 b3 : Nat}
theorem cw_both (ha : wlt a0 a1 a2 a3) (hb : wlt b0 b1 b2 b3) (i : Nat) (hi : i < 4) : cw (bytesB a0 a1 a2 a3 ++ bytesB b0 b1 b2 b3) i = wd a0 a1 a2 a3 i ||| wd b0 b1 b2 b3 i := by
  rw [cw_append, cw_bytes _ _ _ _ i hi ha, cw_bytes _ _ _ _ i hi hb]
theorem bytes_le : (bytesB a0 a1 a2 a3).length ≤ 256 := upB_len _ _ _ _ 256
end
theorem has_rng (low high x : Nat) (hx : x < 256) : hasB (cw (rng low high) 0) (cw (rng low high) 1) (cw (rng low high) 2) (cw (rng low high) 3) x = decide (low ≤ x ∧ x ≤ high) := by
  rw [has_cw _ _ hx]
  simp only [rng_mem]

section
variable {a0 a1 a2 a3 b0 b1 b2 b3 c0 c1 c2 c3 low high x : Nat}
theorem ansL_ok (ha : wlt a0 a1 a2 a3) (hb : wlt b0 b1 b2 b3) (hc : wlt c0 c1 c2 c3) (hl : low < 256) (hh : high < 256) (hx : x < 256) {r : Bool} (hr : decide (low ≤ x ∧ x ≤ high) = r) :
    ∀ y, some y ∈ ansL a0 a1 a2 a3 b0 b1 b2 b3 c0 c1 c2 c3 low high x r → AX.AnsOk cx y := by
  intro y hy
  simp only [ansL, List.mem_cons, reduceCtorEq, false_or, Option.some.injEq, List.not_mem_nil, or_false] at hy
  have n0 := fun i => nw_and (wd a0 a1 a2 a3 i) (wd b0 b1 b2 b3 i) (ha i) (hb i)
  have m0 := fun i => nw_nw (wd a0 a1 a2 a3 i) (ha i)
  have d0 := fun i => (Nat.and_or_distrib_left (wd a0 a1 a2 a3 i) (wd b0 b1 b2 b3 i) (wd c0 c1 c2 c3 i)).symm
  have t0 := fun i hi => cw_both ha hb i hi
  rcases hy with rfl | rfl | rfl | rfl | rfl | rfl | rfl | rfl | rfl | rfl | rfl | rfl | rfl | rfl | rfl | rfl | rfl | rfl | rfl | rfl | rfl | rfl | rfl | rfl | rfl
  · exact ans_lives
  · exact ans_range low high hl hh
  · exact ans_union _ _ _ _ _ _ _ _ ha hb rfl rfl rfl rfl
  · exact ans_not _ _ _ _ (wlt_or ha hb) rfl rfl rfl rfl
  · exact ans_not _ _ _ _ ha rfl rfl rfl rfl
  · exact ans_not _ _ _ _ hb rfl rfl rfl rfl
  · exact ans_meet _ _ _ _ _ _ _ _ (wlt_nw ha) (wlt_nw hb) (n0 0) (n0 1) (n0 2) (n0 3)
  · exact ans_union _ _ _ _ _ _ _ _ hb hc rfl rfl rfl rfl
  · exact ans_meet _ _ _ _ _ _ _ _ ha (wlt_or hb hc) rfl rfl rfl rfl
  · exact ans_meet _ _ _ _ _ _ _ _ ha hb rfl rfl rfl rfl
  · exact ans_meet _ _ _ _ _ _ _ _ ha hc rfl rfl rfl rfl
  · exact ans_union _ _ _ _ _ _ _ _ (wlt_and hb) (wlt_and hc) (d0 0) (d0 1) (d0 2) (d0 3)
  · exact ans_not _ _ _ _ ha rfl rfl rfl rfl
  · exact ans_not _ _ _ _ (wlt_nw ha) (m0 0) (m0 1) (m0 2) (m0 3)
  · exact ans_has _ _ _ _ (wlt_mk (cw_lt _ _) (cw_lt _ _) (cw_lt _ _) (cw_lt _ _)) hx ((has_rng low high x hx).trans hr)
  · exact ans_union _ _ _ _ _ _ _ _ ha hb rfl rfl rfl rfl
  · exact ans_len _ _ _ _ (wlt_or ha hb)
  · exact ans_meet _ _ _ _ _ _ _ _ ha hb rfl rfl rfl rfl
  · exact ans_len _ _ _ _ (wlt_and hb)
  · exact ans_len _ _ _ _ ha
  · exact ans_len _ _ _ _ hb
  · exact ans_bytes _ _ _ _ ha
  · exact ans_bytes _ _ _ _ hb
  · exact ans_str _ (by rw [List.length_append]; have := bytes_le (a0 := a0) (a1 := a1) (a2 := a2) (a3 := a3); have := bytes_le (a0 := b0) (a1 := b1) (a2 := b2) (a3 := b3); omega) (t0 0 (by decide)) (t0 1 (by decide)) (t0 2 (by decide)) (t0 3 (by decide))
  · exact ans_union _ _ _ _ _ _ _ _ ha hb rfl rfl rfl rfl
theorem add_val (p q : Operand) : AX.binA Tryd.prog .add 9 p q (.str (bytesB a0 a1 a2 a3)) (.str (bytesB b0 b1 b2 b3)) = some (.str (bytesB a0 a1 a2 a3 ++ bytesB b0 b1 b2 b3)) := by
  have h1 := bytes_le (a0 := a0) (a1 := a1) (a2 := a2) (a3 := a3)
  have h2 := bytes_le (a0 := b0) (a1 := b1) (a2 := b2) (a3 := b3)
  have h : Nat.ble ((bytesB a0 a1 a2 a3).length + (bytesB b0 b1 b2 b3).length) 1000000000 = true := Nat.ble_eq_true_of_le (by omega)
  show (match Nat.ble ((bytesB a0 a1 a2 a3).length + (bytesB b0 b1 b2 b3).length) 1000000000 with
    | true => some (AX.AV.str (bytesB a0 a1 a2 a3 ++ bytesB b0 b1 b2 b3))
    | false => none) = _
  rw [h]
theorem len_val (p q : Operand) (u v : Int) (h : u = v) : AX.binA Tryd.prog .eql 3 p q (.int .i64 (AX.wrapA .i64 u)) (.int .i64 (AX.wrapA .i64 v)) = some (.bool true) := by
  subst h
  show some (AX.AV.bool (AX.eqI (AX.wrapA .i64 u) (AX.wrapA .i64 u))) = _
  rw [AX.eqI_self]
theorem leq_val (p q : Operand) (u v : Nat) {r : Bool} (h : decide (u ≤ v) = r) : AX.binA Tryd.prog .leq 5 p q (.int .u8 (u : Nat)) (.int .u8 (v : Nat)) = some (.bool r) := by
  show some (AX.AV.bool (Nat.ble u v)) = _
  rw [← h]
  congr 2
  rw [Bool.eq_iff_iff, Nat.ble_eq]
  simp
theorem six {A B D L K X : AX.AV} {A' B' D' L' K' X' : Value} (h1 : AX.VRel (fun _ => none) A A') (h2 : AX.VRel (fun _ => none) B B') (h3 : AX.VRel (fun _ => none) D D') (h4 : AX.VRel (fun _ => none) L L') (h5 : AX.VRel (fun _ => none) K K') (h6 : AX.VRel (fun _ => none) X X') :
    AX.VRels (fun _ => none) [A, B, D, L, K, X] #[A', B', D', L', K', X'].toList := .cons h1 (.cons h2 (.cons h3 (.cons h4 (.cons h5 (.cons h6 .nil)))))
theorem classLaws_run (ha : wlt a0 a1 a2 a3) (hb : wlt b0 b1 b2 b3) (hc : wlt c0 c1 c2 c3) (hl : low < 256) (hh : high < 256) (hx : x < 256) (w : World) (hg : AX.GlOk cx (AX.prOf w)) :
    Calls Tryd.prog 5 #[cV a0 a1 a2 a3, cV b0 b1 b2 b3, cV c0 c1 c2 c3, .int .u8 low, .int .u8 high, .int .u8 x] w fun e w' => e = .returned (.bool true) ∧ AX.Kept w w' := by
  have hargs := six (cRel (fun _ => none) a0 a1 a2 a3) (cRel _ b0 b1 b2 b3) (cRel _ c0 c1 c2 c3) (.int .u8 (low : Int)) (.int .u8 (high : Int)) (.int .u8 (x : Int))
  have hn : ∀ u v : Nat, u = v → (u : Int) = (v : Int) := fun u v h => by rw [h]
  have fin : ∀ {v : AX.AV}, v = .bool true → Calls Tryd.prog 5 #[cV a0 a1 a2 a3, cV b0 b1 b2 b3, cV c0 c1 c2 c3, .int .u8 low, .int .u8 high, .int .u8 x] w (fun e w' => ∃ τ v', e = .returned v' ∧ AX.VRel τ v v' ∧ AX.Kept w w') → Calls Tryd.prog 5 #[cV a0 a1 a2 a3, cV b0 b1 b2 b3, cV c0 c1 c2 c3, .int .u8 low, .int .u8 high, .int .u8 x] w fun e w' => e = .returned (.bool true) ∧ AX.Kept w w' := by
    rintro v rfl h
    refine h.mono ?_
    rintro e w' ⟨τ, v', rfl, hv, hk⟩
    obtain rfl := hv.bool_inv
    exact ⟨rfl, hk⟩
  by_cases h1 : low ≤ x
  · by_cases h2 : x ≤ high
    · refine fin rfl (AX.calls_of_parts (C := cx) pOk extOk (val_tt a0 a1 a2 a3 b0 b1 b2 b3 c0 c1 c2 c3 low high x) (calls_tt ..) ?_ (ansL_ok ha hb hc hl hh hx (by simp [h1, h2])) hg hargs)
      refine (vals_tt ..).trans (Eq.trans ?_ (asm_tt ..).symm)
      rw [eq_same, add_val, len_val _ _ _ _ (hn _ _ (len_sum ..)), leq_val _ _ _ _ (decide_eq_true h2), leq_val _ _ _ _ (decide_eq_true h1), eq_same, eq_same, eq_same]
    · refine fin rfl (AX.calls_of_parts (C := cx) pOk extOk (val_tf a0 a1 a2 a3 b0 b1 b2 b3 c0 c1 c2 c3 low high x) (calls_tf ..) ?_ (ansL_ok ha hb hc hl hh hx (by simp [h2])) hg hargs)
      refine (vals_tf ..).trans (Eq.trans ?_ (asm_tf ..).symm)
      rw [eq_same, add_val, len_val _ _ _ _ (hn _ _ (len_sum ..)), leq_val _ _ _ _ (decide_eq_false h2), leq_val _ _ _ _ (decide_eq_true h1), eq_same, eq_same, eq_same]
  · refine fin rfl (AX.calls_of_parts (C := cx) pOk extOk (val_ff a0 a1 a2 a3 b0 b1 b2 b3 c0 c1 c2 c3 low high x) (calls_ff ..) ?_ (ansL_ok ha hb hc hl hh hx (by simp [h1])) hg hargs)
    refine (vals_ff ..).trans (Eq.trans ?_ (asm_ff ..).symm)
    rw [eq_same, add_val, len_val _ _ _ _ (hn _ _ (len_sum ..)), leq_val _ _ _ _ (decide_eq_false h1), eq_same, eq_same, eq_same]
end
end Go.Proofs.YtjaabolpdelbiaaDoor
