/- Dfa: class.Range 34 (turned from the class seat's C5, C7). -/
import Derived.Test.YtaadkdmbhckdeaaGreatDoorN9
namespace Go.Proofs.YtaadkdmbhckdeaaGreatDoor
open Go Go.Proofs Go.RowKit Go.Shelf
attribute [local go_sem] Oper.semAt_some
theorem wrap_two_pow (r : Nat) (hr : r < 64) : IntKind.u64.wrap ((2 : Int) ^ r) = ((2 ^ r : Nat) : Int) := by
 have h : 2 ^ r < 2 ^ 64 := Nat.pow_lt_pow_right (by decide) hr
 have h : 2 ^ r < 18446744073709551616 := by simpa using h
 have e : ((2 : Int) ^ r) = ((2 ^ r : Nat) : Int) := by simp
 rw [e]
 generalize 2 ^ r = m at *
 rw [IntKind.wrap_u64]
 omega
theorem land_two_pow (a r : Nat) : a &&& 2 ^ r = if a.testBit r then 2 ^ r else 0 := by
 apply Nat.eq_of_testBit_eq
 intro j
 rw [Nat.testBit_and, Nat.testBit_two_pow]
 by_cases h : r = j
 · subst h
   cases a.testBit r <;> simp
 · cases a.testBit r <;> simp [h, Nat.testBit_two_pow]
theorem or_bit (a r : Nat) (ha : a < 18446744073709551616) (hr : r < 64) : bits .or .u64 (a : Int) (IntKind.u64.wrap ((2 : Int) ^ r)) = ((a ||| 2 ^ r : Nat) : Int) := by
 have h : 2 ^ r < 2 ^ 64 := Nat.pow_lt_pow_right (by decide) hr
 rw [wrap_two_pow r hr, bits_or_u64_nat a _ ha (by simpa using h)]
theorem and_bit (a r : Nat) (ha : a < 18446744073709551616) (hr : r < 64) : (bits .and .u64 (a : Int) (IntKind.u64.wrap ((2 : Int) ^ r)) != 0) = a.testBit r := by
 have h : 2 ^ r < 2 ^ 64 := Nat.pow_lt_pow_right (by decide) hr
 rw [wrap_two_pow r hr, bits_and_u64_nat a _ ha (by simpa using h), land_two_pow]
 have hp : 0 < 2 ^ r := Nat.two_pow_pos r
 generalize 2 ^ r = m at hp
 cases hb : a.testBit r with
 | true => simp; omega
 | false => simp
def ClsIn (B : Nat) (l : List Nat) (W : World) : Prop := ClsAt B (cw l 0) (cw l 1) (cw l 2) (cw l 3) W ∧ ∀ j, W.frozen? ⟨B, j, none⟩ = false
theorem cell_set_ne (W : World) (B i q : Nat) (v : Value) (h : i ≠ q) : (W.setCell ⟨B, q, none⟩ v).cell? ⟨B, i, none⟩ = W.cell? ⟨B, i, none⟩ := by
 exact World.cell?_setCell_other _ _ _ _ (by simp)
def stored (B a0 a1 a2 a3 : Nat) (W : World) : World := (((W.setCell ⟨B, 0, none⟩ (.int .u64 a0)).setCell ⟨B, 1, none⟩ (.int .u64 a1)).setCell ⟨B, 2, none⟩ (.int .u64 a2)).setCell ⟨B, 3, none⟩ (.int .u64 a3)
theorem stored_at {B a0 a1 a2 a3 : Nat} {W : World} (h0 : (W.cell? ⟨B, 0, none⟩).isSome = true) (h1 : (W.cell? ⟨B, 1, none⟩).isSome = true) (h2 : (W.cell? ⟨B, 2, none⟩).isSome = true) (h3 : (W.cell? ⟨B, 3, none⟩).isSome = true) :
  ClsAt B a0 a1 a2 a3 (stored B a0 a1 a2 a3 W) := by
 have n1 : ∀ (W : World) (v : Value) (i q : Nat), i ≠ q → (W.setCell ⟨B, q, none⟩ v).cell? ⟨B, i, none⟩ = W.cell? ⟨B, i, none⟩ := fun W v i q h => cell_set_ne W B i q v h
 refine ⟨?_, ?_, ?_, ?_⟩ <;> unfold stored
 · rw [n1 _ _ _ _ (by decide), n1 _ _ _ _ (by decide), n1 _ _ _ _ (by decide)]
   exact World.cell?_setCell_same' _ _ _ h0
 · rw [n1 _ _ _ _ (by decide), n1 _ _ _ _ (by decide)]
   exact World.cell?_setCell_same' _ _ _ (by rw [n1 _ _ _ _ (by decide)]; exact h1)
 · rw [n1 _ _ _ _ (by decide)]
   exact World.cell?_setCell_same' _ _ _ (by rw [n1 _ _ _ _ (by decide), n1 _ _ _ _ (by decide)]; exact h2)
 · exact World.cell?_setCell_same' _ _ _ (by rw [n1 _ _ _ _ (by decide), n1 _ _ _ _ (by decide), n1 _ _ _ _ (by decide)]; exact h3)
theorem stored_below {n B a0 a1 a2 a3 : Nat} {w W : World} (h : Below n w W) (hn : n ≤ B) : Below n w (stored B a0 a1 a2 a3 W) :=
 (((h.setCell (p := ⟨B, 0, none⟩) hn _).setCell (p := ⟨B, 1, none⟩) hn _).setCell (p := ⟨B, 2, none⟩) hn _).setCell (p := ⟨B, 3, none⟩) hn _
theorem ClsIn.put {B : Nat} {l : List Nat} {W : World} (h : ClsIn B l W) {y q r : Nat} (hq : y / 64 = q) (hr : r = y % 64) (h4 : q < 4) :
  ClsIn B (l ++ [y]) (W.setCell ⟨B, q, none⟩ (.int .u64 (cw l q ||| 2 ^ r : Nat))) := by
 obtain ⟨⟨c0, c1, c2, c3⟩, hf⟩ := h
 have hs : ∀ i, cw (l ++ [y]) i = if q = i then cw l i ||| 2 ^ r else cw l i := fun i => by rw [cw_snoc, hq, hr]
 refine ⟨?_, fun j => by rw [World.frozen?_setCell]; exact hf j⟩
 obtain rfl | rfl | rfl | rfl : q = 0 ∨ q = 1 ∨ q = 2 ∨ q = 3 := by omega
 all_goals
  refine ⟨?_, ?_, ?_, ?_⟩ <;> rw [hs]
  all_goals first
   | (rw [if_pos rfl]; exact World.cell?_setCell_same' _ _ _ (by simp [c0, c1, c2, c3]))
   | (rw [if_neg (by decide), cell_set_ne _ _ _ _ _ (by decide)]; assumption)
theorem ClsIn.drew {B : Nat} {l : List Nat} {W : World} (h : ClsIn B l W) : ClsIn B l W.drew := ⟨⟨h.1.1, h.1.2.1, h.1.2.2.1, h.1.2.2.2⟩, h.2⟩
set_option maxHeartbeats 4000000 in
theorem range_calls (low high : Nat) (hl : low < 256) (hh : high < 256) (w : World) :
  Calls Tryz.prog 40 #[.int .u8 low, .int .u8 high] w fun e w' => e = .returned (.agg #[.int .u64 (cw (rng low high) 0 : Nat), .int .u64 (cw (rng low high) 1 : Nat), .int .u64 (cw (rng low high) 2 : Nat), .int .u64 (cw (rng low high) 3 : Nat)]) ∧ Below w.heap.size w w' := by
 have hB0 : Below w.heap.size w (w.alloc (.cells #[.int .u64 0, .int .u64 0, .int .u64 0, .int .u64 0] 55)) := (Below.refl _ w).alloc (Nat.le_refl _) _
 have hcls : ClsIn w.heap.size [] (w.alloc (.cells #[.int .u64 0, .int .u64 0, .int .u64 0, .int .u64 0] 55)) := ⟨⟨by simp [cw_nil], by simp [cw_nil], by simp [cw_nil], by simp [cw_nil]⟩, fun j => by simp⟩
 go_enter Tryz.func40, Tryz.ntmps40
 go_wp2
 go_loopw [5] (fun i wr => ∃ k : Nat, low ≤ k ∧ k ≤ 256 ∧ (k ≤ high + 1 ∨ k = low) ∧ i = .int .i64 k ∧ ClsIn w.heap.size (List.range' low (k - low)) wr ∧ Below w.heap.size w wr)
  (fun i _ => 256 - (intOf i).toNat)
 case atStart => exact ⟨low, Nat.le_refl _, by omega, .inr rfl, rfl, by rw [Nat.sub_self]; exact hcls, hB0⟩
 case round =>
  obtain ⟨k, hk, hk2, hk3, rfl, hcl, hB⟩ := hrel
  by_cases hlt : k ≤ high
  · have e : List.range' low (k + 1 - low) = List.range' low (k - low) ++ [k] := by
     rw [show k + 1 - low = (k - low) + 1 by omega, List.range'_concat]
     congr 2
     omega
    have HE := Lib.hid e
    clear e
    generalize List.range' low (k - low) = l at *
    obtain ⟨⟨c0, c1, c2, c3⟩, hf⟩ := hcl
    have l0 := cw_lt l 0
    have l1 := cw_lt l 1
    have l2 := cw_lt l 2
    have l3 := cw_lt l 3
    obtain ⟨r, hr⟩ : ∃ r : Nat, r = k % 64 := ⟨_, rfl⟩
    have hr64 : r < 64 := by omega
    have hrm : (k : Int) % 64 = (r : Nat) := by omega
    have HR := Lib.hid hr
    clear hr
    obtain hq | hq | hq | hq : k / 64 = 0 ∨ k / 64 = 1 ∨ k / 64 = 2 ∨ k / 64 = 3 := by omega
    · have hqi : (k : Int) / 64 = 0 := by omega
      have HN := ClsIn.put (B := w.heap.size) (W := wr) ⟨⟨c0, c1, c2, c3⟩, hf⟩ hq HR.out (by decide)
      have HQ := Lib.hid HN
      clear hq HN
      have ho := or_bit _ r l0 hr64
      go_wp2
      go_region
      go_wp2
      go_roundw
      case rel => exact ⟨k + 1, by omega, by omega, by omega, by simp, by rw [HE.out]; exact HQ.out.drew, (hB.setCell (p := ⟨w.heap.size, 0, none⟩) (Nat.le_refl _) _).drew⟩
      case measure => simp [intOf]; omega
    · have hqi : (k : Int) / 64 = 1 := by omega
      have HN := ClsIn.put (B := w.heap.size) (W := wr) ⟨⟨c0, c1, c2, c3⟩, hf⟩ hq HR.out (by decide)
      have HQ := Lib.hid HN
      clear hq HN
      have ho := or_bit _ r l1 hr64
      go_wp2
      go_region
      go_wp2
      go_roundw
      case rel => exact ⟨k + 1, by omega, by omega, by omega, by simp, by rw [HE.out]; exact HQ.out.drew, (hB.setCell (p := ⟨w.heap.size, 1, none⟩) (Nat.le_refl _) _).drew⟩
      case measure => simp [intOf]; omega
    · have hqi : (k : Int) / 64 = 2 := by omega
      have HN := ClsIn.put (B := w.heap.size) (W := wr) ⟨⟨c0, c1, c2, c3⟩, hf⟩ hq HR.out (by decide)
      have HQ := Lib.hid HN
      clear hq HN
      have ho := or_bit _ r l2 hr64
      go_wp2
      go_region
      go_wp2
      go_roundw
      case rel => exact ⟨k + 1, by omega, by omega, by omega, by simp, by rw [HE.out]; exact HQ.out.drew, (hB.setCell (p := ⟨w.heap.size, 2, none⟩) (Nat.le_refl _) _).drew⟩
      case measure => simp [intOf]; omega
    · have hqi : (k : Int) / 64 = 3 := by omega
      have HN := ClsIn.put (B := w.heap.size) (W := wr) ⟨⟨c0, c1, c2, c3⟩, hf⟩ hq HR.out (by decide)
      have HQ := Lib.hid HN
      clear hq HN
      have ho := or_bit _ r l3 hr64
      go_wp2
      go_region
      go_wp2
      go_roundw
      case rel => exact ⟨k + 1, by omega, by omega, by omega, by simp, by rw [HE.out]; exact HQ.out.drew, (hB.setCell (p := ⟨w.heap.size, 3, none⟩) (Nat.le_refl _) _).drew⟩
      case measure => simp [intOf]; omega
  · have e : List.range' low (k - low) = rng low high := by unfold rng; congr 1; omega
    rw [e] at hcl
    clear e
    obtain ⟨⟨c0, c1, c2, c3⟩, hf⟩ := hcl
    go_wp2
    have hF := stored_at (B := w.heap.size) (a0 := cw (rng low high) 0) (a1 := cw (rng low high) 1) (a2 := cw (rng low high) 2) (a3 := cw (rng low high) 3) (W := wr) (by rw [c0]; rfl) (by rw [c1]; rfl) (by rw [c2]; rfl) (by rw [c3]; rfl)
    have hBf := stored_below (B := w.heap.size) (a0 := cw (rng low high) 0) (a1 := cw (rng low high) 1) (a2 := cw (rng low high) 2) (a3 := cw (rng low high) 3) hB (Nat.le_refl _)
    unfold stored at hF hBf
    generalize ((((wr.setCell ⟨w.heap.size, 0, none⟩ (.int .u64 (cw (rng low high) 0 : Nat))).setCell ⟨w.heap.size, 1, none⟩ (.int .u64 (cw (rng low high) 1 : Nat))).setCell ⟨w.heap.size, 2, none⟩ (.int .u64 (cw (rng low high) 2 : Nat))).setCell ⟨w.heap.size, 3, none⟩ (.int .u64 (cw (rng low high) 3 : Nat))) = Wf at hF hBf ⊢
    obtain ⟨d0, d1, d2, d3⟩ := hF
    exact bodyPost_ret (v := .agg #[.int .u64 (cw (rng low high) 0 : Nat), .int .u64 (cw (rng low high) 1 : Nat), .int .u64 (cw (rng low high) 2 : Nat), .int .u64 (cw (rng low high) 3 : Nat)]) (by simp [results, Tryz.results23, go_sem, d0, d1, d2, d3]) rfl ⟨rfl, hBf⟩
set_option maxHeartbeats 1000000 in
theorem has_calls (a0 a1 a2 a3 b : Nat) (hw : wlt a0 a1 a2 a3) (hb : b < 256) (w : World) :
  Calls Tryz.prog 60 #[.agg #[.int .u64 a0, .int .u64 a1, .int .u64 a2, .int .u64 a3], .int .u8 b] w fun e w' => e = .returned (.bool (hasB a0 a1 a2 a3 b)) ∧ Below w.heap.size w w' := by
 obtain ⟨r, hr⟩ : ∃ r : Nat, r = b % 64 := ⟨_, rfl⟩
 have hr64 : r < 64 := by omega
 have hrm : (b : Int) % 64 = (r : Nat) := by omega
 have l0 : a0 < 18446744073709551616 := hw 0
 have l1 : a1 < 18446744073709551616 := hw 1
 have l2 : a2 < 18446744073709551616 := hw 2
 have l3 : a3 < 18446744073709551616 := hw 3
 have h4 : b / 64 = 0 ∨ b / 64 = 1 ∨ b / 64 = 2 ∨ b / 64 = 3 := by omega
 have hB : Below w.heap.size w (w.alloc (.cells #[.int .u64 a0, .int .u64 a1, .int .u64 a2, .int .u64 a3] 55)) := (Below.refl _ w).alloc (Nat.le_refl _) _
 have HR := Lib.hid hr
 clear hr
 obtain hq | hq | hq | hq := h4
 · have hqi : (b : Int) / 64 = 0 := by omega
   have HH := Lib.hid (show hasB a0 a1 a2 a3 b = a0.testBit r by unfold hasB; rw [hq, HR.out]; rfl)
   clear hq
   have ho := and_bit _ r l0 hr64
   go_enter Tryz.func60, Tryz.ntmps60
   go_wp2
   go_ret
   exact ⟨by rw [HH.out]; rfl, hB⟩
 · have hqi : (b : Int) / 64 = 1 := by omega
   have HH := Lib.hid (show hasB a0 a1 a2 a3 b = a1.testBit r by unfold hasB; rw [hq, HR.out]; rfl)
   clear hq
   have ho := and_bit _ r l1 hr64
   go_enter Tryz.func60, Tryz.ntmps60
   go_wp2
   go_ret
   exact ⟨by rw [HH.out]; rfl, hB⟩
 · have hqi : (b : Int) / 64 = 2 := by omega
   have HH := Lib.hid (show hasB a0 a1 a2 a3 b = a2.testBit r by unfold hasB; rw [hq, HR.out]; rfl)
   clear hq
   have ho := and_bit _ r l2 hr64
   go_enter Tryz.func60, Tryz.ntmps60
   go_wp2
   go_ret
   exact ⟨by rw [HH.out]; rfl, hB⟩
 · have hqi : (b : Int) / 64 = 3 := by omega
   have HH := Lib.hid (show hasB a0 a1 a2 a3 b = a3.testBit r by unfold hasB; rw [hq, HR.out]; rfl)
   clear hq
   have ho := and_bit _ r l3 hr64
   go_enter Tryz.func60, Tryz.ntmps60
   go_wp2
   go_ret
   exact ⟨by rw [HH.out]; rfl, hB⟩
end Go.Proofs.YtaadkdmbhckdeaaGreatDoor
