import Derived.Test.YtjaabolpdelbiaaDoorC6
import Derived.RegionTactic
namespace Go.Proofs.YtjaabolpdelbiaaDoor
open Go Go.Proofs Go.RowKit Go.Shelf
attribute [local go_sem] Oper.semAt_some

def rng (low high : Nat) : List Nat := List.range' low (high + 1 - low)
theorem ClsIn.drew {B : Nat} {l : List Nat} {W : World} (h : ClsIn B l W) : ClsIn B l W.drew := ⟨⟨h.1.1, h.1.2.1, h.1.2.2.1, h.1.2.2.2⟩, h.2⟩
theorem rng_mem {low high x : Nat} : x ∈ rng low high ↔ low ≤ x ∧ x ≤ high := by
  unfold rng
  rw [List.mem_range'_1]
  omega

set_option maxHeartbeats 4000000 in
theorem range_calls (low high : Nat) (hl : low < 256) (hh : high < 256) (w : World) :
    Calls Tryd.prog 20 #[.int .u8 low, .int .u8 high] w fun e w' => e = .returned (.agg #[.int .u64 (cw (rng low high) 0 : Nat), .int .u64 (cw (rng low high) 1 : Nat), .int .u64 (cw (rng low high) 2 : Nat), .int .u64 (cw (rng low high) 3 : Nat)]) ∧ Below w.heap.size w w' := by
  have hB0 : Below w.heap.size w (w.alloc (.cells #[.int .u64 0, .int .u64 0, .int .u64 0, .int .u64 0] 27)) := (Below.refl _ w).alloc (Nat.le_refl _) _
  have hcls : ClsIn w.heap.size [] (w.alloc (.cells #[.int .u64 0, .int .u64 0, .int .u64 0, .int .u64 0] 27)) := ⟨⟨by simp [cw_nil], by simp [cw_nil], by simp [cw_nil], by simp [cw_nil]⟩, fun j => by simp⟩
  go_enter Tryd.func20, Tryd.ntmps20
  go_wp2
  go_loopw [5] (fun i wr => ∃ k : Nat, low ≤ k ∧ k ≤ 256 ∧ (k ≤ high + 1 ∨ k = low) ∧ i = .int .i64 k ∧ ClsIn w.heap.size (List.range' low (k - low)) wr ∧ Below w.heap.size w wr)
    (fun i _ => 256 - (intOf i).toNat)
  case atStart => exact ⟨low, Nat.le_refl _, by omega, .inr rfl, rfl, by rw [Nat.sub_self]; exact hcls, hB0⟩
  case round =>
    obtain ⟨k, hk, hk2, hk3, rfl, hcl, hB⟩ := hrel
    by_cases hlt : k ≤ high
    · have e : List.range' low (k + 1 - low) = List.range' low (k - low) ++ [k] := by
        rw [show k + 1 - low = (k - low) + 1 by omega, List.range'_concat]
        congr 2
        omega
      have HE := Lib.hid e
      clear e
      generalize List.range' low (k - low) = l at *
      obtain ⟨⟨c0, c1, c2, c3⟩, hf⟩ := hcl
      have l0 := cw_lt l 0
      have l1 := cw_lt l 1
      have l2 := cw_lt l 2
      have l3 := cw_lt l 3
      obtain ⟨r, hr⟩ : ∃ r : Nat, r = k % 64 := ⟨_, rfl⟩
      have hr64 : r < 64 := by omega
      have hrm : (k : Int) % 64 = (r : Nat) := by omega
      have HR := Lib.hid hr
      clear hr
      obtain hq | hq | hq | hq : k / 64 = 0 ∨ k / 64 = 1 ∨ k / 64 = 2 ∨ k / 64 = 3 := by omega
      · have hqi : (k : Int) / 64 = 0 := by omega
        have HN := ClsIn.put (B := w.heap.size) (W := wr) ⟨⟨c0, c1, c2, c3⟩, hf⟩ hq HR.out (by decide)
        have HQ := Lib.hid HN
        clear hq HN
        have ho := or_bit _ r l0 hr64
        go_wp2
        go_region
        go_wp2
        go_roundw
        case rel => exact ⟨k + 1, by omega, by omega, by omega, by simp, by rw [HE.out]; exact HQ.out.drew, (hB.setCell (p := ⟨w.heap.size, 0, none⟩) (Nat.le_refl _) _).drew⟩
        case measure => simp [intOf]; omega
      · have hqi : (k : Int) / 64 = 1 := by omega
        have HN := ClsIn.put (B := w.heap.size) (W := wr) ⟨⟨c0, c1, c2, c3⟩, hf⟩ hq HR.out (by decide)
        have HQ := Lib.hid HN
        clear hq HN
        have ho := or_bit _ r l1 hr64
        go_wp2
        go_region
        go_wp2
        go_roundw
        case rel => exact ⟨k + 1, by omega, by omega, by omega, by simp, by rw [HE.out]; exact HQ.out.drew, (hB.setCell (p := ⟨w.heap.size, 1, none⟩) (Nat.le_refl _) _).drew⟩
        case measure => simp [intOf]; omega
      · have hqi : (k : Int) / 64 = 2 := by omega
        have HN := ClsIn.put (B := w.heap.size) (W := wr) ⟨⟨c0, c1, c2, c3⟩, hf⟩ hq HR.out (by decide)
        have HQ := Lib.hid HN
        clear hq HN
        have ho := or_bit _ r l2 hr64
        go_wp2
        go_region
        go_wp2
        go_roundw
        case rel => exact ⟨k + 1, by omega, by omega, by omega, by simp, by rw [HE.out]; exact HQ.out.drew, (hB.setCell (p := ⟨w.heap.size, 2, none⟩) (Nat.le_refl _) _).drew⟩
        case measure => simp [intOf]; omega
      · have hqi : (k : Int) / 64 = 3 := by omega
        have HN := ClsIn.put (B := w.heap.size) (W := wr) ⟨⟨c0, c1, c2, c3⟩, hf⟩ hq HR.out (by decide)
        have HQ := Lib.hid HN
        clear hq HN
        have ho := or_bit _ r l3 hr64
        go_wp2
        go_region
        go_wp2
        go_roundw
        case rel => exact ⟨k + 1, by omega, by omega, by omega, by simp, by rw [HE.out]; exact HQ.out.drew, (hB.setCell (p := ⟨w.heap.size, 3, none⟩) (Nat.le_refl _) _).drew⟩
        case measure => simp [intOf]; omega
    · have e : List.range' low (k - low) = rng low high := by unfold rng; congr 1; omega
      rw [e] at hcl
      clear e
      obtain ⟨⟨c0, c1, c2, c3⟩, hf⟩ := hcl
      go_wp2
      have hF := stored_at (B := w.heap.size) (a0 := cw (rng low high) 0) (a1 := cw (rng low high) 1) (a2 := cw (rng low high) 2) (a3 := cw (rng low high) 3) (W := wr) (by rw [c0]; rfl) (by rw [c1]; rfl) (by rw [c2]; rfl) (by rw [c3]; rfl)
      have hBf := stored_below (B := w.heap.size) (a0 := cw (rng low high) 0) (a1 := cw (rng low high) 1) (a2 := cw (rng low high) 2) (a3 := cw (rng low high) 3) hB (Nat.le_refl _)
      unfold stored at hF hBf
      generalize ((((wr.setCell ⟨w.heap.size, 0, none⟩ (.int .u64 (cw (rng low high) 0 : Nat))).setCell ⟨w.heap.size, 1, none⟩ (.int .u64 (cw (rng low high) 1 : Nat))).setCell ⟨w.heap.size, 2, none⟩ (.int .u64 (cw (rng low high) 2 : Nat))).setCell ⟨w.heap.size, 3, none⟩ (.int .u64 (cw (rng low high) 3 : Nat))) = Wf at hF hBf ⊢
      obtain ⟨d0, d1, d2, d3⟩ := hF
      exact bodyPost_ret (v := .agg #[.int .u64 (cw (rng low high) 0 : Nat), .int .u64 (cw (rng low high) 1 : Nat), .int .u64 (cw (rng low high) 2 : Nat), .int .u64 (cw (rng low high) 3 : Nat)]) (by simp [results, Tryd.results20, go_sem, d0, d1, d2, d3]) rfl ⟨rfl, hBf⟩
end Go.Proofs.YtjaabolpdelbiaaDoor
