import Derived.Test.YtaadkdmbhckdeaaDoorK1
import Derived.RangeFuncNested
import Derived.RangeFuncBound
import Derived.RangeFuncCalls
import Derived.RangeFuncBox
import Derived.RangeFuncLeaves
import Derived.Shelf.Abstract
import Derived.Shelf.RegionOpen
import Derived.WalkKit
import Derived.OwnWalkIn
import Derived.TacticsInMore
import Derived.LoopNIn
import Derived.LoopIn
import Derived.Maps.AppendAt
import Derived.Laws.Bits64b
import Derived.Lib.Hide
import Derived.Test.YtaadkdmbhckdeaaDoorProg
namespace Go.Proofs.YtaadkdmbhckdeaaDoor
open Go Go.Proofs Go.RowKit Go.Shelf
attribute [local go_sem] Oper.semAt_some

/-- The table lies. -/
def TabAt (w : World) : Prop := ∀ j, j < 64 → w.cell? ⟨0, j, none⟩ = some (.int .u8 (Lib.deBruijn64tab.getD j 0 : Nat))
theorem TabAt.below {n : Nat} {w w' : World} (h : TabAt w) (hb : Below n w w') (hn : 0 < n) : TabAt w' := fun j hj => (hb.cell (p := ⟨0, j, none⟩) hn).trans (h j hj)

set_option maxHeartbeats 1000000 in
theorem tz64_core (F : Fence) (n : Nat) (hF : F.fn 43) (hro : F.round = none) (x k idx : Nat) (w : World) (hx0 : ((x : Int) == 0) = false)
    (key : IntKind.u64.wrap (bits BinOp.and IntKind.u64 (x : Int) (IntKind.u64.wrap (-(x : Int))) * 285870213051353865) / 288230376151711744 = (idx : Int))
    (hi : idx < 64) (hk : k < 64) (hcell : w.cell? ⟨0, idx, none⟩ = some (.int .u8 k)) :
    CallsIn F n Tryd.prog 43 #[.int .u64 x] w fun e w' => e = .returned (.int .i64 k) ∧ w' = w := by
  refine callsIn_of_wp Tryd.func43 rfl hF ?_ hro
  simp only [Tryd.ntmps43, List.size_toArray, List.length_cons, List.length_nil, Nat.reduceAdd, Nat.reduceSub, Array.replicate_succ, Array.replicate_zero, List.push_toArray, List.append_toArray, List.nil_append, List.cons_append]
  gi_wp2_with (simp only [key])
  go_ret
  exact ⟨rfl, rfl⟩

theorem tz64_key (x a : Nat) (hx : x < 18446744073709551616) (hx0 : x ≠ 0) (hlow : x &&& (18446744073709551616 - x) = a) :
    IntKind.u64.wrap (bits BinOp.and IntKind.u64 (x : Int) (IntKind.u64.wrap (-(x : Int))) * 285870213051353865) / 288230376151711744 = ((a * 285870213051353865 % 18446744073709551616 / 288230376151711744 : Nat) : Int) := by
  have e1 : IntKind.u64.wrap (-(x : Int)) = ((18446744073709551616 - x : Nat) : Int) := by rw [IntKind.wrap_u64]; omega
  rw [e1, bits_and_u64_nat x _ hx (by omega), hlow, IntKind.wrap_u64]
  omega

/-- math/bits.TrailingZeros64 at what is not 0. -/
theorem tz64_in (F : Fence) (n : Nat) (hF : F.fn 43) (hro : F.round = none) (x : Nat) (hx : x < 18446744073709551616) (hx0 : x ≠ 0) (w : World) (hT : TabAt w) :
    CallsIn F n Tryd.prog 43 #[.int .u64 x] w fun e w' => e = .returned (.int .i64 (Lib.ctz 64 x : Nat)) ∧ w' = w := by
  obtain ⟨hlow, hk⟩ := Lib.lowest_bit 64 x hx0 hx
  obtain ⟨hi, htab⟩ := Lib.deBruijn64_at _ hk
  have hcell := hT _ hi
  rw [htab] at hcell
  exact tz64_core F n hF hro x _ _ w (by simp; omega) (tz64_key x _ hx hx0 hlow) hi hk hcell

/-- A class lies in block b. -/
def ClsAt (b a0 a1 a2 a3 : Nat) (W : World) : Prop :=
  W.cell? ⟨b, 0, none⟩ = some (.int .u64 (a0 : Nat)) ∧ W.cell? ⟨b, 1, none⟩ = some (.int .u64 (a1 : Nat)) ∧ W.cell? ⟨b, 2, none⟩ = some (.int .u64 (a2 : Nat)) ∧ W.cell? ⟨b, 3, none⟩ = some (.int .u64 (a3 : Nat))


theorem idx0 (x0 x1 x2 x3 : Value) (w : World) : (Instr.index 50 (.agg #[x0, x1, x2, x3]) (.int .i64 0)).run Tryd.prog w = .ok x0 w := by kernel_rfl
theorem idx1 (x0 x1 x2 x3 : Value) (w : World) : (Instr.index 50 (.agg #[x0, x1, x2, x3]) (.int .i64 1)).run Tryd.prog w = .ok x1 w := by kernel_rfl
theorem idx2 (x0 x1 x2 x3 : Value) (w : World) : (Instr.index 50 (.agg #[x0, x1, x2, x3]) (.int .i64 2)).run Tryd.prog w = .ok x2 w := by kernel_rfl
theorem idx3 (x0 x1 x2 x3 : Value) (w : World) : (Instr.index 50 (.agg #[x0, x1, x2, x3]) (.int .i64 3)).run Tryd.prog w = .ok x3 w := by kernel_rfl

def natOfV (v : Value) : Nat := (intOf v).toNat

set_option maxRecDepth 100000 in
set_option maxHeartbeats 4000000 in
/-- class.Each's closure: all bytes of the class, rising; or, left early, a part of them. -/
theorem each1_in (F : Fence) (n : Nat) (h42 : F.fn 42) (h43 : F.fn 43) (hro : F.round = none) (hn : 1 ≤ n) (l b n₀ a0 a1 a2 a3 : Nat) (hw : wlt a0 a1 a2 a3) (hb : 0 < n₀) (J Jx : List Nat → World → Prop)
    (hY : ∀ pre (x : Nat) W, J pre W → pre.length < 256 → x < 256 → YieldAt F (n - 1) Tryd.prog l #[.int .u8 (x : Nat)] W fun e W' =>
      (e = .returned (.bool true) ∧ J (pre ++ [x]) W' ∧ Below n₀ W W') ∨ (e = .returned (.bool false) ∧ Jx (pre ++ [x]) W'))
    (W : World) (hT : TabAt W) (hC : ClsAt b a0 a1 a2 a3 W) (h0 : J [] W) :
    CallsIn F n Tryd.prog 42 #[.func (.yield l) #[] #[], .pointer (some ⟨b, 0, none⟩)] W fun e W' => (∃ v, e = .returned v) ∧
      ((∃ ys, ys = bytesB a0 a1 a2 a3 ∧ J ys W') ∨ (∃ pre, (∃ k, k ≤ 256 ∧ pre = upB a0 a1 a2 a3 k) ∧ Jx pre W')) := by
  obtain ⟨c0, c1, c2, c3⟩ := hC
  refine callsIn_of_wp Tryd.func42 rfl h42 ?_ hro
  simp only [Tryd.ntmps42, List.size_toArray, List.length_cons, List.length_nil, Nat.reduceAdd, Nat.reduceSub, Array.replicate_succ, Array.replicate_zero, List.push_toArray, List.append_toArray, List.nil_append, List.cons_append]
  gi_wp2
  gi_loopw [6] (fun i wr => ∃ (k : Nat) (z : Int), z = k ∧ k ≤ 4 ∧ i = .int .i64 z ∧ J (upB a0 a1 a2 a3 (64 * k)) wr ∧ Below n₀ W wr)
    (fun i _ => 4 - (intOf i).toNat)
  case atStart => exact ⟨0, 0, rfl, Nat.zero_le _, rfl, h0, Below.refl _ _⟩
  case round =>
    obtain ⟨k, z, hz, hk, rfl, hJs, hnx⟩ := hrel
    by_cases hlt : k < 4
    · obtain rfl | rfl | rfl | rfl : k = 0 ∨ k = 1 ∨ k = 2 ∨ k = 3 := by omega
      · have hi := idx0
        obtain rfl : z = 0 := by omega
        clear hz
        gi_wp2
        gi_loopw [4] (fun v wr => ∃ x t : Nat, t ≤ 64 ∧ x < 18446744073709551616 ∧ v = .int .u64 (x : Nat) ∧ (∀ j, x.testBit j = (decide (t ≤ j) && (wd a0 a1 a2 a3 0).testBit j)) ∧ J (upB a0 a1 a2 a3 (64 * 0 + t)) wr ∧ Below n₀ W wr)
          (fun v _ => natOfV v)
        case atStart => exact ⟨a0, 0, by omega, hw 0, rfl, by simp [wd], hJs, hnx⟩
        case round =>
          clear hi hJs hnx
          obtain ⟨x, t, ht, hx, rfl, hbits, hJx, hnx⟩ := hrel
          by_cases hx0 : x = 0
          · subst hx0
            have hu := upB_end a0 a1 a2 a3 0 t ht hbits
            clear hbits
            gi_wp2
            exact ⟨⟨0 + 1, _, rfl, by omega, rfl, by rw [hu]; exact hJx, hnx⟩, by simp [intOf]⟩
          · obtain ⟨hk64, hb1, hb2⟩ := ctz_bits x hx0 hx
            obtain ⟨hle, hup⟩ := upB_low a0 a1 a2 a3 0 t x hx0 hx hbits
            obtain ⟨hdl, hdb⟩ := drop_low x hx0 hx
            have hTr := hT.below hnx (by omega)
            obtain ⟨fn, tmps, assign, body, hy, hR⟩ := hY _ (64 * 0 + Lib.ctz 64 x) wr hJx (by have := upB_len a0 a1 a2 a3 (64 * 0 + t); omega) (by omega)
            have HU := Lib.hid hup
            have HDB := Lib.hid hdb
            have HB := Lib.hid hbits
            clear hup hdb hbits hb1 hb2
            have hxne : ((x : Int) == 0) = false := by simp; omega
            have hxne' : ((x : Int) != 0) = true := by simp; omega
            generalize hc : Lib.ctz 64 x = c at *
            have HC := Lib.hid hc
            clear hc
            have e1 : ((64 * 0 + c : Nat) : Int) = (c : Int) := by omega
            rw [e1] at hy
            clear e1
            gi_wp2_with (gi_at_call 43; refine (tz64_in F (n - 1) h43 hro x hx hx0 _ hTr).mono ?_; rintro e w' ⟨rfl, rfl⟩; rw [HC.out])
            refine hR.mono ?_
            rintro e W3 (⟨rfl, hJ3, hk3⟩ | ⟨rfl, hJx3⟩)
            · have hsub : IntKind.u64.wrap ((x : Int) - 1) = ((x - 1 : Nat) : Int) := by rw [IntKind.wrap_u64]; omega
              have hand := bits_and_u64_nat x (x - 1) hx (by omega)
              gi_wp2
              go_roundw
              case rel => exact ⟨x &&& (x - 1), c + 1, by omega, by omega, rfl, left_step HB.out HDB.out hle, by rw [HU.out]; exact hJ3, hnx.trans hk3⟩
              case measure => simp only [natOfV, intOf]; simpa using hdl
            · gi_wp2
              refine bodyPost_ret (results_none rfl _ _ _) rfl ?_
              exact ⟨⟨_, rfl⟩, .inr ⟨_, ⟨64 * 0 + (c + 1), by omega, HU.out.symm⟩, hJx3⟩⟩
      · have hi := idx1
        obtain rfl : z = 1 := by omega
        clear hz
        gi_wp2
        gi_loopw [4] (fun v wr => ∃ x t : Nat, t ≤ 64 ∧ x < 18446744073709551616 ∧ v = .int .u64 (x : Nat) ∧ (∀ j, x.testBit j = (decide (t ≤ j) && (wd a0 a1 a2 a3 1).testBit j)) ∧ J (upB a0 a1 a2 a3 (64 * 1 + t)) wr ∧ Below n₀ W wr)
          (fun v _ => natOfV v)
        case atStart => exact ⟨a1, 0, by omega, hw 1, rfl, by simp [wd], hJs, hnx⟩
        case round =>
          clear hi hJs hnx
          obtain ⟨x, t, ht, hx, rfl, hbits, hJx, hnx⟩ := hrel
          by_cases hx0 : x = 0
          · subst hx0
            have hu := upB_end a0 a1 a2 a3 1 t ht hbits
            clear hbits
            gi_wp2
            exact ⟨⟨1 + 1, _, rfl, by omega, rfl, by rw [hu]; exact hJx, hnx⟩, by simp [intOf]⟩
          · obtain ⟨hk64, hb1, hb2⟩ := ctz_bits x hx0 hx
            obtain ⟨hle, hup⟩ := upB_low a0 a1 a2 a3 1 t x hx0 hx hbits
            obtain ⟨hdl, hdb⟩ := drop_low x hx0 hx
            have hTr := hT.below hnx (by omega)
            obtain ⟨fn, tmps, assign, body, hy, hR⟩ := hY _ (64 * 1 + Lib.ctz 64 x) wr hJx (by have := upB_len a0 a1 a2 a3 (64 * 1 + t); omega) (by omega)
            have HU := Lib.hid hup
            have HDB := Lib.hid hdb
            have HB := Lib.hid hbits
            clear hup hdb hbits hb1 hb2
            have hxne : ((x : Int) == 0) = false := by simp; omega
            have hxne' : ((x : Int) != 0) = true := by simp; omega
            generalize hc : Lib.ctz 64 x = c at *
            have HC := Lib.hid hc
            clear hc
            have e1 : ((64 * 1 + c : Nat) : Int) = 64 + (c : Int) := by omega
            rw [e1] at hy
            clear e1
            gi_wp2_with (gi_at_call 43; refine (tz64_in F (n - 1) h43 hro x hx hx0 _ hTr).mono ?_; rintro e w' ⟨rfl, rfl⟩; rw [HC.out])
            refine hR.mono ?_
            rintro e W3 (⟨rfl, hJ3, hk3⟩ | ⟨rfl, hJx3⟩)
            · have hsub : IntKind.u64.wrap ((x : Int) - 1) = ((x - 1 : Nat) : Int) := by rw [IntKind.wrap_u64]; omega
              have hand := bits_and_u64_nat x (x - 1) hx (by omega)
              gi_wp2
              go_roundw
              case rel => exact ⟨x &&& (x - 1), c + 1, by omega, by omega, rfl, left_step HB.out HDB.out hle, by rw [HU.out]; exact hJ3, hnx.trans hk3⟩
              case measure => simp only [natOfV, intOf]; simpa using hdl
            · gi_wp2
              refine bodyPost_ret (results_none rfl _ _ _) rfl ?_
              exact ⟨⟨_, rfl⟩, .inr ⟨_, ⟨64 * 1 + (c + 1), by omega, HU.out.symm⟩, hJx3⟩⟩
      · have hi := idx2
        obtain rfl : z = 2 := by omega
        clear hz
        gi_wp2
        gi_loopw [4] (fun v wr => ∃ x t : Nat, t ≤ 64 ∧ x < 18446744073709551616 ∧ v = .int .u64 (x : Nat) ∧ (∀ j, x.testBit j = (decide (t ≤ j) && (wd a0 a1 a2 a3 2).testBit j)) ∧ J (upB a0 a1 a2 a3 (64 * 2 + t)) wr ∧ Below n₀ W wr)
          (fun v _ => natOfV v)
        case atStart => exact ⟨a2, 0, by omega, hw 2, rfl, by simp [wd], hJs, hnx⟩
        case round =>
          clear hi hJs hnx
          obtain ⟨x, t, ht, hx, rfl, hbits, hJx, hnx⟩ := hrel
          by_cases hx0 : x = 0
          · subst hx0
            have hu := upB_end a0 a1 a2 a3 2 t ht hbits
            clear hbits
            gi_wp2
            exact ⟨⟨2 + 1, _, rfl, by omega, rfl, by rw [hu]; exact hJx, hnx⟩, by simp [intOf]⟩
          · obtain ⟨hk64, hb1, hb2⟩ := ctz_bits x hx0 hx
            obtain ⟨hle, hup⟩ := upB_low a0 a1 a2 a3 2 t x hx0 hx hbits
            obtain ⟨hdl, hdb⟩ := drop_low x hx0 hx
            have hTr := hT.below hnx (by omega)
            obtain ⟨fn, tmps, assign, body, hy, hR⟩ := hY _ (64 * 2 + Lib.ctz 64 x) wr hJx (by have := upB_len a0 a1 a2 a3 (64 * 2 + t); omega) (by omega)
            have HU := Lib.hid hup
            have HDB := Lib.hid hdb
            have HB := Lib.hid hbits
            clear hup hdb hbits hb1 hb2
            have hxne : ((x : Int) == 0) = false := by simp; omega
            have hxne' : ((x : Int) != 0) = true := by simp; omega
            generalize hc : Lib.ctz 64 x = c at *
            have HC := Lib.hid hc
            clear hc
            have e1 : ((64 * 2 + c : Nat) : Int) = 128 + (c : Int) := by omega
            rw [e1] at hy
            clear e1
            gi_wp2_with (gi_at_call 43; refine (tz64_in F (n - 1) h43 hro x hx hx0 _ hTr).mono ?_; rintro e w' ⟨rfl, rfl⟩; rw [HC.out])
            refine hR.mono ?_
            rintro e W3 (⟨rfl, hJ3, hk3⟩ | ⟨rfl, hJx3⟩)
            · have hsub : IntKind.u64.wrap ((x : Int) - 1) = ((x - 1 : Nat) : Int) := by rw [IntKind.wrap_u64]; omega
              have hand := bits_and_u64_nat x (x - 1) hx (by omega)
              gi_wp2
              go_roundw
              case rel => exact ⟨x &&& (x - 1), c + 1, by omega, by omega, rfl, left_step HB.out HDB.out hle, by rw [HU.out]; exact hJ3, hnx.trans hk3⟩
              case measure => simp only [natOfV, intOf]; simpa using hdl
            · gi_wp2
              refine bodyPost_ret (results_none rfl _ _ _) rfl ?_
              exact ⟨⟨_, rfl⟩, .inr ⟨_, ⟨64 * 2 + (c + 1), by omega, HU.out.symm⟩, hJx3⟩⟩
      · have hi := idx3
        obtain rfl : z = 3 := by omega
        clear hz
        gi_wp2
        gi_loopw [4] (fun v wr => ∃ x t : Nat, t ≤ 64 ∧ x < 18446744073709551616 ∧ v = .int .u64 (x : Nat) ∧ (∀ j, x.testBit j = (decide (t ≤ j) && (wd a0 a1 a2 a3 3).testBit j)) ∧ J (upB a0 a1 a2 a3 (64 * 3 + t)) wr ∧ Below n₀ W wr)
          (fun v _ => natOfV v)
        case atStart => exact ⟨a3, 0, by omega, hw 3, rfl, by simp [wd], hJs, hnx⟩
        case round =>
          clear hi hJs hnx
          obtain ⟨x, t, ht, hx, rfl, hbits, hJx, hnx⟩ := hrel
          by_cases hx0 : x = 0
          · subst hx0
            have hu := upB_end a0 a1 a2 a3 3 t ht hbits
            clear hbits
            gi_wp2
            exact ⟨⟨3 + 1, _, rfl, by omega, rfl, by rw [hu]; exact hJx, hnx⟩, by simp [intOf]⟩
          · obtain ⟨hk64, hb1, hb2⟩ := ctz_bits x hx0 hx
            obtain ⟨hle, hup⟩ := upB_low a0 a1 a2 a3 3 t x hx0 hx hbits
            obtain ⟨hdl, hdb⟩ := drop_low x hx0 hx
            have hTr := hT.below hnx (by omega)
            obtain ⟨fn, tmps, assign, body, hy, hR⟩ := hY _ (64 * 3 + Lib.ctz 64 x) wr hJx (by have := upB_len a0 a1 a2 a3 (64 * 3 + t); omega) (by omega)
            have HU := Lib.hid hup
            have HDB := Lib.hid hdb
            have HB := Lib.hid hbits
            clear hup hdb hbits hb1 hb2
            have hxne : ((x : Int) == 0) = false := by simp; omega
            have hxne' : ((x : Int) != 0) = true := by simp; omega
            generalize hc : Lib.ctz 64 x = c at *
            have HC := Lib.hid hc
            clear hc
            have e1 : ((64 * 3 + c : Nat) : Int) = 192 + (c : Int) := by omega
            rw [e1] at hy
            clear e1
            gi_wp2_with (gi_at_call 43; refine (tz64_in F (n - 1) h43 hro x hx hx0 _ hTr).mono ?_; rintro e w' ⟨rfl, rfl⟩; rw [HC.out])
            refine hR.mono ?_
            rintro e W3 (⟨rfl, hJ3, hk3⟩ | ⟨rfl, hJx3⟩)
            · have hsub : IntKind.u64.wrap ((x : Int) - 1) = ((x - 1 : Nat) : Int) := by rw [IntKind.wrap_u64]; omega
              have hand := bits_and_u64_nat x (x - 1) hx (by omega)
              gi_wp2
              go_roundw
              case rel => exact ⟨x &&& (x - 1), c + 1, by omega, by omega, rfl, left_step HB.out HDB.out hle, by rw [HU.out]; exact hJ3, hnx.trans hk3⟩
              case measure => simp only [natOfV, intOf]; simpa using hdl
            · gi_wp2
              refine bodyPost_ret (results_none rfl _ _ _) rfl ?_
              exact ⟨⟨_, rfl⟩, .inr ⟨_, ⟨64 * 3 + (c + 1), by omega, HU.out.symm⟩, hJx3⟩⟩
    · obtain rfl : k = 4 := by omega
      obtain rfl : z = 4 := by omega
      clear hz
      gi_wp2
      go_end0
      exact ⟨⟨_, rfl⟩, .inl ⟨_, rfl, hJs⟩⟩
end Go.Proofs.YtaadkdmbhckdeaaDoor
