/- class.Least, and the order that class.Split sorts by: what they lay is told exactly. -/
import Derived.Test.YtaadkdmbhckdeaaGreatDoorK1
import Derived.RangeFuncNested
import Derived.RangeFuncBound
import Derived.Shelf.RegionOpen
import Derived.WalkKit
import Derived.OwnWalkIn
import Derived.LoopNIn
import Derived.LoopIn
import Derived.Maps.AppendAt
import Derived.Lib.Hide
import Derived.Test.YtaadkdmbhckdeaaGreatDoorProg
import Derived.Sort.Grow
namespace Go.Proofs.YtaadkdmbhckdeaaGreatDoor
open Go Go.Proofs Go.RowKit Go.Shelf
attribute [local go_sem] Oper.semAt_some
def TabAt (w : World) : Prop := ∀ j, j < 64 → w.cell? ⟨0, j, none⟩ = some (.int .u8 (Lib.deBruijn64tab.getD j 0 : Nat))
theorem TabAt.below {n : Nat} {w w' : World} (h : TabAt w) (hb : Below n w w') (hn : 0 < n) : TabAt w' := fun j hj => (hb.cell (p := ⟨0, j, none⟩) hn).trans (h j hj)
set_option maxHeartbeats 1000000 in
theorem tz64_core (F : Fence) (n : Nat) (hF : F.fn 49) (hro : F.round = none) (x k idx : Nat) (w : World) (hx0 : ((x : Int) == 0) = false)
  (key : IntKind.u64.wrap (bits BinOp.and IntKind.u64 (x : Int) (IntKind.u64.wrap (-(x : Int))) * 285870213051353865) / 288230376151711744 = (idx : Int))
  (hi : idx < 64) (hk : k < 64) (hcell : w.cell? ⟨0, idx, none⟩ = some (.int .u8 k)) :
  CallsIn F n Tryz.prog 49 #[.int .u64 x] w fun e w' => e = .returned (.int .i64 k) ∧ w' = w := by
 refine callsIn_of_wp Tryz.func49 rfl hF ?_ hro
 simp only [Tryz.ntmps49, List.size_toArray, List.length_cons, List.length_nil, Nat.reduceAdd, Nat.reduceSub, Array.replicate_succ, Array.replicate_zero, List.push_toArray, List.append_toArray, List.nil_append, List.cons_append]
 gi_wp2_with (simp only [key])
 go_ret
 exact ⟨rfl, rfl⟩
theorem tz64_key (x a : Nat) (hx : x < 18446744073709551616) (hx0 : x ≠ 0) (hlow : x &&& (18446744073709551616 - x) = a) :
  IntKind.u64.wrap (bits BinOp.and IntKind.u64 (x : Int) (IntKind.u64.wrap (-(x : Int))) * 285870213051353865) / 288230376151711744 = ((a * 285870213051353865 % 18446744073709551616 / 288230376151711744 : Nat) : Int) := by
 have e1 : IntKind.u64.wrap (-(x : Int)) = ((18446744073709551616 - x : Nat) : Int) := by rw [IntKind.wrap_u64]; omega
 rw [e1, bits_and_u64_nat x _ hx (by omega), hlow, IntKind.wrap_u64]
 omega
theorem tz64_in (F : Fence) (n : Nat) (hF : F.fn 49) (hro : F.round = none) (x : Nat) (hx : x < 18446744073709551616) (hx0 : x ≠ 0) (w : World) (hT : TabAt w) :
  CallsIn F n Tryz.prog 49 #[.int .u64 x] w fun e w' => e = .returned (.int .i64 (Lib.ctz 64 x : Nat)) ∧ w' = w := by
 obtain ⟨hlow, hk⟩ := Lib.lowest_bit 64 x hx0 hx
 obtain ⟨hi, htab⟩ := Lib.deBruijn64_at _ hk
 have hcell := hT _ hi
 rw [htab] at hcell
 exact tz64_core F n hF hro x _ _ w (by simp; omega) (tz64_key x _ hx hx0 hlow) hi hk hcell
def ClsAt (b a0 a1 a2 a3 : Nat) (W : World) : Prop :=
 W.cell? ⟨b, 0, none⟩ = some (.int .u64 (a0 : Nat)) ∧ W.cell? ⟨b, 1, none⟩ = some (.int .u64 (a1 : Nat)) ∧ W.cell? ⟨b, 2, none⟩ = some (.int .u64 (a2 : Nat)) ∧ W.cell? ⟨b, 3, none⟩ = some (.int .u64 (a3 : Nat))
theorem idx0 (x0 x1 x2 x3 : Value) (w : World) : (Instr.index 55 (.agg #[x0, x1, x2, x3]) (.int .i64 0)).run Tryz.prog w = .ok x0 w := by kernel_rfl
theorem idx1 (x0 x1 x2 x3 : Value) (w : World) : (Instr.index 55 (.agg #[x0, x1, x2, x3]) (.int .i64 1)).run Tryz.prog w = .ok x1 w := by kernel_rfl
theorem idx2 (x0 x1 x2 x3 : Value) (w : World) : (Instr.index 55 (.agg #[x0, x1, x2, x3]) (.int .i64 2)).run Tryz.prog w = .ok x2 w := by kernel_rfl
theorem idx3 (x0 x1 x2 x3 : Value) (w : World) : (Instr.index 55 (.agg #[x0, x1, x2, x3]) (.int .i64 3)).run Tryz.prog w = .ok x3 w := by kernel_rfl
def natOfV (v : Value) : Nat := (intOf v).toNat
set_option maxRecDepth 100000 in
set_option maxHeartbeats 4000000 in
theorem each1_in (F : Fence) (n : Nat) (h42 : F.fn 48) (h43 : F.fn 49) (hro : F.round = none) (hn : 1 ≤ n) (l b n₀ a0 a1 a2 a3 : Nat) (hw : wlt a0 a1 a2 a3) (hb : 0 < n₀) (J Jx : List Nat → World → Prop)
  (hY : ∀ pre (x : Nat) W, J pre W → pre.length < 256 → x < 256 → YieldAt F (n - 1) Tryz.prog l #[.int .u8 (x : Nat)] W fun e W' =>
   (e = .returned (.bool true) ∧ J (pre ++ [x]) W' ∧ Below n₀ W W') ∨ (e = .returned (.bool false) ∧ Jx (pre ++ [x]) W'))
  (W : World) (hT : TabAt W) (hC : ClsAt b a0 a1 a2 a3 W) (h0 : J [] W) :
  CallsIn F n Tryz.prog 48 #[.func (.yield l) #[] #[], .pointer (some ⟨b, 0, none⟩)] W fun e W' => (∃ v, e = .returned v) ∧
   ((∃ ys, ys = bytesB a0 a1 a2 a3 ∧ J ys W') ∨ (∃ pre, (∃ k, k ≤ 256 ∧ pre = upB a0 a1 a2 a3 k) ∧ Jx pre W')) := by
 obtain ⟨c0, c1, c2, c3⟩ := hC
 refine callsIn_of_wp Tryz.func48 rfl h42 ?_ hro
 simp only [Tryz.ntmps48, List.size_toArray, List.length_cons, List.length_nil, Nat.reduceAdd, Nat.reduceSub, Array.replicate_succ, Array.replicate_zero, List.push_toArray, List.append_toArray, List.nil_append, List.cons_append]
 gi_wp2
 gi_loopw [6] (fun i wr => ∃ (k : Nat) (z : Int), z = k ∧ k ≤ 4 ∧ i = .int .i64 z ∧ J (upB a0 a1 a2 a3 (64 * k)) wr ∧ Below n₀ W wr)
  (fun i _ => 4 - (intOf i).toNat)
 case atStart => exact ⟨0, 0, rfl, Nat.zero_le _, rfl, h0, Below.refl _ _⟩
 case round =>
  obtain ⟨k, z, hz, hk, rfl, hJs, hnx⟩ := hrel
  by_cases hlt : k < 4
  · obtain rfl | rfl | rfl | rfl : k = 0 ∨ k = 1 ∨ k = 2 ∨ k = 3 := by omega
    · have hi := idx0
      obtain rfl : z = 0 := by omega
      clear hz
      gi_wp2
      gi_loopw [4] (fun v wr => ∃ x t : Nat, t ≤ 64 ∧ x < 18446744073709551616 ∧ v = .int .u64 (x : Nat) ∧ (∀ j, x.testBit j = (decide (t ≤ j) && (wd a0 a1 a2 a3 0).testBit j)) ∧ J (upB a0 a1 a2 a3 (64 * 0 + t)) wr ∧ Below n₀ W wr)
       (fun v _ => natOfV v)
      case atStart => exact ⟨a0, 0, by omega, hw 0, rfl, by simp [wd], hJs, hnx⟩
      case round =>
       clear hi hJs hnx
       obtain ⟨x, t, ht, hx, rfl, hbits, hJx, hnx⟩ := hrel
       by_cases hx0 : x = 0
       · subst hx0
         have hu := upB_end a0 a1 a2 a3 0 t ht hbits
         clear hbits
         gi_wp2
         exact ⟨⟨0 + 1, _, rfl, by omega, rfl, by rw [hu]; exact hJx, hnx⟩, by simp [intOf]⟩
       · obtain ⟨hk64, hb1, hb2⟩ := ctz_bits x hx0 hx
         obtain ⟨hle, hup⟩ := upB_low a0 a1 a2 a3 0 t x hx0 hx hbits
         obtain ⟨hdl, hdb⟩ := drop_low x hx0 hx
         have hTr := hT.below hnx (by omega)
         obtain ⟨fn, tmps, assign, body, hy, hR⟩ := hY _ (64 * 0 + Lib.ctz 64 x) wr hJx (by have := upB_len a0 a1 a2 a3 (64 * 0 + t); omega) (by omega)
         have HU := Lib.hid hup
         have HDB := Lib.hid hdb
         have HB := Lib.hid hbits
         clear hup hdb hbits hb1 hb2
         have hxne : ((x : Int) == 0) = false := by simp; omega
         have hxne' : ((x : Int) != 0) = true := by simp; omega
         generalize hc : Lib.ctz 64 x = c at *
         have HC := Lib.hid hc
         clear hc
         have e1 : ((64 * 0 + c : Nat) : Int) = (c : Int) := by omega
         rw [e1] at hy
         clear e1
         gi_wp2_with (gi_at_call 49; refine (tz64_in F (n - 1) h43 hro x hx hx0 _ hTr).mono ?_; rintro e w' ⟨rfl, rfl⟩; rw [HC.out])
         refine hR.mono ?_
         rintro e W3 (⟨rfl, hJ3, hk3⟩ | ⟨rfl, hJx3⟩)
         · have hsub : IntKind.u64.wrap ((x : Int) - 1) = ((x - 1 : Nat) : Int) := by rw [IntKind.wrap_u64]; omega
           have hand := bits_and_u64_nat x (x - 1) hx (by omega)
           gi_wp2
           go_roundw
           case rel => exact ⟨x &&& (x - 1), c + 1, by omega, by omega, rfl, left_step HB.out HDB.out hle, by rw [HU.out]; exact hJ3, hnx.trans hk3⟩
           case measure => simp only [natOfV, intOf]; simpa using hdl
         · gi_wp2
           refine bodyPost_ret (results_none rfl _ _ _) rfl ?_
           exact ⟨⟨_, rfl⟩, .inr ⟨_, ⟨64 * 0 + (c + 1), by omega, HU.out.symm⟩, hJx3⟩⟩
    · have hi := idx1
      obtain rfl : z = 1 := by omega
      clear hz
      gi_wp2
      gi_loopw [4] (fun v wr => ∃ x t : Nat, t ≤ 64 ∧ x < 18446744073709551616 ∧ v = .int .u64 (x : Nat) ∧ (∀ j, x.testBit j = (decide (t ≤ j) && (wd a0 a1 a2 a3 1).testBit j)) ∧ J (upB a0 a1 a2 a3 (64 * 1 + t)) wr ∧ Below n₀ W wr)
       (fun v _ => natOfV v)
      case atStart => exact ⟨a1, 0, by omega, hw 1, rfl, by simp [wd], hJs, hnx⟩
      case round =>
       clear hi hJs hnx
       obtain ⟨x, t, ht, hx, rfl, hbits, hJx, hnx⟩ := hrel
       by_cases hx0 : x = 0
       · subst hx0
         have hu := upB_end a0 a1 a2 a3 1 t ht hbits
         clear hbits
         gi_wp2
         exact ⟨⟨1 + 1, _, rfl, by omega, rfl, by rw [hu]; exact hJx, hnx⟩, by simp [intOf]⟩
       · obtain ⟨hk64, hb1, hb2⟩ := ctz_bits x hx0 hx
         obtain ⟨hle, hup⟩ := upB_low a0 a1 a2 a3 1 t x hx0 hx hbits
         obtain ⟨hdl, hdb⟩ := drop_low x hx0 hx
         have hTr := hT.below hnx (by omega)
         obtain ⟨fn, tmps, assign, body, hy, hR⟩ := hY _ (64 * 1 + Lib.ctz 64 x) wr hJx (by have := upB_len a0 a1 a2 a3 (64 * 1 + t); omega) (by omega)
         have HU := Lib.hid hup
         have HDB := Lib.hid hdb
         have HB := Lib.hid hbits
         clear hup hdb hbits hb1 hb2
         have hxne : ((x : Int) == 0) = false := by simp; omega
         have hxne' : ((x : Int) != 0) = true := by simp; omega
         generalize hc : Lib.ctz 64 x = c at *
         have HC := Lib.hid hc
         clear hc
         have e1 : ((64 * 1 + c : Nat) : Int) = 64 + (c : Int) := by omega
         rw [e1] at hy
         clear e1
         gi_wp2_with (gi_at_call 49; refine (tz64_in F (n - 1) h43 hro x hx hx0 _ hTr).mono ?_; rintro e w' ⟨rfl, rfl⟩; rw [HC.out])
         refine hR.mono ?_
         rintro e W3 (⟨rfl, hJ3, hk3⟩ | ⟨rfl, hJx3⟩)
         · have hsub : IntKind.u64.wrap ((x : Int) - 1) = ((x - 1 : Nat) : Int) := by rw [IntKind.wrap_u64]; omega
           have hand := bits_and_u64_nat x (x - 1) hx (by omega)
           gi_wp2
           go_roundw
           case rel => exact ⟨x &&& (x - 1), c + 1, by omega, by omega, rfl, left_step HB.out HDB.out hle, by rw [HU.out]; exact hJ3, hnx.trans hk3⟩
           case measure => simp only [natOfV, intOf]; simpa using hdl
         · gi_wp2
           refine bodyPost_ret (results_none rfl _ _ _) rfl ?_
           exact ⟨⟨_, rfl⟩, .inr ⟨_, ⟨64 * 1 + (c + 1), by omega, HU.out.symm⟩, hJx3⟩⟩
    · have hi := idx2
      obtain rfl : z = 2 := by omega
      clear hz
      gi_wp2
      gi_loopw [4] (fun v wr => ∃ x t : Nat, t ≤ 64 ∧ x < 18446744073709551616 ∧ v = .int .u64 (x : Nat) ∧ (∀ j, x.testBit j = (decide (t ≤ j) && (wd a0 a1 a2 a3 2).testBit j)) ∧ J (upB a0 a1 a2 a3 (64 * 2 + t)) wr ∧ Below n₀ W wr)
       (fun v _ => natOfV v)
      case atStart => exact ⟨a2, 0, by omega, hw 2, rfl, by simp [wd], hJs, hnx⟩
      case round =>
       clear hi hJs hnx
       obtain ⟨x, t, ht, hx, rfl, hbits, hJx, hnx⟩ := hrel
       by_cases hx0 : x = 0
       · subst hx0
         have hu := upB_end a0 a1 a2 a3 2 t ht hbits
         clear hbits
         gi_wp2
         exact ⟨⟨2 + 1, _, rfl, by omega, rfl, by rw [hu]; exact hJx, hnx⟩, by simp [intOf]⟩
       · obtain ⟨hk64, hb1, hb2⟩ := ctz_bits x hx0 hx
         obtain ⟨hle, hup⟩ := upB_low a0 a1 a2 a3 2 t x hx0 hx hbits
         obtain ⟨hdl, hdb⟩ := drop_low x hx0 hx
         have hTr := hT.below hnx (by omega)
         obtain ⟨fn, tmps, assign, body, hy, hR⟩ := hY _ (64 * 2 + Lib.ctz 64 x) wr hJx (by have := upB_len a0 a1 a2 a3 (64 * 2 + t); omega) (by omega)
         have HU := Lib.hid hup
         have HDB := Lib.hid hdb
         have HB := Lib.hid hbits
         clear hup hdb hbits hb1 hb2
         have hxne : ((x : Int) == 0) = false := by simp; omega
         have hxne' : ((x : Int) != 0) = true := by simp; omega
         generalize hc : Lib.ctz 64 x = c at *
         have HC := Lib.hid hc
         clear hc
         have e1 : ((64 * 2 + c : Nat) : Int) = 128 + (c : Int) := by omega
         rw [e1] at hy
         clear e1
         gi_wp2_with (gi_at_call 49; refine (tz64_in F (n - 1) h43 hro x hx hx0 _ hTr).mono ?_; rintro e w' ⟨rfl, rfl⟩; rw [HC.out])
         refine hR.mono ?_
         rintro e W3 (⟨rfl, hJ3, hk3⟩ | ⟨rfl, hJx3⟩)
         · have hsub : IntKind.u64.wrap ((x : Int) - 1) = ((x - 1 : Nat) : Int) := by rw [IntKind.wrap_u64]; omega
           have hand := bits_and_u64_nat x (x - 1) hx (by omega)
           gi_wp2
           go_roundw
           case rel => exact ⟨x &&& (x - 1), c + 1, by omega, by omega, rfl, left_step HB.out HDB.out hle, by rw [HU.out]; exact hJ3, hnx.trans hk3⟩
           case measure => simp only [natOfV, intOf]; simpa using hdl
         · gi_wp2
           refine bodyPost_ret (results_none rfl _ _ _) rfl ?_
           exact ⟨⟨_, rfl⟩, .inr ⟨_, ⟨64 * 2 + (c + 1), by omega, HU.out.symm⟩, hJx3⟩⟩
    · have hi := idx3
      obtain rfl : z = 3 := by omega
      clear hz
      gi_wp2
      gi_loopw [4] (fun v wr => ∃ x t : Nat, t ≤ 64 ∧ x < 18446744073709551616 ∧ v = .int .u64 (x : Nat) ∧ (∀ j, x.testBit j = (decide (t ≤ j) && (wd a0 a1 a2 a3 3).testBit j)) ∧ J (upB a0 a1 a2 a3 (64 * 3 + t)) wr ∧ Below n₀ W wr)
       (fun v _ => natOfV v)
      case atStart => exact ⟨a3, 0, by omega, hw 3, rfl, by simp [wd], hJs, hnx⟩
      case round =>
       clear hi hJs hnx
       obtain ⟨x, t, ht, hx, rfl, hbits, hJx, hnx⟩ := hrel
       by_cases hx0 : x = 0
       · subst hx0
         have hu := upB_end a0 a1 a2 a3 3 t ht hbits
         clear hbits
         gi_wp2
         exact ⟨⟨3 + 1, _, rfl, by omega, rfl, by rw [hu]; exact hJx, hnx⟩, by simp [intOf]⟩
       · obtain ⟨hk64, hb1, hb2⟩ := ctz_bits x hx0 hx
         obtain ⟨hle, hup⟩ := upB_low a0 a1 a2 a3 3 t x hx0 hx hbits
         obtain ⟨hdl, hdb⟩ := drop_low x hx0 hx
         have hTr := hT.below hnx (by omega)
         obtain ⟨fn, tmps, assign, body, hy, hR⟩ := hY _ (64 * 3 + Lib.ctz 64 x) wr hJx (by have := upB_len a0 a1 a2 a3 (64 * 3 + t); omega) (by omega)
         have HU := Lib.hid hup
         have HDB := Lib.hid hdb
         have HB := Lib.hid hbits
         clear hup hdb hbits hb1 hb2
         have hxne : ((x : Int) == 0) = false := by simp; omega
         have hxne' : ((x : Int) != 0) = true := by simp; omega
         generalize hc : Lib.ctz 64 x = c at *
         have HC := Lib.hid hc
         clear hc
         have e1 : ((64 * 3 + c : Nat) : Int) = 192 + (c : Int) := by omega
         rw [e1] at hy
         clear e1
         gi_wp2_with (gi_at_call 49; refine (tz64_in F (n - 1) h43 hro x hx hx0 _ hTr).mono ?_; rintro e w' ⟨rfl, rfl⟩; rw [HC.out])
         refine hR.mono ?_
         rintro e W3 (⟨rfl, hJ3, hk3⟩ | ⟨rfl, hJx3⟩)
         · have hsub : IntKind.u64.wrap ((x : Int) - 1) = ((x - 1 : Nat) : Int) := by rw [IntKind.wrap_u64]; omega
           have hand := bits_and_u64_nat x (x - 1) hx (by omega)
           gi_wp2
           go_roundw
           case rel => exact ⟨x &&& (x - 1), c + 1, by omega, by omega, rfl, left_step HB.out HDB.out hle, by rw [HU.out]; exact hJ3, hnx.trans hk3⟩
           case measure => simp only [natOfV, intOf]; simpa using hdl
         · gi_wp2
           refine bodyPost_ret (results_none rfl _ _ _) rfl ?_
           exact ⟨⟨_, rfl⟩, .inr ⟨_, ⟨64 * 3 + (c + 1), by omega, HU.out.symm⟩, hJx3⟩⟩
  · obtain rfl : k = 4 := by omega
    obtain rfl : z = 4 := by omega
    clear hz
    gi_wp2
    go_end0
    exact ⟨⟨_, rfl⟩, .inl ⟨_, rfl, hJs⟩⟩
theorem ClsAt.below {n b a0 a1 a2 a3 : Nat} {w w' : World} (h : ClsAt b a0 a1 a2 a3 w) (hb : Below n w w') (hn : b < n) : ClsAt b a0 a1 a2 a3 w' :=
 ⟨(hb.cell (p := ⟨b, 0, none⟩) hn).trans h.1, (hb.cell (p := ⟨b, 1, none⟩) hn).trans h.2.1, (hb.cell (p := ⟨b, 2, none⟩) hn).trans h.2.2.1, (hb.cell (p := ⟨b, 3, none⟩) hn).trans h.2.2.2⟩
set_option maxHeartbeats 1000000 in
theorem each_calls (a0 a1 a2 a3 : Nat) (w : World) :
  Calls Tryz.prog 29 #[.agg #[.int .u64 a0, .int .u64 a1, .int .u64 a2, .int .u64 a3]] w fun e w' => e = .returned (.func (.func 48) #[] #[.pointer (some ⟨w.heap.size, 0, none⟩)]) ∧ w' = w.alloc (.cells #[.int .u64 a0, .int .u64 a1, .int .u64 a2, .int .u64 a3] 55) := by
 go_enter Tryz.func29, Tryz.ntmps29
 go_wp2
 go_ret
 exact ⟨rfl, rfl⟩
def BD (n : Nat) (w w' : World) : Prop := Below n w w' ∧ w'.drawn = w.drawn
theorem BD.refl (n : Nat) (w : World) : BD n w w := ⟨Below.refl _ _, rfl⟩
theorem BD.alloc {n : Nat} {w w' : World} (h : BD n w w') (hn : n ≤ w'.heap.size) (o : Obj) : BD n w (w'.alloc o) := ⟨h.1.alloc hn o, h.2⟩
theorem BD.setCell {n : Nat} {w w' : World} (h : BD n w w') (B i : Nat) (hn : n ≤ B) (v : Value) : BD n w (w'.setCell ⟨B, i, none⟩ v) := ⟨h.1.setCell (p := ⟨B, i, none⟩) hn v, h.2⟩
theorem BD.putObj {n : Nat} {w w' : World} (h : BD n w w') (l : Nat) (hn : n ≤ l) (o : Obj) : BD n w (w'.putObj l o) :=
 ⟨h.1.trans ⟨rfl, rfl, rfl, by simp [World.putObj], fun k hk => World.putObj_heap_other (by omega)⟩, h.2⟩
theorem BD.grow {w w' : World} (h : BD w.heap.size w w') : ∃ os, w' = Go.Sort.grow w os := by
 obtain ⟨⟨h1, h2, h3, h4, h5⟩, h6⟩ := h
 refine ⟨w'.heap.extract w.heap.size w'.heap.size, ?_⟩
 have hh : w'.heap = w.heap ++ w'.heap.extract w.heap.size w'.heap.size := by
  apply Array.ext_getElem?
  intro i
  rw [Array.getElem?_append]
  split
  · exact h5 i (by assumption)
  · rw [Array.getElem?_extract]
    split
    · congr 1
      omega
    · exact Array.getElem?_eq_none (by omega)
 cases w
 cases w'
 simp only [Go.Sort.grow] at *
 subst h1 h2 h3 h6
 congr 1
def lst (l : List Nat) : Nat := l.headD 0
theorem upB_pre (a0 a1 a2 a3 k : Nat) (hk : k ≤ 256) : ∃ t, bytesB a0 a1 a2 a3 = upB a0 a1 a2 a3 k ++ t := by
 have e : List.range 256 = List.range k ++ (List.range (256 - k)).map (k + ·) := by
  rw [← List.range_add]
  congr 1
  omega
 unfold bytesB upB
 rw [e, List.filter_append]
 exact ⟨_, rfl⟩
theorem range_once {g : Operand} {assign body : Code} {Q : Exit → Act → World → Prop} {a : Act} {W4 : World} {b : Nat} {t : Tmp} (hg : a.eval g = .func (.func 48) #[] #[.pointer (some ⟨b, 0, none⟩)])
  (a0 a1 a2 a3 : Nat) (hw : wlt a0 a1 a2 a3) (hT : TabAt W4) (hC : ClsAt b a0 a1 a2 a3 W4) (hb : b < W4.heap.size) (h0 : 0 < W4.heap.size) (I : Nat → World → Prop)
  (hI : ∀ x W l o, I x W → W4.heap.size ≤ l → I x (W.putObj l o))
  (hround : ∀ (l x : Nat) (W : World) (K : Act → World → Prop), x < 256 →
   (∀ a1 : Act, (∀ Wb, BD W4.heap.size W4 Wb → body.wpIn (Fence.wide.inRound l) 2 Tryz.prog (fun e _ W' => e = .ret ∧ I x W' ∧ ∀ k, W4.heap.size ≤ k → W'.heap[k]? = Wb.heap[k]?) a1 Wb) → K a1 W) →
   assign.wpIn (Fence.wide.inRound l) 2 Tryz.prog (Exit.then K (fun _ _ _ => False)) { tmps := a.tmps.setIfInBounds t (.int .u8 x), defers := [] } W)
  (hdone : bytesB a0 a1 a2 a3 = [] → ∀ (D : Nat) (W : World), W4.heap.size ≤ D → BD W4.heap.size W4 W → W.heap[D]? = some (.deferred (some [])) → Q .normal { a with defers := { target := .collected D, args := #[] } :: a.defers } W)
  (hstop : ∀ (x D : Nat) (W : World), bytesB a0 a1 a2 a3 = x :: (bytesB a0 a1 a2 a3).tail → W4.heap.size ≤ D → I x W → W.heap[D]? = some (.deferred (some [])) → Code.ret.wpIn Fence.wide 4 Tryz.prog Q { a with defers := { target := .collected D, args := #[] } :: a.defers } W) :
  (Code.rangeFunc g #[t] assign body).wpIn Fence.wide 4 Tryz.prog Q a W4 := by
 have eg : ∀ args w, (callFunc 48 args).run Tryz.prog w = .ok (.enter 48 args) w := enters_of Tryz.func48 (by kernel_rfl) rfl
 refine wpIn_rangeFunc ?_
 intro fn hfn
 obtain ⟨rec, hrec⟩ : ∃ rec : LoopState → Option Code → Loop, rec = fun st pe => { state := st, pending := pe, fn, tmps := a.tmps, params := #[t], assign, body, defers := W4.heap.size } := ⟨_, rfl⟩
 obtain ⟨W6, hW6⟩ : ∃ W6, (W4.alloc (.deferred (some []))).alloc (.loop (rec .ready none)) = W6 := ⟨_, rfl⟩
 have hL : W6.heap[W4.heap.size + 1]? = some (.loop (rec .ready none)) := by
  rw [← hW6]; have := World.alloc_heap_new (W4.alloc (.deferred (some []))) (.loop (rec .ready none)); rwa [World.size_alloc] at this
 have hD : W6.heap[W4.heap.size]? = some (.deferred (some [])) := by
  rw [← hW6]; exact (Below.heap_alloc _ _ _ (by simp)).trans (World.alloc_heap_new W4 _)
 have hB6 : BD W4.heap.size W4 W6 := by rw [← hW6]; exact ((BD.refl _ W4).alloc (Nat.le_refl _) _).alloc (by simp) _
 refine ⟨W4.heap.size + 1, [{ target := .collected W4.heap.size, args := #[] }], W6, { target := .fn (.func 48) #[.pointer (some ⟨b, 0, none⟩)], args := #[.func (.yield (W4.heap.size + 1)) #[] #[]] }, W6, 48,
  #[.func (.yield (W4.heap.size + 1)) #[] #[], .pointer (some ⟨b, 0, none⟩)], W6, ?_, ?_, fun _ _ => trivial, ?_, fun _ => by decide, ?_⟩
 · rw [← hW6, hrec]; exact run_enterLoop_outer _ _ _ _ _
 · simp only [resolve, hg]
   simp [go_sem]
 · simp [invoke, go_sem, eg]
 have hT6 : TabAt W6 := hT.below hB6.1 h0
 have hC6 : ClsAt b a0 a1 a2 a3 W6 := hC.below hB6.1 hb
 refine (each1_in Fence.wide 3 trivial trivial rfl (by decide) (W4.heap.size + 1) b 1 a0 a1 a2 a3 hw (by decide) (fun pre W => pre = [] ∧ W = W6)
  (fun pre W => ∃ x, pre = [x] ∧ I x W ∧ W.heap[W4.heap.size + 1]? = some (.loop (rec .done (some .ret))) ∧ W.heap[W4.heap.size]? = some (.deferred (some []))) ?_ W6 hT6 hC6 ⟨rfl, rfl⟩).mono ?_
 · rintro pre x W ⟨rfl, rfl⟩ - hx
   refine ⟨fn, _, assign, body, by have := run_yield (P := Tryz.prog) (args := #[.int .u8 (x : Nat)]) hL (by rw [hrec]; rfl); rw [hrec] at this; refine this.trans ?_; simp, roundIn_of_wpIn hfn (hround _ x W _ hx fun a1 hb1 => ⟨_, run_beginRound hL (by rw [hrec]), ?_⟩)⟩
   have hl2 : (W.putObj (W4.heap.size + 1) (.loop { rec .ready none with state := .busy })).heap[W4.heap.size + 1]? = some (.loop { rec .ready none with state := .busy }) := World.putObj_heap_same (Array.getElem?_eq_some_iff.1 hL).1
   have hk2 : (W.putObj (W4.heap.size + 1) (.loop { rec .ready none with state := .busy })).heap[W4.heap.size]? = some (.deferred (some [])) := (World.putObj_heap_other (by omega)).trans hD
   refine wpIn_mono (hb1 _ (hB6.putObj _ (by omega) _)) ?_
   rintro e a3 W3 ⟨rfl, hi, hk⟩
   have hl3 := (hk _ (by omega)).trans hl2
   refine ⟨_, _, run_endRound _ hl3, .inr ⟨rfl, x, rfl, hI _ _ _ _ hi (by omega), ?_, ?_⟩⟩
   · rw [hrec]; rw [hrec] at hl3; exact World.putObj_heap_same (Array.getElem?_eq_some_iff.1 hl3).1
   · exact (World.putObj_heap_other (by omega)).trans ((hk _ (by omega)).trans hk2)
 · rintro e W2 ⟨⟨v, rfl⟩, (⟨ys, hys, rfl, rfl⟩ | ⟨pre, ⟨k, hk, hp⟩, x, rfl, hi, hl, hd⟩)⟩
   · exact ⟨none, _, by have := run_endLoop (P := Tryz.prog) hL (by rw [hrec]; simp); rw [hrec] at this; exact this, hdone hys.symm _ _ (Nat.le_refl _) (hB6.putObj _ (by omega) _) ((World.putObj_heap_other (by omega)).trans hD)⟩
   · refine ⟨some .ret, _, by have := run_endLoop (P := Tryz.prog) hl (by rw [hrec]; simp); rw [hrec] at this; exact this, hstop x _ _ ?_ (Nat.le_refl _) (hI _ _ _ _ hi (by omega)) ((World.putObj_heap_other (by omega)).trans hd)⟩
     obtain ⟨tl, ht⟩ := upB_pre a0 a1 a2 a3 k hk
     rw [← hp] at ht
     rw [ht]
     rfl
set_option maxRecDepth 100000 in
set_option maxHeartbeats 4000000 in
theorem least_calls (a0 a1 a2 a3 : Nat) (hw : wlt a0 a1 a2 a3) (w : World) (hp : 0 < w.heap.size) (hT : TabAt w) :
  Calls Tryz.prog 27 #[.agg #[.int .u64 a0, .int .u64 a1, .int .u64 a2, .int .u64 a3]] w fun e w' => e = .returned (.tuple #[.int .u8 (lst (bytesB a0 a1 a2 a3) : Nat), .bool !(bytesB a0 a1 a2 a3).isEmpty]) ∧ BD w.heap.size w w' := by
 refine (callsIn_wide (n := 4)).1 ?_
 have h1 : 1 ≤ 4 := by omega
 have hE := fun W => callsIn_wide (n := 3) |>.2 (each_calls a0 a1 a2 a3 W)
 have h26 : Fence.wide.fn 29 := trivial
 have HE := Lib.hid hE
 clear hE
 obtain ⟨W4, hW4⟩ : ∃ W4, W4 = (((w.alloc (.cells #[.int .u64 a0, .int .u64 a1, .int .u64 a2, .int .u64 a3] 55)).alloc (.cells #[.int .u8 0] 5)).alloc (.cells #[.bool false] 4)).alloc (.cells #[.int .u64 a0, .int .u64 a1, .int .u64 a2, .int .u64 a3] 55) := ⟨_, rfl⟩
 have hsz : W4.heap.size = w.heap.size + 1 + 1 + 1 + 1 := by rw [hW4]; simp
 have hB4 : BD w.heap.size w W4 := by rw [hW4]; exact ((((BD.refl _ w).alloc (Nat.le_refl _) _).alloc (by simp) _).alloc (by simp; omega) _).alloc (by simp; omega) _
 have b1 : Boxed W4 (w.heap.size + 1) 5 (.int .u8 0) := by
  have := Boxed.new (w.alloc (.cells #[.int .u64 a0, .int .u64 a1, .int .u64 a2, .int .u64 a3] 55)) 5 (.int .u8 0)
  simp only [World.size_alloc] at this
  rw [hW4]; exact (this.alloc _).alloc _
 have b2 : Boxed W4 (w.heap.size + 1 + 1) 4 (.bool false) := by
  have := Boxed.new ((w.alloc (.cells #[.int .u64 a0, .int .u64 a1, .int .u64 a2, .int .u64 a3] 55)).alloc (.cells #[.int .u8 0] 5)) 4 (.bool false)
  simp only [World.size_alloc] at this
  rw [hW4]; exact this.alloc _
 have hC4 : ClsAt (w.heap.size + 1 + 1 + 1) a0 a1 a2 a3 W4 := by rw [hW4]; exact ⟨by go_simp, by go_simp, by go_simp, by go_simp⟩
 have hT4 := hT.below hB4.1 hp
 have HW := Lib.hid hW4
 have HS := Lib.hid hsz
 clear hW4 hsz hT
 refine callsIn_of_wp_marks (F := Fence.wide) Tryz.func27 rfl trivial ?_ rfl
 simp only [Tryz.ntmps27, List.size_toArray, List.length_cons, List.length_nil, Nat.reduceAdd, Nat.reduceSub, Array.replicate_succ, Array.replicate_zero, List.push_toArray, List.append_toArray, List.nil_append, List.cons_append]
 gi_wp2_with (gi_at_call 29; refine (HE.out _).mono ?_; rintro e w' ⟨rfl, rfl⟩)
 rw [← HW.out]
 refine range_once (b := w.heap.size + 1 + 1 + 1) (by rfl) a0 a1 a2 a3 hw hT4 hC4 (by rw [HS.out]; omega) (by rw [HS.out]; omega)
  (fun x W => BD w.heap.size w W ∧ Boxed W (w.heap.size + 1) 5 (.int .u8 (x : Nat)) ∧ Boxed W (w.heap.size + 1 + 1) 4 (.bool true)) ?_ ?_ ?_ ?_
 · rintro x W l o ⟨h1, h2, h3⟩ hl
   rw [HS.out] at hl
   exact ⟨h1.putObj _ (by omega) _, (World.putObj_heap_other (by omega)).trans h2, (World.putObj_heap_other (by omega)).trans h3⟩
 · intro l x W K hx hK
   gi_wp2
   intro Wb hWb
   have hs4 := HS.out
   have d1 : Boxed Wb (w.heap.size + 1) 5 (.int .u8 0) := (hWb.1.block _ (by omega)).trans b1
   have d2 : Boxed Wb (w.heap.size + 1 + 1) 4 (.bool false) := (hWb.1.block _ (by omega)).trans b2
   have c1 := d1.cell; have f1 := d1.frozen; have c2 := d2.cell; have f2 := d2.frozen
   gi_wp2
   refine ⟨⟨?_, ?_, ?_⟩, ?_⟩
   · have hB : BD w.heap.size w Wb := ⟨hB4.1.trans (hWb.1.mono (by omega)), hWb.2.trans hB4.2⟩
     exact (hB.setCell _ _ (by omega) _).setCell _ _ (by omega) _
   · exact (d1.set _).other (by omega) _
   · exact (d2.other (by omega) _).set _
   · intro k hk
     rw [Below.heap_setCell _ _ _ _ (by show k ≠ w.heap.size + 1 + 1; omega), Below.heap_setCell _ _ _ _ (by show k ≠ w.heap.size + 1; omega)]
 · intro he D W hD hB hk
   have hs4 := HS.out
   have d1 : Boxed W (w.heap.size + 1) 5 (.int .u8 0) := (hB.1.block _ (by omega)).trans b1
   have d2 : Boxed W (w.heap.size + 1 + 1) 4 (.bool false) := (hB.1.block _ (by omega)).trans b2
   have c1 := d1.cell; have f1 := d1.frozen; have c2 := d2.cell; have f2 := d2.frozen
   have hBW : BD w.heap.size w W := ⟨hB4.1.trans (hB.1.mono (by omega)), hB.2.trans hB4.2⟩
   gi_wp2
   have e1 := (d1.set (.int .u8 0)).other (show w.heap.size + 1 ≠ w.heap.size + 1 + 1 by omega) (.bool false)
   have e2 := (d2.other (show w.heap.size + 1 + 1 ≠ w.heap.size + 1 by omega) (.int .u8 0)).set (.bool false)
   have hK' := ((KeepsOthers.setCell W ⟨w.heap.size + 1, 0, none⟩ (.int .u8 0)).trans (KeepsOthers.setCell _ ⟨w.heap.size + 1 + 1, 0, none⟩ (.bool false))).same D _ hk rfl
   have hB2 := (hBW.setCell (w.heap.size + 1) 0 (by omega) (.int .u8 0)).setCell (w.heap.size + 1 + 1) 0 (by omega) (.bool false)
   generalize ((W.setCell ⟨w.heap.size + 1, 0, none⟩ (.int .u8 0)).setCell ⟨w.heap.size + 1 + 1, 0, none⟩ (.bool false)) = W1 at e1 e2 hK' hB2 ⊢
   refine ⟨by simp, .inl ⟨_, _, rfl, run_takeDeferred hK', ?_⟩⟩
   have g1 := cell_kept e1.cell (grownBy_putObj' W1 D (.deferred none)) (fun r e => by cases e; exact ⟨_, hK', rfl⟩)
   have g2 := cell_kept e2.cell (grownBy_putObj' W1 D (.deferred none)) (fun r e => by cases e; exact ⟨_, hK', rfl⟩)
   refine ⟨.tuple #[.int .u8 (lst (bytesB a0 a1 a2 a3) : Nat), .bool !(bytesB a0 a1 a2 a3).isEmpty], ?_, rfl, hB2.putObj _ (by omega) _⟩
   rw [he]
   simp [results, Tryz.f10, go_sem, g1, g2, lst]
 · rintro x D W hx hD ⟨hBW, e1, e2⟩ hk
   have hs4 := HS.out
   gi_wp2
   refine ⟨by simp, .inl ⟨_, _, rfl, run_takeDeferred hk, ?_⟩⟩
   have g1 := cell_kept e1.cell (grownBy_putObj' W D (.deferred none)) (fun r e => by cases e; exact ⟨_, hk, rfl⟩)
   have g2 := cell_kept e2.cell (grownBy_putObj' W D (.deferred none)) (fun r e => by cases e; exact ⟨_, hk, rfl⟩)
   refine ⟨.tuple #[.int .u8 (lst (bytesB a0 a1 a2 a3) : Nat), .bool !(bytesB a0 a1 a2 a3).isEmpty], ?_, rfl, hBW.putObj _ (by omega) _⟩
   rw [hx]
   simp [results, Tryz.f10, go_sem, g1, g2, lst]
end Go.Proofs.YtaadkdmbhckdeaaGreatDoor
