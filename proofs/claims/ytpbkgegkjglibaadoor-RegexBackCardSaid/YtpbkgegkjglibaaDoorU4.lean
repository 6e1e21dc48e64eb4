/- Class, the plain mathematics: words, bits, the bytes of a class. -/
import Derived.Test.YtpbkgegkjglibaaDoorR8
import Derived.Lib.TrailingZeros
import Derived.RangeFuncNested
import Derived.RangeFuncBound
import Derived.RangeFuncCalls
import Derived.RangeFuncBox
import Derived.RangeFuncLeaves
import Derived.Shelf.Abstract
import Derived.Shelf.RegionOpen
import Derived.WalkKit
import Derived.OwnWalkIn
import Derived.TacticsInMore
import Derived.LoopNIn
import Derived.LoopIn
import Derived.Maps.AppendAt
import Derived.Laws.Bits64b
import Derived.Lib.Hide
import Derived.Laws.BytesArg
namespace Go.Proofs.YtpbkgegkjglibaaDoor
open Go

def wd (a b c d i : Nat) : Nat := if i = 0 then a else if i = 1 then b else if i = 2 then c else d
def hasB (a b c d x : Nat) : Bool := (wd a b c d (x / 64)).testBit (x % 64)
/-- The bytes below n. -/
def upB (a b c d n : Nat) : List Nat := (List.range n).filter (hasB a b c d)
def bytesB (a b c d : Nat) : List Nat := upB a b c d 256

theorem upB_succ (a b c d n : Nat) : upB a b c d (n + 1) = upB a b c d n ++ (if hasB a b c d n then [n] else []) := by
  unfold upB; rw [List.range_succ, List.filter_append]; congr 1; simp [List.filter_cons]
theorem upB_skip (a b c d n : Nat) : ∀ k, (∀ j, j < k → hasB a b c d (n + j) = false) → upB a b c d (n + k) = upB a b c d n
  | 0, _ => rfl
  | k + 1, h => by
    rw [← Nat.add_assoc, upB_succ, h k (by omega), upB_skip a b c d n k (fun j hj => h j (by omega))]
    simp
theorem upB_len (a b c d n : Nat) : (upB a b c d n).length ≤ n := by
  have := List.length_filter_le (hasB a b c d) (List.range n)
  simpa [upB] using this
theorem upB_lt {a b c d n x : Nat} (h : x ∈ upB a b c d n) : x < n := by
  unfold upB at h; simpa using (List.mem_filter.1 h).1

theorem ctz_bits (x : Nat) (h0 : x ≠ 0) (h : x < 18446744073709551616) : Lib.ctz 64 x < 64 ∧ x.testBit (Lib.ctz 64 x) = true ∧ ∀ j, j < Lib.ctz 64 x → x.testBit j = false := by
  obtain ⟨m, hm, hk⟩ := Lib.ctzFrom_spec 64 x (by omega) (by simpa using h)
  have e : Lib.ctz 64 x = Lib.ctzFrom 64 x := by simp [Lib.ctz, h0]
  rw [e]
  refine ⟨hk, ?_, fun j hj => ?_⟩
  · rw [hm, Nat.testBit_two_pow_mul]
    simp [← hm]
  · rw [hm, Nat.testBit_two_pow_mul]
    have : ¬ Lib.ctzFrom 64 x ≤ j := by omega
    simp [this]
/-- The lowest bit taken away. -/
theorem drop_low (x : Nat) (h0 : x ≠ 0) (h : x < 18446744073709551616) : x &&& (x - 1) < x ∧ ∀ j, (x &&& (x - 1)).testBit j = (decide (Lib.ctz 64 x + 1 ≤ j) && x.testBit j) := by
  obtain ⟨m, hm, hk⟩ := Lib.ctzFrom_spec 64 x (by omega) (by simpa using h)
  have e : Lib.ctz 64 x = Lib.ctzFrom 64 x := by simp [Lib.ctz, h0]
  rw [e]
  generalize Lib.ctzFrom 64 x = k at hm hk
  have hp : 0 < 2 ^ k := Nat.two_pow_pos k
  have e1 : x - 1 = 2 ^ k * (2 * m) + (2 ^ k - 1) := by rw [hm, Nat.mul_add]; omega
  have key : ∀ j, (x &&& (x - 1)).testBit j = (decide (k + 1 ≤ j) && x.testBit j) := by
    intro j
    rw [Nat.testBit_and]
    by_cases h1 : j < k
    · have : x.testBit j = false := by
        rw [hm, Nat.testBit_two_pow_mul]
        have : ¬ k ≤ j := by omega
        simp [this]
      simp [this]
    · obtain ⟨i, rfl⟩ : ∃ i, j = k + i := ⟨j - k, by omega⟩
      have hx : x.testBit (k + i) = (2 * m + 1).testBit i := by rw [hm, Nat.testBit_two_pow_mul]; simp
      have hx1 : (x - 1).testBit (k + i) = (2 * m).testBit i := by
        rw [e1, Nat.testBit_two_pow_mul_add _ (by omega)]
        have : ¬ k + i < k := by omega
        simp [this]
      rw [hx, hx1]
      cases i with
      | zero => simp [Nat.testBit_zero]
      | succ i =>
        rw [Nat.testBit_succ, Nat.testBit_succ]
        have d1 : (2 * m + 1) / 2 = m := by omega
        have d2 : 2 * m / 2 = m := by omega
        rw [d1, d2]
        simp
  refine ⟨?_, key⟩
  have hle : x &&& (x - 1) ≤ x := Nat.and_le_left
  have hne : x &&& (x - 1) ≠ x := by
    intro hh
    have h1 := key k
    rw [hh] at h1
    have : x.testBit k = true := by rw [hm, Nat.testBit_two_pow_mul]; simp
    rw [this] at h1
    simp at h1
    omega
  omega
/-- A round of Each: the lowest bit's byte comes next. -/
theorem upB_low (a b c d k t x : Nat) (h0 : x ≠ 0) (hx : x < 18446744073709551616) (h : ∀ j, x.testBit j = (decide (t ≤ j) && (wd a b c d k).testBit j)) :
    t ≤ Lib.ctz 64 x ∧ upB a b c d (64 * k + (Lib.ctz 64 x + 1)) = upB a b c d (64 * k + t) ++ [64 * k + Lib.ctz 64 x] := by
  obtain ⟨hk, h1, h2⟩ := ctz_bits x h0 hx
  have ht' : t ≤ Lib.ctz 64 x := by
    rw [h] at h1
    simp at h1
    exact h1.1
  refine ⟨ht', ?_⟩
  have hb : ∀ j, j < 64 → hasB a b c d (64 * k + j) = (wd a b c d k).testBit j := fun j hj => by
    unfold hasB
    have e1 : (64 * k + j) / 64 = k := by omega
    have e2 : (64 * k + j) % 64 = j := by omega
    rw [e1, e2]
  have hw : ∀ j, t ≤ j → j < Lib.ctz 64 x → (wd a b c d k).testBit j = false := fun j h3 h4 => by
    have := h2 j h4
    rw [h] at this
    simpa [h3] using this
  rw [← Nat.add_assoc, upB_succ]
  have e := upB_skip a b c d (64 * k + t) (Lib.ctz 64 x - t) (fun j hj => by
    have : 64 * k + t + j = 64 * k + (t + j) := by omega
    rw [this, hb _ (by omega)]
    exact hw _ (by omega) (by omega))
  have e3 : 64 * k + t + (Lib.ctz 64 x - t) = 64 * k + Lib.ctz 64 x := by omega
  rw [e3] at e
  rw [e, hb _ hk]
  rw [h] at h1
  have h1 := h1
  simp at h1
  rw [if_pos h1.2]
theorem upB_end (a b c d k t : Nat) (ht : t ≤ 64) (h : ∀ j, (0 : Nat).testBit j = (decide (t ≤ j) && (wd a b c d k).testBit j)) :
    upB a b c d (64 * (k + 1)) = upB a b c d (64 * k + t) := by
  have e := upB_skip a b c d (64 * k + t) (64 - t) (fun j hj => by
    unfold hasB
    have e1 : (64 * k + t + j) / 64 = k := by omega
    have e2 : (64 * k + t + j) % 64 = t + j := by omega
    rw [e1, e2]
    have := h (t + j)
    simp at this
    exact this)
  rw [← e]
  congr 1
  omega
theorem left_step {x t c v : Nat} (h : ∀ j, x.testBit j = (decide (t ≤ j) && v.testBit j)) (hd : ∀ j, (x &&& (x - 1)).testBit j = (decide (c + 1 ≤ j) && x.testBit j)) (ht : t ≤ c) :
    ∀ j, (x &&& (x - 1)).testBit j = (decide (c + 1 ≤ j) && v.testBit j) := fun j => by
  rw [hd, h]
  by_cases h1 : c + 1 ≤ j
  · have h2 : t ≤ j := by omega
    simp [h1, h2]
  · simp [h1]
theorem cw_bit (i j : Nat) (hj : j < 64) (l : List Nat) : (cw l i).testBit j = decide (64 * i + j ∈ l) := by
  unfold cw
  suffices h : ∀ (l : List Nat) (w : Nat), (l.foldl (fun w b => if b / 64 = i then w ||| 2 ^ (b % 64) else w) w).testBit j = (w.testBit j || decide (64 * i + j ∈ l)) from by simpa using h l 0
  intro l
  induction l with
  | nil => intro w; simp
  | cons b l ih =>
    intro w
    rw [List.foldl_cons, ih]
    by_cases hb : b / 64 = i
    · rw [if_pos hb, Nat.testBit_or, Nat.testBit_two_pow]
      by_cases hm : b % 64 = j
      · have : 64 * i + j = b := by omega
        simp [hm, this]
      · have : ¬ 64 * i + j = b := by omega
        simp [hm, this]
    · rw [if_neg hb]
      have : ¬ 64 * i + j = b := by omega
      simp [this]
theorem word_ext {x y : Nat} (hx : x < 18446744073709551616) (hy : y < 18446744073709551616) (h : ∀ j, j < 64 → x.testBit j = y.testBit j) : x = y := by
  apply Nat.eq_of_testBit_eq
  intro j
  rcases Nat.lt_or_ge j 64 with hj | hj
  · exact h j hj
  · have e : 18446744073709551616 ≤ 2 ^ j := Nat.le_trans (by decide : 18446744073709551616 ≤ 2 ^ 64) (Nat.pow_le_pow_right (by decide) hj)
    rw [Nat.testBit_lt_two_pow (Nat.lt_of_lt_of_le hx e), Nat.testBit_lt_two_pow (Nat.lt_of_lt_of_le hy e)]
theorem mem_upB {a b c d n x : Nat} : x ∈ upB a b c d n ↔ x < n ∧ hasB a b c d x = true := by
  unfold upB
  rw [List.mem_filter]
  simp
theorem hasB_word (a b c d i j : Nat) (hj : j < 64) : hasB a b c d (64 * i + j) = (wd a b c d i).testBit j := by
  unfold hasB
  have e1 : (64 * i + j) / 64 = i := by omega
  have e2 : (64 * i + j) % 64 = j := by omega
  rw [e1, e2]
/-- The class of a class's bytes. -/
theorem cw_bytes (a b c d i : Nat) (hi : i < 4) (hw : ∀ k, wd a b c d k < 18446744073709551616) : cw (bytesB a b c d) i = wd a b c d i :=
  word_ext (cw_lt _ _) (hw i) fun j hj => by
    rw [cw_bit i j hj]
    unfold bytesB
    rw [← hasB_word a b c d i j hj]
    cases h : hasB a b c d (64 * i + j) with
    | true => simpa using mem_upB.2 ⟨by omega, h⟩
    | false => simpa using fun hm => by rw [(mem_upB.1 hm).2] at h; cases h
theorem cw_append (l m : List Nat) (i : Nat) : cw (l ++ m) i = cw l i ||| cw m i :=
  word_ext (cw_lt _ _) (Nat.or_lt_two_pow (n := 64) (cw_lt l i) (cw_lt m i)) fun j hj => by
    rw [Nat.testBit_or, cw_bit i j hj, cw_bit i j hj, cw_bit i j hj]
    simp
end Go.Proofs.YtpbkgegkjglibaaDoor

namespace Go.Proofs.YtpbkgegkjglibaaDoor
open Go Go.Proofs Go.RowKit Go.Shelf
attribute [local go_sem] Oper.semAt_some

/-- The table lies. -/
def TabAt (w : World) : Prop := ∀ j, j < 64 → w.cell? ⟨0, j, none⟩ = some (.int .u8 (Lib.deBruijn64tab.getD j 0 : Nat))
theorem TabAt.below {n : Nat} {w w' : World} (h : TabAt w) (hb : Below n w w') (hn : 0 < n) : TabAt w' := fun j hj => (hb.cell (p := ⟨0, j, none⟩) hn).trans (h j hj)

set_option maxHeartbeats 1000000 in
theorem tz64_core (F : Fence) (n : Nat) (hF : F.fn 74) (hro : F.round = none) (x k idx : Nat) (w : World) (hx0 : ((x : Int) == 0) = false)
    (key : IntKind.u64.wrap (bits BinOp.and IntKind.u64 (x : Int) (IntKind.u64.wrap (-(x : Int))) * 285870213051353865) / 288230376151711744 = (idx : Int))
    (hi : idx < 64) (hk : k < 64) (hcell : w.cell? ⟨0, idx, none⟩ = some (.int .u8 k)) :
    CallsIn F n Tryd.prog 74 #[.int .u64 x] w fun e w' => e = .returned (.int .i64 k) ∧ w' = w := by
  refine callsIn_of_wp Tryd.func74 rfl hF ?_ hro
  simp only [Tryd.ntmps74, List.size_toArray, List.length_cons, List.length_nil, Nat.reduceAdd, Nat.reduceSub, Array.replicate_succ, Array.replicate_zero, List.push_toArray, List.append_toArray, List.nil_append, List.cons_append]
  gi_wp2_with (simp only [key])
  go_ret
  exact ⟨rfl, rfl⟩

theorem tz64_key (x a : Nat) (hx : x < 18446744073709551616) (hx0 : x ≠ 0) (hlow : x &&& (18446744073709551616 - x) = a) :
    IntKind.u64.wrap (bits BinOp.and IntKind.u64 (x : Int) (IntKind.u64.wrap (-(x : Int))) * 285870213051353865) / 288230376151711744 = ((a * 285870213051353865 % 18446744073709551616 / 288230376151711744 : Nat) : Int) := by
  have e1 : IntKind.u64.wrap (-(x : Int)) = ((18446744073709551616 - x : Nat) : Int) := by rw [IntKind.wrap_u64]; omega
  rw [e1, bits_and_u64_nat x _ hx (by omega), hlow, IntKind.wrap_u64]
  omega

/-- math/bits.TrailingZeros64 at what is not 0. -/
theorem tz64_in (F : Fence) (n : Nat) (hF : F.fn 74) (hro : F.round = none) (x : Nat) (hx : x < 18446744073709551616) (hx0 : x ≠ 0) (w : World) (hT : TabAt w) :
    CallsIn F n Tryd.prog 74 #[.int .u64 x] w fun e w' => e = .returned (.int .i64 (Lib.ctz 64 x : Nat)) ∧ w' = w := by
  obtain ⟨hlow, hk⟩ := Lib.lowest_bit 64 x hx0 hx
  obtain ⟨hi, htab⟩ := Lib.deBruijn64_at _ hk
  have hcell := hT _ hi
  rw [htab] at hcell
  exact tz64_core F n hF hro x _ _ w (by simp; omega) (tz64_key x _ hx hx0 hlow) hi hk hcell

def wlt (a0 a1 a2 a3 : Nat) : Prop := ∀ k, wd a0 a1 a2 a3 k < 18446744073709551616

theorem idx0 (x0 x1 x2 x3 : Value) (w : World) : (Instr.index 38 (.agg #[x0, x1, x2, x3]) (.int .i64 0)).run Tryd.prog w = .ok x0 w := by kernel_rfl
theorem idx1 (x0 x1 x2 x3 : Value) (w : World) : (Instr.index 38 (.agg #[x0, x1, x2, x3]) (.int .i64 1)).run Tryd.prog w = .ok x1 w := by kernel_rfl
theorem idx2 (x0 x1 x2 x3 : Value) (w : World) : (Instr.index 38 (.agg #[x0, x1, x2, x3]) (.int .i64 2)).run Tryd.prog w = .ok x2 w := by kernel_rfl
theorem idx3 (x0 x1 x2 x3 : Value) (w : World) : (Instr.index 38 (.agg #[x0, x1, x2, x3]) (.int .i64 3)).run Tryd.prog w = .ok x3 w := by kernel_rfl

def natOfV (v : Value) : Nat := (intOf v).toNat

set_option maxRecDepth 100000 in
set_option maxHeartbeats 4000000 in
/-- class.Each's closure: all bytes of the class, rising; or, left early, a part of them. -/
theorem each1_in (F : Fence) (n : Nat) (h73 : F.fn 73) (h74 : F.fn 74) (hro : F.round = none) (hn : 1 ≤ n) (l b n₀ a0 a1 a2 a3 : Nat) (hw : wlt a0 a1 a2 a3) (hb : 0 < n₀) (J Jx : List Nat → World → Prop)
    (hY : ∀ pre (x : Nat) W, J pre W → pre.length < 256 → x < 256 → YieldAt F (n - 1) Tryd.prog l #[.int .u8 (x : Nat)] W fun e W' =>
      (e = .returned (.bool true) ∧ J (pre ++ [x]) W' ∧ Below n₀ W W') ∨ (e = .returned (.bool false) ∧ Jx (pre ++ [x]) W'))
    (W : World) (hT : TabAt W) (hC : ClsAt b a0 a1 a2 a3 W) (h0 : J [] W) :
    CallsIn F n Tryd.prog 73 #[.func (.yield l) #[] #[], .pointer (some ⟨b, 0, none⟩)] W fun e W' => (∃ v, e = .returned v) ∧
      ((∃ ys, ys = bytesB a0 a1 a2 a3 ∧ J ys W') ∨ (∃ pre, (∃ k, k ≤ 256 ∧ pre = upB a0 a1 a2 a3 k) ∧ Jx pre W')) := by
  obtain ⟨c0, c1, c2, c3⟩ := hC
  refine callsIn_of_wp Tryd.func73 rfl h73 ?_ hro
  simp only [Tryd.ntmps73, List.size_toArray, List.length_cons, List.length_nil, Nat.reduceAdd, Nat.reduceSub, Array.replicate_succ, Array.replicate_zero, List.push_toArray, List.append_toArray, List.nil_append, List.cons_append]
  gi_wp2
  gi_loopw [6] (fun i wr => ∃ (k : Nat) (z : Int), z = k ∧ k ≤ 4 ∧ i = .int .i64 z ∧ J (upB a0 a1 a2 a3 (64 * k)) wr ∧ Below n₀ W wr)
    (fun i _ => 4 - (intOf i).toNat)
  case atStart => exact ⟨0, 0, rfl, Nat.zero_le _, rfl, h0, Below.refl _ _⟩
  case round =>
    obtain ⟨k, z, hz, hk, rfl, hJs, hnx⟩ := hrel
    by_cases hlt : k < 4
    · obtain rfl | rfl | rfl | rfl : k = 0 ∨ k = 1 ∨ k = 2 ∨ k = 3 := by omega
      · have hi := idx0
        obtain rfl : z = 0 := by omega
        clear hz
        gi_wp2
        gi_loopw [4] (fun v wr => ∃ x t : Nat, t ≤ 64 ∧ x < 18446744073709551616 ∧ v = .int .u64 (x : Nat) ∧ (∀ j, x.testBit j = (decide (t ≤ j) && (wd a0 a1 a2 a3 0).testBit j)) ∧ J (upB a0 a1 a2 a3 (64 * 0 + t)) wr ∧ Below n₀ W wr)
          (fun v _ => natOfV v)
        case atStart => exact ⟨a0, 0, by omega, hw 0, rfl, by simp [wd], hJs, hnx⟩
        case round =>
          clear hi hJs hnx
          obtain ⟨x, t, ht, hx, rfl, hbits, hJx, hnx⟩ := hrel
          by_cases hx0 : x = 0
          · subst hx0
            have hu := upB_end a0 a1 a2 a3 0 t ht hbits
            clear hbits
            gi_wp2
            exact ⟨⟨0 + 1, _, rfl, by omega, rfl, by rw [hu]; exact hJx, hnx⟩, by simp [intOf]⟩
          · obtain ⟨hk64, hb1, hb2⟩ := ctz_bits x hx0 hx
            obtain ⟨hle, hup⟩ := upB_low a0 a1 a2 a3 0 t x hx0 hx hbits
            obtain ⟨hdl, hdb⟩ := drop_low x hx0 hx
            have hTr := hT.below hnx (by omega)
            obtain ⟨fn, tmps, assign, body, hy, hR⟩ := hY _ (64 * 0 + Lib.ctz 64 x) wr hJx (by have := upB_len a0 a1 a2 a3 (64 * 0 + t); omega) (by omega)
            have HU := Lib.hid hup
            have HDB := Lib.hid hdb
            have HB := Lib.hid hbits
            clear hup hdb hbits hb1 hb2
            have hxne : ((x : Int) == 0) = false := by simp; omega
            have hxne' : ((x : Int) != 0) = true := by simp; omega
            generalize hc : Lib.ctz 64 x = c at *
            have HC := Lib.hid hc
            clear hc
            have e1 : ((64 * 0 + c : Nat) : Int) = (c : Int) := by omega
            rw [e1] at hy
            clear e1
            gi_wp2_with (gi_at_call 74; refine (tz64_in F (n - 1) h74 hro x hx hx0 _ hTr).mono ?_; rintro e w' ⟨rfl, rfl⟩; rw [HC.out])
            refine hR.mono ?_
            rintro e W3 (⟨rfl, hJ3, hk3⟩ | ⟨rfl, hJx3⟩)
            · have hsub : IntKind.u64.wrap ((x : Int) - 1) = ((x - 1 : Nat) : Int) := by rw [IntKind.wrap_u64]; omega
              have hand := bits_and_u64_nat x (x - 1) hx (by omega)
              gi_wp2
              go_roundw
              case rel => exact ⟨x &&& (x - 1), c + 1, by omega, by omega, rfl, left_step HB.out HDB.out hle, by rw [HU.out]; exact hJ3, hnx.trans hk3⟩
              case measure => simp only [natOfV, intOf]; simpa using hdl
            · gi_wp2
              refine bodyPost_ret (results_none rfl _ _ _) rfl ?_
              exact ⟨⟨_, rfl⟩, .inr ⟨_, ⟨64 * 0 + (c + 1), by omega, HU.out.symm⟩, hJx3⟩⟩
      · have hi := idx1
        obtain rfl : z = 1 := by omega
        clear hz
        gi_wp2
        gi_loopw [4] (fun v wr => ∃ x t : Nat, t ≤ 64 ∧ x < 18446744073709551616 ∧ v = .int .u64 (x : Nat) ∧ (∀ j, x.testBit j = (decide (t ≤ j) && (wd a0 a1 a2 a3 1).testBit j)) ∧ J (upB a0 a1 a2 a3 (64 * 1 + t)) wr ∧ Below n₀ W wr)
          (fun v _ => natOfV v)
        case atStart => exact ⟨a1, 0, by omega, hw 1, rfl, by simp [wd], hJs, hnx⟩
        case round =>
          clear hi hJs hnx
          obtain ⟨x, t, ht, hx, rfl, hbits, hJx, hnx⟩ := hrel
          by_cases hx0 : x = 0
          · subst hx0
            have hu := upB_end a0 a1 a2 a3 1 t ht hbits
            clear hbits
            gi_wp2
            exact ⟨⟨1 + 1, _, rfl, by omega, rfl, by rw [hu]; exact hJx, hnx⟩, by simp [intOf]⟩
          · obtain ⟨hk64, hb1, hb2⟩ := ctz_bits x hx0 hx
            obtain ⟨hle, hup⟩ := upB_low a0 a1 a2 a3 1 t x hx0 hx hbits
            obtain ⟨hdl, hdb⟩ := drop_low x hx0 hx
            have hTr := hT.below hnx (by omega)
            obtain ⟨fn, tmps, assign, body, hy, hR⟩ := hY _ (64 * 1 + Lib.ctz 64 x) wr hJx (by have := upB_len a0 a1 a2 a3 (64 * 1 + t); omega) (by omega)
            have HU := Lib.hid hup
            have HDB := Lib.hid hdb
            have HB := Lib.hid hbits
            clear hup hdb hbits hb1 hb2
            have hxne : ((x : Int) == 0) = false := by simp; omega
            have hxne' : ((x : Int) != 0) = true := by simp; omega
            generalize hc : Lib.ctz 64 x = c at *
            have HC := Lib.hid hc
            clear hc
            have e1 : ((64 * 1 + c : Nat) : Int) = 64 + (c : Int) := by omega
            rw [e1] at hy
            clear e1
            gi_wp2_with (gi_at_call 74; refine (tz64_in F (n - 1) h74 hro x hx hx0 _ hTr).mono ?_; rintro e w' ⟨rfl, rfl⟩; rw [HC.out])
            refine hR.mono ?_
            rintro e W3 (⟨rfl, hJ3, hk3⟩ | ⟨rfl, hJx3⟩)
            · have hsub : IntKind.u64.wrap ((x : Int) - 1) = ((x - 1 : Nat) : Int) := by rw [IntKind.wrap_u64]; omega
              have hand := bits_and_u64_nat x (x - 1) hx (by omega)
              gi_wp2
              go_roundw
              case rel => exact ⟨x &&& (x - 1), c + 1, by omega, by omega, rfl, left_step HB.out HDB.out hle, by rw [HU.out]; exact hJ3, hnx.trans hk3⟩
              case measure => simp only [natOfV, intOf]; simpa using hdl
            · gi_wp2
              refine bodyPost_ret (results_none rfl _ _ _) rfl ?_
              exact ⟨⟨_, rfl⟩, .inr ⟨_, ⟨64 * 1 + (c + 1), by omega, HU.out.symm⟩, hJx3⟩⟩
      · have hi := idx2
        obtain rfl : z = 2 := by omega
        clear hz
        gi_wp2
        gi_loopw [4] (fun v wr => ∃ x t : Nat, t ≤ 64 ∧ x < 18446744073709551616 ∧ v = .int .u64 (x : Nat) ∧ (∀ j, x.testBit j = (decide (t ≤ j) && (wd a0 a1 a2 a3 2).testBit j)) ∧ J (upB a0 a1 a2 a3 (64 * 2 + t)) wr ∧ Below n₀ W wr)
          (fun v _ => natOfV v)
        case atStart => exact ⟨a2, 0, by omega, hw 2, rfl, by simp [wd], hJs, hnx⟩
        case round =>
          clear hi hJs hnx
          obtain ⟨x, t, ht, hx, rfl, hbits, hJx, hnx⟩ := hrel
          by_cases hx0 : x = 0
          · subst hx0
            have hu := upB_end a0 a1 a2 a3 2 t ht hbits
            clear hbits
            gi_wp2
            exact ⟨⟨2 + 1, _, rfl, by omega, rfl, by rw [hu]; exact hJx, hnx⟩, by simp [intOf]⟩
          · obtain ⟨hk64, hb1, hb2⟩ := ctz_bits x hx0 hx
            obtain ⟨hle, hup⟩ := upB_low a0 a1 a2 a3 2 t x hx0 hx hbits
            obtain ⟨hdl, hdb⟩ := drop_low x hx0 hx
            have hTr := hT.below hnx (by omega)
            obtain ⟨fn, tmps, assign, body, hy, hR⟩ := hY _ (64 * 2 + Lib.ctz 64 x) wr hJx (by have := upB_len a0 a1 a2 a3 (64 * 2 + t); omega) (by omega)
            have HU := Lib.hid hup
            have HDB := Lib.hid hdb
            have HB := Lib.hid hbits
            clear hup hdb hbits hb1 hb2
            have hxne : ((x : Int) == 0) = false := by simp; omega
            have hxne' : ((x : Int) != 0) = true := by simp; omega
            generalize hc : Lib.ctz 64 x = c at *
            have HC := Lib.hid hc
            clear hc
            have e1 : ((64 * 2 + c : Nat) : Int) = 128 + (c : Int) := by omega
            rw [e1] at hy
            clear e1
            gi_wp2_with (gi_at_call 74; refine (tz64_in F (n - 1) h74 hro x hx hx0 _ hTr).mono ?_; rintro e w' ⟨rfl, rfl⟩; rw [HC.out])
            refine hR.mono ?_
            rintro e W3 (⟨rfl, hJ3, hk3⟩ | ⟨rfl, hJx3⟩)
            · have hsub : IntKind.u64.wrap ((x : Int) - 1) = ((x - 1 : Nat) : Int) := by rw [IntKind.wrap_u64]; omega
              have hand := bits_and_u64_nat x (x - 1) hx (by omega)
              gi_wp2
              go_roundw
              case rel => exact ⟨x &&& (x - 1), c + 1, by omega, by omega, rfl, left_step HB.out HDB.out hle, by rw [HU.out]; exact hJ3, hnx.trans hk3⟩
              case measure => simp only [natOfV, intOf]; simpa using hdl
            · gi_wp2
              refine bodyPost_ret (results_none rfl _ _ _) rfl ?_
              exact ⟨⟨_, rfl⟩, .inr ⟨_, ⟨64 * 2 + (c + 1), by omega, HU.out.symm⟩, hJx3⟩⟩
      · have hi := idx3
        obtain rfl : z = 3 := by omega
        clear hz
        gi_wp2
        gi_loopw [4] (fun v wr => ∃ x t : Nat, t ≤ 64 ∧ x < 18446744073709551616 ∧ v = .int .u64 (x : Nat) ∧ (∀ j, x.testBit j = (decide (t ≤ j) && (wd a0 a1 a2 a3 3).testBit j)) ∧ J (upB a0 a1 a2 a3 (64 * 3 + t)) wr ∧ Below n₀ W wr)
          (fun v _ => natOfV v)
        case atStart => exact ⟨a3, 0, by omega, hw 3, rfl, by simp [wd], hJs, hnx⟩
        case round =>
          clear hi hJs hnx
          obtain ⟨x, t, ht, hx, rfl, hbits, hJx, hnx⟩ := hrel
          by_cases hx0 : x = 0
          · subst hx0
            have hu := upB_end a0 a1 a2 a3 3 t ht hbits
            clear hbits
            gi_wp2
            exact ⟨⟨3 + 1, _, rfl, by omega, rfl, by rw [hu]; exact hJx, hnx⟩, by simp [intOf]⟩
          · obtain ⟨hk64, hb1, hb2⟩ := ctz_bits x hx0 hx
            obtain ⟨hle, hup⟩ := upB_low a0 a1 a2 a3 3 t x hx0 hx hbits
            obtain ⟨hdl, hdb⟩ := drop_low x hx0 hx
            have hTr := hT.below hnx (by omega)
            obtain ⟨fn, tmps, assign, body, hy, hR⟩ := hY _ (64 * 3 + Lib.ctz 64 x) wr hJx (by have := upB_len a0 a1 a2 a3 (64 * 3 + t); omega) (by omega)
            have HU := Lib.hid hup
            have HDB := Lib.hid hdb
            have HB := Lib.hid hbits
            clear hup hdb hbits hb1 hb2
            have hxne : ((x : Int) == 0) = false := by simp; omega
            have hxne' : ((x : Int) != 0) = true := by simp; omega
            generalize hc : Lib.ctz 64 x = c at *
            have HC := Lib.hid hc
            clear hc
            have e1 : ((64 * 3 + c : Nat) : Int) = 192 + (c : Int) := by omega
            rw [e1] at hy
            clear e1
            gi_wp2_with (gi_at_call 74; refine (tz64_in F (n - 1) h74 hro x hx hx0 _ hTr).mono ?_; rintro e w' ⟨rfl, rfl⟩; rw [HC.out])
            refine hR.mono ?_
            rintro e W3 (⟨rfl, hJ3, hk3⟩ | ⟨rfl, hJx3⟩)
            · have hsub : IntKind.u64.wrap ((x : Int) - 1) = ((x - 1 : Nat) : Int) := by rw [IntKind.wrap_u64]; omega
              have hand := bits_and_u64_nat x (x - 1) hx (by omega)
              gi_wp2
              go_roundw
              case rel => exact ⟨x &&& (x - 1), c + 1, by omega, by omega, rfl, left_step HB.out HDB.out hle, by rw [HU.out]; exact hJ3, hnx.trans hk3⟩
              case measure => simp only [natOfV, intOf]; simpa using hdl
            · gi_wp2
              refine bodyPost_ret (results_none rfl _ _ _) rfl ?_
              exact ⟨⟨_, rfl⟩, .inr ⟨_, ⟨64 * 3 + (c + 1), by omega, HU.out.symm⟩, hJx3⟩⟩
    · obtain rfl : k = 4 := by omega
      obtain rfl : z = 4 := by omega
      clear hz
      gi_wp2
      go_end0
      exact ⟨⟨_, rfl⟩, .inl ⟨_, rfl, hJs⟩⟩
end Go.Proofs.YtpbkgegkjglibaaDoor

namespace Go.Proofs.YtpbkgegkjglibaaDoor
open Go Go.Proofs Go.RowKit Go.Shelf
attribute [local go_sem] Oper.semAt_some

theorem ClsAt.below {n b a0 a1 a2 a3 : Nat} {w w' : World} (h : ClsAt b a0 a1 a2 a3 w) (hb : Below n w w') (hn : b < n) : ClsAt b a0 a1 a2 a3 w' :=
  ⟨(hb.cell (p := ⟨b, 0, none⟩) hn).trans h.1, (hb.cell (p := ⟨b, 1, none⟩) hn).trans h.2.1, (hb.cell (p := ⟨b, 2, none⟩) hn).trans h.2.2.1, (hb.cell (p := ⟨b, 3, none⟩) hn).trans h.2.2.2⟩

abbrev encs (x : Fin 256) : Array Value := #[.int .u8 (x.val : Nat)]
abbrev encv (x : Fin 256) : Value := .int .u8 (x.val : Nat)

/-- class.Each(c) hands back an iterator. -/
theorem each_stops (F : Fence) (n : Nat) (h73 : F.fn 73) (h74 : F.fn 74) (hro : F.round = none) (hn : 1 ≤ n) (b n₀ a0 a1 a2 a3 : Nat) (hw : wlt a0 a1 a2 a3) (w : World) (hb : b < w.heap.size) (hn0 : 0 < n₀) (_hn₀ : n₀ ≤ w.heap.size) (hT : TabAt w) (hC : ClsAt b a0 a1 a2 a3 w) :
    SeqStopsK F n Tryd.prog 73 #[.pointer (some ⟨b, 0, none⟩)] encs (Below n₀) (fun xs => xs.map Fin.val = bytesB a0 a1 a2 a3) (fun pre => ∃ k, k ≤ 256 ∧ pre.map Fin.val = upB a0 a1 a2 a3 k) 256 w := fun l J Jx W hW _ _ hY h0 => by
  have hb0 : 0 < w.heap.size := by omega
  refine (each1_in F n h73 h74 hro hn l b n₀ a0 a1 a2 a3 hw hn0 (fun pre W => ∃ xs : List (Fin 256), xs.map Fin.val = pre ∧ J xs W) (fun pre W => ∃ xs : List (Fin 256), xs.map Fin.val = pre ∧ Jx xs W)
    (fun pre x W1 ⟨xs, h1, h2⟩ hl hx => ?_) W (hT.below hW hb0) (hC.below hW (by omega)) ⟨[], rfl, h0⟩).mono ?_
  · obtain ⟨fn, tmps, assign, body, hy, hR⟩ := hY xs ⟨x, hx⟩ W1 h2 (by have := congrArg List.length h1; simp at this; omega)
    refine ⟨fn, tmps, assign, body, hy, hR.mono ?_⟩
    rintro e W' (⟨he, hj, hk⟩ | ⟨he, hj⟩)
    · exact .inl ⟨he, ⟨xs ++ [⟨x, hx⟩], by simp [h1], hj⟩, hk⟩
    · exact .inr ⟨he, ⟨xs ++ [⟨x, hx⟩], by simp [h1], hj⟩⟩
  · rintro e W' ⟨he, ⟨ys, hys, xs, h1, h2⟩ | ⟨pre, ⟨k, hk, hp⟩, xs, h1, h2⟩⟩
    · exact ⟨he, .inl ⟨xs, h1.trans hys, h2⟩⟩
    · exact ⟨he, .inr ⟨xs, ⟨k, hk, h1.trans hp⟩, h2⟩⟩

theorem info5 : (Tryd.prog.info? 5).map (fun i => (i.zero, i.size, i.bytes)) = some (some (.int .u8 0), 1, 1) := by kernel_rfl

set_option maxRecDepth 100000 in
set_option maxHeartbeats 2000000 in
/-- slices.AppendSeq(nil, class.Each's closure). -/
theorem appendSeq_in (F : Fence) (n : Nat) (h72 : F.fn 72) (h73 : F.fn 73) (h74 : F.fn 74) (hro : F.round = none) (hn : 3 ≤ n) (b a0 a1 a2 a3 : Nat) (hw : wlt a0 a1 a2 a3) (w : World) (hb : b < w.heap.size) (hT : TabAt w) (hC : ClsAt b a0 a1 a2 a3 w) :
    CallsIn F n Tryd.prog 72 #[.slice none 0 0, .func (.func 73) #[] #[.pointer (some ⟨b, 0, none⟩)]] w fun e W' => ∃ (v : Value) (xs : List (Fin 256)), e = .returned v ∧ xs.map Fin.val = bytesB a0 a1 a2 a3 ∧ W'.ownsRow w.heap.size 5 1 v xs.length (xs.map encv) ∧ Below w.heap.size w W' := by
  have h1 : 1 ≤ n := by omega
  obtain ⟨i0, hi, hz0, hz1, hz2⟩ := info_parts info5
  refine callsIn_of_wp_marks Tryd.func72 rfl h72 ?_ hro
  simp only [Tryd.ntmps72, List.size_toArray, List.length_cons, List.length_nil, Nat.reduceAdd, Nat.reduceSub, Array.replicate_succ, Array.replicate_zero, List.push_toArray, List.append_toArray, List.nil_append, List.cons_append]
  gi_wp2
  have bO := Boxed.new w 67 (.slice none 0 0)
  have hB0 : Below w.heap.size w (w.alloc (.cells #[.slice none 0 0] 67)) := (Below.refl _ w).alloc (Nat.le_refl _) _
  refine wpIn_rangeFunc_ownG hro h1 (gf := 73) (lb := #[.pointer (some ⟨b, 0, none⟩)]) rfl h73 (enters_of Tryd.func73 (by kernel_rfl) rfl)
    (each_stops F (n - 1) h73 h74 hro (by omega) b w.heap.size a0 a1 a2 a3 hw _ (by simp; omega) (by omega) (by simp) (hT.below hB0 (by omega)) (hC.below hB0 hb)) belowK_t (belowK_b (by simp)) (Below.refl _ _) (fun _ => rfl)
    (fun pre W => (∃ v, Boxed W w.heap.size 67 v ∧ W.ownsRow w.heap.size 5 1 v pre.length (pre.map encv) ∧ True) ∧ Below w.heap.size w W)
    (fun _ _ _ => False)
    (OwnFrom.and (Own.from (holdsRow_own w.heap.size w.heap.size 67 5 1 (fun pre : List (Fin 256) => pre.length) (fun pre => pre.map encv) (fun pre v => True)) _) (ownFrom_below (Nat.le_refl _) (by simp)))
    (fun _ _ _ _ _ hs _ _ => hs)
    ⟨⟨_, bO, World.ownsRow_nil _ _ _ _, trivial⟩, hB0⟩
    (fun x => { tmps := #[.slice none 0 0, .func (.func 73) #[] #[.pointer (some ⟨b, 0, none⟩)], .pointer (some ⟨w.heap.size, 0, none⟩), undef, .slice none 0 0, encv x, .func (.func 73) #[] #[.pointer (some ⟨b, 0, none⟩)], encv x, undef, undef, undef, undef, undef], defers := [] }) ?assign ?body ?done ?stop
  case assign =>
    intro l x W K hK
    gi_wp2
    exact hK
  case body =>
    rintro l pre x W ⟨⟨v, hv, hrow, _⟩, hB⟩ hlt
    have hc := hv.cell
    gi_wp2_with (gi_at_builtin; refine wpListIn_append_own _ rfl _ _ 67 rfl w.heap.size 5 i0 (.int .u8 0) 1 1 Tryd.underlying67 hi hz0 hz1 hz2 rfl (by decide) _ _ _ rfl (hrow.alloc _) ⟨W.heap.size, 0, none⟩ 1 1 [encv x] rfl rfl (cell_one_new _ _ _) (by simp [Value.oneCell']) (by unfold maxLen; omega) (by omega) (by have := hB.size; simp; omega) ?_; intro v' w1 hown' hgrow _; obtain ⟨g', cap', rfl⟩ := ownsRow_succ hown'; obtain ⟨hv1, hv2, hr2, hk2, hb2⟩ := hv.appended (by decide) hrow hB.size (Nat.le_refl _) hown' hgrow; have hc1 := hv1.cell; have hf1 := hv1.frozen)
    exact ⟨hk2.from _, hb2, ⟨_, hv2, by simpa using hr2, trivial⟩, hB.trans hb2⟩
  case done =>
    rintro D ys W hD hys ⟨⟨v, hv, hrow, _⟩, hB⟩ hK
    have hc := hv.cell
    have HY := Lib.hid hys
    clear hys
    gi_wp2
    refine ⟨by simp, .inl ⟨_, _, rfl, run_takeDeferred hK, ?_⟩⟩
    exact ⟨_, results_tmp rfl _ _ _, v, ys, rfl, HY.out, ownsRow_putObj hrow _ hK rfl, hB.trans (belowK_b (w := w) (Nat.le_refl _) W D _ _ (by simp at hD; omega) hK rfl rfl)⟩
  case stop =>
    rintro D c pre W _ _ h _
    exact h.elim
end Go.Proofs.YtpbkgegkjglibaaDoor

namespace Go.Proofs.YtpbkgegkjglibaaDoor
open Go Go.Proofs Go.RowKit Go.Shelf
attribute [local go_sem] Oper.semAt_some

set_option maxHeartbeats 1000000 in
theorem collect_in (F : Fence) (n : Nat) (h63 : F.fn 63) (h72 : F.fn 72) (h73 : F.fn 73) (h74 : F.fn 74) (hro : F.round = none) (hn : 4 ≤ n) (b a0 a1 a2 a3 : Nat) (hw : wlt a0 a1 a2 a3) (w : World) (hb : b < w.heap.size) (hT : TabAt w) (hC : ClsAt b a0 a1 a2 a3 w) :
    CallsIn F n Tryd.prog 63 #[.func (.func 73) #[] #[.pointer (some ⟨b, 0, none⟩)]] w fun e W' => ∃ (v : Value) (xs : List (Fin 256)), e = .returned v ∧ xs.map Fin.val = bytesB a0 a1 a2 a3 ∧ W'.ownsRow w.heap.size 5 1 v xs.length (xs.map encv) ∧ Below w.heap.size w W' := by
  have h1 : 1 ≤ n := by omega
  refine callsIn_of_wp Tryd.func63 rfl h63 ?_ hro
  simp only [Tryd.ntmps63, List.size_toArray, List.length_cons, List.length_nil, Nat.reduceAdd, Nat.reduceSub, Array.replicate_succ, Array.replicate_zero, List.push_toArray, List.append_toArray, List.nil_append, List.cons_append]
  gi_wp2_with (gi_at_call 72; refine (appendSeq_in F (n - 1) h72 h73 h74 hro (by omega) b a0 a1 a2 a3 hw _ hb hT hC).mono ?_; rintro e w' ⟨v, xs, rfl, hx, hr, hB⟩; have HX := Lib.hid hx; clear hx)
  go_ret
  exact ⟨v, xs, rfl, HX.out, hr, hB⟩

set_option maxHeartbeats 1000000 in
theorem each_calls (a0 a1 a2 a3 : Nat) (w : World) :
    Calls Tryd.prog 64 #[.agg #[.int .u64 a0, .int .u64 a1, .int .u64 a2, .int .u64 a3]] w fun e w' => e = .returned (.func (.func 73) #[] #[.pointer (some ⟨w.heap.size, 0, none⟩)]) ∧ w' = w.alloc (.cells #[.int .u64 a0, .int .u64 a1, .int .u64 a2, .int .u64 a3] 38) := by
  go_enter Tryd.func64, Tryd.ntmps64
  go_wp2
  go_ret
  exact ⟨rfl, rfl⟩

def bstr (l : List Nat) : ByteArray := ⟨(l.map UInt8.ofNat).toArray⟩
set_option maxRecDepth 100000 in
theorem conv_row {W : World} {base : Nat} {v : Value} {xs : List (Fin 256)} (h : W.ownsRow base 5 1 v xs.length (xs.map encv)) :
    (convert 67 9 v).run Tryd.prog W = .ok (.string (bstr (xs.map Fin.val))) W := by
  rcases h.2 with ⟨rfl, hn⟩ | ⟨g, cap, cur, rfl, _⟩
  · obtain rfl : xs = [] := List.eq_nil_of_length_eq_zero hn
    exact run_convert_bytes_nil W 67 5 Tryd.underlying67 Tryd.underlying5 _ _ 9 Tryd.underlying9
  · have := run_convert_bytes_arg (P := Tryd.prog) W 67 5 Tryd.underlying67 Tryd.underlying5 g 0 xs.length cap (xs.map fun x => (x.val : Int)) (by simp) (fun i hi => by
      have := h.cellAt i (by omega)
      rw [Nat.zero_add, this]
      simp [hi]) 9 Tryd.underlying9
    rw [this]
    congr 2
    simp [strOfNums, bstr, Function.comp_def]

set_option maxHeartbeats 1000000 in
/-- class.Bytes. -/
theorem bytes_calls (a0 a1 a2 a3 : Nat) (hw : wlt a0 a1 a2 a3) (w : World) (h0 : 0 < w.heap.size) (hT : TabAt w) :
    Calls Tryd.prog 49 #[.agg #[.int .u64 a0, .int .u64 a1, .int .u64 a2, .int .u64 a3]] w fun e w' => e = .returned (.string (bstr (bytesB a0 a1 a2 a3))) ∧ Below w.heap.size w w' := by
  have hB1 : Below w.heap.size w ((w.alloc (.cells #[.int .u64 a0, .int .u64 a1, .int .u64 a2, .int .u64 a3] 38)).alloc (.cells #[.int .u64 a0, .int .u64 a1, .int .u64 a2, .int .u64 a3] 38)) := ((Below.refl _ w).alloc (Nat.le_refl _) _).alloc (by simp) _
  have hT1 := Lib.hid (hT.below hB1 h0)
  clear hT
  go_enter Tryd.func49, Tryd.ntmps49
  go_wp2_with (first
    | (go_at_call 64; refine (each_calls a0 a1 a2 a3 _).mono ?_; rintro e w' ⟨rfl, rfl⟩)
    | (go_at_call 63; refine (callsIn_wide.1 (collect_in Fence.wide 4 trivial trivial trivial trivial rfl (by omega) _ a0 a1 a2 a3 hw _ (by simp) hT1.out ⟨by simp, by simp, by simp, by simp⟩)).mono ?_; rintro e w' ⟨v, xs, rfl, hx, hr, hB⟩; have HX := Lib.hid hx; clear hx; have hcv := conv_row hr))
  go_ret
  exact ⟨by first | rfl | (rw [HX.out]; rfl), hB1.trans (hB.mono (by simp; omega))⟩
end Go.Proofs.YtpbkgegkjglibaaDoor
