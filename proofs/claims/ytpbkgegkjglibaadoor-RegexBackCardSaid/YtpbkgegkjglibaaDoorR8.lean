/- Regex: class.Union. -/
import Derived.Test.YtpbkgegkjglibaaDoorKn
import Derived.Test.YtpbkgegkjglibaaDoorR4
import Derived.Lib.ConvBytes
import Derived.Laws.Bits64b
import Derived.Lib.Hide
import Derived.RegionTactic
namespace Go.Proofs.YtpbkgegkjglibaaDoor
open Go Go.Proofs Go.RowKit Go.Shelf
attribute [local go_sem] Oper.semAt_some
/-- Word i of the class of the listed bytes. -/
def cw (l : List Nat) (i : Nat) : Nat := l.foldl (fun w b => if b / 64 = i then w ||| 2 ^ (b % 64) else w) 0
theorem cw_snoc (l : List Nat) (b i : Nat) : cw (l ++ [b]) i = if b / 64 = i then cw l i ||| 2 ^ (b % 64) else cw l i := by simp [cw]
theorem cw_nil (i : Nat) : cw [] i = 0 := rfl
theorem cw_lt (l : List Nat) (i : Nat) : cw l i < 18446744073709551616 := by
  unfold cw
  suffices h : ∀ (l : List Nat) (w : Nat), w < 2 ^ 64 → l.foldl (fun w b => if b / 64 = i then w ||| 2 ^ (b % 64) else w) w < 2 ^ 64 from by simpa using h l 0 (by decide)
  intro l
  induction l with
  | nil => intro w h; exact h
  | cons b l ih =>
    intro w h
    rw [List.foldl_cons]
    apply ih
    split
    · exact Nat.or_lt_two_pow h (Nat.pow_lt_pow_right (by decide) (Nat.mod_lt _ (by decide)))
    · exact h
/-- A class lies in block b. -/
def ClsAt (b a0 a1 a2 a3 : Nat) (W : World) : Prop :=
  W.cell? ⟨b, 0, none⟩ = some (.int .u64 (a0 : Nat)) ∧ W.cell? ⟨b, 1, none⟩ = some (.int .u64 (a1 : Nat)) ∧ W.cell? ⟨b, 2, none⟩ = some (.int .u64 (a2 : Nat)) ∧ W.cell? ⟨b, 3, none⟩ = some (.int .u64 (a3 : Nat))

theorem or_bit (a r : Nat) (ha : a < 18446744073709551616) (hr : r < 64) : bits .or .u64 (a : Int) (IntKind.u64.wrap ((2 : Int) ^ r)) = ((a ||| 2 ^ r : Nat) : Int) := by
  have h : 2 ^ r < 2 ^ 64 := Nat.pow_lt_pow_right (by decide) hr
  rw [wrap_two_pow r hr, bits_or_u64_nat a _ ha (by simpa using h)]
/-- A string's bytes, as numbers. -/
def sb (s : ByteArray) : List Nat := s.data.toList.map UInt8.toNat
theorem sb_len (s : ByteArray) : (sb s).length = s.size := by unfold sb; rw [List.length_map, Array.length_toList]; rfl
def sbAt (s : ByteArray) (k : Nat) : Nat := (s.data.toList.getD k 0).toNat
theorem sb_take (s : ByteArray) (k : Nat) (h : k < s.size) : (sb s).take (k + 1) = (sb s).take k ++ [sbAt s k] := by
  have hl : k < (sb s).length := by rw [sb_len]; exact h
  have this : k < s.data.toList.length := by rw [Array.length_toList]; exact h
  have e : (sb s)[k]? = some (sbAt s k) := by
    unfold sb sbAt
    rw [List.getElem?_map, List.getElem?_eq_getElem this, List.getD_eq_getElem?_getD, List.getElem?_eq_getElem this]
    rfl
  rw [List.take_succ_eq_append_getElem hl]
  congr 2
  exact Option.some.inj ((List.getElem?_eq_getElem hl).symm.trans e)
theorem sbAt_lt (s : ByteArray) (k : Nat) : sbAt s k < 256 := UInt8.toNat_lt _

/-- A class lies in block B, and may be written. -/
def ClsIn (B : Nat) (l : List Nat) (W : World) : Prop := ClsAt B (cw l 0) (cw l 1) (cw l 2) (cw l 3) W ∧ ∀ j, W.frozen? ⟨B, j, none⟩ = false

theorem cell_set_ne (W : World) (B i q : Nat) (v : Value) (h : i ≠ q) : (W.setCell ⟨B, q, none⟩ v).cell? ⟨B, i, none⟩ = W.cell? ⟨B, i, none⟩ := by
  exact World.cell?_setCell_other _ _ _ _ (by simp)
/-- A class stored over itself. -/
def stored (B a0 a1 a2 a3 : Nat) (W : World) : World := (((W.setCell ⟨B, 0, none⟩ (.int .u64 a0)).setCell ⟨B, 1, none⟩ (.int .u64 a1)).setCell ⟨B, 2, none⟩ (.int .u64 a2)).setCell ⟨B, 3, none⟩ (.int .u64 a3)
theorem stored_at {B a0 a1 a2 a3 : Nat} {W : World} (h0 : (W.cell? ⟨B, 0, none⟩).isSome = true) (h1 : (W.cell? ⟨B, 1, none⟩).isSome = true) (h2 : (W.cell? ⟨B, 2, none⟩).isSome = true) (h3 : (W.cell? ⟨B, 3, none⟩).isSome = true) :
    ClsAt B a0 a1 a2 a3 (stored B a0 a1 a2 a3 W) := by
  have n1 : ∀ (W : World) (v : Value) (i q : Nat), i ≠ q → (W.setCell ⟨B, q, none⟩ v).cell? ⟨B, i, none⟩ = W.cell? ⟨B, i, none⟩ := fun W v i q h => cell_set_ne W B i q v h
  refine ⟨?_, ?_, ?_, ?_⟩ <;> unfold stored
  · rw [n1 _ _ _ _ (by decide), n1 _ _ _ _ (by decide), n1 _ _ _ _ (by decide)]
    exact World.cell?_setCell_same' _ _ _ h0
  · rw [n1 _ _ _ _ (by decide), n1 _ _ _ _ (by decide)]
    exact World.cell?_setCell_same' _ _ _ (by rw [n1 _ _ _ _ (by decide)]; exact h1)
  · rw [n1 _ _ _ _ (by decide)]
    exact World.cell?_setCell_same' _ _ _ (by rw [n1 _ _ _ _ (by decide), n1 _ _ _ _ (by decide)]; exact h2)
  · exact World.cell?_setCell_same' _ _ _ (by rw [n1 _ _ _ _ (by decide), n1 _ _ _ _ (by decide), n1 _ _ _ _ (by decide)]; exact h3)
theorem stored_below {n B a0 a1 a2 a3 : Nat} {w W : World} (h : Below n w W) (hn : n ≤ B) : Below n w (stored B a0 a1 a2 a3 W) :=
  (((h.setCell (p := ⟨B, 0, none⟩) hn _).setCell (p := ⟨B, 1, none⟩) hn _).setCell (p := ⟨B, 2, none⟩) hn _).setCell (p := ⟨B, 3, none⟩) hn _
theorem ClsIn.put {B : Nat} {l : List Nat} {W : World} (h : ClsIn B l W) {y q r : Nat} (hq : y / 64 = q) (hr : r = y % 64) (h4 : q < 4) :
    ClsIn B (l ++ [y]) (W.setCell ⟨B, q, none⟩ (.int .u64 (cw l q ||| 2 ^ r : Nat))) := by
  obtain ⟨⟨c0, c1, c2, c3⟩, hf⟩ := h
  have hs : ∀ i, cw (l ++ [y]) i = if q = i then cw l i ||| 2 ^ r else cw l i := fun i => by rw [cw_snoc, hq, hr]
  refine ⟨?_, fun j => by rw [World.frozen?_setCell]; exact hf j⟩
  obtain rfl | rfl | rfl | rfl : q = 0 ∨ q = 1 ∨ q = 2 ∨ q = 3 := by omega
  all_goals
    refine ⟨?_, ?_, ?_, ?_⟩ <;> rw [hs]
    all_goals first
      | (rw [if_pos rfl]; exact World.cell?_setCell_same' _ _ _ (by simp [c0, c1, c2, c3]))
      | (rw [if_neg (by decide), cell_set_ne _ _ _ _ _ (by decide)]; assumption)

set_option maxHeartbeats 4000000 in
theorem of_calls (s : ByteArray) (hs : s.size ≤ 1000000) (w : World) :
    Calls Tryd.prog 60 #[.string s] w fun e w' => e = .returned (.agg #[.int .u64 (cw (sb s) 0 : Nat), .int .u64 (cw (sb s) 1 : Nat), .int .u64 (cw (sb s) 2 : Nat), .int .u64 (cw (sb s) 3 : Nat)]) ∧ Below w.heap.size w w' := by
  have hcv := fun W => Lib.run_convert_string_bytes (P := Tryd.prog) W 9 67 5 s Tryd.underlying9 Tryd.underlying67 Tryd.underlying5
  have hB0 : Below w.heap.size w (w.alloc (.cells #[.int .u64 0, .int .u64 0, .int .u64 0, .int .u64 0] 38)) := (Below.refl _ w).alloc (Nat.le_refl _) _
  have hsz : (w.alloc (.cells #[.int .u64 0, .int .u64 0, .int .u64 0, .int .u64 0] 38)).heap.size = w.heap.size + 1 := by simp
  have hB1 : Below w.heap.size w (Lib.bytesWorld (w.alloc (.cells #[.int .u64 0, .int .u64 0, .int .u64 0, .int .u64 0] 38)) 5 s) :=
    hB0.trans ⟨rfl, rfl, rfl, by rw [Lib.bytesWorld_size]; omega, fun k hk => Lib.bytesWorld_at_old _ _ _ _ (by omega)⟩
  have hcls : ClsIn w.heap.size [] (Lib.bytesWorld (w.alloc (.cells #[.int .u64 0, .int .u64 0, .int .u64 0, .int .u64 0] 38)) 5 s) := by
    refine ⟨⟨?_, ?_, ?_, ?_⟩, fun j => ?_⟩
    all_goals first
      | (rw [Lib.bytesWorld_old _ _ _ _ (by simp)]; simp [cw_nil])
      | (rw [World.frozen?_of_block (Lib.bytesWorld_at_old _ _ _ _ (by simp))]; simp)
  have hbytes : ∀ j, j < s.size → (Lib.bytesWorld (w.alloc (.cells #[.int .u64 0, .int .u64 0, .int .u64 0, .int .u64 0] 38)) 5 s).cell? ⟨w.heap.size + 1, j, none⟩ = some (.int .u8 (sbAt s j : Nat)) := fun j hj => by
    have := Lib.bytesWorld_cell (w.alloc (.cells #[.int .u64 0, .int .u64 0, .int .u64 0, .int .u64 0] 38)) 5 s j hj
    rw [hsz] at this
    exact this
  have HB := Lib.hid hbytes
  have HC := Lib.hid hcls
  clear hbytes hcls
  rw [← hsz] at HB
  generalize hW1 : Lib.bytesWorld (w.alloc (.cells #[.int .u64 0, .int .u64 0, .int .u64 0, .int .u64 0] 38)) 5 s = W1 at *
  have hcv1 := hcv (w.alloc (.cells #[.int .u64 0, .int .u64 0, .int .u64 0, .int .u64 0] 38))
  rw [hW1, hsz] at hcv1
  rw [hsz] at HB
  generalize grownCap (w.alloc (.cells #[.int .u64 0, .int .u64 0, .int .u64 0, .int .u64 0] 38)) s.size 0 5 = cap at *
  clear hcv hsz hB0
  go_enter Tryd.func60, Tryd.ntmps60
  go_wp2
  go_loopw [8] (fun i wr => ∃ k : Nat, k ≤ s.size ∧ i = .int .i64 k ∧ ClsIn w.heap.size ((sb s).take k) wr ∧ (∀ j, j < s.size → wr.cell? ⟨w.heap.size + 1, j, none⟩ = some (.int .u8 (sbAt s j : Nat))) ∧ Below w.heap.size w wr)
    (fun i _ => s.size - (intOf i).toNat)
  case atStart => exact ⟨0, Nat.zero_le _, rfl, HC.out, HB.out, hB1⟩
  case round =>
    obtain ⟨k, hk, rfl, hcl, hby, hB⟩ := hrel
    by_cases hlt : k < s.size
    · have hb0 := hby k hlt
      have HBY := Lib.hid hby
      clear hby
      have ht := Lib.hid (sb_take s k hlt)
      have hy := sbAt_lt s k
      generalize sbAt s k = y at *
      obtain ⟨⟨c0, c1, c2, c3⟩, hf⟩ := hcl
      have l0 := cw_lt ((sb s).take k) 0
      have l1 := cw_lt ((sb s).take k) 1
      have l2 := cw_lt ((sb s).take k) 2
      have l3 := cw_lt ((sb s).take k) 3
      obtain ⟨r, hr⟩ : ∃ r : Nat, r = y % 64 := ⟨_, rfl⟩
      have hr64 : r < 64 := by omega
      have hrm : (y : Int) % 64 = (r : Nat) := by omega
      have HR := Lib.hid hr
      clear hr
      obtain hq | hq | hq | hq : y / 64 = 0 ∨ y / 64 = 1 ∨ y / 64 = 2 ∨ y / 64 = 3 := by omega
      · have hqi : (y : Int) / 64 = 0 := by omega
        have HN := ClsIn.put (B := w.heap.size) (W := wr) ⟨⟨c0, c1, c2, c3⟩, hf⟩ hq HR.out (by decide)
        have HQ := Lib.hid HN
        clear hq HN
        have ho := or_bit _ r l0 hr64
        go_wp2
        go_roundw
        case rel => exact ⟨k + 1, by omega, by simp, by rw [ht.out]; exact HQ.out, fun j hj => (World.cell?_setCell_other _ _ _ _ (by simp)).trans (HBY.out j hj), hB.setCell (p := ⟨w.heap.size, 0, none⟩) (Nat.le_refl _) _⟩
        case measure => simp [intOf]; omega
      · have hqi : (y : Int) / 64 = 1 := by omega
        have HN := ClsIn.put (B := w.heap.size) (W := wr) ⟨⟨c0, c1, c2, c3⟩, hf⟩ hq HR.out (by decide)
        have HQ := Lib.hid HN
        clear hq HN
        have ho := or_bit _ r l1 hr64
        go_wp2
        go_roundw
        case rel => exact ⟨k + 1, by omega, by simp, by rw [ht.out]; exact HQ.out, fun j hj => (World.cell?_setCell_other _ _ _ _ (by simp)).trans (HBY.out j hj), hB.setCell (p := ⟨w.heap.size, 1, none⟩) (Nat.le_refl _) _⟩
        case measure => simp [intOf]; omega
      · have hqi : (y : Int) / 64 = 2 := by omega
        have HN := ClsIn.put (B := w.heap.size) (W := wr) ⟨⟨c0, c1, c2, c3⟩, hf⟩ hq HR.out (by decide)
        have HQ := Lib.hid HN
        clear hq HN
        have ho := or_bit _ r l2 hr64
        go_wp2
        go_roundw
        case rel => exact ⟨k + 1, by omega, by simp, by rw [ht.out]; exact HQ.out, fun j hj => (World.cell?_setCell_other _ _ _ _ (by simp)).trans (HBY.out j hj), hB.setCell (p := ⟨w.heap.size, 2, none⟩) (Nat.le_refl _) _⟩
        case measure => simp [intOf]; omega
      · have hqi : (y : Int) / 64 = 3 := by omega
        have HN := ClsIn.put (B := w.heap.size) (W := wr) ⟨⟨c0, c1, c2, c3⟩, hf⟩ hq HR.out (by decide)
        have HQ := Lib.hid HN
        clear hq HN
        have ho := or_bit _ r l3 hr64
        go_wp2
        go_roundw
        case rel => exact ⟨k + 1, by omega, by simp, by rw [ht.out]; exact HQ.out, fun j hj => (World.cell?_setCell_other _ _ _ _ (by simp)).trans (HBY.out j hj), hB.setCell (p := ⟨w.heap.size, 3, none⟩) (Nat.le_refl _) _⟩
        case measure => simp [intOf]; omega
    · obtain rfl : k = s.size := by omega
      have e : (sb s).take s.size = sb s := List.take_of_length_le (by rw [sb_len]; omega)
      rw [e] at hcl
      obtain ⟨⟨c0, c1, c2, c3⟩, hf⟩ := hcl
      clear e hby
      go_wp2
      have hF := stored_at (B := w.heap.size) (a0 := cw (sb s) 0) (a1 := cw (sb s) 1) (a2 := cw (sb s) 2) (a3 := cw (sb s) 3) (W := wr) (by rw [c0]; rfl) (by rw [c1]; rfl) (by rw [c2]; rfl) (by rw [c3]; rfl)
      have hBf := stored_below (B := w.heap.size) (a0 := cw (sb s) 0) (a1 := cw (sb s) 1) (a2 := cw (sb s) 2) (a3 := cw (sb s) 3) hB (Nat.le_refl _)
      unfold stored at hF hBf
      generalize ((((wr.setCell ⟨w.heap.size, 0, none⟩ (.int .u64 (cw (sb s) 0 : Nat))).setCell ⟨w.heap.size, 1, none⟩ (.int .u64 (cw (sb s) 1 : Nat))).setCell ⟨w.heap.size, 2, none⟩ (.int .u64 (cw (sb s) 2 : Nat))).setCell ⟨w.heap.size, 3, none⟩ (.int .u64 (cw (sb s) 3 : Nat))) = Wf at hF hBf ⊢
      obtain ⟨d0, d1, d2, d3⟩ := hF
      exact bodyPost_ret (v := .agg #[.int .u64 (cw (sb s) 0 : Nat), .int .u64 (cw (sb s) 1 : Nat), .int .u64 (cw (sb s) 2 : Nat), .int .u64 (cw (sb s) 3 : Nat)]) (by simp [results, Tryd.results60, go_sem, d0, d1, d2, d3]) rfl ⟨rfl, hBf⟩
end Go.Proofs.YtpbkgegkjglibaaDoor

namespace Go.Proofs.YtpbkgegkjglibaaDoor
open Go Go.Proofs Go.RowKit Go.Shelf
attribute [local go_sem] Oper.semAt_some
def rng (low high : Nat) : List Nat := List.range' low (high + 1 - low)
theorem ClsIn.drew {B : Nat} {l : List Nat} {W : World} (h : ClsIn B l W) : ClsIn B l W.drew := ⟨⟨h.1.1, h.1.2.1, h.1.2.2.1, h.1.2.2.2⟩, h.2⟩
set_option maxHeartbeats 4000000 in
theorem range_calls (low high : Nat) (hl : low < 256) (hh : high < 256) (w : World) :
    Calls Tryd.prog 70 #[.int .u8 low, .int .u8 high] w fun e w' => e = .returned (.agg #[.int .u64 (cw (rng low high) 0 : Nat), .int .u64 (cw (rng low high) 1 : Nat), .int .u64 (cw (rng low high) 2 : Nat), .int .u64 (cw (rng low high) 3 : Nat)]) ∧ Below w.heap.size w w' := by
  have hB0 : Below w.heap.size w (w.alloc (.cells #[.int .u64 0, .int .u64 0, .int .u64 0, .int .u64 0] 38)) := (Below.refl _ w).alloc (Nat.le_refl _) _
  have hcls : ClsIn w.heap.size [] (w.alloc (.cells #[.int .u64 0, .int .u64 0, .int .u64 0, .int .u64 0] 38)) := ⟨⟨by simp [cw_nil], by simp [cw_nil], by simp [cw_nil], by simp [cw_nil]⟩, fun j => by simp⟩
  go_enter Tryd.func70, Tryd.ntmps70
  go_wp2
  go_loopw [5] (fun i wr => ∃ k : Nat, low ≤ k ∧ k ≤ 256 ∧ (k ≤ high + 1 ∨ k = low) ∧ i = .int .i64 k ∧ ClsIn w.heap.size (List.range' low (k - low)) wr ∧ Below w.heap.size w wr)
    (fun i _ => 256 - (intOf i).toNat)
  case atStart => exact ⟨low, Nat.le_refl _, by omega, .inr rfl, rfl, by rw [Nat.sub_self]; exact hcls, hB0⟩
  case round =>
    obtain ⟨k, hk, hk2, hk3, rfl, hcl, hB⟩ := hrel
    by_cases hlt : k ≤ high
    · have e : List.range' low (k + 1 - low) = List.range' low (k - low) ++ [k] := by
        rw [show k + 1 - low = (k - low) + 1 by omega, List.range'_concat]
        congr 2
        omega
      have HE := Lib.hid e
      clear e
      generalize List.range' low (k - low) = l at *
      obtain ⟨⟨c0, c1, c2, c3⟩, hf⟩ := hcl
      have l0 := cw_lt l 0
      have l1 := cw_lt l 1
      have l2 := cw_lt l 2
      have l3 := cw_lt l 3
      obtain ⟨r, hr⟩ : ∃ r : Nat, r = k % 64 := ⟨_, rfl⟩
      have hr64 : r < 64 := by omega
      have hrm : (k : Int) % 64 = (r : Nat) := by omega
      have HR := Lib.hid hr
      clear hr
      obtain hq | hq | hq | hq : k / 64 = 0 ∨ k / 64 = 1 ∨ k / 64 = 2 ∨ k / 64 = 3 := by omega
      · have hqi : (k : Int) / 64 = 0 := by omega
        have HN := ClsIn.put (B := w.heap.size) (W := wr) ⟨⟨c0, c1, c2, c3⟩, hf⟩ hq HR.out (by decide)
        have HQ := Lib.hid HN
        clear hq HN
        have ho := or_bit _ r l0 hr64
        go_wp2
        go_region
        go_wp2
        go_roundw
        case rel => exact ⟨k + 1, by omega, by omega, by omega, by simp, by rw [HE.out]; exact HQ.out.drew, (hB.setCell (p := ⟨w.heap.size, 0, none⟩) (Nat.le_refl _) _).drew⟩
        case measure => simp [intOf]; omega
      · have hqi : (k : Int) / 64 = 1 := by omega
        have HN := ClsIn.put (B := w.heap.size) (W := wr) ⟨⟨c0, c1, c2, c3⟩, hf⟩ hq HR.out (by decide)
        have HQ := Lib.hid HN
        clear hq HN
        have ho := or_bit _ r l1 hr64
        go_wp2
        go_region
        go_wp2
        go_roundw
        case rel => exact ⟨k + 1, by omega, by omega, by omega, by simp, by rw [HE.out]; exact HQ.out.drew, (hB.setCell (p := ⟨w.heap.size, 1, none⟩) (Nat.le_refl _) _).drew⟩
        case measure => simp [intOf]; omega
      · have hqi : (k : Int) / 64 = 2 := by omega
        have HN := ClsIn.put (B := w.heap.size) (W := wr) ⟨⟨c0, c1, c2, c3⟩, hf⟩ hq HR.out (by decide)
        have HQ := Lib.hid HN
        clear hq HN
        have ho := or_bit _ r l2 hr64
        go_wp2
        go_region
        go_wp2
        go_roundw
        case rel => exact ⟨k + 1, by omega, by omega, by omega, by simp, by rw [HE.out]; exact HQ.out.drew, (hB.setCell (p := ⟨w.heap.size, 2, none⟩) (Nat.le_refl _) _).drew⟩
        case measure => simp [intOf]; omega
      · have hqi : (k : Int) / 64 = 3 := by omega
        have HN := ClsIn.put (B := w.heap.size) (W := wr) ⟨⟨c0, c1, c2, c3⟩, hf⟩ hq HR.out (by decide)
        have HQ := Lib.hid HN
        clear hq HN
        have ho := or_bit _ r l3 hr64
        go_wp2
        go_region
        go_wp2
        go_roundw
        case rel => exact ⟨k + 1, by omega, by omega, by omega, by simp, by rw [HE.out]; exact HQ.out.drew, (hB.setCell (p := ⟨w.heap.size, 3, none⟩) (Nat.le_refl _) _).drew⟩
        case measure => simp [intOf]; omega
    · have e : List.range' low (k - low) = rng low high := by unfold rng; congr 1; omega
      rw [e] at hcl
      clear e
      obtain ⟨⟨c0, c1, c2, c3⟩, hf⟩ := hcl
      go_wp2
      have hF := stored_at (B := w.heap.size) (a0 := cw (rng low high) 0) (a1 := cw (rng low high) 1) (a2 := cw (rng low high) 2) (a3 := cw (rng low high) 3) (W := wr) (by rw [c0]; rfl) (by rw [c1]; rfl) (by rw [c2]; rfl) (by rw [c3]; rfl)
      have hBf := stored_below (B := w.heap.size) (a0 := cw (rng low high) 0) (a1 := cw (rng low high) 1) (a2 := cw (rng low high) 2) (a3 := cw (rng low high) 3) hB (Nat.le_refl _)
      unfold stored at hF hBf
      generalize ((((wr.setCell ⟨w.heap.size, 0, none⟩ (.int .u64 (cw (rng low high) 0 : Nat))).setCell ⟨w.heap.size, 1, none⟩ (.int .u64 (cw (rng low high) 1 : Nat))).setCell ⟨w.heap.size, 2, none⟩ (.int .u64 (cw (rng low high) 2 : Nat))).setCell ⟨w.heap.size, 3, none⟩ (.int .u64 (cw (rng low high) 3 : Nat))) = Wf at hF hBf ⊢
      obtain ⟨d0, d1, d2, d3⟩ := hF
      exact bodyPost_ret (v := .agg #[.int .u64 (cw (rng low high) 0 : Nat), .int .u64 (cw (rng low high) 1 : Nat), .int .u64 (cw (rng low high) 2 : Nat), .int .u64 (cw (rng low high) 3 : Nat)]) (by simp [results, Tryd.results70, go_sem, d0, d1, d2, d3]) rfl ⟨rfl, hBf⟩
end Go.Proofs.YtpbkgegkjglibaaDoor

namespace Go.Proofs.YtpbkgegkjglibaaDoor
open Go Go.Proofs Go.RowKit Go.Shelf
attribute [local go_sem] Oper.semAt_some
/-- All that is not there. -/
def nw (a : Nat) : Nat := 18446744073709551615 ^^^ a
theorem nw_lt (a : Nat) (h : a < 18446744073709551616) : nw a < 18446744073709551616 := Nat.xor_lt_two_pow (n := 64) (by decide) h
theorem xor_all (a : Nat) (ha : a < 18446744073709551616) : bits .xor .u64 18446744073709551615 (a : Int) = (nw a : Nat) := by
  have h1 : (BitVec.ofInt 64 (a : Int)).toNat = a := by
    rw [BitVec.ofInt_natCast, BitVec.toNat_ofNat]; exact Nat.mod_eq_of_lt (by omega)
  have h2 : (BitVec.ofInt 64 (18446744073709551615 : Int)).toNat = 18446744073709551615 := by decide
  have h3 := nw_lt a ha
  show IntKind.u64.wrap ((BitVec.ofInt 64 18446744073709551615 ^^^ BitVec.ofInt 64 (a : Int)).toNat : Int) = _
  rw [BitVec.toNat_xor, h1, h2, IntKind.wrap_u64]
  unfold nw at h3 ⊢
  omega
theorem xor_all2 (a : Nat) (ha : a < 18446744073709551616) : bits .xor .u64 (if IntKind.u64.signed = true then -1 else IntKind.u64.max) (a : Int) = (nw a : Nat) := xor_all a ha
theorem sz38 : AX.sizeT Tryd.prog 38 = some 4 := by kernel_rfl
theorem idx38_0 (x0 x1 x2 x3 : Value) (w : World) : (Instr.index 38 (.agg #[x0, x1, x2, x3]) (.int .i64 0)).run Tryd.prog w = .ok x0 w := by kernel_rfl
theorem idx38_1 (x0 x1 x2 x3 : Value) (w : World) : (Instr.index 38 (.agg #[x0, x1, x2, x3]) (.int .i64 1)).run Tryd.prog w = .ok x1 w := by kernel_rfl
theorem idx38_2 (x0 x1 x2 x3 : Value) (w : World) : (Instr.index 38 (.agg #[x0, x1, x2, x3]) (.int .i64 2)).run Tryd.prog w = .ok x2 w := by kernel_rfl
theorem idx38_3 (x0 x1 x2 x3 : Value) (w : World) : (Instr.index 38 (.agg #[x0, x1, x2, x3]) (.int .i64 3)).run Tryd.prog w = .ok x3 w := by kernel_rfl
def nk (k i a : Nat) : Value := .int .u64 ((if i < k then nw a else a : Nat) : Int)
set_option maxHeartbeats 4000000 in
theorem not_k (a b c d : Nat) (ha : a < 18446744073709551616) (hb : b < 18446744073709551616) (hc : c < 18446744073709551616) (hd : d < 18446744073709551616) (w : World) :
    Calls Tryd.prog 59 #[.agg #[.int .u64 a, .int .u64 b, .int .u64 c, .int .u64 d]] w fun e w' => e = .returned (.agg #[.int .u64 (nw a : Nat), .int .u64 (nw b : Nat), .int .u64 (nw c : Nat), .int .u64 (nw d : Nat)]) ∧ Below w.heap.size w w' := by
  have xa := xor_all2 a ha
  have xb := xor_all2 b hb
  have xc := xor_all2 c hc
  have xd := xor_all2 d hd
  clear ha hb hc hd
  go_enter Tryd.func59, Tryd.ntmps59
  go_wp2
  go_loopw [6] (fun i wr => ∃ k : Nat, k ≤ 4 ∧ i = .int .i64 k ∧ Bx wr w.heap.size 38 #[nk k 0 a, nk k 1 b, nk k 2 c, nk k 3 d] ∧ Bx wr (w.heap.size + 1) 38 #[.int .u64 0, .int .u64 0, .int .u64 0, .int .u64 0] ∧ Below w.heap.size w wr)
    (fun i _ => 4 - (intOf i).toNat)
  case atStart => exact ⟨0, by omega, rfl, (Bx.new w 38 _).alloc _, by have := Bx.new (w.alloc (.cells #[.int .u64 a, .int .u64 b, .int .u64 c, .int .u64 d] 38)) 38 #[.int .u64 0, .int .u64 0, .int .u64 0, .int .u64 0]; simpa using this, ((Below.refl _ w).alloc (Nat.le_refl _) _).alloc (by simp) _⟩
  case round =>
    obtain ⟨k, hk, rfl, h1, h2, hB⟩ := hrel
    obtain rfl | rfl | rfl | rfl | rfl : k = 0 ∨ k = 1 ∨ k = 2 ∨ k = 3 ∨ k = 4 := by omega
    · have c0 : wr.cell? ⟨w.heap.size, 0, none⟩ = some (.int .u64 (a : Nat)) := h1.cell 0
      have f0 := h1.frozen 0
      have ix := idx38_0 (.int .u64 a) (.int .u64 b) (.int .u64 c) (.int .u64 d)
      have hs : Bx (wr.setCell ⟨w.heap.size, 0, none⟩ (.int .u64 (nw a : Nat))) w.heap.size 38 #[nk 1 0 a, nk 1 1 b, nk 1 2 c, nk 1 3 d] := Bx.set h1 0 (.int .u64 (nw a : Nat))
      have ho : Bx (wr.setCell ⟨w.heap.size, 0, none⟩ (.int .u64 (nw a : Nat))) (w.heap.size + 1) 38 _ := h2.other (by omega)
      have hb := hB.setCell (p := ⟨w.heap.size, 0, none⟩) (Nat.le_refl _) (.int .u64 (nw a : Nat))
      go_wp2
      exact ⟨⟨1, by omega, rfl, hs, ho, hb⟩, by simp [intOf]⟩
    · have c0 : wr.cell? ⟨w.heap.size, 1, none⟩ = some (.int .u64 (b : Nat)) := h1.cell 1
      have f0 := h1.frozen 1
      have ix := idx38_1 (.int .u64 a) (.int .u64 b) (.int .u64 c) (.int .u64 d)
      have hs : Bx (wr.setCell ⟨w.heap.size, 1, none⟩ (.int .u64 (nw b : Nat))) w.heap.size 38 #[nk 2 0 a, nk 2 1 b, nk 2 2 c, nk 2 3 d] := Bx.set h1 1 (.int .u64 (nw b : Nat))
      have ho : Bx (wr.setCell ⟨w.heap.size, 1, none⟩ (.int .u64 (nw b : Nat))) (w.heap.size + 1) 38 _ := h2.other (by omega)
      have hb := hB.setCell (p := ⟨w.heap.size, 1, none⟩) (Nat.le_refl _) (.int .u64 (nw b : Nat))
      go_wp2
      exact ⟨⟨2, by omega, rfl, hs, ho, hb⟩, by simp [intOf]⟩
    · have c0 : wr.cell? ⟨w.heap.size, 2, none⟩ = some (.int .u64 (c : Nat)) := h1.cell 2
      have f0 := h1.frozen 2
      have ix := idx38_2 (.int .u64 a) (.int .u64 b) (.int .u64 c) (.int .u64 d)
      have hs : Bx (wr.setCell ⟨w.heap.size, 2, none⟩ (.int .u64 (nw c : Nat))) w.heap.size 38 #[nk 3 0 a, nk 3 1 b, nk 3 2 c, nk 3 3 d] := Bx.set h1 2 (.int .u64 (nw c : Nat))
      have ho : Bx (wr.setCell ⟨w.heap.size, 2, none⟩ (.int .u64 (nw c : Nat))) (w.heap.size + 1) 38 _ := h2.other (by omega)
      have hb := hB.setCell (p := ⟨w.heap.size, 2, none⟩) (Nat.le_refl _) (.int .u64 (nw c : Nat))
      go_wp2
      exact ⟨⟨3, by omega, rfl, hs, ho, hb⟩, by simp [intOf]⟩
    · have c0 : wr.cell? ⟨w.heap.size, 3, none⟩ = some (.int .u64 (d : Nat)) := h1.cell 3
      have f0 := h1.frozen 3
      have ix := idx38_3 (.int .u64 a) (.int .u64 b) (.int .u64 c) (.int .u64 d)
      have hs : Bx (wr.setCell ⟨w.heap.size, 3, none⟩ (.int .u64 (nw d : Nat))) w.heap.size 38 #[nk 4 0 a, nk 4 1 b, nk 4 2 c, nk 4 3 d] := Bx.set h1 3 (.int .u64 (nw d : Nat))
      have ho : Bx (wr.setCell ⟨w.heap.size, 3, none⟩ (.int .u64 (nw d : Nat))) (w.heap.size + 1) 38 _ := h2.other (by omega)
      have hb := hB.setCell (p := ⟨w.heap.size, 3, none⟩) (Nat.le_refl _) (.int .u64 (nw d : Nat))
      go_wp2
      exact ⟨⟨4, by omega, rfl, hs, ho, hb⟩, by simp [intOf]⟩
    · have c0 : wr.cell? ⟨w.heap.size, 0, none⟩ = some (.int .u64 (nw a : Nat)) := h1.cell 0
      have c1 : wr.cell? ⟨w.heap.size, 1, none⟩ = some (.int .u64 (nw b : Nat)) := h1.cell 1
      have c2 : wr.cell? ⟨w.heap.size, 2, none⟩ = some (.int .u64 (nw c : Nat)) := h1.cell 2
      have c3 : wr.cell? ⟨w.heap.size, 3, none⟩ = some (.int .u64 (nw d : Nat)) := h1.cell 3
      clear xa xb xc xd
      go_wp2_with ((with_reducible refine st_id ?_); refine AX.wpList_storeBox (vs := [.int .u64 (nw a : Nat), .int .u64 (nw b : Nat), .int .u64 (nw c : Nat), .int .u64 (nw d : Nat)]) rfl rfl sz38 h2 rfl rfl ?_; rintro W9 h3 h4 h5)
      have h3' : Bx W9 (w.heap.size + 1) 38 #[.int .u64 (nw a : Nat), .int .u64 (nw b : Nat), .int .u64 (nw c : Nat), .int .u64 (nw d : Nat)] := h3
      have d0 := h3'.cell 0
      have d1 := h3'.cell 1
      have d2 := h3'.cell 2
      have d3 := h3'.cell 3
      have hB9 : Below w.heap.size w W9 := hB.trans (AX.below_turn (by omega) (.inl (Array.getElem?_eq_some_iff.1 h3).1) h4 h5)
      exact bodyPost_ret (v := .agg #[.int .u64 (nw a : Nat), .int .u64 (nw b : Nat), .int .u64 (nw c : Nat), .int .u64 (nw d : Nat)]) (by simp [results, Tryd.results59, go_sem, d0, d1, d2, d3]) rfl ⟨rfl, hB9⟩
end Go.Proofs.YtpbkgegkjglibaaDoor

namespace Go.Proofs.YtpbkgegkjglibaaDoor
open Go Go.Proofs Go.RowKit Go.Shelf
attribute [local go_sem] Oper.semAt_some
def uk (k i a b : Nat) : Value := .int .u64 ((if i < k then a ||| b else a : Nat) : Int)
set_option maxHeartbeats 4000000 in
theorem union_k (a b c d e f g h : Nat) (ha : a < 18446744073709551616) (hb : b < 18446744073709551616) (hc : c < 18446744073709551616) (hd : d < 18446744073709551616) (he : e < 18446744073709551616) (hf : f < 18446744073709551616) (hg : g < 18446744073709551616) (hh : h < 18446744073709551616) (w : World) :
    Calls Tryd.prog 69 #[.agg #[.int .u64 a, .int .u64 b, .int .u64 c, .int .u64 d], .agg #[.int .u64 e, .int .u64 f, .int .u64 g, .int .u64 h]] w fun x w' => x = .returned (.agg #[.int .u64 (a ||| e : Nat), .int .u64 (b ||| f : Nat), .int .u64 (c ||| g : Nat), .int .u64 (d ||| h : Nat)]) ∧ Below w.heap.size w w' := by
  have xa := bits_or_u64_nat a e ha he
  have xb := bits_or_u64_nat b f hb hf
  have xc := bits_or_u64_nat c g hc hg
  have xd := bits_or_u64_nat d h hd hh
  clear ha hb hc hd he hf hg hh
  go_enter Tryd.func69, Tryd.ntmps69
  go_wp2
  go_loopw [8] (fun i wr => ∃ k : Nat, k ≤ 4 ∧ i = .int .i64 k ∧ Bx wr w.heap.size 38 #[uk k 0 a e, uk k 1 b f, uk k 2 c g, uk k 3 d h] ∧ Bx wr (w.heap.size + 2) 38 #[.int .u64 0, .int .u64 0, .int .u64 0, .int .u64 0] ∧ Below w.heap.size w wr)
    (fun i _ => 4 - (intOf i).toNat)
  case atStart =>
    have hz := Bx.new ((w.alloc (.cells #[.int .u64 a, .int .u64 b, .int .u64 c, .int .u64 d] 38)).alloc (.cells #[.int .u64 e, .int .u64 f, .int .u64 g, .int .u64 h] 38)) 38 #[.int .u64 0, .int .u64 0, .int .u64 0, .int .u64 0]
    exact ⟨0, by omega, rfl, ((Bx.new w 38 _).alloc _).alloc _, by simpa using hz, (((Below.refl _ w).alloc (Nat.le_refl _) _).alloc (by simp) _).alloc (by simp; omega) _⟩
  case round =>
    obtain ⟨k, hk, rfl, h1, h2, hB⟩ := hrel
    obtain rfl | rfl | rfl | rfl | rfl : k = 0 ∨ k = 1 ∨ k = 2 ∨ k = 3 ∨ k = 4 := by omega
    · have c0 : wr.cell? ⟨w.heap.size, 0, none⟩ = some (.int .u64 (a : Nat)) := h1.cell 0
      have f0 := h1.frozen 0
      have ix := idx38_0 (.int .u64 e) (.int .u64 f) (.int .u64 g) (.int .u64 h)
      have hs : Bx (wr.setCell ⟨w.heap.size, 0, none⟩ (.int .u64 (a ||| e : Nat))) w.heap.size 38 #[uk 1 0 a e, uk 1 1 b f, uk 1 2 c g, uk 1 3 d h] := Bx.set h1 0 (.int .u64 (a ||| e : Nat))
      have ho : Bx (wr.setCell ⟨w.heap.size, 0, none⟩ (.int .u64 (a ||| e : Nat))) (w.heap.size + 2) 38 _ := h2.other (by omega)
      have hb := hB.setCell (p := ⟨w.heap.size, 0, none⟩) (Nat.le_refl _) (.int .u64 (a ||| e : Nat))
      go_wp2
      exact ⟨⟨1, by omega, rfl, hs, ho, hb⟩, by simp [intOf]⟩
    · have c0 : wr.cell? ⟨w.heap.size, 1, none⟩ = some (.int .u64 (b : Nat)) := h1.cell 1
      have f0 := h1.frozen 1
      have ix := idx38_1 (.int .u64 e) (.int .u64 f) (.int .u64 g) (.int .u64 h)
      have hs : Bx (wr.setCell ⟨w.heap.size, 1, none⟩ (.int .u64 (b ||| f : Nat))) w.heap.size 38 #[uk 2 0 a e, uk 2 1 b f, uk 2 2 c g, uk 2 3 d h] := Bx.set h1 1 (.int .u64 (b ||| f : Nat))
      have ho : Bx (wr.setCell ⟨w.heap.size, 1, none⟩ (.int .u64 (b ||| f : Nat))) (w.heap.size + 2) 38 _ := h2.other (by omega)
      have hb := hB.setCell (p := ⟨w.heap.size, 1, none⟩) (Nat.le_refl _) (.int .u64 (b ||| f : Nat))
      go_wp2
      exact ⟨⟨2, by omega, rfl, hs, ho, hb⟩, by simp [intOf]⟩
    · have c0 : wr.cell? ⟨w.heap.size, 2, none⟩ = some (.int .u64 (c : Nat)) := h1.cell 2
      have f0 := h1.frozen 2
      have ix := idx38_2 (.int .u64 e) (.int .u64 f) (.int .u64 g) (.int .u64 h)
      have hs : Bx (wr.setCell ⟨w.heap.size, 2, none⟩ (.int .u64 (c ||| g : Nat))) w.heap.size 38 #[uk 3 0 a e, uk 3 1 b f, uk 3 2 c g, uk 3 3 d h] := Bx.set h1 2 (.int .u64 (c ||| g : Nat))
      have ho : Bx (wr.setCell ⟨w.heap.size, 2, none⟩ (.int .u64 (c ||| g : Nat))) (w.heap.size + 2) 38 _ := h2.other (by omega)
      have hb := hB.setCell (p := ⟨w.heap.size, 2, none⟩) (Nat.le_refl _) (.int .u64 (c ||| g : Nat))
      go_wp2
      exact ⟨⟨3, by omega, rfl, hs, ho, hb⟩, by simp [intOf]⟩
    · have c0 : wr.cell? ⟨w.heap.size, 3, none⟩ = some (.int .u64 (d : Nat)) := h1.cell 3
      have f0 := h1.frozen 3
      have ix := idx38_3 (.int .u64 e) (.int .u64 f) (.int .u64 g) (.int .u64 h)
      have hs : Bx (wr.setCell ⟨w.heap.size, 3, none⟩ (.int .u64 (d ||| h : Nat))) w.heap.size 38 #[uk 4 0 a e, uk 4 1 b f, uk 4 2 c g, uk 4 3 d h] := Bx.set h1 3 (.int .u64 (d ||| h : Nat))
      have ho : Bx (wr.setCell ⟨w.heap.size, 3, none⟩ (.int .u64 (d ||| h : Nat))) (w.heap.size + 2) 38 _ := h2.other (by omega)
      have hb := hB.setCell (p := ⟨w.heap.size, 3, none⟩) (Nat.le_refl _) (.int .u64 (d ||| h : Nat))
      go_wp2
      exact ⟨⟨4, by omega, rfl, hs, ho, hb⟩, by simp [intOf]⟩
    · have c0 : wr.cell? ⟨w.heap.size, 0, none⟩ = some (.int .u64 (a ||| e : Nat)) := h1.cell 0
      have c1 : wr.cell? ⟨w.heap.size, 1, none⟩ = some (.int .u64 (b ||| f : Nat)) := h1.cell 1
      have c2 : wr.cell? ⟨w.heap.size, 2, none⟩ = some (.int .u64 (c ||| g : Nat)) := h1.cell 2
      have c3 : wr.cell? ⟨w.heap.size, 3, none⟩ = some (.int .u64 (d ||| h : Nat)) := h1.cell 3
      clear xa xb xc xd
      go_wp2_with ((with_reducible refine st_id ?_); refine AX.wpList_storeBox (vs := [.int .u64 (a ||| e : Nat), .int .u64 (b ||| f : Nat), .int .u64 (c ||| g : Nat), .int .u64 (d ||| h : Nat)]) rfl rfl sz38 h2 rfl rfl ?_; rintro W9 h3 h4 h5)
      have h3' : Bx W9 (w.heap.size + 2) 38 #[.int .u64 (a ||| e : Nat), .int .u64 (b ||| f : Nat), .int .u64 (c ||| g : Nat), .int .u64 (d ||| h : Nat)] := h3
      have d0 := h3'.cell 0
      have d1 := h3'.cell 1
      have d2 := h3'.cell 2
      have d3 := h3'.cell 3
      have hB9 : Below w.heap.size w W9 := hB.trans (AX.below_turn (by omega) (.inl (Array.getElem?_eq_some_iff.1 h3).1) h4 h5)
      exact bodyPost_ret (v := .agg #[.int .u64 (a ||| e : Nat), .int .u64 (b ||| f : Nat), .int .u64 (c ||| g : Nat), .int .u64 (d ||| h : Nat)]) (by simp [results, Tryd.results69, go_sem, d0, d1, d2, d3]) rfl ⟨rfl, hB9⟩
end Go.Proofs.YtpbkgegkjglibaaDoor
