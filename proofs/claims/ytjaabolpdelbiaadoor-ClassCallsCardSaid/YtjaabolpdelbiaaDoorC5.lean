import Derived.Test.YtjaabolpdelbiaaDoorC3
import Derived.Test.YtjaabolpdelbiaaDoorM2
import Derived.Lib.ConvBytes
namespace Go.Proofs.YtjaabolpdelbiaaDoor
open Go Go.Proofs Go.RowKit Go.Shelf
attribute [local go_sem] Oper.semAt_some

theorem wrap_two_pow (r : Nat) (hr : r < 64) : IntKind.u64.wrap ((2 : Int) ^ r) = ((2 ^ r : Nat) : Int) := by
  have h : 2 ^ r < 2 ^ 64 := Nat.pow_lt_pow_right (by decide) hr
  have h : 2 ^ r < 18446744073709551616 := by simpa using h
  have e : ((2 : Int) ^ r) = ((2 ^ r : Nat) : Int) := by simp
  rw [e]
  generalize 2 ^ r = m at *
  rw [IntKind.wrap_u64]
  omega
theorem land_two_pow (a r : Nat) : a &&& 2 ^ r = if a.testBit r then 2 ^ r else 0 := by
  apply Nat.eq_of_testBit_eq
  intro j
  rw [Nat.testBit_and, Nat.testBit_two_pow]
  by_cases h : r = j
  · subst h
    cases a.testBit r <;> simp
  · cases a.testBit r <;> simp [h, Nat.testBit_two_pow]
theorem or_bit (a r : Nat) (ha : a < 18446744073709551616) (hr : r < 64) : bits .or .u64 (a : Int) (IntKind.u64.wrap ((2 : Int) ^ r)) = ((a ||| 2 ^ r : Nat) : Int) := by
  have h : 2 ^ r < 2 ^ 64 := Nat.pow_lt_pow_right (by decide) hr
  rw [wrap_two_pow r hr, bits_or_u64_nat a _ ha (by simpa using h)]
theorem and_bit (a r : Nat) (ha : a < 18446744073709551616) (hr : r < 64) : (bits .and .u64 (a : Int) (IntKind.u64.wrap ((2 : Int) ^ r)) != 0) = a.testBit r := by
  have h : 2 ^ r < 2 ^ 64 := Nat.pow_lt_pow_right (by decide) hr
  rw [wrap_two_pow r hr, bits_and_u64_nat a _ ha (by simpa using h), land_two_pow]
  have hp : 0 < 2 ^ r := Nat.two_pow_pos r
  generalize 2 ^ r = m at hp
  cases hb : a.testBit r with
  | true => simp; omega
  | false => simp

/-- A string's bytes, as numbers. -/
def sb (s : ByteArray) : List Nat := s.data.toList.map UInt8.toNat
theorem sb_len (s : ByteArray) : (sb s).length = s.size := by unfold sb; rw [List.length_map, Array.length_toList]; rfl
def sbAt (s : ByteArray) (k : Nat) : Nat := (s.data.toList.getD k 0).toNat
theorem sb_take (s : ByteArray) (k : Nat) (h : k < s.size) : (sb s).take (k + 1) = (sb s).take k ++ [sbAt s k] := by
  have hl : k < (sb s).length := by rw [sb_len]; exact h
  have this : k < s.data.toList.length := by rw [Array.length_toList]; exact h
  have e : (sb s)[k]? = some (sbAt s k) := by
    unfold sb sbAt
    rw [List.getElem?_map, List.getElem?_eq_getElem this, List.getD_eq_getElem?_getD, List.getElem?_eq_getElem this]
    rfl
  rw [List.take_succ_eq_append_getElem hl]
  congr 2
  exact Option.some.inj ((List.getElem?_eq_getElem hl).symm.trans e)
theorem sbAt_lt (s : ByteArray) (k : Nat) : sbAt s k < 256 := UInt8.toNat_lt _

/-- A class lies in block B, and may be written. -/
def ClsIn (B : Nat) (l : List Nat) (W : World) : Prop := ClsAt B (cw l 0) (cw l 1) (cw l 2) (cw l 3) W ∧ ∀ j, W.frozen? ⟨B, j, none⟩ = false

theorem cell_set_ne (W : World) (B i q : Nat) (v : Value) (h : i ≠ q) : (W.setCell ⟨B, q, none⟩ v).cell? ⟨B, i, none⟩ = W.cell? ⟨B, i, none⟩ := by
  exact World.cell?_setCell_other _ _ _ _ (by simp)
/-- A class stored over itself. -/
def stored (B a0 a1 a2 a3 : Nat) (W : World) : World := (((W.setCell ⟨B, 0, none⟩ (.int .u64 a0)).setCell ⟨B, 1, none⟩ (.int .u64 a1)).setCell ⟨B, 2, none⟩ (.int .u64 a2)).setCell ⟨B, 3, none⟩ (.int .u64 a3)
theorem stored_at {B a0 a1 a2 a3 : Nat} {W : World} (h0 : (W.cell? ⟨B, 0, none⟩).isSome = true) (h1 : (W.cell? ⟨B, 1, none⟩).isSome = true) (h2 : (W.cell? ⟨B, 2, none⟩).isSome = true) (h3 : (W.cell? ⟨B, 3, none⟩).isSome = true) :
    ClsAt B a0 a1 a2 a3 (stored B a0 a1 a2 a3 W) := by
  have n1 : ∀ (W : World) (v : Value) (i q : Nat), i ≠ q → (W.setCell ⟨B, q, none⟩ v).cell? ⟨B, i, none⟩ = W.cell? ⟨B, i, none⟩ := fun W v i q h => cell_set_ne W B i q v h
  refine ⟨?_, ?_, ?_, ?_⟩ <;> unfold stored
  · rw [n1 _ _ _ _ (by decide), n1 _ _ _ _ (by decide), n1 _ _ _ _ (by decide)]
    exact World.cell?_setCell_same' _ _ _ h0
  · rw [n1 _ _ _ _ (by decide), n1 _ _ _ _ (by decide)]
    exact World.cell?_setCell_same' _ _ _ (by rw [n1 _ _ _ _ (by decide)]; exact h1)
  · rw [n1 _ _ _ _ (by decide)]
    exact World.cell?_setCell_same' _ _ _ (by rw [n1 _ _ _ _ (by decide), n1 _ _ _ _ (by decide)]; exact h2)
  · exact World.cell?_setCell_same' _ _ _ (by rw [n1 _ _ _ _ (by decide), n1 _ _ _ _ (by decide), n1 _ _ _ _ (by decide)]; exact h3)
theorem stored_below {n B a0 a1 a2 a3 : Nat} {w W : World} (h : Below n w W) (hn : n ≤ B) : Below n w (stored B a0 a1 a2 a3 W) :=
  (((h.setCell (p := ⟨B, 0, none⟩) hn _).setCell (p := ⟨B, 1, none⟩) hn _).setCell (p := ⟨B, 2, none⟩) hn _).setCell (p := ⟨B, 3, none⟩) hn _
theorem ClsIn.put {B : Nat} {l : List Nat} {W : World} (h : ClsIn B l W) {y q r : Nat} (hq : y / 64 = q) (hr : r = y % 64) (h4 : q < 4) :
    ClsIn B (l ++ [y]) (W.setCell ⟨B, q, none⟩ (.int .u64 (cw l q ||| 2 ^ r : Nat))) := by
  obtain ⟨⟨c0, c1, c2, c3⟩, hf⟩ := h
  have hs : ∀ i, cw (l ++ [y]) i = if q = i then cw l i ||| 2 ^ r else cw l i := fun i => by rw [cw_snoc, hq, hr]
  refine ⟨?_, fun j => by rw [World.frozen?_setCell]; exact hf j⟩
  obtain rfl | rfl | rfl | rfl : q = 0 ∨ q = 1 ∨ q = 2 ∨ q = 3 := by omega
  all_goals
    refine ⟨?_, ?_, ?_, ?_⟩ <;> rw [hs]
    all_goals first
      | (rw [if_pos rfl]; exact World.cell?_setCell_same' _ _ _ (by simp [c0, c1, c2, c3]))
      | (rw [if_neg (by decide), cell_set_ne _ _ _ _ _ (by decide)]; assumption)

set_option maxHeartbeats 4000000 in
theorem of_calls (s : ByteArray) (hs : s.size ≤ 1000000) (w : World) :
    Calls Tryd.prog 21 #[.string s] w fun e w' => e = .returned (.agg #[.int .u64 (cw (sb s) 0 : Nat), .int .u64 (cw (sb s) 1 : Nat), .int .u64 (cw (sb s) 2 : Nat), .int .u64 (cw (sb s) 3 : Nat)]) ∧ Below w.heap.size w w' := by
  have hcv := fun W => Lib.run_convert_string_bytes (P := Tryd.prog) W 9 35 5 s Tryd.underlying9 Tryd.underlying35 Tryd.underlying5
  have hB0 : Below w.heap.size w (w.alloc (.cells #[.int .u64 0, .int .u64 0, .int .u64 0, .int .u64 0] 27)) := (Below.refl _ w).alloc (Nat.le_refl _) _
  have hsz : (w.alloc (.cells #[.int .u64 0, .int .u64 0, .int .u64 0, .int .u64 0] 27)).heap.size = w.heap.size + 1 := by simp
  have hB1 : Below w.heap.size w (Lib.bytesWorld (w.alloc (.cells #[.int .u64 0, .int .u64 0, .int .u64 0, .int .u64 0] 27)) 5 s) :=
    hB0.trans ⟨rfl, rfl, rfl, by rw [Lib.bytesWorld_size]; omega, fun k hk => Lib.bytesWorld_at_old _ _ _ _ (by omega)⟩
  have hcls : ClsIn w.heap.size [] (Lib.bytesWorld (w.alloc (.cells #[.int .u64 0, .int .u64 0, .int .u64 0, .int .u64 0] 27)) 5 s) := by
    refine ⟨⟨?_, ?_, ?_, ?_⟩, fun j => ?_⟩
    all_goals first
      | (rw [Lib.bytesWorld_old _ _ _ _ (by simp)]; simp [cw_nil])
      | (rw [World.frozen?_of_block (Lib.bytesWorld_at_old _ _ _ _ (by simp))]; simp)
  have hbytes : ∀ j, j < s.size → (Lib.bytesWorld (w.alloc (.cells #[.int .u64 0, .int .u64 0, .int .u64 0, .int .u64 0] 27)) 5 s).cell? ⟨w.heap.size + 1, j, none⟩ = some (.int .u8 (sbAt s j : Nat)) := fun j hj => by
    have := Lib.bytesWorld_cell (w.alloc (.cells #[.int .u64 0, .int .u64 0, .int .u64 0, .int .u64 0] 27)) 5 s j hj
    rw [hsz] at this
    exact this
  have HB := Lib.hid hbytes
  have HC := Lib.hid hcls
  clear hbytes hcls
  rw [← hsz] at HB
  generalize hW1 : Lib.bytesWorld (w.alloc (.cells #[.int .u64 0, .int .u64 0, .int .u64 0, .int .u64 0] 27)) 5 s = W1 at *
  have hcv1 := hcv (w.alloc (.cells #[.int .u64 0, .int .u64 0, .int .u64 0, .int .u64 0] 27))
  rw [hW1, hsz] at hcv1
  rw [hsz] at HB
  generalize grownCap (w.alloc (.cells #[.int .u64 0, .int .u64 0, .int .u64 0, .int .u64 0] 27)) s.size 0 5 = cap at *
  clear hcv hsz hB0
  go_enter Tryd.func21, Tryd.ntmps21
  go_wp2
  go_loopw [8] (fun i wr => ∃ k : Nat, k ≤ s.size ∧ i = .int .i64 k ∧ ClsIn w.heap.size ((sb s).take k) wr ∧ (∀ j, j < s.size → wr.cell? ⟨w.heap.size + 1, j, none⟩ = some (.int .u8 (sbAt s j : Nat))) ∧ Below w.heap.size w wr)
    (fun i _ => s.size - (intOf i).toNat)
  case atStart => exact ⟨0, Nat.zero_le _, rfl, HC.out, HB.out, hB1⟩
  case round =>
    obtain ⟨k, hk, rfl, hcl, hby, hB⟩ := hrel
    by_cases hlt : k < s.size
    · have hb0 := hby k hlt
      have HBY := Lib.hid hby
      clear hby
      have ht := Lib.hid (sb_take s k hlt)
      have hy := sbAt_lt s k
      generalize sbAt s k = y at *
      obtain ⟨⟨c0, c1, c2, c3⟩, hf⟩ := hcl
      have l0 := cw_lt ((sb s).take k) 0
      have l1 := cw_lt ((sb s).take k) 1
      have l2 := cw_lt ((sb s).take k) 2
      have l3 := cw_lt ((sb s).take k) 3
      obtain ⟨r, hr⟩ : ∃ r : Nat, r = y % 64 := ⟨_, rfl⟩
      have hr64 : r < 64 := by omega
      have hrm : (y : Int) % 64 = (r : Nat) := by omega
      have HR := Lib.hid hr
      clear hr
      obtain hq | hq | hq | hq : y / 64 = 0 ∨ y / 64 = 1 ∨ y / 64 = 2 ∨ y / 64 = 3 := by omega
      · have hqi : (y : Int) / 64 = 0 := by omega
        have HN := ClsIn.put (B := w.heap.size) (W := wr) ⟨⟨c0, c1, c2, c3⟩, hf⟩ hq HR.out (by decide)
        have HQ := Lib.hid HN
        clear hq HN
        have ho := or_bit _ r l0 hr64
        go_wp2
        go_roundw
        case rel => exact ⟨k + 1, by omega, by simp, by rw [ht.out]; exact HQ.out, fun j hj => (World.cell?_setCell_other _ _ _ _ (by simp)).trans (HBY.out j hj), hB.setCell (p := ⟨w.heap.size, 0, none⟩) (Nat.le_refl _) _⟩
        case measure => simp [intOf]; omega
      · have hqi : (y : Int) / 64 = 1 := by omega
        have HN := ClsIn.put (B := w.heap.size) (W := wr) ⟨⟨c0, c1, c2, c3⟩, hf⟩ hq HR.out (by decide)
        have HQ := Lib.hid HN
        clear hq HN
        have ho := or_bit _ r l1 hr64
        go_wp2
        go_roundw
        case rel => exact ⟨k + 1, by omega, by simp, by rw [ht.out]; exact HQ.out, fun j hj => (World.cell?_setCell_other _ _ _ _ (by simp)).trans (HBY.out j hj), hB.setCell (p := ⟨w.heap.size, 1, none⟩) (Nat.le_refl _) _⟩
        case measure => simp [intOf]; omega
      · have hqi : (y : Int) / 64 = 2 := by omega
        have HN := ClsIn.put (B := w.heap.size) (W := wr) ⟨⟨c0, c1, c2, c3⟩, hf⟩ hq HR.out (by decide)
        have HQ := Lib.hid HN
        clear hq HN
        have ho := or_bit _ r l2 hr64
        go_wp2
        go_roundw
        case rel => exact ⟨k + 1, by omega, by simp, by rw [ht.out]; exact HQ.out, fun j hj => (World.cell?_setCell_other _ _ _ _ (by simp)).trans (HBY.out j hj), hB.setCell (p := ⟨w.heap.size, 2, none⟩) (Nat.le_refl _) _⟩
        case measure => simp [intOf]; omega
      · have hqi : (y : Int) / 64 = 3 := by omega
        have HN := ClsIn.put (B := w.heap.size) (W := wr) ⟨⟨c0, c1, c2, c3⟩, hf⟩ hq HR.out (by decide)
        have HQ := Lib.hid HN
        clear hq HN
        have ho := or_bit _ r l3 hr64
        go_wp2
        go_roundw
        case rel => exact ⟨k + 1, by omega, by simp, by rw [ht.out]; exact HQ.out, fun j hj => (World.cell?_setCell_other _ _ _ _ (by simp)).trans (HBY.out j hj), hB.setCell (p := ⟨w.heap.size, 3, none⟩) (Nat.le_refl _) _⟩
        case measure => simp [intOf]; omega
    · obtain rfl : k = s.size := by omega
      have e : (sb s).take s.size = sb s := List.take_of_length_le (by rw [sb_len]; omega)
      rw [e] at hcl
      obtain ⟨⟨c0, c1, c2, c3⟩, hf⟩ := hcl
      clear e hby
      go_wp2
      have hF := stored_at (B := w.heap.size) (a0 := cw (sb s) 0) (a1 := cw (sb s) 1) (a2 := cw (sb s) 2) (a3 := cw (sb s) 3) (W := wr) (by rw [c0]; rfl) (by rw [c1]; rfl) (by rw [c2]; rfl) (by rw [c3]; rfl)
      have hBf := stored_below (B := w.heap.size) (a0 := cw (sb s) 0) (a1 := cw (sb s) 1) (a2 := cw (sb s) 2) (a3 := cw (sb s) 3) hB (Nat.le_refl _)
      unfold stored at hF hBf
      generalize ((((wr.setCell ⟨w.heap.size, 0, none⟩ (.int .u64 (cw (sb s) 0 : Nat))).setCell ⟨w.heap.size, 1, none⟩ (.int .u64 (cw (sb s) 1 : Nat))).setCell ⟨w.heap.size, 2, none⟩ (.int .u64 (cw (sb s) 2 : Nat))).setCell ⟨w.heap.size, 3, none⟩ (.int .u64 (cw (sb s) 3 : Nat))) = Wf at hF hBf ⊢
      obtain ⟨d0, d1, d2, d3⟩ := hF
      exact bodyPost_ret (v := .agg #[.int .u64 (cw (sb s) 0 : Nat), .int .u64 (cw (sb s) 1 : Nat), .int .u64 (cw (sb s) 2 : Nat), .int .u64 (cw (sb s) 3 : Nat)]) (by simp [results, Tryd.results21, go_sem, d0, d1, d2, d3]) rfl ⟨rfl, hBf⟩
end Go.Proofs.YtjaabolpdelbiaaDoor
