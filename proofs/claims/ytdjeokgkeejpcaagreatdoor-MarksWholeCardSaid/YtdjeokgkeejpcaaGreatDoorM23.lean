/- Marks: a row of parts as an argument: opened. -/
import Derived.Test.YtdjeokgkeejpcaaGreatDoorM20
import Derived.Test.YtdjeokgkeejpcaaGreatDoorPx1
import Derived.Test.YtdjeokgkeejpcaaGreatDoorRows
import Derived.Test.YtdjeokgkeejpcaaGreatDoorTie
import Derived.Test.YtdjeokgkeejpcaaGreatDoorCards
import Derived.WalkKit
import Derived.ProofKit
import Derived.OpenShut
import Derived.LaidMore
import Derived.Stop.Joined
import Derived.ChangeMaps5
import Derived.ChangeSlices
import Derived.Deep.Strs
import Derived.Deep.Slices
import Derived.Carry
import Derived.Lib.SmallJoins
import Derived.Laws.IdiomArrays
namespace Go.Proofs.YtdjeokgkeejpcaaGreatDoor
open Go Go.Proofs Go.RowKit
attribute [local go_sem] Oper.semAt_some
theorem mx2 {P : Program} {w : World} (ts : Array TypeId) (t : TypeId) (x y : Int) : (Builtin.max_ ts t #[.int .i64 x, .int .i64 y]).run P w = .ok (.int .i64 (max x y)) w := by
  rw [show max x y = if y > x then y else x by split <;> omega]
  simp [Builtin.max_, Builtin.max2]
theorem mn2 {P : Program} {w : World} (ts : Array TypeId) (t : TypeId) (x y : Int) : (Builtin.min_ ts t #[.int .i64 x, .int .i64 y]).run P w = .ok (.int .i64 (min x y)) w := by
  rw [show min x y = if y < x then y else x by split <;> omega]
  simp [Builtin.min_, Builtin.min2]
theorem mx3 {P : Program} {w : World} (ts : Array TypeId) (t : TypeId) (x y z : Int) : (Builtin.max_ ts t #[.int .i64 x, .int .i64 y, .int .i64 z]).run P w = .ok (.int .i64 (max (max x y) z)) w := by
  rw [show max (max x y) z = if z > (if y > x then y else x) then z else (if y > x then y else x) by rw [show (if y > x then y else x) = max x y by split <;> omega]; split <;> omega]
  simp [Builtin.max_, Builtin.max2]
attribute [local go_sem high] mx2 mn2 mx3
set_option maxRecDepth 100000 in
set_option maxHeartbeats 16000000 in
theorem later_k (l : List Pt) (hll : l.length ≤ 9223372036854775807) (la : Option Addr) (c : Nat) (k j first later : Int) (hk1 : k ≤ 9223372036854775807) (hj1 : j ≤ 9223372036854775807) (w : World) (hR : PRow w la l)
    (hL : ∀ W, Below w.heap.size w W → Calls Tryz.prog 5 #[] W fun e w' => e = .returned (.bool true) ∧ Below W.heap.size W w') :
    Calls Tryz.prog 3 #[.slice la l.length c, .int .i64 k, .int .i64 j, .int .i64 first, .int .i64 later] w fun e w' => e = .returned (.bool true) ∧ Below w.heap.size w w' := by
  have hlt := fun W (hb : Below w.heap.size w W) => light_k l hll la c W (hR.below hb (Nat.le_refl _))
  have hck := fun (hl : l.length ≤ 120) W (hb : Below w.heap.size w W) => check7_k l hl la c W (hR.below hb (Nat.le_refl _))
  go_enter Tryz.func3, Tryz.ntmps3
  go_upto_region 3 with (first
    | (go_at_call 5; (with_reducible refine (hL _ (Below.refl _ w)).mono ?_); rintro e W2 ⟨rfl, hB2⟩))
  have h6 := hlt W2 hB2
  clear hL
  have h67 : Calls Tryz.prog 6 #[.slice la l.length c, .int .i64 120] W2 fun e w' => (e = .returned (.bool true) ∧ l.length ≤ 120 ∨ e = .returned (.bool false)) ∧ Below w.heap.size w w' := h6.mono (by
    rintro e W3 ⟨⟨z, rfl, hz⟩, hb3⟩
    refine ⟨?_, hB2.trans (hb3.mono hB2.size)⟩
    cases z with
    | true => exact .inl ⟨rfl, hz rfl⟩
    | false => exact .inr rfl)
  have h77 : ∀ (hl : l.length ≤ 120) W, Below w.heap.size w W → Calls Tryz.prog 7 #[.slice la l.length c] W fun e w' => (e = .returned (.int .i64 0) ∧ TrOk l ∨ ∃ z : Int, e = .returned (.int .i64 z) ∧ z ≠ 0) ∧ Below w.heap.size w w' := fun hl W hb => (hck hl W hb).mono (by
    rintro e W3 ⟨⟨z, rfl, hz⟩, hb3⟩
    refine ⟨?_, hb.trans (hb3.mono hb.size)⟩
    by_cases h : z = 0
    · exact .inl ⟨by rw [h], hz h⟩
    · exact .inr ⟨z, rfl, h⟩)
  clear h6 hlt hck
  go_upto_region 5 with (first
    | (go_at_call 6; (with_reducible refine h67.mono ?_); rintro e W3 ⟨(⟨rfl, hl⟩ | rfl), hB3⟩)
    | (go_at_call 7; (with_reducible refine (h77 hl _ hB3).mono ?_); rintro e W4 ⟨(⟨rfl, hT⟩ | ⟨z, rfl, hz⟩), hB4⟩))
  rotate_left
  · exact bodyPost_ret (v := .bool true) (by simp [results, Tryz.results3, go_sem]) rfl ⟨rfl, hB4⟩
  · exact bodyPost_ret (v := .bool true) (by simp [results, Tryz.results3, go_sem]) rfl ⟨rfl, hB3⟩
  clear h67 h77
  go_upto_region 7 with fail
  obtain ⟨K, hK⟩ : ∃ K, K = max 0 (max k j) := ⟨_, rfl⟩
  obtain ⟨J, hJ⟩ : ∃ J, J = min (max 0 k) (max 0 j) := ⟨_, rfl⟩
  obtain ⟨F, hF⟩ : ∃ F, F = min (max 0 first) (max 0 later) := ⟨_, rfl⟩
  obtain ⟨T, hTt⟩ : ∃ T, T = max 0 (max first later) := ⟨_, rfl⟩
  rw [← hK, ← hJ, ← hF, ← hTt]
  have k0 : 0 ≤ K := by omega
  have k1 : K ≤ 9223372036854775807 := by omega
  have j0 : 0 ≤ J := by omega
  have jk : J ≤ K := by omega
  have f0 : 0 ≤ F := by omega
  have ft : F ≤ T := by omega
  clear hK hJ hF hTt
  have h8 := fun (k first : Int) (a0 : 0 ≤ k) (a1 : k ≤ 9223372036854775807) W (hb : Below w.heap.size w W) => marks8_k l hl hT la c k first a0 a1 W (hR.below hb (Nat.le_refl _))
  have h81 := h8 K F k0 k1
  have h82 := h8 K T k0 k1
  have h83 := h8 J F j0 (Int.le_trans jk k1)
  have h84 := h8 K (-1) k0 k1
  clear h8
  have hTr := Lib.hid hT.tr
  clear hT hR
  go_upto_region 8 with (first
    | (go_at_call 8; (with_reducible refine (h81 _ hB4).mono ?_); rintro e W5 ⟨⟨g1, X1, M1, rfl, b1, s1, m1⟩, hb5⟩; have hB5 := hB4.trans (hb5.mono hB4.size); clear h81)
    | (go_at_call 8; (with_reducible refine (h82 _ hB5).mono ?_); rintro e W6 ⟨⟨g2, X2, M2, rfl, b2, s2, m2⟩, hb6⟩; have hB6 := hB5.trans (hb6.mono hB5.size); clear h82)
    | (go_at_call 8; (with_reducible refine (h83 _ hB6).mono ?_); rintro e W7 ⟨⟨g3, X3, M3, rfl, b3, s3, m3⟩, hb7⟩; have hB7 := hB6.trans (hb7.mono hB6.size); clear h83)
    | (go_at_call 8; (with_reducible refine (h84 _ hB7).mono ?_); rintro e W8 ⟨⟨g4, X4, M4, rfl, b4, s4, m4⟩, hb8⟩; have hB8 := hB7.trans (hb8.mono hB7.size); clear h84))
  have b3 := b3.below hb8 b3.lt
  have b2 := b2.below hb7 b2.lt
  have b2 := b2.below hb8 b2.lt
  have b1 := b1.below hb6 b1.lt
  have b1 := b1.below hb7 b1.lt
  have b1 := b1.below hb8 b1.lt
  have l1 := m1.len
  have l2 := m2.len
  have l3 := m3.len
  have l4 := m4.len
  have hall : Hid (∀ n, n < l.length → (it M1 n = 3 → it M2 n = 3 ∧ it M3 n = 3 ∧ it M4 n = 3) ∧ (it M1 n = 1 ↔ it M2 n = 1) ∧ (it M1 n = 1 ↔ it M4 n = 1)) := Lib.hid fun n hn =>
    ⟨fun h => ⟨marks_mono hTr.out s1 s2 f0 (.inr ft) (fun _ => Int.le_refl _) m1 m2 n hn h, marks_mono hTr.out s1 s3 f0 (.inr (Int.le_refl _)) (reach_le jk) m1 m3 n hn h, marks_mono hTr.out s1 s4 f0 (.inl rfl) (fun _ => Int.le_refl _) m1 m4 n hn h⟩,
      stale_iff hTr.out s1 s2 m1 m2 n hn, stale_iff hTr.out s1 s4 m1 m4 n hn⟩
  clear m1 m2 m3 m4 s1 s2 s3 s4 hTr k0 k1 j0 jk f0 ft hb5 hb6 hb7 hb8
  go_upto_region 10 with fail
  go_wp2_with fail
  go_loopw [15] (fun i wr => ∃ n : Nat, n ≤ l.length ∧ i = .int .i64 n ∧ Below W8.heap.size W8 wr) (fun i _ => l.length - (intOf i).toNat)
  case atStart => exact ⟨0, Nat.zero_le _, rfl, Below.refl _ _⟩
  case round =>
    obtain ⟨n, hn, rfl, hB⟩ := hrel
    have hn0 : (0 : Int) ≤ (n : Int) := by omega
    have hBw := hB8.trans (hB.mono hB8.size)
    by_cases hlt : n < l.length
    · have hn1 : (n : Int) < (l.length : Int) := by omega
      obtain ⟨c1, c2, c3⟩ := hall.out n hlt
      have q1 : ∀ q : BW wr, q.W.cell? ⟨g1, 0 + n, none⟩ = some (.int .i64 (it M1 n)) := by
        rw [Nat.zero_add]; exact BW.cell (((hB.cell (p := ⟨g1, n, none⟩) b1.lt).trans (b1.cell n)).trans (intsA_get (by omega))) (Nat.lt_of_lt_of_le b1.lt hB.size)
      have q2 : ∀ q : BW wr, q.W.cell? ⟨g2, 0 + n, none⟩ = some (.int .i64 (it M2 n)) := by
        rw [Nat.zero_add]; exact BW.cell (((hB.cell (p := ⟨g2, n, none⟩) b2.lt).trans (b2.cell n)).trans (intsA_get (by omega))) (Nat.lt_of_lt_of_le b2.lt hB.size)
      have q3 : ∀ q : BW wr, q.W.cell? ⟨g3, 0 + n, none⟩ = some (.int .i64 (it M3 n)) := by
        rw [Nat.zero_add]; exact BW.cell (((hB.cell (p := ⟨g3, n, none⟩) b3.lt).trans (b3.cell n)).trans (intsA_get (by omega))) (Nat.lt_of_lt_of_le b3.lt hB.size)
      have q4 : ∀ q : BW wr, q.W.cell? ⟨g4, 0 + n, none⟩ = some (.int .i64 (it M4 n)) := by
        rw [Nat.zero_add]; exact BW.cell (((hB.cell (p := ⟨g4, n, none⟩) b4.lt).trans (b4.cell n)).trans (intsA_get (by omega))) (Nat.lt_of_lt_of_le b4.lt hB.size)
      obtain ⟨x1, hx1⟩ : ∃ x, x = it M1 n := ⟨_, rfl⟩
      obtain ⟨x2, hx2⟩ : ∃ x, x = it M2 n := ⟨_, rfl⟩
      obtain ⟨x3, hx3⟩ : ∃ x, x = it M3 n := ⟨_, rfl⟩
      obtain ⟨x4, hx4⟩ : ∃ x, x = it M4 n := ⟨_, rfl⟩
      rw [← hx1, ← hx2] at c2
      rw [← hx1, ← hx4] at c3
      rw [← hx1, ← hx2, ← hx3, ← hx4] at c1
      rw [← hx1] at q1
      have p1 := q1
      simp only [Nat.zero_add] at p1
      rw [← hx2] at q2
      have p2 := q2
      simp only [Nat.zero_add] at p2
      rw [← hx3] at q3
      have p3 := q3
      simp only [Nat.zero_add] at p3
      rw [← hx4] at q4
      have p4 := q4
      simp only [Nat.zero_add] at p4
      clear hx1 hx2 hx3 hx4 b1 b2 b3 b4 l1 l2 l3 l4
      have hcase : (x1 = 3 ∧ x2 = 3 ∧ x3 = 3 ∧ x4 = 3) ∨ (x1 = 1 ∧ x2 = 1 ∧ x4 = 1) ∨ ((x1 == 3) = false ∧ (x1 == 1) = false ∧ (x2 == 1) = false ∧ (x4 == 1) = false) := by
        by_cases e3 : x1 = 3
        · exact .inl ⟨e3, c1 e3⟩
        · by_cases e1 : x1 = 1
          · exact .inr (.inl ⟨e1, c2.1 e1, c3.1 e1⟩)
          · exact .inr (.inr ⟨beq_eq_false_iff_ne.2 e3, beq_eq_false_iff_ne.2 e1, beq_eq_false_iff_ne.2 fun h => e1 (c2.2 h), beq_eq_false_iff_ne.2 fun h => e1 (c3.2 h)⟩)
      clear c1 c2 c3
      rcases hcase with ⟨rfl, rfl, rfl, rfl⟩ | ⟨rfl, rfl, rfl⟩ | ⟨e1, e2, e3, e4⟩
      all_goals
        go_upto_region 13 with (fail)
        refine region_below (by kernel_rfl) (by kernel_rfl) ?_
        repeat (go_big_quiet_step (fail))
        refine wpQuiet_nil ?_
        rintro _ ⟨q, rfl⟩
        go_wp2_with fail
        go_roundw
        case rel => exact ⟨n + 1, by omega, by simp, hB.trans (q.h.mono hB.size)⟩
        case measure => simp [intOf]; omega
    · have hn1 : ¬ (n : Int) < (l.length : Int) := by omega
      go_wp2_with fail
      exact bodyPost_ret (v := .bool true) (by simp [results, Tryz.results3, go_sem]) rfl ⟨rfl, hBw⟩
end Go.Proofs.YtdjeokgkeejpcaaGreatDoor

namespace Go.Proofs.YtdjeokgkeejpcaaGreatDoor
open Go Go.Proofs Go.ChangeShapes Go.WideShapes Go.ChangeAt Go.RowKit
theorem own : ownKnob Tryz.prog.godebug = none := by kernel_rfl
def laid1 : List (String × DataW Unit) := [("math/bits.deBruijn64tab", Rows.laid_math_bits_deBruijn64tab)]
theorem door_met (os : Os) (args : Array Value) : laidMetH Tryz.prog laid1 ((World.doorLaid Tryz.prog 14 os).forCall (fun _ _ => 0) ⟨#[], args, []⟩).memory :=
  laidMetH_of_parts3 (fuel := 8) (laidMet_of_run' 8 (by kernel_rfl) (by kernel_rfl)) (by kernel_rfl) (by kernel_rfl)
theorem below_kept {w w' : World} (h : Below w.heap.size w w') : AX.Kept w w' := ⟨h.os, h.output, h.tape, fun k _ hk => (h.block k (Array.getElem?_eq_some_iff.1 hk).1).trans hk⟩
theorem choose_list {α : Type} {p : Nat → α → Prop} : ∀ n, (∀ i, i < n → ∃ x, p i x) → ∃ l : List α, l.length = n ∧ ∀ i (h : i < l.length), p i l[i]
  | 0, _ => ⟨[], rfl, fun i h => by cases h⟩
  | n + 1, h => by
    obtain ⟨l, hl, hp⟩ := choose_list n fun i hi => h i (by omega)
    obtain ⟨x, hx⟩ := h n (Nat.lt_succ_self n)
    refine ⟨l ++ [x], by simp [hl], fun i hi => ?_⟩
    by_cases e : i < l.length
    · rw [List.getElem_append_left e]; exact hp i e
    · have e2 : i = l.length := by simp at hi; omega
      subst e2
      rw [List.getElem_append_right (Nat.le_refl _)]
      simpa [hl] using hx
theorem nat_of_u64 {n : Int} (h : (Lit.int .u64 n).wf = true) : ∃ m : Nat, n = m ∧ m < 18446744073709551616 := by
  have := bounds_u64 h
  exact ⟨n.toNat, by omega, by omega⟩
theorem hc36 : Tryz.prog.cellsOf 36 = 8 := by kernel_rfl
theorem hc3 : Tryz.prog.cellsOf 3 = 1 := by kernel_rfl
theorem hc27 : Tryz.prog.cellsOf 27 = 1 := by kernel_rfl
theorem hc30 : Tryz.prog.cellsOf 30 = 1 := by kernel_rfl
theorem addr_add (B o k : Nat) : Addr.add (⟨B, o, none⟩ : Addr) k = ⟨B, o + k, none⟩ := by
  unfold Addr.add
  split
  · rename_i h; subst h; rfl
  · rfl
section
variable {H : Type} {enc : TypeId × Value → H} {w : World} {base : Nat} {sp : Nat → Bool} {held : Bool}
theorem one_u64 {n : Nat} {c : Value} {y : DataW H × List MemPlace} (h : DataW.trod enc Tryz.prog w base sp held n 30 [c] = some y) : ∃ m : Nat, m < 18446744073709551616 ∧ c = .int .u64 (m : Int) := by
  obtain ⟨k, h1, h2, h3⟩ := DataW.trod_int Tryz.underlying30 h
  obtain ⟨m, rfl, hm⟩ := nat_of_u64 h3
  exact ⟨m, hm, by simpa using h1⟩
theorem one_i64 {n : Nat} {c : Value} {y : DataW H × List MemPlace} (h : DataW.trod enc Tryz.prog w base sp held n 3 [c] = some y) : ∃ m : Int, c = .int .i64 m := by
  obtain ⟨k, h1, h2, h3⟩ := DataW.trod_int Tryz.underlying3 h
  exact ⟨k, by simpa using h1⟩
theorem open_irow {n : Nat} {c : Value} {y : DataW H × List MemPlace} (h : DataW.trod enc Tryz.prog w base sp held n 27 [c] = some y) :
    ∃ (a : Option Addr) (l : List Int) (cap : Nat), c = .slice a l.length cap ∧ l.length ≤ 9223372036854775807 ∧ IRow w a l := by
  rcases open_ints Tryz.underlying27 Tryz.underlying3 (by kernel_rfl) h with ⟨h1, _⟩ | ⟨a, len, cap, zs, h1, _, hl, hm, hz, _, hc, _⟩
  · cases h1
    exact ⟨none, [], 0, rfl, by simp, fun h => absurd rfl h⟩
  · cases h1
    have hlen : len ≤ zs.length := by rw [hz]; split <;> omega
    have hm : cap ≤ 9223372036854775807 := hm
    refine ⟨some a, zs.take len, cap, by rw [List.length_take, Nat.min_eq_left hlen], by rw [List.length_take]; omega, fun hne => ?_⟩
    have h0 : 0 < len := by
      rcases Nat.eq_zero_or_pos len with e | e
      · subst e; simp at hne
      · exact e
    obtain ⟨b, off, spot⟩ := a
    have c0 := hc 0 (by omega)
    have hs : spot = none := by simpa [Addr.add] using World.cell?_spot c0
    subst hs
    refine ⟨b, off, rfl, by have := block_lt_of_cell c0; simpa [Addr.add] using this, fun j hj => ?_⟩
    have hj' : j < len := by rw [List.length_take] at hj; omega
    have := hc j (by omega)
    rw [Addr.add_lit] at this
    rw [this]
    simp [List.getD, show j < zs.length by omega]
theorem trod_struct8 {P : Program} {t : TypeId} {f0 f1 f2 f3 f4 f5 f6 f7 : Field} {fuel : Nat} {cs : List Value} {x : DataW H × List MemPlace} (ht : P.underlying t = some (.struct #[f0, f1, f2, f3, f4, f5, f6, f7])) (h : DataW.trod enc P w base sp held fuel t cs = some x) :
    ∃ y0 y1 y2 y3 y4 y5 y6 y7 n, DataW.trod enc P w base sp held n f0.type ((cs.drop f0.offset).take (P.cellsOf f0.type)) = some y0 ∧
      DataW.trod enc P w base sp held n f1.type ((cs.drop f1.offset).take (P.cellsOf f1.type)) = some y1 ∧ DataW.trod enc P w base sp held n f2.type ((cs.drop f2.offset).take (P.cellsOf f2.type)) = some y2 ∧
      DataW.trod enc P w base sp held n f3.type ((cs.drop f3.offset).take (P.cellsOf f3.type)) = some y3 ∧ DataW.trod enc P w base sp held n f4.type ((cs.drop f4.offset).take (P.cellsOf f4.type)) = some y4 ∧
      DataW.trod enc P w base sp held n f5.type ((cs.drop f5.offset).take (P.cellsOf f5.type)) = some y5 ∧ DataW.trod enc P w base sp held n f6.type ((cs.drop f6.offset).take (P.cellsOf f6.type)) = some y6 ∧
      DataW.trod enc P w base sp held n f7.type ((cs.drop f7.offset).take (P.cellsOf f7.type)) = some y7 := by
  obtain ⟨xs, n, _, rfl, hl, hlen, hf⟩ := DataW.trod_struct ht h
  match xs, hlen with
  | [y0, y1, y2, y3, y4, y5, y6, y7], _ => exact ⟨y0, y1, y2, y3, y4, y5, y6, y7, n, by simpa using hf 0 f0 rfl, by simpa using hf 1 f1 rfl, by simpa using hf 2 f2 rfl, by simpa using hf 3 f3 rfl, by simpa using hf 4 f4 rfl, by simpa using hf 5 f5 rfl, by simpa using hf 6 f6 rfl, by simpa using hf 7 f7 rfl⟩
theorem open_prow {n : Nat} {c : Value} {y : DataW H × List MemPlace} (h : DataW.trod enc Tryz.prog w base sp held n 22 [c] = some y) :
    ∃ (a : Option Addr) (l : List Pt) (cap : Nat), c = .slice a l.length cap ∧ l.length ≤ 9223372036854775807 ∧ PRow w a l := by
  rcases Deep.open_slice Tryz.underlying22 h with ⟨h1, _⟩ | ⟨a, len, cap, m, n', D, Pl, h1, _, hl, hcap, hm, _, hx⟩
  · cases h1
    exact ⟨none, [], 0, rfl, by simp, fun h => absurd rfl h⟩
  · cases h1
    have hle : len ≤ m := by rw [hm]; split <;> omega
    have hcap : cap ≤ 9223372036854775807 := hcap
    obtain ⟨l, hlen, hk⟩ := choose_list (p := fun i (x : Pt) => ∃ ka kc, (∀ j u, (ptC x ka kc)[j]? = some u → w.cell? ((a.add (i * 8)).add j) = some u) ∧ IRow w ka x.kids ∧ x.kids.length ≤ 9223372036854775807) len fun i hi => by
      obtain ⟨cs', h2, h3⟩ := hx i (by omega)
      rw [hc36] at h2
      obtain ⟨_, hlen, hcell⟩ := World.cells?_some h2
      obtain ⟨c0, c1, c2, c3, c4, c5, c6, c7, rfl⟩ : ∃ c0 c1 c2 c3 c4 c5 c6 c7, cs' = [c0, c1, c2, c3, c4, c5, c6, c7] := by
        match cs', hlen with
        | [c0, c1, c2, c3, c4, c5, c6, c7], _ => exact ⟨c0, c1, c2, c3, c4, c5, c6, c7, rfl⟩
      obtain ⟨y0, y1, y2, y3, y4, y5, y6, y7, n2, g0, g1, g2, g3, g4, g5, g6, g7⟩ := trod_struct8 Tryz.underlying36 h3
      simp only [hc3, hc27, hc30] at g0 g1 g2 g3 g4 g5 g6 g7
      obtain ⟨a0, rfl⟩ := one_i64 g0
      obtain ⟨a1, rfl⟩ := one_i64 g1
      obtain ⟨a2, rfl⟩ := one_i64 g2
      obtain ⟨a3, rfl⟩ := one_i64 g3
      obtain ⟨a4, rfl⟩ := one_i64 g4
      obtain ⟨a5, rfl⟩ := one_i64 g5
      obtain ⟨ka, ks, kc, rfl, hkl, hK⟩ := open_irow g6
      obtain ⟨mt, _, rfl⟩ := one_u64 g7
      refine ⟨⟨a0, a1, a2, a3, a4, a5, ks, mt⟩, ka, kc, fun j u hu => ?_, hK, hkl⟩
      have hj : j < 8 := (Array.getElem?_eq_some_iff.1 hu).1
      rw [hcell j hj]
      simpa [ptC] using hu
    subst hlen
    refine ⟨some a, l, cap, rfl, Nat.le_trans hl hcap, fun hne => ?_⟩
    have h0 : 0 < l.length := List.length_pos_iff.2 hne
    obtain ⟨_, _, hc0, _⟩ := hk 0 h0
    have hc0 := hc0 0 _ rfl
    have e0 : (a.add (0 * 8)).add 0 = a := by simp [Addr.add]
    rw [e0] at hc0
    have hsp := World.cell?_spot hc0
    have hlt := block_lt_of_cell hc0
    obtain ⟨B, off, spot⟩ := a
    simp only at hsp hlt
    subst hsp
    refine ⟨B, off, rfl, hlt, fun j hj => ?_⟩
    obtain ⟨ka, kc, hc, hI, hkl⟩ := hk j hj
    have H : ∀ k v, (ptC l[j] ka kc)[k]? = some v → w.cell? ⟨B, off + j * 8 + k, none⟩ = some v := fun k v hv => by
      have := hc k v hv
      rwa [addr_add, addr_add] at this
    exact ⟨ka, kc, ⟨H 0 _ rfl, H 1 _ rfl, H 2 _ rfl, H 3 _ rfl, H 4 _ rfl, H 5 _ rfl, H 6 _ rfl, H 7 _ rfl⟩, hI, hkl⟩
set_option maxRecDepth 100000 in
theorem open_parts {r : Reach} {b0 : Nat} {v : Value} {d : DataW H} {p : List MemPlace} (hv : Value.okWide Tryz.prog w r b0 22 v) (h : DataW.Trod enc Tryz.prog w base sp held 22 v d p) :
    ∃ (a : Option Addr) (l : List Pt) (cap : Nat), v = .slice a l.length cap ∧ l.length ≤ 9223372036854775807 ∧ PRow w a l := by
  simp only [Value.okWide, Tryz.underlying22] at hv
  obtain ⟨sa, sn, sc, rfl⟩ : ∃ a n c, v = .slice a n c := by cases v <;> first | exact ⟨_, _, _, rfl⟩ | exact hv.elim
  obtain ⟨fuel, hf⟩ := h
  exact open_prow (c := .slice sa sn sc) hf
end
end Go.Proofs.YtdjeokgkeejpcaaGreatDoor
