/- Regex: classText 34 walked. -/
import Derived.Test.YtpbkgegkjglibaaDoorR4
import Derived.Test.YtpbkgegkjglibaaDoorS10
import Derived.Test.YtpbkgegkjglibaaDoorU4
import Derived.Test.YtpbkgegkjglibaaDoorKn
import Derived.Shelf.Strings.Builder1
import Derived.Test.YtpbkgegkjglibaaDoorRg7
import Derived.Deep.QuietTactic
namespace Go.Proofs.YtpbkgegkjglibaaDoor
open Go Go.Proofs Go.RowKit
attribute [local go_sem] Oper.semAt_some
def brkV (i p : Int) : Bool := if i = 3 then decide (p = 3 ∨ p = 4) else if i = 4 then decide (p = 4) else decide (p ≠ 1 ∧ p ≠ 2)
theorem brk_k (i p : Int) (w : World) : Calls Tryd.prog 33 #[.int .i64 i, .int .i64 p] w fun x w' => x = .returned (.bool (brkV i p)) ∧ w' = w := by
  by_cases h1 : i = 3 <;> by_cases h2 : i = 4 <;> by_cases h3 : p = 1 <;> by_cases h4 : p = 2 <;> by_cases h5 : p = 3 <;> by_cases h6 : p = 4 <;> first | (exfalso; omega) | (
    go_enter Tryd.func33, Tryd.ntmps33
    go_wp2
    refine bodyPost_ret (v := .bool (brkV i p)) (by simp [results, Tryd.results33, go_sem, brkV, h1, h2, h3, h4, h5, h6]) rfl ⟨rfl, rfl⟩)
def hexd (n : Nat) : UInt8 := hexS.data.toList.getD n 0
def toldV (b : Nat) : ByteArray := if letterV b then ⟨#[b.toUInt8]⟩ else ⟨#[92, 120, hexd (b / 16), hexd (b % 16)]⟩
theorem hexd_eq (n : Nat) (h : n < hexS.size) : hexS[n] = hexd n := by
  unfold hexd
  rw [List.getD_eq_getElem?_getD, List.getElem?_eq_getElem (by simpa using h)]
  rfl
theorem index_hex (k : IntKind) (i : Int) (n : Nat) (hi : i = (n : Int)) (hn : n < 16) (w : World) : (Instr.index 9 (.string ⟨#[48, 49, 50, 51, 52, 53, 54, 55, 56, 57, 97, 98, 99, 100, 101, 102]⟩) (.int k i)).run Tryd.prog w = .ok (.int .u8 ((hexd n).toNat : Int)) w := by
  subst hi
  have h1 : n < hexS.size := hn
  rw [← hexd_eq n h1]
  change (Instr.index 9 (.string hexS) (.int k n)).run Tryd.prog w = _
  rw [run_index_string w 9 hexS k n Tryd.underlying9]
  simp [h1]
theorem bits_15 (b : Nat) (hb : b < 256) : bits .and .u8 (b : Int) 15 = ((b % 16 : Nat) : Int) := by
  have h : ∀ b : Fin 256, bits .and .u8 ((b.val : Nat) : Int) 15 = ((b.val % 16 : Nat) : Int) := by decide +kernel
  exact h ⟨b, hb⟩
theorem conv_row2 (W : World) (B : Nat) (c d : UInt8) (h0 : W.cell? ⟨B, 0, none⟩ = some (.int .u8 (c.toNat : Int))) (h1 : W.cell? ⟨B, 1, none⟩ = some (.int .u8 (d.toNat : Int))) : (convert 67 9 (.slice (some ⟨B, 0, none⟩) 2 2)).run Tryd.prog W = .ok (.string ⟨#[c, d]⟩) W := by
  rw [run_convert_bytes_arg (P := Tryd.prog) W 67 5 Tryd.underlying67 Tryd.underlying5 B 0 2 2 [(c.toNat : Int), (d.toNat : Int)] rfl (fun i hi => by
    rcases i with _ | _ | i
    · exact h0
    · exact h1
    · omega) 9 Tryd.underlying9]
  simp [strOfNums]
set_option maxRecDepth 100000 in
set_option maxHeartbeats 1000000 in
theorem told_k (b : Nat) (hb : b < 256) (w : World) : Calls Tryd.prog 53 #[.int .u8 b] w fun x w' => x = .returned (.string (toldV b)) ∧ Below w.heap.size w w' := by
  cases hl : letterV b with
  | true =>
    have hcv := conv_one (w.alloc (.cells #[.int .u8 b] 5)) w.heap.size b ((Bx.new w 5 #[.int .u8 b]).cell 0)
    go_enter Tryd.func53, Tryd.ntmps53
    go_wp2_with (go_at_call 50; with_reducible refine (letter_k _ _).mono ?_; rintro e w ⟨rfl, rfl⟩)
    go_ret
    refine ⟨?_, (Below.refl _ w).alloc (Nat.le_refl _) _⟩
    rw [toldV, if_pos hl]
    simp [strOfNums, Nat.toUInt8]
  | false =>
    have i1 := index_hex .u8 ((b : Int) / 16) (b / 16) (by omega) (by omega)
    have i2 := index_hex .u8 (bits .and .u8 (b : Int) 15) (b % 16) (bits_15 b hb) (by omega)
    have hcv : ∀ W : World, (convert 67 9 (.slice (some ⟨w.heap.size, 0, none⟩) 2 2)).run Tryd.prog ((w.alloc (.cells #[.int .u8 ((hexd (b / 16)).toNat : Int), .int .u8 ((hexd (b % 16)).toNat : Int)] 5)).drew) = .ok (.string ⟨#[hexd (b / 16), hexd (b % 16)]⟩) ((w.alloc (.cells #[.int .u8 ((hexd (b / 16)).toNat : Int), .int .u8 ((hexd (b % 16)).toNat : Int)] 5)).drew) := fun _ => conv_row2 _ _ _ _ ((Bx.new w 5 #[.int .u8 ((hexd (b / 16)).toNat : Int), .int .u8 ((hexd (b % 16)).toNat : Int)]).cell 0) ((Bx.new w 5 #[.int .u8 ((hexd (b / 16)).toNat : Int), .int .u8 ((hexd (b % 16)).toNat : Int)]).cell 1)
    have hcv := hcv w
    go_enter Tryd.func53, Tryd.ntmps53
    go_wp2_with (go_at_call 50; with_reducible refine (letter_k _ _).mono ?_; rintro e w ⟨rfl, rfl⟩)
    go_region_with (fail)
    all_goals (
      go_wp2
      go_ret
      refine ⟨?_, ((Below.refl _ w).alloc (Nat.le_refl _) _).trans ⟨rfl, rfl, rfl, Nat.le_refl _, fun _ _ => rfl⟩⟩
      rw [toldV, if_neg (by rw [hl]; decide)]
      rfl)
end Go.Proofs.YtpbkgegkjglibaaDoor

namespace Go.Proofs.YtpbkgegkjglibaaDoor
open Go Go.Proofs Go.RowKit
def bld : Go.Shelf.Ren := ⟨fun | 156 => 35 | 165 => 55 | 166 => 52 | 167 => 51 | 169 => 54 | 240 => 65 | 241 => 66 | 276 => 75 | 277 => 76 | n => n, fun | 31 => 69 | 9 => 9 | 3 => 3 | 4 => 4 | 0 => 0 | 20 => 20 | 72 => 97 | 76 => 101 | 70 => 95 | 37 => 67 | 75 => 99 | 127 => 116 | 164 => 122 | 5 => 5 | 80 => 104 | n => n, fun | n => n⟩
theorem bld166 : Go.Proofs.Lays.n166 Tryd.prog bld := {
  mixed := by kernel_rfl
  f166 := Tryd.func52.trans (congrArg some (by kernel_rfl))
  f240 := Tryd.func65.trans (congrArg some (by kernel_rfl))
  f276 := Tryd.func75.trans (congrArg some (by kernel_rfl))
  t0 := Tryd.underlying0
  a0 := Tryd.isAgg0
  z0 := Tryd.sizeOf0
  v0 := Tryd.zeroValue0
  t3 := Tryd.underlying3
  a3 := Tryd.isAgg3
  z3 := Tryd.sizeOf3
  v3 := Tryd.zeroValue3
  t4 := Tryd.underlying4
  a4 := Tryd.isAgg4
  z4 := Tryd.sizeOf4
  v4 := Tryd.zeroValue4
  t9 := Tryd.underlying9
  a9 := Tryd.isAgg9
  z9 := Tryd.sizeOf9
  v9 := Tryd.zeroValue9
  t20 := Tryd.underlying20
  a20 := Tryd.isAgg20
  z20 := Tryd.sizeOf20
  v20 := Tryd.zeroValue20
  t37 := Tryd.underlying67
  a37 := Tryd.isAgg67
  z37 := Tryd.sizeOf67
  v37 := Tryd.zeroValue67
  t70 := Tryd.underlying95
  a70 := Tryd.isAgg95
  z70 := Tryd.sizeOf95
  v70 := Tryd.zeroValue95
  t72 := Tryd.underlying97
  a72 := Tryd.isAgg97
  z72 := Tryd.sizeOf97
  v72 := Tryd.zeroValue97
  t75 := Tryd.underlying99
  a75 := Tryd.isAgg99
  z75 := Tryd.sizeOf99
  v75 := Tryd.zeroValue99
  t164 := Tryd.underlying122
  a164 := Tryd.isAgg122
  z164 := Tryd.sizeOf122
  v164 := Tryd.zeroValue122 }
theorem bld167 : Go.Proofs.Lays.n167 Tryd.prog bld := {
  mixed := by kernel_rfl
  f167 := Tryd.func51.trans (congrArg some (by kernel_rfl))
  f240 := Tryd.func65.trans (congrArg some (by kernel_rfl))
  f276 := Tryd.func75.trans (congrArg some (by kernel_rfl))
  t0 := Tryd.underlying0
  a0 := Tryd.isAgg0
  z0 := Tryd.sizeOf0
  v0 := Tryd.zeroValue0
  t4 := Tryd.underlying4
  a4 := Tryd.isAgg4
  z4 := Tryd.sizeOf4
  v4 := Tryd.zeroValue4
  t5 := Tryd.underlying5
  a5 := Tryd.isAgg5
  z5 := Tryd.sizeOf5
  v5 := Tryd.zeroValue5
  t9 := Tryd.underlying9
  a9 := Tryd.isAgg9
  z9 := Tryd.sizeOf9
  v9 := Tryd.zeroValue9
  t20 := Tryd.underlying20
  a20 := Tryd.isAgg20
  z20 := Tryd.sizeOf20
  v20 := Tryd.zeroValue20
  t37 := Tryd.underlying67
  a37 := Tryd.isAgg67
  z37 := Tryd.sizeOf67
  v37 := Tryd.zeroValue67
  t70 := Tryd.underlying95
  a70 := Tryd.isAgg95
  z70 := Tryd.sizeOf95
  v70 := Tryd.zeroValue95
  t72 := Tryd.underlying97
  a72 := Tryd.isAgg97
  z72 := Tryd.sizeOf97
  v72 := Tryd.zeroValue97
  t75 := Tryd.underlying99
  a75 := Tryd.isAgg99
  z75 := Tryd.sizeOf99
  v75 := Tryd.zeroValue99
  t164 := Tryd.underlying122
  a164 := Tryd.isAgg122
  z164 := Tryd.sizeOf122
  v164 := Tryd.zeroValue122 }
theorem bld169 : Go.Proofs.Lays.n169 Tryd.prog bld := {
  mixed := by kernel_rfl
  f169 := Tryd.func54.trans (congrArg some (by kernel_rfl))
  t0 := Tryd.underlying0
  a0 := Tryd.isAgg0
  z0 := Tryd.sizeOf0
  v0 := Tryd.zeroValue0
  t3 := Tryd.underlying3
  a3 := Tryd.isAgg3
  z3 := Tryd.sizeOf3
  v3 := Tryd.zeroValue3
  t9 := Tryd.underlying9
  a9 := Tryd.isAgg9
  z9 := Tryd.sizeOf9
  v9 := Tryd.zeroValue9
  t37 := Tryd.underlying67
  a37 := Tryd.isAgg67
  z37 := Tryd.sizeOf67
  v37 := Tryd.zeroValue67
  t70 := Tryd.underlying95
  a70 := Tryd.isAgg95
  z70 := Tryd.sizeOf95
  v70 := Tryd.zeroValue95
  t72 := Tryd.underlying97
  a72 := Tryd.isAgg97
  z72 := Tryd.sizeOf97
  v72 := Tryd.zeroValue97
  t127 := Tryd.underlying116
  a127 := Tryd.isAgg116
  z127 := Tryd.sizeOf116
  v127 := Tryd.zeroValue116 }
theorem bldX : Builder.Extra Tryd.prog bld := {
  sizeBuilder := by kernel_rfl
  liesBuilder := by kernel_rfl
  t5 := Tryd.underlying5
  a5 := Tryd.isAgg5
  z5 := Tryd.sizeOf5
  v5 := Tryd.zeroValue5
  infoByte := by kernel_rfl
  cellsByte := by kernel_rfl
  sizeByte := by kernel_rfl
  neB5 := by decide }
/-- A builder holds bytes. -/
def Bld (B b : Nat) (l : List UInt8) (w : World) : Prop := Lib.IsBuilder 97 5 B b (Lib.byteCells l) w
theorem wbyte_k (B b : Nat) (l : List UInt8) (c : UInt8) (w : World) (h : Bld B b l w) (hl : l.length ≤ 1000000) (hB : B ≤ w.heap.size) :
    Calls Tryd.prog 51 #[.pointer (some ⟨b, 0, none⟩), .int .u8 (c.toNat : Int)] w fun e w' => e = .returned .nilIface ∧ Bld B b (l ++ [c]) w' ∧ Below B w w' := by
  refine (Any.Builder_WriteByte bld167 bldX B b _ _ w h (by unfold Lib.byteCells; rw [List.length_map]; omega) hB).mono ?_
  rintro e w' ⟨h1, h2, h3⟩
  refine ⟨h1, .inr ?_, h3⟩
  unfold Lib.byteCells at h2 ⊢
  rw [List.map_append]
  exact h2
theorem wstr_k (B b : Nat) (l : List UInt8) (s : ByteArray) (w : World) (h : Bld B b l w) (hl : l.length ≤ 1000000) (hs : s.size ≤ 1000000) (hB : B ≤ w.heap.size) :
    Calls Tryd.prog 52 #[.pointer (some ⟨b, 0, none⟩), .string s] w fun e w' => e = .returned (.tuple #[.int .i64 s.size, .nilIface]) ∧ Bld B b (l ++ s.data.toList) w' ∧ Below B w w' := by
  refine (Any.Builder_WriteString bld166 bldX B b _ s w h (by unfold Lib.byteCells; rw [List.length_map]; omega) hB).mono ?_
  rintro e w' ⟨h1, h2, h3⟩
  refine ⟨h1, .inr ?_, h3⟩
  unfold Lib.byteCells at h2 ⊢
  rw [List.map_append]
  exact h2
theorem bstr_k (B b : Nat) (l : List UInt8) (w : World) (h : Bld B b l w) (hB : B ≤ w.heap.size) :
    Calls Tryd.prog 54 #[.pointer (some ⟨b, 0, none⟩)] w fun e w' => e = .returned (.string ⟨l.toArray⟩) ∧ Below B w w' := Any.Builder_String_any bld169 bldX B b l w h hB
end Go.Proofs.YtpbkgegkjglibaaDoor

namespace Go.Proofs.YtpbkgegkjglibaaDoor
open Go Go.Proofs Go.RowKit
attribute [local go_sem] Oper.semAt_some
/-- How many bytes there are in a row, from the first on. -/
def rl : List UInt8 → Nat
  | [] => 0
  | [_] => 1
  | a :: b :: t => if b = a + 1 then 1 + rl (b :: t) else 1
def toldU (b : UInt8) : List UInt8 := (toldV b.toNat).data.toList
def piece (l : List UInt8) : List UInt8 := toldU (l.getD 0 0) ++ ((if 2 < rl l then [45] else []) ++ (if 1 < rl l then toldU (l.getD (rl l - 1) 0) else []))
def ctx : Nat → List UInt8 → List UInt8
  | 0, _ => []
  | n + 1, l => if l = [] then [] else piece l ++ ctx n (l.drop (rl l))
def ctV (l : List UInt8) : ByteArray := if l.length = 1 ∧ letterV ((l.getD 0 0).toNat : Int) = true then ⟨l.toArray⟩ else ⟨(91 :: (ctx l.length l ++ [93])).toArray⟩
theorem rl_pos : ∀ l : List UInt8, l ≠ [] → 1 ≤ rl l ∧ rl l ≤ l.length
  | [], h => absurd rfl h
  | [_], _ => ⟨Nat.le_refl _, Nat.le_refl _⟩
  | a :: b :: t, _ => by
    have ih := rl_pos (b :: t) (by simp)
    unfold rl
    split
    · simp only [List.length_cons] at ih ⊢; omega
    · simp only [List.length_cons]; omega
theorem ctx_more : ∀ (n m : Nat) (l : List UInt8), l.length ≤ n → l.length ≤ m → ctx n l = ctx m l
  | 0, m, l, h, _ => by
    obtain rfl : l = [] := List.eq_nil_of_length_eq_zero (by omega)
    cases m <;> simp [ctx]
  | n + 1, 0, l, _, h => by
    obtain rfl : l = [] := List.eq_nil_of_length_eq_zero (by omega)
    simp [ctx]
  | n + 1, m + 1, l, h, h' => by
    by_cases hl : l = []
    · subst hl; simp [ctx]
    · have := rl_pos l hl
      simp only [ctx, if_neg hl]
      rw [ctx_more n m (l.drop (rl l)) (by rw [List.length_drop]; omega) (by rw [List.length_drop]; omega)]
theorem ctx_step (l : List UInt8) (hl : l ≠ []) : ctx l.length l = piece l ++ ctx (l.drop (rl l)).length (l.drop (rl l)) := by
  obtain ⟨n, hn⟩ : ∃ n, l.length = n + 1 := ⟨l.length - 1, by have := List.length_pos_iff.2 hl; omega⟩
  have := rl_pos l hl
  rw [hn, ctx, if_neg hl, ctx_more n _ _ (by rw [List.length_drop]; omega) (Nat.le_refl _)]
/-- The inner loop's state: m more are in a row. -/
def RlTo (l : List UInt8) (m : Nat) : Prop := m + 1 ≤ l.length ∧ rl l = m + rl (l.drop m)
theorem rlTo_zero (l : List UInt8) (h : l ≠ []) : RlTo l 0 := ⟨by have := List.length_pos_iff.2 h; omega, by simp⟩
theorem drop_two (l : List UInt8) (m : Nat) (h : m + 1 < l.length) : l.drop m = l[m] :: l[m + 1] :: l.drop (m + 2) := by
  rw [List.drop_eq_getElem_cons (by omega), List.drop_eq_getElem_cons (by omega)]
theorem rlTo_succ (l : List UInt8) (m : Nat) (h : RlTo l m) (hm : m + 1 < l.length) (he : l[m + 1] = l[m] + 1) : RlTo l (m + 1) := by
  obtain ⟨h1, h2⟩ := h
  refine ⟨hm, ?_⟩
  have e : l.drop (m + 1) = l[m + 1] :: l.drop (m + 2) := List.drop_eq_getElem_cons hm
  rw [h2, drop_two l m hm, e]
  simp only [rl]
  rw [if_pos he]
  omega
theorem rlTo_stop (l : List UInt8) (m : Nat) (h : RlTo l m) (he : ∀ hm : m + 1 < l.length, ¬ l[m + 1] = l[m] + 1) : rl l = m + 1 := by
  obtain ⟨h1, h2⟩ := h
  rw [h2]
  by_cases hm : m + 1 < l.length
  · rw [drop_two l m hm]
    simp only [rl]
    rw [if_neg (he hm)]
  · have : l.drop m = [l[m]] := by
      rw [List.drop_eq_getElem_cons (by omega), List.drop_eq_nil_of_le (by omega)]
    rw [this]; rfl
theorem Bld.below {B b n : Nat} {l : List UInt8} {w w' : World} (h : Bld B b l w) (hb : Below n w w') (hn : w.heap.size ≤ n) : Bld B b l w' := by
  have key : ∀ p, Lib.BuilderAt 97 5 B b p (Lib.byteCells l) w → Lib.BuilderAt 97 5 B b p (Lib.byteCells l) w' := by
    rintro p ⟨h1, v, h2, h3, h4⟩
    have hlt : b < w.heap.size := by
      by_cases hx : b < w.heap.size
      · exact hx
      · rw [Array.getElem?_eq_none (by omega)] at h2; cases h2
    refine ⟨h1, v, (hb.block b (by omega)).trans h2, h3.kept (row := none) ⟨hb.os, hb.tape, hb.output, hb.size, fun j hj _ => hb.block j (by omega)⟩ (by cases hv : v.ownBlock <;> simp), h4⟩
  exact h.imp (key _) (key _)
theorem bld_new (w : World) : Bld w.heap.size w.heap.size [] (w.alloc (.cells #[.pointer none, .slice none 0 0] 97)) := Lib.fresh_isBuilder 97 5 w
end Go.Proofs.YtpbkgegkjglibaaDoor

namespace Go.Proofs.YtpbkgegkjglibaaDoor
open Go Go.Proofs Go.RowKit
attribute [local go_sem] Oper.semAt_some
theorem getD_at (l : List UInt8) (k : Nat) (h : k < l.length) : l.getD k 0 = l[k] := by rw [List.getD_eq_getElem?_getD, List.getElem?_eq_getElem h]; rfl
theorem barr_at (l : List UInt8) (s : ByteArray) (hs : s = ⟨l.toArray⟩) (k : Nat) (h : k < s.size) : s[k] = l.getD k 0 := by
  subst hs
  have h' : k < l.length := h
  rw [getD_at l k h']
  rfl
theorem barr_drop (l : List UInt8) (s : ByteArray) (hs : s = ⟨l.toArray⟩) (k : Nat) : s.extract k s.size = ⟨(l.drop k).toArray⟩ := by
  subst hs
  apply ByteArray.ext
  simp only [ByteArray.data_extract]
  apply Array.ext'
  rw [Array.toList_extract]
  simp only [ByteArray.size, List.size_toArray, List.extract_eq_take_drop]
  rw [List.take_of_length_le (by rw [List.length_drop]; omega)]
theorem u8_succ2 (a b : UInt8) : ((b.toNat : Int) == ((a.toNat : Int) + 1) % 256) = decide (b = a + 1) := by
  have h : ((b.toNat : Int) = ((a.toNat : Int) + 1) % 256) ↔ b = a + 1 := by
    rw [← UInt8.toNat_inj, UInt8.toNat_add]
    have : (1 : UInt8).toNat = 1 := rfl
    rw [this]
    omega
  by_cases h1 : b = a + 1
  · rw [decide_eq_true h1, beq_iff_eq.2 (h.2 h1)]
  · rw [decide_eq_false h1, beq_eq_false_iff_ne.2 (fun x => h1 (h.1 x))]
def goB (l : List UInt8) (m : Nat) : Bool := decide (m + 1 < l.length) && decide (l.getD (m + 1) 0 = l.getD m 0 + 1)
theorem goB_true {l : List UInt8} {m : Nat} (hz : RlTo l m) (h : goB l m = true) : RlTo l (m + 1) := by
  unfold goB at h
  rw [Bool.and_eq_true, decide_eq_true_iff, decide_eq_true_iff] at h
  obtain ⟨h1, h2⟩ := h
  rw [getD_at l _ h1, getD_at l _ (by omega)] at h2
  exact rlTo_succ l m hz h1 h2
theorem goB_false {l : List UInt8} {m : Nat} (hz : RlTo l m) (h : goB l m = false) : rl l = m + 1 := by
  refine rlTo_stop l m hz fun hm he => ?_
  unfold goB at h
  rw [getD_at l _ hm, getD_at l _ (by omega)] at h
  simp [hm, he] at h
theorem toldV_size (b : Nat) : (toldV b).size ≤ 4 := by
  unfold toldV
  split
  · exact (by decide : (1 : Nat) ≤ 4)
  · exact (by decide : (4 : Nat) ≤ 4)
theorem toldU_len (b : UInt8) : (toldU b).length ≤ 4 := toldV_size b.toNat
theorem piece_len (l : List UInt8) : (piece l).length ≤ 9 := by
  unfold piece
  have h1 := toldU_len (l.getD 0 0)
  have h2 := toldU_len (l.getD (rl l - 1) 0)
  generalize toldU (l.getD 0 0) = A at *
  generalize toldU (l.getD (rl l - 1) 0) = B at *
  simp only [List.length_append]
  split <;> split <;> simp only [List.length_cons, List.length_nil] <;> omega
def strN : Value → Nat
  | .string s => s.size
  | _ => 0
theorem wb91 (B b : Nat) (l : List UInt8) (w : World) (h : Bld B b l w) (hl : l.length ≤ 1000000) (hB : B ≤ w.heap.size) :
    Calls Tryd.prog 51 #[.pointer (some ⟨b, 0, none⟩), .int .u8 91] w fun e w' => e = .returned .nilIface ∧ Bld B b (l ++ [91]) w' ∧ Below B w w' := wbyte_k B b l 91 w h hl hB
theorem wb45 (B b : Nat) (l : List UInt8) (w : World) (h : Bld B b l w) (hl : l.length ≤ 1000000) (hB : B ≤ w.heap.size) :
    Calls Tryd.prog 51 #[.pointer (some ⟨b, 0, none⟩), .int .u8 45] w fun e w' => e = .returned .nilIface ∧ Bld B b (l ++ [45]) w' ∧ Below B w w' := wbyte_k B b l 45 w h hl hB
theorem wb93 (B b : Nat) (l : List UInt8) (w : World) (h : Bld B b l w) (hl : l.length ≤ 1000000) (hB : B ≤ w.heap.size) :
    Calls Tryd.prog 51 #[.pointer (some ⟨b, 0, none⟩), .int .u8 93] w fun e w' => e = .returned .nilIface ∧ Bld B b (l ++ [93]) w' ∧ Below B w w' := wbyte_k B b l 93 w h hl hB
set_option maxRecDepth 100000 in
set_option maxHeartbeats 4000000 in
theorem ctext_k (a0 a1 a2 a3 : Nat) (hw : wlt a0 a1 a2 a3) (w : World) (h0 : 0 < w.heap.size) (hT : TabAt w) :
    Calls Tryd.prog 34 #[.agg #[.int .u64 a0, .int .u64 a1, .int .u64 a2, .int .u64 a3]] w fun e w' => e = .returned (.string (ctV ((bytesB a0 a1 a2 a3).map UInt8.ofNat))) ∧ Below w.heap.size w w' := by
  have hbt := fun W h0 hT => bytes_calls a0 a1 a2 a3 hw W h0 hT
  obtain ⟨l, hl⟩ : ∃ l : List UInt8, l = (bytesB a0 a1 a2 a3).map UInt8.ofNat := ⟨_, rfl⟩
  obtain ⟨s, hs⟩ : ∃ s : ByteArray, s = bstr (bytesB a0 a1 a2 a3) := ⟨_, rfl⟩
  have hsl : s = ⟨l.toArray⟩ := by rw [hs, hl]; rfl
  rw [← hl]
  have hlen : l.length ≤ 256 := by rw [hl, List.length_map]; exact upB_len _ _ _ _ _
  rw [← hs] at hbt
  have hba := (Below.refl w.heap.size w).alloc (Nat.le_refl _) (.cells #[.int .u64 a0, .int .u64 a1, .int .u64 a2, .int .u64 a3] 38)
  have hT1 := Lib.hid (hT.below hba h0)
  clear hl hs hT
  have HS := Lib.hid hsl
  have hsz : s.size = l.length := by rw [hsl]; rfl
  clear hsl
  obtain ⟨lt, hlt⟩ : ∃ lt, lt = decide (l.length = 1 ∧ letterV ((l.getD 0 0).toNat : Int) = true) := ⟨_, rfl⟩
  have HLT := Lib.hid hlt
  clear hlt
  go_enter Tryd.func34, Tryd.ntmps34
  go_upto_region 2 with (go_at_call 49; with_reducible refine (hbt _ (by simp) hT1.out).mono ?_; rintro e W1 ⟨rfl, hb1⟩)
  go_cut [15] from 8 to 15 (fun t15 wz => t15 = .bool lt ∧ wz = W1)
  case first =>
    by_cases h1 : l.length = 1
    · have hs0 : 0 < s.size := by omega
      have hs1 : (s.size : Int) = 1 := by omega
      have hx := barr_at l s HS.out 0 hs0
      have HX := Lib.hid hx
      have hlet := letter_k (s[0].toNat : Int)
      rw [hx] at hlet
      clear hx
      go_wp2_with (go_at_call 50; (try rw [HX.out]); with_reducible refine (hlet _).mono ?_; rintro e w ⟨rfl, rfl⟩)
      go_meet
      case rel => exact ⟨by rw [HLT.out]; simp [h1], rfl⟩
    · have hs1 : ¬ (s.size : Int) = 1 := by omega
      have hl0 : lt = false := by rw [HLT.out]; simp [h1]
      go_wp2_with fail
      go_meet
      case rel => exact ⟨by rw [hl0], rfl⟩
  case rest =>
    obtain ⟨rfl, rfl⟩ := hcut
    have hb0 : Below w.heap.size w wc := hba.trans (hb1.mono (by simp))
    clear hba hb1 hT1 hbt
    cases lt with
    | true =>
      have hc : ctV l = s := by rw [HS.out, ctV, if_pos (of_decide_eq_true HLT.out.symm)]
      have HCC := Lib.hid hc
      clear hc
      go_wp2_with fail
      go_ret
      exact ⟨by rw [HCC.out]; rfl, hb0⟩
    | false =>
      have hB0 := bld_new wc
      obtain ⟨Bb, hBb⟩ : ∃ Bb, Bb = wc.heap.size := ⟨_, rfl⟩
      obtain ⟨W2, hW2⟩ : ∃ W2, W2 = wc.alloc (.cells #[.pointer none, .slice none 0 0] 97) := ⟨_, rfl⟩
      go_upto_region 5 with (fail)
      have hBs : Bb ≤ W2.heap.size := by rw [hW2, hBb]; simp
      rw [← hW2, ← hBb] at hB0 ⊢
      have hb2 : Below w.heap.size w W2 := by rw [hW2]; exact hb0.alloc hb0.size _
      have hwB : w.heap.size ≤ Bb := by rw [hBb]; exact hb0.size
      clear hW2 hBb hb0
      go_wp2_with (go_at_call 51; with_reducible refine (wb91 Bb Bb [] _ hB0 (by simp) hBs).mono ?_; rintro e W3 ⟨rfl, hB3, hb3⟩)
      go_loopw [3] (fun v wr => ∃ (l' acc : List UInt8) (s' : ByteArray), v = .string s' ∧ Hid (s' = ⟨l'.toArray⟩) ∧ s'.size = l'.length ∧ l'.length ≤ 256 ∧ Bld Bb Bb acc wr ∧ Hid (91 :: ctx l.length l = acc ++ ctx l'.length l') ∧ acc.length + 16 * l'.length ≤ 6000 ∧ Below w.heap.size w wr ∧ Bb ≤ wr.heap.size)
        (fun v _ => strN v)
      case atStart => exact ⟨l, [91], s, rfl, HS, hsz, hlen, hB3, Lib.hid rfl, by simp; omega, hb2.trans (hb3.mono hwB), Nat.le_trans hBs hb3.size⟩
      case round =>
        obtain ⟨l', acc, s', rfl, HS', hsz', hlen', hBr, HC, hal, hbr, hsr⟩ := hrel
        clear hB3 hb3 hB0 hb2 hBs HS hsz hlen
        by_cases h0 : l'.length = 0
        · have hs1 : ¬ (0 : Int) < (s'.size : Int) := by omega
          obtain rfl : l' = [] := List.eq_nil_of_length_eq_zero h0
          go_wp2_with (first
            | (go_at_call 51; with_reducible refine (wb93 Bb Bb acc _ hBr (by omega) hsr).mono ?_; rintro e W4 ⟨rfl, hB4, hb4⟩; have hs4 : Bb ≤ W4.heap.size := Nat.le_trans hsr hb4.size)
            | (go_at_call 54; with_reducible refine (bstr_k Bb Bb (acc ++ [93]) _ hB4 hs4).mono ?_; rintro e W5 ⟨rfl, hb5⟩))
          go_ret
          refine ⟨?_, hbr.trans ((hb4.trans hb5).mono hwB)⟩
          have hne := of_decide_eq_false HLT.out.symm
          have hc := HC.out
          simp only [List.length_nil, ctx, List.append_nil] at hc
          rw [ctV, if_neg hne, ← hc]
          simp
        · have hs1 : (0 : Int) < (s'.size : Int) := by omega
          have hne : l' ≠ [] := fun h => h0 (by rw [h]; rfl)
          obtain ⟨wo, hwo⟩ : ∃ wo : World, wo = wr := ⟨_, rfl⟩
          have hBo : Bld Bb Bb acc wo := by rw [hwo]; exact hBr
          have hbo : Below w.heap.size w wo := by rw [hwo]; exact hbr
          have hso : Bb ≤ wo.heap.size := by rw [hwo]; exact hsr
          have hx0 : Below wo.heap.size wo wr := by rw [hwo]; exact Below.refl _ _
          have hs2 : decide (0 < s'.size) = true := decide_eq_true (by omega)
          clear hwo hBr hbr hsr
          obtain ⟨R, hR⟩ : ∃ R, R = rl l' := ⟨_, rfl⟩
          have hRp := rl_pos l' hne
          rw [← hR] at hRp
          obtain ⟨hR1, hR2⟩ := hRp
          have HR := Lib.hid hR
          clear hR
          have HSZ := Lib.hid hsz'
          clear hsz'
          have hz := rlTo_zero l' hne
          have HZ := Lib.hid hz
          clear hz
          go_wp2_with fail
          go_loopw [5] (fun v wx => ∃ m : Nat, v = .int .i64 ((m : Int) + 1) ∧ m + 1 ≤ l'.length ∧ Hid (RlTo l' m) ∧ Below wo.heap.size wo wx)
            (fun v _ => 1000 - (intOf v).toNat)
          case atStart => exact ⟨0, rfl, by omega, HZ, hx0⟩
          case round =>
            obtain ⟨m, rfl, hm, HM, hbx⟩ := hrel
            clear hx0
            obtain ⟨gb, hgb⟩ : ∃ gb, gb = goB l' m := ⟨_, rfl⟩
            have HGB := Lib.hid hgb
            clear hgb
            go_upto_region 8 with (fail)
            go_cut [35] from 21 to 35 (fun t35 wz => t35 = .bool gb ∧ Below wo.heap.size wo wz)
            case first =>
              by_cases h1 : m + 1 < l'.length
              · have hsz2 := HSZ.out
                have hk1 : (m : Int) + 1 < (s'.size : Int) := by omega
                have hk0 : (0 : Int) ≤ (m : Int) + 1 := by omega
                have hk2 : ((m : Int) + 1).toNat = m + 1 := by omega
                have hk3 : (m : Int) + 1 - 1 = (m : Int) := by omega
                have hk4 : (m : Int) < (s'.size : Int) := by omega
                have hk5 : m + 1 < s'.size := by omega
                have hk6 : m < s'.size := by omega
                clear hsz2
                have hbe : ((s'[m + 1].toNat : Int) == ((s'[m].toNat : Int) + 1) % 256) = gb := by
                  rw [u8_succ2, barr_at l' s' HS'.out _ hk5, barr_at l' s' HS'.out _ hk6, HGB.out, goB, decide_eq_true h1, Bool.true_and]
                have HBE := Lib.hid hbe
                clear hbe
                refine AX.region_below (by kernel_rfl) (by kernel_rfl) ?_
                repeat (go_big_quiet_step (fail))
                refine wpQuiet_nil ?_
                rintro W4 ⟨p, rfl⟩
                obtain ⟨W4, hb4⟩ := p
                change Below _ _ _ at hb4
                simp only [HBE.out]
                go_wp2_with fail
                go_meet
                case rel => exact ⟨rfl, hbx.trans (hb4.mono hbx.size)⟩
              · have hsz2 := HSZ.out
                have hk1 : ¬ (m : Int) + 1 < (s'.size : Int) := by omega
                clear hsz2
                have hg0 : gb = false := by rw [HGB.out, goB, decide_eq_false h1, Bool.false_and]
                refine AX.region_below (by kernel_rfl) (by kernel_rfl) ?_
                repeat (go_big_quiet_step (fail))
                refine wpQuiet_nil ?_
                rintro W4 ⟨p, rfl⟩
                obtain ⟨W4, hb4⟩ := p
                change Below _ _ _ at hb4
                go_wp2_with fail
                go_meet
                case rel => exact ⟨by rw [hg0], hbx.trans (hb4.mono hbx.size)⟩
            case rest =>
              obtain ⟨rfl, hby⟩ := hcut
              clear hbx
              cases gb with
              | true =>
                have hz := goB_true HM.out HGB.out.symm
                have hzl := hz.1
                have HZ2 := Lib.hid hz
                clear hz
                go_wp2_with fail
                go_roundw
                case rel => exact ⟨m + 1, by simp, hzl, HZ2, hby⟩
                case measure => simp only [intOf]; omega
              | false =>
                have hst := goB_false HM.out HGB.out.symm
                have hRm : R = m + 1 := HR.out.trans hst
                subst hRm
                have hBc := hBo.below hby (Nat.le_refl _)
                have hbc := hbo.trans (hby.mono hbo.size)
                have hsc := Nat.le_trans hso hby.size
                clear hBo hbo hby HM
                have hsz2 := HSZ.out
                have hs0 : 0 < s'.size := by omega
                have hsm : m < s'.size := by omega
                have hk2 : (m : Int) + 1 - 1 = (m : Int) := by omega
                have hk4 : (m : Int) < (s'.size : Int) := by omega
                have hk5 : (m : Int) + 1 ≤ (s'.size : Int) := by omega
                have hk6 : ((m : Int) + 1).toNat = m + 1 := by omega
                have e0 : (toldV s'[0].toNat).data.toList = toldU (l'.getD 0 0) := by rw [barr_at l' s' HS'.out 0 hs0]; rfl
                have em : (toldV s'[m].toNat).data.toList = toldU (l'.getD (rl l' - 1) 0) := by rw [barr_at l' s' HS'.out m hsm, hst]; rfl
                have E0 := Lib.hid e0
                have EM := Lib.hid em
                have ht0 := told_k s'[0].toNat (UInt8.toNat_lt _)
                have htm := told_k s'[m].toNat (UInt8.toNat_lt _)
                have hz0 := toldV_size s'[0].toNat
                have hzm := toldV_size s'[m].toNat
                have HST := Lib.hid hst
                have hnew : Hid ((91 :: ctx l.length l) = (acc ++ piece l') ++ ctx (l'.drop (m + 1)).length (l'.drop (m + 1))) := Lib.hid (by rw [HC.out, ctx_step l' hne, hst, List.append_assoc])
                have hdrop : Hid (s'.extract (m + 1) s'.size = ⟨(l'.drop (m + 1)).toArray⟩) := Lib.hid (barr_drop l' s' HS'.out (m + 1))
                have hpl := piece_len l'
                have hdl : (l'.drop (m + 1)).length = l'.length - (m + 1) := List.length_drop
                have HDL := Lib.hid hdl
                clear hsz2 e0 em hst hdl
                have hl1 : (acc ++ (toldV s'[0].toNat).data.toList).length ≤ 1000000 := by rw [List.length_append, Array.length_toList]; change acc.length + (toldV s'[0].toNat).size ≤ _; omega
                have hl2 : ((acc ++ (toldV s'[0].toNat).data.toList) ++ [45]).length ≤ 1000000 := by rw [List.length_append, List.length_append, Array.length_toList]; change acc.length + (toldV s'[0].toNat).size + 1 ≤ _; omega
                have fin : ∀ (A : List UInt8) (W : World), A = acc ++ piece l' → Bld Bb Bb A W → Below w.heap.size w W → Bb ≤ W.heap.size → (∃ (l' acc : List UInt8) (s'_1 : ByteArray), Value.string (s'.extract (m + 1) s'.size) = .string s'_1 ∧ Hid (s'_1 = ⟨l'.toArray⟩) ∧ s'_1.size = l'.length ∧ l'.length ≤ 256 ∧ Bld Bb Bb acc W ∧ Hid (91 :: ctx l.length l = acc ++ ctx l'.length l') ∧ acc.length + 16 * l'.length ≤ 6000 ∧ Below w.heap.size w W ∧ Bb ≤ W.heap.size) ∧ strN (.string (s'.extract (m + 1) s'.size)) < strN (.string s') := by
                  rintro A W rfl hBW hbW hsW
                  have hsx : (s'.extract (m + 1) s'.size).size = l'.length - (m + 1) := by rw [hdrop.out, ← HDL.out]; rfl
                  refine ⟨⟨l'.drop (m + 1), _, _, rfl, hdrop, ?_, ?_, hBW, hnew, ?_, hbW, hsW⟩, ?_⟩
                  · rw [hsx, HDL.out]
                  · rw [HDL.out]; omega
                  · rw [HDL.out, List.length_append]; omega
                  · simp only [strN]
                    rw [hsx, HSZ.out]
                    omega
                by_cases hm2 : 2 < m + 1
                · have hm2i : (2 : Int) < (m : Int) + 1 := by omega
                  have hm1i : (1 : Int) < (m : Int) + 1 := by omega
                  go_wp2_with (first
                    | (go_at_call 53; with_reducible refine (ht0 _).mono ?_; rintro e W1 ⟨rfl, hb1⟩; have hB1 := hBc.below hb1 (Nat.le_refl _); have hs1 := Nat.le_trans hsc hb1.size)
                    | (go_at_call 52; with_reducible refine (wstr_k Bb Bb acc _ _ hB1 (by omega) (by omega) hs1).mono ?_; rintro e W2 ⟨rfl, hB2, hb2⟩; have hs2 := Nat.le_trans hs1 hb2.size)
                    | (go_at_call 51; with_reducible refine (wb45 Bb Bb _ _ hB2 hl1 hs2).mono ?_; rintro e W3 ⟨rfl, hB3, hb3⟩; have hs3 := Nat.le_trans hs2 hb3.size)
                    | (go_at_call 53; with_reducible refine (htm _).mono ?_; rintro e W4 ⟨rfl, hb4⟩; have hB4 := hB3.below hb4 (Nat.le_refl _); have hs4 := Nat.le_trans hs3 hb4.size)
                    | (go_at_call 52; with_reducible refine (wstr_k Bb Bb _ _ _ hB4 hl2 (by omega) hs4).mono ?_; rintro e W5 ⟨rfl, hB5, hb5⟩; have hs5 := Nat.le_trans hs4 hb5.size))
                  refine fin _ _ ?_ hB5 ((((hbc.trans (hb1.mono (Nat.le_trans hwB hsc))).trans (hb2.mono hwB)).trans (hb3.mono hwB)).trans ((hb4.mono (Nat.le_trans hwB hs3)).trans (hb5.mono hwB))) hs5
                  rw [E0.out, EM.out]
                  unfold piece
                  rw [HST.out, if_pos hm2, if_pos (by omega)]
                  simp only [List.append_assoc]
                · have hm2i : ¬ (2 : Int) < (m : Int) + 1 := by omega
                  by_cases hm1 : 1 < m + 1
                  · have hm1i : (1 : Int) < (m : Int) + 1 := by omega
                    go_wp2_with (first
                      | (go_at_call 53; with_reducible refine (ht0 _).mono ?_; rintro e W1 ⟨rfl, hb1⟩; have hB1 := hBc.below hb1 (Nat.le_refl _); have hs1 := Nat.le_trans hsc hb1.size)
                      | (go_at_call 52; with_reducible refine (wstr_k Bb Bb acc _ _ hB1 (by omega) (by omega) hs1).mono ?_; rintro e W2 ⟨rfl, hB2, hb2⟩; have hs2 := Nat.le_trans hs1 hb2.size)
                      | (go_at_call 53; with_reducible refine (htm _).mono ?_; rintro e W4 ⟨rfl, hb4⟩; have hB4 := hB2.below hb4 (Nat.le_refl _); have hs4 := Nat.le_trans hs2 hb4.size)
                      | (go_at_call 52; with_reducible refine (wstr_k Bb Bb _ _ _ hB4 hl1 (by omega) hs4).mono ?_; rintro e W5 ⟨rfl, hB5, hb5⟩; have hs5 := Nat.le_trans hs4 hb5.size))
                    refine fin _ _ ?_ hB5 (((hbc.trans (hb1.mono (Nat.le_trans hwB hsc))).trans (hb2.mono hwB)).trans ((hb4.mono (Nat.le_trans hwB hs2)).trans (hb5.mono hwB))) hs5
                    rw [E0.out, EM.out]
                    unfold piece
                    rw [HST.out, if_neg hm2, if_pos hm1]
                    simp only [List.append_assoc, List.nil_append]
                  · have hm1i : ¬ (1 : Int) < (m : Int) + 1 := by omega
                    go_wp2_with (first
                      | (go_at_call 53; with_reducible refine (ht0 _).mono ?_; rintro e W1 ⟨rfl, hb1⟩; have hB1 := hBc.below hb1 (Nat.le_refl _); have hs1 := Nat.le_trans hsc hb1.size)
                      | (go_at_call 52; with_reducible refine (wstr_k Bb Bb acc _ _ hB1 (by omega) (by omega) hs1).mono ?_; rintro e W2 ⟨rfl, hB2, hb2⟩; have hs2 := Nat.le_trans hs1 hb2.size))
                    refine fin _ _ ?_ hB2 ((hbc.trans (hb1.mono (Nat.le_trans hwB hsc))).trans (hb2.mono hwB)) hs2
                    rw [E0.out]
                    unfold piece
                    rw [HST.out, if_neg hm2, if_neg hm1]
                    simp only [List.append_nil]
end Go.Proofs.YtpbkgegkjglibaaDoor
