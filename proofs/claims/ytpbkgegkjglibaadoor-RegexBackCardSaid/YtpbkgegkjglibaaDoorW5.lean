/- Regex: Check. -/
import Derived.Test.YtpbkgegkjglibaaDoorA8
import Derived.Test.YtpbkgegkjglibaaDoorRf1
import Derived.RangeFuncBox
import Derived.ProofKit
import Derived.Test.YtpbkgegkjglibaaDoorProg
import Derived.WalkKit
import Derived.BigQuiet
import Derived.RegionTactic
import Derived.Deep.RegionWith
import Derived.Deep.Cut
import Derived.Lib.Hide
import Derived.Laws.Cover1
import Derived.Maps.AppendAt
import Derived.OwnWalk
import Derived.Laws.Bits64b
import Derived.Lib.ConvBytes
namespace Go.Proofs.YtpbkgegkjglibaaDoor
open Go Go.Proofs Go.RowKit
attribute [local go_sem] Oper.semAt_some

/-- A set lies in block B. -/
def BRow (W : World) (B : Nat) (l : List Bool) : Prop := ∃ cs : Array Value, W.heap[B]? = some (.cells cs 4 (0, 0)) ∧ ∀ (i : Nat) (b : Bool), l[i]? = some b → cs[i]? = some (.bool b)
theorem BRow.lt {W : World} {B : Nat} {l : List Bool} (h : BRow W B l) : B < W.heap.size := by obtain ⟨cs, h, _⟩ := h; exact (Array.getElem?_eq_some_iff.1 h).1
theorem BRow.at {W : World} {B : Nat} {l : List Bool} (h : BRow W B l) (i : Nat) (b : Bool) (hb : l[i]? = some b) : W.cell? ⟨B, i, none⟩ = some (.bool b) := by
  obtain ⟨cs, h, hc⟩ := h
  simp [World.cell?, h, hc i b hb]
theorem BRow.frozen {W : World} {B : Nat} {l : List Bool} (h : BRow W B l) (j : Nat) : W.frozen? ⟨B, j, none⟩ = false := by
  obtain ⟨cs, h, _⟩ := h
  simp [World.frozen?, h]
theorem BRow.same {W W' : World} {B : Nat} {l : List Bool} (h : BRow W B l) (e : W'.heap[B]? = W.heap[B]?) : BRow W' B l := by
  obtain ⟨cs, h, hc⟩ := h
  exact ⟨cs, e.trans h, hc⟩
theorem BRow.below {n B : Nat} {l : List Bool} {w w' : World} (h : BRow w B l) (hb : Below n w w') (hn : B < n) : BRow w' B l := h.same (hb.block _ hn)
theorem BRow.but {A B : Nat} {l : List Bool} {w w' : World} (h : BRow w B l) (hb : AX.But A w w') (hn : B ≠ A) : BRow w' B l := h.same (hb.same _ h.lt hn)
theorem BRow.other {W : World} {B B' i : Nat} {l : List Bool} {v : Value} (h : BRow W B l) (hne : B ≠ B') : BRow (W.setCell ⟨B', i, none⟩ v) B l := h.same (Below.heap_setCell _ _ _ _ hne)
theorem BRow.set {W : World} {B : Nat} {l : List Bool} (h : BRow W B l) (i : Nat) (b : Bool) : BRow (W.setCell ⟨B, i, none⟩ (.bool b)) B (l.set i b) := by
  obtain ⟨cs, h, hc⟩ := h
  have hb := (Array.getElem?_eq_some_iff.1 h).1
  refine ⟨cs.setIfInBounds i (.bool b), by simp [World.setCell, Array.getElem?_modify, h], fun j c hj => ?_⟩
  rw [Array.getElem?_setIfInBounds]
  rw [List.getElem?_set] at hj
  by_cases e : i = j
  · subst e
    rw [if_pos rfl] at hj ⊢
    split at hj
    · rename_i hl
      have := hc i l[i] (List.getElem?_eq_getElem hl)
      rw [if_pos (Array.getElem?_eq_some_iff.1 this).1, Option.some.inj hj]
    · cases hj
  · rw [if_neg e] at hj ⊢
    exact hc j c hj
theorem but_set (w : World) (A i : Nat) (v : Value) : AX.But A w (w.setCell ⟨A, i, none⟩ v) :=
  ⟨(Below.refl 0 w).setCell (p := ⟨A, i, none⟩) (Nat.zero_le _) v, fun _ _ hk => Below.heap_setCell _ _ _ _ hk⟩
def sv (B n c : Nat) : Value := .slice (some ⟨B, 0, none⟩) n c

end Go.Proofs.YtpbkgegkjglibaaDoor

namespace Go.Proofs.YtpbkgegkjglibaaDoor
open Go Go.Proofs Go.RowKit
attribute [local go_sem] Oper.semAt_some

/-- All that lay lies as it lay, but for the blocks of S. -/
structure ButS (S : Nat → Prop) (X Y : World) : Prop where
  low : Below 0 X Y
  same : ∀ k, k < X.heap.size → ¬ S k → Y.heap[k]? = X.heap[k]?
theorem ButS.refl (S : Nat → Prop) (X : World) : ButS S X X := ⟨Below.refl _ _, fun _ _ _ => rfl⟩
theorem ButS.trans {S : Nat → Prop} {X Y Z : World} (h : ButS S X Y) (k : ButS S Y Z) : ButS S X Z := ⟨h.low.trans k.low, fun i hi hA => (k.same i (Nat.lt_of_lt_of_le hi h.low.size) hA).trans (h.same i hi hA)⟩
theorem ButS.of_below {S : Nat → Prop} {X Y : World} (h : Below X.heap.size X Y) : ButS S X Y := ⟨h.mono (Nat.zero_le _), fun k hk _ => h.block k hk⟩
theorem ButS.of_but {S : Nat → Prop} {A : Nat} {X Y : World} (h : AX.But A X Y) (hA : S A) : ButS S X Y := ⟨h.low, fun k hk hn => h.same k hk (fun e => hn (e ▸ hA))⟩
theorem ButS.mono {S S' : Nat → Prop} {X Y : World} (h : ButS S X Y) (hS : ∀ k, k < X.heap.size → S k → S' k) : ButS S' X Y := ⟨h.low, fun k hk hn => h.same k hk (fun e => hn (hS k hk e))⟩
theorem ButS.below {S : Nat → Prop} {n : Nat} {X Y : World} (h : ButS S X Y) (hn : n ≤ X.heap.size) (hA : ∀ k, S k → n ≤ k) : Below n X Y := ⟨h.low.os, h.low.tape, h.low.output, h.low.size, fun k hk => h.same k (by omega) (fun e => by have := hA k e; omega)⟩
theorem BRow.buts {S : Nat → Prop} {B : Nat} {l : List Bool} {w w' : World} (h : BRow w B l) (hb : ButS S w w') (hn : ¬ S B) : BRow w' B l := h.same (hb.same _ h.lt hn)

/-- The rows of what may come next: M of n are made, each in a block of its own. -/
structure NAt (W : World) (NB n M : Nat) (bs : Nat → Nat) (nx : List (List Bool)) : Prop where
  len : nx.length = n
  cells : ∃ cs : Array Value, W.heap[NB]? = some (.cells cs 77 (0, 0)) ∧ cs.size = n ∧ ∀ i, i < M → cs[i]? = some (.slice (some ⟨bs i, 0, none⟩) n n)
  row : ∀ i row, i < M → nx[i]? = some row → BRow W (bs i) row ∧ row.length = n
  inj : ∀ i j, i < M → j < M → bs i = bs j → i = j
  nb : ∀ i, i < M → bs i ≠ NB
theorem NAt.cell {W : World} {NB n M : Nat} {bs : Nat → Nat} {nx : List (List Bool)} (h : NAt W NB n M bs nx) {i : Nat} (hi : i < M) : W.cell? ⟨NB, i, none⟩ = some (.slice (some ⟨bs i, 0, none⟩) n n) := by
  obtain ⟨cs, h1, _, h2⟩ := h.cells
  simp [World.cell?, h1, h2 i hi]
theorem NAt.lt {W : World} {NB n M : Nat} {bs : Nat → Nat} {nx : List (List Bool)} (h : NAt W NB n M bs nx) : NB < W.heap.size := by
  obtain ⟨cs, h1, _⟩ := h.cells
  exact (Array.getElem?_eq_some_iff.1 h1).1
theorem NAt.same {W W' : World} {NB n M : Nat} {bs : Nat → Nat} {nx : List (List Bool)} (h : NAt W NB n M bs nx) (h1 : W'.heap[NB]? = W.heap[NB]?) (h2 : ∀ i, i < M → W'.heap[bs i]? = W.heap[bs i]?) : NAt W' NB n M bs nx := by
  obtain ⟨cs, a, b, c⟩ := h.cells
  exact ⟨h.len, ⟨cs, h1.trans a, b, c⟩, fun i row hi hr => ⟨(h.row i row hi hr).1.same (h2 i hi), (h.row i row hi hr).2⟩, h.inj, h.nb⟩
theorem NAt.below {W W' : World} {m NB n M : Nat} {bs : Nat → Nat} {nx : List (List Bool)} (h : NAt W NB n M bs nx) (hb : Below m W W') (h1 : NB < m) (h2 : ∀ i, i < M → bs i < m) : NAt W' NB n M bs nx :=
  h.same (hb.block _ h1) (fun i hi => hb.block _ (h2 i hi))
/-- One row is turned. -/
theorem NAt.turn {W W' : World} {NB n M : Nat} {bs : Nat → Nat} {nx : List (List Bool)} (h : NAt W NB n M bs nx) (hM : M ≤ n) {k : Nat} (hk : k < M) {row : List Bool} (hr : BRow W' (bs k) row) (hl : row.length = n) (hb : AX.But (bs k) W W') : NAt W' NB n M bs (nx.set k row) := by
  obtain ⟨cs, a, b, c⟩ := h.cells
  refine ⟨by rw [List.length_set, h.len], ⟨cs, (hb.same _ h.lt (fun e => h.nb k hk e.symm)).trans a, b, c⟩, fun i r hi hr' => ?_, h.inj, h.nb⟩
  rw [List.getElem?_set] at hr'
  by_cases e : k = i
  · subst e
    rw [if_pos rfl, if_pos (by rw [h.len]; omega)] at hr'
    rw [← Option.some.inj hr']
    exact ⟨hr, hl⟩
  · rw [if_neg e] at hr'
    exact ⟨(h.row i r hi hr').1.but hb (fun e' => e (h.inj _ _ hi hk e').symm), (h.row i r hi hr').2⟩

end Go.Proofs.YtpbkgegkjglibaaDoor

namespace Go.Proofs.YtpbkgegkjglibaaDoor
open Go Go.Proofs Go.RowKit
attribute [local go_sem] Oper.semAt_some

theorem addr_add (B o j : Nat) : (⟨B, o, none⟩ : Addr).add j = ⟨B, o + j, none⟩ := by unfold Addr.add; split <;> simp_all
theorem wrap_two_pow (r : Nat) (hr : r < 64) : IntKind.u64.wrap ((2 : Int) ^ r) = ((2 ^ r : Nat) : Int) := by
  have h : 2 ^ r < 2 ^ 64 := Nat.pow_lt_pow_right (by decide) hr
  have h : 2 ^ r < 18446744073709551616 := by simpa using h
  have e : ((2 : Int) ^ r) = ((2 ^ r : Nat) : Int) := by simp
  rw [e]
  generalize 2 ^ r = m at *
  rw [IntKind.wrap_u64]
  omega
/-- The words are words. -/
structure Nd.Wd (x : Nd) : Prop where
  a : x.a < 18446744073709551616
  b : x.b < 18446744073709551616
  c : x.c < 18446744073709551616
  d : x.d < 18446744073709551616
set_option maxHeartbeats 2000000 in
theorem arity_k (k : Int) (w : World) : Calls Tryd.prog 27 #[.int .i64 k] w fun e w' => e = .returned (.tuple #[.int .i64 (lowV k), .int .i64 (highV k), .bool (kindV k)]) ∧ w' = w := by
  have h8 : k = 1 ∨ k = 2 ∨ k = 3 ∨ k = 4 ∨ k = 5 ∨ k = 6 ∨ k = 7 ∨ (k ≠ 1 ∧ k ≠ 2 ∧ k ≠ 3 ∧ k ≠ 4 ∧ k ≠ 5 ∧ k ≠ 6 ∧ k ≠ 7) := by omega
  rcases h8 with rfl | rfl | rfl | rfl | rfl | rfl | rfl | ⟨h1, h2, h3, h4, h5, h6, h7⟩
  all_goals
    first
      | (have e : lowV k = 0 ∧ highV k = 0 ∧ kindV k = false := ⟨by simp [lowV, h1, h2, h3, h4, h5, h6, h7], by simp [highV, h1, h2, h3, h4, h5, h6, h7], by simp [kindV]; omega⟩
         rw [e.1, e.2.1, e.2.2]
         clear e)
      | skip
    go_enter Tryd.func27, Tryd.ntmps27
    go_wp2
    refine bodyPost_ret (v := .tuple #[.int .i64 _, .int .i64 _, .bool _]) (by first | (simp [results, Tryd.results27, go_sem]; done) | (simp [results, Tryd.results27, go_sem]; decide)) rfl ⟨rfl, rfl⟩
end Go.Proofs.YtpbkgegkjglibaaDoor

namespace Go.Proofs.YtpbkgegkjglibaaDoor
open Go Go.Proofs Go.RowKit
attribute [local go_sem] Oper.semAt_some

/-- Numbers that are read. -/
def IRd (W : World) (v : Value) (l : List Int) : Prop := ∃ (la : Option Addr) (c : Nat), v = .slice la l.length c ∧ (la = none → l = []) ∧ ∀ a, la = some a → l ≠ [] → ∃ B off, a = ⟨B, off, none⟩ ∧ B < W.heap.size ∧ ∀ i x, l[i]? = some x → W.cell? ⟨B, off + i, none⟩ = some (.int .i64 x)
theorem IRd.below {n : Nat} {w w' : World} {v : Value} {l : List Int} (h : IRd w v l) (hn : w.heap.size ≤ n) (hb : Below n w w') : IRd w' v l := by
  obtain ⟨la, c, rfl, h1, h2⟩ := h
  exact ⟨la, c, rfl, h1, fun a e ne => by obtain ⟨B, off, e1, e2, e3⟩ := h2 a e ne; exact ⟨B, off, e1, Nat.lt_of_lt_of_le e2 hb.size, fun i x hx => (hb.cell (p := ⟨B, off + i, none⟩) (Nat.lt_of_lt_of_le e2 hn)).trans (e3 i x hx)⟩⟩
/-- A node lies at place o of block B. -/
structure XAt (W : World) (B o : Nat) (x : Nd) : Prop where
  c0 : W.cell? ⟨B, o, none⟩ = some (.int .i64 x.k)
  c1 : W.cell? ⟨B, o + 1, none⟩ = some (.int .u64 (x.a : Nat))
  c2 : W.cell? ⟨B, o + 2, none⟩ = some (.int .u64 (x.b : Nat))
  c3 : W.cell? ⟨B, o + 3, none⟩ = some (.int .u64 (x.c : Nat))
  c4 : W.cell? ⟨B, o + 4, none⟩ = some (.int .u64 (x.d : Nat))
  c5 : ∃ v, W.cell? ⟨B, o + 5, none⟩ = some v ∧ IRd W v x.kids
theorem XAt.below {n B o : Nat} {x : Nd} {w w' : World} (h : XAt w B o x) (hn : w.heap.size ≤ n) (hb : Below n w w') (hB : B < n) : XAt w' B o x :=
  ⟨(hb.cell (p := ⟨B, o, none⟩) hB).trans h.c0, (hb.cell (p := ⟨B, o + 1, none⟩) hB).trans h.c1, (hb.cell (p := ⟨B, o + 2, none⟩) hB).trans h.c2, (hb.cell (p := ⟨B, o + 3, none⟩) hB).trans h.c3, (hb.cell (p := ⟨B, o + 4, none⟩) hB).trans h.c4, by
    obtain ⟨v, h1, h2⟩ := h.c5
    exact ⟨v, (hb.cell (p := ⟨B, o + 5, none⟩) hB).trans h1, h2.below hn hb⟩⟩
/-- Nodes that are read. -/
def RRow (W : World) (v : Value) (r : List Nd) : Prop := ∃ (la : Option Addr) (c : Nat), v = .slice la r.length c ∧ (la = none → r = []) ∧ ∀ a, la = some a → r ≠ [] → ∃ B off, a = ⟨B, off, none⟩ ∧ B < W.heap.size ∧ ∀ i x, r[i]? = some x → XAt W B (off + i * 6) x
theorem RRow.below {n : Nat} {w w' : World} {v : Value} {r : List Nd} (h : RRow w v r) (hn : w.heap.size ≤ n) (hb : Below n w w') : RRow w' v r := by
  obtain ⟨la, c, rfl, h1, h2⟩ := h
  exact ⟨la, c, rfl, h1, fun a e ne => by obtain ⟨B, off, e1, e2, e3⟩ := h2 a e ne; exact ⟨B, off, e1, Nat.lt_of_lt_of_le e2 hb.size, fun i x hx => (e3 i x hx).below hn hb (Nat.lt_of_lt_of_le e2 hn)⟩⟩

/-- Numbers of one's own lie in block B. -/
def IRow (W : World) (B : Nat) (l : List Int) : Prop := ∃ cs : Array Value, W.heap[B]? = some (.cells cs 3 (0, 0)) ∧ ∀ (i : Nat) (b : Int), l[i]? = some b → cs[i]? = some (.int .i64 b)
theorem IRow.lt {W : World} {B : Nat} {l : List Int} (h : IRow W B l) : B < W.heap.size := by obtain ⟨cs, h, _⟩ := h; exact (Array.getElem?_eq_some_iff.1 h).1
theorem IRow.at {W : World} {B : Nat} {l : List Int} (h : IRow W B l) (i : Nat) (b : Int) (hb : l[i]? = some b) : W.cell? ⟨B, i, none⟩ = some (.int .i64 b) := by
  obtain ⟨cs, h, hc⟩ := h
  simp [World.cell?, h, hc i b hb]
theorem IRow.frozen {W : World} {B : Nat} {l : List Int} (h : IRow W B l) (j : Nat) : W.frozen? ⟨B, j, none⟩ = false := by
  obtain ⟨cs, h, _⟩ := h
  simp [World.frozen?, h]
theorem IRow.same {W W' : World} {B : Nat} {l : List Int} (h : IRow W B l) (e : W'.heap[B]? = W.heap[B]?) : IRow W' B l := by
  obtain ⟨cs, h, hc⟩ := h
  exact ⟨cs, e.trans h, hc⟩
theorem IRow.below {n B : Nat} {l : List Int} {w w' : World} (h : IRow w B l) (hb : Below n w w') (hn : B < n) : IRow w' B l := h.same (hb.block _ hn)
theorem IRow.other {W : World} {B B' i : Nat} {l : List Int} {v : Value} (h : IRow W B l) (hne : B ≠ B') : IRow (W.setCell ⟨B', i, none⟩ v) B l := h.same (Below.heap_setCell _ _ _ _ hne)
theorem IRow.set {W : World} {B : Nat} {l : List Int} (h : IRow W B l) (i : Nat) (b : Int) : IRow (W.setCell ⟨B, i, none⟩ (.int .i64 b)) B (l.set i b) := by
  obtain ⟨cs, h, hc⟩ := h
  have hb := (Array.getElem?_eq_some_iff.1 h).1
  refine ⟨cs.setIfInBounds i (.int .i64 b), by simp [World.setCell, Array.getElem?_modify, h], fun j c hj => ?_⟩
  rw [Array.getElem?_setIfInBounds]
  rw [List.getElem?_set] at hj
  by_cases e : i = j
  · subst e
    rw [if_pos rfl] at hj ⊢
    split at hj
    · rename_i hl
      have := hc i l[i] (List.getElem?_eq_getElem hl)
      rw [if_pos (Array.getElem?_eq_some_iff.1 this).1, Option.some.inj hj]
    · cases hj
  · rw [if_neg e] at hj ⊢
    exact hc j c hj

theorem not1_k (x : Int) (w : World) : Calls Tryd.prog 29 #[.int .i64 x] w fun e w' => e = .returned (.bool (x != 1)) ∧ w' = w := by
  go_enter Tryd.func29, Tryd.ntmps29
  go_wp2
  exact bodyPost_ret (v := .bool (x != 1)) (by simp [results, Tryd.results29, go_sem]) rfl ⟨rfl, rfl⟩
set_option maxHeartbeats 4000000 in
theorem index_k (B n c : Nat) (l : List Int) (hn : n ≤ l.length) (hl : l.length ≤ 1000000) (w : World) (hB : IRow w B l) :
    Calls Tryd.prog 47 #[.slice (some ⟨B, 0, none⟩) n c, .func (.func 29) #[] #[]] w fun e w' => (∃ z : Int, e = .returned (.int .i64 z) ∧ ((0 ≤ z ∧ ∃ x ∈ l.take n, x ≠ 1) ∨ (z = -1 ∧ ∀ x ∈ l.take n, x = 1))) ∧ w' = w := by
  go_enter Tryd.func47, Tryd.ntmps47
  go_wp2
  obtain ⟨wo, rfl⟩ : ∃ wo : World, wo = w := ⟨_, rfl⟩
  go_loopw [8] (fun i wr => ∃ k : Nat, k ≤ n ∧ i = .int .i64 k ∧ Hid (∀ x ∈ l.take k, x = 1) ∧ wr = wo) (fun i _ => n - (intOf i).toNat)
  case atStart => exact ⟨0, Nat.zero_le _, rfl, Lib.hid (by simp), rfl⟩
  case round =>
    obtain ⟨k, hk, rfl, hH, rfl⟩ := hrel
    by_cases hlt : k < n
    · obtain ⟨x, hx⟩ : ∃ x, l[k]? = some x := ⟨_, List.getElem?_eq_getElem (by omega)⟩
      have c0 := hB.at k x hx
      have hn1 := not1_k x wr
      have hk0 : (0 : Int) ≤ (k : Int) := by omega
      have hk1 : (k : Int) < (n : Int) := by omega
      have HT : Hid (l.take (k + 1) = l.take k ++ [x]) := Lib.hid (by rw [List.take_add_one, hx]; rfl)
      have HM : Hid (x ∈ l.take n) := Lib.hid (by rw [List.mem_take_iff_getElem]; exact ⟨k, by omega, by rw [List.getElem?_eq_getElem (by omega)] at hx; exact Option.some.inj hx⟩)
      clear hx
      by_cases h1 : x = 1
      · subst h1
        rw [show ((1 : Int) != 1) = false from rfl] at hn1
        go_wp2_with (go_at_call 29; refine hn1.mono ?_; rintro e Wd ⟨rfl, rfl⟩)
        go_roundw
        case rel => exact ⟨k + 1, by omega, by simp, Lib.hid (by rw [HT.out]; intro y hy; rcases List.mem_append.1 hy with hy | hy; exact hH.out y hy; simpa using hy), by trivial⟩
        case measure => simp [intOf]; omega
      · have hb : (x != 1) = true := by simpa using h1
        rw [hb] at hn1
        have H1 := Lib.hid h1
        clear h1 hb
        go_wp2_with (go_at_call 29; refine hn1.mono ?_; rintro e Wd ⟨rfl, rfl⟩)
        exact bodyPost_ret (v := .int .i64 k) (by simp [results, Tryd.results47, go_sem]) rfl ⟨⟨k, rfl, .inl ⟨by omega, x, HM.out, H1.out⟩⟩, rfl⟩
    · obtain rfl : k = n := by omega
      go_wp2
      exact bodyPost_ret (v := .int .i64 (-1)) (by simp [results, Tryd.results47, go_sem]) rfl ⟨⟨-1, rfl, .inr ⟨rfl, hH.out⟩⟩, rfl⟩
open Classical in
theorem contains_k (B n c : Nat) (l : List Int) (hn : n ≤ l.length) (hl : l.length ≤ 1000000) (w : World) (hB : IRow w B l) :
    Calls Tryd.prog 28 #[.slice (some ⟨B, 0, none⟩) n c, .func (.func 29) #[] #[]] w fun e w' => e = .returned (.bool (decide (∃ x ∈ l.take n, x ≠ 1))) ∧ w' = w := by
  have h := index_k B n c l hn hl w hB
  go_enter Tryd.func28, Tryd.ntmps28
  go_wp2_with (go_at_call 47; refine h.mono ?_; rintro e Wd ⟨⟨z, rfl, hz⟩, rfl⟩)
  have e : decide (∃ x ∈ l.take n, x ≠ 1) = decide (z ≥ 0) := by
    rcases hz with ⟨h1, h2⟩ | ⟨h1, h2⟩
    · rw [decide_eq_true h2, decide_eq_true h1]
    · rw [decide_eq_false (by rintro ⟨x, hx, h3⟩; exact h3 (h2 x hx)), decide_eq_false (by omega)]
  rw [e]
  exact bodyPost_ret (v := .bool (decide (z ≥ 0))) (by simp [results, Tryd.results28, go_sem]) rfl ⟨rfl, rfl⟩
end Go.Proofs.YtpbkgegkjglibaaDoor

namespace Go.Proofs.YtpbkgegkjglibaaDoor
open Go Go.Proofs Go.RowKit
attribute [local go_sem] Oper.semAt_some

open Classical in
noncomputable def checkV (r : List Nd) : Int := if RxOk r then 0 else 2
/-- How often each place is used: by all parts of the first nodes, and by some more. -/
def usedL (n : Nat) (ks : List Int) : List Int := (List.range n).map fun j : Nat => ((ks.count (j : Int) : Nat) : Int)
theorem usedL_len (n : Nat) (ks : List Int) : (usedL n ks).length = n := by simp [usedL]
theorem usedL_get (n : Nat) (ks : List Int) (j : Nat) (hj : j < n) : (usedL n ks)[j]? = some ((ks.count (j : Int) : Nat) : Int) := by simp [usedL, hj]
theorem usedL_put (n : Nat) (ks : List Int) (j : Nat) (hj : j < n) : (usedL n ks).set j (((ks.count (j : Int) : Nat) : Int) + 1) = usedL n (ks ++ [(j : Int)]) := by
  apply List.ext_getElem?
  intro i
  rw [List.getElem?_set]
  by_cases hi : i < n
  · rw [usedL_get n (ks ++ [(j : Int)]) i hi, usedL_get n ks i hi, List.count_append, List.count_singleton]
    by_cases e : j = i
    · subst e; rw [if_pos rfl, if_pos (by rw [usedL_len]; exact hj), if_pos (by simp)]; simp
    · rw [if_neg e, if_neg (by simp; omega)]; simp
  · rw [List.getElem?_eq_none (by rw [usedL_len]; omega : (usedL n (ks ++ [(j : Int)])).length ≤ i), List.getElem?_eq_none (by rw [usedL_len]; omega : (usedL n ks).length ≤ i)]
    rw [if_neg (by omega)]
theorem kidsOf_take (r : List Nd) (k : Nat) (x : Nd) (h : r[k]? = some x) : kidsOf (r.take (k + 1)) = kidsOf (r.take k) ++ x.kids := by
  rw [List.take_add_one, h, kidsOf, List.flatMap_append]; simp [kidsOf]
/-- What Check asks of a node itself. -/
def headOk (x : Nd) : Prop := (1 ≤ x.k ∧ x.k ≤ 7) ∧ lowV x.k ≤ x.kids.length ∧ (x.kids.length : Int) ≤ highV x.k ∧ (x.k ≠ 2 → x.a = 0 ∧ x.b = 0 ∧ x.c = 0 ∧ x.d = 0)
theorem neq_cls (a b c d : Nat) (W : World) : (binOp .neq 38 (.agg #[.int .u64 a, .int .u64 b, .int .u64 c, .int .u64 d]) (.agg #[.int .u64 0, .int .u64 0, .int .u64 0, .int .u64 0])).run Tryd.prog W = .ok (.bool (!decide (a = 0 ∧ b = 0 ∧ c = 0 ∧ d = 0))) W := by
  cases a <;> cases b <;> cases c <;> cases d <;> kernel_rfl
theorem info3' : (Tryd.prog.info? 3).map (fun i => (i.zero, i.size, i.bytes)) = some (some (.int .i64 0), 1, 8) := by kernel_rfl
theorem made_get (z : Value) (k i : Nat) (h : i < k) : (madeCells #[z] k)[i]? = some z := by
  simp [madeCells, h, Nat.mod_one]
theorem mk_ints (n : Nat) (hn : n ≤ 1000) (w : World) : ∃ W0, (Instr.makeSlice 43 (.int .i64 n) (.int .i64 n)).run Tryd.prog w = .ok (.slice (some ⟨w.heap.size, 0, none⟩) n n) W0 ∧ IRow W0 w.heap.size (usedL n []) ∧ Below w.heap.size w W0 ∧ W0.heap.size = w.heap.size + 1 := by
  obtain ⟨ti, hi, hz0, hz1, hz2⟩ := info_parts info3'
  have h := run_makeSlice (P := Tryd.prog) (w := w) 43 3 ti (.int .i64 0) Tryd.underlying43 hi hz0 .i64 .i64 (n : Int) (n : Int) (by omega) (Int.le_refl _) (by rw [hz1]; simp; omega) (by rw [hz2]; omega) (by omega)
  refine ⟨_, by rw [Int.toNat_natCast] at h; exact h, ⟨_, World.alloc_heap_new w _, fun i b hb => ?_⟩, (Below.refl _ w).alloc (Nat.le_refl _) _, by simp⟩
  have hi' := lt_of_some hb
  rw [usedL_len] at hi'
  rw [usedL_get n [] i hi'] at hb
  show (madeCells #[Value.int .i64 0] (n * ti.size))[i]? = _
  rw [hz1, Nat.mul_one]
  have := made_get (.int .i64 0) n i hi'
  simp at hb
  subst hb
  exact this
end Go.Proofs.YtpbkgegkjglibaaDoor
