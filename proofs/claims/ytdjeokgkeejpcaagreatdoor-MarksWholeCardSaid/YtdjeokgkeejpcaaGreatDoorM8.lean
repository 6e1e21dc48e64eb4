/- Marks: tree.walk 36, its literal 69. -/
import Derived.Test.YtdjeokgkeejpcaaGreatDoorM6
import Derived.Test.YtdjeokgkeejpcaaGreatDoorSt4
import Derived.Test.YtdjeokgkeejpcaaGreatDoorRf3
import Derived.TacticsInMore
import Derived.LoopNIn
import Derived.LoopIn
import Derived.RangeFuncBox
namespace Go.Proofs.YtdjeokgkeejpcaaGreatDoor
open Go Go.Proofs Go.RowKit
attribute [local go_sem] Oper.semAt_some
/-- What the walk leans on: what lay ahead of its caller, the box of the row. -/
structure Fw (w0 : World) (L : Nat) (hdr : Value) (W : World) : Prop where
  b : Below w0.heap.size w0 W
  l : Bx W L 22 #[hdr]
def Wb (n0 L k : Nat) : Prop := k < n0 ∨ k = L
theorem Fw.keep {w0 : World} {L H : Nat} {hdr : Value} {X Y : World} (h : Fw w0 L hdr X) (hk : AX.Keep (Wb w0.heap.size L) H X Y) : Fw w0 L hdr Y := by
  have hb : ∀ k, k < w0.heap.size → Y.heap[k]? = X.heap[k]? := fun k hk0 => by
    have hlt : k < X.heap.size := Nat.lt_of_lt_of_le hk0 h.b.size
    rw [hk.same k X.heap[k] (Array.getElem?_eq_getElem hlt) (.inl (.inl hk0)), Array.getElem?_eq_getElem hlt]
  exact ⟨⟨hk.low.os.trans h.b.os, hk.low.tape.trans h.b.tape, hk.low.output.trans h.b.output, Nat.le_trans h.b.size hk.low.size, fun k hk0 => (hb k hk0).trans (h.b.block k hk0)⟩, hk.same _ _ h.l (.inl (.inr rfl))⟩
theorem Fw.below {w0 : World} {L : Nat} {hdr : Value} {X Y : World} (h : Fw w0 L hdr X) (hk : Below X.heap.size X Y) : Fw w0 L hdr Y := h.keep (H := 0) (AX.Keep.of_below hk)
/-- The state of a walk under way: its boxes; the place that is next. -/
structure Dw (w0 : World) (L N Y D y : Nat) (hdr : Value) (i : Nat) (W : World) : Prop where
  f : Fw w0 L hdr W
  y : Bx W Y 98 #[.func (.yield y) #[] #[]]
  n : Bx W N 3 #[.int .i64 i]
  d : Bx W D 98 #[.func (.func 70) #[] #[.pointer (some ⟨N, 0, none⟩), .pointer (some ⟨L, 0, none⟩), .pointer (some ⟨Y, 0, none⟩), .pointer (some ⟨D, 0, none⟩)]]
theorem Dw.keep {w0 : World} {L N Y D y H : Nat} {hdr : Value} {i : Nat} {U V : World} (h : Dw w0 L N Y D y hdr i U) (hk : AX.Keep (Wb w0.heap.size L) H U V) (hN : H ≤ N) (hY : H ≤ Y) (hD : H ≤ D) : Dw w0 L N Y D y hdr i V :=
  ⟨h.f.keep hk, hk.same _ _ h.y (.inr ⟨hY, rfl⟩), hk.same _ _ h.n (.inr ⟨hN, rfl⟩), hk.same _ _ h.d (.inr ⟨hD, rfl⟩)⟩
theorem Dw.turn {w0 : World} {L N Y D y : Nat} {hdr : Value} {i j : Nat} {U V : World} (h : Dw w0 L N Y D y hdr i U) (h3 : Bx V N 3 #[.int .i64 j]) (h4 : ∀ k, k ≠ N → V.heap[k]? = U.heap[k]?) (h5 : AX.Same U V) (h0 : w0.heap.size ≤ N) (hL : L ≠ N) (hY : Y ≠ N) (hD : D ≠ N) : Dw w0 L N Y D y hdr j V :=
  ⟨⟨h.f.b.trans (AX.below_turn h0 (.inl h3.lt) h4 h5), h.f.l.same (h4 _ hL)⟩, h.y.same (h4 _ hY), h3, h.d.same (h4 _ hD)⟩
def WkRel (w0 : World) (L N Y D y D0 : Nat) (hdr : Value) (l : List Pt) (f i e : Nat) (kids : List Int) (J : List Nat → World → Prop) (kv : Value) (wr : World) : Prop :=
  ∃ (m : Nat) (a : Int) (k : Nat) (b : Int), kv = .int .i64 k ∧ i < m ∧ m ≤ l.length ∧ k ≤ kids.length ∧ Hid (kidsF l (endF l f) m a (kids.drop k) = some (e, b)) ∧ Dw w0 L N Y D y hdr m wr ∧ J (List.range m) wr ∧ D0 ≤ wr.heap.size
set_option maxRecDepth 100000 in
set_option maxHeartbeats 8000000 in
theorem down_in (n : Nat) (hn1 : 1 ≤ n) {w0 : World} {L : Nat} (l : List Pt) (hl : l.length ≤ 120) (la : Option Addr) (c : Nat) (hR : PRow w0 la l) (y D0 H N Y D : Nat) (hH : H ≤ D0) (hN : D0 ≤ N) (hYb : D0 ≤ Y) (hD : D0 ≤ D) (hL : w0.heap.size ≤ D0) (hLN : L < D0) (hYN : Y ≠ N) (hDN : D ≠ N)
    (J : List Nat → World → Prop) (hJ : ∀ s X Y, J s X → Below D0 X Y → J s Y)
    (hY : ∀ (i : Nat) (W : World), i < l.length → J (List.range i) W → D0 ≤ W.heap.size → YieldAt Fence.wide (n - 1) Tryz.prog y #[.int .i64 i] W fun e W' => e = .returned (.bool true) ∧ J (List.range (i + 1)) W' ∧ AX.Keep (Wb w0.heap.size L) H W W') :
    ∀ (f i e : Nat), i < l.length → endF l f i = some e → ∀ W, Dw w0 L N Y D y (.slice la l.length c) i W → D0 ≤ W.heap.size → J (List.range i) W →
      CallsIn Fence.wide n Tryz.prog 70 #[.int .i64 i, .pointer (some ⟨N, 0, none⟩), .pointer (some ⟨L, 0, none⟩), .pointer (some ⟨Y, 0, none⟩), .pointer (some ⟨D, 0, none⟩)] W fun e' W' => e' = .returned (.bool true) ∧ Dw w0 L N Y D y (.slice la l.length c) e W' ∧ J (List.range e) W' ∧ D0 ≤ W'.heap.size := by
  intro f
  induction f with
  | zero => intro i e _ h; cases h
  | succ f ih =>
    intro i e hi he W hS hW hJi
    obtain ⟨b0, hk0, hb0⟩ := endF_succ he
    have HK := Lib.hid hk0
    clear hk0 hb0 he
    obtain ⟨b, off, ka, kc, rfl, hbl, z, hK, hkl⟩ := hR.at hi
    rw [← pt_get hi] at z hK hkl
    obtain ⟨p, hp⟩ : ∃ p, p = pt l i := ⟨_, rfl⟩
    rw [← hp] at z hK hkl HK
    clear hp
    have z6 := z.c6
    clear z
    have hi0 : (0 : Int) ≤ (i : Int) := by omega
    have hi1 : (i : Int) < (l.length : Int) := by omega
    have hi2 : ¬ l.length ≤ i := by omega
    have c1 := hS.f.l.cell 0
    have c2 := hS.y.cell 0
    have c3 := hS.n.cell 0
    have hf70 : Fence.wide.fn 70 := trivial
    refine callsIn_of_wp Tryz.func70 rfl trivial ?_ rfl
    simp only [Tryz.ntmps70, List.size_toArray, List.length_cons, List.length_nil, Nat.reduceAdd, Nat.reduceSub, Array.replicate_succ, Array.replicate_zero, List.push_toArray, List.append_toArray, List.nil_append, List.cons_append]
    obtain ⟨fn, tmps, assign, body, hy, hRo⟩ := hY i W hi hJi hW
    gi_wp2_with fail
    refine hRo.mono ?_
    rintro e1 W4 ⟨rfl, hJ4, hK4⟩
    have hS4 := hS.keep hK4 (by omega) (by omega) (by omega)
    have hW4 : D0 ≤ W4.heap.size := Nat.le_trans hW hK4.low.size
    have c1 := hS4.f.l.cell 0
    have c3 := hS4.n.cell 0
    have n4 := hS4.n
    have c6 := (hS4.f.b.cell (p := ⟨b, off + i * 8 + 6, none⟩) hbl).trans z6
    clear hy hRo hS hK4 hJi c2
    gi_wp2_with ((with_reducible refine st_in ?_); refine AX.wpListIn_storeCell (o := 0) (v := .int .i64 ((i : Int) + 1)) rfl rfl rfl sz3 n4 (show 0 < 1 by decide) ?_; rintro W5 g3 g4 g5; (have g3' : Bx W5 N 3 #[.int .i64 ((i + 1 : Nat) : Int)] := by rw [Int.natCast_add]; exact g3); (have hS5 := hS4.turn (j := i + 1) g3' g4 g5 (by omega) (by omega) hYN hDN); (have c1' := hS5.f.l.cell 0); (have c6' := (hS5.f.b.cell (p := ⟨b, off + i * 8 + 6, none⟩) hbl).trans z6))
    have hJ5 := hJ _ _ _ hJ4 (AX.below_turn hN (.inl hS5.n.lt) g4 g5)
    have hW5 : D0 ≤ W5.heap.size := by have := hS5.n.lt; omega
    clear hS4 hJ4 n4 c1 c3 c6 g3 g4 g5 g3' c1' c6'
    gi_loopw [32] (fun k wr => WkRel w0 L N Y D y D0 (.slice (some ⟨b, off, none⟩) l.length c) l f i e p.kids J k wr) (fun k _ => p.kids.length - (intOf k).toNat)
    case atStart => exact ⟨i + 1, _, 0, b0, rfl, by omega, by omega, Nat.zero_le _, HK, hS5, hJ5, hW5⟩
    case round =>
      obtain ⟨m, a, k, b1, rfl, him, hml, hk, hH1, hSr, hJr, hWr⟩ := hrel
      clear hS5 hJ5 hW5 HK
      have hk0 : (0 : Int) ≤ (k : Int) := by omega
      by_cases hlt : k < p.kids.length
      · have hk1 : (k : Int) < (p.kids.length : Int) := by omega
        have hst := hH1.out
        rw [List.drop_eq_getElem_cons hlt] at hst
        obtain ⟨q1, q2, _, m', q4, q5⟩ := kidsF_cons hst
        obtain ⟨kb, ko, rfl, hkb, q3⟩ := hK.at hlt
        rw [q1] at q3
        have q3' := (hSr.f.b.cell (p := ⟨kb, ko + k, none⟩) hkb).trans q3
        have hcall := (callsIn_wide (n := n - 1)).2 ((callsIn_wide (n := n)).1 (ih m m' q2 q4 wr hSr hWr hJr))
        have hm' := (end_lt f m m' q2 q4)
        have HS := Lib.hid q5
        have d1 := hSr.d.cell 0
        clear ih hst q1 q3 q4 q5
        gi_wp2_with (gi_at_call 70; ((with_reducible refine hcall.mono ?_); rintro e2 W6 ⟨rfl, hS6, hJ6, hW6⟩))
        go_roundw
        case rel => exact ⟨m', _, k + 1, b1, by simp, by omega, hm'.2.1, by omega, HS, hS6, hJ6, hW6⟩
        case measure => simp [intOf]; omega
      · have hk1 : ¬ (k : Int) < (p.kids.length : Int) := by omega
        have hme : m = e := by
          have := hH1.out
          rw [List.drop_eq_nil_of_le (by omega)] at this
          cases this
          rfl
        subst hme
        gi_wp2_with fail
        exact bodyPost_ret (v := .bool true) (by simp [results, Tryz.results70, go_sem]) rfl ⟨rfl, hSr, hJr, hWr⟩
end Go.Proofs.YtdjeokgkeejpcaaGreatDoor

namespace Go.Proofs.YtdjeokgkeejpcaaGreatDoor
open Go Go.Proofs Go.RowKit
attribute [local go_sem] Oper.semAt_some
set_option maxRecDepth 100000 in
set_option maxHeartbeats 8000000 in
theorem walk1_in (n : Nat) (hn1 : 1 ≤ n) {w0 : World} {L I : Nat} (l : List Pt) (hl : l.length ≤ 120) (hT : TrOk l) (la : Option Addr) (c : Nat) (hR : PRow w0 la l) (y H : Nat) (W : World) (hH : H ≤ W.heap.size) (hS : Fw w0 L (.slice la l.length c) W) (hI : Bx W I 3 #[.int .i64 0])
    (J : List Nat → World → Prop) (hJ : ∀ s X Y, J s X → Below W.heap.size X Y → J s Y)
    (hY : ∀ (i : Nat) (W1 : World), i < l.length → J (List.range i) W1 → W.heap.size ≤ W1.heap.size → YieldAt Fence.wide (n - 1) Tryz.prog y #[.int .i64 i] W1 fun e W' => e = .returned (.bool true) ∧ J (List.range (i + 1)) W' ∧ AX.Keep (Wb w0.heap.size L) H W1 W')
    (h0 : J [] W) : CallsIn Fence.wide n Tryz.prog 69 #[.func (.yield y) #[] #[], .pointer (some ⟨I, 0, none⟩), .pointer (some ⟨L, 0, none⟩)] W fun e W' => (∃ v, e = .returned v) ∧ ∃ xs, xs = List.range l.length ∧ J xs W' := by
  have hpos := hT.tr.pos
  have hwh := Lib.hid hT.tr.whole
  have hLt := hS.l.lt
  have hIt := hI.lt
  have b0 := (Bx.new W 98 #[.func (.yield y) #[] #[]]).alloc (.cells #[.int .i64 0] 3)
  have b1 := Bx.new (W.alloc (.cells #[.func (.yield y) #[] #[]] 98)) 3 #[.int .i64 0]
  rw [World.size_alloc] at b1
  have hA2 := ((Below.refl _ W).alloc (Nat.le_refl _) (.cells #[.func (.yield y) #[] #[]] 98)).alloc (by simp) (.cells #[.int .i64 0] 3)
  have ci0 := (hI.alloc (.cells #[.func (.yield y) #[] #[]] 98)).cell 0
  have i2 := (hI.alloc (.cells #[.func (.yield y) #[] #[]] 98)).alloc (.cells #[.int .i64 0] 3)
  have hf70 : Fence.wide.fn 70 := trivial
  refine callsIn_of_wp Tryz.func69 rfl trivial ?_ rfl
  simp only [Tryz.ntmps69, List.size_toArray, List.length_cons, List.length_nil, Nat.reduceAdd, Nat.reduceSub, Array.replicate_succ, Array.replicate_zero, List.push_toArray, List.append_toArray, List.nil_append, List.cons_append]
  gi_wp2_with (first
    | ((with_reducible refine st_in ?_); refine AX.wpListIn_storeCell (o := 0) (v := .int .i64 0) rfl rfl rfl sz3 b1 (show 0 < 1 by decide) ?_; rintro W5 g3 g4 g5; (have b0' := b0.same (g4 W.heap.size (by omega))); (have i3 := i2.same (g4 I (by omega))); (have hA3 := hA2.trans (AX.below_turn (Nat.le_succ _) (.inl (Bx.lt g3)) g4 g5)); (have n3 : Bx W5 (W.heap.size + 1) 3 #[.int .i64 0] := g3); (have bD := Bx.new W5 98 #[.nilFunc]); (have hA4 := hA3.alloc hA3.size (.cells #[.nilFunc] 98)); (have b0a := b0'.alloc (.cells #[.nilFunc] 98)); (have n4 := n3.alloc (.cells #[.nilFunc] 98)); (have i4 := i3.alloc (.cells #[.nilFunc] 98)); (have hlt5 := b0'.lt); (have hlt6 := n3.lt); (have hlt7 := i3.lt); clear b0 b1 hA2 i2 g3 g4 g5 b0' i3 n3 ci0)
    | ((with_reducible refine st_in ?_); refine AX.wpListIn_storeCell (o := 0) (v := .func (.func 70) #[] #[.pointer (some ⟨W.heap.size + 1, 0, none⟩), .pointer (some ⟨L, 0, none⟩), .pointer (some ⟨W.heap.size, 0, none⟩), .pointer (some ⟨W5.heap.size, 0, none⟩)]) rfl rfl rfl sz98 bD (show 0 < 1 by decide) ?_; rintro W6 g3 g4 g5; (have d6 : Bx W6 W5.heap.size 98 #[.func (.func 70) #[] #[.pointer (some ⟨W.heap.size + 1, 0, none⟩), .pointer (some ⟨L, 0, none⟩), .pointer (some ⟨W.heap.size, 0, none⟩), .pointer (some ⟨W5.heap.size, 0, none⟩)]] := g3); (have y6 := b0a.same (g4 W.heap.size (by omega))); (have n6 := n4.same (g4 (W.heap.size + 1) (by omega))); (have i6 := i4.same (g4 I (by omega))); (have hA6 := hA4.trans (AX.below_turn hA3.size (.inl (Bx.lt g3)) g4 g5)); (have cd := d6.cell 0); (have ci := i6.cell 0); (have hf6 : Fw w0 L (.slice la l.length c) W6 := hS.below hA6); (have hD6 : Dw w0 L (W.heap.size + 1) W.heap.size W5.heap.size y (.slice la l.length c) 0 W6 := ⟨hf6, y6, n6, d6⟩); (have hcall := (callsIn_wide (n := n - 1)).2 ((callsIn_wide (n := n)).1 (down_in n hn1 l hl la c hR y W.heap.size H (W.heap.size + 1) W.heap.size W5.heap.size hH (by omega) (Nat.le_refl _) (by omega) hS.b.size hLt (by omega) (by omega) J hJ hY l.length 0 l.length hpos hwh.out W6 hD6 hA6.size (hJ _ _ _ h0 hA6)))); rw [show ((0 : Nat) : Int) = 0 from rfl] at hcall))
  gi_wp2_with (gi_at_call 70; ((with_reducible refine hcall.mono ?_); rintro e W7 ⟨rfl, hD7, hJ7, hz7⟩))
  go_end0
  exact ⟨⟨_, rfl⟩, _, rfl, hJ7⟩
theorem walk36_k (l : List Pt) (la : Option Addr) (c : Nat) (w : World) :
    Calls Tryz.prog 36 #[.slice la l.length c, .int .i64 0] w fun e w' => e = .returned (.func (.func 69) #[] #[.pointer (some ⟨w.heap.size + 1, 0, none⟩), .pointer (some ⟨w.heap.size, 0, none⟩)]) ∧ Below w.heap.size w w' ∧ w'.heap.size = w.heap.size + 2 ∧ Bx w' w.heap.size 22 #[.slice la l.length c] ∧ Bx w' (w.heap.size + 1) 3 #[.int .i64 0] := by
  have b0 := (Bx.new w 22 #[.slice la l.length c]).alloc (.cells #[.int .i64 0] 3)
  have b1 := Bx.new (w.alloc (.cells #[.slice la l.length c] 22)) 3 #[.int .i64 0]
  rw [World.size_alloc] at b1
  have hB := ((Below.refl _ w).alloc (Nat.le_refl _) (.cells #[.slice la l.length c] 22)).alloc (by simp) (.cells #[.int .i64 0] 3)
  go_enter Tryz.func36, Tryz.ntmps36
  go_wp2_with fail
  go_ret
  exact ⟨rfl, hB, by simp, b0, b1⟩
end Go.Proofs.YtdjeokgkeejpcaaGreatDoor
