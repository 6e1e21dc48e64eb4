/- Lexer: the law's tokens. -/
import Derived.Test.YtefjfbhffmkikaaGreatDoorL9d
import Derived.Test.YtefjfbhffmkikaaGreatDoorL16
import Derived.Test.YtefjfbhffmkikaaGreatDoorL26
import Derived.Test.YtefjfbhffmkikaaGreatDoorRf1
import Derived.TacticsInMore
import Derived.LoopNIn
import Derived.LoopIn
import Derived.WalkKit
import Derived.RangeFuncBox
import Derived.Shelf.Abstract
import Derived.Sort.CutIn
namespace Go.Proofs.YtefjfbhffmkikaaGreatDoor
open Go Go.Proofs Go.RowKit
attribute [local go_sem] Oper.semAt_some
section
variable {next rule kind : List Int} {kinds : Int} {an ar ak : Option Addr} {cn cr ck : Nat} {w : World}
/-- What Each's closure leans on: the caller's heap, its three boxes. -/
structure Fc (w0 : World) (L : Nat) (next rule kind : List Int) (kinds : Int) (an ar ak : Option Addr) (cn cr ck : Nat) (s : ByteArray) (i : Int) (W : World) : Prop where
  b : Below w0.heap.size w0 W
  l : Bx W L 26 #[.slice an next.length cn, .slice ar rule.length cr, .slice ak kind.length ck, .int .i64 kinds]
  t : Bx W (L + 1) 9 #[.string s]
  a : Bx W (L + 2) 3 #[.int .i64 i]
/-- Its blocks. -/
def Fb (n0 L : Nat) (k : Nat) : Prop := k < n0 ∨ (L ≤ k ∧ k ≤ L + 2)
theorem Fc.keep {w0 : World} {L H : Nat} {s : ByteArray} {i : Int} {X Y : World} (h : Fc w0 L next rule kind kinds an ar ak cn cr ck s i X) (hk : AX.Keep (Fb w0.heap.size L) H X Y) : Fc w0 L next rule kind kinds an ar ak cn cr ck s i Y := by
  have hb : ∀ k, k < w0.heap.size → Y.heap[k]? = X.heap[k]? := fun k hk0 => by
    have hlt : k < X.heap.size := Nat.lt_of_lt_of_le hk0 h.b.size
    rw [hk.same k X.heap[k] (Array.getElem?_eq_getElem hlt) (.inl (.inl hk0)), Array.getElem?_eq_getElem hlt]
  exact ⟨⟨hk.low.os.trans h.b.os, hk.low.tape.trans h.b.tape, hk.low.output.trans h.b.output, Nat.le_trans h.b.size hk.low.size, fun k hk0 => (hb k hk0).trans (h.b.block k hk0)⟩,
    hk.same _ _ h.l (.inl (.inr ⟨Nat.le_refl _, by omega⟩)), hk.same _ _ h.t (.inl (.inr ⟨by omega, by omega⟩)), hk.same _ _ h.a (.inl (.inr ⟨by omega, Nat.le_refl _⟩))⟩
theorem Fc.below {w0 : World} {L : Nat} {s : ByteArray} {i : Int} {X Y : World} (h : Fc w0 L next rule kind kinds an ar ak cn cr ck s i X) (hk : Below X.heap.size X Y) : Fc w0 L next rule kind kinds an ar ak cn cr ck s i Y := h.keep (H := 0) (AX.Keep.of_below hk)
set_option maxRecDepth 100000 in
set_option maxHeartbeats 1000000 in
/-- Each hands back a closure with three boxes. -/
theorem each_k (s : ByteArray) (i : Int) (w : World) :
    Calls Tryz.prog 26 #[lV an ar ak next.length rule.length kind.length cn cr ck kinds, .string s, .int .i64 i] w fun e w' => e = .returned (.func (.func 43) #[] #[.pointer (some ⟨w.heap.size, 0, none⟩), .pointer (some ⟨w.heap.size + 1, 0, none⟩), .pointer (some ⟨w.heap.size + 2, 0, none⟩)]) ∧
      Below w.heap.size w w' ∧ w'.heap.size = w.heap.size + 3 ∧ Fc w w.heap.size next rule kind kinds an ar ak cn cr ck s i w' := by
  unfold lV
  have b1 := Bx.new w 26 #[.slice an next.length cn, .slice ar rule.length cr, .slice ak kind.length ck, .int .i64 kinds]
  have b2 := Bx.new (w.alloc (.cells #[.slice an next.length cn, .slice ar rule.length cr, .slice ak kind.length ck, .int .i64 kinds] 26)) 9 #[.string s]
  have b3 := Bx.new ((w.alloc (.cells #[.slice an next.length cn, .slice ar rule.length cr, .slice ak kind.length ck, .int .i64 kinds] 26)).alloc (.cells #[.string s] 9)) 3 #[.int .i64 i]
  have hB : Below w.heap.size w (((w.alloc (.cells #[.slice an next.length cn, .slice ar rule.length cr, .slice ak kind.length ck, .int .i64 kinds] 26)).alloc (.cells #[.string s] 9)).alloc (.cells #[.int .i64 i] 3)) := (((Below.refl _ w).alloc (Nat.le_refl _) _).alloc (by simp) _).alloc (by simp; omega) _
  have hz : (((w.alloc (.cells #[.slice an next.length cn, .slice ar rule.length cr, .slice ak kind.length ck, .int .i64 kinds] 26)).alloc (.cells #[.string s] 9)).alloc (.cells #[.int .i64 i] 3)).heap.size = w.heap.size + 3 := by simp
  have b1 := (b1.alloc (.cells #[.string s] 9)).alloc (.cells #[.int .i64 i] 3)
  have b2 := b2.alloc (.cells #[.int .i64 i] 3)
  rw [World.size_alloc] at b2
  rw [World.size_alloc, World.size_alloc] at b3
  go_enter Tryz.func26, Tryz.ntmps26
  go_wp2_with fail
  go_ret
  exact ⟨rfl, hB, hz, ⟨hB, b1, b2, b3⟩⟩
theorem sz9 : AX.sizeT Tryz.prog 9 = some 1 := by kernel_rfl
/-- How far the place has come. -/
def leftBox (w : World) (A n : Nat) : Nat := match w.cell? ⟨A, 0, none⟩ with
  | some (.int _ q) => n + 1 - q.toNat
  | _ => 0
theorem leftBox_bx {w : World} {A n : Nat} {i : Int} (h : Bx w A 3 #[.int .i64 i]) : leftBox w A n = n + 1 - i.toNat := by
  unfold leftBox
  rw [show w.cell? ⟨A, 0, none⟩ = some (.int .i64 i) from h.cell 0]
set_option maxRecDepth 100000 in
set_option maxHeartbeats 4000000 in
theorem each1_in (n : Nat) (hn1 : 1 ≤ n) {w0 : World} {L : Nat} (hL : w0.heap.size ≤ L) (hn : next.length ≤ 1000000) (hr : rule.length ≤ 1000000) (hk : kind.length ≤ 1000000) (hN : IRow w0 an next) (hR : IRow w0 ar rule) (hK : IRow w0 ak kind) (s : ByteArray) (hs : s.size ≤ 1000)
    (hok : okL next rule kind kinds = true) (i0 : Nat) (hi0 : i0 ≤ s.size) (l : Nat) (J : Nat → List Tk → World → Prop) (Jx : List Tk → World → Prop) (hJ : ∀ H q X Y, J H q X → AX.But (L + 2) X Y → J H q Y) (hJm : ∀ H H' q X, J H q X → H ≤ H' → J H' q X)
    (hY : ∀ (pre : List Tk) (x : Tk) (H : Nat) (W : World), J H pre W → H ≤ W.heap.size → (∃ rest, rowV next rule kind (sb s) i0 = pre ++ x :: rest) → YieldAt Fence.wide (n - 1) Tryz.prog l #[tkV x] W fun e W' =>
      (e = .returned (.bool true) ∧ J W'.heap.size (pre ++ [x]) W' ∧ AX.Keep (Fb w0.heap.size L) H W W') ∨ (e = .returned (.bool false) ∧ Jx (pre ++ [x]) W'))
    (W : World) (hS : Fc w0 L next rule kind kinds an ar ak cn cr ck s i0 W) (h0 : J W.heap.size [] W) :
    CallsIn Fence.wide n Tryz.prog 43 #[.func (.yield l) #[] #[], .pointer (some ⟨L, 0, none⟩), .pointer (some ⟨L + 1, 0, none⟩), .pointer (some ⟨L + 2, 0, none⟩)] W fun e W' => (∃ v, e = .returned v) ∧
      ((∃ H xs, xs = rowV next rule kind (sb s) i0 ∧ J H xs W') ∨ (∃ pre, (∃ rest, rowV next rule kind (sb s) i0 = pre ++ rest) ∧ Jx pre W')) := by
  have hF := fits_of hok
  have hmy := fun W (hb : Below w0.heap.size w0 W) => may_k (cn := cn) (cr := cr) (ck := ck) (kinds := kinds) hn hr hk (hN.below hb (Nat.le_refl _)) (hR.below hb (Nat.le_refl _)) (hK.below hb (Nat.le_refl _)) s (i0 : Int) (by omega)
  have hnx := fun (a : Nat) (ha : a ≤ s.size) W (hb : Below w0.heap.size w0 W) => next_k (cn := cn) (cr := cr) (ck := ck) (hN.below hb (Nat.le_refl _)) (hR.below hb (Nat.le_refl _)) (hK.below hb (Nat.le_refl _)) hok s a ha (by omega)
  have hm0 : mayV next rule kind kinds s (i0 : Int) = 0 := by unfold mayV; rw [if_pos ⟨hok, by omega, by omega⟩]
  rw [hm0] at hmy
  have h22 := (callsIn_wide (n := n - 1)).2 (hmy W hS.b)
  have hbt := fun (i : Nat) (h : i ≤ s.size) => tok_bd hF (sb_lt s) (i := i) (by rw [sb_len]; exact h)
  have hln := fun (i : Nat) (h : i ≤ s.size) => rowV_len hF (sb_lt s) _ i (Nat.le_refl _) (by rw [sb_len]; exact h)
  have hre := fun (i : Nat) (h : i ≤ s.size) => rowV_eq hF (sb_lt s) (i := i) (by rw [sb_len]; exact h)
  simp only [sb_len] at hbt hln
  unfold lV tkV at *
  clear hm0 hN hR hK hmy
  have c1 := hS.l.cell 0; have c2 := hS.l.cell 1; have c3 := hS.l.cell 2; have c4 := hS.l.cell 3; have c5 := hS.t.cell 0; have c6 := hS.a.cell 0
  refine callsIn_of_wp Tryz.func43 rfl trivial ?_ rfl
  simp only [Tryz.ntmps43, List.size_toArray, List.length_cons, List.length_nil, Nat.reduceAdd, Nat.reduceSub, Array.replicate_succ, Array.replicate_zero, List.push_toArray, List.append_toArray, List.nil_append, List.cons_append]
  have hf22 : Fence.wide.fn 22 := trivial
  have hf23 : Fence.wide.fn 23 := trivial
  have HM := Lib.hid (show ([] : List Tk) ++ rowV next rule kind (sb s) i0 = rowV next rule kind (sb s) i0 from rfl)
  gi_wp2_with (gi_at_call 22; ((with_reducible refine h22.mono ?_); rintro e W1 ⟨rfl, hb1⟩; have hS1 := hS.below hb1; have hJ1 := hJm _ _ _ _ (hJ _ _ _ _ h0 (AX.But.of_below hb1)) hb1.size; clear h0 hS c1 c2 c3 c4 c5 c6))
  gi_loopw [] (fun wr => ∃ (pre : List Tk) (i : Nat), i ≤ s.size ∧ Hid (pre ++ rowV next rule kind (sb s) i = rowV next rule kind (sb s) i0) ∧ Fc w0 L next rule kind kinds an ar ak cn cr ck s i wr ∧ J wr.heap.size pre wr) (fun wr => leftBox wr (L + 2) s.size)
  case atStart => exact ⟨[], i0, hi0, HM, hS1, hJ1⟩
  case round =>
    obtain ⟨pre, i, hi, HE, hSr, hJr⟩ := hrel
    have c1 := hSr.l.cell 0; have c2 := hSr.l.cell 1; have c3 := hSr.l.cell 2; have c4 := hSr.l.cell 3; have c5 := hSr.t.cell 0; have c6 := hSr.a.cell 0
    rw [leftBox_bx hSr.a]
    clear hS1 hJ1 HM h22
    have h23 := (callsIn_wide (n := n - 1)).2 (hnx i hi wr hSr.b)
    have hre0 := hre i hi
    have hbi := hbt i hi
    obtain ⟨t, ht⟩ : ∃ t, t = tokV next rule kind (sb s) i := ⟨_, rfl⟩
    rw [← ht] at h23 hre0 hbi
    have HLEN : Hid (∃ rest, rowV next rule kind (sb s) i0 = pre ++ t :: rest) := Lib.hid (by rw [← HE.out, hre0]; split <;> exact ⟨_, rfl⟩)
    have HRE := Lib.hid hre0
    obtain ⟨b1, b2, b3, b4, b5, b6, b7, b8⟩ := hbi
    clear ht hre0 b1
    gi_wp2_with (first
      | (gi_at_call 23; ((with_reducible refine h23.mono ?_); rintro e W1 ⟨rfl, hb1⟩; have hT0 := Bx.new W1 30 #[.int .i64 0, .int .i64 0, .int .i64 0, .int .i64 0, .int .i64 0]; have hB1 := hb1.alloc hb1.size (.cells #[.int .i64 0, .int .i64 0, .int .i64 0, .int .i64 0, .int .i64 0] 30); have hsz1 := hb1.size))
      | ((with_reducible refine st_in ?_); refine AX.wpListIn_storeBox (vs := [.int .i64 t.k, .int .i64 t.f, .int .i64 t.a, .int .i64 t.t, .int .i64 t.e]) rfl rfl sz30 hT0 rfl rfl ?_; rintro W3 h3 h4 h5; have hT3 : Bx W3 W1.heap.size 30 #[.int .i64 t.k, .int .i64 t.f, .int .i64 t.a, .int .i64 t.t, .int .i64 t.e] := h3; have hB3 := hB1.trans (AX.below_turn hsz1 (.inl hT3.lt) h4 h5); have hS3 := hSr.below hB3; have hJ3 := hJ _ _ _ _ hJr (AX.But.of_below hB3); obtain ⟨x0, x1, x2, x3, x4⟩ := Bx.five hT3; obtain ⟨fn, tmps, assign, body, hy, hR⟩ := hY pre t wr.heap.size W3 hJ3 hB3.size HLEN.out; clear h3 h4 h5 hT0 c1 c2 c3 c4 c5 c6))
    refine hR.mono ?_
    rintro e W4 (⟨rfl, hJ4, hK4⟩ | ⟨rfl, hJx4⟩)
    · have hS4 := hS3.keep hK4
      have hT4 : Bx W4 W1.heap.size 30 #[.int .i64 t.k, .int .i64 t.f, .int .i64 t.a, .int .i64 t.t, .int .i64 t.e] := hK4.same _ _ hT3 (.inr ⟨hsz1, rfl⟩)
      clear hy hR x0 x1 x2 x3 x4
      obtain ⟨x0, x1, x2, x3, x4⟩ := Bx.five hT4
      by_cases hk : t.k = -2
      · have q1 : (t.k == -2) = true := by rw [hk]; rfl
        have hE : pre ++ [t] = rowV next rule kind (sb s) i0 := by rw [← HE.out, HRE.out, if_pos hk]
        have HF := Lib.hid hE
        clear hE hk
        gi_wp2
        refine bodyPost_ret (results_none rfl _ _ _) rfl ?_
        exact ⟨⟨_, rfl⟩, .inl ⟨_, _, HF.out, hJ4⟩⟩
      · have q1 : (t.k == -2) = false := by simp [hk]
        have hE : (pre ++ [t]) ++ rowV next rule kind (sb s) t.t = rowV next rule kind (sb s) i0 := by rw [← HE.out, HRE.out, if_neg hk, List.append_assoc]; rfl
        have h8 := b8 hk
        have HF := Lib.hid hE
        clear hE hk
        gi_wp2_with ((with_reducible refine st_in ?_); refine AX.wpListIn_storeCell (o := 0) (v := .int .i64 t.t) rfl rfl rfl sz3 hS4.a (show 0 < 1 by decide) ?_; rintro W5 h3 h4 h5; have hA5 : Bx W5 (L + 2) 3 #[.int .i64 t.t] := h3; have hbt5 : Below (L + 2) W4 W5 := AX.below_turn (Nat.le_refl _) (.inl hA5.lt) h4 h5; have hbut : AX.But (L + 2) W4 W5 := ⟨hbt5.mono (Nat.zero_le _), fun k _ hne => h4 k hne⟩; have hS5 : Fc w0 L next rule kind kinds an ar ak cn cr ck s t.t W5 := ⟨hS4.b.trans (hbt5.mono (by omega)), hS4.l.turn (by omega) h4, hS4.t.turn (by omega) h4, hA5⟩; have hJ5 := hJm _ _ _ _ (hJ _ _ _ _ hJ4 hbut) hbut.low.size; clear h3 h4 h5)
        refine ⟨⟨_, _, by omega, HF, hS5, hJ5⟩, ?_⟩
        rw [leftBox_bx hS5.a]
        simp only [Int.toNat_natCast]
        omega
    · have hE : ∃ rest, rowV next rule kind (sb s) i0 = (pre ++ [t]) ++ rest := by
        rw [← HE.out, HRE.out]
        split
        · exact ⟨[], by simp⟩
        · exact ⟨_, by rw [List.append_assoc]; rfl⟩
      have HF := Lib.hid hE
      clear hE hy hR
      gi_wp2
      refine bodyPost_ret (results_none rfl _ _ _) rfl ?_
      exact ⟨⟨_, rfl⟩, .inr ⟨_, HF.out, hJx4⟩⟩
end
end Go.Proofs.YtefjfbhffmkikaaGreatDoor

namespace Go.Proofs.YtefjfbhffmkikaaGreatDoor
open Go Go.Proofs Go.RowKit
attribute [local go_sem] Oper.semAt_some
/-- A row of tokens appended to, inside a fence. -/
theorem append_tIn {F : Fence} {n : Nat} {ops : Array Oper} {rest : List Oper} {o : Oper} {a : Act} {Q : Exit → Act → World → Prop} (W : World) (base : Nat) (v : Value) (pre : List Tk) (y : Tk) (hgd : o.guard = none) (s x : Operand)
    (ho : o.op = .call { callee := .builtin .append, args := #[s, x], argTypes := #[34, 34] }) (hs : a.eval s = v) (hown : TRow W base v pre) (ad : Addr) (hx : a.eval x = .slice (some ad) 1 1)
    (hc : ∀ j u, (encT y)[j]? = some u → W.cell? (ad.add j) = some u) (hl : pre.length ≤ 1000000) (hb : base ≤ W.heap.size)
    (h : ∀ v' w', TRow w' base v' (pre ++ [y]) → W.grownBy w' v.ownBlock → wpListIn F n Tryz.prog ops Q rest (a.put o.dst v') w') : wpListIn F n Tryz.prog ops Q (o :: rest) a W := by
  obtain ⟨ti, hi, hz0, hz1, hz2⟩ := info_parts info30
  refine wpListIn_append_own W hgd s x 34 ho base 30 ti (.agg #[.int .i64 0, .int .i64 0, .int .i64 0, .int .i64 0, .int .i64 0]) 5 40 Tryz.underlying34 hi hz0 hz1 hz2 rfl (by decide) v pre.length _ hs hown ad 1 1 (encT y) hx rfl hc (encT_one y) (by unfold maxLen; omega) (by omega) hb ?_
  intro v' w' h1 h2 _
  refine h v' w' ?_ h2
  unfold TRow
  rw [tflat_one, List.length_append, List.length_singleton]
  exact h1
/-- A row in memory, its block below H. -/
def TRowH (H : Nat) (w : World) (base : Nat) (v : Value) (l : List Tk) : Prop := TRow w base v l ∧ ∀ g, v.ownBlock = some g → g < H
theorem TRowH.lets {A B H base : Nat} {X Y : World} {v : Value} {l : List Tk} (h : TRowH H X base v l) (hA : A < base) (hl : AX.Lets A B X Y) : TRowH H Y base v l := by
  refine ⟨⟨h.1.1, ?_⟩, h.2⟩
  rcases h.1.2 with hn | ⟨g, cap, cur, rfl, hg, hh, rest⟩
  · exact .inl hn
  · exact .inr ⟨g, cap, cur, rfl, hg, hl.same g _ hh (by omega) (.inr rfl), rest⟩
theorem Bx.lets {A B : Nat} {X Y : World} {b : Nat} {t : TypeId} {cs : Array Value} (h : Bx X b t cs) (hA : b ≠ A) (hl : AX.Lets A B X Y) : Bx Y b t cs := hl.same b _ h hA (.inr rfl)
theorem But.lets' {A B : Nat} {w X Y : World} (h : AX.But A w X) (hB : w.heap.size ≤ B) (hl : AX.Lets A B X Y) : AX.But A w Y :=
  ⟨h.low.trans hl.low, fun k hk hA => by
    have h1 := h.same k hk hA
    have hlt : k < X.heap.size := Nat.lt_of_lt_of_le hk h.low.size
    rw [← h1, hl.same k X.heap[k] (Array.getElem?_eq_getElem hlt) hA (.inl (by omega)), Array.getElem?_eq_getElem hlt]⟩
theorem row_shape {w : World} {base : Nat} {e : TypeId} {size : Nat} {v : Value} {n : Nat} {xs : List Value} (h : w.ownsRow base e size v n xs) : ∃ a c, v = .slice a n c := by
  rcases h.2 with ⟨rfl, rfl⟩ | ⟨g, cap, cur, rfl, _⟩
  · exact ⟨_, _, rfl⟩
  · exact ⟨_, _, rfl⟩
/-- What an append to the row in a box comes to: all the loop asks. -/
theorem appended {P : Nat → Prop} {H n₀ b : Nat} {W w1 w2 : World} {v v' : Value} {l l' : List Tk} {tmp : Obj} (_hH : H ≤ W.heap.size) (hv : Bx W b 34 #[v]) (hrow : TRowH H W n₀ v l) (hb : b < n₀) (hbH : b < H) (hnP : ∀ k, b ≤ k → ¬ P k)
    (hown : TRow w1 n₀ v' l') (hg : (W.alloc tmp).grownBy w1 v.ownBlock) (h3 : Bx w2 b 34 #[v']) (h4 : ∀ k, k ≠ b → w2.heap[k]? = w1.heap[k]?) (h5 : AX.Same w1 w2) (B : Nat) :
    TRowH w2.heap.size w2 n₀ v' l' ∧ AX.Keep P H W w2 ∧ KeepsFrom B W w2 ∧ Below b W w2 := by
  have hlow1 : Below b (W.alloc tmp) w1 := (Below.refl b _).grown hg (by have := hv.lt; simp; omega) fun j ej => by
    rcases hrow.1.2 with ⟨rfl, _⟩ | ⟨g, cap, cur, rfl, hge, _, _⟩
    · simp [Value.ownBlock] at ej
    · obtain rfl : g = j := by simpa [Value.ownBlock] using ej
      omega
  have hlow2 : Below b w1 w2 := AX.below_turn (Nat.le_refl _) (.inl h3.lt) h4 h5
  have hal : Below W.heap.size W (W.alloc tmp) := (Below.refl _ W).alloc (Nat.le_refl _) _
  have hlow : Below b W w2 := ((hal.mono (Nat.le_of_lt hv.lt)).trans hlow1).trans hlow2
  have hrow2 : TRow w2 n₀ v' l' := by
    refine ⟨hown.1, ?_⟩
    rcases hown.2 with hn | ⟨g, cap, cur, rfl, hge, hh, rest⟩
    · exact .inl hn
    · exact .inr ⟨g, cap, cur, rfl, hge, (h4 g (by omega)).trans hh, rest⟩
  -- a block other than the box and the row's own lies as it lay
  have same : ∀ k o, W.heap[k]? = some o → k ≠ b → (∀ g, v.ownBlock = some g → k ≠ g) → w2.heap[k]? = some o := fun k o hk hkb hkg => by
    have hlt := (Array.getElem?_eq_some_iff.1 hk).1
    refine (h4 k hkb).trans ((hg.block k (by simp; omega) (fun e => hkg k e.symm rfl)).trans ((hal.block k hlt).trans hk))
  refine ⟨⟨hrow2, fun g e => (hrow2.lt g e).2⟩, ⟨hlow.mono (Nat.zero_le _), fun k o hk hu => ?_⟩, ⟨hlow.size, fun k o _ hk ho => ?_⟩, hlow⟩
  · rcases hu with hp | ⟨hkH, _⟩
    · have hkb : k < b := Nat.lt_of_not_le fun h => hnP k h hp
      exact (hlow.block k hkb).trans hk
    · exact same k o hk (by omega) fun g e => by have := hrow.2 g e; omega
  · refine same k o hk (fun e => ?_) fun g e => ?_
    · subst e; rw [show W.heap[k]? = _ from hv] at hk; cases hk; cases ho
    · intro e2
      subst e2
      rcases hrow.1.2 with ⟨rfl, _⟩ | ⟨g', cap, cur, rfl, hge, hh, _⟩
      · simp [Value.ownBlock] at e
      · obtain rfl : g' = k := by simpa [Value.ownBlock] using e
        rw [hh] at hk; cases hk; cases ho
end Go.Proofs.YtefjfbhffmkikaaGreatDoor

namespace Go.Proofs.YtefjfbhffmkikaaGreatDoor
open Go Go.Proofs Go.RowKit
attribute [local go_sem] Oper.semAt_some
section
variable {next rule kind : List Int} {kinds : Int} {an ar ak : Option Addr} {cn cr ck : Nat}
theorem sz34 : AX.sizeT Tryz.prog 34 = some 1 := by kernel_rfl
theorem box_kept {W w1 : World} {b n₀ : Nat} {v u : Value} {l : List Tk} {tmp : Obj} {t : TypeId} (hv : Bx W b t #[u]) (hrow : TRow W n₀ v l) (hb : b < n₀) (hg : (W.alloc tmp).grownBy w1 v.ownBlock) : Bx w1 b t #[u] := by
  refine (hg.block b (by have := hv.lt; simp; omega) fun e => ?_).trans (hv.alloc tmp)
  have := (hrow.lt b e.symm).1
  omega
theorem But.snoc {A n : Nat} {w X Y : World} (h : AX.But A w X) (hn : w.heap.size ≤ n) (k : Below n X Y) : AX.But A w Y :=
  ⟨h.low.trans (k.mono (Nat.zero_le _)), fun i hi hA => (k.block i (by omega)).trans (h.same i hi hA)⟩
set_option maxRecDepth 100000 in
set_option maxHeartbeats 4000000 in
theorem appendSeq_in (n : Nat) (hn3 : 3 ≤ n) {w0 : World} {L : Nat} (hL : w0.heap.size ≤ L) (hn : next.length ≤ 1000000) (hr : rule.length ≤ 1000000) (hk : kind.length ≤ 1000000) (hN : IRow w0 an next) (hR : IRow w0 ar rule) (hK : IRow w0 ak kind) (s : ByteArray) (hs : s.size ≤ 1000)
    (hok : okL next rule kind kinds = true) (i0 : Nat) (hi0 : i0 ≤ s.size) (w : World) (hLw : L + 2 < w.heap.size) (hS : Fc w0 L next rule kind kinds an ar ak cn cr ck s i0 w) :
    CallsIn Fence.wide n Tryz.prog 42 #[.slice none 0 0, .func (.func 43) #[] #[.pointer (some ⟨L, 0, none⟩), .pointer (some ⟨L + 1, 0, none⟩), .pointer (some ⟨L + 2, 0, none⟩)]] w fun e w' => (∃ v, e = .returned v ∧ TRow w' w.heap.size v (rowV next rule kind (sb s) i0)) ∧ AX.But (L + 2) w w' := by
  have h1 : 1 ≤ n := by omega
  refine callsIn_of_wp_marks Tryz.func42 rfl trivial ?_ rfl
  simp only [Tryz.ntmps42, List.size_toArray, List.length_cons, List.length_nil, Nat.reduceAdd, Nat.reduceSub, Array.replicate_succ, Array.replicate_zero, List.push_toArray, List.append_toArray, List.nil_append, List.cons_append]
  gi_wp2
  have bO := Bx.new w 34 #[.slice none 0 0]
  have hB0 : Below w.heap.size w (w.alloc (.cells #[.slice none 0 0] 34)) := (Below.refl _ w).alloc (Nat.le_refl _) _
  have hS0 := hS.below hB0
  have hz : (w.alloc (.cells #[.slice none 0 0] 34)).heap.size = w.heap.size + 1 := by simp
  generalize w.alloc (.cells #[.slice none 0 0] 34) = V at *
  have hLb : ∀ (pre : List Tk) x, (∃ rest, rowV next rule kind (sb s) i0 = pre ++ x :: rest) → pre.length ≤ 1000000 := fun pre x ⟨rest, e⟩ => by
    have := rowV_len (fits_of hok) (sb_lt s) _ i0 (Nat.le_refl _) (by rw [sb_len]; exact hi0)
    rw [sb_len, e, List.length_append] at this
    omega
  refine AX.range_but (A := L + 2) (B := Fb w0.heap.size L) (Pp := fun pre x => ∃ rest, rowV next rule kind (sb s) i0 = pre ++ x :: rest) (encs := fun x : Tk => #[tkV x]) (S := fun xs => xs = rowV next rule kind (sb s) i0) (Sp := fun pre => ∃ rest, rowV next rule kind (sb s) i0 = pre ++ rest) rfl h1 (gf := 43) (lb := #[.pointer (some ⟨L, 0, none⟩), .pointer (some ⟨L + 1, 0, none⟩), .pointer (some ⟨L + 2, 0, none⟩)]) rfl trivial (enters_of Tryz.func43 (by kernel_rfl) rfl) (by omega) (fun _ => rfl)
    (fun k h => by rcases h with h | h <;> omega) ?seq
    (fun H pre W => (∃ v, Bx W w.heap.size 34 #[v] ∧ TRowH H W (w.heap.size + 1) v pre ∧ w.heap.size < H) ∧ AX.But (L + 2) w W) (fun _ _ _ => False) ?hI ?hIm (fun _ _ _ _ h _ => h)
    ⟨⟨_, bO, ⟨World.ownsRow_nil _ _ _ _, fun g e => by cases e⟩, by omega⟩, AX.But.of_below hB0⟩
    (fun x a' W => ∃ T, w.heap.size < T ∧ Bx W T 30 #[.int .i64 x.k, .int .i64 x.f, .int .i64 x.a, .int .i64 x.t, .int .i64 x.e] ∧ a' = { tmps := #[.slice none 0 0, .func (.func 43) #[] #[.pointer (some ⟨L, 0, none⟩), .pointer (some ⟨L + 1, 0, none⟩), .pointer (some ⟨L + 2, 0, none⟩)], .pointer (some ⟨w.heap.size, 0, none⟩), undef, .slice none 0 0, .pointer (some ⟨T, 0, none⟩), .func (.func 43) #[] #[.pointer (some ⟨L, 0, none⟩), .pointer (some ⟨L + 1, 0, none⟩), .pointer (some ⟨L + 2, 0, none⟩)], tkV x, undef, undef, undef, undef, undef], defers := [] }) ?hAx ?assign ?body ?done ?stop
  case seq =>
    intro l J Jx W hW hJ hJm hJx hY h0
    exact each1_in (n - 1) (by omega) hL hn hr hk hN hR hK s hs hok i0 hi0 l J Jx hJ hJm hY W (hS0.below hW) h0
  case hI =>
    rintro H q X Y ⟨⟨v, hv, hrow, hH⟩, hB⟩ hl
    exact ⟨⟨v, hv.lets (by omega) hl, hrow.lets (by omega) hl, hH⟩, But.lets' hB (by omega) hl⟩
  case hIm =>
    rintro H H' q X ⟨⟨v, hv, hrow, hH⟩, hB⟩ hl
    exact ⟨⟨v, hv, ⟨hrow.1, fun g e => Nat.lt_of_lt_of_le (hrow.2 g e) hl⟩, Nat.lt_of_lt_of_le hH hl⟩, hB⟩
  case hAx =>
    rintro x a' X Y ⟨T, hT, hX, ha⟩ hl
    exact ⟨T, hT, hX.lets (by omega) hl, ha⟩
  case assign =>
    rintro l pre x H W K ⟨⟨v, hv, hrow, hH⟩, hB⟩ hHW hK
    have hT0 := Bx.new W 30 #[.int .i64 0, .int .i64 0, .int .i64 0, .int .i64 0, .int .i64 0]
    have hlt := hv.lt
    have hA0 : Below W.heap.size W (W.alloc (.cells #[.int .i64 0, .int .i64 0, .int .i64 0, .int .i64 0, .int .i64 0] 30)) := (Below.refl _ W).alloc (Nat.le_refl _) _
    gi_wp2_with ((with_reducible refine st_in ?_); refine AX.wpListIn_storeBox (vs := [.int .i64 x.k, .int .i64 x.f, .int .i64 x.a, .int .i64 x.t, .int .i64 x.e]) rfl rfl sz30 hT0 rfl rfl ?_; rintro W3 h3 h4 h5)
    have hX3 : Bx W3 W.heap.size 30 #[.int .i64 x.k, .int .i64 x.f, .int .i64 x.a, .int .i64 x.t, .int .i64 x.e] := h3
    have hB3 := hA0.trans (AX.below_turn (Nat.le_refl _) (.inl hX3.lt) h4 h5)
    have hl3 := (AX.But.of_below (A := L + 2) hB3).lets V.heap.size
    exact hK _ W3 ⟨hB3.size, fun k o _ hk _ => (hB3.block k (Array.getElem?_eq_some_iff.1 hk).1).trans hk⟩ (AX.Keep.of_below hB3) ⟨⟨v, hv.lets (by omega) hl3, hrow.lets (by omega) hl3, hH⟩, But.lets' hB (by omega) hl3⟩ ⟨W.heap.size, hlt, hX3, rfl⟩
  case body =>
    rintro l pre x a' H W ⟨⟨v, hv, hrow, hH⟩, hB⟩ hHW ⟨T, hT, hX, rfl⟩ hPp
    have hlt := hLb _ _ hPp
    clear hPp hLb
    have hc : W.cell? ⟨w.heap.size, 0, none⟩ = some v := hv.cell 0
    have hvl := hv.lt
    obtain ⟨x0, x1, x2, x3, x4⟩ := Bx.five hX
    gi_wp2_with (first
      | (gi_at_builtin; refine append_tIn _ (w.heap.size + 1) _ pre x rfl _ _ rfl rfl (hrow.1.alloc (.cells #[.int .i64 x.k, .int .i64 x.f, .int .i64 x.a, .int .i64 x.t, .int .i64 x.e] 30)) ⟨W.heap.size, 0, none⟩ rfl (tcells_new W x) (by omega) (by simp; omega) ?_; intro v' w1 hown hg; have hv1 := box_kept hv hrow.1 (Nat.lt_succ_self _) hg; obtain ⟨aa, cc, rfl⟩ := row_shape hown)
      | ((with_reducible refine st_in ?_); refine AX.wpListIn_storeCell (o := 0) (v := .slice aa (pre ++ [x]).length cc) rfl rfl rfl sz34 hv1 (show 0 < 1 by decide) ?_; rintro w2 h3 h4 h5))
    have h3' : Bx w2 w.heap.size 34 #[.slice aa (pre ++ [x]).length cc] := h3
    obtain ⟨r1, r2, r3, r4⟩ := appended (P := Fb w0.heap.size L) hHW hv hrow (Nat.lt_succ_self _) hH (fun k hk h => by rcases h with h | h <;> omega) hown hg h3' h4 h5 V.heap.size
    exact ⟨r3, r2, ⟨_, h3', r1, by have := h3'.lt; omega⟩, But.snoc hB (Nat.le_refl _) r4⟩
  case done =>
    rintro D H ys W hD rfl ⟨⟨v, hv, hrow, hH⟩, hB⟩ hK
    have hc : W.cell? ⟨w.heap.size, 0, none⟩ = some v := hv.cell 0
    gi_wp2
    refine ⟨by simp, .inl ⟨_, _, rfl, run_takeDeferred hK, ?_⟩⟩
    have hl := AX.Lets.put (A := L + 2) (B := w.heap.size) (.deferred none) hK rfl (by omega)
    exact ⟨_, results_tmp rfl _ _ _, ⟨v, rfl, row_base (hrow.lets (by omega) hl).1 (Nat.le_succ _)⟩, But.lets' hB (Nat.le_refl _) hl⟩
  case stop =>
    rintro D c pre W _ _ h _
    exact h.elim
set_option maxHeartbeats 1000000 in
theorem collect_in (n : Nat) (hn4 : 4 ≤ n) {w0 : World} {L : Nat} (hL : w0.heap.size ≤ L) (hn : next.length ≤ 1000000) (hr : rule.length ≤ 1000000) (hk : kind.length ≤ 1000000) (hN : IRow w0 an next) (hR : IRow w0 ar rule) (hK : IRow w0 ak kind) (s : ByteArray) (hs : s.size ≤ 1000)
    (hok : okL next rule kind kinds = true) (i0 : Nat) (hi0 : i0 ≤ s.size) (w : World) (hLw : L + 2 < w.heap.size) (hS : Fc w0 L next rule kind kinds an ar ak cn cr ck s i0 w) :
    Calls Tryz.prog 25 #[.func (.func 43) #[] #[.pointer (some ⟨L, 0, none⟩), .pointer (some ⟨L + 1, 0, none⟩), .pointer (some ⟨L + 2, 0, none⟩)]] w fun e w' => (∃ v, e = .returned v ∧ TRow w' w.heap.size v (rowV next rule kind (sb s) i0)) ∧ AX.But (L + 2) w w' := by
  have h42 := callsIn_wide.1 (appendSeq_in (n - 1) (by omega) hL hn hr hk hN hR hK s hs hok i0 hi0 w hLw hS)
  go_enter Tryz.func25, Tryz.ntmps25
  go_wp2_with (go_at_call 42; ((with_reducible refine h42.mono ?_); rintro e w' ⟨⟨v, rfl, hv⟩, hB⟩))
  go_ret
  exact ⟨⟨v, rfl, hv⟩, hB⟩
end
end Go.Proofs.YtefjfbhffmkikaaGreatDoor

namespace Go.Proofs.YtefjfbhffmkikaaGreatDoor
open Go Go.Proofs Go.RowKit
attribute [local go_sem] Oper.semAt_some
section
variable {next rule kind : List Int} {kinds : Int} {an ar ak : Option Addr} {cn cr ck : Nat} {w : World}
set_option maxRecDepth 100000 in
set_option maxHeartbeats 4000000 in
theorem all_in (hn : next.length ≤ 1000000) (hr : rule.length ≤ 1000000) (hk : kind.length ≤ 1000000) (hN : IRow w an next) (hR : IRow w ar rule) (hK : IRow w ak kind) (s : ByteArray) (hs : s.size ≤ 1000) (hok : okL next rule kind kinds = true) :
    Calls Tryz.prog 8 #[lV an ar ak next.length rule.length kind.length cn cr ck kinds, .string s] w fun e w' => (∃ v, e = .returned (.tuple #[v, .int .i64 0]) ∧ TRow w' w.heap.size v (rowV next rule kind (sb s) 0)) ∧ Below w.heap.size w w' := by
  have hck := fun W (hb : Below w.heap.size w W) => lcheck_k next rule kind kinds hn hr hk an ar ak cn cr ck W (hN.below hb (Nat.le_refl _)) (hR.below hb (Nat.le_refl _)) (hK.below hb (Nat.le_refl _))
  have hE := fun W => each_k (next := next) (rule := rule) (kind := kind) (kinds := kinds) (an := an) (ar := ar) (ak := ak) (cn := cn) (cr := cr) (ck := ck) s 0 W
  have hC := fun W1 (hb : Below w.heap.size w W1) W2 h1 (hS : Fc W1 W1.heap.size next rule kind kinds an ar ak cn cr ck s 0 W2) => collect_in 9 (by omega) (Nat.le_refl _) hn hr hk (hN.below hb (Nat.le_refl _)) (hR.below hb (Nat.le_refl _)) (hK.below hb (Nat.le_refl _)) s hs hok 0 (Nat.zero_le _) W2 h1 hS
  have hB := (Below.refl w.heap.size w).alloc (Nat.le_refl _) (.cells #[.slice an next.length cn, .slice ar rule.length cr, .slice ak kind.length ck, .int .i64 kinds] 26)
  have hD : Bx (w.alloc (.cells #[.slice an next.length cn, .slice ar rule.length cr, .slice ak kind.length ck, .int .i64 kinds] 26)) w.heap.size 26 #[.slice an next.length cn, .slice ar rule.length cr, .slice ak kind.length ck, .int .i64 kinds] := Bx.new _ _ _
  unfold lV at *
  unfold checkL at hck
  clear hN hR hK
  simp only [hok, if_true] at hck
  have h15 := hck _ hB
  clear hck
  go_enter Tryz.func8, Tryz.ntmps8
  go_wp2_with fail
  generalize w.alloc (.cells #[.slice an next.length cn, .slice ar rule.length cr, .slice ak kind.length ck, .int .i64 kinds] 26) = W0 at *
  have hw0 := hD.lt
  go_wp2_with (first
    | (go_at_call 15; ((with_reducible refine h15.mono ?_); rintro e W1 ⟨rfl, hb1⟩; have hB1 := hB.trans (hb1.mono (Nat.le_of_lt hw0)); have hD1 := hD.below hb1 hw0; have d0 := hD1.cell 0; have d1 := hD1.cell 1; have d2 := hD1.cell 2; have d3 := hD1.cell 3; have hs1 := hB1.size))
    | (go_at_call 26; ((with_reducible refine (hE _).mono ?_); rintro e W2 ⟨rfl, hb2, hz2, hS2⟩))
    | (go_at_call 25; ((with_reducible refine (hC _ hB1 W2 (by omega) hS2).mono ?_); rintro e W3 ⟨⟨v, rfl, hv⟩, hbut⟩; have hB3 := (hB1.trans (hb2.mono hs1)).trans (hbut.below (n := w.heap.size) (by omega) (by omega)))))
  exact bodyPost_ret (v := .tuple #[v, .int .i64 0]) (by simp [results, Tryz.results8, go_sem]) rfl ⟨⟨v, rfl, row_base hv (by omega)⟩, hB3⟩
set_option maxRecDepth 100000 in
set_option maxHeartbeats 4000000 in
theorem all_out (hn : next.length ≤ 1000000) (hr : rule.length ≤ 1000000) (hk : kind.length ≤ 1000000) (hN : IRow w an next) (hR : IRow w ar rule) (hK : IRow w ak kind) (s : ByteArray) (hok : ¬ okL next rule kind kinds = true) :
    Calls Tryz.prog 8 #[lV an ar ak next.length rule.length kind.length cn cr ck kinds, .string s] w fun e w' => e = .returned (.tuple #[.slice none 0 0, .int .i64 2]) ∧ Below w.heap.size w w' := by
  have hck := fun W (hb : Below w.heap.size w W) => lcheck_k next rule kind kinds hn hr hk an ar ak cn cr ck W (hN.below hb (Nat.le_refl _)) (hR.below hb (Nat.le_refl _)) (hK.below hb (Nat.le_refl _))
  have hB := (Below.refl w.heap.size w).alloc (Nat.le_refl _) (.cells #[.slice an next.length cn, .slice ar rule.length cr, .slice ak kind.length ck, .int .i64 kinds] 26)
  unfold lV at *
  unfold checkL at hck
  clear hN hR hK
  simp only [hok, Bool.false_eq_true, if_false] at hck
  have h15 := hck _ hB
  have hs0 := hB.size
  clear hck hok
  go_enter Tryz.func8, Tryz.ntmps8
  go_wp2_with (go_at_call 15; ((with_reducible refine h15.mono ?_); rintro e W1 ⟨rfl, hb1⟩; have hB1 := hB.trans (hb1.mono hs0)))
  exact bodyPost_ret (v := .tuple #[.slice none 0 0, .int .i64 2]) (by simp [results, Tryz.results8, go_sem]) rfl ⟨rfl, hB1⟩
end
end Go.Proofs.YtefjfbhffmkikaaGreatDoor

namespace Go.Proofs.YtefjfbhffmkikaaGreatDoor
open Go Go.Proofs Go.RowKit
attribute [local go_sem] Oper.semAt_some
section
variable {next rule kind : List Int} {kinds : Int} {an ar ak : Option Addr} {cn cr ck : Nat}
theorem sz4 : AX.sizeT Tryz.prog 4 = some 1 := by kernel_rfl
theorem seq_some (W : World) (L : Nat) : (binOp .eql 55 (.func (.func 43) #[] #[.pointer (some ⟨L, 0, none⟩), .pointer (some ⟨L + 1, 0, none⟩), .pointer (some ⟨L + 2, 0, none⟩)]) .nilFunc).run Tryz.prog W = .ok (.bool false) W := by kernel_rfl
theorem TRow.turn {W W' : World} {b base : Nat} {v : Value} {l : List Tk} (h : TRow W base v l) (h4 : ∀ k, k ≠ b → W'.heap[k]? = W.heap[k]?) (hb : b < base) : TRow W' base v l := by
  refine ⟨h.1, ?_⟩
  rcases h.2 with hn | ⟨g, cap, cur, rfl, hg, hh, rest⟩
  · exact .inl hn
  · exact .inr ⟨g, cap, cur, rfl, hg, (h4 g (by omega)).trans hh, rest⟩
theorem But.box {A b : Nat} {X Y : World} {t : TypeId} {cs : Array Value} (h : AX.But A X Y) (hX : Bx X b t cs) (hA : b ≠ A) : Bx Y b t cs := (h.same b hX.lt hA).trans hX
set_option maxRecDepth 100000 in
set_option maxHeartbeats 4000000 in
theorem tokens_gen {w : World} (s : ByteArray) (hs : s.size ≤ 1000) (i0 : Int) (R : List Tk) (hRl : R.length ≤ s.size + 1)
    (hseq : ∀ (V1 : World), Below w.heap.size w V1 → ∀ (l : Nat) (J : Nat → List Tk → World → Prop) (Jx : List Tk → World → Prop), (∀ H q X Y, J H q X → AX.But (V1.heap.size + 2) X Y → J H q Y) → (∀ H H' q X, J H q X → H ≤ H' → J H' q X) →
      (∀ (pre : List Tk) (x : Tk) (H : Nat) (W : World), J H pre W → H ≤ W.heap.size → (∃ rest, R = pre ++ x :: rest) → YieldAt Fence.wide (8 - 1) Tryz.prog l #[tkV x] W fun e W' =>
        (e = .returned (.bool true) ∧ J W'.heap.size (pre ++ [x]) W' ∧ AX.Keep (Fb V1.heap.size V1.heap.size) H W W') ∨ (e = .returned (.bool false) ∧ Jx (pre ++ [x]) W')) →
      ∀ W, Fc V1 V1.heap.size next rule kind kinds an ar ak cn cr ck s i0 W → J W.heap.size [] W →
      CallsIn Fence.wide 8 Tryz.prog 43 #[.func (.yield l) #[] #[], .pointer (some ⟨V1.heap.size, 0, none⟩), .pointer (some ⟨V1.heap.size + 1, 0, none⟩), .pointer (some ⟨V1.heap.size + 2, 0, none⟩)] W fun e W' => (∃ v, e = .returned v) ∧ ((∃ H xs, xs = R ∧ J H xs W') ∨ (∃ pre, (∃ rest, R = pre ++ rest) ∧ Jx pre W'))) :
    Calls Tryz.prog 12 #[lV an ar ak next.length rule.length kind.length cn cr ck kinds, .string s, .int .i64 i0] w fun e w' => (∃ v, e = .returned (.tuple #[v, .bool true]) ∧ TRow w' w.heap.size v R) ∧ Below w.heap.size w w' := by
  have hE := fun W => each_k (next := next) (rule := rule) (kind := kind) (kinds := kinds) (an := an) (ar := ar) (ak := ak) (cn := cn) (cr := cr) (ck := ck) s i0 W
  unfold lV at *
  have b0 := Bx.new w 26 #[.slice an next.length cn, .slice ar rule.length cr, .slice ak kind.length ck, .int .i64 kinds]
  have b1 := Bx.new (w.alloc (.cells #[.slice an next.length cn, .slice ar rule.length cr, .slice ak kind.length ck, .int .i64 kinds] 26)) 9 #[.string s]
  have b2 := Bx.new ((w.alloc (.cells #[.slice an next.length cn, .slice ar rule.length cr, .slice ak kind.length ck, .int .i64 kinds] 26)).alloc (.cells #[.string s] 9)) 34 #[.slice none 0 0]
  have b3 := Bx.new (((w.alloc (.cells #[.slice an next.length cn, .slice ar rule.length cr, .slice ak kind.length ck, .int .i64 kinds] 26)).alloc (.cells #[.string s] 9)).alloc (.cells #[.slice none 0 0] 34)) 4 #[.bool false]
  have b0 := ((b0.alloc (.cells #[.string s] 9)).alloc (.cells #[.slice none 0 0] 34)).alloc (.cells #[.bool false] 4)
  have b1 := (b1.alloc (.cells #[.slice none 0 0] 34)).alloc (.cells #[.bool false] 4)
  have b2 := b2.alloc (.cells #[.bool false] 4)
  have hz : ((((w.alloc (.cells #[.slice an next.length cn, .slice ar rule.length cr, .slice ak kind.length ck, .int .i64 kinds] 26)).alloc (.cells #[.string s] 9)).alloc (.cells #[.slice none 0 0] 34)).alloc (.cells #[.bool false] 4)).heap.size = w.heap.size + 4 := by simp
  have hB : Below w.heap.size w ((((w.alloc (.cells #[.slice an next.length cn, .slice ar rule.length cr, .slice ak kind.length ck, .int .i64 kinds] 26)).alloc (.cells #[.string s] 9)).alloc (.cells #[.slice none 0 0] 34)).alloc (.cells #[.bool false] 4)) := ((((Below.refl _ w).alloc (Nat.le_refl _) _).alloc (by simp) _).alloc (by simp; omega) _).alloc (by simp; omega) _
  simp only [World.size_alloc] at b1 b2 b3
  refine (callsIn_wide (n := 9)).1 (callsIn_of_wp_marks Tryz.func12 rfl trivial ?_ rfl)
  simp only [Tryz.ntmps12, List.size_toArray, List.length_cons, List.length_nil, Nat.reduceAdd, Nat.reduceSub, Array.replicate_succ, Array.replicate_zero, List.push_toArray, List.append_toArray, List.nil_append, List.cons_append]
  have hf26 : Fence.wide.fn 26 := trivial
  have HZ := Lib.hid hz
  clear hz
  gi_wp2_with fail
  generalize (((w.alloc (.cells #[.slice an next.length cn, .slice ar rule.length cr, .slice ak kind.length ck, .int .i64 kinds] 26)).alloc (.cells #[.string s] 9)).alloc (.cells #[.slice none 0 0] 34)).alloc (.cells #[.bool false] 4) = V1 at *
  have hsq := seq_some
  have h26 := (callsIn_wide (n := 8)).2 (hE V1)
  have hsq1 := hseq V1 hB
  clear hE hseq
  refine h26.mono ?_
  rintro e V2 ⟨rfl, hb2, hz2, hS2⟩
  have HZ2 := Lib.hid hz2
  clear hz2
  gi_wp2_with fail
  have hz := HZ.out
  have hz2 := HZ2.out
  clear hf26 hsq h26
  have bO := Bx.new V2 34 #[.slice none 0 0]
  have hA0 : Below V2.heap.size V2 (V2.alloc (.cells #[.slice none 0 0] 34)) := (Below.refl _ V2).alloc (Nat.le_refl _) _
  have hzV : (V2.alloc (.cells #[.slice none 0 0] 34)).heap.size = V2.heap.size + 1 := by simp
  have hS3 := hS2.below hA0
  have bt2 := b1.below hb2 b1.lt
  have br2 := b2.below hb2 b2.lt
  have bk2 := b3.below hb2 b3.lt
  generalize V2.alloc (.cells #[.slice none 0 0] 34) = V at *
  have hBV : Below w.heap.size w V2 := hB.trans (hb2.mono (by omega))
  obtain ⟨O, hO⟩ : ∃ O, O = V2.heap.size := ⟨_, rfl⟩
  obtain ⟨L, hL⟩ : ∃ L, L = V1.heap.size := ⟨_, rfl⟩
  rw [← hO] at bO ⊢
  rw [← hL] at hS2 hS3 ⊢
  clear b0 b1 b2 b3
  refine AX.range_but (A := L + 2) (B := Fb V1.heap.size L) (Pp := fun pre x => ∃ rest, R = pre ++ x :: rest) (encs := fun x : Tk => #[tkV x]) (S := fun xs => xs = R) (Sp := fun pre => ∃ rest, R = pre ++ rest) rfl (by omega) (gf := 43) (lb := #[.pointer (some ⟨L, 0, none⟩), .pointer (some ⟨L + 1, 0, none⟩), .pointer (some ⟨L + 2, 0, none⟩)]) rfl trivial (enters_of Tryz.func43 (by kernel_rfl) rfl) (by omega) (fun _ => rfl)
    (fun k h => by rcases h with h | h <;> omega) ?seq
    (fun H pre W => (∃ v, Bx W O 34 #[v] ∧ TRowH H W (O + 1) v pre ∧ O < H) ∧ AX.But (L + 2) V2 W) (fun _ _ _ => False) ?hI ?hIm (fun _ _ _ _ h _ => h)
    ⟨⟨_, bO, ⟨World.ownsRow_nil _ _ _ _, fun g e => by cases e⟩, by omega⟩, AX.But.of_below hA0⟩
    (fun x a' W => ∃ T, O < T ∧ Bx W T 30 #[.int .i64 x.k, .int .i64 x.f, .int .i64 x.a, .int .i64 x.t, .int .i64 x.e] ∧ a' = { tmps := #[.agg #[.slice an next.length cn, .slice ar rule.length cr, .slice ak kind.length ck, .int .i64 kinds], .string s, .int .i64 i0, .pointer (some ⟨w.heap.size, 0, none⟩), .pointer (some ⟨w.heap.size + 1, 0, none⟩), undef, .pointer (some ⟨w.heap.size + 1 + 1, 0, none⟩), .pointer (some ⟨w.heap.size + 1 + 1 + 1, 0, none⟩), .func (.func 43) #[] #[.pointer (some ⟨L, 0, none⟩), .pointer (some ⟨L + 1, 0, none⟩), .pointer (some ⟨L + 2, 0, none⟩)], .pointer (some ⟨O, 0, none⟩), .pointer (some ⟨T, 0, none⟩),
      .agg #[.slice an next.length cn, .slice ar rule.length cr, .slice ak kind.length ck, .int .i64 kinds], .string s, .int .i64 i0, .func (.func 43) #[] #[.pointer (some ⟨L, 0, none⟩), .pointer (some ⟨L + 1, 0, none⟩), .pointer (some ⟨L + 2, 0, none⟩)], .func (.func 43) #[] #[.pointer (some ⟨L, 0, none⟩), .pointer (some ⟨L + 1, 0, none⟩), .pointer (some ⟨L + 2, 0, none⟩)], .bool false, .func (.func 43) #[] #[.pointer (some ⟨L, 0, none⟩), .pointer (some ⟨L + 1, 0, none⟩), .pointer (some ⟨L + 2, 0, none⟩)], tkV x, undef, undef, undef, undef, undef, undef, undef, undef, undef, undef, undef], defers := [] }) ?hAx ?assign ?body ?done ?stop
  case seq =>
    intro l J Jx W hW hJ hJm hJx hY h0
    subst hL
    exact hsq1 l J Jx hJ hJm hY W (hS3.below hW) h0
  case hI =>
    rintro H q X Y ⟨⟨v, hv, hrow, hH⟩, hBt⟩ hl
    exact ⟨⟨v, hv.lets (by omega) hl, hrow.lets (by omega) hl, hH⟩, But.lets' hBt (by omega) hl⟩
  case hIm =>
    rintro H H' q X ⟨⟨v, hv, hrow, hH⟩, hBt⟩ hl
    exact ⟨⟨v, hv, ⟨hrow.1, fun g e => Nat.lt_of_lt_of_le (hrow.2 g e) hl⟩, Nat.lt_of_lt_of_le hH hl⟩, hBt⟩
  case hAx =>
    rintro x a' X Y ⟨T, hT, hX, ha⟩ hl
    exact ⟨T, hT, hX.lets (by omega) hl, ha⟩
  case assign =>
    rintro l pre x H W K ⟨⟨v, hv, hrow, hH⟩, hBt⟩ hHW hK
    have hT0 := Bx.new W 30 #[.int .i64 0, .int .i64 0, .int .i64 0, .int .i64 0, .int .i64 0]
    have hlt := hv.lt
    have hA0 : Below W.heap.size W (W.alloc (.cells #[.int .i64 0, .int .i64 0, .int .i64 0, .int .i64 0, .int .i64 0] 30)) := (Below.refl _ W).alloc (Nat.le_refl _) _
    have HZ := Lib.hid (And.intro hz (And.intro hz2 (And.intro hO hL)))
    clear hz hz2 hO hL
    gi_wp2_with ((with_reducible refine st_in ?_); refine AX.wpListIn_storeBox (vs := [.int .i64 x.k, .int .i64 x.f, .int .i64 x.a, .int .i64 x.t, .int .i64 x.e]) rfl rfl sz30 hT0 rfl rfl ?_; rintro W3 h3 h4 h5)
    obtain ⟨hz, hz2, hO, hL⟩ := HZ.out
    have hX3 : Bx W3 W.heap.size 30 #[.int .i64 x.k, .int .i64 x.f, .int .i64 x.a, .int .i64 x.t, .int .i64 x.e] := h3
    have hB3 := hA0.trans (AX.below_turn (Nat.le_refl _) (.inl hX3.lt) h4 h5)
    have hl3 := (AX.But.of_below (A := L + 2) hB3).lets V.heap.size
    exact hK _ W3 ⟨hB3.size, fun k o _ hk _ => (hB3.block k (Array.getElem?_eq_some_iff.1 hk).1).trans hk⟩ (AX.Keep.of_below hB3) ⟨⟨v, hv.lets (by omega) hl3, hrow.lets (by omega) hl3, hH⟩, But.lets' hBt (by omega) hl3⟩ ⟨W.heap.size, hlt, hX3, rfl⟩
  case body =>
    rintro l pre x a' H W ⟨⟨v, hv, hrow, hH⟩, hBt⟩ hHW ⟨T, hT, hX, rfl⟩ ⟨rest, hPp⟩
    have hlt : pre.length < s.size + 1 := by
      have := congrArg List.length hPp
      rw [List.length_append, List.length_cons] at this
      omega
    clear hPp
    have hbt := But.box hBt bt2 (by omega)
    obtain ⟨av, cv, hvv⟩ := row_shape hrow.1
    have hc : W.cell? ⟨O, 0, none⟩ = some v := hv.cell 0
    rw [hvv] at hc
    have ht := hbt.cell 0
    obtain ⟨pl, hpl⟩ : ∃ pl, pl = pre.length := ⟨_, rfl⟩
    rw [← hpl] at hc hlt
    have hgd : ¬ ((s.size : Int) + 1 < (pl : Int)) := by omega
    have HZ := Lib.hid (And.intro hz (And.intro hz2 (And.intro hO (And.intro hL (And.intro hpl hvv)))))
    clear hz hz2 hO hL hpl hvv
    have hvl := hv.lt
    obtain ⟨x0, x1, x2, x3, x4⟩ := Bx.five hX
    gi_upto_region 9 with fail
    clear hc
    have hc : W.cell? ⟨O, 0, none⟩ = some v := hv.cell 0
    obtain ⟨hz, hz2, hO, hL, hpl, hvv⟩ := HZ.out
    have hOL : L + 2 < O := by omega
    have hpm : pre.length ≤ 1000000 := by omega
    have hOV : w.heap.size ≤ O := by omega
    clear hz hz2 hO hL hpl hvv hgd
    gi_wp2_with (first
      | (gi_at_builtin; refine append_tIn _ (O + 1) _ pre x rfl _ _ rfl rfl (hrow.1.alloc (.cells #[.int .i64 x.k, .int .i64 x.f, .int .i64 x.a, .int .i64 x.t, .int .i64 x.e] 30)) ⟨W.heap.size, 0, none⟩ rfl (tcells_new W x) hpm (by simp; omega) ?_; intro v' w1 hown hg; have hv1 := box_kept hv hrow.1 (Nat.lt_succ_self _) hg; obtain ⟨aa, cc, rfl⟩ := row_shape hown)
      | ((with_reducible refine st_in ?_); refine AX.wpListIn_storeCell (o := 0) (v := .slice aa (pre ++ [x]).length cc) rfl rfl rfl sz34 hv1 (show 0 < 1 by decide) ?_; rintro w2 h3 h4 h5))
    have h3' : Bx w2 O 34 #[.slice aa (pre ++ [x]).length cc] := h3
    obtain ⟨hz, hz2, hO, hL, hpl, hvv⟩ := HZ.out
    obtain ⟨r1, r2, r3, r4⟩ := appended (P := Fb V1.heap.size L) hHW hv hrow (Nat.lt_succ_self _) hH (fun k hk h => by rcases h with h | h <;> omega) hown hg h3' h4 h5 V.heap.size
    exact ⟨r3, r2, ⟨_, h3', r1, by have := h3'.lt; omega⟩, But.snoc hBt (by omega) r4⟩
  case done =>
    rintro D H ys W hD hys ⟨⟨v, hv, hrow, hH⟩, hBt⟩ hK
    have HYS := Lib.hid hys
    clear hys
    have hc : W.cell? ⟨O, 0, none⟩ = some v := hv.cell 0
    have hr1 := But.box hBt br2 (by omega)
    have hk1 := But.box hBt bk2 (by omega)
    have hrw := hrow.1
    obtain ⟨av, cv, rfl⟩ := row_shape hrw
    have hBW := hBV.trans (hBt.below (n := w.heap.size) (by omega) (by omega))
    have hDw : w.heap.size + 3 < D := by omega
    have hOw : w.heap.size + 3 < O := by omega
    have HZ := Lib.hid (And.intro hz (And.intro hz2 (And.intro hO hL)))
    clear hz hz2 hO hL
    gi_wp2_with (first
      | ((with_reducible refine st_in ?_); refine AX.wpListIn_storeCell (o := 0) (v := .slice av ys.length cv) rfl rfl rfl sz34 hr1 (show 0 < 1 by decide) ?_; rintro W2 h3 h4 h5; have hr2 : Bx W2 (w.heap.size + 1 + 1) 34 #[.slice av ys.length cv] := h3; have hk2 := hk1.turn (by omega) h4; have hB2 := hBW.trans (AX.below_turn (n := w.heap.size) (by omega) (.inl hr2.lt) h4 h5); have hD2 : W2.heap[D]? = some (.deferred (some [])) := (h4 D (by omega)).trans hK; have hw2 := TRow.turn hrw h4 (by omega); clear h3 h4 h5 hr1 hk1 hc)
      | ((with_reducible refine st_in ?_); refine AX.wpListIn_storeCell (o := 0) (v := .bool true) rfl rfl rfl sz4 hk2 (show 0 < 1 by decide) ?_; rintro W3 h3 h4 h5; have hk3 : Bx W3 (w.heap.size + 1 + 1 + 1) 4 #[.bool true] := h3; have hr3 := hr2.turn (by omega) h4; have hB3 := hB2.trans (AX.below_turn (n := w.heap.size) (by omega) (.inl hk3.lt) h4 h5); have hD3 : W3.heap[D]? = some (.deferred (some [])) := (h4 D (by omega)).trans hD2; have hw3 := TRow.turn hw2 h4 (by omega); clear h3 h4 h5))
    refine ⟨by simp, .inl ⟨_, _, rfl, run_takeDeferred hD3, ?_⟩⟩
    obtain ⟨hz, hz2, hO, hL⟩ := HZ.out
    have hl := AX.Lets.put (A := L + 2) (B := V.heap.size) (.deferred none) hD3 rfl hD
    have e0 := (hr3.lets (by omega) hl).cell 0
    have e1 := (hk3.lets (by omega) hl).cell 0
    have hF := TRowH.lets (H := W3.heap.size) (A := L + 2) ⟨hw3, fun g e => (hw3.lt g e).2⟩ (by omega) hl
    have hBf := hB3.trans ((Below.refl w.heap.size W3).grown (grownBy_putObj' W3 D (.deferred none)) (by have := hB3.size; omega) (fun k e => by cases e; omega))
    rw [← HYS.out]
    refine ⟨.tuple #[.slice av ys.length cv, .bool true], ?_, ⟨_, rfl, row_base hF.1 (by omega)⟩, hBf⟩
    simp [results, Tryz.results12, go_sem, e0, e1]
  case stop =>
    rintro D c pre W _ _ h _
    exact h.elim
theorem tokens_in {w : World} (hn : next.length ≤ 1000000) (hr : rule.length ≤ 1000000) (hk : kind.length ≤ 1000000) (hN : IRow w an next) (hR : IRow w ar rule) (hK : IRow w ak kind) (s : ByteArray) (hs : s.size ≤ 1000)
    (hok : okL next rule kind kinds = true) (i0 : Nat) (hi0 : i0 ≤ s.size) :
    Calls Tryz.prog 12 #[lV an ar ak next.length rule.length kind.length cn cr ck kinds, .string s, .int .i64 i0] w fun e w' => (∃ v, e = .returned (.tuple #[v, .bool true]) ∧ TRow w' w.heap.size v (rowV next rule kind (sb s) i0)) ∧ Below w.heap.size w w' :=
  tokens_gen s hs i0 _ (by have := rowV_len (fits_of hok) (sb_lt s) _ i0 (Nat.le_refl _) (by rw [sb_len]; exact hi0); rw [sb_len] at this; omega) fun V1 hB l J Jx hJ hJm hY W hS h0 => each1_in 8 (by omega) (Nat.le_refl _) hn hr hk (hN.below hB (Nat.le_refl _)) (hR.below hB (Nat.le_refl _)) (hK.below hB (Nat.le_refl _)) s hs hok i0 hi0 l J Jx hJ hJm hY W hS h0
set_option maxRecDepth 100000 in
set_option maxHeartbeats 4000000 in
theorem each1_out (n : Nat) (hn1 : 1 ≤ n) {w0 : World} {L : Nat} (hn : next.length ≤ 1000000) (hr : rule.length ≤ 1000000) (hk : kind.length ≤ 1000000) (hN : IRow w0 an next) (hR : IRow w0 ar rule) (hK : IRow w0 ak kind) (s : ByteArray) (hs : s.size ≤ 1000)
    (i0 : Int) (ho : ¬ (okL next rule kind kinds = true ∧ 0 ≤ i0 ∧ i0 ≤ s.size)) (l : Nat) (J : Nat → List Tk → World → Prop) (Jx : List Tk → World → Prop) (hJ : ∀ H q X Y, J H q X → AX.But (L + 2) X Y → J H q Y)
    (W : World) (hS : Fc w0 L next rule kind kinds an ar ak cn cr ck s i0 W) (h0 : J W.heap.size [] W) :
    CallsIn Fence.wide n Tryz.prog 43 #[.func (.yield l) #[] #[], .pointer (some ⟨L, 0, none⟩), .pointer (some ⟨L + 1, 0, none⟩), .pointer (some ⟨L + 2, 0, none⟩)] W fun e W' => (∃ v, e = .returned v) ∧ ((∃ H xs, xs = [] ∧ J H xs W') ∨ (∃ pre, (∃ rest, [] = pre ++ rest) ∧ Jx pre W')) := by
  have hmy := may_k (cn := cn) (cr := cr) (ck := ck) (kinds := kinds) hn hr hk (hN.below hS.b (Nat.le_refl _)) (hR.below hS.b (Nat.le_refl _)) (hK.below hS.b (Nat.le_refl _)) s i0 (by omega)
  have hm0 : mayV next rule kind kinds s i0 = 2 := by unfold mayV; rw [if_neg ho]
  rw [hm0] at hmy
  have h22 := (callsIn_wide (n := n - 1)).2 hmy
  unfold lV at h22
  clear hm0 hN hR hK hmy ho
  have c1 := hS.l.cell 0; have c2 := hS.l.cell 1; have c3 := hS.l.cell 2; have c4 := hS.l.cell 3; have c5 := hS.t.cell 0; have c6 := hS.a.cell 0
  refine callsIn_of_wp Tryz.func43 rfl trivial ?_ rfl
  simp only [Tryz.ntmps43, List.size_toArray, List.length_cons, List.length_nil, Nat.reduceAdd, Nat.reduceSub, Array.replicate_succ, Array.replicate_zero, List.push_toArray, List.append_toArray, List.nil_append, List.cons_append]
  have hf22 : Fence.wide.fn 22 := trivial
  gi_wp2_with (gi_at_call 22; ((with_reducible refine h22.mono ?_); rintro e W1 ⟨rfl, hb1⟩; have hJ1 := hJ _ _ _ _ h0 (AX.But.of_below hb1)))
  refine bodyPost_ret (results_none rfl _ _ _) rfl ?_
  exact ⟨⟨_, rfl⟩, .inl ⟨_, _, rfl, hJ1⟩⟩
theorem tokens_out {w : World} (hn : next.length ≤ 1000000) (hr : rule.length ≤ 1000000) (hk : kind.length ≤ 1000000) (hN : IRow w an next) (hR : IRow w ar rule) (hK : IRow w ak kind) (s : ByteArray) (hs : s.size ≤ 1000)
    (i0 : Int) (ho : ¬ (okL next rule kind kinds = true ∧ 0 ≤ i0 ∧ i0 ≤ s.size)) :
    Calls Tryz.prog 12 #[lV an ar ak next.length rule.length kind.length cn cr ck kinds, .string s, .int .i64 i0] w fun e w' => (∃ v, e = .returned (.tuple #[v, .bool true]) ∧ TRow w' w.heap.size v []) ∧ Below w.heap.size w w' :=
  tokens_gen s hs i0 _ (Nat.zero_le _) fun V1 hB l J Jx hJ _ _ W hS h0 => each1_out 8 (by omega) hn hr hk (hN.below hB (Nat.le_refl _)) (hR.below hB (Nat.le_refl _)) (hK.below hB (Nat.le_refl _)) s hs i0 ho l J Jx hJ W hS h0
end
end Go.Proofs.YtefjfbhffmkikaaGreatDoor
