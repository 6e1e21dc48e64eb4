/- Dirty: slices.Values. -/
import Derived.Test.YtpplkjjfaibmmaaDoorF2
import Derived.Test.YtpplkjjfaibmmaaDoorE6
import Derived.Test.YtpplkjjfaibmmaaDoorSt4
import Derived.Test.YtpplkjjfaibmmaaDoorRf2
import Derived.TacticsInMore
import Derived.LoopNIn
import Derived.LoopIn
import Derived.WalkKit
import Derived.Shelf.Abstract
import Derived.OwnWalkIn
namespace Go.Proofs.YtpplkjjfaibmmaaDoor
open Go Go.Proofs Go.RowKit
attribute [local go_sem] Oper.semAt_some
theorem J.v_eq (x : J) : x.v = .agg #[.int .i64 x.s, .int .i64 x.f, .int .i64 x.t, .int .i64 x.a, .int .i64 x.l] := rfl
/-- What the closure leans on: the caller's heap, its box. -/
structure Fv (w0 : World) (L : Nat) (v : Value) (W : World) : Prop where
  b : Below w0.heap.size w0 W
  l : W.heap[L]? = some (.cells #[v] 24 (0, 0))
def Vb (n0 L k : Nat) : Prop := k < n0 ∨ k = L
theorem Fv.keep {w0 : World} {L H : Nat} {v : Value} {X Y : World} (h : Fv w0 L v X) (hk : AX.Keep (Vb w0.heap.size L) H X Y) : Fv w0 L v Y := by
  have hb : ∀ k, k < w0.heap.size → Y.heap[k]? = X.heap[k]? := fun k hk0 => by
    have hlt : k < X.heap.size := Nat.lt_of_lt_of_le hk0 h.b.size
    rw [hk.same k X.heap[k] (Array.getElem?_eq_getElem hlt) (.inl (.inl hk0)), Array.getElem?_eq_getElem hlt]
  exact ⟨⟨hk.low.os.trans h.b.os, hk.low.tape.trans h.b.tape, hk.low.output.trans h.b.output, Nat.le_trans h.b.size hk.low.size, fun k hk0 => (hb k hk0).trans (h.b.block k hk0)⟩, hk.same _ _ h.l (.inl (.inr rfl))⟩
theorem Fv.below {w0 : World} {L : Nat} {v : Value} {X Y : World} (h : Fv w0 L v X) (hk : Below X.heap.size X Y) : Fv w0 L v Y := h.keep (H := 0) (AX.Keep.of_below hk)
set_option maxRecDepth 100000 in
set_option maxHeartbeats 4000000 in
theorem values1_in (n A : Nat) (hn1 : 1 ≤ n) {w0 : World} {L : Nat} (l : List J) (hl : l.length ≤ 1000000) (la : Option Addr) (c : Nat) (hR : RRow w0 (.slice la l.length c) l) (y : Nat) (J' : Nat → List J → World → Prop) (Jx : List J → World → Prop) (hJ : ∀ H q X Y, J' H q X → AX.But A X Y → J' H q Y) (_hJm : ∀ H H' q X, J' H q X → H ≤ H' → J' H' q X)
    (hY : ∀ (pre : List J) (x : J) (H : Nat) (W : World), J' H pre W → H ≤ W.heap.size → (∃ rest, l = pre ++ x :: rest) → YieldAt Fence.wide (n - 1) Tryd.prog y #[x.v] W fun e W' =>
      (e = .returned (.bool true) ∧ J' W'.heap.size (pre ++ [x]) W' ∧ AX.Keep (Vb w0.heap.size L) H W W') ∨ (e = .returned (.bool false) ∧ Jx (pre ++ [x]) W'))
    (W : World) (hS : Fv w0 L (.slice la l.length c) W) (h0 : J' W.heap.size [] W) :
    CallsIn Fence.wide n Tryd.prog 67 #[.func (.yield y) #[] #[], .pointer (some ⟨L, 0, none⟩)] W fun e W' => (∃ v, e = .returned v) ∧ ((∃ H xs, xs = l ∧ J' H xs W') ∨ (∃ pre, (∃ rest, l = pre ++ rest) ∧ Jx pre W')) := by
  have c1 : W.cell? ⟨L, 0, none⟩ = some (.slice la l.length c) := by simp [World.cell?, hS.l]
  unfold J.v at *
  refine callsIn_of_wp Tryd.func67 rfl trivial ?_ rfl
  simp only [Tryd.ntmps67, List.size_toArray, List.length_cons, List.length_nil, Nat.reduceAdd, Nat.reduceSub, Array.replicate_succ, Array.replicate_zero, List.push_toArray, List.append_toArray, List.nil_append, List.cons_append]
  gi_wp2_with fail
  gi_loopw [7] (fun i wr => ∃ k : Nat, k ≤ l.length ∧ i = .int .i64 k ∧ Fv w0 L (.slice la l.length c) wr ∧ J' wr.heap.size (l.take k) wr) (fun i _ => l.length - (intOf i).toNat)
  case atStart => exact ⟨0, Nat.zero_le _, rfl, hS, by simpa using h0⟩
  case round =>
    obtain ⟨k, hk, rfl, hSr, hJr⟩ := hrel
    clear hS h0 c1
    by_cases hlt : k < l.length
    · obtain ⟨la', c', hv, hno, hn2⟩ := id hR
      cases hv
      cases la with
      | none =>
        have := hno rfl
        subst this
        simp at hlt
      | some ad =>
        obtain ⟨B, off, rfl, hBl, hrow⟩ := hn2 _ rfl
        obtain ⟨y0, y1, y2, y3, y4⟩ := (hrow.below hSr.b hBl) k hlt
        have hPp : Hid (∃ rest, l = l.take k ++ l[k] :: rest) := Lib.hid ⟨l.drop (k + 1), by rw [← List.drop_eq_getElem_cons hlt, List.take_append_drop]⟩
        have htk : Hid (l.take (k + 1) = l.take k ++ [l[k]]) := Lib.hid (List.take_succ_eq_append_getElem hlt)
        generalize l[k] = x at *
        have hk0 : (0 : Int) ≤ (k : Int) := by omega
        have hk1 : (k : Int) < (l.length : Int) := by omega
        have hA0 : Below wr.heap.size wr (wr.alloc (.cells #[.int .i64 x.s, .int .i64 x.f, .int .i64 x.t, .int .i64 x.a, .int .i64 x.l] 38)) := (Below.refl _ wr).alloc (Nat.le_refl _) _
        obtain ⟨fn, tmps, assign, body, hy, hRo⟩ := hY (l.take k) x wr.heap.size _ (hJ _ _ _ _ hJr (AX.But.of_below hA0)) hA0.size hPp.out
        have hS1 := hSr.below hA0
        clear hn2 hrow
        gi_wp2_with fail
        refine hRo.mono ?_
        rintro e W4 (⟨rfl, hJ4, hK4⟩ | ⟨rfl, hJx4⟩)
        · have hS4 := hS1.keep hK4
          clear hy hRo
          gi_wp2_with fail
          go_roundw
          case rel => exact ⟨k + 1, by omega, by simp, hS4, by rw [htk.out]; exact hJ4⟩
          case measure => simp [intOf]; omega
        · have hE : Hid (∃ rest, l = (l.take k ++ [x]) ++ rest) := Lib.hid (by obtain ⟨rest, h⟩ := hPp.out; exact ⟨rest, by rw [List.append_assoc]; exact h⟩)
          clear hy hRo
          gi_wp2_with fail
          refine bodyPost_ret (results_none rfl _ _ _) rfl ?_
          exact ⟨⟨_, rfl⟩, .inr ⟨_, hE.out, hJx4⟩⟩
    · obtain rfl : k = l.length := by omega
      rw [List.take_length] at hJr
      gi_wp2_with fail
      go_end0
      exact ⟨⟨_, rfl⟩, .inl ⟨_, _, rfl, hJr⟩⟩
end Go.Proofs.YtpplkjjfaibmmaaDoor

namespace Go.Proofs.YtpplkjjfaibmmaaDoor
open Go Go.Proofs Go.RowKit
attribute [local go_sem] Oper.semAt_some
def Bx (w : World) (b : Nat) (t : TypeId) (cs : Array Value) : Prop := w.heap[b]? = some (.cells cs t (0, 0))
theorem Bx.lt {w : World} {B : Nat} {t : TypeId} {cs : Array Value} (h : Bx w B t cs) : B < w.heap.size := (Array.getElem?_eq_some_iff.1 h).1
theorem Bx.new (w : World) (t : TypeId) (cs : Array Value) : Bx (w.alloc (.cells cs t)) w.heap.size t cs := World.alloc_heap_new w _
theorem Bx.alloc {w : World} {B : Nat} {t : TypeId} {cs : Array Value} (h : Bx w B t cs) (o : Obj) : Bx (w.alloc o) B t cs := (Below.heap_alloc _ _ _ h.lt).trans h
theorem st_in {F : Fence} {m : Nat} {P : Program} {ops : Array Oper} {Q : Exit → Act → World → Prop} {a : Act} {w : World} {rest : List Oper} {t : TypeId} {x y : Operand} {ty : TypeId} {pos : String} {after : Array Edge} (h : wpListIn F m P ops Q ({ dst := none, op := .store t x y, type := ty, pos := pos, after := after, guard := none } :: rest) a w) :
    wpListIn F m P ops Q ({ dst := none, op := .store t x y, type := ty, pos := pos, after := after, guard := none } :: rest) a w := h
theorem jcells_new (w : World) (x : J) : ∀ j u, (encJ x)[j]? = some u → (w.alloc (.cells #[.int .i64 x.s, .int .i64 x.f, .int .i64 x.t, .int .i64 x.a, .int .i64 x.l] 38)).cell? ((⟨w.heap.size, 0, none⟩ : Addr).add j) = some u := by
  intro j u hj
  rw [j_addr_add, Nat.zero_add]
  simp only [encJ] at hj
  match j, hj with
  | 0, hj => simp at hj; subst hj; simp
  | 1, hj => simp at hj; subst hj; simp
  | 2, hj => simp at hj; subst hj; simp
  | 3, hj => simp at hj; subst hj; simp
  | 4, hj => simp at hj; subst hj; simp
  | j + 5, hj => simp at hj
/-- A row of tokens appended to, inside a fence. -/
theorem append_jIn {F : Fence} {n : Nat} {ops : Array Oper} {rest : List Oper} {o : Oper} {a : Act} {Q : Exit → Act → World → Prop} (W : World) (base : Nat) (v : Value) (pre : List J) (y : J) (hgd : o.guard = none) (s x : Operand)
    (ho : o.op = .call { callee := .builtin .append, args := #[s, x], argTypes := #[24, 24] }) (hs : a.eval s = v) (hown : DRow W base v pre) (ad : Addr) (hx : a.eval x = .slice (some ad) 1 1)
    (hc : ∀ j u, (encJ y)[j]? = some u → W.cell? (ad.add j) = some u) (hl : pre.length ≤ 1000000) (hb : base ≤ W.heap.size)
    (h : ∀ v' w', DRow w' base v' (pre ++ [y]) → W.grownBy w' v.ownBlock → wpListIn F n Tryd.prog ops Q rest (a.put o.dst v') w') : wpListIn F n Tryd.prog ops Q (o :: rest) a W := by
  obtain ⟨ti, hi, hz0, hz1, hz2⟩ := info_parts info38'
  refine wpListIn_append_own W hgd s x 24 ho base 38 ti (.agg #[.int .i64 0, .int .i64 0, .int .i64 0, .int .i64 0, .int .i64 0]) 5 40 Tryd.underlying24 hi hz0 hz1 hz2 rfl (by decide) v pre.length _ hs hown ad 1 1 (encJ y) hx rfl hc ((fun v hv => encJ_one [y] v (by simpa using hv))) (by unfold maxLen; omega) (by omega) hb ?_
  intro v' w' h1 h2 _
  refine h v' w' ?_ h2
  unfold DRow
  rw [List.flatMap_append, List.length_append, List.length_singleton]
  simpa using h1
/-- A row in memory, its block below H. -/
def DRowH (H : Nat) (w : World) (base : Nat) (v : Value) (l : List J) : Prop := DRow w base v l ∧ ∀ g, v.ownBlock = some g → g < H
theorem DRowH.lets {A B H base : Nat} {X Y : World} {v : Value} {l : List J} (h : DRowH H X base v l) (hA : A < base) (hl : AX.Lets A B X Y) : DRowH H Y base v l := by
  refine ⟨⟨h.1.1, ?_⟩, h.2⟩
  rcases h.1.2 with hn | ⟨g, cap, cur, rfl, hg, hh, rest⟩
  · exact .inl hn
  · exact .inr ⟨g, cap, cur, rfl, hg, hl.same g _ hh (by omega) (.inr rfl), rest⟩
theorem Bx.lets {A B : Nat} {X Y : World} {b : Nat} {t : TypeId} {cs : Array Value} (h : Bx X b t cs) (hA : b ≠ A) (hl : AX.Lets A B X Y) : Bx Y b t cs := hl.same b _ h hA (.inr rfl)
theorem But.lets' {A B : Nat} {w X Y : World} (h : AX.But A w X) (hB : w.heap.size ≤ B) (hl : AX.Lets A B X Y) : AX.But A w Y :=
  ⟨h.low.trans hl.low, fun k hk hA => by
    have h1 := h.same k hk hA
    have hlt : k < X.heap.size := Nat.lt_of_lt_of_le hk h.low.size
    rw [← h1, hl.same k X.heap[k] (Array.getElem?_eq_getElem hlt) hA (.inl (by omega)), Array.getElem?_eq_getElem hlt]⟩
theorem row_shape {w : World} {base : Nat} {e : TypeId} {size : Nat} {v : Value} {n : Nat} {xs : List Value} (h : w.ownsRow base e size v n xs) : ∃ a c, v = .slice a n c := by
  rcases h.2 with ⟨rfl, rfl⟩ | ⟨g, cap, cur, rfl, _⟩
  · exact ⟨_, _, rfl⟩
  · exact ⟨_, _, rfl⟩
/-- What an append to the row in a box comes to: all the loop asks. -/
theorem appended {P : Nat → Prop} {H n₀ b : Nat} {W w1 w2 : World} {v v' : Value} {l l' : List J} {tmp : Obj} (_hH : H ≤ W.heap.size) (hv : Bx W b 24 #[v]) (hrow : DRowH H W n₀ v l) (hb : b < n₀) (hbH : b < H) (hnP : ∀ k, b ≤ k → ¬ P k)
    (hown : DRow w1 n₀ v' l') (hg : (W.alloc tmp).grownBy w1 v.ownBlock) (h3 : Bx w2 b 24 #[v']) (h4 : ∀ k, k ≠ b → w2.heap[k]? = w1.heap[k]?) (h5 : AX.Same w1 w2) (B : Nat) :
    DRowH w2.heap.size w2 n₀ v' l' ∧ AX.Keep P H W w2 ∧ KeepsFrom B W w2 ∧ Below b W w2 := by
  have hlow1 : Below b (W.alloc tmp) w1 := (Below.refl b _).grown hg (by have := hv.lt; simp; omega) fun j ej => by
    rcases hrow.1.2 with ⟨rfl, _⟩ | ⟨g, cap, cur, rfl, hge, _, _⟩
    · simp [Value.ownBlock] at ej
    · obtain rfl : g = j := by simpa [Value.ownBlock] using ej
      omega
  have hlow2 : Below b w1 w2 := AX.below_turn (Nat.le_refl _) (.inl h3.lt) h4 h5
  have hal : Below W.heap.size W (W.alloc tmp) := (Below.refl _ W).alloc (Nat.le_refl _) _
  have hlow : Below b W w2 := ((hal.mono (Nat.le_of_lt hv.lt)).trans hlow1).trans hlow2
  have hrow2 : DRow w2 n₀ v' l' := by
    refine ⟨hown.1, ?_⟩
    rcases hown.2 with hn | ⟨g, cap, cur, rfl, hge, hh, rest⟩
    · exact .inl hn
    · exact .inr ⟨g, cap, cur, rfl, hge, (h4 g (by omega)).trans hh, rest⟩
  -- a block other than the box and the row's own lies as it lay
  have same : ∀ k o, W.heap[k]? = some o → k ≠ b → (∀ g, v.ownBlock = some g → k ≠ g) → w2.heap[k]? = some o := fun k o hk hkb hkg => by
    have hlt := (Array.getElem?_eq_some_iff.1 hk).1
    refine (h4 k hkb).trans ((hg.block k (by simp; omega) (fun e => hkg k e.symm rfl)).trans ((hal.block k hlt).trans hk))
  refine ⟨⟨hrow2, fun g e => (hrow2.lt g e).2⟩, ⟨hlow.mono (Nat.zero_le _), fun k o hk hu => ?_⟩, ⟨hlow.size, fun k o _ hk ho => ?_⟩, hlow⟩
  · rcases hu with hp | ⟨hkH, _⟩
    · have hkb : k < b := Nat.lt_of_not_le fun h => hnP k h hp
      exact (hlow.block k hkb).trans hk
    · exact same k o hk (by omega) fun g e => by have := hrow.2 g e; omega
  · refine same k o hk (fun e => ?_) fun g e => ?_
    · subst e; rw [show W.heap[k]? = _ from hv] at hk; cases hk; cases ho
    · intro e2
      subst e2
      rcases hrow.1.2 with ⟨rfl, _⟩ | ⟨g', cap, cur, rfl, hge, hh, _⟩
      · simp [Value.ownBlock] at e
      · obtain rfl : g' = k := by simpa [Value.ownBlock] using e
        rw [hh] at hk; cases hk; cases ho
end Go.Proofs.YtpplkjjfaibmmaaDoor

namespace Go.Proofs.YtpplkjjfaibmmaaDoor
open Go Go.Proofs Go.RowKit
attribute [local go_sem] Oper.semAt_some
section
theorem Bx.cell {w : World} {B : Nat} {t : TypeId} {cs : Array Value} (h : Bx w B t cs) (j : Nat) : w.cell? ⟨B, j, none⟩ = cs[j]? := by simp [World.cell?, show w.heap[B]? = _ from h]
theorem Bx.five {w : World} {B : Nat} {t : TypeId} {v0 v1 v2 v3 v4 : Value} (h : Bx w B t #[v0, v1, v2, v3, v4]) : w.cell? ⟨B, 0, none⟩ = some v0 ∧ w.cell? ⟨B, 1, none⟩ = some v1 ∧ w.cell? ⟨B, 2, none⟩ = some v2 ∧ w.cell? ⟨B, 3, none⟩ = some v3 ∧ w.cell? ⟨B, 4, none⟩ = some v4 := ⟨h.cell 0, h.cell 1, h.cell 2, h.cell 3, h.cell 4⟩
theorem row_base {w : World} {b b' : Nat} {v : Value} {l : List J} (h : DRow w b v l) (hb : b' ≤ b) : DRow w b' v l := by
  refine ⟨h.1, ?_⟩
  rcases h.2 with hn | ⟨g, cap, cur, hv, hg, rest⟩
  · exact .inl hn
  · exact .inr ⟨g, cap, cur, hv, Nat.le_trans hb hg, rest⟩
theorem sz38g : AX.sizeT Tryd.prog 38 = some 5 := by kernel_rfl
theorem sz24 : AX.sizeT Tryd.prog 24 = some 1 := by kernel_rfl
theorem box_kept {W w1 : World} {b n₀ : Nat} {v u : Value} {l : List J} {tmp : Obj} {t : TypeId} (hv : Bx W b t #[u]) (hrow : DRow W n₀ v l) (hb : b < n₀) (hg : (W.alloc tmp).grownBy w1 v.ownBlock) : Bx w1 b t #[u] := by
  refine (hg.block b (by have := hv.lt; simp; omega) fun e => ?_).trans (hv.alloc tmp)
  have := (hrow.lt b e.symm).1
  omega
theorem But.snoc {A n : Nat} {w X Y : World} (h : AX.But A w X) (hn : w.heap.size ≤ n) (k : Below n X Y) : AX.But A w Y :=
  ⟨h.low.trans (k.mono (Nat.zero_le _)), fun i hi hA => (k.block i (by omega)).trans (h.same i hi hA)⟩
set_option maxRecDepth 100000 in
set_option maxHeartbeats 4000000 in
theorem appendSeq_in (n : Nat) (hn3 : 3 ≤ n) {w0 : World} {L : Nat} (hL : w0.heap.size ≤ L) (l : List J) (hl : l.length ≤ 1000000) (la : Option Addr) (c : Nat) (hR : RRow w0 (.slice la l.length c) l) (w : World) (hLw : L < w.heap.size) (hS : Fv w0 L (.slice la l.length c) w) :
    CallsIn Fence.wide n Tryd.prog 69 #[.slice none 0 0, .func (.func 67) #[] #[.pointer (some ⟨L, 0, none⟩)]] w fun e w' => (∃ v, e = .returned v ∧ DRow w' w.heap.size v (l)) ∧ AX.But (L) w w' := by
  have h1 : 1 ≤ n := by omega
  refine callsIn_of_wp_marks Tryd.func69 rfl trivial ?_ rfl
  simp only [Tryd.ntmps69, List.size_toArray, List.length_cons, List.length_nil, Nat.reduceAdd, Nat.reduceSub, Array.replicate_succ, Array.replicate_zero, List.push_toArray, List.append_toArray, List.nil_append, List.cons_append]
  gi_wp2
  have bO := Bx.new w 24 #[.slice none 0 0]
  have hB0 : Below w.heap.size w (w.alloc (.cells #[.slice none 0 0] 24)) := (Below.refl _ w).alloc (Nat.le_refl _) _
  have hS0 := hS.below hB0
  have hz : (w.alloc (.cells #[.slice none 0 0] 24)).heap.size = w.heap.size + 1 := by simp
  generalize w.alloc (.cells #[.slice none 0 0] 24) = V at *
  have hLb : ∀ (pre : List J) x, (∃ rest, l = pre ++ x :: rest) → pre.length + 1 ≤ 1000000 := fun pre x ⟨rest, e⟩ => by
    rw [e, List.length_append, List.length_cons] at hl
    omega
  refine AX.range_but (A := L) (B := Vb w0.heap.size L) (Pp := fun pre x => ∃ rest, l = pre ++ x :: rest) (encs := fun x : J => #[x.v]) (S := fun xs => xs = l) (Sp := fun pre => ∃ rest, l = pre ++ rest) rfl h1 (gf := 67) (lb := #[.pointer (some ⟨L, 0, none⟩)]) rfl trivial (enters_of Tryd.func67 (by kernel_rfl) rfl) (by omega) (fun _ => rfl)
    (fun k h => by rcases h with h | h <;> omega) ?seq
    (fun H pre W => (∃ v, Bx W w.heap.size 24 #[v] ∧ DRowH H W (w.heap.size + 1) v pre ∧ w.heap.size < H) ∧ AX.But (L) w W) (fun _ _ _ => False) ?hI ?hIm (fun _ _ _ _ h _ => h)
    ⟨⟨_, bO, ⟨World.ownsRow_nil _ _ _ _, fun g e => by cases e⟩, by omega⟩, AX.But.of_below hB0⟩
    (fun x a' W => ∃ T, w.heap.size < T ∧ Bx W T 38 #[.int .i64 x.s, .int .i64 x.f, .int .i64 x.t, .int .i64 x.a, .int .i64 x.l] ∧ a' = { tmps := #[.slice none 0 0, .func (.func 67) #[] #[.pointer (some ⟨L, 0, none⟩)], .pointer (some ⟨w.heap.size, 0, none⟩), undef, .slice none 0 0, .pointer (some ⟨T, 0, none⟩), .func (.func 67) #[] #[.pointer (some ⟨L, 0, none⟩)], x.v, undef, undef, undef, undef, undef], defers := [] }) ?hAx ?assign ?body ?done ?stop
  case seq =>
    intro y J' Jx W hW hJ hJm hJx hY h0
    exact values1_in (n - 1) L (by omega) l hl la c hR y J' Jx hJ hJm hY W (hS0.below hW) h0
  case hI =>
    rintro H q X Y ⟨⟨v, hv, hrow, hH⟩, hB⟩ hl
    exact ⟨⟨v, hv.lets (by omega) hl, hrow.lets (by omega) hl, hH⟩, But.lets' hB (by omega) hl⟩
  case hIm =>
    rintro H H' q X ⟨⟨v, hv, hrow, hH⟩, hB⟩ hl
    exact ⟨⟨v, hv, ⟨hrow.1, fun g e => Nat.lt_of_lt_of_le (hrow.2 g e) hl⟩, Nat.lt_of_lt_of_le hH hl⟩, hB⟩
  case hAx =>
    rintro x a' X Y ⟨T, hT, hX, ha⟩ hl
    exact ⟨T, hT, hX.lets (by omega) hl, ha⟩
  case assign =>
    rintro y pre x H W K ⟨⟨v, hv, hrow, hH⟩, hB⟩ hHW hK
    have hT0 := Bx.new W 38 #[.int .i64 0, .int .i64 0, .int .i64 0, .int .i64 0, .int .i64 0]
    have hlt := hv.lt
    have hA0 : Below W.heap.size W (W.alloc (.cells #[.int .i64 0, .int .i64 0, .int .i64 0, .int .i64 0, .int .i64 0] 38)) := (Below.refl _ W).alloc (Nat.le_refl _) _
    gi_wp2_with ((with_reducible refine st_in ?_); refine AX.wpListIn_storeBox (vs := [.int .i64 x.s, .int .i64 x.f, .int .i64 x.t, .int .i64 x.a, .int .i64 x.l]) rfl rfl sz38g hT0 rfl rfl ?_; rintro W3 h3 h4 h5)
    have hX3 : Bx W3 W.heap.size 38 #[.int .i64 x.s, .int .i64 x.f, .int .i64 x.t, .int .i64 x.a, .int .i64 x.l] := h3
    have hB3 := hA0.trans (AX.below_turn (Nat.le_refl _) (.inl hX3.lt) h4 h5)
    have hl3 := (AX.But.of_below (A := L) hB3).lets V.heap.size
    exact hK _ W3 ⟨hB3.size, fun k o _ hk _ => (hB3.block k (Array.getElem?_eq_some_iff.1 hk).1).trans hk⟩ (AX.Keep.of_below hB3) ⟨⟨v, hv.lets (by omega) hl3, hrow.lets (by omega) hl3, hH⟩, But.lets' hB (by omega) hl3⟩ ⟨W.heap.size, hlt, hX3, rfl⟩
  case body =>
    rintro y pre x a' H W ⟨⟨v, hv, hrow, hH⟩, hB⟩ hHW ⟨T, hT, hX, rfl⟩ hPp
    have hlt := hLb _ _ hPp
    clear hPp hLb
    have hc : W.cell? ⟨w.heap.size, 0, none⟩ = some v := hv.cell 0
    have hvl := hv.lt
    obtain ⟨x0, x1, x2, x3, x4⟩ := Bx.five hX
    gi_wp2_with (first
      | (gi_at_builtin; refine append_jIn _ (w.heap.size + 1) _ pre x rfl _ _ rfl rfl (hrow.1.alloc (.cells #[.int .i64 x.s, .int .i64 x.f, .int .i64 x.t, .int .i64 x.a, .int .i64 x.l] 38)) ⟨W.heap.size, 0, none⟩ rfl (jcells_new W x) (by omega) (by simp; omega) ?_; intro v' w1 hown hg; have hv1 := box_kept hv hrow.1 (Nat.lt_succ_self _) hg; obtain ⟨aa, cc, rfl⟩ := row_shape hown)
      | ((with_reducible refine st_in ?_); refine AX.wpListIn_storeCell (o := 0) (v := .slice aa (pre ++ [x]).length cc) rfl rfl rfl sz24 hv1 (show 0 < 1 by decide) ?_; rintro w2 h3 h4 h5))
    have h3' : Bx w2 w.heap.size 24 #[.slice aa (pre ++ [x]).length cc] := h3
    obtain ⟨r1, r2, r3, r4⟩ := appended (P := Vb w0.heap.size L) hHW hv hrow (Nat.lt_succ_self _) hH (fun k hk h => by rcases h with h | h <;> omega) hown hg h3' h4 h5 V.heap.size
    exact ⟨r3, r2, ⟨_, h3', r1, by have := h3'.lt; omega⟩, But.snoc hB (Nat.le_refl _) r4⟩
  case done =>
    rintro D H ys W hD rfl ⟨⟨v, hv, hrow, hH⟩, hB⟩ hK
    have hc : W.cell? ⟨w.heap.size, 0, none⟩ = some v := hv.cell 0
    gi_wp2
    refine ⟨by simp, .inl ⟨_, _, rfl, run_takeDeferred hK, ?_⟩⟩
    have hl := AX.Lets.put (A := L) (B := w.heap.size) (.deferred none) hK rfl (by omega)
    exact ⟨_, results_tmp rfl _ _ _, ⟨v, rfl, row_base (hrow.lets (by omega) hl).1 (Nat.le_succ _)⟩, But.lets' hB (Nat.le_refl _) hl⟩
  case stop =>
    rintro D c pre W _ _ h _
    exact h.elim
set_option maxHeartbeats 1000000 in
theorem collect_in (n : Nat) (hn4 : 4 ≤ n) {w0 : World} {L : Nat} (hL : w0.heap.size ≤ L) (l : List J) (hl : l.length ≤ 1000000) (la : Option Addr) (c : Nat) (hR : RRow w0 (.slice la l.length c) l) (w : World) (hLw : L < w.heap.size) (hS : Fv w0 L (.slice la l.length c) w) :
    Calls Tryd.prog 65 #[.func (.func 67) #[] #[.pointer (some ⟨L, 0, none⟩)]] w fun e w' => (∃ v, e = .returned v ∧ DRow w' w.heap.size v (l)) ∧ AX.But (L) w w' := by
  have h42 := callsIn_wide.1 (appendSeq_in (n - 1) (by omega) hL l hl la c hR w hLw hS)
  go_enter Tryd.func65, Tryd.ntmps65
  go_wp2_with (go_at_call 69; ((with_reducible refine h42.mono ?_); rintro e w' ⟨⟨v, rfl, hv⟩, hB⟩))
  go_ret
  exact ⟨⟨v, rfl, hv⟩, hB⟩
end
end Go.Proofs.YtpplkjjfaibmmaaDoor

namespace Go.Proofs.YtpplkjjfaibmmaaDoor
open Go Go.Proofs Go.RowKit
attribute [local go_sem] Oper.semAt_some
set_option maxHeartbeats 1000000 in
/-- slices.Values hands back a closure with one box. -/
theorem values_k (la : Option Addr) (n c : Nat) (w : World) : Calls Tryd.prog 61 #[.slice la n c] w fun e w' => e = .returned (.func (.func 67) #[] #[.pointer (some ⟨w.heap.size, 0, none⟩)]) ∧ w' = w.alloc (.cells #[.slice la n c] 24) := by
  go_enter Tryd.func61, Tryd.ntmps61
  go_wp2
  go_ret
  exact ⟨rfl, rfl⟩
end Go.Proofs.YtpplkjjfaibmmaaDoor
