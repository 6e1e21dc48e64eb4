/- Regex: order walked. -/
import Derived.Test.YtpbkgegkjglibaaDoorW17
import Derived.Test.YtpbkgegkjglibaaDoorRf1
import Derived.Test.YtpbkgegkjglibaaDoorSt4
import Derived.TacticsInMore
import Derived.LoopNIn
import Derived.LoopIn
import Derived.WalkKit
import Derived.Shelf.Abstract
import Derived.Test.YtpbkgegkjglibaaDoorS4
import Derived.Test.YtpbkgegkjglibaaDoorQ3
import Derived.OwnWalkIn
import Derived.RangeFuncLeaves
namespace Go.Proofs.YtpbkgegkjglibaaDoor
open Go Go.Proofs Go.RowKit
attribute [local go_sem] Oper.semAt_some
/-- What the closure leans on: the caller's heap, its box. -/
structure Fv (w0 : World) (L : Nat) (v : Value) (W : World) : Prop where
  b : Below w0.heap.size w0 W
  l : W.heap[L]? = some (.cells #[v] 43 (0, 0))
def Vb (n0 L k : Nat) : Prop := k < n0 ∨ k = L
theorem Fv.keep {w0 : World} {L H : Nat} {v : Value} {X Y : World} (h : Fv w0 L v X) (hk : AX.Keep (Vb w0.heap.size L) H X Y) : Fv w0 L v Y := by
  have hb : ∀ k, k < w0.heap.size → Y.heap[k]? = X.heap[k]? := fun k hk0 => by
    have hlt : k < X.heap.size := Nat.lt_of_lt_of_le hk0 h.b.size
    rw [hk.same k X.heap[k] (Array.getElem?_eq_getElem hlt) (.inl (.inl hk0)), Array.getElem?_eq_getElem hlt]
  exact ⟨⟨hk.low.os.trans h.b.os, hk.low.tape.trans h.b.tape, hk.low.output.trans h.b.output, Nat.le_trans h.b.size hk.low.size, fun k hk0 => (hb k hk0).trans (h.b.block k hk0)⟩, hk.same _ _ h.l (.inl (.inr rfl))⟩
theorem Fv.below {w0 : World} {L : Nat} {v : Value} {X Y : World} (h : Fv w0 L v X) (hk : Below X.heap.size X Y) : Fv w0 L v Y := h.keep (H := 0) (AX.Keep.of_below hk)
/-- Places and numbers of a row, the last one first. -/
def bkp (l : List Int) (k : Nat) : Int × Int := ((l.length : Int) - 1 - k, l.reverse.getD k 0)
def bk (l : List Int) (k : Nat) : List (Int × Int) := (List.range k).map (bkp l)
theorem bk_succ (l : List Int) (k : Nat) : bk l (k + 1) = bk l k ++ [bkp l k] := by simp [bk, List.range_succ]
theorem bk_len (l : List Int) (k : Nat) : (bk l k).length = k := by simp [bk]
theorem bk_snd (l : List Int) (k : Nat) (hk : k ≤ l.length) : (bk l k).map (·.2) = l.reverse.take k := by
  apply List.ext_getElem?
  intro i
  rw [List.getElem?_map, List.getElem?_take]
  unfold bk
  rw [List.getElem?_map]
  by_cases hi : i < k
  · have h1 : i < l.reverse.length := by simp; omega
    rw [if_pos hi, List.getElem?_range hi, List.getElem?_eq_getElem h1]
    simp [bkp, List.getD_eq_getElem?_getD, List.getElem?_eq_getElem h1]
  · rw [if_neg hi, List.getElem?_eq_none (by simp; omega)]
    rfl
theorem bkp_at (l : List Int) (k : Nat) (hk : k < l.length) : l[l.length - 1 - k]? = some (bkp l k).2 := by
  unfold bkp
  dsimp only
  rw [List.getD_eq_getElem?_getD, List.getElem?_reverse hk]
  rw [List.getElem?_eq_getElem (by omega)]
  rfl
theorem sz43n : AX.sizeT Tryd.prog 43 = some 1 := by kernel_rfl
set_option maxHeartbeats 1000000 in
/-- slices.Backward hands back a closure with one box. -/
theorem backward_k (la : Option Addr) (n c : Nat) (w : World) : Calls Tryd.prog 48 #[.slice la n c] w fun e w' => e = .returned (.func (.func 62) #[] #[.pointer (some ⟨w.heap.size, 0, none⟩)]) ∧ w' = w.alloc (.cells #[.slice la n c] 43) := by
  go_enter Tryd.func48, Tryd.ntmps48
  go_wp2
  go_ret
  exact ⟨rfl, rfl⟩
set_option maxRecDepth 100000 in
set_option maxHeartbeats 4000000 in
theorem back1_in (n A : Nat) (hn1 : 1 ≤ n) {w0 : World} {L : Nat} (l : List Int) (hl : l.length ≤ 1000000) (la : Option Addr) (c : Nat) (hR : IRd w0 (.slice la l.length c) l) (y : Nat) (J' : Nat → List (Int × Int) → World → Prop) (Jx : List (Int × Int) → World → Prop) (_hJ : ∀ H q X Y, J' H q X → AX.But A X Y → J' H q Y)
    (hY : ∀ (pre : List (Int × Int)) (x : Int × Int) (H : Nat) (W : World), J' H pre W → H ≤ W.heap.size → (∃ k, k < l.length ∧ pre = bk l k ∧ x = bkp l k) → YieldAt Fence.wide (n - 1) Tryd.prog y #[.int .i64 x.1, .int .i64 x.2] W fun e W' =>
      (e = .returned (.bool true) ∧ J' W'.heap.size (pre ++ [x]) W' ∧ AX.Keep (Vb w0.heap.size L) H W W') ∨ (e = .returned (.bool false) ∧ Jx (pre ++ [x]) W'))
    (W : World) (hS : Fv w0 L (.slice la l.length c) W) (h0 : J' W.heap.size [] W) :
    CallsIn Fence.wide n Tryd.prog 62 #[.func (.yield y) #[] #[], .pointer (some ⟨L, 0, none⟩)] W fun e W' => (∃ v, e = .returned v) ∧ ((∃ H xs, xs = bk l l.length ∧ J' H xs W') ∨ (∃ pre, True ∧ Jx pre W')) := by
  have c1 : W.cell? ⟨L, 0, none⟩ = some (.slice la l.length c) := by simp [World.cell?, hS.l]
  refine callsIn_of_wp Tryd.func62 rfl trivial ?_ rfl
  simp only [Tryd.ntmps62, List.size_toArray, List.length_cons, List.length_nil, Nat.reduceAdd, Nat.reduceSub, Array.replicate_succ, Array.replicate_zero, List.push_toArray, List.append_toArray, List.nil_append, List.cons_append]
  gi_wp2_with fail
  gi_loopw [3] (fun i wr => ∃ k : Nat, k ≤ l.length ∧ i = .int .i64 ((l.length : Int) - 1 - k) ∧ Fv w0 L (.slice la l.length c) wr ∧ J' wr.heap.size (bk l k) wr) (fun i _ => (intOf i + 1).toNat)
  case atStart => exact ⟨0, Nat.zero_le _, by simp, hS, by simpa [bk] using h0⟩
  case round =>
    obtain ⟨k, hk, rfl, hSr, hJr⟩ := hrel
    clear hS h0 c1
    have c1 : wr.cell? ⟨L, 0, none⟩ = some (.slice la l.length c) := by simp [World.cell?, hSr.l]
    by_cases hlt : k < l.length
    · obtain ⟨la', c', hv, hno, hn2⟩ := id hR
      cases hv
      cases la with
      | none =>
        have := hno rfl
        subst this
        simp at hlt
      | some ad =>
        obtain ⟨B, off, rfl, hBl, hrow⟩ := hn2 _ rfl (by intro e; subst e; simp at hlt)
        have y0 := (hSr.b.cell (p := ⟨B, off + (l.length - 1 - k), none⟩) hBl).trans (hrow (l.length - 1 - k) _ (bkp_at l k hlt))
        obtain ⟨fn, tmps, assign, body, hy, hRo⟩ := hY (bk l k) (bkp l k) wr.heap.size _ hJr (Nat.le_refl _) ⟨k, hlt, rfl, rfl⟩
        have hk0 : (0 : Int) ≤ (l.length : Int) - 1 - (k : Int) := by omega
        have hk1 : (l.length : Int) - 1 - (k : Int) < (l.length : Int) := by omega
        have hkt : ((l.length : Int) - 1 - (k : Int)).toNat = l.length - 1 - k := by omega
        have hBw : B < wr.heap.size := Nat.lt_of_lt_of_le hBl hSr.b.size
        have htk : Hid (bk l (k + 1) = bk l k ++ [bkp l k]) := Lib.hid (bk_succ l k)
        have hp1 : (bkp l k).1 = (l.length : Int) - 1 - (k : Int) := rfl
        rw [hp1] at hy
        generalize (bkp l k).2 = x2 at *
        clear hn2 hrow hp1
        gi_wp2_with fail
        refine hRo.mono ?_
        rintro e W4 (⟨rfl, hJ4, hK4⟩ | ⟨rfl, hJx4⟩)
        · have hS4 := hSr.keep hK4
          clear hy hRo
          gi_wp2_with fail
          go_roundw
          case rel => exact ⟨k + 1, by omega, by congr 1; omega, hS4, by rw [htk.out]; exact hJ4⟩
          case measure => simp [intOf]; omega
        · clear hy hRo
          gi_wp2_with fail
          refine bodyPost_ret (results_none rfl _ _ _) rfl ?_
          exact ⟨⟨_, rfl⟩, .inr ⟨_, trivial, hJx4⟩⟩
    · obtain rfl : k = l.length := by omega
      have hk0 : ¬ (0 : Int) ≤ (l.length : Int) - 1 - (l.length : Int) := by omega
      gi_wp2_with fail
      go_end0
      exact ⟨⟨_, rfl⟩, .inl ⟨_, hJr⟩⟩
end Go.Proofs.YtpbkgegkjglibaaDoor

namespace Go.Proofs.YtpbkgegkjglibaaDoor
open Go Go.Proofs Go.RowKit
attribute [local go_sem] Oper.semAt_some
theorem st_in {F : Fence} {m : Nat} {P : Program} {ops : Array Oper} {Q : Exit → Act → World → Prop} {a : Act} {w : World} {rest : List Oper} {t : TypeId} {x y : Operand} {ty : TypeId} {pos : String} {after : Array Edge}
    (h : wpListIn F m P ops Q ({ dst := none, op := .store t x y, type := ty, pos := pos, after := after, guard := none } :: rest) a w) :
    wpListIn F m P ops Q ({ dst := none, op := .store t x y, type := ty, pos := pos, after := after, guard := none } :: rest) a w := h
theorem append_iIn {F : Fence} {n : Nat} {ops : Array Oper} {rest : List Oper} {o : Oper} {a : Act} {Q : Exit → Act → World → Prop} (W : World) (base : Nat) (v : Value) (pre : List Int) (x : Int) (hgd : o.guard = none) (s y : Operand)
    (ho : o.op = .call { callee := .builtin .append, args := #[s, y], argTypes := #[43, 43] }) (hs : a.eval s = v) (hown : IOwn W base v pre) (B c : Nat) (hx : a.eval y = .slice (some ⟨B, 0, none⟩) 1 c)
    (hc : W.cell? ⟨B, 0, none⟩ = some (.int .i64 x)) (hl : pre.length ≤ 100000) (hb : base ≤ W.heap.size)
    (h : ∀ v' w', IOwn w' base v' (pre ++ [x]) → W.grownBy w' v.ownBlock → (v'.ownBlock = v.ownBlock ∨ v'.ownBlock = some W.heap.size) → wpListIn F n Tryd.prog ops Q rest (a.put o.dst v') w') : wpListIn F n Tryd.prog ops Q (o :: rest) a W := by
  obtain ⟨ti, hi, hz0, hz1, hz2⟩ := info_parts info3'
  refine wpListIn_plain hgd fun K hK => ?_
  obtain ⟨v', w', hr, h2, h3, _, h5⟩ := run_append_own_at (P := Tryd.prog) W base 43 o.type 3 ti (.int .i64 0) 1 8 Tryd.underlying43 hi hz0 hz1 hz2 rfl (by decide) v pre.length _ hown ⟨B, 0, none⟩ 1 c [.int .i64 x] rfl
    (fun j u hj => by
      rw [addr_add, Nat.zero_add]
      cases j with
      | zero => simp at hj; rw [← hj]; exact hc
      | succ j => simp at hj) (fun u hu => by rw [List.mem_singleton.1 hu]; rfl) (by unfold maxLen; omega) (by omega) hb
  unfold Oper.wpIn
  refine ⟨?_, ?_⟩
  · simp [Oper.about, ho, resolve, Target.leads, Sem.run_pure]
  · rw [Oper.semAt_plain F _ _ (by rw [ho]; intro c hc'; cases hc')]
    simp [execOp, ho, resolve, invoke, builtin, hs, hx, hr, Result.andThen]
    refine hK _ _ (h v' w' ?_ h3 h5)
    unfold IOwn
    rw [List.length_append, List.map_append]
    exact h2
theorem IOwn.less {W : World} {base g c : Nat} {D : List Int} {x : Int} (h : IOwn W base (.slice (some ⟨g, 0, none⟩) (D.length + 1) c) (D ++ [x])) : IOwn W base (.slice (some ⟨g, 0, none⟩) D.length c) D ∧ D.length + 1 ≤ c := by
  rcases h.2 with ⟨e1, _⟩ | ⟨g', cap, cur, e1, hg, hh, hc1, hc2, hc3, hc4⟩
  · cases e1
  · obtain ⟨rfl, rfl⟩ : g = g' ∧ c = cap := by
      injection e1 with a1 a2 a3
      injection a1 with a1
      injection a1 with a1
      exact ⟨a1, a3⟩
    have hl : (D ++ [x]).length = D.length + 1 := by simp
    rw [hl] at hc1 hc4
    refine ⟨⟨by simp, .inr ⟨g, c, cur, rfl, hg, hh, by omega, hc2, hc3, ?_⟩⟩, hc1⟩
    have e2 : D.map (Value.int .i64) = ((D ++ [x]).map (Value.int .i64)).take (D.length * 1) := by
      have hm : D.length * 1 = (D.map (Value.int .i64)).length := by simp
      rw [List.map_append, hm, List.take_left]
    rw [e2, ← hc4, List.take_take]
    congr 1
    omega
theorem not_own_def {w : World} {base : Nat} {e : TypeId} {size n B : Nat} {v : Value} {xs : List Value} {ds : Option (List Deferred)} (h : w.ownsRow base e size v n xs) (hB : w.heap[B]? = some (.deferred ds)) : some B ≠ v.ownBlock := fun e' => by
  obtain ⟨cs, hc⟩ := own_type h B e'.symm
  rw [hc] at hB; cases hB
/-- order's stack, what it has told. -/
structure Ost (w W : World) (Tb : Nat) (sv : Value) (stk : List Int) (ov : Value) (out : List Int) : Prop where
  low : Below w.heap.size w W
  tb : w.heap.size ≤ Tb
  bx : Bx W Tb 43 #[sv]
  so : IOwn W w.heap.size sv stk
  oo : IOwn W w.heap.size ov out
  ap : Apart sv ov
section
variable {w W W' : World} {Tb : Nat} {sv ov : Value} {stk out : List Int}
theorem Ost.below (h : Ost w W Tb sv stk ov out) (hb : Below W.heap.size W W') : Ost w W' Tb sv stk ov out :=
  ⟨h.low.trans (hb.mono h.low.size), h.tb, h.bx.below hb h.bx.lt, own_same h.so (fun g e => hb.block _ (World.ownsRow.lt h.so g e).2), own_same h.oo (fun g e => hb.block _ (World.ownsRow.lt h.oo g e).2), h.ap⟩
theorem Ost.lets {A B : Nat} (h : Ost w W Tb sv stk ov out) (hsA : sv.ownBlock ≠ some A) (hoA : ov.ownBlock ≠ some A) (hT : Tb ≠ A) (hwA : w.heap.size ≤ A) (hwB : w.heap.size ≤ B) (hl : AX.Lets A B W W') : Ost w W' Tb sv stk ov out := by
  have own : ∀ {v : Value} {l : List Int}, v.ownBlock ≠ some A → IOwn W w.heap.size v l → IOwn W' w.heap.size v l := fun {v l} hne hv => own_same hv fun g e => by
    obtain ⟨cs, hc⟩ := own_type hv g e
    exact (hl.same g _ hc (fun e' => hne (e' ▸ e)) (.inr rfl)).trans hc.symm
  refine ⟨⟨hl.low.os.trans h.low.os, hl.low.tape.trans h.low.tape, hl.low.output.trans h.low.output, Nat.le_trans h.low.size hl.low.size, fun k hk => ?_⟩, h.tb, hl.same Tb _ h.bx hT (.inr rfl), own hsA h.so, own hoA h.oo, h.ap⟩
  have hlt : k < W.heap.size := Nat.lt_of_lt_of_le hk h.low.size
  rw [hl.same k W.heap[k] (Array.getElem?_eq_getElem hlt) (by omega) (.inl (by omega)), ← h.low.block k hk, Array.getElem?_eq_getElem hlt]
/-- The stack in a new box. -/
theorem Ost.rebox (h : Ost w W Tb sv stk ov out) {W1 : World} (hb : Below W.heap.size W W1) (h3 : W1.heap[W.heap.size]? = some (.cells #[sv] 43 (0, 0))) : Ost w W1 W.heap.size sv stk ov out :=
  let h' := h.below hb
  ⟨h'.low, h.low.size, h3, h'.so, h'.oo, h'.ap⟩
/-- A number is pushed. -/
theorem Ost.push {W1 W2 : World} {v' : Value} {x : Int} (h : Ost w W Tb sv stk ov out) (ho : IOwn W1 w.heap.size v' (stk ++ [x])) (hg : W.grownBy W1 sv.ownBlock) (hat : v'.ownBlock = sv.ownBlock ∨ v'.ownBlock = some W.heap.size)
    (h3 : W2.heap[Tb]? = some (.cells #[v'] 43 (0, 0))) (h4 : ∀ k, k ≠ Tb → W2.heap[k]? = W1.heap[k]?) (h5 : AX.Same W1 W2) : Ost w W2 Tb v' (stk ++ [x]) ov out ∧ Below w.heap.size W W2 ∧ ∀ k, k < W.heap.size → k ≠ Tb → some k ≠ sv.ownBlock → W2.heap[k]? = W.heap[k]? := by
  have b1 : Below w.heap.size W W1 := (Below.refl w.heap.size W).grown hg h.low.size fun j ej => (World.ownsRow.lt h.so j ej).1
  have b2 : Below w.heap.size W1 W2 := AX.below_turn h.tb (.inl (Array.getElem?_eq_some_iff.1 h3).1) h4 h5
  have hT1 : Bx W1 Tb 43 #[sv] := (hg.block Tb h.bx.lt (not_own h.so h.bx (by decide))).trans h.bx
  have hob := World.ownsRow.lt h.oo
  refine ⟨⟨h.low.trans (b1.trans b2), h.tb, h3, own_same ho (fun g e => ?_), own_same h.oo (fun g e => ?_), fun g hg' hg2 => ?_⟩, b1.trans b2, fun k hk hT hs => ?_⟩
  · obtain ⟨cs, hc⟩ := own_type ho g e
    refine h4 g fun e' => ?_
    subst e'
    rw [show W1.heap[g]? = _ from hT1] at hc
    cases hc
  · obtain ⟨cs, hc⟩ := own_type h.oo g e
    rw [h4 g (fun e' => by subst e'; rw [show W.heap[g]? = _ from h.bx] at hc; cases hc)]
    exact hg.block g (hob g e).2 (fun e' => h.ap g e'.symm e)
  · rcases hat with e | e
    · exact h.ap g (e ▸ hg') hg2
    · rw [e] at hg'
      have := (hob g hg2).2
      have := Option.some.inj hg'
      omega
  · rw [h4 k hT]
    exact hg.block k hk hs
end
theorem Ost.less {w W W' : World} {Tb g cap : Nat} {ov : Value} {D out : List Int} {x : Int} (h : Ost w W Tb (.slice (some ⟨g, 0, none⟩) (D.length + 1) cap) (D ++ [x]) ov out)
    (h3 : W'.heap[Tb]? = some (.cells #[.slice (some ⟨g, 0, none⟩) D.length cap] 43 (0, 0))) (h4 : ∀ k, k ≠ Tb → W'.heap[k]? = W.heap[k]?) (h5 : AX.Same W W') : Ost w W' Tb (.slice (some ⟨g, 0, none⟩) D.length cap) D ov out := by
  have hs : SBut 43 W W' := sbut_block h.bx h4
  exact ⟨h.low.trans (AX.below_turn h.tb (.inl (Array.getElem?_eq_some_iff.1 h3).1) h4 h5), h.tb, h3, own_sbut h.so.less.1 hs (by decide), own_sbut h.oo hs (by decide), fun q hq => h.ap q hq⟩
/-- A number is told. -/
theorem Ost.tell {w W W1 : World} {Tb : Nat} {sv ov ov' : Value} {stk out : List Int} {x : Int} (h : Ost w W Tb sv stk ov out) (ho : IOwn W1 w.heap.size ov' (out ++ [x])) (hg : W.grownBy W1 ov.ownBlock) (hat : ov'.ownBlock = ov.ownBlock ∨ ov'.ownBlock = some W.heap.size) : Ost w W1 Tb sv stk ov' (out ++ [x]) ∧ Below w.heap.size W W1 := by
  have b1 : Below w.heap.size W W1 := (Below.refl w.heap.size W).grown hg h.low.size fun j ej => (World.ownsRow.lt h.oo j ej).1
  have hsb := World.ownsRow.lt h.so
  refine ⟨⟨h.low.trans b1, h.tb, (hg.block Tb h.bx.lt (not_own h.oo h.bx (by decide))).trans h.bx, own_same h.so (fun g e => hg.block g (hsb g e).2 (fun e' => h.ap g e e'.symm)), ho, fun g hg1 hg2 => ?_⟩, b1⟩
  rcases hat with e | e
  · exact h.ap g hg1 (e ▸ hg2)
  · rw [e] at hg2
    have := (hsb g hg1).2
    have := Option.some.inj hg2
    omega
/-- Marks that range loops leave among the deferred calls. -/
def Mk (base : Nat) (W : World) : List Deferred → Prop
  | [] => True
  | d :: ds => ∃ D, d = { target := .collected D, args := #[] } ∧ base ≤ D ∧ W.heap[D]? = some (.deferred (some [])) ∧ (∀ d' ∈ ds, d' ≠ { target := .collected D, args := #[] }) ∧ Mk base W ds
theorem Mk.mem {base : Nat} {W : World} : ∀ {ds : List Deferred}, Mk base W ds → ∀ d ∈ ds, ∃ D, d = { target := .collected D, args := #[] } ∧ base ≤ D ∧ W.heap[D]? = some (.deferred (some []))
  | [], _, d, hd => by cases hd
  | d0 :: ds, ⟨D, h1, h2, h3, _, h5⟩, d, hd => by
    rcases List.mem_cons.1 hd with rfl | hd
    · exact ⟨D, h1, h2, h3⟩
    · exact Mk.mem h5 d hd
theorem Mk.keep {base : Nat} {W W' : World} : ∀ {ds : List Deferred}, Mk base W ds → (∀ D, { target := .collected D, args := #[] } ∈ ds → W.heap[D]? = some (.deferred (some [])) → W'.heap[D]? = some (.deferred (some []))) → Mk base W' ds
  | [], _, _ => trivial
  | d0 :: ds, ⟨D, h1, h2, h3, h4, h5⟩, hk => ⟨D, h1, h2, hk D (by rw [h1]; exact List.mem_cons_self ..) h3, h4, h5.keep fun D' hD' => hk D' (List.mem_cons_of_mem _ hD')⟩
/-- What is turned by taking marks off. -/
structure Tk (base : Nat) (W W' : World) : Prop where
  low : Below base W W'
  same : ∀ (k : Nat) (o : Obj), W.heap[k]? = some o → o.isCells = true → W'.heap[k]? = some o
theorem leaves_mk {F : Fence} {n : Nat} {P : Program} {fn : Func} {tmps : Array Value} {R : Ending → World → Prop} {base : Nat} : ∀ (ds : List Deferred) (W : World), Mk base W ds → (∀ W', Tk base W W' → LeavesIn F n P fn tmps R [] .returning W') → LeavesInM F n P fn tmps R ds .returning W
  | [], W, _, h => h W ⟨Below.refl _ _, fun _ _ hk _ => hk⟩
  | d :: ds, W, ⟨D, h1, h2, h3, h4, h5⟩, h => by
    subst h1
    refine ⟨by simp, .inl ⟨_, _, rfl, run_takeDeferred h3, ?_⟩⟩
    have hlow : Below base W (W.putObj D (.deferred none)) := (Below.refl base W).grown (grownBy_putObj' W D _) (by have := (Array.getElem?_eq_some_iff.1 h3).1; omega) (fun k e => by cases e; exact h2)
    refine leaves_mk ds _ (h5.keep fun D' hD' hk => ?_) fun W' hT => h W' ⟨hlow.trans hT.low, fun k o hk hc => hT.same k o ((World.putObj_heap_other (fun e => ?_)).trans hk) hc⟩
    · exact (World.putObj_heap_other (fun e => h4 _ hD' (by rw [e]))).trans hk
    · subst e; rw [h3] at hk; cases hk; cases hc
theorem flat_ge (f : Int → List Int) : ∀ l : List Int, (∀ k ∈ l, 1 ≤ (f k).length) → l.length ≤ (l.flatMap f).length
  | [], _ => by simp
  | k :: l, h => by
    have h1 := h k (List.mem_cons_self ..)
    have h2 := flat_ge f l (fun q hq => h q (List.mem_cons_of_mem _ hq))
    rw [List.flatMap_cons, List.length_append, List.length_cons]
    omega
def lenOf (v : Value) : Nat := match v with
  | .slice _ n _ => n
  | _ => 0
set_option maxRecDepth 100000 in
set_option maxHeartbeats 8000000 in
theorem order_k (r : List Nd) (ok : RxOk r) (v : Value) (w : World) (hR : RRow w v r) : Calls Tryd.prog 31 #[v] w fun e w' => (∃ v', e = .returned v' ∧ IRd w' v' (preI r ((r.length : Int) - 1))) ∧ Below w.heap.size w w' := by
  obtain ⟨la, c, rfl, hno, hX⟩ := hR
  have hr1 := ok.one
  have hr2 := ok.most
  refine (callsIn_wide (n := 9)).1 (callsIn_of_wp_marks Tryd.func31 rfl trivial ?_ rfl)
  simp only [Tryd.ntmps31, List.size_toArray, List.length_cons, List.length_nil, Nat.reduceAdd, Nat.reduceSub, Array.replicate_succ, Array.replicate_zero, List.push_toArray, List.append_toArray, List.nil_append, List.cons_append]
  gi_wp2_with fail
  refine wpIn_loop (fun a' W' => ∃ (Tb : Nat) (sv : Value) (stk : List Int) (ov : Value) (out : List Int) (ds : List Deferred) (u4 u11 u12 u13 u14 u15 u16 u17 u18 u19 u20 u21 u22 u23 u24 u25 u26 u27 u28 u29 u30 u31 u32 u33 u34 u41 : Value), a' = { tmps := #[.slice la r.length c, undef, ov, .pointer (some ⟨Tb, 0, none⟩), u4, undef, undef, .slice la r.length c, .int .i64 r.length, .int .i64 ((r.length : Int) - 1), .slice (some ⟨w.heap.size, 0, none⟩) 1 1, u11, u12, u13, u14, u15, u16, u17, u18, u19, u20, u21, u22, u23, u24, u25, u26, u27, u28, u29, u30, u31, u32, u33, u34, undef, undef, undef, undef, undef, undef, u41, undef], defers := ds } ∧
    Ost w W' Tb sv stk ov out ∧ Mk w.heap.size W' ds ∧ Hid (out ++ stk.reverse.flatMap (preI r) = preI r ((r.length : Int) - 1)) ∧ Hid (∀ k ∈ stk, 0 ≤ k ∧ k < r.length)) (fun a' _ => r.length - lenOf (a'.tmps.getD 2 undef)) ?start ?round
  case start =>
    have hS := (Bx.new w 3 #[.int .i64 ((r.length : Int) - 1)])
    have hb1 := (Below.refl w.heap.size w).alloc (Nat.le_refl _) (.cells #[.int .i64 ((r.length : Int) - 1)] 3)
    have hz : (w.alloc (.cells #[.int .i64 ((r.length : Int) - 1)] 3)).heap.size = w.heap.size + 1 := by simp
    have hT := Bx.new (w.alloc (.cells #[.int .i64 ((r.length : Int) - 1)] 3)) 43 #[.slice (some ⟨w.heap.size, 0, none⟩) 1 1]
    have hb2 := (Below.refl (w.heap.size + 1) (w.alloc (.cells #[.int .i64 ((r.length : Int) - 1)] 3))).alloc (by omega) (.cells #[.slice (some ⟨w.heap.size, 0, none⟩) 1 1] 43)
    rw [hz] at hT
    refine ⟨w.heap.size + 1, .slice (some ⟨w.heap.size, 0, none⟩) 1 1, [(r.length : Int) - 1], .slice none 0 0, [], [], _, _, _, _, _, _, _, _, _, _, _, _, _, _, _, _, _, _, _, _, _, _, _, _, _, _, rfl, ⟨hb1.trans (hb2.mono (Nat.le_succ _)), Nat.le_succ _, hT, ?_, World.ownsRow_nil _ _ _ _, fun g _ => by simp [Value.ownBlock]⟩, trivial, Lib.hid (by simp), Lib.hid (by simp; omega)⟩
    exact ⟨rfl, .inr ⟨w.heap.size, 1, _, rfl, Nat.le_refl _, (hb2.block _ (Nat.lt_succ_self _)).trans hS, Nat.le_refl _, by decide, rfl, rfl⟩⟩
  case round =>
    rintro a' wr ⟨Tb, sv, stk, ov, out, ds, u4, u11, u12, u13, u14, u15, u16, u17, u18, u19, u20, u21, u22, u23, u24, u25, u26, u27, u28, u29, u30, u31, u32, u33, u34, u41, rfl, hO, hM, HL, HB⟩
    have hsl : stk.length ≤ 512 := by
      have h1 := congrArg List.length HL.out
      rw [pre_len ok, List.length_append] at h1
      have h2 := flat_ge (preI r) stk.reverse (fun k hk => by
        have hb := HB.out k (List.mem_reverse.1 hk)
        obtain ⟨xi, rfl⟩ : ∃ xi : Nat, k = (xi : Int) := ⟨k.toNat, by omega⟩
        obtain ⟨nd, hnd⟩ : ∃ nd, r[xi]? = some nd := ⟨_, List.getElem?_eq_getElem (by omega)⟩
        rw [pre_eq hnd (ok.nd xi nd hnd).kids]
        simp)
      rw [List.length_reverse] at h2
      omega
    rcases List.eq_nil_or_concat stk with rfl | ⟨D, x, hD⟩
    · obtain ⟨l0, n0, rfl⟩ := hO.so.form
      have c0 : wr.cell? ⟨Tb, 0, none⟩ = some (.slice l0 0 n0) := hO.bx.cell 0
      have HOO := Lib.hid hO
      clear hO
      gi_wp2_with fail
      refine leaves_mk ds wr hM fun W' hT => ?_
      have hO := HOO.out
      have hk : KAt wr none ov out := KAt.of_own hO.oo (fun g _ => by simp)
      have hk' : KAt W' none ov out := hk.same fun B cs hB hn => ⟨(hT.same B _ hB rfl).trans hB.symm, hn⟩
      have he : out = preI r ((r.length : Int) - 1) := by simpa using HL.out
      exact ⟨_, results_tmp rfl _ _ _, ⟨ov, rfl, he ▸ hk'.ird⟩, hO.low.trans hT.low⟩
    · rw [List.concat_eq_append] at hD
      subst hD
      obtain ⟨g, cap, cs, rfl, hg, hgb, hgs, hgc⟩ := hO.so.cells (by simp)
      have hDl : (D ++ [x]).length = D.length + 1 := by simp
      rw [hDl] at hO hgs hsl
      have hgx := hgc D.length x (by simp)
      have c0 : wr.cell? ⟨Tb, 0, none⟩ = some (.slice (some ⟨g, 0, none⟩) (D.length + 1) cap) := hO.bx.cell 0
      obtain ⟨hless, hcap⟩ := hO.so.less
      have hxb := HB.out x (by simp)
      obtain ⟨xi, rfl⟩ : ∃ xi : Nat, x = (xi : Int) := ⟨x.toNat, by omega⟩
      obtain ⟨nd, hnd⟩ : ∃ nd, r[xi]? = some nd := ⟨_, List.getElem?_eq_getElem (by omega)⟩
      cases la with
      | none => have := hno rfl; subst this; simp at hr1
      | some ad =>
      obtain ⟨B, off, rfl, hBl, hrow⟩ := hX _ rfl (by intro e; subst e; simp at hr1)
      have hxa := hrow xi nd hnd
      have hd0 : (0 : Int) ≤ (D.length : Int) := by omega
      have hd1 : (D.length : Int) < (D.length : Int) + 1 := by omega
      have hd2 : (0 : Int) < (D.length : Int) + 1 := by omega
      have hd3 : (D.length : Int) ≤ (cap : Int) := by omega
      have hx0 : (0 : Int) ≤ (xi : Int) := by omega
      have hx1 : (xi : Int) < (r.length : Int) := by omega
      obtain ⟨kv, hkv, hIR⟩ := hxa.c5
      obtain ⟨lk, ck, rfl, hik⟩ := hIR
      have HIK : Hid (IRd w (.slice lk nd.kids.length ck) nd.kids) := Lib.hid ⟨lk, ck, rfl, hik⟩
      have hNd := ok.nd xi nd hnd
      have hBW : ∀ W2 : World, Below w.heap.size w W2 → W2.cell? ⟨B, off + xi * 6 + 5, none⟩ = some (.slice lk nd.kids.length ck) := fun W2 hb => (hb.cell (p := ⟨B, off + xi * 6 + 5, none⟩) hBl).trans hkv
      have hBw : B < wr.heap.size := Nat.lt_of_lt_of_le hBl hO.low.size
      have hoa : ∀ (W2 : World), Below wr.heap.size wr W2 → True := fun _ _ => trivial
      have HOV : ∃ la0 n0, ov = .slice la0 out.length n0 := hO.oo.form
      have HOV := Lib.hid HOV
      have hf48 : Fence.wide.fn 48 := trivial
      have h48 := fun W => (callsIn_wide (n := 8)).2 (backward_k lk nd.kids.length ck W)
      have hol : out.length + 1 ≤ r.length := by
        have h1 := congrArg List.length HL.out
        rw [pre_len ok] at h1
        simp only [List.length_append, List.reverse_append, List.reverse_cons, List.reverse_nil, List.nil_append, List.singleton_append, List.flatMap_cons] at h1
        rw [pre_eq hnd hNd.kids] at h1
        simp only [List.length_cons] at h1
        omega
      have HHK := Lib.hid hNd.kids
      have HKL : Hid (nd.kids.length ≤ 512) := Lib.hid (by have := hNd.high; have := high_le nd.k; omega)
      have HND := Lib.hid hnd
      clear hoa hxa hrow hik hkv hNd hnd hgc hDl hxb
      gi_wp2_with (first
        | ((with_reducible refine st_in ?_); refine AX.wpListIn_storeCell (o := 0) (v := .slice (some ⟨g, 0, none⟩) D.length cap) rfl rfl rfl sz43n hO.bx (show 0 < 1 by decide) ?_; rintro W2 h3 h4 h5; have hO2 := hO.less h3 h4 h5; have hA3 := hO2.below ((Below.refl W2.heap.size W2).alloc (Nat.le_refl _) (.cells #[.int .i64 xi] 3)); have c3 := (Bx.new W2 3 #[.int .i64 (xi : Int)]).cell 0; have hM2 : Mk w.heap.size W2 ds := hM.keep (fun D' _ hD' => (h4 D' (fun e => (by subst e; rw [show wr.heap[D']? = _ from hO.bx] at hD'; cases hD'))).trans hD'))
        | (gi_at_builtin; refine append_iIn _ w.heap.size ov out xi rfl _ _ rfl rfl hA3.oo W2.heap.size 1 rfl c3 (by omega) hA3.low.size ?_; intro ov' W4 h6 h7 h8; obtain ⟨hO4, hb4⟩ := hA3.tell h6 h7 h8; have hkv4 := hBW W4 hO4.low; have hM4 : Mk w.heap.size W4 ds := hM2.keep (fun D' _ hD' => (by have hD3 : (W2.alloc (.cells #[.int .i64 (xi : Int)] 3)).heap[D']? = some (.deferred (some [])) := (((Below.refl W2.heap.size W2).alloc (Nat.le_refl _) (.cells #[.int .i64 xi] 3)).block D' (Array.getElem?_eq_some_iff.1 hD').1).trans hD'; exact (h7.block D' (Array.getElem?_eq_some_iff.1 hD3).1 (not_own_def hA3.oo hD3)).trans hD3)))
        | (gi_at_call 48; ((with_reducible refine (h48 _).mono ?_); rintro e W5 ⟨rfl, rfl⟩)))
      obtain ⟨L, hL⟩ : ∃ L, L = W4.heap.size := ⟨_, rfl⟩
      have hV := World.alloc_heap_new W4 (.cells #[.slice lk nd.kids.length ck] 43)
      have hbV := (Below.refl W4.heap.size W4).alloc (Nat.le_refl _) (.cells #[.slice lk nd.kids.length ck] 43)
      have hzV : (W4.alloc (.cells #[.slice lk nd.kids.length ck] 43)).heap.size = L + 1 := by rw [hL]; simp
      have hOV := hO4.below hbV
      have hFv : Fv w L (.slice lk nd.kids.length ck) (W4.alloc (.cells #[.slice lk nd.kids.length ck] 43)) := ⟨hOV.low, by rw [hL]; exact hV⟩
      have hMV : Mk w.heap.size (W4.alloc (.cells #[.slice lk nd.kids.length ck] 43)) ds := hM4.keep (fun D' _ hD' => (hbV.block D' (Array.getElem?_eq_some_iff.1 hD').1).trans hD')
      have hMlt : ∀ d ∈ ds, ∃ D', d = { target := .collected D', args := #[] } ∧ D' < L := fun d hd => by
        obtain ⟨D', h1, _, h2⟩ := hM4.mem d hd
        exact ⟨D', h1, by rw [hL]; exact (Array.getElem?_eq_some_iff.1 h2).1⟩
      have hsvL : ∀ q, (Value.slice (some ⟨g, 0, none⟩) D.length cap).ownBlock = some q → q < L := fun q hq => by rw [hL]; exact (World.ownsRow.lt hO4.so q hq).2
      have hovL : ∀ q, ov'.ownBlock = some q → q < L := fun q hq => by rw [hL]; exact (World.ownsRow.lt hO4.oo q hq).2
      have hTL : Tb < L := by rw [hL]; exact hO4.bx.lt
      have hwL : w.heap.size ≤ L := by rw [hL]; exact hO4.low.size
      rw [← hL]
      clear hL hV hbV hM4 hO4 hb4 hkv4 h6 h7 h8 hO2 hA3 c3 hM2 h3 h4 h5 hless hO hM hg hgx hgs hgb c0 hf48 h48 hBW hd0 hd1 hd2 hd3 hx0 hx1
      generalize W4.alloc (.cells #[.slice lk nd.kids.length ck] 43) = V at *
      refine AX.range_but (A := L) (B := Vb w.heap.size L) (Pp := fun pre x => ∃ k, k < nd.kids.length ∧ pre = bk nd.kids k ∧ x = bkp nd.kids k) (encs := fun x : Int × Int => #[.int .i64 x.1, .int .i64 x.2]) (S := fun xs => xs = bk nd.kids nd.kids.length) (Sp := fun _ => True) rfl (by omega) (gf := 62) (lb := #[.pointer (some ⟨L, 0, none⟩)]) rfl trivial (enters_of Tryd.func62 (by kernel_rfl) rfl) (by omega) (fun _ => rfl)
        (fun k h => by rcases h with h | h <;> omega) ?seq
        (fun H pre W => ∃ sv, Ost w W Tb sv (D ++ pre.map (·.2)) ov' (out ++ [(xi : Int)]) ∧ (∀ q, sv.ownBlock = some q → q < H ∧ q ≠ L) ∧ L < H ∧ Mk w.heap.size W ds) (fun _ _ _ => False) ?hI ?hIm (fun _ _ _ _ h _ => h)
        ⟨_, by simpa using hOV, fun q hq => by have := hsvL q hq; omega, by omega, hMV⟩
        (fun x a' _ => a' = { tmps := #[.slice (some ⟨B, off, none⟩) r.length c, undef, ov', .pointer (some ⟨Tb, 0, none⟩), .int .i64 xi, undef, .int .i64 x.2, .slice (some ⟨B, off, none⟩) r.length c, .int .i64 r.length, .int .i64 ((r.length : Int) - 1), .slice (some ⟨w.heap.size, 0, none⟩) 1 1, .slice (some ⟨g, 0, none⟩) (D.length + 1) cap, .int .i64 ((D.length : Int) + 1), .bool true, .slice (some ⟨g, 0, none⟩) (D.length + 1) cap, .slice (some ⟨g, 0, none⟩) (D.length + 1) cap, .int .i64 ((D.length : Int) + 1), .int .i64 D.length, .pointer (some ⟨g, D.length, none⟩), .int .i64 xi, .slice (some ⟨g, 0, none⟩) (D.length + 1) cap, .slice (some ⟨g, 0, none⟩) (D.length + 1) cap, .int .i64 ((D.length : Int) + 1), .int .i64 D.length, .slice (some ⟨g, 0, none⟩) D.length cap, ov, .int .i64 xi, .slice (some ⟨W2.heap.size, 0, none⟩) 1 1, ov', .slice (some ⟨B, off, none⟩) r.length c, .int .i64 xi, .pointer (some ⟨B, off + xi * 6, none⟩), .pointer (some ⟨B, off + xi * 6 + 5, none⟩), .slice lk nd.kids.length ck, .func (.func 62) #[] #[.pointer (some ⟨L, 0, none⟩)], .int .i64 x.1, .int .i64 x.2, undef, undef, undef, undef, u41, undef], defers := [] }) (fun x a' X Y h _ => h) ?assign ?body ?done ?stop
      case seq =>
        intro y J' Jx W hW hJ hJm hJx hY h0
        exact back1_in 8 L (by omega) nd.kids (by have := HKL.out; omega) lk ck HIK.out y J' Jx hJ hY W (hFv.below hW) h0
      case hI =>
        rintro H q X Y ⟨sv, hO, hs, hLH, hM⟩ hl
        exact ⟨sv, hO.lets (fun e => (hs L e).2 rfl) (fun e => by have := hovL L e; omega) (by omega) hwL (by omega) hl, hs, hLH, hM.keep (fun D' hD' hh => hl.same D' _ hh (fun e => by subst e; obtain ⟨D2, e1, e2⟩ := hMlt _ hD'; cases e1; omega) (.inl (by obtain ⟨D2, e1, e2⟩ := hMlt _ hD'; cases e1; omega)))⟩
      case hIm =>
        rintro H H' q X ⟨sv, hO, hs, hLH, hM⟩ hl
        exact ⟨sv, hO, fun q hq => ⟨Nat.lt_of_lt_of_le (hs q hq).1 hl, (hs q hq).2⟩, by omega, hM⟩
      case assign =>
        rintro y pre x H W K hI hHW hK
        gi_wp2_with fail
        exact hK _ W (KeepsFrom.refl _ _) (AX.Keep.refl _ _ _) hI rfl
      case body =>
        rintro y pre x a' H W ⟨sv, hO, hs, hLH, hM⟩ hHW rfl ⟨kk, hkk, rfl, rfl⟩
        have hql : (D ++ (bk nd.kids kk).map (·.2)).length ≤ 1100 := by
          rw [List.length_append, List.length_map, bk_len]
          have := HKL.out
          omega
        have c0 : W.cell? ⟨Tb, 0, none⟩ = some sv := hO.bx.cell 0
        have hTl := hO.bx.lt
        have hA3 := hO.below ((Below.refl W.heap.size W).alloc (Nat.le_refl _) (.cells #[.int .i64 (bkp nd.kids kk).2] 3))
        have c3 := (Bx.new W 3 #[.int .i64 (bkp nd.kids kk).2]).cell 0
        have hbA := (Below.refl W.heap.size W).alloc (Nat.le_refl _) (.cells #[.int .i64 (bkp nd.kids kk).2] 3)
        have HS := Lib.hid hs
        have HTM : Hid ((bk nd.kids kk ++ [bkp nd.kids kk]).map (·.2) = (bk nd.kids kk).map (·.2) ++ [(bkp nd.kids kk).2]) := Lib.hid (by simp)
        have hTH : Tb < H := by omega
        obtain ⟨stk2, hst2⟩ : ∃ stk2, stk2 = D ++ (bk nd.kids kk).map (·.2) := ⟨_, rfl⟩
        rw [← hst2] at hO hA3 hql
        have HST := Lib.hid hst2
        obtain ⟨x2, hx2⟩ : ∃ x2, x2 = (bkp nd.kids kk).2 := ⟨_, rfl⟩
        rw [← hx2] at hA3 c3 hbA ⊢
        have HX2 := Lib.hid hx2
        clear hs hst2 hx2
        gi_wp2_with (first
          | (gi_at_builtin; refine append_iIn _ w.heap.size sv stk2 x2 rfl _ _ rfl rfl hA3.so W.heap.size 1 rfl c3 (by omega) hA3.low.size ?_; intro v' W5 h6 h7 h8; have hT5 : Bx W5 Tb 43 #[sv] := (h7.block Tb hA3.bx.lt (not_own hA3.so hA3.bx (by decide))).trans hA3.bx; obtain ⟨lv, cv, hv'⟩ := h6.form)
          | ((with_reducible refine st_in ?_); refine AX.wpListIn_storeCell (o := 0) (v := v') rfl rfl (by rw [hv']; rfl) sz43n hT5 (show 0 < 1 by decide) ?_; rintro W6 g3 g4 g5))
        obtain ⟨hO6, hb6, hs6⟩ := hA3.push h6 h7 h8 g3 g4 g5
        have hown := World.ownsRow.lt hO.so
        have hkeep : ∀ k, k < W.heap.size → k ≠ Tb → some k ≠ sv.ownBlock → W6.heap[k]? = W.heap[k]? := fun k hk h1 h2 => (hs6 k (by have := hbA.size; omega) h1 h2).trans (hbA.block k hk)
        have hncell : ∀ (k : Nat) (o : Obj), W.heap[k]? = some o → o.isCells = false → W6.heap[k]? = some o := fun k o hk hc => by
          refine (hkeep k (Array.getElem?_eq_some_iff.1 hk).1 (fun e => ?_) (fun e => ?_)).trans hk
          · subst e; rw [show W.heap[k]? = _ from hO.bx] at hk; cases hk; cases hc
          · obtain ⟨cs, hcs⟩ := own_type hO.so k e.symm
            rw [hcs] at hk; cases hk; cases hc
        have hb0 : Below 0 W W6 := (hbA.mono (Nat.zero_le _)).trans (hb6.mono (Nat.zero_le _))
        refine ⟨⟨hb0.size, fun k o _ hk hc => hncell k o hk hc⟩, ⟨hb0, fun k o hk hu => ?_⟩, v', ?_, fun q hq => ?_, by have := hb0.size; omega, hM.keep (fun D2 _ hD2 => hncell D2 _ hD2 rfl)⟩
        · have hkl := (Array.getElem?_eq_some_iff.1 hk).1
          refine (hkeep k hkl (fun e => ?_) (fun e => ?_)).trans hk
          · have := hO.tb
            rcases hu with (hu | hu) | hu <;> omega
          · have h1 := hown k e.symm
            have h2 := HS.out k e.symm
            rcases hu with (hu | hu) | hu <;> omega
        · rw [HTM.out, ← List.append_assoc, ← HST.out, ← HX2.out]
          exact hO6
        · have h1 := (World.ownsRow.lt hO6.so q hq).2
          rcases h8 with e | e
          · have := HS.out q (e ▸ hq)
            exact ⟨h1, this.2⟩
          · rw [e] at hq
            have := Option.some.inj hq
            have := hbA.size
            exact ⟨h1, by omega⟩
      case done =>
        rintro D' H ys W hD rfl ⟨sv, hO, hs, hLH, hM⟩ hK
        rw [bk_snd nd.kids nd.kids.length (Nat.le_refl _)] at hO
        have htk : nd.kids.reverse.take nd.kids.length = nd.kids.reverse := by rw [← List.length_reverse, List.take_length]
        rw [htk] at hO
        have c0 : W.cell? ⟨Tb, 0, none⟩ = some sv := hO.bx.cell 0
        have hTl := hO.bx.lt
        have hZ := Bx.new W 43 #[.slice none 0 0]
        have hbZ := (Below.refl W.heap.size W).alloc (Nat.le_refl _) (.cells #[.slice none 0 0] 43)
        obtain ⟨lv, cv, hv'⟩ := hO.so.form
        have hone : sv.oneCell' = true := by rw [hv']; rfl
        clear hv' htk
        gi_wp2_with ((with_reducible refine st_in ?_); refine AX.wpListIn_storeCell (o := 0) (v := sv) rfl rfl hone sz43n hZ (show 0 < 1 by decide) ?_; rintro W6 g3 g4 g5)
        have hb6 : Below W.heap.size W W6 := hbZ.trans (AX.below_turn (Nat.le_refl _) (.inl (Array.getElem?_eq_some_iff.1 g3).1) g4 g5)
        have hO6 := hO.rebox hb6 g3
        have hkeep : ∀ D2 : Nat, W.heap[D2]? = some (.deferred (some [])) → W6.heap[D2]? = some (.deferred (some [])) := fun D2 h2 => (hb6.block D2 (Array.getElem?_eq_some_iff.1 h2).1).trans h2
        obtain ⟨la1, n1, e1⟩ := hO.oo.form
        refine ⟨⟨W.heap.size, sv, D ++ nd.kids.reverse, ov', out ++ [(xi : Int)], { target := .collected D', args := #[] } :: ds, _, _, _, _, _, _, _, _, _, _, _, _, _, _, _, _, _, _, _, _, _, _, _, _, _, _, rfl, hO6, ⟨D', rfl, by omega, hkeep D' hK, fun d hd e => ?_, hM.keep (fun D2 _ h2 => hkeep D2 h2)⟩, Lib.hid ?_, Lib.hid ?_⟩, ?_⟩
        · obtain ⟨D2, e2, h2⟩ := hMlt d hd
          rw [e2] at e
          cases e
          omega
        · have h1 := HL.out
          rw [List.reverse_append, List.reverse_cons, List.reverse_nil, List.nil_append, List.singleton_append, List.flatMap_cons, pre_eq HND.out HHK.out] at h1
          rw [← h1, List.reverse_append, List.reverse_reverse, List.flatMap_append]
          simp
        · intro k hk
          rcases List.mem_append.1 hk with hk | hk
          · exact HB.out k (List.mem_append_left _ hk)
          · have h1 := HHK.out k (List.mem_reverse.1 hk)
            have h2 := (List.getElem?_eq_some_iff.1 HND.out).1
            omega
        · show r.length - lenOf ov' < r.length - lenOf ov
          obtain ⟨la0, n0, e0⟩ := HOV.out
          rw [e0, e1]
          simp only [lenOf, List.length_append, List.length_singleton]
          omega
      case stop =>
        rintro D' c' pre W _ _ h _
        exact h.elim
end Go.Proofs.YtpbkgegkjglibaaDoor
