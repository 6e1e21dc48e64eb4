/- Regex: joined walked. -/
import Derived.Test.YtpbkgegkjglibaaDoorW13
import Derived.Test.YtpbkgegkjglibaaDoorA8
import Derived.Maps.AppendAt
namespace Go.Proofs.YtpbkgegkjglibaaDoor
open Go Go.Proofs Go.RowKit
attribute [local go_sem] Oper.semAt_some

/-- Numbers of one's own. -/
def IOwn (W : World) (base : Nat) (v : Value) (l : List Int) : Prop := W.ownsRow base 3 1 v l.length (l.map (Value.int .i64))
theorem append_i {ops : Array Oper} {rest : List Oper} {o : Oper} {a : Act} {Q : Exit → Act → World → Prop} (W : World) (base : Nat) (v : Value) (pre : List Int) (x : Int) (hgd : o.guard = none) (s y : Operand)
    (ho : o.op = .call { callee := .builtin .append, args := #[s, y], argTypes := #[43, 43] }) (hs : a.eval s = v) (hown : IOwn W base v pre) (B c : Nat) (hx : a.eval y = .slice (some ⟨B, 0, none⟩) 1 c)
    (hc : W.cell? ⟨B, 0, none⟩ = some (.int .i64 x)) (hl : pre.length ≤ 100000) (hb : base ≤ W.heap.size)
    (h : ∀ v' w', IOwn w' base v' (pre ++ [x]) → W.grownBy w' v.ownBlock → (v'.ownBlock = v.ownBlock ∨ v'.ownBlock = some W.heap.size) → wpList Tryd.prog ops Q rest (a.put o.dst v') w') : wpList Tryd.prog ops Q (o :: rest) a W := by
  obtain ⟨ti, hi, hz0, hz1, hz2⟩ := info_parts info3'
  refine wpList_append_own_at (P := Tryd.prog) (w := W) hgd s y 43 ho base 3 ti (.int .i64 0) 1 8 Tryd.underlying43 hi hz0 hz1 hz2 rfl (by decide) v pre.length _ hs hown ⟨B, 0, none⟩ 1 c [.int .i64 x] hx rfl
    (fun j u hj => by
      rw [addr_add, Nat.zero_add]
      cases j with
      | zero => simp at hj; rw [← hj]; exact hc
      | succ j => simp at hj) (fun u hu => by rw [List.mem_singleton.1 hu]; rfl) (by unfold maxLen; omega) (by omega) hb ?_
  intro v' w' h1 h2 _ h4
  refine h v' w' ?_ h2 h4
  unfold IOwn
  rw [List.length_append, List.map_append]
  exact h1
theorem info45' : (Tryd.prog.info? 45).map (fun i => (i.zero, i.size, i.bytes)) = some (some (.agg #[.int .i64 0, .int .u64 0, .int .u64 0, .int .u64 0, .int .u64 0, .slice none 0 0]), 6, 64) := by kernel_rfl
/-- A node, and its parts' row. -/
structure NL where
  x : Nd
  kv : Value
def encN (y : NL) : List Value := [.int .i64 y.x.k, .int .u64 (y.x.a : Nat), .int .u64 (y.x.b : Nat), .int .u64 (y.x.c : Nat), .int .u64 (y.x.d : Nat), y.kv]
/-- Nodes of one's own. -/
def NOwn (W : World) (base : Nat) (v : Value) (l : List NL) : Prop := W.ownsRow base 45 6 v l.length (l.flatMap encN)
theorem append_n {ops : Array Oper} {rest : List Oper} {o : Oper} {a : Act} {Q : Exit → Act → World → Prop} (W : World) (base : Nat) (v : Value) (pre : List NL) (x : NL) (hgd : o.guard = none) (s y : Operand)
    (ho : o.op = .call { callee := .builtin .append, args := #[s, y], argTypes := #[24, 24] }) (hs : a.eval s = v) (hown : NOwn W base v pre) (B c : Nat) (hx : a.eval y = .slice (some ⟨B, 0, none⟩) 1 c)
    (hc : Bx W B 45 (encN x).toArray) (hxk : x.kv.oneCell' = true) (hl : pre.length ≤ 100000) (hb : base ≤ W.heap.size)
    (h : ∀ v' w', NOwn w' base v' (pre ++ [x]) → W.grownBy w' v.ownBlock → wpList Tryd.prog ops Q rest (a.put o.dst v') w') : wpList Tryd.prog ops Q (o :: rest) a W := by
  obtain ⟨ti, hi, hz0, hz1, hz2⟩ := info_parts info45'
  refine wpList_append_own (P := Tryd.prog) (w := W) hgd s y 24 ho base 45 ti (.agg #[.int .i64 0, .int .u64 0, .int .u64 0, .int .u64 0, .int .u64 0, .slice none 0 0]) 6 64 Tryd.underlying24 hi hz0 hz1 hz2 rfl (by decide) v pre.length _ hs hown ⟨B, 0, none⟩ 1 c (encN x) hx rfl
    (fun j u hj => by rw [addr_add, Nat.zero_add, hc.cell]; simpa using hj) (fun u hu => by
      simp only [encN, List.mem_cons, List.not_mem_nil, or_false] at hu
      rcases hu with rfl | rfl | rfl | rfl | rfl | rfl <;> first | rfl | exact hxk) (by unfold maxLen; omega) (by omega) hb ?_
  intro v' w' h1 h2 _
  refine h v' w' ?_ h2
  unfold NOwn
  rw [List.length_append, List.flatMap_append]
  simpa using h1
/-- A node's parts lie in a row that will stay. -/
def KAt (W : World) (own : Option Nat) (kv : Value) (l : List Int) : Prop := (kv = .slice none 0 0 ∧ l = []) ∨ ∃ B c cs, kv = .slice (some ⟨B, 0, none⟩) l.length c ∧ W.heap[B]? = some (.cells cs 3 (0, 0)) ∧ some B ≠ own ∧ ∀ i x, l[i]? = some x → W.cell? ⟨B, i, none⟩ = some (.int .i64 x)
theorem KAt.one {W : World} {own : Option Nat} {kv : Value} {l : List Int} (h : KAt W own kv l) : kv.oneCell' = true := by
  rcases h with ⟨rfl, _⟩ | ⟨B, c, cs, rfl, _⟩ <;> rfl
theorem KAt.ird {W : World} {own : Option Nat} {kv : Value} {l : List Int} (h : KAt W own kv l) : IRd W kv l := by
  rcases h with ⟨rfl, rfl⟩ | ⟨B, c, cs, rfl, h1, _, h3⟩
  · exact ⟨none, 0, rfl, fun _ => rfl, fun a e => by cases e⟩
  · refine ⟨some ⟨B, 0, none⟩, c, rfl, (fun e => by cases e), fun a e _ => ?_⟩
    obtain rfl := Option.some.inj e
    exact ⟨B, 0, rfl, (Array.getElem?_eq_some_iff.1 h1).1, fun i x hx => by rw [Nat.zero_add]; exact h3 i x hx⟩
theorem KAt.same {W W' : World} {own own' : Option Nat} {kv : Value} {l : List Int} (h : KAt W own kv l) (h1 : ∀ B cs, W.heap[B]? = some (.cells cs 3 (0, 0)) → some B ≠ own → W'.heap[B]? = W.heap[B]? ∧ some B ≠ own') : KAt W' own' kv l := by
  rcases h with h | ⟨B, c, cs, rfl, g1, g2, g3⟩
  · exact .inl h
  · obtain ⟨e1, e2⟩ := h1 B cs g1 g2
    exact .inr ⟨B, c, cs, rfl, e1.trans g1, e2, fun i x hx => (cell_same e1).trans (g3 i x hx)⟩
theorem KAt.of_own {W : World} {base : Nat} {v : Value} {l : List Int} {own : Option Nat} (h : IOwn W base v l) (hn : ∀ g, v.ownBlock = some g → some g ≠ own) : KAt W own v l := by
  rcases h.2 with ⟨rfl, h0⟩ | ⟨g, cap, cur, rfl, hg, hh, rest⟩
  · exact .inl ⟨rfl, List.eq_nil_of_length_eq_zero h0⟩
  · refine .inr ⟨g, cap, cur, rfl, hh, hn g rfl, fun i x hx => ?_⟩
    have := World.ownsRow.cells h (g := g) rfl i (.int .i64 x) (by rw [List.getElem?_map, hx]; rfl)
    rwa [addr_add, Nat.zero_add] at this
/-- What joined keeps. -/
structure Jst (w W : World) (ov kv : Value) (out : List NL) (kids : List Int) : Prop where
  low : Below w.heap.size w W
  ro : NOwn W w.heap.size ov out
  rk : IOwn W w.heap.size kv kids
  at_ : ∀ y ∈ out, KAt W kv.ownBlock y.kv y.x.kids
theorem Jst.below {w W W' : World} {ov kv : Value} {out : List NL} {kids : List Int} (h : Jst w W ov kv out kids) (hb : Below W.heap.size W W') : Jst w W' ov kv out kids :=
  ⟨h.low.trans (hb.mono h.low.size), own_same h.ro (fun g e => hb.block _ (World.ownsRow.lt h.ro g e).2), own_same h.rk (fun g e => hb.block _ (World.ownsRow.lt h.rk g e).2), fun y hy => (h.at_ y hy).same fun _ _ hB hn => ⟨hb.block _ (Array.getElem?_eq_some_iff.1 hB).1, hn⟩⟩
theorem Jst.push {w W W' : World} {ov ov' kv : Value} {out : List NL} {kids : List Int} (h : Jst w W ov kv out kids) (y : NL) (hy : KAt W kv.ownBlock y.kv y.x.kids) (ho : NOwn W' w.heap.size ov' (out ++ [y])) (hg : W.grownBy W' ov.ownBlock) : Jst w W' ov' kv (out ++ [y]) kids := by
  have hb1 := (Below.refl w.heap.size W).grown hg h.low.size fun j ej => (World.ownsRow.lt h.ro j ej).1
  have hK : ∀ z : NL, KAt W kv.ownBlock z.kv z.x.kids → KAt W' kv.ownBlock z.kv z.x.kids := fun z hz => hz.same fun B cs hB hn => ⟨hg.block _ (Array.getElem?_eq_some_iff.1 hB).1 (not_own h.ro hB (by decide)), hn⟩
  refine ⟨h.low.trans hb1, ho, own_same h.rk (fun g e => ?_), fun z hz => ?_⟩
  · obtain ⟨cur, hc⟩ := own_type h.rk g e
    exact hg.block _ (Array.getElem?_eq_some_iff.1 hc).1 (not_own h.ro hc (by decide))
  · rcases List.mem_append.1 hz with hz | hz
    · exact hK z (h.at_ z hz)
    · rw [List.mem_singleton.1 hz]; exact hK y hy
theorem Jst.kid {w W W' : World} {ov kv kv' : Value} {out : List NL} {kids : List Int} (h : Jst w W ov kv out kids) (q : Int) (ho : IOwn W' w.heap.size kv' (kids ++ [q])) (hg : W.grownBy W' kv.ownBlock) (hat : kv'.ownBlock = kv.ownBlock ∨ kv'.ownBlock = some W.heap.size) : Jst w W' ov kv' out (kids ++ [q]) := by
  have hb1 := (Below.refl w.heap.size W).grown hg h.low.size fun j ej => (World.ownsRow.lt h.rk j ej).1
  refine ⟨h.low.trans hb1, own_same h.ro (fun g e => ?_), ho, fun z hz => (h.at_ z hz).same fun B cs hB hn => ⟨hg.block _ (Array.getElem?_eq_some_iff.1 hB).1 hn, ?_⟩⟩
  · obtain ⟨cur, hc⟩ := own_type h.ro g e
    exact hg.block _ (Array.getElem?_eq_some_iff.1 hc).1 (not_own h.rk hc (by decide))
  · rcases hat with e | e
    · rw [e]; exact hn
    · rw [e]; intro e2
      have := (Array.getElem?_eq_some_iff.1 hB).1
      have := Option.some.inj e2
      omega
theorem NOwn.rrow {W : World} {base : Nat} {own : Option Nat} {v : Value} {l : List NL} (h : NOwn W base v l) (hk : ∀ y ∈ l, KAt W own y.kv y.x.kids) : RRow W v (l.map (·.x)) := by
  rcases h.2 with ⟨e, hn⟩ | ⟨g, cap, cur, e, hg, hh, rest⟩
  · obtain rfl : l = [] := List.eq_nil_of_length_eq_zero hn
    exact ⟨none, 0, e, fun _ => rfl, fun a e => by cases e⟩
  · refine ⟨some ⟨g, 0, none⟩, cap, by rw [e, List.length_map], (fun e => by cases e), fun a ea _ => ?_⟩
    obtain rfl := Option.some.inj ea
    refine ⟨g, 0, rfl, (Array.getElem?_eq_some_iff.1 hh).1, fun i x hx => ?_⟩
    rw [List.getElem?_map] at hx
    cases hy : l[i]? with
    | none => rw [hy] at hx; cases hx
    | some y =>
      rw [hy] at hx
      obtain rfl : y.x = x := by simpa using hx
      have hc : ∀ q v, (encN y)[q]? = some v → W.cell? ⟨g, 0 + i * 6 + q, none⟩ = some v := fun q v hv => by
        have := World.ownsRow.cells h (g := g) (by rw [e]; rfl) (i * 6 + q) v (flat_get encN 6 (fun _ => rfl) l i y hy q v hv)
        rw [addr_add, Nat.zero_add] at this
        rw [Nat.zero_add]; exact this
      exact ⟨hc 0 _ rfl, hc 1 _ rfl, hc 2 _ rfl, hc 3 _ rfl, hc 4 _ rfl, y.kv, hc 5 _ rfl, (hk y (List.mem_of_getElem? hy)).ird⟩
end Go.Proofs.YtpbkgegkjglibaaDoor

namespace Go.Proofs.YtpbkgegkjglibaaDoor
open Go Go.Proofs Go.RowKit
attribute [local go_sem] Oper.semAt_some
def JoinPost (w' : World) (r : List Nd) (e : Ending) : Prop := ∃ v, e = .returned v ∧ RRow w' v r
set_option maxRecDepth 100000 in
set_option maxHeartbeats 4000000 in
theorem joined_k (kind : Int) (ls : List (List Nd)) (A c : Nat) (hls : ls.length ≤ 4) (hok : ∀ p ∈ ls, RxOk p) (w : World) (hAl : A < w.heap.size) (hA : ∀ i p, ls[i]? = some p → ∃ rv, w.cell? ⟨A, i, none⟩ = some rv ∧ RRow w rv p) :
    Calls Tryd.prog 12 #[.int .i64 kind, .slice (some ⟨A, 0, none⟩) ls.length c] w fun e w' => JoinPost w' (joinV kind ls) e ∧ Below w.heap.size w w' := by
  obtain ⟨m, hm⟩ : ∃ m, m = ls.length := ⟨_, rfl⟩
  rw [← hm] at hls ⊢
  have HM := Lib.hid hm
  clear hm
  have hJ0 : Jst w w (.slice none 0 0) (.slice none 0 0) [] [] := ⟨Below.refl _ _, World.ownsRow_nil _ _ _ _, World.ownsRow_nil _ _ _ _, fun y hy => by simp at hy⟩
  go_enter Tryd.func12, Tryd.ntmps12
  go_wp2
  obtain ⟨wo, hwo⟩ : ∃ wo : World, wo = w := ⟨_, rfl⟩
  go_loopw [5, 6, 7] (fun t5 t6 t7 wr => ∃ (i : Nat) (out : List NL) (kids : List Int), i ≤ m ∧ t7 = .int .i64 i ∧ Jst w wr t5 t6 out kids ∧ Hid ((out.map (·.x), kids) = (ls.take i).foldl joinK ([], [])) ∧ out.length ≤ 512 * i ∧ kids.length = i)
    (fun _ _ t7 _ => m - (intOf t7).toNat)
  case atStart => exact ⟨0, [], [], Nat.zero_le _, rfl, hJ0, Lib.hid rfl, by simp, rfl⟩
  case round =>
    obtain ⟨i, out, kids, hi, rfl, hJ, HF, hol, hkl⟩ := hrel
    by_cases hlt : i < m
    · obtain ⟨p, hp⟩ : ∃ p, ls[i]? = some p := ⟨_, List.getElem?_eq_getElem (by rw [← HM.out]; exact hlt)⟩
      obtain ⟨rv, hrv, hR⟩ := hA i p hp
      have HOK := Lib.hid (hok p (List.mem_of_getElem? hp))
      have hpl := HOK.out.most
      have HTK : Hid (ls.take (i + 1) = ls.take i ++ [p]) := Lib.hid (by rw [List.take_add_one, hp]; rfl)
      have c0 := (hJ.low.cell (p := ⟨A, i, none⟩) hAl).trans hrv
      have hAw : A < wr.heap.size := Nat.lt_of_lt_of_le hAl hJ.low.size
      obtain ⟨la, cr, rfl, hR1, hR2⟩ := hR
      have hi0 : (0 : Int) ≤ (i : Int) := by omega
      have hi1 : (i : Int) < (m : Int) := by omega
      have hit : (i : Int).toNat = i := by omega
      obtain ⟨v5, n5, hv5⟩ : ∃ la n5, u5 = .slice la out.length n5 := by
        rcases hJ.ro.2 with ⟨rfl, h0⟩ | ⟨g, cap, cur, rfl, _⟩
        · exact ⟨none, 0, by rw [h0]⟩
        · exact ⟨_, _, rfl⟩
      go_wp2_with fail
      clear hv5
      go_loopw [5, 9] (fun t5 t9 wr => ∃ (k : Nat) (out' : List NL), k ≤ p.length ∧ t9 = .int .i64 k ∧ Jst w wr t5 u6 out' kids ∧ Hid (out'.map (·.x) = out.map (·.x) ++ (p.take k).map (shN out.length)) ∧ out'.length = out.length + k)
        (fun _ t9 _ => p.length - (intOf t9).toNat)
      case atStart => exact ⟨0, out, Nat.zero_le _, rfl, hJ, Lib.hid (by simp), rfl⟩
      case round =>
        clear hJ
        obtain ⟨k, out', hk, rfl, hJ, HO, hol'⟩ := hrel
        have c0 := (hJ.low.cell (p := ⟨A, i, none⟩) hAl).trans hrv
        have hAw : A < wr.heap.size := Nat.lt_of_lt_of_le hAl hJ.low.size
        by_cases hkl2 : k < p.length
        · obtain ⟨x, hx⟩ : ∃ x, p[k]? = some x := ⟨_, List.getElem?_eq_getElem hkl2⟩
          cases la with
          | none => exfalso; have := hR1 rfl; rw [this] at hx; simp at hx
          | some ad =>
          obtain ⟨B, off, rfl, hBl, hX⟩ := hR2 _ rfl (by intro e; rw [e] at hx; simp at hx)
          obtain ⟨k0, k1, k2, k3, k4, kv, k5, hIR⟩ := hX k x hx
          replace k0 := (hJ.low.cell (p := ⟨B, off + k * 6, none⟩) hBl).trans k0
          replace k1 := (hJ.low.cell (p := ⟨B, off + k * 6 + 1, none⟩) hBl).trans k1
          replace k2 := (hJ.low.cell (p := ⟨B, off + k * 6 + 2, none⟩) hBl).trans k2
          replace k3 := (hJ.low.cell (p := ⟨B, off + k * 6 + 3, none⟩) hBl).trans k3
          replace k4 := (hJ.low.cell (p := ⟨B, off + k * 6 + 4, none⟩) hBl).trans k4
          replace k5 := (hJ.low.cell (p := ⟨B, off + k * 6 + 5, none⟩) hBl).trans k5
          have hBw : B < wr.heap.size := Nat.lt_of_lt_of_le hBl hJ.low.size
          obtain ⟨lk, ck, rfl, hK1, hK2⟩ := hIR
          have hnd := HOK.out.nd k x hx
          have hkk : x.kids.length ≤ 512 := by have := hnd.high; have := high_le x.k; omega
          have HKD := Lib.hid hnd.kids
          have HPT : Hid (p.take (k + 1) = p.take k ++ [x]) := Lib.hid (by rw [List.take_add_one, hx]; rfl)
          have hk00 : (0 : Int) ≤ (k : Int) := by omega
          have hk01 : (k : Int) < (p.length : Int) := by omega
          have hkt : (k : Int).toNat = k := by omega
          have hZ := Bx.new wr 45 #[.int .i64 0, .int .u64 0, .int .u64 0, .int .u64 0, .int .u64 0, .slice none 0 0]
          have hbZ : Below wr.heap.size wr (wr.alloc (.cells #[.int .i64 0, .int .u64 0, .int .u64 0, .int .u64 0, .int .u64 0, .slice none 0 0] 45)) := (Below.refl _ _).alloc (Nat.le_refl _) _
          clear hnd hx hX hR1 hR2
          go_wp2_with ((with_reducible refine st_id ?_); refine AX.wpList_storeBox (vs := [.int .i64 x.k, .int .u64 x.a, .int .u64 x.b, .int .u64 x.c, .int .u64 x.d, .slice lk x.kids.length ck]) rfl rfl sz45 hZ rfl rfl ?_; rintro W4 h3 h4 h5; have hN4 : Bx W4 wr.heap.size 45 #[.int .i64 x.k, .int .u64 x.a, .int .u64 x.b, .int .u64 x.c, .int .u64 x.d, .slice lk x.kids.length ck] := h3; have hb4 := hbZ.trans (AX.below_turn (Nat.le_refl _) (.inl (Array.getElem?_eq_some_iff.1 h3).1) h4 h5); have n5 := hN4.cell 5; clear h3 h4 h5)
          have hJ4 := hJ.below hb4
          obtain ⟨s1, hs1⟩ : ∃ s1, s1 = W4.heap.size := ⟨_, rfl⟩
          have hNbl : wr.heap.size < s1 := by rw [hs1]; exact hN4.lt
          have hr0 : IOwn W4 s1 (.slice none 0 0) [] := World.ownsRow_nil _ _ _ _
          obtain ⟨Nb, hNbe⟩ : ∃ Nb, Nb = wr.heap.size := ⟨_, rfl⟩
          rw [← hNbe] at hN4 n5 hNbl hb4 ⊢
          have HNB := Lib.hid hNbe
          have HS1 := Lib.hid hs1
          clear hNbe hs1 hZ hbZ
          go_loopw [11, 12] (fun t11 t12 wr => ∃ j : Nat, j ≤ x.kids.length ∧ t12 = .int .i64 j ∧ IOwn wr s1 t11 ((x.kids.take j).map (· + (out.length : Int))) ∧ Below s1 W4 wr)
            (fun _ t12 _ => x.kids.length - (intOf t12).toNat)
          case atStart => exact ⟨0, Nat.zero_le _, rfl, hr0, Below.refl _ _⟩
          case round =>
            clear hr0
            obtain ⟨j, hj, rfl, hr, hb⟩ := hrel
            have n5 : wr.cell? ⟨Nb, 5, none⟩ = some (.slice lk x.kids.length ck) := (hb.cell (p := ⟨Nb, 5, none⟩) hNbl).trans n5
            by_cases hjl : j < x.kids.length
            · obtain ⟨q, hq⟩ : ∃ q, x.kids[j]? = some q := ⟨_, List.getElem?_eq_getElem hjl⟩
              have hqb := HKD.out q (List.mem_of_getElem? hq)
              cases lk with
              | none => exfalso; have := hK1 rfl; rw [this] at hq; simp at hq
              | some ad =>
              obtain ⟨B2, off2, rfl, hB2, hKc⟩ := hK2 _ rfl (by intro e; rw [e] at hq; simp at hq)
              have hlow4 : Below w.heap.size w wr := hJ4.low.trans (hb.mono (by have := HS1.out; have := hJ4.low.size; omega))
              have d0 := (hlow4.cell (p := ⟨B2, off2 + j, none⟩) hB2).trans (hKc j q hq)
              have hB2w : B2 < wr.heap.size := Nat.lt_of_lt_of_le hB2 hlow4.size
              have hj0 : (0 : Int) ≤ (j : Int) := by omega
              have hj1 : (j : Int) < (x.kids.length : Int) := by omega
              have hjt : (j : Int).toNat = j := by omega
              have HTJ : Hid (x.kids.take (j + 1) = x.kids.take j ++ [q]) := Lib.hid (by rw [List.take_add_one, hq]; rfl)
              have hqv : 0 ≤ q ∧ q ≤ 512 := by have := HOK.out.most; omega
              have hov : (0 : Int) ≤ (out.length : Int) ∧ (out.length : Int) ≤ 2048 := by omega
              have hbw : Below s1 wr (wr.alloc (.cells #[.int .i64 (q + (out.length : Int))] 3)) := (Below.refl s1 wr).alloc (by have := hb.size; have := HS1.out; omega) _
              have hcb := (Bx.new wr 3 #[.int .i64 (q + (out.length : Int))]).cell 0
              have hra : IOwn (wr.alloc (.cells #[.int .i64 (q + (out.length : Int))] 3)) s1 u11 ((x.kids.take j).map (· + (out.length : Int))) := World.ownsRow.alloc hr _
              have hsz9 : s1 ≤ (wr.alloc (.cells #[.int .i64 (q + (out.length : Int))] 3)).heap.size := by have := hb.size; have := HS1.out; simp; omega
              have hlt9 : ((x.kids.take j).map (· + (out.length : Int))).length ≤ 100000 := by simp; omega
              clear hKc hq hK1 hK2 hJ4
              go_wp2_with (at_builtin; refine append_i _ s1 u11 _ (q + (out.length : Int)) rfl _ _ rfl rfl hra wr.heap.size 1 rfl hcb hlt9 hsz9 ?_; intro v' W5 hr5 hg5 _)
              exact ⟨⟨j + 1, by omega, by simp, by rw [HTJ.out, List.map_append]; exact hr5, (hb.trans hbw).trans ((Below.refl s1 _).grown hg5 hsz9 fun g e => (World.ownsRow.lt hra g e).1)⟩, by simp [intOf]; omega⟩
            · obtain rfl : j = x.kids.length := by omega
              rw [List.take_length] at hr
              have hN5 : Bx wr Nb 45 #[.int .i64 x.k, .int .u64 x.a, .int .u64 x.b, .int .u64 x.c, .int .u64 x.d, .slice lk x.kids.length ck] := hN4.below hb hNbl
              have hb5 := hb4.trans (hb.mono (by omega))
              have hone : u11.oneCell' = true := by rcases hr.2 with ⟨e, _⟩ | ⟨g, cap, cur, e, _⟩ <;> rw [e] <;> rfl
              go_wp2_with (first
                | ((with_reducible refine st_id ?_); refine AX.wpList_storeCell (o := 5) (v := u11) rfl rfl hone sz43 hN5 (show 5 < 6 by decide) ?_; rintro W6 h3 h4 h5; have hN6 : Bx W6 Nb 45 #[.int .i64 x.k, .int .u64 x.a, .int .u64 x.b, .int .u64 x.c, .int .u64 x.d, u11] := h3; have hb6 := hb5.trans (AX.below_turn (Nat.le_refl _) (.inl (Array.getElem?_eq_some_iff.1 h3).1) h4 h5); have hr6 : IOwn W6 s1 u11 (x.kids.map (· + (out.length : Int))) := own_same hr (fun g e => h4 _ (by have := (World.ownsRow.lt hr g e).1; omega)); have b0 := hN6.cell 0; have b1 := hN6.cell 1; have b2 := hN6.cell 2; have b3 := hN6.cell 3; have b4 := hN6.cell 4; have b5 := hN6.cell 5; clear h3 h4 h5; have hJ6 := hJ.below (HNB.out ▸ hb6); have hJ7 := hJ6.below ((Below.refl W6.heap.size W6).alloc (Nat.le_refl _) (.cells #[.int .i64 x.k, .int .u64 x.a, .int .u64 x.b, .int .u64 x.c, .int .u64 x.d, u11] 45)); have hB7 := Bx.new W6 45 #[.int .i64 x.k, .int .u64 x.a, .int .u64 x.b, .int .u64 x.c, .int .u64 x.d, u11]; have hK7 : KAt (W6.alloc (.cells #[.int .i64 x.k, .int .u64 x.a, .int .u64 x.b, .int .u64 x.c, .int .u64 x.d, u11] 45)) u6.ownBlock u11 (x.kids.map (· + (out.length : Int))) := KAt.of_own (World.ownsRow.alloc hr6 _) (fun g e e2 => by have h1 := (World.ownsRow.lt hr6 g e).1; have h2 := (World.ownsRow.lt hJ.rk g e2.symm).2; have := HNB.out; omega))
                | (at_builtin; refine append_n _ w.heap.size u5 out' ⟨⟨x.k, x.a, x.b, x.c, x.d, x.kids.map (· + (out.length : Int))⟩, u11⟩ rfl _ _ rfl rfl hJ7.ro W6.heap.size 1 rfl hB7 hone (by omega) hJ7.low.size ?_; intro v' W7 hR7 hg7))
              have hJ8 := hJ7.push _ hK7 hR7 hg7
              exact ⟨⟨k + 1, _, by omega, by simp, hJ8, Lib.hid (by rw [List.map_append, HO.out, HPT.out, List.map_append, List.append_assoc]; rfl), by simp; omega⟩, by simp [intOf]; omega⟩
        · obtain rfl : k = p.length := by omega
          rw [List.take_length] at HO
          have hv5 : ∃ la n5, u5 = .slice la out'.length n5 := by
            rcases hJ.ro.2 with ⟨e, h0⟩ | ⟨g, cap, cur, e, _⟩
            · exact ⟨none, 0, by rw [h0]; exact e⟩
            · exact ⟨_, _, e⟩
          obtain ⟨v5, n5, hv5⟩ := hv5
          have hk0 : (0 : Int) ≤ (p.length : Int) := by omega
          have hJ7 := hJ.below ((Below.refl wr.heap.size wr).alloc (Nat.le_refl _) (.cells #[.int .i64 ((out'.length : Int) - 1)] 3))
          have hcb := (Bx.new wr 3 #[.int .i64 ((out'.length : Int) - 1)]).cell 0
          have hob : (0 : Int) ≤ (out'.length : Int) ∧ (out'.length : Int) ≤ 100000 := by omega
          have hkb : kids.length ≤ 100000 := by omega
          have HOL := Lib.hid hol'
          have hob2 : out'.length ≤ 512 * (i + 1) := by omega
          have HKL := Lib.hid hkl
          clear hol' hkl
          go_wp2_with (at_builtin; refine append_i _ w.heap.size u6 kids ((out'.length : Int) - 1) rfl _ _ rfl rfl hJ7.rk wr.heap.size 1 rfl hcb hkb hJ7.low.size ?_; intro v' W5 hr5 hg5 hat5)
          have hJ8 := hJ7.kid _ hr5 hg5 hat5
          exact ⟨⟨i + 1, out', kids ++ [(out'.length : Int) - 1], by omega, by simp, (by rw [← hv5]; exact hJ8), Lib.hid (by
            rw [HTK.out, List.foldl_append, ← HF.out]
            simp only [List.foldl_cons, List.foldl_nil, joinK, List.length_map]
            rw [HO.out, HOL.out]
            simp), hob2, by simp [HKL.out]⟩, by simp [intOf]; omega⟩
    · obtain rfl : i = m := by omega
      have HFF : Hid ((out.map (·.x), kids) = ls.foldl joinK ([], [])) := Lib.hid (by rw [HF.out, HM.out, List.take_length])
      obtain ⟨la6, n6, rfl⟩ : ∃ la n, u6 = .slice la kids.length n := by
        rcases hJ.rk.2 with ⟨e, h0⟩ | ⟨g, cap, cur, e, _⟩
        · exact ⟨none, 0, by rw [h0]; exact e⟩
        · exact ⟨_, _, e⟩
      have HKL := Lib.hid hkl
      clear hkl
      have hone : (Value.slice la6 kids.length n6).oneCell' = true := rfl
      have hJ7 := hJ.below ((Below.refl wr.heap.size wr).alloc (Nat.le_refl _) (.cells #[.int .i64 kind, .int .u64 0, .int .u64 0, .int .u64 0, .int .u64 0, Value.slice la6 kids.length n6] 45))
      have hB7 := Bx.new wr 45 #[.int .i64 kind, .int .u64 0, .int .u64 0, .int .u64 0, .int .u64 0, Value.slice la6 kids.length n6]
      go_wp2_with (at_builtin; refine append_n _ w.heap.size u5 out ⟨⟨kind, 0, 0, 0, 0, kids⟩, Value.slice la6 kids.length n6⟩ rfl _ _ rfl rfl hJ7.ro wr.heap.size 1 rfl hB7 hone (by omega) hJ7.low.size ?_; intro v' W7 hR7 hg7)
      have hK7 : ∀ y ∈ out ++ [⟨⟨kind, 0, 0, 0, 0, kids⟩, Value.slice la6 kids.length n6⟩], KAt W7 none y.kv y.x.kids := fun y hy => by
        rcases List.mem_append.1 hy with hy | hy
        · exact (hJ7.at_ y hy).same fun B cs hB _ => ⟨hg7.block _ (Array.getElem?_eq_some_iff.1 hB).1 (not_own hJ7.ro hB (by decide)), by simp⟩
        · rw [List.mem_singleton.1 hy]
          refine KAt.of_own (own_same hJ7.rk (fun g e => ?_)) (fun g _ => by simp)
          obtain ⟨cur, hc⟩ := own_type hJ7.rk g e
          exact hg7.block _ (Array.getElem?_eq_some_iff.1 hc).1 (not_own hJ7.ro hc (by decide))
      have hb7 : Below w.heap.size w W7 := hJ7.low.trans ((Below.refl w.heap.size _).grown hg7 hJ7.low.size fun j ej => (World.ownsRow.lt hJ7.ro j ej).1)
      have hRR := hR7.rrow hK7
      refine bodyPost_ret (v := v') (by simp [results, Tryd.results12, go_sem]) rfl ⟨⟨v', rfl, ?_⟩, hb7⟩
      have e : (out ++ [(⟨⟨kind, 0, 0, 0, 0, kids⟩, Value.slice la6 kids.length n6⟩ : NL)]).map (·.x) = joinV kind ls := by
        unfold joinV
        rw [← HFF.out, List.map_append]
        rfl
      rw [e] at hRR
      exact hRR
end Go.Proofs.YtpbkgegkjglibaaDoor
