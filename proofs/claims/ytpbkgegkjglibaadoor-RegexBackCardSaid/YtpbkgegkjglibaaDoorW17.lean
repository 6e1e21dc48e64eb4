/- Regex: joined walked. -/
import Derived.Test.YtpbkgegkjglibaaDoorW13
import Derived.Test.YtpbkgegkjglibaaDoorA8
import Derived.Maps.AppendAt
namespace Go.Proofs.YtpbkgegkjglibaaDoor
open Go Go.Proofs Go.RowKit
attribute [local go_sem] Oper.semAt_some

/-- Numbers of one's own. -/
def IOwn (W : World) (base : Nat) (v : Value) (l : List Int) : Prop := W.ownsRow base 3 1 v l.length (l.map (Value.int .i64))
theorem append_i {ops : Array Oper} {rest : List Oper} {o : Oper} {a : Act} {Q : Exit → Act → World → Prop} (W : World) (base : Nat) (v : Value) (pre : List Int) (x : Int) (hgd : o.guard = none) (s y : Operand)
    (ho : o.op = .call { callee := .builtin .append, args := #[s, y], argTypes := #[43, 43] }) (hs : a.eval s = v) (hown : IOwn W base v pre) (B c : Nat) (hx : a.eval y = .slice (some ⟨B, 0, none⟩) 1 c)
    (hc : W.cell? ⟨B, 0, none⟩ = some (.int .i64 x)) (hl : pre.length ≤ 100000) (hb : base ≤ W.heap.size)
    (h : ∀ v' w', IOwn w' base v' (pre ++ [x]) → W.grownBy w' v.ownBlock → (v'.ownBlock = v.ownBlock ∨ v'.ownBlock = some W.heap.size) → wpList Tryd.prog ops Q rest (a.put o.dst v') w') : wpList Tryd.prog ops Q (o :: rest) a W := by
  obtain ⟨ti, hi, hz0, hz1, hz2⟩ := info_parts info3'
  refine wpList_append_own_at (P := Tryd.prog) (w := W) hgd s y 43 ho base 3 ti (.int .i64 0) 1 8 Tryd.underlying43 hi hz0 hz1 hz2 rfl (by decide) v pre.length _ hs hown ⟨B, 0, none⟩ 1 c [.int .i64 x] hx rfl
    (fun j u hj => by
      rw [addr_add, Nat.zero_add]
      cases j with
      | zero => simp at hj; rw [← hj]; exact hc
      | succ j => simp at hj) (fun u hu => by rw [List.mem_singleton.1 hu]; rfl) (by unfold maxLen; omega) (by omega) hb ?_
  intro v' w' h1 h2 _ h4
  refine h v' w' ?_ h2 h4
  unfold IOwn
  rw [List.length_append, List.map_append]
  exact h1
theorem info45' : (Tryd.prog.info? 45).map (fun i => (i.zero, i.size, i.bytes)) = some (some (.agg #[.int .i64 0, .int .u64 0, .int .u64 0, .int .u64 0, .int .u64 0, .slice none 0 0]), 6, 64) := by kernel_rfl
/-- A node, and its parts' row. -/
structure NL where
  x : Nd
  kv : Value
def encN (y : NL) : List Value := [.int .i64 y.x.k, .int .u64 (y.x.a : Nat), .int .u64 (y.x.b : Nat), .int .u64 (y.x.c : Nat), .int .u64 (y.x.d : Nat), y.kv]
/-- Nodes of one's own. -/
def NOwn (W : World) (base : Nat) (v : Value) (l : List NL) : Prop := W.ownsRow base 45 6 v l.length (l.flatMap encN)
/-- A node's parts lie in a row that will stay. -/
def KAt (W : World) (own : Option Nat) (kv : Value) (l : List Int) : Prop := (kv = .slice none 0 0 ∧ l = []) ∨ ∃ B c cs, kv = .slice (some ⟨B, 0, none⟩) l.length c ∧ W.heap[B]? = some (.cells cs 3 (0, 0)) ∧ some B ≠ own ∧ ∀ i x, l[i]? = some x → W.cell? ⟨B, i, none⟩ = some (.int .i64 x)
theorem KAt.one {W : World} {own : Option Nat} {kv : Value} {l : List Int} (h : KAt W own kv l) : kv.oneCell' = true := by
  rcases h with ⟨rfl, _⟩ | ⟨B, c, cs, rfl, _⟩ <;> rfl
theorem KAt.ird {W : World} {own : Option Nat} {kv : Value} {l : List Int} (h : KAt W own kv l) : IRd W kv l := by
  rcases h with ⟨rfl, rfl⟩ | ⟨B, c, cs, rfl, h1, _, h3⟩
  · exact ⟨none, 0, rfl, fun _ => rfl, fun a e => by cases e⟩
  · refine ⟨some ⟨B, 0, none⟩, c, rfl, (fun e => by cases e), fun a e _ => ?_⟩
    obtain rfl := Option.some.inj e
    exact ⟨B, 0, rfl, (Array.getElem?_eq_some_iff.1 h1).1, fun i x hx => by rw [Nat.zero_add]; exact h3 i x hx⟩
theorem KAt.same {W W' : World} {own own' : Option Nat} {kv : Value} {l : List Int} (h : KAt W own kv l) (h1 : ∀ B cs, W.heap[B]? = some (.cells cs 3 (0, 0)) → some B ≠ own → W'.heap[B]? = W.heap[B]? ∧ some B ≠ own') : KAt W' own' kv l := by
  rcases h with h | ⟨B, c, cs, rfl, g1, g2, g3⟩
  · exact .inl h
  · obtain ⟨e1, e2⟩ := h1 B cs g1 g2
    exact .inr ⟨B, c, cs, rfl, e1.trans g1, e2, fun i x hx => (cell_same e1).trans (g3 i x hx)⟩
theorem KAt.of_own {W : World} {base : Nat} {v : Value} {l : List Int} {own : Option Nat} (h : IOwn W base v l) (hn : ∀ g, v.ownBlock = some g → some g ≠ own) : KAt W own v l := by
  rcases h.2 with ⟨rfl, h0⟩ | ⟨g, cap, cur, rfl, hg, hh, rest⟩
  · exact .inl ⟨rfl, List.eq_nil_of_length_eq_zero h0⟩
  · refine .inr ⟨g, cap, cur, rfl, hh, hn g rfl, fun i x hx => ?_⟩
    have := World.ownsRow.cells h (g := g) rfl i (.int .i64 x) (by rw [List.getElem?_map, hx]; rfl)
    rwa [addr_add, Nat.zero_add] at this
/-- What joined keeps. -/
structure Jst (w W : World) (ov kv : Value) (out : List NL) (kids : List Int) : Prop where
  low : Below w.heap.size w W
  ro : NOwn W w.heap.size ov out
  rk : IOwn W w.heap.size kv kids
  at_ : ∀ y ∈ out, KAt W kv.ownBlock y.kv y.x.kids
theorem Jst.below {w W W' : World} {ov kv : Value} {out : List NL} {kids : List Int} (h : Jst w W ov kv out kids) (hb : Below W.heap.size W W') : Jst w W' ov kv out kids :=
  ⟨h.low.trans (hb.mono h.low.size), own_same h.ro (fun g e => hb.block _ (World.ownsRow.lt h.ro g e).2), own_same h.rk (fun g e => hb.block _ (World.ownsRow.lt h.rk g e).2), fun y hy => (h.at_ y hy).same fun _ _ hB hn => ⟨hb.block _ (Array.getElem?_eq_some_iff.1 hB).1, hn⟩⟩
theorem Jst.push {w W W' : World} {ov ov' kv : Value} {out : List NL} {kids : List Int} (h : Jst w W ov kv out kids) (y : NL) (hy : KAt W kv.ownBlock y.kv y.x.kids) (ho : NOwn W' w.heap.size ov' (out ++ [y])) (hg : W.grownBy W' ov.ownBlock) : Jst w W' ov' kv (out ++ [y]) kids := by
  have hb1 := (Below.refl w.heap.size W).grown hg h.low.size fun j ej => (World.ownsRow.lt h.ro j ej).1
  have hK : ∀ z : NL, KAt W kv.ownBlock z.kv z.x.kids → KAt W' kv.ownBlock z.kv z.x.kids := fun z hz => hz.same fun B cs hB hn => ⟨hg.block _ (Array.getElem?_eq_some_iff.1 hB).1 (not_own h.ro hB (by decide)), hn⟩
  refine ⟨h.low.trans hb1, ho, own_same h.rk (fun g e => ?_), fun z hz => ?_⟩
  · obtain ⟨cur, hc⟩ := own_type h.rk g e
    exact hg.block _ (Array.getElem?_eq_some_iff.1 hc).1 (not_own h.ro hc (by decide))
  · rcases List.mem_append.1 hz with hz | hz
    · exact hK z (h.at_ z hz)
    · rw [List.mem_singleton.1 hz]; exact hK y hy
theorem NOwn.rrow {W : World} {base : Nat} {own : Option Nat} {v : Value} {l : List NL} (h : NOwn W base v l) (hk : ∀ y ∈ l, KAt W own y.kv y.x.kids) : RRow W v (l.map (·.x)) := by
  rcases h.2 with ⟨e, hn⟩ | ⟨g, cap, cur, e, hg, hh, rest⟩
  · obtain rfl : l = [] := List.eq_nil_of_length_eq_zero hn
    exact ⟨none, 0, e, fun _ => rfl, fun a e => by cases e⟩
  · refine ⟨some ⟨g, 0, none⟩, cap, by rw [e, List.length_map], (fun e => by cases e), fun a ea _ => ?_⟩
    obtain rfl := Option.some.inj ea
    refine ⟨g, 0, rfl, (Array.getElem?_eq_some_iff.1 hh).1, fun i x hx => ?_⟩
    rw [List.getElem?_map] at hx
    cases hy : l[i]? with
    | none => rw [hy] at hx; cases hx
    | some y =>
      rw [hy] at hx
      obtain rfl : y.x = x := by simpa using hx
      have hc : ∀ q v, (encN y)[q]? = some v → W.cell? ⟨g, 0 + i * 6 + q, none⟩ = some v := fun q v hv => by
        have := World.ownsRow.cells h (g := g) (by rw [e]; rfl) (i * 6 + q) v (flat_get encN 6 (fun _ => rfl) l i y hy q v hv)
        rw [addr_add, Nat.zero_add] at this
        rw [Nat.zero_add]; exact this
      exact ⟨hc 0 _ rfl, hc 1 _ rfl, hc 2 _ rfl, hc 3 _ rfl, hc 4 _ rfl, y.kv, hc 5 _ rfl, (hk y (List.mem_of_getElem? hy)).ird⟩
end Go.Proofs.YtpbkgegkjglibaaDoor

namespace Go.Proofs.YtpbkgegkjglibaaDoor
open Go Go.Proofs Go.RowKit
attribute [local go_sem] Oper.semAt_some
end Go.Proofs.YtpbkgegkjglibaaDoor
