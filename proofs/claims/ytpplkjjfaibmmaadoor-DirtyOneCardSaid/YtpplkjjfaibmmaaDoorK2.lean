/- Dirty: what Add comes to, in plain terms; a round of its first loop: the walk. -/
import Derived.Test.YtpplkjjfaibmmaaDoorH1
import Derived.Test.YtpplkjjfaibmmaaDoorD2
import Derived.Test.YtpplkjjfaibmmaaDoorD3
import Derived.Test.YtpplkjjfaibmmaaDoorD9
import Derived.Test.YtpplkjjfaibmmaaDoorRg6
import Derived.Test.YtpplkjjfaibmmaaDoorSt4
namespace Go.Proofs.YtpplkjjfaibmmaaDoor
open Go Go.Proofs Go.RowKit
attribute [local go_sem] Oper.semAt_some
def encW (p : Int × Int) : List Value := [.int .i64 p.1, .int .i64 p.2]
theorem info45' : (Tryd.prog.info? 45).map (fun i => (i.zero, i.size, i.bytes)) = some (some (.agg #[.int .i64 0, .int .i64 0]), 2, 16) := by kernel_rfl
theorem wflat_len (l : List (Int × Int)) : (l.flatMap encW).length = l.length * 2 := by
  induction l with
  | nil => rfl
  | cons x l ih => rw [List.flatMap_cons, List.length_append, ih]; simp [encW]; omega
theorem encW_one (l : List (Int × Int)) : ∀ v ∈ l.flatMap encW, v.oneCell' = true := by
  intro v hv
  obtain ⟨x, _, hx⟩ := List.mem_flatMap.1 hv
  simp only [encW, List.mem_cons, List.not_mem_nil, or_false] at hx
  rcases hx with rfl | rfl <;> rfl
/-- A row of pairs of slots, of one's own. -/
def WRow (w : World) (base : Nat) (v : Value) (l : List (Int × Int)) : Prop := w.ownsRow base 45 2 v l.length (l.flatMap encW)
theorem own_apart {w : World} {b b' : Nat} {v u : Value} {l : List J} {m : List (Int × Int)} (h : DRow w b v l) (k : WRow w b' u m) : (v.ownBlock = none ∨ v.ownBlock ≠ u.ownBlock) ∧ (u.ownBlock = none ∨ u.ownBlock ≠ v.ownBlock) := by
  rcases h.2 with ⟨rfl, _⟩ | ⟨g, cap, cur, rfl, hg, hh, _⟩
  · rcases k.2 with ⟨rfl, _⟩ | ⟨g', cap', cur', rfl, hg', hh', _⟩ <;> simp [Value.ownBlock]
  · rcases k.2 with ⟨rfl, _⟩ | ⟨g', cap', cur', rfl, hg', hh', _⟩
    · simp [Value.ownBlock]
    · have : g ≠ g' := fun e => by subst e; rw [hh] at hh'; cases hh'
      simp only [Value.ownBlock]
      exact ⟨.inr (fun e => this (Option.some.inj e)), .inr (fun e => this (Option.some.inj e).symm)⟩
theorem append_j1 {ops : Array Oper} {rest : List Oper} {o : Oper} {a : Act} {Q : Exit → Act → World → Prop} (W : World) (base : Nat) (v : Value) (pre : List J) (y : J) (hgd : o.guard = none) (s x : Operand)
    (ho : o.op = .call { callee := .builtin .append, args := #[s, x], argTypes := #[24, 24] }) (hs : a.eval s = v) (hown : DRow W base v pre) (ad : Addr) (hx : a.eval x = .slice (some ad) 1 1)
    (hc : ∀ j u, (encJ y)[j]? = some u → W.cell? (ad.add j) = some u) (hl : pre.length ≤ 1000000) (hb : base ≤ W.heap.size)
    (h : ∀ v' w', DRow w' base v' (pre ++ [y]) → W.grownBy w' v.ownBlock → wpList Tryd.prog ops Q rest (a.put o.dst v') w') : wpList Tryd.prog ops Q (o :: rest) a W := by
  obtain ⟨ti, hi, hz0, hz1, hz2⟩ := info_parts info38'
  refine wpList_append_own W hgd s x 24 ho base 38 ti (.agg #[.int .i64 0, .int .i64 0, .int .i64 0, .int .i64 0, .int .i64 0]) 5 40 Tryd.underlying24 hi hz0 hz1 hz2 rfl (by decide) v pre.length _ hs hown ad 1 1 (encJ y) hx rfl hc ((fun v hv => encJ_one [y] v (by simpa using hv))) (by unfold maxLen; omega) (by omega) hb ?_
  intro v' w' h1 h2 _
  refine h v' w' ?_ h2
  unfold DRow
  rw [List.flatMap_append, List.length_append, List.length_singleton]
  simpa using h1
theorem append_w1 {ops : Array Oper} {rest : List Oper} {o : Oper} {a : Act} {Q : Exit → Act → World → Prop} (W : World) (base : Nat) (v : Value) (pre : List (Int × Int)) (y : Int × Int) (hgd : o.guard = none) (s x : Operand)
    (ho : o.op = .call { callee := .builtin .append, args := #[s, x], argTypes := #[28, 28] }) (hs : a.eval s = v) (hown : WRow W base v pre) (ad : Addr) (hx : a.eval x = .slice (some ad) 1 1)
    (hc : ∀ j u, (encW y)[j]? = some u → W.cell? (ad.add j) = some u) (hl : pre.length ≤ 1000000) (hb : base ≤ W.heap.size)
    (h : ∀ v' w', WRow w' base v' (pre ++ [y]) → W.grownBy w' v.ownBlock → wpList Tryd.prog ops Q rest (a.put o.dst v') w') : wpList Tryd.prog ops Q (o :: rest) a W := by
  obtain ⟨ti, hi, hz0, hz1, hz2⟩ := info_parts info45'
  refine wpList_append_own W hgd s x 28 ho base 45 ti (.agg #[.int .i64 0, .int .i64 0]) 2 16 Tryd.underlying28 hi hz0 hz1 hz2 rfl (by decide) v pre.length _ hs hown ad 1 1 (encW y) hx rfl hc ((fun v hv => encW_one [y] v (by simpa using hv))) (by unfold maxLen; omega) (by omega) hb ?_
  intro v' w' h1 h2 _
  refine h v' w' ?_ h2
  unfold WRow
  rw [List.flatMap_append, List.length_append, List.length_singleton]
  simpa using h1
theorem wcells_new (w : World) (x : Int × Int) : ∀ j u, (encW x)[j]? = some u → (w.alloc (.cells #[.int .i64 x.1, .int .i64 x.2] 45)).cell? ((⟨w.heap.size, 0, none⟩ : Addr).add j) = some u := by
  intro j u hj
  rw [j_addr_add, Nat.zero_add]
  simp only [encW] at hj
  match j, hj with
  | 0, hj => simp at hj; subst hj; simp
  | 1, hj => simp at hj; subst hj; simp
  | j + 2, hj => simp at hj
theorem DRow.same {w w' : World} {b : Nat} {v : Value} {l : List J} (h : DRow w b v l) (hs : ∀ g, v.ownBlock = some g → w'.heap[g]? = w.heap[g]?) : DRow w' b v l := by
  refine ⟨h.1, ?_⟩
  rcases h.2 with hn | ⟨g, cap, cur, rfl, hg, hh, rest⟩
  · exact .inl hn
  · exact .inr ⟨g, cap, cur, rfl, hg, (hs g rfl).trans hh, rest⟩
theorem WRow.same {w w' : World} {b : Nat} {v : Value} {l : List (Int × Int)} (h : WRow w b v l) (hs : ∀ g, v.ownBlock = some g → w'.heap[g]? = w.heap[g]?) : WRow w' b v l := by
  refine ⟨h.1, ?_⟩
  rcases h.2 with hn | ⟨g, cap, cur, rfl, hg, hh, rest⟩
  · exact .inl hn
  · exact .inr ⟨g, cap, cur, rfl, hg, (hs g rfl).trans hh, rest⟩
theorem DRow.below {w w' : World} {b : Nat} {v : Value} {l : List J} (h : DRow w b v l) (hb : Below w.heap.size w w') : DRow w' b v l := h.same fun g e => hb.block g (World.ownsRow.lt h g e).2
theorem WRow.below {w w' : World} {b : Nat} {v : Value} {l : List (Int × Int)} (h : WRow w b v l) (hb : Below w.heap.size w w') : WRow w' b v l := h.same fun g e => hb.block g (World.ownsRow.lt h g e).2
end Go.Proofs.YtpplkjjfaibmmaaDoor

namespace Go.Proofs.YtpplkjjfaibmmaaDoor
open Go Go.Proofs Go.RowKit
attribute [local go_sem] Oper.semAt_some
theorem st_id {P : Program} {ops : Array Oper} {Q : Exit → Act → World → Prop} {a : Act} {w : World} {rest : List Oper} {t : TypeId} {x y : Operand} {ty : TypeId} {pos : String} {after : Array Edge} (h : wpList P ops Q ({ dst := none, op := .store t x y, type := ty, pos := pos, after := after, guard := none } :: rest) a w) :
    wpList P ops Q ({ dst := none, op := .store t x y, type := ty, pos := pos, after := after, guard := none } :: rest) a w := h
/-- A job, its span moved by an edit. -/
def mvJ (a d i : Int) (x : J) : J := ⟨x.s, stt x.f a d i, max (stt x.f a d i) (enn x.t a d i), x.a, x.l⟩
/-- Does it touch what the edit put in? -/
def tch (a i : Int) (y : J) : Bool := decide (y.f ≤ a + i) && decide (a ≤ y.t)
structure AS where
  out : List J
  own : J
  n : Nat
  went : List (Int × Int)
def stepA (a d i : Int) (s : AS) (x : J) : AS :=
  if tch a i (mvJ a d i x) then
    ⟨s.out, ⟨if s.n = 0 then x.s else s.own.s, min s.own.f (mvJ a d i x).f, max s.own.t (mvJ a d i x).t, max s.own.a x.a, s.own.l⟩, s.n + 1, if s.n = 0 then s.went else s.went ++ [(x.s, s.own.s)]⟩
  else ⟨s.out ++ [mvJ a d i x], s.own, s.n, s.went⟩
end Go.Proofs.YtpplkjjfaibmmaaDoor
