/- Dfa: LightDfa, Pick; what is kept. -/
import Derived.Test.YtaadkdmbhckdeaaDoorT2
import Derived.Lib.ConvBytes
namespace Go.Proofs.YtaadkdmbhckdeaaDoor
open Go Go.Proofs Go.RowKit
attribute [local go_sem] Oper.semAt_some
/-- A table that may be, in memory. -/
structure Tab (w : World) (next rule : List Int) (an ar : Option Addr) : Prop where
  r1 : 1 ≤ rule.length
  r2 : rule.length ≤ 512
  nl : next.length = 256 * rule.length
  ok : okT next rule = true
  bd : ∀ x ∈ next, -1 ≤ x ∧ x < rule.length
  hN : IRow w an next
  hR : IRow w ar rule
theorem Tab.below {n : Nat} {w w' : World} {next rule : List Int} {an ar : Option Addr} (h : Tab w next rule an ar) (hb : Below n w w') (hn : w.heap.size ≤ n) : Tab w' next rule an ar :=
  { h with hN := h.hN.below hb hn, hR := h.hR.below hb hn }
end Go.Proofs.YtaadkdmbhckdeaaDoor

namespace Go.Proofs.YtaadkdmbhckdeaaDoor
open Go Go.Proofs Go.RowKit
attribute [local go_sem] Oper.semAt_some
end Go.Proofs.YtaadkdmbhckdeaaDoor

namespace Go.Proofs.YtaadkdmbhckdeaaDoor
open Go Go.Proofs Go.RowKit
attribute [local go_sem] Oper.semAt_some
end Go.Proofs.YtaadkdmbhckdeaaDoor

namespace Go.Proofs.YtaadkdmbhckdeaaDoor
open Go Go.Proofs Go.RowKit
attribute [local go_sem] Oper.semAt_some
end Go.Proofs.YtaadkdmbhckdeaaDoor

namespace Go.Proofs.YtaadkdmbhckdeaaDoor
open Go Go.Proofs Go.RowKit
attribute [local go_sem] Oper.semAt_some
/-- A world that is w below w's end. -/
structure BW (w : World) where
  W : World
  h : Below w.heap.size w W
instance (w : World) : Inhabited (BW w) := ⟨⟨w, Below.refl _ w⟩⟩
theorem region_below {P : Program} {id : Nat} {Q : Exit → Act → World → Prop} {a : Act} {w : World} {l : List Oper} (hm : P.follows .mixedOrders = true) (hB : Region.lexB .any l.toArray = true)
    (h : wpQuiet P l.toArray (fun w' => ∃ p : BW w, w' = p.W) (fun a' => ∀ w', (∃ p : BW w, w' = p.W) → Q .normal a' w') l a) : (Code.region id l.toArray true).wp P Q a w :=
  wp_region_quiet (C := fun w' => ∃ p : BW w, w' = p.W) hm hB ⟨⟨w.drew, (Below.refl _ w).drew⟩, rfl⟩ (by simpa using h)
theorem Calls.below_of {P : Program} {f : FuncId} {args : Array Value} {w : World} {p : BW w} {v : Value}
    (h : Calls P f args p.W fun e w' => e = .returned v ∧ Below p.W.heap.size p.W w') : Calls P f args p.W fun e w'' => e = .returned v ∧ ∃ q : BW w, w'' = q.W :=
  h.mono fun _ w' ⟨he, hb⟩ => ⟨he, ⟨w', p.h.trans (hb.mono p.h.size)⟩, rfl⟩

end Go.Proofs.YtaadkdmbhckdeaaDoor
