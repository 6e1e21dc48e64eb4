/- Dfa: tables in memory; Check, Len. -/
import Derived.Test.YtaadkdmbhckdeaaDoorMm
import Derived.WalkKit
import Derived.ProofKit
import Derived.OpenShut
import Derived.KernelRfl
import Derived.BigQuiet
import Derived.Deep.QuietTactic
import Derived.Lib.Hide
namespace Go.Proofs.YtaadkdmbhckdeaaDoor
open Go Go.Proofs Go.RowKit
attribute [local go_sem] Oper.semAt_some
/-- A row of ints, read. -/
def IRow (w : World) (a : Option Addr) (l : List Int) : Prop := l ≠ [] → ∃ b off, a = some ⟨b, off, none⟩ ∧ b < w.heap.size ∧ ∀ j (h : j < l.length), w.cell? ⟨b, off + j, none⟩ = some (.int .i64 l[j])
theorem IRow.below {n : Nat} {w w' : World} {a : Option Addr} {l : List Int} (h : IRow w a l) (hb : Below n w w') (hn : w.heap.size ≤ n) : IRow w' a l := fun h0 => by
  obtain ⟨b, off, rfl, h1, h2⟩ := h h0
  exact ⟨b, off, rfl, Nat.lt_of_lt_of_le h1 hb.size, fun j hj => (hb.cell (p := ⟨b, off + j, none⟩) (by simp only; omega)).trans (h2 j hj)⟩
theorem IRow.at {w : World} {a : Option Addr} {l : List Int} (h : IRow w a l) {j : Nat} (hj : j < l.length) : ∃ b off, a = some ⟨b, off, none⟩ ∧ b < w.heap.size ∧ w.cell? ⟨b, off + j, none⟩ = some (.int .i64 l[j]) := by
  obtain ⟨b, off, h0, h1, h2⟩ := h (by intro e; subst e; simp at hj)
  exact ⟨b, off, h0, h1, h2 j hj⟩
/-- Is a row within bounds? -/
def inR (lo hi : Int) (l : List Int) : Bool := l.all fun x => decide (lo ≤ x) && decide (x < hi)
/-- A table that may be. -/
def okT (next rule : List Int) : Bool := decide (1 ≤ rule.length) && (decide (rule.length ≤ 512) && (decide (next.length = 256 * rule.length) && (inR (-1) 16 rule && inR (-1) rule.length next)))

end Go.Proofs.YtaadkdmbhckdeaaDoor
