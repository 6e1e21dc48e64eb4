/- Dfa: Len of a table that may be. -/
import Derived.Test.YtaadkdmbhckdeaaDoorT2
namespace Go.Proofs.YtaadkdmbhckdeaaDoor
open Go Go.Proofs Go.RowKit
attribute [local go_sem] Oper.semAt_some
theorem bcell {W w1 : World} (hb : Below W.heap.size W w1) : (∀ b o, b < W.heap.size → w1.cell? ⟨b, o, none⟩ = W.cell? ⟨b, o, none⟩) ∧ (∀ b o, b < W.heap.size → w1.frozen? ⟨b, o, none⟩ = W.frozen? ⟨b, o, none⟩) :=
  ⟨fun b o h => hb.cell (p := ⟨b, o, none⟩) h, fun b o h => hb.frozen (p := ⟨b, o, none⟩) h⟩
/-- A table that may be, in memory. -/
structure Tab (w : World) (next rule : List Int) (an ar : Option Addr) : Prop where
  r1 : 1 ≤ rule.length
  r2 : rule.length ≤ 512
  nl : next.length = 256 * rule.length
  ok : okT next rule = true
  bd : ∀ x ∈ next, -1 ≤ x ∧ x < rule.length
  hN : IRow w an next
  hR : IRow w ar rule
theorem Tab.mk' {w : World} {next rule : List Int} {an ar : Option Addr} (h : okT next rule = true) (hN : IRow w an next) (hR : IRow w ar rule) : Tab w next rule an ar := by
  have ok := h
  unfold okT at h
  simp only [Bool.and_eq_true, decide_eq_true_eq] at h
  obtain ⟨h1, h2, h3, h4, h5⟩ := h
  refine ⟨h1, h2, h3, ok, fun x hx => ?_, hN, hR⟩
  unfold inR at h5
  simp only [List.all_eq_true, Bool.and_eq_true, decide_eq_true_eq] at h5
  exact h5 x hx
theorem Tab.below {n : Nat} {w w' : World} {next rule : List Int} {an ar : Option Addr} (h : Tab w next rule an ar) (hb : Below n w w') (hn : w.heap.size ≤ n) : Tab w' next rule an ar :=
  { h with hN := h.hN.below hb hn, hR := h.hR.below hb hn }
theorem check_ok {next rule : List Int} {an ar : Option Addr} {cn cr : Nat} {w : World} (h : Tab w next rule an ar) :
    Calls Tryd.prog 11 #[.agg #[.slice an next.length cn, .slice ar rule.length cr]] w fun e w' => e = .returned (.int .i64 0) ∧ Below w.heap.size w w' := by
  have := check_k next rule (by have := h.nl; have := h.r2; omega) (by have := h.r2; omega) an ar cn cr w h.hN h.hR
  rwa [show checkV next rule = 0 from if_pos h.ok] at this

set_option maxHeartbeats 4000000 in
theorem len_k {next rule : List Int} {an ar : Option Addr} {cn cr : Nat} {w : World} (h : Tab w next rule an ar) :
    Calls Tryd.prog 10 #[.agg #[.slice an next.length cn, .slice ar rule.length cr]] w fun e w' => e = .returned (.int .i64 rule.length) ∧ Below w.heap.size w w' := by
  have hB := (Below.refl w.heap.size w).alloc (Nat.le_refl _) (.cells #[.slice an next.length cn, .slice ar rule.length cr] 32)
  have hT := h.below hB (Nat.le_refl _)
  have kc := check_ok (cn := cn) (cr := cr) hT
  clear h hT
  generalize next.length = N at *
  generalize rule.length = R at *
  go_enter Tryd.func10, Tryd.ntmps10
  go_wp2_with (go_at_call 11; ((with_reducible refine kc.mono ?_); rintro e Wd ⟨rfl, hBd⟩; obtain ⟨hc, hf⟩ := bcell hBd))
  go_ret
  exact ⟨rfl, hB.trans (hBd.mono (by simp))⟩
/-- A state's rule. -/
def ruleV (rule : List Int) (st : Int) : Int := if 0 ≤ st ∧ st < rule.length then rule.getD st.toNat 0 else -1
/-- The state behind one by a byte. -/
def stepV (next : List Int) (n : Nat) (st : Int) (b : Nat) : Int := if 0 ≤ st ∧ st < n then next.getD (256 * st.toNat + b) 0 else -1
end Go.Proofs.YtaadkdmbhckdeaaDoor
