/- Dfa: Rule. -/
import Derived.Test.YtaadkdmbhckdeaaDoorT3
namespace Go.Proofs.YtaadkdmbhckdeaaDoor
open Go Go.Proofs Go.RowKit
attribute [local go_sem] Oper.semAt_some
set_option maxHeartbeats 4000000 in
theorem rule_k {next rule : List Int} {an ar : Option Addr} {cn cr : Nat} {w : World} (h : Tab w next rule an ar) (st : Int) :
    Calls Tryd.prog 16 #[.agg #[.slice an next.length cn, .slice ar rule.length cr], .int .i64 st] w fun e w' => e = .returned (.int .i64 (ruleV rule st)) ∧ Below w.heap.size w w' := by
  have hB := (Below.refl w.heap.size w).alloc (Nat.le_refl _) (.cells #[.slice an next.length cn, .slice ar rule.length cr] 32)
  have hT := h.below hB (Nat.le_refl _)
  have kc := len_k (cn := cn) (cr := cr) hT
  by_cases h0 : 0 ≤ st ∧ st < rule.length
  · obtain ⟨k, rfl⟩ : ∃ k : Nat, st = k := ⟨st.toNat, by omega⟩
    have hk : k < rule.length := by omega
    have HV : Hid (ruleV rule k = rule[k]) := Lib.hid (by rw [ruleV, if_pos h0]; simp [hk])
    obtain ⟨b, off, rfl, hb, hcell⟩ := hT.hR.at hk
    simp only [World.size_alloc] at hb
    generalize rule[k] = x at *
    generalize ruleV rule k = rv at *
    have hk' : (k : Int) < (rule.length : Int) := by omega
    have hk0 : (0 : Int) ≤ (k : Int) := by omega
    clear h hT h0
    generalize next.length = N at *
    generalize rule.length = R at *
    go_enter Tryd.func16, Tryd.ntmps16
    go_wp2_with (go_at_call 10; ((with_reducible refine kc.mono ?_); rintro e Wd ⟨rfl, hBd⟩; obtain ⟨hc, hf⟩ := bcell hBd; have hcell' := (hBd.cell (p := ⟨b, off + k, none⟩) (by simp; omega)).trans hcell))
    go_ret
    exact ⟨by rw [HV.out]; rfl, hB.trans (hBd.mono (by simp))⟩
  · have HV : Hid (ruleV rule st = -1) := Lib.hid (if_neg h0)
    generalize ruleV rule st = rv at *
    clear h hT
    generalize next.length = N at *
    generalize rule.length = R at *
    by_cases h1 : 0 ≤ st
    · have h2 : (R : Int) ≤ st := by omega
      clear h0
      go_enter Tryd.func16, Tryd.ntmps16
      go_wp2_with (go_at_call 10; ((with_reducible refine kc.mono ?_); rintro e Wd ⟨rfl, hBd⟩))
      go_ret
      exact ⟨by rw [HV.out]; rfl, hB.trans (hBd.mono (by simp))⟩
    · have h2 : st < 0 := by omega
      clear h0 h1
      go_enter Tryd.func16, Tryd.ntmps16
      go_wp2_with fail
      go_ret
      exact ⟨by rw [HV.out]; rfl, hB⟩
end Go.Proofs.YtaadkdmbhckdeaaDoor
