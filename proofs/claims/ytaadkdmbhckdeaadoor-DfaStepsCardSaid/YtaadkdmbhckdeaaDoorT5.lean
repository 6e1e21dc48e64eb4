/- Dfa: Step. -/
import Derived.Test.YtaadkdmbhckdeaaDoorT3
namespace Go.Proofs.YtaadkdmbhckdeaaDoor
open Go Go.Proofs Go.RowKit
attribute [local go_sem] Oper.semAt_some
set_option maxRecDepth 100000 in
set_option maxHeartbeats 4000000 in
theorem step_k {next rule : List Int} {an ar : Option Addr} {cn cr : Nat} {w : World} (h : Tab w next rule an ar) (st : Int) (c : Nat) (hc256 : c < 256) :
    Calls Tryd.prog 17 #[.agg #[.slice an next.length cn, .slice ar rule.length cr], .int .i64 st, .int .u8 c] w fun e w' => e = .returned (.int .i64 (stepV next rule.length st c)) ∧ Below w.heap.size w w' := by
  have hB := (Below.refl w.heap.size w).alloc (Nat.le_refl _) (.cells #[.slice an next.length cn, .slice ar rule.length cr] 32)
  have hT := h.below hB (Nat.le_refl _)
  have kc := len_k (cn := cn) (cr := cr) hT
  by_cases h0 : 0 ≤ st ∧ st < rule.length
  · obtain ⟨k, rfl⟩ : ∃ k : Nat, st = k := ⟨st.toNat, by omega⟩
    have hk : 256 * k + c < next.length := by have := h.nl; omega
    have HV : Hid (stepV next rule.length k c = next[256 * k + c]) := Lib.hid (by rw [stepV, if_pos h0]; simp [hk])
    obtain ⟨b, off, rfl, hb, hcell⟩ := hT.hN.at hk
    simp only [World.size_alloc] at hb
    generalize next[256 * k + c] = x at *
    generalize stepV next rule.length k c = rv at *
    have hk' : (k : Int) < (rule.length : Int) := by omega
    have hk5 : (k : Int) < 512 := by have := h.r2; omega
    have hk0 : (0 : Int) ≤ (k : Int) := by omega
    have hc0 : (0 : Int) ≤ (c : Int) := by omega
    have hc1 : (c : Int) < 256 := by omega
    have hk2 : 256 * (k : Int) + (c : Int) < (next.length : Int) := by omega
    have htn : (256 * (k : Int) + (c : Int)).toNat = 256 * k + c := by omega
    clear h hT h0
    generalize next.length = N at *
    generalize rule.length = R at *
    go_enter Tryd.func17, Tryd.ntmps17
    go_wp2_with (go_at_call 10; ((with_reducible refine kc.mono ?_); rintro e Wd ⟨rfl, hBd⟩; obtain ⟨hc, hf⟩ := bcell hBd; have hcell' := (hBd.cell (p := ⟨b, off + (256 * k + c), none⟩) (by simp; omega)).trans hcell))
    go_ret
    exact ⟨by rw [HV.out]; rfl, hB.trans (hBd.mono (by simp))⟩
  · have HV : Hid (stepV next rule.length st c = -1) := Lib.hid (if_neg h0)
    generalize stepV next rule.length st c = rv at *
    clear h hT
    generalize next.length = N at *
    generalize rule.length = R at *
    by_cases h1 : 0 ≤ st
    · have h2 : (R : Int) ≤ st := by omega
      clear h0
      go_enter Tryd.func17, Tryd.ntmps17
      go_wp2_with (go_at_call 10; ((with_reducible refine kc.mono ?_); rintro e Wd ⟨rfl, hBd⟩))
      go_ret
      exact ⟨by rw [HV.out]; rfl, hB.trans (hBd.mono (by simp))⟩
    · have h2 : st < 0 := by omega
      clear h0 h1
      go_enter Tryd.func17, Tryd.ntmps17
      go_wp2_with fail
      go_ret
      exact ⟨by rw [HV.out]; rfl, hB⟩
end Go.Proofs.YtaadkdmbhckdeaaDoor
