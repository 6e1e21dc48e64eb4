/- Dfa: LightNfa 7. -/
import Derived.Test.YtaadkdmbhckdeaaDoorN2
import Derived.Deep.Cut
namespace Go.Proofs.YtaadkdmbhckdeaaDoor
open Go Go.Proofs Go.RowKit
attribute [local go_sem] Oper.semAt_some
def LightPost (a b c : Nat) (e : Ending) : Prop := ∃ z : Bool, e = .returned (.bool z) ∧ (z = true → a ≤ 12 ∧ b ≤ 12 ∧ c ≤ 12)
set_option maxRecDepth 100000 in
set_option maxHeartbeats 4000000 in
theorem light7_k (N : Nf) (ac an ar : Option Addr) (cc cn cr : Nat) (w : World) (h : NfAt w N ac an ar) :
    Calls Tryd.prog 7 #[.agg #[.slice ac N.cl.length cc, .slice an N.nx.length cn, .slice ar N.ru.length cr], .int .i64 12] w fun e w' => LightPost N.cl.length N.nx.length N.ru.length e ∧ Below w.heap.size w w' := by
  obtain ⟨n, hn⟩ : ∃ n, n = N.cl.length := ⟨_, rfl⟩
  obtain ⟨m, hm⟩ : ∃ m, m = N.nx.length := ⟨_, rfl⟩
  obtain ⟨r, hr⟩ : ∃ r, r = N.ru.length := ⟨_, rfl⟩
  rw [← hn, ← hm, ← hr]
  obtain ⟨wo, hwo⟩ : ∃ wo, wo = w.alloc (.cells #[.slice ac n cc, .slice an m cn, .slice ar r cr] 26) := ⟨_, rfl⟩
  have hb0 : Below w.heap.size w wo := by rw [hwo]; exact (Below.refl _ w).alloc (Nat.le_refl _) _
  obtain ⟨U, hU⟩ : ∃ U, U = w.heap.size := ⟨_, rfl⟩
  have u0 : wo.cell? ⟨U, 0, none⟩ = some (.slice ac n cc) := by rw [hwo, hU]; simp
  have u1 : wo.cell? ⟨U, 1, none⟩ = some (.slice an m cn) := by rw [hwo, hU]; simp
  have u2 : wo.cell? ⟨U, 2, none⟩ = some (.slice ar r cr) := by rw [hwo, hU]; simp
  have hN := h.n.below hb0 (Nat.le_refl _)
  have HM := Lib.hid hm
  have HW := Lib.hid hwo
  have HU := Lib.hid hU
  have HB := Lib.hid hb0
  clear hn hm hr hwo hU hb0 h
  go_enter Tryd.func7, Tryd.ntmps7
  go_upto_region 1 with (fail)
  rw [← HW.out, ← HU.out]
  go_wp2_with fail
  go_loopw [5, 6] (fun t5 i wr => ∃ (k : Nat) (z : Int), k ≤ m ∧ k ≤ 13 ∧ i = .int .i64 k ∧ t5 = .int .i64 z ∧ wr = wo)
    (fun _ i _ => 13 - (intOf i).toNat)
  case atStart => exact ⟨0, 0, Nat.zero_le _, Nat.zero_le _, rfl, rfl, rfl⟩
  case round =>
    obtain ⟨k, z, hk, hk13, rfl, rfl, rfl⟩ := hrel
    by_cases hgo : k < m ∧ k ≤ 12
    · obtain ⟨hkl, hk12⟩ := hgo
      obtain ⟨Bn, on, rfl, hBn, hNc⟩ := hN (by intro e; rw [e] at HM; have := HM.out; simp at this; omega)
      obtain ⟨la, c, d0, _⟩ := hNc k (by rw [← HM.out]; exact hkl)
      have hk0 : (0 : Int) ≤ (k : Int) := by omega
      have hk1 : (k : Int) < (m : Int) := by omega
      have hk2 : (k : Int) ≤ 12 := by omega
      have hkt : (k : Int).toNat = k := by omega
      clear hNc
      go_wp2_with fail
      exact ⟨⟨k + 1, _, by omega, by omega, by simp, rfl, trivial⟩, by simp [intOf]; omega⟩
    · have HB2 := HB.out
      have hx : ¬ (k : Int) < (m : Int) ∨ ((k : Int) < (m : Int) ∧ ¬ (k : Int) ≤ 12) := by omega
      have fin : ∀ (b : Bool) (W : World), (b = true → n ≤ 12 ∧ m ≤ 12 ∧ r ≤ 12) → W = wr → LightPost n m r (.returned (.bool b)) ∧ Below w.heap.size w W := fun b W h e => ⟨⟨b, rfl, h⟩, by rw [e]; exact HB2⟩
      by_cases h1 : n ≤ 12
      · have g1 : (n : Int) ≤ 12 := by omega
        by_cases h2 : m ≤ 12
        · have g2 : (m : Int) ≤ 12 := by omega
          by_cases h3 : r ≤ 12
          · have g3 : (r : Int) ≤ 12 := by omega
            rcases hx with hx | ⟨hx, hy⟩
            · go_wp2_with fail
              all_goals (go_ret; exact fin _ _ (fun _ => ⟨h1, h2, h3⟩) rfl)
            · exfalso; omega
          · have g3 : ¬ (r : Int) ≤ 12 := by omega
            rcases hx with hx | ⟨hx, hy⟩
            · go_wp2_with fail
              all_goals (go_ret; exact fin false _ (fun h => by cases h) rfl)
            · exfalso; omega
        · have g2 : ¬ (m : Int) ≤ 12 := by omega
          rcases hx with hx | ⟨hx, hy⟩
          · go_wp2_with fail
            all_goals (go_ret; exact fin false _ (fun h => by cases h) rfl)
          · go_wp2_with fail
            all_goals (go_ret; exact fin false _ (fun h => by cases h) rfl)
      · have g1 : ¬ (n : Int) ≤ 12 := by omega
        rcases hx with hx | ⟨hx, hy⟩
        · go_wp2_with fail
          all_goals (go_ret; exact fin false _ (fun h => by cases h) rfl)
        · go_wp2_with fail
          all_goals (go_ret; exact fin false _ (fun h => by cases h) rfl)
end Go.Proofs.YtaadkdmbhckdeaaDoor
