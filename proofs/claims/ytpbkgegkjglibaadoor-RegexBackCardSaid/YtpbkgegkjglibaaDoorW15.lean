/- Regex: LightRegex. -/
import Derived.Test.YtpbkgegkjglibaaDoorW6
namespace Go.Proofs.YtpbkgegkjglibaaDoor
open Go Go.Proofs Go.RowKit
attribute [local go_sem] Oper.semAt_some
def LightPost (n most : Nat) (e : Ending) : Prop := ∃ b, e = .returned (.bool b) ∧ (b = true → n ≤ most)
set_option maxHeartbeats 4000000 in
theorem light_k (most : Nat) (hmost : most ≤ 1000) (r : List Nd) (v : Value) (_hl : r.length ≤ 9223372036854775807) (w : World) (hR : RRow w v r) :
    Calls Tryd.prog 13 #[v, .int .i64 most] w fun e w' => LightPost r.length most e ∧ w' = w := by
  obtain ⟨la, c, rfl, h1, h2⟩ := hR
  obtain ⟨n, hn⟩ : ∃ n, n = r.length := ⟨_, rfl⟩
  rw [← hn] at _hl ⊢
  have HNn := Lib.hid hn
  clear hn
  go_enter Tryd.func13, Tryd.ntmps13
  go_wp2
  obtain ⟨wo, rfl⟩ : ∃ wo : World, wo = w := ⟨_, rfl⟩
  go_loopw [5, 6] (fun t5 ix wr => ∃ (k : Nat) (z : Int), k ≤ n ∧ k ≤ most + 1 ∧ ix = .int .i64 k ∧ t5 = .int .i64 z ∧ wr = wo)
    (fun _ ix _ => most + 1 - (intOf ix).toNat)
  case atStart => exact ⟨0, 0, Nat.zero_le _, Nat.zero_le _, rfl, rfl, rfl⟩
  case round =>
    obtain ⟨k, z, hk, hkm, rfl, rfl, rfl⟩ := hrel
    by_cases hlt : k < n ∧ k ≤ most
    · obtain ⟨hlt, hle⟩ := hlt
      obtain ⟨x, hx⟩ : ∃ x, r[k]? = some x := ⟨_, List.getElem?_eq_getElem (by rw [← HNn.out]; exact hlt)⟩
      cases la with
      | none => exfalso; have := h1 rfl; subst this; simp at hx
      | some ad =>
      obtain ⟨B, off, rfl, hBl, hX⟩ := h2 _ rfl (by intro e; rw [e] at hx; simp at hx)
      obtain ⟨_, _, _, _, _, kv, c5, hIR⟩ := hX k x hx
      obtain ⟨lk, ck, rfl, _, _⟩ := hIR
      have hk0 : (0 : Int) ≤ (k : Int) := by omega
      have hk1 : (k : Int) < (n : Int) := by omega
      have hk2 : (k : Int) ≤ (most : Int) := by omega
      clear hx
      go_wp2
      exact ⟨⟨k + 1, _, by omega, by omega, by simp, rfl, trivial⟩, by simp [intOf]; omega⟩
    · by_cases hnm : n ≤ most
      · have hlt : ¬ (k : Int) < (n : Int) := by omega
        have h2m : (n : Int) ≤ (most : Int) := by omega
        have hm2 : (0 : Int) ≤ (most : Int) ∧ (most : Int) ≤ 1000 := by omega
        go_wp2
        all_goals exact bodyPost_ret (v := .bool _) (by simp [results, Tryd.results13, go_sem]; rfl) rfl ⟨⟨_, rfl, fun _ => hnm⟩, rfl⟩
      · have hlt : (most : Int) < (n : Int) := by omega
        have hk3 : ¬ (k : Int) ≤ (most : Int) := by omega
        go_wp2
        all_goals exact bodyPost_ret (v := .bool false) (by simp [results, Tryd.results13, go_sem]) rfl ⟨⟨_, rfl, fun h => by cases h⟩, rfl⟩
end Go.Proofs.YtpbkgegkjglibaaDoor
