import Derived.Test.YtjaabolpdelbiaaDoorC10
import Derived.Test.YtjaabolpdelbiaaDoorC8
import Derived.BigQuiet
import Derived.Stop.RegionWithIn
namespace Go.Proofs.YtjaabolpdelbiaaDoor
open Go Go.Proofs Go.RowKit Go.Shelf
attribute [local go_sem] Oper.semAt_some

set_option maxHeartbeats 1000000 in
/-- viewportkit.Pick. -/
theorem pick_calls (i m : Int) (hi : -9223372036854775808 ≤ i ∧ i ≤ 9223372036854775807) (hm : 1 ≤ m ∧ m ≤ 1000) (w : World) :
    Calls Tryd.prog 18 #[.int .i64 i, .int .i64 m] w fun e w' => (∃ k : Nat, (k : Int) < m ∧ e = .returned (.int .i64 k)) ∧ w' = w := by
  obtain ⟨h1, h2⟩ := hm
  have hne : (m == 0) = false := by simp; omega
  have hm1 : decide (m < 1) = false := by simp; omega
  by_cases hp : 0 ≤ i
  · have hz : i.tmod m = i % m := Int.tmod_eq_emod_of_nonneg hp
    have hb := Int.emod_lt_of_pos i (show 0 < m by omega)
    have hb0 := Int.emod_nonneg i (show m ≠ 0 by omega)
    go_enter Tryd.func18, Tryd.ntmps18
    go_wp2
    go_ret
    exact ⟨⟨(i % m).toNat, by omega, by simp; omega⟩, rfl⟩
  · have hz : i.tmod m = -((-i) % m) := by
      have e : i = -(-i) := by omega
      have h := Int.neg_tmod (-i) m
      rw [← e] at h
      rw [h, Int.tmod_eq_emod_of_nonneg (by omega)]
    have hb := Int.emod_lt_of_pos (-i) (show 0 < m by omega)
    have hb0 := Int.emod_nonneg (-i) (show m ≠ 0 by omega)
    generalize (-i) % m = r at hz hb hb0
    by_cases hr : r = 0
    · subst hr
      have hz : i.tmod m = 0 := by omega
      go_enter Tryd.func18, Tryd.ntmps18
      go_wp2
      go_ret
      exact ⟨⟨0, by omega, rfl⟩, rfl⟩
    · have hw : IntKind.i64.wrap (-r + m) = -r + m := by rw [IntKind.wrap_i64]; omega
      have hlt : decide (-r < 0) = true := by simp; omega
      go_enter Tryd.func18, Tryd.ntmps18
      go_wp2
      go_ret
      exact ⟨⟨(-r + m).toNat, by omega, by simp; omega⟩, rfl⟩
end Go.Proofs.YtjaabolpdelbiaaDoor
