/- Dfa: LightDfa, Pick; what is kept. -/
import Derived.Test.YtaadkdmbhckdeaaDoorT6
namespace Go.Proofs.YtaadkdmbhckdeaaDoor
open Go Go.Proofs Go.RowKit
attribute [local go_sem] Oper.semAt_some
/-- A world that is w below w's end. -/
structure BW (w : World) where
  W : World
  h : Below w.heap.size w W
instance (w : World) : Inhabited (BW w) := ⟨⟨w, Below.refl _ w⟩⟩
theorem region_below {P : Program} {id : Nat} {Q : Exit → Act → World → Prop} {a : Act} {w : World} {l : List Oper} (hm : P.follows .mixedOrders = true) (hB : Region.lexB .any l.toArray = true)
    (h : wpQuiet P l.toArray (fun w' => ∃ p : BW w, w' = p.W) (fun a' => ∀ w', (∃ p : BW w, w' = p.W) → Q .normal a' w') l a) : (Code.region id l.toArray true).wp P Q a w :=
  wp_region_quiet (C := fun w' => ∃ p : BW w, w' = p.W) hm hB ⟨⟨w.drew, (Below.refl _ w).drew⟩, rfl⟩ (by simpa using h)
theorem Calls.below_of {P : Program} {f : FuncId} {args : Array Value} {w : World} {p : BW w} {v : Value}
    (h : Calls P f args p.W fun e w' => e = .returned v ∧ Below p.W.heap.size p.W w') : Calls P f args p.W fun e w'' => e = .returned v ∧ ∃ q : BW w, w'' = q.W :=
  h.mono fun _ w' ⟨he, hb⟩ => ⟨he, ⟨w', p.h.trans (hb.mono p.h.size)⟩, rfl⟩

set_option maxHeartbeats 4000000 in
theorem light_k (an ar : Option Addr) (n r cn cr : Nat) (hn : n ≤ 9223372036854775807) (hr : r ≤ 9223372036854775807) (w : World) :
    Calls Tryd.prog 14 #[.agg #[.slice an n cn, .slice ar r cr], .int .i64 24] w fun e w' => e = .returned (.bool (decide (r ≤ 24) && decide (n ≤ 6144))) ∧ Below w.heap.size w w' := by
  have hB := (Below.refl w.heap.size w).alloc (Nat.le_refl _) (.cells #[.slice an n cn, .slice ar r cr] 32)
  obtain ⟨rv, hrv⟩ : ∃ rv, rv = (decide (r ≤ 24) && decide (n ≤ 6144)) := ⟨_, rfl⟩
  rw [← hrv]
  have HRV := Lib.hid hrv
  clear hrv
  by_cases h1 : (r : Int) ≤ 24
  · by_cases h2 : (n : Int) ≤ 6144
    · have HE := Lib.hid (show rv = true by rw [HRV.out]; simp; omega)
      clear HRV
      go_enter Tryd.func14, Tryd.ntmps14
      go_wp2
      go_ret
      exact ⟨by rw [HE.out]; rfl, hB⟩
    · have HE := Lib.hid (show rv = false by rw [HRV.out]; simp; omega)
      have h3 : (6144 : Int) < (n : Int) := by omega
      clear HRV h2
      go_enter Tryd.func14, Tryd.ntmps14
      go_wp2
      have E : decide ((n : Int) ≤ 6144) = false := by simp; omega
      exact bodyPost_ret (v := .bool rv) (by simp [results, Tryd.results14, go_sem, HE.out, E]) rfl ⟨rfl, hB⟩
  · have HE := Lib.hid (show rv = false by rw [HRV.out]; simp; omega)
    have h3 : (24 : Int) < (r : Int) := by omega
    clear HRV h1
    go_enter Tryd.func14, Tryd.ntmps14
    go_wp2
    go_ret
    exact ⟨by rw [HE.out]; rfl, hB⟩
def SomeI (w : World) (e : Ending) (w' : World) : Prop := ∃ k : Int, e = .returned (.int .i64 k) ∧ w = w'
set_option maxHeartbeats 4000000 in
/-- Some number. -/
theorem pick_k (n : Int) (m : Nat) (h0 : 1 ≤ m) (hm : m ≤ 1000000) (w : World) : Calls Tryd.prog 15 #[.int .i64 n, .int .i64 m] w (SomeI w) := by
  have h1 : ¬ ((m : Int) = 0) := by omega
  have h2 : (1 : Int) ≤ (m : Int) := by omega
  go_enter Tryd.func15, Tryd.ntmps15
  go_wp2
  all_goals
    go_ret
    exact ⟨_, rfl, rfl⟩
end Go.Proofs.YtaadkdmbhckdeaaDoor
