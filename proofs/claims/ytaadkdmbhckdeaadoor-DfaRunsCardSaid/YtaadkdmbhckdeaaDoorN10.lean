/- class.Split's order: its comparing function, and the sort. -/
import Derived.Test.YtaadkdmbhckdeaaDoorN9
import Derived.Shelf.SlSortCmp.WholeK
namespace Go.Proofs.YtaadkdmbhckdeaaDoor
open Go Go.Proofs Go.RowKit Go.Shelf Go.Lib Go.Sort
attribute [local go_sem] Oper.semAt_some
def cmpN (a b : Nat) : Int := if a < b then -1 else if b < a then 1 else 0
def encC (x : Kl) : List Value := [.int .u64 (x.a : Nat), .int .u64 (x.b : Nat), .int .u64 (x.c : Nat), .int .u64 (x.d : Nat)]
set_option maxHeartbeats 1000000 in
theorem compare39 (a b : Nat) (w : World) : Calls Tryd.prog 39 #[.int .u8 (a : Nat), .int .u8 (b : Nat)] w fun e w' => e = .returned (.int .i64 (cmpN a b)) ∧ w' = w := by
  by_cases h1 : a < b
  · have e : cmpN a b = -1 := by simp [cmpN, h1]
    rw [e]
    have d1 : decide ((a : Int) < (b : Int)) = true := by simp; omega
    go_enter Tryd.func39, Tryd.ntmps39
    go_wp2
    go_ret
    exact ⟨rfl, rfl⟩
  · by_cases h2 : b < a
    · have e : cmpN a b = 1 := by simp [cmpN, h1, h2]
      rw [e]
      have d1 : decide ((a : Int) < (b : Int)) = false := by simp; omega
      have d2 : decide ((b : Int) < (a : Int)) = true := by simp; omega
      go_enter Tryd.func39, Tryd.ntmps39
      go_wp2
      go_ret
      exact ⟨rfl, rfl⟩
    · have e : cmpN a b = 0 := by simp [cmpN, h1, h2]
      rw [e]
      have d1 : decide ((a : Int) < (b : Int)) = false := by simp; omega
      have d2 : decide ((b : Int) < (a : Int)) = false := by simp; omega
      go_enter Tryd.func39, Tryd.ntmps39
      go_wp2
      go_ret
      exact ⟨rfl, rfl⟩
theorem least_k (x : Kl) (w : World) (hp : 0 < w.heap.size) (hT : TabAt w) : Calls Tryd.prog 24 #[.agg (encC x).toArray] w fun e w' => e = .returned (.tuple #[.int .u8 (x.low : Nat), .bool !x.by_.isEmpty]) ∧ BD w.heap.size w w' :=
  least_calls x.a x.b x.c x.d x.h w hp hT
set_option maxHeartbeats 1000000 in
theorem closure38 (x y : Kl) (w : World) (hp : 0 < w.heap.size) (hT : TabAt w) : Calls Tryd.prog 38 #[.agg (encC x).toArray, .agg (encC y).toArray] w fun e w' => e = .returned (.int .i64 (cmpN x.low y.low)) ∧ BD w.heap.size w w' := by
  have hl : ∀ W, Hid (BD w.heap.size w W) → Calls Tryd.prog 24 _ W _ := fun W h => least_k x W (Nat.lt_of_lt_of_le hp h.out.1.size) (hT.below h.out.1 hp)
  have hr : ∀ W, Hid (BD w.heap.size w W) → Calls Tryd.prog 24 _ W _ := fun W h => least_k y W (Nat.lt_of_lt_of_le hp h.out.1.size) (hT.below h.out.1 hp)
  have hc := compare39 x.low y.low
  have HL := Lib.hid hl
  have HR := Lib.hid hr
  clear hl hr
  obtain ⟨xa, xb, xc, xd, xh⟩ := x
  obtain ⟨ya, yb, yc, yd, yh⟩ := y
  simp only [encC] at *
  generalize (⟨xa, xb, xc, xd, xh⟩ : Kl).low = p at *
  generalize (⟨ya, yb, yc, yd, yh⟩ : Kl).low = q at *
  generalize (⟨xa, xb, xc, xd, xh⟩ : Kl).by_ = px at *
  generalize (⟨ya, yb, yc, yd, yh⟩ : Kl).by_ = qx at *
  generalize cmpN p q = r at *
  have HC := Lib.hid hc
  clear hc
  obtain ⟨W1, hW1⟩ : ∃ W1, W1 = (w.alloc (.cells #[.int .u64 (xa : Nat), .int .u64 (xb : Nat), .int .u64 (xc : Nat), .int .u64 (xd : Nat)] 50)).alloc (.cells #[.int .u64 (ya : Nat), .int .u64 (yb : Nat), .int .u64 (yc : Nat), .int .u64 (yd : Nat)] 50) := ⟨_, rfl⟩
  have hB1 : BD w.heap.size w W1 := by rw [hW1]; exact ((BD.refl _ w).alloc (Nat.le_refl _) _).alloc (by simp) _
  have c2 : ClsAt (w.heap.size + 1) ya yb yc yd W1 := by rw [hW1]; exact ⟨by go_simp, by go_simp, by go_simp, by go_simp⟩
  have hs1 : W1.heap.size = w.heap.size + 1 + 1 := by rw [hW1]; simp
  have HW := Lib.hid hW1
  clear hW1
  go_enter Tryd.func38, Tryd.ntmps38
  go_wp2_with fail
  rw [← HW.out]
  refine (HL.out _ hB1).mono ?_
  rintro e W2 ⟨rfl, hB2⟩
  have c3 := c2.below hB2.1 (by omega)
  have hB2' : BD w.heap.size w W2 := ⟨hB1.1.trans (hB2.1.mono (by omega)), hB2.2.trans hB1.2⟩
  obtain ⟨d0, d1, d2, d3⟩ := c3
  go_wp2_with fail
  refine (HR.out _ hB2').mono ?_
  rintro e W3 ⟨rfl, hB3⟩
  have hB3' : BD w.heap.size w W3 := ⟨hB2'.1.trans (hB3.1.mono hB2'.1.size), hB3.2.trans hB2'.2⟩
  clear d0 d1 d2 d3
  go_wp2_with (go_at_call 39; refine (HC.out _).mono ?_; rintro e w' ⟨rfl, rfl⟩)
  go_ret
  exact ⟨rfl, hB3'⟩
end Go.Proofs.YtaadkdmbhckdeaaDoor
