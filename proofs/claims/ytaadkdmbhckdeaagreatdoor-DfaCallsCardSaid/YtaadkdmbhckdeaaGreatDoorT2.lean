/- Dfa: tables in memory; Check, Len. -/
import Derived.Test.YtaadkdmbhckdeaaGreatDoorMm
import Derived.WalkKit
import Derived.ProofKit
import Derived.OpenShut
import Derived.BigQuiet
import Derived.Lib.Hide
namespace Go.Proofs.YtaadkdmbhckdeaaGreatDoor
open Go Go.Proofs Go.RowKit
attribute [local go_sem] Oper.semAt_some
def IRow (w : World) (a : Option Addr) (l : List Int) : Prop := l ≠ [] → ∃ b off, a = some ⟨b, off, none⟩ ∧ b < w.heap.size ∧ ∀ j (h : j < l.length), w.cell? ⟨b, off + j, none⟩ = some (.int .i64 l[j])
theorem IRow.below {n : Nat} {w w' : World} {a : Option Addr} {l : List Int} (h : IRow w a l) (hb : Below n w w') (hn : w.heap.size ≤ n) : IRow w' a l := fun h0 => by
 obtain ⟨b, off, rfl, h1, h2⟩ := h h0
 exact ⟨b, off, rfl, Nat.lt_of_lt_of_le h1 hb.size, fun j hj => (hb.cell (p := ⟨b, off + j, none⟩) (by simp only; omega)).trans (h2 j hj)⟩
theorem IRow.at {w : World} {a : Option Addr} {l : List Int} (h : IRow w a l) {j : Nat} (hj : j < l.length) : ∃ b off, a = some ⟨b, off, none⟩ ∧ b < w.heap.size ∧ w.cell? ⟨b, off + j, none⟩ = some (.int .i64 l[j]) := by
 obtain ⟨b, off, h0, h1, h2⟩ := h (by intro e; subst e; simp at hj)
 exact ⟨b, off, h0, h1, h2 j hj⟩
def inR (lo hi : Int) (l : List Int) : Bool := l.all fun x => decide (lo ≤ x) && decide (x < hi)
def okT (next rule : List Int) : Bool := decide (1 ≤ rule.length) && (decide (rule.length ≤ 512) && (decide (next.length = 256 * rule.length) && (inR (-1) 16 rule && inR (-1) rule.length next)))
theorem foldl_min_ge (lo : Int) : ∀ (l : List Int) (z : Int), lo ≤ l.foldl min z ↔ lo ≤ z ∧ ∀ x ∈ l, lo ≤ x
 | [], z => by simp
 | x :: l, z => by
  rw [List.foldl_cons, foldl_min_ge lo l, Int.le_min]
  simp only [List.mem_cons, forall_eq_or_imp, and_assoc]
theorem foldl_max_lt (hi : Int) : ∀ (l : List Int) (z : Int), l.foldl max z < hi ↔ z < hi ∧ ∀ x ∈ l, x < hi
 | [], z => by simp
 | x :: l, z => by
  rw [List.foldl_cons, foldl_max_lt hi l, Int.max_lt]
  simp only [List.mem_cons, forall_eq_or_imp, and_assoc]
theorem min_ge (l : List Int) (h : l ≠ []) (lo : Int) : (lo ≤ Lib.minOf l) ↔ ∀ x ∈ l, lo ≤ x := by
 cases l with
 | nil => exact absurd rfl h
 | cons z l =>
  unfold Lib.minOf
  rw [foldl_min_ge]
  simp
theorem max_lt (l : List Int) (h : l ≠ []) (hi : Int) : (Lib.maxOf l < hi) ↔ ∀ x ∈ l, x < hi := by
 cases l with
 | nil => exact absurd rfl h
 | cons z l =>
  unfold Lib.maxOf
  rw [foldl_max_lt]
  simp
theorem inR_iff (l : List Int) (h : l ≠ []) (lo hi : Int) : inR lo hi l = true ↔ lo ≤ Lib.minOf l ∧ Lib.maxOf l < hi := by
 rw [min_ge l h, max_lt l h]
 unfold inR
 simp only [List.all_eq_true, Bool.and_eq_true, decide_eq_true_eq]
 exact ⟨fun k => ⟨fun x hx => (k x hx).1, fun x hx => (k x hx).2⟩, fun k x hx => ⟨k.1 x hx, k.2 x hx⟩⟩
theorem min_k (l : List Int) (h : 0 < l.length) (hl : l.length ≤ 1000000) (a : Option Addr) (c : Nat) (w : World) (hR : IRow w a l) :
  Calls Tryz.prog 34 #[.slice a l.length c] w fun e w' => e = .returned (.int .i64 (Lib.minOf l)) ∧ w = w' := by
 obtain ⟨b, off, rfl, _, h2⟩ := hR (by intro e; subst e; simp at h)
 refine (slices_Min_int b off l.length c l w h (Nat.le_refl _) (by omega) (fun j hj => by rw [h2 j hj]; simp [List.getD, hj])).mono ?_
 rintro e w' ⟨rfl, rfl⟩
 exact ⟨by rw [List.take_length], rfl⟩
theorem max_k (l : List Int) (h : 0 < l.length) (hl : l.length ≤ 1000000) (a : Option Addr) (c : Nat) (w : World) (hR : IRow w a l) :
  Calls Tryz.prog 35 #[.slice a l.length c] w fun e w' => e = .returned (.int .i64 (Lib.maxOf l)) ∧ w = w' := by
 obtain ⟨b, off, rfl, _, h2⟩ := hR (by intro e; subst e; simp at h)
 refine (slices_Max_int b off l.length c l w h (Nat.le_refl _) (by omega) (fun j hj => by rw [h2 j hj]; simp [List.getD, hj])).mono ?_
 rintro e w' ⟨rfl, rfl⟩
 exact ⟨by rw [List.take_length], rfl⟩
def checkV (next rule : List Int) : Int := if okT next rule = true then 0 else 2
set_option maxHeartbeats 4000000 in
theorem check_k (next rule : List Int) (hn : next.length ≤ 1000000) (hr : rule.length ≤ 1000000) (an ar : Option Addr) (cn cr : Nat) (w : World) (hN : IRow w an next) (hR : IRow w ar rule) :
    Calls Tryz.prog 10 #[.agg #[.slice an next.length cn, .slice ar rule.length cr]] w fun e w' => e = .returned (.int .i64 (checkV next rule)) ∧ Below w.heap.size w w' := by
  have hB := (Below.refl w.heap.size w).alloc (Nat.le_refl _) (.cells #[.slice an next.length cn, .slice ar rule.length cr] 28)
  by_cases h0 : 1 ≤ rule.length ∧ rule.length ≤ 512 ∧ next.length = 256 * rule.length
  · obtain ⟨h1, h2, h3⟩ := h0
    have k1 := fun W hW => min_k rule h1 hr ar cr W hW
    have k2 := fun W hW => max_k rule h1 hr ar cr W hW
    have k3 := fun W hW => min_k next (by omega) hn an cn W hW
    have k4 := fun W hW => max_k next (by omega) hn an cn W hW
    have HV : Hid (checkV next rule = if ((-1 ≤ Lib.minOf rule ∧ Lib.maxOf rule < 16) ∧ -1 ≤ Lib.minOf next ∧ Lib.maxOf next < rule.length) then 0 else 2) := Lib.hid <| by
      unfold checkV okT
      rw [decide_eq_true h1, decide_eq_true h2, decide_eq_true h3, Bool.true_and, Bool.true_and, Bool.true_and]
      simp only [Bool.and_eq_true, inR_iff rule (by intro e; subst e; simp at h1), inR_iff next (by intro e; subst e; simp at h3; omega)]
    have hN' := hN.below hB (Nat.le_refl _)
    have hR' := hR.below hB (Nat.le_refl _)
    generalize Lib.minOf rule = m1 at *
    generalize Lib.maxOf rule = m2 at *
    generalize Lib.minOf next = m3 at *
    generalize Lib.maxOf next = m4 at *
    generalize checkV next rule = cv at *
    have H3 : Hid (next.length = 256 * rule.length) := Lib.hid h3
    have h3a : (next.length : Int) - 256 * rule.length ≤ 0 := by omega
    have h3b : 0 ≤ (next.length : Int) - 256 * rule.length := by omega
    have hne : ((next.length : Int) == 256 * (rule.length : Int)) = true := by simp; omega
    have hne' : ((next.length : Int) != 256 * (rule.length : Int)) = false := by simp; omega
    clear h3
    generalize next.length = N at *
    generalize rule.length = R at *
    clear hN hR
    go_enter Tryz.func10, Tryz.ntmps10
    go_wp2_with (first
      | (go_at_call 34; ((with_reducible refine (k1 _ hR').mono ?_); rintro e Wd ⟨rfl, rfl⟩))
      | (go_at_call 34; ((with_reducible refine (k3 _ hN').mono ?_); rintro e Wd ⟨rfl, rfl⟩))
      | (go_at_call 35; ((with_reducible refine (k2 _ hR').mono ?_); rintro e Wd ⟨rfl, rfl⟩))
      | (go_at_call 35; ((with_reducible refine (k4 _ hN').mono ?_); rintro e Wd ⟨rfl, rfl⟩)))
    all_goals first
      | (have E : cv = 2 := by rw [HV.out, if_neg (by omega)]
         exact bodyPost_ret (v := .int .i64 cv) (by simp [results, Tryz.results10, go_sem, E]) rfl ⟨rfl, hB⟩)
      | (have E : cv = 0 := by rw [HV.out, if_pos (by omega)]
         exact bodyPost_ret (v := .int .i64 cv) (by simp [results, Tryz.results10, go_sem, E]) rfl ⟨rfl, hB⟩)
  · have HV : Hid (checkV next rule = 2) := Lib.hid <| if_neg fun h => h0 (by
      unfold okT at h
      simp only [Bool.and_eq_true, decide_eq_true_eq] at h
      exact ⟨h.1, h.2.1, h.2.2.1⟩)
    generalize checkV next rule = cv at *
    generalize next.length = N at *
    generalize rule.length = R at *
    go_enter Tryz.func10, Tryz.ntmps10
    go_wp2_with fail
    all_goals first
      | (exfalso; have q : ((1 : Int) ≤ (R : Int) ∧ (R : Int) ≤ 512) ∧ ((N : Int) != 256 * (R : Int)) = false := by assumption
         have q := q.2; simp at q; omega)
      | (have E : cv = 2 := HV.out
         exact bodyPost_ret (v := .int .i64 cv) (by simp [results, Tryz.results10, go_sem, E]) rfl ⟨rfl, hB⟩)
end Go.Proofs.YtaadkdmbhckdeaaGreatDoor
