/- Dirty: slices.BinarySearchFunc by slots. -/
import Derived.Test.YtpplkjjfaibmmaaDoorF2
import Derived.Test.YtpplkjjfaibmmaaDoorE6
import Derived.Test.YtpplkjjfaibmmaaDoorRg6
namespace Go.Proofs.YtpplkjjfaibmmaaDoor
open Go Go.Proofs Go.RowKit
attribute [local go_sem] Oper.semAt_some
set_option maxRecDepth 100000 in
set_option maxHeartbeats 4000000 in
theorem bsearch_k (l : List J) (hl : l.length ≤ 1000000) (hso : l.Pairwise fun a b => a.s < b.s) (x : J) (la : Option Addr) (c : Nat) (w : World) (hR : RRow w (.slice la l.length c) l) :
    Calls Tryd.prog 44 #[.slice la l.length c, x.v, .func (.func 45) #[] #[]] w fun e w' => (∃ (i : Nat) (b : Bool), e = .returned (.tuple #[.int .i64 i, .bool b]) ∧ i ≤ l.length ∧ (∀ (k : Nat) (h : k < l.length), k < i → l[k].s < x.s) ∧ (∀ (k : Nat) (h : k < l.length), i ≤ k → x.s ≤ l[k].s)) ∧ Below w.heap.size w w' := by
  have hX := Box5.new w x
  have hB0 : Below w.heap.size w (w.alloc (.cells #[.int .i64 x.s, .int .i64 x.f, .int .i64 x.t, .int .i64 x.a, .int .i64 x.l] 38)) := (Below.refl _ w).alloc (Nat.le_refl _) _
  unfold J.v
  go_enter Tryd.func44, Tryd.ntmps44
  go_wp2_with fail
  generalize w.alloc (.cells #[.int .i64 x.s, .int .i64 x.f, .int .i64 x.t, .int .i64 x.a, .int .i64 x.l] 38) = W0 at *
  have hXl := hX.lt
  go_loopw [9, 10] (fun i j wr => ∃ a b : Nat, i = .int .i64 a ∧ j = .int .i64 b ∧ a ≤ b ∧ b ≤ l.length ∧ Hid ((∀ (k : Nat) (h : k < l.length), k < a → l[k].s < x.s) ∧ (∀ (k : Nat) (h : k < l.length), b ≤ k → x.s ≤ l[k].s)) ∧ Below w.heap.size w wr ∧ Box5 wr w.heap.size x) (fun i j _ => (intOf j).toNat - (intOf i).toNat)
  case atStart => exact ⟨0, l.length, rfl, rfl, Nat.zero_le _, Nat.le_refl _, Lib.hid ⟨fun k _ h => by omega, fun k h h' => by omega⟩, hB0, hX⟩
  case round =>
    obtain ⟨a, b, rfl, rfl, hab, hbl, hH, hBr, hXr⟩ := hrel
    have hRr := hR
    by_cases hlt : a < b
    · have hlt' : (a : Int) < (b : Int) := by omega
      obtain ⟨m, hm⟩ : ∃ m, m = (a + b) / 2 := ⟨_, rfl⟩
      have hma : a ≤ m := by omega
      have hmb : m < b := by omega
      have hmi : ((a : Int) + (b : Int)) / 2 = (m : Int) := by omega
      have hml : m < l.length := by omega
      obtain ⟨la', c', hv, hn1, hn2⟩ := hRr
      cases hv
      cases la with
      | none =>
        have := hn1 rfl
        subst this
        simp at hml
      | some ad =>
        obtain ⟨B, off, rfl, hBl, hrow⟩ := hn2 _ rfl
        have hBw : B < wr.heap.size := Nat.lt_of_lt_of_le hBl hBr.size
        obtain ⟨y0, y1, y2, y3, y4⟩ := (hrow.below hBr hBl) m hml
        have g0 := AX.cell_all y0 hBw; have g1 := AX.cell_all y1 hBw; have g2 := AX.cell_all y2 hBw; have g3 := AX.cell_all y3 hBw; have g4 := AX.cell_all y4 hBw
        obtain ⟨z0, z1, z2, z3, z4⟩ := hXr.cs
        have k0 := AX.cell_all z0 hXr.lt; have k1 := AX.cell_all z1 hXr.lt; have k2 := AX.cell_all z2 hXr.lt; have k3 := AX.cell_all z3 hXr.lt; have k4 := AX.cell_all z4 hXr.lt
        have HM : Hid ((l[m].s < x.s → ∀ (k : Nat) (h : k < l.length), k < m + 1 → l[k].s < x.s) ∧ (¬ l[m].s < x.s → ∀ (k : Nat) (h : k < l.length), m ≤ k → x.s ≤ l[k].s)) := Lib.hid ⟨fun hq k h hk => by
            rcases Nat.lt_or_ge k m with h' | h'
            · have := List.pairwise_iff_getElem.1 hso k m h hml h'
              omega
            · obtain rfl : k = m := by omega
              exact hq, fun hq k h hk => by
            rcases Nat.lt_or_ge m k with h' | h'
            · have := List.pairwise_iff_getElem.1 hso m k hml h h'
              omega
            · obtain rfl : k = m := by omega
              omega⟩
        have h45 := fun p : AX.BW wr => bySlot_k l[m] x p.W
        generalize l[m] = y at *
        unfold J.v at h45
        have hz : Hid (cmpI y.s x.s < 0 ↔ y.s < x.s) := Lib.hid (by unfold cmpI; split <;> (try split) <;> omega)
        generalize cmpI y.s x.s = z at *
        have hm0 : (0 : Int) ≤ (m : Int) := by omega
        have hm1 : (m : Int) < (l.length : Int) := by omega
        clear y0 y1 y2 y3 y4 z0 z1 z2 z3 z4 hn1 hn2 hrow hm
        go_wp2_with fail
        refine AX.region_below (by kernel_rfl) (by kernel_rfl) ?_
        repeat (go_big_quiet_step (first | (go_at_call 45; with_reducible exact AX.below_of (h45 _))))
        refine wpQuiet_nil ?_
        rintro _ ⟨p, rfl⟩
        have hBp := hBr.trans (p.h.mono hBr.size)
        have hXp := hXr.below p.h hXr.lt
        by_cases hq : z < 0
        · have hq' := hz.out.1 hq
          have HA : Hid ((∀ (k : Nat) (h : k < l.length), k < m + 1 → l[k].s < x.s) ∧ (∀ (k : Nat) (h : k < l.length), b ≤ k → x.s ≤ l[k].s)) := Lib.hid ⟨HM.out.1 hq', hH.out.2⟩
          clear hq' hz HM hH
          go_wp2_with fail
          go_roundw
          case rel => exact ⟨m + 1, b, by simp, rfl, by omega, hbl, HA, hBp, hXp⟩
          case measure => simp [intOf]; omega
        · have hq' : ¬ y.s < x.s := fun h => hq (hz.out.2 h)
          have HA : Hid ((∀ (k : Nat) (h : k < l.length), k < a → l[k].s < x.s) ∧ (∀ (k : Nat) (h : k < l.length), m ≤ k → x.s ≤ l[k].s)) := Lib.hid ⟨hH.out.1, HM.out.2 (by omega)⟩
          clear hq' hz HM hH
          go_wp2_with fail
          go_roundw
          case rel => exact ⟨a, m, rfl, rfl, by omega, by omega, HA, hBp, hXp⟩
          case measure => simp [intOf]; omega
    · obtain rfl : a = b := by omega
      have hnlt : ¬ ((a : Int) < (a : Int)) := by omega
      by_cases hal : a < l.length
      · obtain ⟨la', c', hv, hn1, hn2⟩ := hRr
        cases hv
        cases la with
        | none =>
          have := hn1 rfl
          subst this
          simp at hal
        | some ad =>
          obtain ⟨B, off, rfl, hBl, hrow⟩ := hn2 _ rfl
          have hBw : B < wr.heap.size := Nat.lt_of_lt_of_le hBl hBr.size
          obtain ⟨y0, y1, y2, y3, y4⟩ := (hrow.below hBr hBl) a hal
          have g0 := AX.cell_all y0 hBw; have g1 := AX.cell_all y1 hBw; have g2 := AX.cell_all y2 hBw; have g3 := AX.cell_all y3 hBw; have g4 := AX.cell_all y4 hBw
          obtain ⟨z0, z1, z2, z3, z4⟩ := hXr.cs
          have k0 := AX.cell_all z0 hXr.lt; have k1 := AX.cell_all z1 hXr.lt; have k2 := AX.cell_all z2 hXr.lt; have k3 := AX.cell_all z3 hXr.lt; have k4 := AX.cell_all z4 hXr.lt
          have h45 := fun p : AX.BW wr => bySlot_k l[a] x p.W
          generalize l[a] = y at *
          unfold J.v at h45
          generalize cmpI y.s x.s = z at *
          have ha0 : (0 : Int) ≤ (a : Int) := by omega
          have ha1 : (a : Int) < (l.length : Int) := by omega
          clear y0 y1 y2 y3 y4 z0 z1 z2 z3 z4 hn1 hn2 hrow
          go_wp2_with fail
          refine AX.region_below (by kernel_rfl) (by kernel_rfl) ?_
          repeat (go_big_quiet_step (first | (go_at_call 45; with_reducible exact AX.below_of (h45 _))))
          refine wpQuiet_nil ?_
          rintro _ ⟨p, rfl⟩
          go_wp2_with fail
          exact bodyPost_ret (v := .tuple #[.int .i64 a, .bool (z == 0)]) (by simp [results, Tryd.results44, go_sem]) rfl ⟨⟨a, _, rfl, hbl, hH.out⟩, hBr.trans (p.h.mono hBr.size)⟩
      · have ha1 : ¬ ((a : Int) < (l.length : Int)) := by omega
        go_wp2_with fail
        refine AX.region_below (by kernel_rfl) (by kernel_rfl) ?_
        repeat (go_big_quiet_step (fail))
        refine wpQuiet_nil ?_
        rintro _ ⟨p, rfl⟩
        go_wp2_with fail
        exact bodyPost_ret (v := .tuple #[.int .i64 a, .bool false]) (by simp [results, Tryd.results44, go_sem]) rfl ⟨⟨a, _, rfl, hbl, hH.out⟩, hBr.trans (p.h.mono hBr.size)⟩
end Go.Proofs.YtpplkjjfaibmmaaDoor
