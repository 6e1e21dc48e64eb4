/- Dirty: job, LightEdit, light; Add where it may not. -/
import Derived.Test.YtpplkjjfaibmmaaDoorF10
import Derived.Test.YtpplkjjfaibmmaaDoorK2
import Derived.Test.YtpplkjjfaibmmaaDoorF2
import Derived.Test.YtpplkjjfaibmmaaDoorE3
namespace Go.Proofs.YtpplkjjfaibmmaaDoor
open Go Go.Proofs Go.RowKit
attribute [local go_sem] Oper.semAt_some
set_option maxHeartbeats 2000000 in
theorem isSlot54_k (x : J) (S : Nat) (q : Int) (w : World) (hS : w.cell? ⟨S, 0, none⟩ = some (.int .i64 q)) (hl : S < w.heap.size) : Calls Tryd.prog 54 #[x.v, .pointer (some ⟨S, 0, none⟩)] w fun e w' => e = .returned (.bool (x.s == q)) ∧ Below w.heap.size w w' := by
  have hX := (Box5.new w x).cs
  have hB0 : Below w.heap.size w (w.alloc (.cells #[.int .i64 x.s, .int .i64 x.f, .int .i64 x.t, .int .i64 x.a, .int .i64 x.l] 38)) := (Below.refl _ w).alloc (Nat.le_refl _) _
  have hS1 := (hB0.cell (p := ⟨S, 0, none⟩) hl).trans hS
  obtain ⟨z0, z1, z2, z3, z4⟩ := hX
  unfold J.v
  go_enter Tryd.func54, Tryd.ntmps54
  go_wp2
  exact bodyPost_ret (v := .bool (x.s == q)) (by simp [results, Tryd.results54, go_sem]) rfl ⟨rfl, hB0⟩
set_option maxRecDepth 100000 in
set_option maxHeartbeats 4000000 in
theorem indexOf54_k (l : List J) (hl : l.length ≤ 1000000) (S : Nat) (q : Int) (la : Option Addr) (c : Nat) (w : World) (hR : RRow w (.slice la l.length c) l) (hS : w.cell? ⟨S, 0, none⟩ = some (.int .i64 q)) (hSl : S < w.heap.size) :
    Calls Tryd.prog 53 #[.slice la l.length c, .func (.func 54) #[] #[.pointer (some ⟨S, 0, none⟩)]] w fun e w' => ((∃ (k : Nat) (h : k < l.length), e = .returned (.int .i64 k) ∧ l[k].s = q ∧ ∀ (j : Nat) (h : j < l.length), j < k → l[j].s ≠ q) ∨ (e = .returned (.int .i64 (-1)) ∧ ∀ (j : Nat) (h : j < l.length), l[j].s ≠ q)) ∧ Below w.heap.size w w' := by
  go_enter Tryd.func53, Tryd.ntmps53
  go_wp2
  obtain ⟨wo, rfl⟩ : ∃ wo : World, wo = w := ⟨_, rfl⟩
  go_loopw [8] (fun i wr => ∃ k : Nat, k ≤ l.length ∧ i = .int .i64 k ∧ Hid (∀ (j : Nat) (h : j < l.length), j < k → l[j].s ≠ q) ∧ Below wo.heap.size wo wr) (fun i _ => l.length - (intOf i).toNat)
  case atStart => exact ⟨0, Nat.zero_le _, rfl, Lib.hid (fun j _ h => by omega), Below.refl _ _⟩
  case round =>
    obtain ⟨k, hk, rfl, hH, hB⟩ := hrel
    have hRr := hR
    by_cases hlt : k < l.length
    · obtain ⟨la', c', hv, hn1, hn2⟩ := hRr
      cases hv
      cases la with
      | none =>
        have := hn1 rfl
        subst this
        simp at hlt
      | some ad =>
        obtain ⟨B, off, rfl, hBl, hrow⟩ := hn2 _ rfl
        have hBw : B < wr.heap.size := Nat.lt_of_lt_of_le hBl hB.size
        obtain ⟨y0, y1, y2, y3, y4⟩ := (hrow.below hB hBl) k hlt
        have h37 := isSlot54_k l[k] S q wr ((hB.cell (p := ⟨S, 0, none⟩) hSl).trans hS) (Nat.lt_of_lt_of_le hSl hB.size)
        have HM : Hid (l[k].s ≠ q → ∀ (j : Nat) (h : j < l.length), j < k + 1 → l[j].s ≠ q) := Lib.hid (fun hq j h hj => by
          rcases Nat.lt_or_ge j k with h' | h'
          · exact hH.out j h h'
          · obtain rfl : j = k := by omega
            exact hq)
        obtain ⟨y, hy⟩ : ∃ y, y = l[k] := ⟨_, rfl⟩
        rw [← hy] at y0 y1 y2 y3 y4 h37 HM
        have HY := Lib.hid hy
        unfold J.v at h37
        have hk0 : (0 : Int) ≤ (k : Int) := by omega
        have hk1 : (k : Int) < (l.length : Int) := by omega
        clear hy hn1 hn2 hrow
        by_cases hq : y.s = q
        · have hqb : (y.s == q) = true := by simp [hq]
          rw [hqb] at h37
          have HQ := Lib.hid hq
          clear hq HM
          go_wp2_with (go_at_call 54; ((with_reducible refine h37.mono ?_); rintro e W1 ⟨rfl, hb1⟩))
          exact bodyPost_ret (v := .int .i64 k) (by simp [results, Tryd.results53, go_sem]) rfl ⟨.inl ⟨k, hlt, rfl, by rw [← HY.out]; exact HQ.out, hH.out⟩, hB.trans (hb1.mono hB.size)⟩
        · have hqb : (y.s == q) = false := by simp [hq]
          rw [hqb] at h37
          have HN := Lib.hid (HM.out hq)
          clear hq HM
          go_wp2_with (go_at_call 54; ((with_reducible refine h37.mono ?_); rintro e W1 ⟨rfl, hb1⟩))
          go_roundw
          case rel => exact ⟨k + 1, by omega, by simp, HN, hB.trans (hb1.mono hB.size)⟩
          case measure => simp [intOf]; omega
    · obtain rfl : k = l.length := by omega
      go_wp2
      exact bodyPost_ret (v := .int .i64 (-1)) (by simp [results, Tryd.results53, go_sem]) rfl ⟨.inr ⟨rfl, fun j h => hH.out j h h⟩, hB⟩
set_option maxHeartbeats 2000000 in
theorem at_k (l : List J) (hl : l.length ≤ 1000000) (q : Int) (la : Option Addr) (c : Nat) (w : World) (hR : RRow w (.slice la l.length c) l) :
    Calls Tryd.prog 34 #[.slice la l.length c, .int .i64 q] w fun e w' => ((∃ (k : Nat) (h : k < l.length), e = .returned (.int .i64 k) ∧ l[k].s = q ∧ ∀ (j : Nat) (h : j < l.length), j < k → l[j].s ≠ q) ∨ (e = .returned (.int .i64 (-1)) ∧ ∀ (j : Nat) (h : j < l.length), l[j].s ≠ q)) ∧ Below w.heap.size w w' := by
  have hB0 : Below w.heap.size w (w.alloc (.cells #[.int .i64 q] 3)) := (Below.refl _ w).alloc (Nat.le_refl _) _
  have h53 := indexOf54_k l hl w.heap.size q la c (w.alloc (.cells #[.int .i64 q] 3)) (hR.below hB0) (by simp) (by simp)
  go_enter Tryd.func34, Tryd.ntmps34
  go_wp2_with (go_at_call 53; ((with_reducible refine h53.mono ?_); rintro e W1 ⟨he, hb1⟩; have hB1 := hB0.trans (hb1.mono (by simp)); rcases he with ⟨k, hk, rfl, hs, hm⟩ | ⟨rfl, hm⟩))
  · exact bodyPost_ret (v := .int .i64 k) (by simp [results, Tryd.results34, go_sem]) rfl ⟨.inl ⟨k, hk, rfl, hs, hm⟩, hB1⟩
  · exact bodyPost_ret (v := .int .i64 (-1)) (by simp [results, Tryd.results34, go_sem]) rfl ⟨.inr ⟨rfl, hm⟩, hB1⟩
set_option maxRecDepth 100000 in
set_option maxHeartbeats 4000000 in
theorem find_k (l : List J) (hl : l.length ≤ 1000000) (q : Int) {v : Value} (w : World) (hR : RRow w v l) :
    Calls Tryd.prog 15 #[v, .int .i64 q] w fun e w' => ((∃ x : J, x ∈ l ∧ x.s = q ∧ e = .returned (.tuple #[x.v, .bool true])) ∨ (e = .returned (.tuple #[J.z.v, .bool false]) ∧ ∀ x ∈ l, x.s ≠ q)) ∧ Below w.heap.size w w' := by
  obtain ⟨la, c, rfl, hR0⟩ : ∃ la c, v = .slice la l.length c ∧ RRow w v l := by
    obtain ⟨la, c, e, h⟩ := id hR
    exact ⟨la, c, e, hR⟩
  have hB0 : Below w.heap.size w (w.alloc (.cells #[.int .i64 0, .int .i64 0, .int .i64 0, .int .i64 0, .int .i64 0] 38)) := (Below.refl _ w).alloc (Nat.le_refl _) _
  have hX0 : Box5 (w.alloc (.cells #[.int .i64 0, .int .i64 0, .int .i64 0, .int .i64 0, .int .i64 0] 38)) w.heap.size J.z := Box5.new w J.z
  have h34 := at_k l hl q la c _ (hR0.below hB0)
  clear hR
  have hz0 : (w.alloc (.cells #[.int .i64 0, .int .i64 0, .int .i64 0, .int .i64 0, .int .i64 0] 38)).heap.size = w.heap.size + 1 := by simp
  go_enter Tryd.func15, Tryd.ntmps15
  go_wp2_with fail
  generalize w.alloc (.cells #[.int .i64 0, .int .i64 0, .int .i64 0, .int .i64 0, .int .i64 0] 38) = W0 at *
  have HZ := Lib.hid hz0
  clear hz0
  refine h34.mono ?_
  rintro e W1 ⟨he, hb1⟩
  have hX1 := hX0.below hb1 hX0.lt
  have hB1 := hB0.trans (hb1.mono (by have := HZ.out; omega))
  have hR1 := hR0.below hB1
  rcases he with ⟨k, hk, rfl, hs, hm⟩ | ⟨rfl, hm⟩
  · obtain ⟨la', c', hv, hn1, hn2⟩ := id hR1
    cases hv
    cases la with
    | none =>
      have := hn1 rfl
      subst this
      simp at hk
    | some ad =>
      obtain ⟨B, off, rfl, hBl, hrow⟩ := hn2 _ rfl
      obtain ⟨y0, y1, y2, y3, y4⟩ := hrow k hk
      have hmem : l[k] ∈ l := List.getElem_mem hk
      generalize l[k] = x at *
      have hk0 : (0 : Int) ≤ (k : Int) := by omega
      have hk1 : (k : Int) < (l.length : Int) := by omega
      have HS := Lib.hid hs
      clear hm hrow hn2 hR1 hR0 hs
      go_wp2_with ((with_reducible refine st_id ?_); refine AX.wpList_storeBox (vs := [.int .i64 x.s, .int .i64 x.f, .int .i64 x.t, .int .i64 x.a, .int .i64 x.l]) rfl rfl (by kernel_rfl) hX1 rfl rfl ?_; rintro W2 h3 h4 h5)
      have hX2 : Box5 W2 w.heap.size x := h3
      have hB2 := hB1.trans (AX.below_turn (Nat.le_refl _) (.inl hX2.lt) h4 h5)
      obtain ⟨z0, z1, z2, z3, z4⟩ := hX2.cs
      refine bodyPost_ret (v := .tuple #[x.v, .bool true]) (by unfold J.v; simp [results, Tryd.results15, go_sem, z0, z1, z2, z3, z4]) rfl ⟨.inl ⟨x, hmem, HS.out, rfl⟩, hB2⟩
  · have hm' : ∀ x ∈ l, x.s ≠ q := fun x hx => by
      obtain ⟨k, hk, rfl⟩ := List.getElem_of_mem hx
      exact hm k hk
    have HM := Lib.hid hm'
    clear hm hm'
    go_wp2_with ((with_reducible refine st_id ?_); refine AX.wpList_storeBox (vs := [.int .i64 0, .int .i64 0, .int .i64 0, .int .i64 0, .int .i64 0]) rfl rfl (by kernel_rfl) hX1 rfl rfl ?_; rintro W2 h3 h4 h5)
    have hX2 : Box5 W2 w.heap.size J.z := h3
    have hB2 := hB1.trans (AX.below_turn (Nat.le_refl _) (.inl hX2.lt) h4 h5)
    obtain ⟨z0, z1, z2, z3, z4⟩ := hX2.cs
    refine bodyPost_ret (v := .tuple #[J.z.v, .bool false]) (by unfold J.v; simp [results, Tryd.results15, go_sem, z0, z1, z2, z3, z4]) rfl ⟨.inr ⟨rfl, HM.out⟩, hB2⟩
end Go.Proofs.YtpplkjjfaibmmaaDoor

namespace Go.Proofs.YtpplkjjfaibmmaaDoor
open Go Go.Proofs Go.RowKit
attribute [local go_sem] Oper.semAt_some
set_option maxHeartbeats 2000000 in
theorem job_k (x : J) (hx : x.l = 0) (w : World) : Calls Tryd.prog 12 #[.int .i64 x.s, .int .i64 x.f, .int .i64 x.t, .int .i64 x.a] w fun e w' => e = .returned x.v ∧ Below w.heap.size w w' := by
  obtain ⟨s, f, t, a, l⟩ := x
  dsimp only at hx
  subst hx
  have hX0 := Bx.new w 38 #[.int .i64 0, .int .i64 0, .int .i64 0, .int .i64 0, .int .i64 0]
  have hB0 : Below w.heap.size w (w.alloc (.cells #[.int .i64 0, .int .i64 0, .int .i64 0, .int .i64 0, .int .i64 0] 38)) := (Below.refl _ w).alloc (Nat.le_refl _) _
  go_enter Tryd.func12, Tryd.ntmps12
  go_wp2_with ((with_reducible refine st_id ?_); refine AX.wpList_storeBox (vs := [.int .i64 s, .int .i64 f, .int .i64 t, .int .i64 a, .int .i64 0]) rfl rfl (by kernel_rfl) hX0 rfl rfl ?_; rintro W2 h3 h4 h5)
  have hX2 : Box5 W2 w.heap.size ⟨s, f, t, a, 0⟩ := h3
  have hB2 := hB0.trans (AX.below_turn (Nat.le_refl _) (.inl hX2.lt) h4 h5)
  obtain ⟨z0, z1, z2, z3, z4⟩ := hX2.cs
  exact bodyPost_ret (v := J.v ⟨s, f, t, a, 0⟩) (by unfold J.v; simp [results, Tryd.results12, go_sem, z0, z1, z2, z3, z4]) rfl ⟨rfl, hB2⟩
def ltE (a d i : Int) : Bool := decide (a ≤ 1048576) && (decide (d ≤ 1048576) && (decide (i ≤ 1048576) && (decide (-1048576 ≤ a) && (decide (-1048576 ≤ d) && decide (-1048576 ≤ i)))))
set_option maxHeartbeats 4000000 in
theorem lightEdit_k (a d i : Int) (w : World) : Calls Tryd.prog 7 #[.agg #[.int .i64 a, .int .i64 d, .int .i64 i]] w fun e w' => e = .returned (.bool (ltE a d i)) ∧ Below w.heap.size w w' := by
  have hB0 : Below w.heap.size w (w.alloc (.cells #[.int .i64 a, .int .i64 d, .int .i64 i] 27)) := (Below.refl _ w).alloc (Nat.le_refl _) _
  go_enter Tryd.func7, Tryd.ntmps7
  go_wp2
  all_goals
    refine bodyPost_ret (v := .bool (ltE a d i)) ?_ rfl ⟨rfl, hB0⟩
    simp [results, Tryd.results7, go_sem, ltE, *]
    try (intros; omega)
/-- Are the jobs light? -/
def ltJ (x : J) : Bool := decide (x.t ≤ 1048576) && (decide (x.f ≤ 1048576) && decide (x.a ≤ 1099511627776))
set_option maxRecDepth 100000 in
set_option maxHeartbeats 4000000 in
theorem light_k (l : List J) (hl : l.length ≤ 9223372036854775807) (a d i : Int) (la : Option Addr) (c : Nat) (w : World) (hL : l ≠ [] → ∃ B off, la = some ⟨B, off, none⟩ ∧ B < w.heap.size ∧ JRow w B off l) :
    Calls Tryd.prog 13 #[.slice la l.length c, .agg #[.int .i64 a, .int .i64 d, .int .i64 i]] w fun e w' => e = .returned (.bool (l.all ltJ && (decide (l.length ≤ 40) && ltE a d i))) ∧ Below w.heap.size w w' := by
  have hB0 : Below w.heap.size w (w.alloc (.cells #[.int .i64 a, .int .i64 d, .int .i64 i] 27)) := (Below.refl _ w).alloc (Nat.le_refl _) _
  have h3 := Box3.new w a d i
  obtain ⟨b, hb⟩ : ∃ b, b = (l.all ltJ && (decide (l.length ≤ 40) && ltE a d i)) := ⟨_, rfl⟩
  rw [← hb]
  have HB := Lib.hid hb
  clear hb
  have h7 := lightEdit_k a d i
  go_enter Tryd.func13, Tryd.ntmps13
  go_wp2_with fail
  generalize w.alloc (.cells #[.int .i64 a, .int .i64 d, .int .i64 i] 27) = W0 at *
  go_loopw [5] (fun j wr => ∃ k : Nat, k ≤ l.length ∧ j = .int .i64 k ∧ Hid ((l.take k).all ltJ = true) ∧ wr = W0) (fun j _ => l.length - (intOf j).toNat)
  case atStart => exact ⟨0, Nat.zero_le _, rfl, Lib.hid rfl, rfl⟩
  case round =>
    obtain ⟨k, hk, rfl, hA, rfl⟩ := hrel
    by_cases hlt : k < l.length
    · obtain ⟨B, off, hla, hBl, hRow⟩ := hL (by intro e; subst e; cases hlt)
      subst hla
      obtain ⟨y0, y1, y2, y3, y4⟩ := (hRow.below hB0 hBl) k hlt
      have htk : Hid (l.take (k + 1) = l.take k ++ [l[k]]) := Lib.hid (List.take_succ_eq_append_getElem hlt)
      have hmem := Lib.hid (List.getElem_mem hlt)
      generalize l[k] = x at *
      have hk0 : (0 : Int) ≤ (k : Int) := by omega
      have hk1 : (k : Int) < (l.length : Int) := by omega
      by_cases hx : ltJ x = true
      · have hx' := hx
        simp only [ltJ, Bool.and_eq_true, decide_eq_true_eq] at hx'
        obtain ⟨g1, g2, g3⟩ := hx'
        have HA : Hid ((l.take (k + 1)).all ltJ = true) := Lib.hid (by rw [htk.out, List.all_append, hA.out]; simp [hx])
        clear htk hA hmem hx
        go_wp2
        go_roundw
        case rel => exact ⟨k + 1, by omega, by simp, HA, trivial⟩
        case measure => simp [intOf]; omega
      · have hbf : b = false := by
          rw [HB.out, Bool.and_eq_false_iff]
          refine .inl ?_
          rw [List.all_eq_false]
          exact ⟨x, hmem.out, hx⟩
        subst hbf
        have hx' : ¬ (x.t ≤ 1048576 ∧ x.f ≤ 1048576 ∧ x.a ≤ 1099511627776) := fun h => hx (by simp [ltJ, h.1, h.2.1, h.2.2])
        have HX := Lib.hid hx'
        clear htk hA hmem hx hx'
        by_cases g1 : x.t ≤ 1048576
        · by_cases g2 : x.f ≤ 1048576
          · by_cases g3 : x.a ≤ 1099511627776
            · exact absurd ⟨g1, g2, g3⟩ HX.out
            · go_wp2
              exact bodyPost_ret (v := .bool false) (by simp [results, Tryd.results13, go_sem]) rfl ⟨rfl, hB0⟩
          · go_wp2
            exact bodyPost_ret (v := .bool false) (by simp [results, Tryd.results13, go_sem]) rfl ⟨rfl, hB0⟩
        · go_wp2
          exact bodyPost_ret (v := .bool false) (by simp [results, Tryd.results13, go_sem]) rfl ⟨rfl, hB0⟩
    · obtain rfl : k = l.length := by omega
      rw [List.take_length] at hA
      obtain ⟨e0, e1, e2⟩ := h3.at
      by_cases h40 : l.length ≤ 40
      · have hbe : b = ltE a d i := by rw [HB.out, hA.out]; simp [h40]
        have h40' : ((l.length : Nat) : Int) ≤ 40 := by omega
        rw [← hbe] at h7
        clear hA HB hbe
        go_wp2_with (go_at_call 7; ((with_reducible refine (h7 _).mono ?_); rintro e W1 ⟨rfl, hb1⟩))
        exact bodyPost_ret (v := .bool b) (by simp [results, Tryd.results13, go_sem]) rfl ⟨rfl, hB0.trans (hb1.mono hB0.size)⟩
      · have hbe : b = false := by rw [HB.out]; simp [h40]
        subst hbe
        have h40' : ¬ (((l.length : Nat) : Int) ≤ 40) := by omega
        clear hA HB
        go_wp2
        exact bodyPost_ret (v := .bool false) (by simp [results, Tryd.results13, go_sem]) rfl ⟨rfl, hB0⟩
set_option maxHeartbeats 4000000 in
theorem add_no (l : List J) (hl : l.length ≤ 1000000) (a d i room : Int) (la : Option Addr) (c : Nat) (w : World) (hL : l ≠ [] → ∃ B off, la = some ⟨B, off, none⟩ ∧ B < w.heap.size ∧ JRow w B off l) (hmay : mayV (checkV l) a d i room l.length = false) :
    Calls Tryd.prog 8 #[.slice la l.length c, .agg #[.int .i64 a, .int .i64 d, .int .i64 i], .int .i64 room] w fun e w' => e = .returned (.tuple #[.slice none 0 0, .int .i64 0, .slice none 0 0, .int .i64 2]) ∧ Below w.heap.size w w' := by
  have h3 := Box3.new w a d i
  have hB0 : Below w.heap.size w (w.alloc (.cells #[.int .i64 a, .int .i64 d, .int .i64 i] 27)) := (Below.refl _ w).alloc (Nat.le_refl _) _
  have h21 := may_k l hl la c a d i room (w.alloc (.cells #[.int .i64 a, .int .i64 d, .int .i64 i] 27)) (fun h => by
    obtain ⟨B, off, h1, h2, h3⟩ := hL h
    exact ⟨B, off, h1, Nat.lt_of_lt_of_le h2 hB0.size, h3.below hB0 h2⟩)
  rw [hmay] at h21
  go_enter Tryd.func8, Tryd.ntmps8
  go_wp2_with (go_at_call 21; ((with_reducible refine h21.mono ?_); rintro e W1 ⟨rfl, hb1⟩))
  exact bodyPost_ret (v := .tuple #[.slice none 0 0, .int .i64 0, .slice none 0 0, .int .i64 2]) (by simp [results, Tryd.results8, go_sem]) rfl ⟨rfl, hB0.trans (hb1.mono hB0.size)⟩
end Go.Proofs.YtpplkjjfaibmmaaDoor
