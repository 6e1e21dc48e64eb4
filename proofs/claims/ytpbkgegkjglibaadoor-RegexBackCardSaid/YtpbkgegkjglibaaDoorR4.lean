/- Regex: the reader: escape, one. -/
import Derived.Test.YtpbkgegkjglibaaDoorW13
import Derived.Test.YtpbkgegkjglibaaDoorRg7
import Derived.Deep.QuietTactic
import Derived.Test.YtpbkgegkjglibaaDoorKn
namespace Go.Proofs.YtpbkgegkjglibaaDoor
open Go Go.Proofs Go.RowKit
attribute [local go_sem] Oper.semAt_some
theorem Bx.fiv {w : World} {B : Nat} {t : TypeId} {v0 v1 v2 v3 v4 : Value} (h : Bx w B t #[v0, v1, v2, v3, v4]) : w.cell? ⟨B, 0, none⟩ = some v0 ∧ w.cell? ⟨B, 1, none⟩ = some v1 ∧ w.cell? ⟨B, 2, none⟩ = some v2 ∧ w.cell? ⟨B, 3, none⟩ = some v3 ∧ w.cell? ⟨B, 4, none⟩ = some v4 := ⟨h.cell 0, h.cell 1, h.cell 2, h.cell 3, h.cell 4⟩
/-- The reader's five cells. -/
def Rdr (W : World) (Rb : Nat) (s : ByteArray) (at_ : Int) (rv sv : Value) (e : Int) : Prop := Bx W Rb 56 #[.string s, .int .i64 at_, rv, sv, .int .i64 e]
def pv (Rb : Nat) : Value := .pointer (some ⟨Rb, 0, none⟩)
def moreV (n : Nat) (at_ e : Int) : Bool := e == 0 && decide (at_ < n)
set_option maxHeartbeats 4000000 in
theorem more_k (Rb : Nat) (s : ByteArray) (at_ : Int) (rv sv : Value) (e : Int) (w : World) (hR : Rdr w Rb s at_ rv sv e) :
    Calls Tryd.prog 23 #[.pointer (some ⟨Rb, 0, none⟩)] w fun x w' => x = .returned (.bool (moreV s.size at_ e)) ∧ Below w.heap.size w w' := by
  obtain ⟨c0, c1, c2, c3, c4⟩ := Bx.fiv hR
  have d0 := AX.cell_all c0 hR.lt
  have d1 := AX.cell_all c1 hR.lt
  have d4 := AX.cell_all c4 hR.lt
  by_cases he : e = 0
  · subst he
    go_enter Tryd.func23, Tryd.ntmps23
    go_wp2_with fail
    refine AX.region_below (by kernel_rfl) (by kernel_rfl) ?_
    repeat (go_big_quiet_step (fail))
    refine wpQuiet_nil ?_
    rintro w' ⟨p, rfl⟩
    go_wp2_with fail
    exact bodyPost_ret (v := .bool (moreV s.size at_ 0)) (by simp [results, Tryd.results23, go_sem, moreV]) rfl ⟨rfl, p.h⟩
  · go_enter Tryd.func23, Tryd.ntmps23
    go_wp2_with fail
    refine AX.region_below (by kernel_rfl) (by kernel_rfl) ?_
    repeat (go_big_quiet_step (fail))
    simp only [beq_eq_false_iff_ne.2 he]
    repeat (go_big_quiet_step (fail))
    refine wpQuiet_nil ?_
    rintro w' ⟨p, rfl⟩
    go_wp2_with fail
    have hm : moreV s.size at_ e = false := by simp [moreV, he]
    exact bodyPost_ret (v := .bool false) (by simp [results, Tryd.results23, go_sem]) rfl ⟨by rw [hm], p.h⟩
def failV (p : Int × Int) (at_ e : Int) : Int × Int := if p.2 = 0 then (at_, e) else p
set_option maxHeartbeats 4000000 in
theorem fail_k (Rb : Nat) (s : ByteArray) (at_ : Int) (rv sv : Value) (e : Int) (a2 e2 : Int) (w : World) (hR : Rdr w Rb s at_ rv sv e) :
    Calls Tryd.prog 25 #[.pointer (some ⟨Rb, 0, none⟩), .int .i64 a2, .int .i64 e2] w fun x w' => x = .returned (.tuple #[]) ∧ Rdr w' Rb s (failV (at_, e) a2 e2).1 rv sv (failV (at_, e) a2 e2).2 ∧ AX.But Rb w w' := by
  obtain ⟨c0, c1, c2, c3, c4⟩ := Bx.fiv hR
  by_cases he : e = 0
  · subst he
    have h1 := (Bx.set hR 4 (.int .i64 e2)).set 1 (.int .i64 a2)
    have f1 := hR.frozen 1
    have f4 := hR.frozen 4
    have hb := (but_set w Rb 4 (.int .i64 e2)).trans (but_set (w.setCell ⟨Rb, 4, none⟩ (.int .i64 e2)) Rb 1 (.int .i64 a2))
    go_enter Tryd.func25, Tryd.ntmps25
    go_wp2
    exact bodyPost_end (v := .tuple #[]) (by simp [results, Tryd.results25, go_sem]) rfl ⟨rfl, h1, hb⟩
  · have hf : failV (at_, e) a2 e2 = (at_, e) := if_neg he
    rw [hf]
    go_enter Tryd.func25, Tryd.ntmps25
    go_wp2
    exact bodyPost_end (v := .tuple #[]) (by simp [results, Tryd.results25, go_sem]) rfl ⟨rfl, hR, AX.But.refl _ _⟩
set_option maxHeartbeats 4000000 in
theorem top_k (Rb Sb n c : Nat) (hn : 1 ≤ n) (hn2 : n ≤ 1000) (s : ByteArray) (at_ : Int) (rv : Value) (e : Int) (w : World) (hR : Rdr w Rb s at_ rv (.slice (some ⟨Sb, 0, none⟩) n c) e) :
    Calls Tryd.prog 46 #[.pointer (some ⟨Rb, 0, none⟩)] w fun x w' => x = .returned (.pointer (some ⟨Sb, (n - 1) * 2, none⟩)) ∧ Below w.heap.size w w' := by
  obtain ⟨c0, c1, c2, c3, c4⟩ := Bx.fiv hR
  have d3 := AX.cell_all c3 hR.lt
  have hk : ((n : Int) - 1).toNat = n - 1 := by omega
  have hk0 : (0 : Int) ≤ (n : Int) - 1 := by omega
  have hk1 : (n : Int) - 1 < (n : Int) := by omega
  go_enter Tryd.func46, Tryd.ntmps46
  go_wp2_with fail
  refine AX.region_below (by kernel_rfl) (by kernel_rfl) ?_
  repeat (go_big_quiet_step (fail))
  refine wpQuiet_nil ?_
  rintro w' ⟨p, rfl⟩
  go_wp2_with fail
  exact bodyPost_ret (v := .pointer (some ⟨Sb, (n - 1) * 2, none⟩)) (by simp [results, Tryd.results46, go_sem]) rfl ⟨rfl, p.h⟩
end Go.Proofs.YtpbkgegkjglibaaDoor

namespace Go.Proofs.YtpbkgegkjglibaaDoor
open Go Go.Proofs Go.RowKit
attribute [local go_sem] Oper.semAt_some
def letterV (c : Int) : Bool := (decide (48 ≤ c) && decide (c ≤ 57)) || (decide (97 ≤ c) && decide (c ≤ 122)) || (decide (65 ≤ c) && decide (c ≤ 90))
set_option maxHeartbeats 4000000 in
theorem letter_k (c : Int) (w : World) : Calls Tryd.prog 50 #[.int .u8 c] w fun x w' => x = .returned (.bool (letterV c)) ∧ w' = w := by
  by_cases h1 : 48 ≤ c <;> by_cases h2 : c ≤ 57 <;> by_cases h3 : 97 ≤ c <;> by_cases h4 : c ≤ 122 <;> by_cases h5 : 65 ≤ c <;> by_cases h6 : c ≤ 90 <;> first | (exfalso; omega) | (
    go_enter Tryd.func50, Tryd.ntmps50
    go_wp2
    refine bodyPost_ret (v := .bool (letterV c)) (by simp [results, Tryd.results50, go_sem, letterV, h1, h2, h3, h4, h5, h6]) rfl ⟨rfl, rfl⟩)
def hexS : ByteArray := ⟨#[48, 49, 50, 51, 52, 53, 54, 55, 56, 57, 97, 98, 99, 100, 101, 102]⟩
def low (c : Int) : Int := if 65 ≤ c ∧ c ≤ 70 then c + 32 else c
def hexV (c : Int) : Int := Lib.indexByte hexS.data.toList (low c).toNat.toUInt8
set_option maxHeartbeats 4000000 in
theorem hex_k (c : Int) (w : World) : Calls Tryd.prog 77 #[.int .u8 c] w fun x w' => x = .returned (.int .i64 (hexV c)) ∧ w' = w := by
  by_cases h : 65 ≤ c ∧ c ≤ 70
  · obtain ⟨h1, h2⟩ := h
    have hl : low c = c + 32 := if_pos ⟨h1, h2⟩
    have hw : IntKind.u8.wrap (c + 32) = c + 32 := by
      rw [IntKind.wrap_u8]
      omega
    go_enter Tryd.func77, Tryd.ntmps77
    go_wp2_with (first
      | (with_reducible refine (index_byte _ _ _).mono ?_; rintro x w2 ⟨rfl, rfl⟩))
    refine bodyPost_ret (v := .int .i64 (hexV c)) (by simp [results, Tryd.results77, go_sem, hexV, hl, hexS]) rfl ⟨rfl, rfl⟩
  · have hl : low c = c := if_neg h
    go_enter Tryd.func77, Tryd.ntmps77
    by_cases h1 : 65 ≤ c
    · have h2 : ¬ c ≤ 70 := fun h2 => h ⟨h1, h2⟩
      go_wp2_with (first
        | (with_reducible refine (index_byte _ _ _).mono ?_; rintro x w2 ⟨rfl, rfl⟩))
      refine bodyPost_ret (v := .int .i64 (hexV c)) (by simp [results, Tryd.results77, go_sem, hexV, hl, hexS]) rfl ⟨rfl, rfl⟩
    · go_wp2_with (first
        | (with_reducible refine (index_byte _ _ _).mono ?_; rintro x w2 ⟨rfl, rfl⟩))
      refine bodyPost_ret (v := .int .i64 (hexV c)) (by simp [results, Tryd.results77, go_sem, hexV, hl, hexS]) rfl ⟨rfl, rfl⟩
end Go.Proofs.YtpbkgegkjglibaaDoor

namespace Go.Proofs.YtpbkgegkjglibaaDoor
open Go Go.Proofs Go.RowKit
attribute [local go_sem] Oper.semAt_some
def byteI (s : ByteArray) (k : Nat) : Int := if h : k < s.size then (s[k].toNat : Int) else 0
theorem byteI_eq (s : ByteArray) (k : Nat) (h : k < s.size) : byteI s k = (s[k].toNat : Int) := dif_pos h
def hx (s : ByteArray) (k : Nat) : Int := hexV (byteI s k)
def digitsV (s : ByteArray) (a : Nat) (e : Int) : Int × Int × Int :=
  if s.size ≤ a + 1 then (0, failV ((a : Int), e) s.size 8)
  else if hx s (a + 1) < 0 then (0, failV ((a : Int), e) ((a : Int) + 1) 7)
  else if s.size ≤ a + 2 then (0, failV ((a : Int), e) s.size 8)
  else if hx s (a + 2) < 0 then (0, failV ((a : Int), e) ((a : Int) + 2) 7)
  else (IntKind.u8.wrap (16 * hx s (a + 1) + hx s (a + 2)), (a : Int) + 3, e)
def acc (s : ByteArray) (a k : Nat) : Int := if k = 0 then 0 else if k = 1 then hx s (a + 1) else 16 * hx s (a + 1) + hx s (a + 2)
def okTo (s : ByteArray) (a k : Nat) : Prop := ∀ j, j < k → a + 1 + j < s.size ∧ 0 ≤ hx s (a + 1 + j)
theorem index_lt (b : UInt8) : ∀ s : List UInt8, Lib.indexByte s b < s.length ∨ Lib.indexByte s b = -1
  | [] => .inr (by simp [Lib.indexByte])
  | a :: l => by
    have ih := index_lt b l
    simp only [Lib.indexByte, List.length_cons]
    split
    · left; omega
    · split <;> omega
theorem hexV_lt (c : Int) : hexV c < 16 := by
  rcases index_lt (low c).toNat.toUInt8 hexS.data.toList with h | h
  · exact h
  · have : hexV c = -1 := h
    omega
set_option maxHeartbeats 4000000 in
theorem digits_k (Rb : Nat) (s : ByteArray) (a : Nat) (rv sv : Value) (e : Int) (w : World) (hR : Rdr w Rb s a rv sv e) (hs : s.size ≤ 1000000) (ha : a < s.size) :
    Calls Tryd.prog 71 #[.pointer (some ⟨Rb, 0, none⟩)] w fun x w' => x = .returned (.int .u8 (digitsV s a e).1) ∧ Rdr w' Rb s (digitsV s a e).2.1 rv sv (digitsV s a e).2.2 ∧ AX.But Rb w w' := by
  obtain ⟨c0, c1, c2, c3, c4⟩ := Bx.fiv hR
  go_enter Tryd.func71, Tryd.ntmps71
  go_wp2
  obtain ⟨wo, rfl⟩ : ∃ wo : World, wo = w := ⟨_, rfl⟩
  go_loopw [3, 7] (fun v ix wr => ∃ k : Nat, k ≤ 2 ∧ ix = .int .i64 k ∧ v = .int .i64 (acc s a k) ∧ Hid (okTo s a k) ∧ wr = wo)
    (fun _ ix _ => 2 - (intOf ix).toNat)
  case atStart => exact ⟨0, by omega, rfl, rfl, Lib.hid (fun j hj => by omega), rfl⟩
  case round =>
    obtain ⟨k, hk, rfl, rfl, HO, rfl⟩ := hrel
    by_cases hk2 : k < 2
    · have hk3 : (k : Int) < 2 := by omega
      by_cases hin : a + 1 + k < s.size
      · have hin2 : ¬ ((s.size : Int) ≤ (a : Int) + 1 + (k : Int)) := by omega
        have hb := hex_k (byteI s (a + 1 + k))
        rw [byteI_eq s (a + 1 + k) hin, ← byteI_eq s (a + 1 + k) hin, byteI_eq s (a + 1 + k) hin] at hb
        obtain ⟨h, hh⟩ : ∃ h, h = hexV (s[a + 1 + k].toNat : Int) := ⟨_, rfl⟩
        have hh2 : hx s (a + 1 + k) = h := by rw [hh]; simp only [hx, byteI_eq s (a + 1 + k) hin]
        rw [← hh] at hb
        have HH := Lib.hid hh2
        have h16 : h < 16 := hh ▸ hexV_lt _
        clear hh hh2
        by_cases hneg : h < 0
        · go_wp2_with (first
            | (with_reducible refine (hb _).mono ?_; rintro x w2 ⟨rfl, rfl⟩)
            | (with_reducible refine (fail_k Rb s _ rv sv e _ _ _ hR).mono ?_; rintro x w2 ⟨rfl, hR2, hB2⟩))
          refine bodyPost_ret (v := .int .u8 0) (by simp [results, Tryd.results71, go_sem]) rfl ?_
          have hk01 : k = 0 ∨ k = 1 := by omega
          have hd : digitsV s a e = (0, failV ((a : Int), e) ((a : Int) + 1 + k) 7) := by
            rcases hk01 with rfl | rfl
            · rw [digitsV, if_neg (by omega), if_pos (by rw [← Nat.add_zero (a + 1), HH.out]; exact hneg)]; simp
            · obtain ⟨o1, o2⟩ := HO.out 0 (by omega)
              rw [Nat.add_zero] at o1 o2
              rw [digitsV, if_neg (by omega), if_neg (by omega), if_neg (by omega), if_pos (by rw [show a + 2 = a + 1 + 1 from rfl, HH.out]; exact hneg)]
              congr 2
          rw [hd]
          exact ⟨rfl, hR2, hB2⟩
        · have hg : ¬ h < 0 := hneg
          have hg0 : 0 ≤ h := by omega
          have hacc : IntKind.i64.wrap (16 * acc s a k) = 16 * acc s a k ∧ IntKind.i64.wrap (16 * acc s a k + h) = acc s a (k + 1) := by
            have hk01 : k = 0 ∨ k = 1 := by omega
            have hH := HH.out
            rcases hk01 with rfl | rfl
            · rw [Nat.add_zero] at hH
              simp [acc, hH, IntKind.wrap_i64]
              omega
            · have := hexV_lt (byteI s (a + 1))
              obtain ⟨_, o2⟩ := HO.out 0 (by omega)
              rw [Nat.add_zero] at o2
              rw [show a + 1 + 1 = a + 2 from rfl] at hH
              have : hx s (a + 1) < 16 := this
              simp [acc, hH, IntKind.wrap_i64]
              omega
          obtain ⟨q1, q2⟩ := hacc
          go_wp2_with (first
            | (with_reducible refine (hb _).mono ?_; rintro x w2 ⟨rfl, rfl⟩))
          have HO2 : Hid (okTo s a (k + 1)) := Lib.hid (fun j hj => by
            by_cases hjk : j < k
            · exact HO.out j hjk
            · obtain rfl : j = k := by omega
              exact ⟨hin, by rw [HH.out]; exact hg0⟩)
          exact ⟨⟨k + 1, by omega, by simp, rfl, HO2, trivial⟩, by simp [intOf]; omega⟩
      · have hge : (s.size : Int) ≤ (a : Int) + 1 + (k : Int) := by omega
        go_wp2_with (first
          | (with_reducible refine (fail_k Rb s _ rv sv e _ _ _ hR).mono ?_; rintro x w2 ⟨rfl, hR2, hB2⟩))
        refine bodyPost_ret (v := .int .u8 0) (by simp [results, Tryd.results71, go_sem]) rfl ?_
        have hk01 : k = 0 ∨ k = 1 := by omega
        have hd : digitsV s a e = (0, failV ((a : Int), e) s.size 8) := by
          rcases hk01 with rfl | rfl
          · rw [digitsV, if_pos (by omega)]
          · obtain ⟨o1, o2⟩ := HO.out 0 (by omega)
            rw [Nat.add_zero] at o1 o2
            rw [digitsV, if_neg (by omega), if_neg (by omega), if_pos (by omega)]
        rw [hd]
        exact ⟨rfl, hR2, hB2⟩
    · obtain rfl : k = 2 := by omega
      have h1 := Bx.set hR 1 (.int .i64 ((a : Int) + 3))
      have f1 := hR.frozen 1
      have hb := but_set wr Rb 1 (.int .i64 ((a : Int) + 3))
      have hd : digitsV s a e = (IntKind.u8.wrap (acc s a 2), (a : Int) + 3, e) := by
        obtain ⟨o1, o2⟩ := HO.out 0 (by omega)
        obtain ⟨o3, o4⟩ := HO.out 1 (by omega)
        rw [Nat.add_zero] at o1 o2
        rw [show a + 1 + 1 = a + 2 from rfl] at o3 o4
        rw [digitsV, if_neg (by omega), if_neg (by omega), if_neg (by omega), if_neg (by omega)]
        rfl
      go_wp2
      exact bodyPost_ret (v := .int .u8 (IntKind.u8.wrap (acc s a 2))) (by simp [results, Tryd.results71, go_sem, IntKind.wrap_u8]) rfl (by rw [hd]; exact ⟨rfl, h1, hb⟩)
end Go.Proofs.YtpbkgegkjglibaaDoor

namespace Go.Proofs.YtpbkgegkjglibaaDoor
open Go Go.Proofs Go.RowKit
attribute [local go_sem] Oper.semAt_some
def escC (c : Int) : Int := if c = 110 then 10 else if c = 116 then 9 else if c = 114 then 13 else c
def escapeV (s : ByteArray) (a : Nat) (e : Int) : Int × Int × Int :=
  if moreV s.size a e = false then (0, failV ((a : Int), e) s.size 8)
  else if byteI s a = 120 then digitsV s a e
  else if letterV (escC (byteI s a)) then (0, failV ((a : Int), e) a 7)
  else (escC (byteI s a), (a : Int) + 1, e)
def oneV (s : ByteArray) (a : Nat) (e : Int) : Int × Int × Int := if byteI s a = 92 then escapeV s (a + 1) e else (byteI s a, (a : Int) + 1, e)
set_option maxHeartbeats 4000000 in
theorem escape_k (Rb : Nat) (s : ByteArray) (a : Nat) (rv sv : Value) (e : Int) (w : World) (hR : Rdr w Rb s a rv sv e) (hs : s.size ≤ 1000000) (_ha : a ≤ s.size) :
    Calls Tryd.prog 61 #[.pointer (some ⟨Rb, 0, none⟩)] w fun x w' => x = .returned (.int .u8 (escapeV s a e).1) ∧ Rdr w' Rb s (escapeV s a e).2.1 rv sv (escapeV s a e).2.2 ∧ AX.But Rb w w' := by
  obtain ⟨m, hm⟩ : ∃ m, m = moreV s.size a e := ⟨_, rfl⟩
  have hmk := more_k Rb s a rv sv e
  rw [← hm] at hmk
  have HM := Lib.hid hm
  cases m with
  | false =>
    clear hm
    have hv : escapeV s a e = (0, failV ((a : Int), e) s.size 8) := if_pos HM.out.symm
    go_enter Tryd.func61, Tryd.ntmps61
    go_wp2_with (first
      | (go_at_call 23; (with_reducible refine (hmk _ hR).mono ?_); rintro x W1 ⟨rfl, hb1⟩; have hR1 : Rdr W1 Rb s a rv sv e := hR.below hb1 hR.lt; obtain ⟨c0, c1, c2, c3, c4⟩ := Bx.fiv hR1)
      | (go_at_call 25; (with_reducible refine (fail_k Rb s _ rv sv e _ _ _ hR1).mono ?_); rintro x W2 ⟨rfl, hR2, hb2⟩))
    exact bodyPost_ret (v := .int .u8 0) (by simp [results, Tryd.results61, go_sem]) rfl (by rw [hv]; exact ⟨rfl, hR2, (AX.But.of_below hb1).trans hb2⟩)
  | true =>
    have hm2 : moreV s.size a e = true := hm.symm
    clear hm
    have hm3 : e = 0 ∧ (a : Int) < s.size := by simpa [moreV] using hm2
    obtain ⟨rfl, hal⟩ := hm3
    have hal2 : a < s.size := by omega
    go_enter Tryd.func61, Tryd.ntmps61
    go_wp2_with (go_at_call 23; (with_reducible refine (hmk _ hR).mono ?_); rintro x W1 ⟨rfl, hb1⟩; have hR1 : Rdr W1 Rb s a rv sv 0 := hR.below hb1 hR.lt; obtain ⟨c0, c1, c2, c3, c4⟩ := Bx.fiv hR1; have d0 := AX.cell_all c0 hR1.lt; have d1 := AX.cell_all c1 hR1.lt)
    have hby := byteI_eq s a hal2
    have hr : 0 ≤ byteI s a ∧ byteI s a < 256 := by rw [hby]; exact ⟨by omega, by have := UInt8.toNat_lt s[a]; omega⟩
    refine AX.region_below (by kernel_rfl) (by kernel_rfl) ?_
    repeat (go_big_quiet_step (fail))
    refine wpQuiet_nil ?_
    rintro W2 ⟨p, rfl⟩
    obtain ⟨W2, hb2⟩ := p
    change Below _ _ _ at hb2
    have hR2 : Rdr W2 Rb s a rv sv 0 := hR1.below hb2 hR1.lt
    have hB2 : AX.But Rb w W2 := (AX.But.of_below hb1).trans (AX.But.of_below hb2)
    clear c0 c1 c2 c3 c4 d0 d1
    obtain ⟨c0, c1, c2, c3, c4⟩ := Bx.fiv hR2
    have h1 := Bx.set hR2 1 (.int .i64 ((a : Int) + 1))
    have f1 := hR2.frozen 1
    have hb3 := hB2.trans (but_set W2 Rb 1 (.int .i64 ((a : Int) + 1)))
    simp only [← hby]
    obtain ⟨c, hc⟩ : ∃ c, c = byteI s a := ⟨_, rfl⟩
    rw [← hc] at hr ⊢
    have HC := Lib.hid hc
    clear hc hby
    have hl := letter_k
    have hne : ∀ k, letterV k = true ∨ letterV k = false := fun k => by cases letterV k <;> simp
    by_cases h120 : c = 120
    · subst h120
      have hv : escapeV s a 0 = digitsV s a 0 := by rw [escapeV, if_neg (by rw [hm2]; decide), if_pos HC.out.symm]
      go_wp2_with (go_at_call 71; (with_reducible refine (digits_k Rb s a rv sv 0 _ hR2 hs hal2).mono ?_); rintro x W3 ⟨rfl, hR3, hb4⟩)
      exact bodyPost_ret (v := .int .u8 (digitsV s a 0).1) (by simp [results, Tryd.results61, go_sem]) rfl (by rw [hv]; exact ⟨rfl, hR3, hB2.trans hb4⟩)
    · have hv : escapeV s a 0 = if letterV (escC c) then (0, failV ((a : Int), 0) a 7) else (escC c, (a : Int) + 1, 0) := by rw [escapeV, if_neg (by rw [hm2]; decide), if_neg (by rw [← HC.out]; exact h120), ← HC.out]
      by_cases h110 : c = 110
      · subst h110
        have hv2 : escapeV s a 0 = (10, (a : Int) + 1, 0) := by rw [hv]; rfl
        go_wp2_with fail
        exact bodyPost_ret (v := .int .u8 10) (by simp [results, Tryd.results61, go_sem]) rfl (by rw [hv2]; exact ⟨rfl, h1, hb3⟩)
      · by_cases h116 : c = 116
        · subst h116
          have hv2 : escapeV s a 0 = (9, (a : Int) + 1, 0) := by rw [hv]; rfl
          go_wp2_with fail
          exact bodyPost_ret (v := .int .u8 9) (by simp [results, Tryd.results61, go_sem]) rfl (by rw [hv2]; exact ⟨rfl, h1, hb3⟩)
        · by_cases h114 : c = 114
          · subst h114
            have hv2 : escapeV s a 0 = (13, (a : Int) + 1, 0) := by rw [hv]; rfl
            go_wp2_with fail
            exact bodyPost_ret (v := .int .u8 13) (by simp [results, Tryd.results61, go_sem]) rfl (by rw [hv2]; exact ⟨rfl, h1, hb3⟩)
          · have he : escC c = c := by rw [escC, if_neg h110, if_neg h116, if_neg h114]
            rw [he] at hv
            have hlk := letter_k c
            rcases hne c with hlt | hlf
            · rw [hlt] at hlk
              have hv2 : escapeV s a 0 = (0, failV ((a : Int), 0) a 7) := by rw [hv, if_pos hlt]
              go_wp2_with (first
                | (go_at_call 50; (with_reducible refine (hlk _).mono ?_); rintro x W3 ⟨rfl, rfl⟩)
                | (go_at_call 25; (with_reducible refine (fail_k Rb s _ rv sv 0 _ _ _ hR2).mono ?_); rintro x W4 ⟨rfl, hR4, hb4⟩))
              exact bodyPost_ret (v := .int .u8 0) (by simp [results, Tryd.results61, go_sem]) rfl (by rw [hv2]; exact ⟨rfl, hR4, hB2.trans hb4⟩)
            · rw [hlf] at hlk
              have hv2 : escapeV s a 0 = (c, (a : Int) + 1, 0) := by rw [hv, if_neg (by rw [hlf]; decide)]
              go_wp2_with (go_at_call 50; (with_reducible refine (hlk _).mono ?_); rintro x W3 ⟨rfl, rfl⟩)
              exact bodyPost_ret (v := .int .u8 c) (by simp [results, Tryd.results61, go_sem]) rfl (by rw [hv2]; exact ⟨rfl, h1, hb3⟩)
set_option maxHeartbeats 4000000 in
theorem one_k (Rb : Nat) (s : ByteArray) (a : Nat) (rv sv : Value) (e : Int) (w : World) (hR : Rdr w Rb s a rv sv e) (hs : s.size ≤ 1000000) (hal : a < s.size) :
    Calls Tryd.prog 68 #[.pointer (some ⟨Rb, 0, none⟩)] w fun x w' => x = .returned (.int .u8 (oneV s a e).1) ∧ Rdr w' Rb s (oneV s a e).2.1 rv sv (oneV s a e).2.2 ∧ AX.But Rb w w' := by
  have hby := byteI_eq s a hal
  obtain ⟨c0, c1, c2, c3, c4⟩ := Bx.fiv hR
  have d0 := AX.cell_all c0 hR.lt
  have d1 := AX.cell_all c1 hR.lt
  have hal2 : (a : Int) < (s.size : Int) := by omega
  go_enter Tryd.func68, Tryd.ntmps68
  go_wp2_with fail
  refine AX.region_below (by kernel_rfl) (by kernel_rfl) ?_
  repeat (go_big_quiet_step (fail))
  refine wpQuiet_nil ?_
  rintro W2 ⟨p, rfl⟩
  obtain ⟨W2, hb2⟩ := p
  change Below _ _ _ at hb2
  have hR2 : Rdr W2 Rb s a rv sv e := hR.below hb2 hR.lt
  have hB2 : AX.But Rb w W2 := AX.But.of_below hb2
  clear c0 c1 c2 c3 c4 d0 d1
  obtain ⟨c0, c1, c2, c3, c4⟩ := Bx.fiv hR2
  have h1 : Rdr (W2.setCell ⟨Rb, 1, none⟩ (.int .i64 ((a : Int) + 1))) Rb s ((a + 1 : Nat) : Int) rv sv e := Bx.set hR2 1 (.int .i64 ((a : Int) + 1))
  have f1 := hR2.frozen 1
  have hb3 := hB2.trans (but_set W2 Rb 1 (.int .i64 ((a : Int) + 1)))
  simp only [← hby]
  obtain ⟨c, hc⟩ : ∃ c, c = byteI s a := ⟨_, rfl⟩
  rw [← hc]
  have HC := Lib.hid hc
  clear hc hby
  by_cases h92 : c = 92
  · subst h92
    have hv : oneV s a e = escapeV s (a + 1) e := if_pos HC.out.symm
    go_wp2_with (go_at_call 61; (with_reducible refine (escape_k Rb s (a + 1) rv sv e _ h1 hs (by omega)).mono ?_); rintro x W3 ⟨rfl, hR3, hb4⟩)
    exact bodyPost_ret (v := .int .u8 (escapeV s (a + 1) e).1) (by simp [results, Tryd.results68, go_sem]) rfl (by rw [hv]; exact ⟨rfl, hR3, hb3.trans hb4⟩)
  · have hv : oneV s a e = (c, (a : Int) + 1, e) := by rw [oneV, if_neg (by rw [← HC.out]; exact h92), ← HC.out]
    go_wp2_with fail
    exact bodyPost_ret (v := .int .u8 c) (by simp [results, Tryd.results68, go_sem]) rfl (by rw [hv]; exact ⟨rfl, h1, hb3⟩)
end Go.Proofs.YtpbkgegkjglibaaDoor
