/- Regex: RegexReads. -/
import Derived.Test.YtpbkgegkjglibaaDoorS14
import Derived.Test.YtpbkgegkjglibaaDoorQ6
import Derived.Test.YtpbkgegkjglibaaDoorW18
namespace Go.Proofs.YtpbkgegkjglibaaDoor
open Go Go.Proofs Go.RowKit
attribute [local go_sem] Oper.semAt_some
def Readable (s : ByteArray) : Prop := ∃ A I, Fin2 s A I
def OkPost (w' : World) (s : ByteArray) (A I : List (List Cd)) (e : Ending) : Prop := ∃ v r, e = .returned (.tuple #[v, .int .i64 s.size, .int .i64 0]) ∧ RRow w' v r ∧ Good2 s r A I
/-- A text that is read. -/
theorem ready_k {s : ByteArray} (hs : s.size ≤ 254) {A I : List (List Cd)} (hf : Fin2 s A I) (w : World) : Calls Tryd.prog 9 #[.string s] w fun e w' => OkPost w' s A I e ∧ Below w.heap.size w w' :=
  (read_k s (by omega) w).mono fun e w' ⟨⟨x, v, hrd, he, hgood, _⟩, hb⟩ => by
    obtain ⟨h0, hg⟩ := read_of_fin hs hf hrd
    rw [h0] at he hgood
    exact ⟨⟨v, rowOf x, by rw [he]; simp, hgood rfl, hg⟩, hb⟩
def ErrPost (s : ByteArray) (e : Ending) : Prop := ∃ k n : Int, e = .returned (.tuple #[.slice none 0 0, .int .i64 k, .int .i64 n]) ∧ ((n = 7 ∧ 0 ≤ k ∧ k < s.size) ∨ (n = 8 ∧ k = s.size))
/-- A text that is not. -/
theorem unread_k {s : ByteArray} (hs : s.size ≤ 254) (hf : ¬ Readable s) (w : World) : Calls Tryd.prog 9 #[.string s] w fun e w' => ErrPost s e ∧ Below w.heap.size w w' :=
  (read_k s (by omega) w).mono fun e w' ⟨⟨x, v, hrd, he, _, hnil⟩, hb⟩ => by
    have h0 : (outE s x).2 ≠ 0 := fun h0 => hf ⟨_, _, (read_good hs hrd h0).fin⟩
    rw [if_neg h0, hnil h0] at he
    exact ⟨⟨_, _, he, out_e hrd h0⟩, hb⟩
/-- Any text. -/
theorem any_k {s : ByteArray} (hs : s.size ≤ 254) (w : World) : Calls Tryd.prog 9 #[.string s] w fun e w' => (∃ v k n, e = .returned (.tuple #[v, .int .i64 k, .int .i64 n])) ∧ Below w.heap.size w w' :=
  (read_k s (by omega) w).mono fun e w' ⟨⟨x, v, hrd, he, _, hnil⟩, hb⟩ => ⟨⟨_, _, _, he⟩, hb⟩
theorem sames_k {a b : List Nd} (h : SameV a b) {va vb : Value} (w : World) (hRa : RRow w va a) (hRb : RRow w vb b) : Calls Tryd.prog 11 #[va, vb] w fun e w' => e = .returned (.bool true) ∧ Below w.heap.size w w' :=
  (same_k a b va vb (by have := h.1.most; omega) (by have := h.2.1.most; omega) w hRa hRb).mono fun e w' ⟨⟨q, he, hq⟩, hb⟩ => ⟨by rw [he, hq.2 h], hb⟩
set_option maxRecDepth 100000 in
set_option maxHeartbeats 8000000 in
theorem reads_k (s t : ByteArray) (w : World)
    (hliv : ∀ W, Below w.heap.size w W → Calls Tryd.prog 8 #[] W fun e w' => e = .returned (.bool true) ∧ Below W.heap.size W w') :
    Calls Tryd.prog 3 #[.string s, .string t] w fun e w' => e = .returned (.bool true) ∧ Below w.heap.size w w' := by
  have hb0 := Below.refl w.heap.size w
  by_cases hs : s.size ≤ 60
  case neg =>
    have hs8 : (60 : Int) < (s.size : Int) := by omega
    clear hs
    go_enter Tryd.func3, Tryd.ntmps3
    go_wp2_with (go_at_call 8; (with_reducible refine (hliv _ hb0).mono ?_); rintro e W1 ⟨rfl, hb1⟩)
    exact bodyPost_ret (v := .bool true) (by simp [results, Tryd.results3, go_sem]) rfl ⟨rfl, hb1⟩
  have hs8 : ¬ (60 : Int) < (s.size : Int) := by omega
  by_cases ht : t.size ≤ 60
  case neg =>
    have ht8 : (60 : Int) < (t.size : Int) := by omega
    clear ht hs
    go_enter Tryd.func3, Tryd.ntmps3
    go_wp2_with (go_at_call 8; (with_reducible refine (hliv _ hb0).mono ?_); rintro e W1 ⟨rfl, hb1⟩)
    exact bodyPost_ret (v := .bool true) (by simp [results, Tryd.results3, go_sem]) rfl ⟨rfl, hb1⟩
  have ht8 : ¬ (60 : Int) < (t.size : Int) := by omega
  have HS := Lib.hid hs
  have HT := Lib.hid ht
  by_cases hrs : Readable s
  case neg =>
    have hra := fun W => unread_k (s := s) (by omega) hrs W
    have hrt := fun W => any_k (s := t) (by omega) W
    clear hrs hs ht
    go_enter Tryd.func3, Tryd.ntmps3
    go_wp2_with (first
      | (go_at_call 8; (with_reducible refine (hliv _ hb0).mono ?_); rintro e W1 ⟨rfl, hb1⟩)
      | (go_at_call 9; (with_reducible refine (hra _).mono ?_); rintro e W2 ⟨⟨k, n, rfl, hk⟩, hb2⟩; have hb3 := hb1.trans (hb2.mono hb1.size); clear hra; rcases hk with ⟨rfl, hk0, hk1⟩ | ⟨rfl, rfl⟩)
      | (go_at_call 9; (with_reducible refine (hrt _).mono ?_); rintro e W4 ⟨⟨v4, k4, n4, rfl⟩, hb4⟩; have hb5 := hb3.trans (hb4.mono hb3.size)))
    all_goals exact bodyPost_ret (v := .bool true) (by simp [results, Tryd.results3, go_sem]) rfl ⟨rfl, hb5⟩
  obtain ⟨A, I, hfs⟩ := hrs
  have hra := fun W => ready_k (s := s) (by omega) hfs W
  have hx1 := tx1_size s
  have hrc := fun W => ready_k (s := tx1 s) (by omega) (fin1 hfs) W
  unfold tx1 at hrc
  by_cases hrt : Readable t
  case neg =>
    have hrt := fun W => unread_k (s := t) (by omega) hrt W
    clear hs ht hx1
    go_enter Tryd.func3, Tryd.ntmps3
    go_wp2_with (first
      | (go_at_call 8; (with_reducible refine (hliv _ hb0).mono ?_); rintro e W1 ⟨rfl, hb1⟩)
      | (go_at_call 9; (with_reducible refine (hra _).mono ?_); rintro e W2 ⟨⟨va, a, rfl, hRa, hGa⟩, hb2⟩; have hb3 := hb1.trans (hb2.mono hb1.size); clear hra; obtain ⟨la, na, ca, rfl⟩ := hRa.form; have HGA := Lib.hid hGa; have hck := fun W (h : RRow W (.slice la na ca) a) => check_k a (.slice la na ca) (by have := HGA.out.ok.most; omega) W h; rw [show checkV a = 0 from if_pos HGA.out.ok] at hck; clear hGa)
      | (go_at_call 9; (with_reducible refine (hrt _).mono ?_); rintro e W4 ⟨⟨k4, n4, rfl, hk4⟩, hb4⟩; have hb5 := hb3.trans (hb4.mono hb3.size); have hRa5 := hRa.below (Nat.le_refl _) hb4; clear hrt; rcases hk4 with ⟨rfl, hk40, hk41⟩ | ⟨rfl, rfl⟩)
      | (go_at_call 9; (with_reducible refine (hrc _).mono ?_); rintro e W6 ⟨⟨vc, c, rfl, hRc, hGc⟩, hb6⟩; have hb7 := hb5.trans (hb6.mono hb5.size); have hRa7 := hRa5.below (Nat.le_refl _) hb6; have hsa := fun W hA hC => sames_k (same1 HGA.out hGc) (va := .slice la na ca) (vb := vc) W hA hC; clear hrc hGc)
      | (go_at_call 10; (with_reducible refine (hck _ hRa7).mono ?_); rintro e W8 ⟨rfl, hb8⟩; have hb9 := hb7.trans (hb8.mono hb7.size); have hRa9 := hRa7.below (Nat.le_refl _) hb8; have hRc9 := hRc.below (Nat.le_refl _) hb8)
      | (go_at_call 11; (with_reducible refine (hsa _ hRa9 hRc9).mono ?_); rintro e W10 ⟨rfl, hb10⟩; have hb11 := hb9.trans (hb10.mono hb9.size)))
    all_goals exact bodyPost_ret (v := .bool true) (by simp [results, Tryd.results3, go_sem]) rfl ⟨rfl, hb11⟩
  obtain ⟨A', I', hft⟩ := hrt
  have hrt := fun W => ready_k (s := t) (by omega) hft W
  have hx2 := tx2_size s t
  have hx3 := tx3_size s t
  have hrd := fun W => ready_k (s := tx2 s t) (by omega) (fin2 hfs hft) W
  have hrm := fun W => ready_k (s := tx3 s t) (by omega) (fin3 hfs hft) W
  unfold tx2 at hrd
  unfold tx3 at hrm
  clear hs ht hx1 hx2 hx3
  go_enter Tryd.func3, Tryd.ntmps3
  go_wp2_with (first
    | (go_at_call 8; (with_reducible refine (hliv _ hb0).mono ?_); rintro e W1 ⟨rfl, hb1⟩)
    | (go_at_call 9; (with_reducible refine (hra _).mono ?_); rintro e W2 ⟨⟨va, a, rfl, hRa2, hGa⟩, hb2⟩; have hc2 := hb1.trans (hb2.mono hb1.size); clear hra; obtain ⟨la, na, ca, rfl⟩ := hRa2.form; have HGA := Lib.hid hGa; have hck := fun W (h : RRow W (.slice la na ca) a) => check_k a (.slice la na ca) (by have := HGA.out.ok.most; omega) W h; rw [show checkV a = 0 from if_pos HGA.out.ok] at hck; clear hGa)
    | (go_at_call 9; (with_reducible refine (hrt _).mono ?_); rintro e W3 ⟨⟨vb, b, rfl, hRb3, hGb⟩, hb3⟩; have hc3 := hc2.trans (hb3.mono hc2.size); have hRa3 := hRa2.below (Nat.le_refl _) hb3; obtain ⟨lb, nb, cb, rfl⟩ := hRb3.form; have HGB := Lib.hid hGb; clear hrt hGb)
    | (go_at_call 9; (with_reducible refine (hrc _).mono ?_); rintro e W4 ⟨⟨vc, c, rfl, hRc4, hGc⟩, hb4⟩; have hc4 := hc3.trans (hb4.mono hc3.size); have hRa4 := hRa3.below (Nat.le_refl _) hb4; have hRb4 := hRb3.below (Nat.le_refl _) hb4; have hsa := fun W hA hC => sames_k (same1 HGA.out hGc) (va := .slice la na ca) (vb := vc) W hA hC; clear hrc hGc)
    | (go_at_call 10; (with_reducible refine (hck _ hRa4).mono ?_); rintro e W5 ⟨rfl, hb5⟩; have hc5 := hc4.trans (hb5.mono hc4.size); have hRa5 := hRa4.below (Nat.le_refl _) hb5; have hRb5 := hRb4.below (Nat.le_refl _) hb5; have hRc5 := hRc4.below (Nat.le_refl _) hb5)
    | (go_at_call 11; (with_reducible refine (hsa _ hRa5 hRc5).mono ?_); rintro e W6 ⟨rfl, hb6⟩; have hc6 := hc5.trans (hb6.mono hc5.size); have hRa6 := hRa5.below (Nat.le_refl _) hb6; have hRb6 := hRb5.below (Nat.le_refl _) hb6; clear hsa)
    | (go_at_call 9; (with_reducible refine (hrd _).mono ?_); rintro e W7 ⟨⟨vd, d, rfl, hRd7, hGd⟩, hb7⟩; have hc7 := hc6.trans (hb7.mono hc6.size); have hRa7 := hRa6.below (Nat.le_refl _) hb7; have hRb7 := hRb6.below (Nat.le_refl _) hb7; have hsd := fun W vj hA hC => sames_k (same2 HGA.out HGB.out (by have := HGA.out.len; have := HGB.out.len; have := HS.out; have := HT.out; omega) hGd) (va := vd) (vb := vj) W hA hC; clear hrd hGd)
    | (go_at_call 9; (with_reducible refine (hrm _).mono ?_); rintro e W8 ⟨⟨vm, m, rfl, hRm8, hGm⟩, hb8⟩; have hc8 := hc7.trans (hb8.mono hc7.size); have hRa8 := hRa7.below (Nat.le_refl _) hb8; have hRb8 := hRb7.below (Nat.le_refl _) hb8; have hRd8 := hRd7.below (Nat.le_refl _) hb8; have hsm := fun W vj hA hC => sames_k (same3 HGA.out HGB.out (by have := HGA.out.len; have := HGB.out.len; have := HS.out; have := HT.out; omega) hGm) (va := vm) (vb := vj) W hA hC; clear hrm hGm)
    | (go_at_call 12; (with_reducible refine (join2_k 4 HGA.out.ok HGB.out.ok W8 hRa8 hRb8).mono ?_); rintro e W9 ⟨⟨v9, rfl, hRj9⟩, hb9⟩; have hc9 := hc8.trans (hb9.mono hc8.size); have hRa9 := hRa8.below (Nat.le_refl _) hb9; have hRb9 := hRb8.below (Nat.le_refl _) hb9; have hRd9 := hRd8.below (Nat.le_refl _) hb9; have hRm9 := hRm8.below (Nat.le_refl _) hb9)
    | (go_at_call 11; (with_reducible refine (hsd _ _ hRd9 hRj9).mono ?_); rintro e W10 ⟨rfl, hb10⟩; have hc10 := hc9.trans (hb10.mono hc9.size); have hRa10 := hRa9.below (Nat.le_refl _) hb10; have hRb10 := hRb9.below (Nat.le_refl _) hb10; have hRm10 := hRm9.below (Nat.le_refl _) hb10)
    | (go_at_call 12; (with_reducible refine (join2_k 3 HGA.out.ok HGB.out.ok W10 hRa10 hRb10).mono ?_); rintro e W11 ⟨⟨v11, rfl, hRj11⟩, hb11⟩; have hc11 := hc10.trans (hb11.mono hc10.size); have hRm11 := hRm10.below (Nat.le_refl _) hb11)
    | (go_at_call 11; (with_reducible refine (hsm _ _ hRm11 hRj11).mono ?_); rintro e W12 ⟨rfl, hb12⟩; have hc12 := hc11.trans (hb12.mono hc11.size)))
  exact bodyPost_ret (v := .bool true) (by simp [results, Tryd.results3, go_sem]) rfl ⟨rfl, hc12⟩
end Go.Proofs.YtpbkgegkjglibaaDoor
