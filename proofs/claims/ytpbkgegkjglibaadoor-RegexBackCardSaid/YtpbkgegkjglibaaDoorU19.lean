/- Regex: RegexBack. -/
import Derived.Test.YtpbkgegkjglibaaDoorU13
import Derived.Test.YtpbkgegkjglibaaDoorU18
import Derived.Test.YtpbkgegkjglibaaDoorS15
namespace Go.Proofs.YtpbkgegkjglibaaDoor
open Go Go.Proofs Go.RowKit
attribute [local go_sem] Oper.semAt_some
def BackPost (w' : World) (s : ByteArray) (r : List Nd) (e : Ending) : Prop := ∃ v x, e = .returned (.tuple #[v, .int .i64 s.size, .int .i64 0]) ∧ RRow w' v x ∧ RxOk x ∧ codeOf x = codeOf r ∧ ∀ y ∈ x, y.Wd
theorem back_read {r : List Nd} (ok : RxOk r) (hl : r.length ≤ 60) (hwd : ∀ x ∈ r, x.Wd) (hs : (⟨(textOf r).toArray⟩ : ByteArray).size ≤ 256) (w : World) :
    Calls Tryd.prog 9 #[.string ⟨(textOf r).toArray⟩] w fun e w' => BackPost w' ⟨(textOf r).toArray⟩ r e ∧ Below w.heap.size w w' :=
  (read_k _ hs w).mono fun e w' ⟨⟨x, v, hrd, he, hgood, _⟩, hb⟩ => by
    obtain ⟨A, I, hf, hc⟩ := text_fin ok hwd
    obtain ⟨h0, h1, h2, h3⟩ := read_fin hs hf (by rw [hc, code_len ok]; omega) hrd
    rw [h0] at he hgood
    exact ⟨⟨v, rowOf x, by rw [he]; simp, hgood rfl, h1, h2.trans hc, h3⟩, hb⟩
theorem nosame_k {r : List Nd} (h : ¬ RxOk r) (hl : r.length ≤ 1000000) {v : Value} (w : World) (hR : RRow w v r) : Calls Tryd.prog 11 #[v, v] w fun e w' => e = .returned (.bool false) ∧ Below w.heap.size w w' :=
  (same_k r r v v hl hl w hR hR).mono fun e w' ⟨⟨q, he, hq⟩, hb⟩ => ⟨by
    cases q with
    | false => exact he
    | true => exact absurd (hq.1 rfl).1 h, hb⟩
theorem light60 {r : List Nd} (hl : r.length ≤ 9223372036854775807) {v : Value} (w : World) (hR : RRow w v r) : Calls Tryd.prog 13 #[v, .int .i64 60] w fun e w' => (∃ b, e = .returned (.bool b) ∧ (b = true → r.length ≤ 60)) ∧ w' = w := light_k 60 (by omega) r v hl w hR
theorem xtext {r x : List Nd} (ok : RxOk r) (okx : RxOk x) (hl : r.length ≤ 60) (hc : codeOf x = codeOf r) (hwx : ∀ y ∈ x, y.Wd) {v : Value} (W : World) (h0 : 0 < W.heap.size) (hT : TabAt W) (hR : RRow W v x) (S : ByteArray) (hS : S = ⟨(textOf r).toArray⟩) :
    Calls Tryd.prog 14 #[v] W fun e w' => e = .returned (.tuple #[.string S, .int .i64 0]) ∧ Below W.heap.size W w' := by
  have hxl : x.length ≤ 60 := by rw [← code_len okx, hc, code_len ok]; exact hl
  have := text_k x okx v W h0 hT hR hwx (if_pos okx) (text_bound okx hxl)
  rw [text_code okx ok hc] at this
  rw [hS]
  exact this
theorem xcheck {x : List Nd} (okx : RxOk x) {v : Value} (W : World) (hR : RRow W v x) : Calls Tryd.prog 10 #[v] W fun e w' => e = .returned (.int .i64 0) ∧ Below W.heap.size W w' := by
  have := check_k x v (by have := okx.most; omega) W hR
  rw [show checkV x = 0 from if_pos okx] at this
  exact this
theorem xleaves {r x : List Nd} (ok : RxOk r) (okx : RxOk x) (hc : codeOf x = codeOf r) {v : Value} (W : World) (hR : RRow W v x) : Calls Tryd.prog 16 #[v] W fun e w' => (∃ v', e = .returned v' ∧ COwn w' W.heap.size v' (leafV r)) ∧ Below W.heap.size W w' := by
  have := leaves_k x okx v W hR
  rw [leaf_code okx ok hc] at this
  exact this
theorem leafV_len {r : List Nd} (ok : RxOk r) : (leafV r).length ≤ 100000 := by
  unfold leafV
  have h1 := List.length_filterMap_le clsC ((preI r ((r.length : Int) - 1)).map (hdAt r))
  rw [List.length_map, pre_len ok] at h1
  have := ok.most
  omega
set_option maxRecDepth 100000 in
set_option maxHeartbeats 8000000 in
theorem back_k (r : List Nd) (v : Value) (hln : r.length ≤ 9223372036854775807) (hwd : ∀ x ∈ r, x.Wd) (w : World) (h0 : 0 < w.heap.size) (hT : TabAt w) (hR : RRow w v r)
    (hliv : ∀ W, Below w.heap.size w W → Calls Tryd.prog 8 #[] W fun e w' => e = .returned (.bool true) ∧ Below W.heap.size W w') :
    Calls Tryd.prog 4 #[v] w fun e w' => e = .returned (.bool true) ∧ Below w.heap.size w w' := by
  have hb0 := Below.refl w.heap.size w
  obtain ⟨la, na, ca, rfl⟩ := hR.form
  have hlt := fun W (hb : Below w.heap.size w W) => light60 hln (v := .slice la na ca) W (hR.below (Nat.le_refl _) hb)
  have hli1 := hliv w hb0
  by_cases hl : r.length ≤ 60
  case neg =>
    go_enter Tryd.func4, Tryd.ntmps4
    go_upto_region 3 with (go_at_call 8; (with_reducible refine hli1.mono ?_); rintro e W1 ⟨rfl, hb1⟩)
    have hlt1 := hlt W1 hb1
    have hne : ∀ b : Bool, (b = true → r.length ≤ 60) → b = false := fun b h => by cases b with | false => rfl | true => exact absurd (h rfl) hl
    clear hlt
    go_wp2_with (go_at_call 13; (with_reducible refine hlt1.mono ?_); rintro e W2 ⟨⟨b, rfl, hb⟩, rfl⟩; obtain rfl := hne b hb)
    exact bodyPost_ret (v := .bool true) (by simp [results, Tryd.results4, go_sem]) rfl ⟨rfl, hb1⟩
  by_cases ok : RxOk r
  case neg =>
    have hcn : checkV r ≠ 0 := fun h => by unfold checkV at h; rw [if_neg ok] at h; cases h
    have hc2 : checkV r = 2 := if_neg ok
    have hte := fun W (hb : Below w.heap.size w W) => text_err r (.slice la na ca) W (by omega) (hR.below (Nat.le_refl _) hb) hcn
    have hck := fun W (hb : Below w.heap.size w W) => check_k r (.slice la na ca) (by omega) W (hR.below (Nat.le_refl _) hb)
    rw [hc2] at hck
    have hsm := fun W (hb : Below w.heap.size w W) => nosame_k ok (by omega) (v := .slice la na ca) W (hR.below (Nat.le_refl _) hb)
    clear hcn hc2 hl ok
    go_enter Tryd.func4, Tryd.ntmps4
    go_upto_region 3 with (go_at_call 8; (with_reducible refine hli1.mono ?_); rintro e W1 ⟨rfl, hb1⟩)
    have hlt1 := hlt W1 hb1
    go_wp2_with (first
      | (go_at_call 13; (with_reducible refine hlt1.mono ?_); rintro e W2 ⟨⟨b, rfl, hb⟩, rfl⟩; clear hb; cases b)
      | (go_at_call 14; (with_reducible refine (hte _ hb1).mono ?_); rintro e W3 ⟨rfl, hb3⟩; have hb4 := hb1.trans (hb3.mono hb1.size))
      | (go_at_call 10; (with_reducible refine (hck _ hb4).mono ?_); rintro e W5 ⟨rfl, hb5⟩; have hb6 := hb4.trans (hb5.mono hb4.size))
      | (go_at_call 11; (with_reducible refine (hsm _ hb6).mono ?_); rintro e W7 ⟨rfl, hb7⟩; have hb8 := hb6.trans (hb7.mono hb6.size)))
    · exact bodyPost_ret (v := .bool true) (by simp [results, Tryd.results4, go_sem]) rfl ⟨rfl, hb1⟩
    · exact bodyPost_ret (v := .bool true) (by simp [results, Tryd.results4, go_sem]) rfl ⟨rfl, hb8⟩
  obtain ⟨S, hS⟩ : ∃ S : ByteArray, S = ⟨(textOf r).toArray⟩ := ⟨_, rfl⟩
  have hT' := fun W (hb : Below w.heap.size w W) => (⟨Nat.lt_of_lt_of_le h0 hb.size, hT.below hb h0⟩ : 0 < W.heap.size ∧ TabAt W)
  have htx := fun W (hb : Below w.heap.size w W) => xtext ok ok hl rfl hwd (v := .slice la na ca) W (hT' W hb).1 (hT' W hb).2 (hR.below (Nat.le_refl _) hb) S hS
  by_cases hlong : 256 < S.size
  case pos =>
    have hrl := fun W => read_long S hlong W
    have hsl : (256 : Int) < (S.size : Int) := by omega
    clear hlong hS hl
    go_enter Tryd.func4, Tryd.ntmps4
    go_upto_region 3 with (go_at_call 8; (with_reducible refine hli1.mono ?_); rintro e W1 ⟨rfl, hb1⟩)
    have hlt1 := hlt W1 hb1
    go_wp2_with (first
      | (go_at_call 13; (with_reducible refine hlt1.mono ?_); rintro e W2 ⟨⟨b, rfl, hb⟩, rfl⟩; clear hb; cases b)
      | (go_at_call 14; (with_reducible refine (htx _ hb1).mono ?_); rintro e W3 ⟨rfl, hb3⟩; have hb4 := hb1.trans (hb3.mono hb1.size))
      | (go_at_call 9; (with_reducible refine (hrl _).mono ?_); rintro e W5 ⟨rfl, rfl⟩))
    · exact bodyPost_ret (v := .bool true) (by simp [results, Tryd.results4, go_sem]) rfl ⟨rfl, hb1⟩
    · exact bodyPost_ret (v := .bool true) (by simp [results, Tryd.results4, go_sem]) rfl ⟨rfl, hb4⟩
  have hrd := fun W => back_read ok hl hwd (by rw [← hS]; omega) W
  rw [← hS] at hrd
  have hsl : ¬ (256 : Int) < (S.size : Int) := by omega
  have HS := Lib.hid hS
  have HL := Lib.hid hl
  have hlv := fun W (hb : Below w.heap.size w W) => xleaves ok ok rfl (v := .slice la na ca) W (hR.below (Nat.le_refl _) hb)
  have HR := Lib.hid hR
  have HT := Lib.hid hT'
  have hll := leafV_len ok
  have hsame := fun v1 v2 b1 b2 W (h1 : COwn W b1 v1 (leafV r)) (h2 : COwn W b2 v2 (leafV r)) => samec_k (leafV r) hll v1 v2 b1 b2 W h1 h2
  clear hlong hS hl hT' hR hll
  go_enter Tryd.func4, Tryd.ntmps4
  go_upto_region 3 with (go_at_call 8; (with_reducible refine hli1.mono ?_); rintro e W1 ⟨rfl, hb1⟩)
  have hlt1 := hlt W1 hb1
  go_wp2_with (first
    | (go_at_call 13; (with_reducible refine hlt1.mono ?_); rintro e W2 ⟨⟨b, rfl, hb⟩, rfl⟩; clear hb; cases b)
    | (go_at_call 14; (with_reducible refine (htx _ hb1).mono ?_); rintro e W3 ⟨rfl, hb3⟩; have hb4 := hb1.trans (hb3.mono hb1.size))
    | (go_at_call 9; (with_reducible refine (hrd _).mono ?_); rintro e W5 ⟨⟨vx, x, rfl, hRx, okx, hcx, hwx⟩, hb5⟩; have hb6 := hb4.trans (hb5.mono hb4.size); obtain ⟨lx, nx, cx, rfl⟩ := hRx.form; have HX := Lib.hid (And.intro okx (And.intro hcx hwx)); clear okx hcx hwx; have hx14 := xtext ok HX.out.1 HL.out HX.out.2.1 HX.out.2.2 (v := .slice lx nx cx) W5 (HT.out _ hb6).1 (HT.out _ hb6).2 hRx S HS.out)
    | (go_at_call 14; (with_reducible refine hx14.mono ?_); rintro e W7 ⟨rfl, hb7⟩; have hb8 := hb6.trans (hb7.mono hb6.size); have hRx8 := hRx.below (Nat.le_refl _) hb7; have hx10 := xcheck HX.out.1 (v := .slice lx nx cx) W7 hRx8)
    | (go_at_call 10; (with_reducible refine hx10.mono ?_); rintro e W9 ⟨rfl, hb9⟩; have hb10 := hb8.trans (hb9.mono hb8.size); have hRx10 := hRx8.below (Nat.le_refl _) hb9; have hx11 := sames_k (va := .slice lx nx cx) (vb := .slice la na ca) (⟨HX.out.1, ok, HX.out.2.1⟩ : SameV x r) W9 hRx10 (HR.out.below (Nat.le_refl _) hb10))
    | (go_at_call 11; (with_reducible refine hx11.mono ?_); rintro e W11 ⟨rfl, hb11⟩; have hb12 := hb10.trans (hb11.mono hb10.size); have hRx12 := hRx10.below (Nat.le_refl _) hb11; have hx16 := xleaves ok HX.out.1 HX.out.2.1 (v := .slice lx nx cx) W11 hRx12)
    | (go_at_call 16; (with_reducible refine hx16.mono ?_); rintro e W13 ⟨⟨v1, rfl, hC1⟩, hb13⟩; have hb14 := hb12.trans (hb13.mono hb12.size); have hr16 := hlv W13 hb14)
    | (go_at_call 16; (with_reducible refine hr16.mono ?_); rintro e W15 ⟨⟨v2, rfl, hC2⟩, hb15⟩; have hb16 := hb14.trans (hb15.mono hb14.size); have hC1' := hC1.below hb15 (Nat.le_refl _); have h15 := hsame v1 v2 _ _ W15 hC1' hC2)
    | (go_at_call 15; (with_reducible refine h15.mono ?_); rintro e W17 ⟨rfl, hb17⟩; have hb18 := hb16.trans (hb17.mono hb16.size)))
  · exact bodyPost_ret (v := .bool true) (by simp [results, Tryd.results4, go_sem]) rfl ⟨rfl, hb1⟩
  · exact bodyPost_ret (v := .bool true) (by simp [results, Tryd.results4, go_sem]) rfl ⟨rfl, hb18⟩
end Go.Proofs.YtpbkgegkjglibaaDoor
