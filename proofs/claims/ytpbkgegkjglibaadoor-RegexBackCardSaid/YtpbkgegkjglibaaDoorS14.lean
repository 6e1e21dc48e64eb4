/- Regex: Same walked. -/
import Derived.Test.YtpbkgegkjglibaaDoorS12
import Derived.Test.YtpbkgegkjglibaaDoorW6
import Derived.Test.YtpbkgegkjglibaaDoorRg7
namespace Go.Proofs.YtpbkgegkjglibaaDoor
open Go Go.Proofs Go.RowKit
attribute [local go_sem] Oper.semAt_some
instance : DecidableEq C4 := fun x y => decidable_of_iff (x.a = y.a ∧ x.b = y.b ∧ x.c = y.c ∧ x.d = y.d) ⟨fun ⟨h0, h1, h2, h3⟩ => by cases x; cases y; simp_all, fun h => by subst h; exact ⟨rfl, rfl, rfl, rfl⟩⟩
instance : DecidableEq Cd := fun x y => decidable_of_iff (x.k = y.k ∧ x.w = y.w ∧ x.n = y.n) ⟨fun ⟨h0, h1, h2⟩ => by cases x; cases y; simp_all, fun h => by subst h; exact ⟨rfl, rfl, rfl⟩⟩
theorem c4_eq (x y : C4) : (((x.a : Int) == (y.a : Int)) && (((x.b : Int) == (y.b : Int)) && (((x.c : Int) == (y.c : Int)) && ((x.d : Int) == (y.d : Int))))) = decide (x = y) := by
  rw [Bool.eq_iff_iff]
  simp only [Bool.and_eq_true, beq_iff_eq, decide_eq_true_eq, Int.natCast_inj]
  exact ⟨fun ⟨h0, h1, h2, h3⟩ => by cases x; cases y; simp_all, fun h => by subst h; exact ⟨rfl, rfl, rfl, rfl⟩⟩
theorem cells36 : Tryd.prog.cellsOf 36 = 1 := by kernel_rfl
theorem info36 : ∃ i, Tryd.prog.info? 36 = some i := Option.isSome_iff_exists.1 (by kernel_rfl)
theorem part36 (x0 x1 x2 x3 : Value) (w : World) : (part 36 #[x0, x1, x2, x3] 0).run Tryd.prog w = .ok x0 w ∧ (part 36 #[x0, x1, x2, x3] 1).run Tryd.prog w = .ok x1 w ∧ (part 36 #[x0, x1, x2, x3] 2).run Tryd.prog w = .ok x2 w ∧ (part 36 #[x0, x1, x2, x3] 3).run Tryd.prog w = .ok x3 w :=
  ⟨by kernel_rfl, by kernel_rfl, by kernel_rfl, by kernel_rfl⟩
theorem eq38 (x y : C4) (w : World) : (Op.equalIn 10000 38 (.agg #[.int .u64 (x.a : Nat), .int .u64 (x.b : Nat), .int .u64 (x.c : Nat), .int .u64 (x.d : Nat)]) (.agg #[.int .u64 (y.a : Nat), .int .u64 (y.b : Nat), .int .u64 (y.c : Nat), .int .u64 (y.d : Nat)])).run Tryd.prog w = .ok (decide (x = y)) w := by
  obtain ⟨i, hi⟩ := info36
  rw [← c4_eq, run_equalIn_array w 9999 _ _ Tryd.underlying38 hi, cells36]
  have px := part36 (.int .u64 (x.a : Nat)) (.int .u64 (x.b : Nat)) (.int .u64 (x.c : Nat)) (.int .u64 (x.d : Nat)) w
  have py := part36 (.int .u64 (y.a : Nat)) (.int .u64 (y.b : Nat)) (.int .u64 (y.c : Nat)) (.int .u64 (y.d : Nat)) w
  obtain ⟨p0, p1, p2, p3⟩ := px
  obtain ⟨q0, q1, q2, q3⟩ := py
  have hr : List.range 4 = [0, 1, 2, 3] := rfl
  have he : ∀ a b : Int, (Op.equalIn 9999 36 (.int .u64 a) (.int .u64 b)).run Tryd.prog w = .ok (a == b) w := fun a b => run_equalIn_int w 9998 36 .u64 .u64 a b Tryd.underlying36
  rw [hr]
  cases h0 : ((x.a : Int) == (y.a : Int)) <;> cases h1 : ((x.b : Int) == (y.b : Int)) <;> cases h2 : ((x.c : Int) == (y.c : Int)) <;> cases h3 : ((x.d : Int) == (y.d : Int)) <;>
    simp only [Op.eqItems, Sem.run_bind, Nat.mul_one, p0, p1, p2, p3, q0, q1, q2, q3, Result.andThen_ok, he, h0, h1, h2, h3, Bool.not_false, Bool.not_true, if_true, if_false, Bool.false_eq_true, Sem.run_pure, Bool.and_true, Bool.and_false]
set_option maxRecDepth 100000 in
set_option maxHeartbeats 4000000 in
theorem eq1_k (Pa Pb : Nat) (a b : List Nd) (i k : Nat) (x y : Nd) (hx : a[i]? = some x) (hy : b[k]? = some y) (hal : a.length ≤ 512) (hbl : b.length ≤ 512) (va vb : Value) (w : World) (hA : Bx w Pa 24 #[va]) (hB : Bx w Pb 24 #[vb]) (hRa : RRow w va a) (hRb : RRow w vb b) :
    Calls Tryd.prog 32 #[.int .i64 i, .int .i64 k, .pointer (some ⟨Pa, 0, none⟩), .pointer (some ⟨Pb, 0, none⟩)] w fun e w' => e = .returned (.bool (decide (hdC x = hdC y))) ∧ Below w.heap.size w w' := by
  obtain ⟨la, ca, rfl, hna, hXa⟩ := hRa
  obtain ⟨lb, cb, rfl, hnb, hXb⟩ := hRb
  have hi := (List.getElem?_eq_some_iff.1 hx).1
  have hk := (List.getElem?_eq_some_iff.1 hy).1
  cases la with
  | none => have := hna rfl; subst this; simp at hi
  | some ada =>
  cases lb with
  | none => have := hnb rfl; subst this; simp at hk
  | some adb =>
  obtain ⟨Ba, oa, rfl, hBa, hXa⟩ := hXa _ rfl (by intro e; subst e; simp at hi)
  obtain ⟨Bb, ob, rfl, hBb, hXb⟩ := hXb _ rfl (by intro e; subst e; simp at hk)
  have xa := hXa i x hx
  have xb := hXb k y hy
  obtain ⟨ka, hka, lka, cka, rfl, _, _⟩ := xa.c5
  obtain ⟨kb, hkb, lkb, ckb, rfl, _, _⟩ := xb.c5
  have p0 : w.cell? ⟨Pa, 0, none⟩ = some (.slice (some ⟨Ba, oa, none⟩) a.length ca) := hA.cell 0
  have q0 : w.cell? ⟨Pb, 0, none⟩ = some (.slice (some ⟨Bb, ob, none⟩) b.length cb) := hB.cell 0
  have P0 := AX.cell_all p0 hA.lt
  have Q0 := AX.cell_all q0 hB.lt
  have A0 := AX.cell_all xa.c0 hBa
  have A1 := AX.cell_all xa.c1 hBa
  have A2 := AX.cell_all xa.c2 hBa
  have A3 := AX.cell_all xa.c3 hBa
  have A4 := AX.cell_all xa.c4 hBa
  have A5 := AX.cell_all hka hBa
  have B0 := AX.cell_all xb.c0 hBb
  have B1 := AX.cell_all xb.c1 hBb
  have B2 := AX.cell_all xb.c2 hBb
  have B3 := AX.cell_all xb.c3 hBb
  have B4 := AX.cell_all xb.c4 hBb
  have B5 := AX.cell_all hkb hBb
  have he := fun w => eq38 ⟨x.a, x.b, x.c, x.d⟩ ⟨y.a, y.b, y.c, y.d⟩ w
  dsimp only at he
  have hi0 : (0 : Int) ≤ (i : Int) := by omega
  have hi1 : (i : Int) < (a.length : Int) := by omega
  have hk0 : (0 : Int) ≤ (k : Int) := by omega
  have hk1 : (k : Int) < (b.length : Int) := by omega
  obtain ⟨cd, hcd⟩ : ∃ cd, cd = decide ((⟨x.a, x.b, x.c, x.d⟩ : C4) = ⟨y.a, y.b, y.c, y.d⟩) := ⟨_, rfl⟩
  rw [← hcd] at he
  have HCD := Lib.hid hcd
  have hiff : (decide (hdC x = hdC y)) = ((x.k == y.k) && (cd && decide (x.kids.length = y.kids.length))) := by
    rw [hcd, Bool.eq_iff_iff]
    simp only [Bool.and_eq_true, beq_iff_eq, decide_eq_true_eq]
    unfold hdC
    rw [Cd.mk.injEq]
  have HIFF := Lib.hid hiff
  have hend : ∀ v : Bool, v = ((x.k == y.k) && (cd && decide (x.kids.length = y.kids.length))) → Hid (v = decide (hdC x = hdC y)) := fun v hv => Lib.hid (by rw [hiff, hv])
  clear hx hy hXa hXb xa xb hka hkb p0 q0 hcd hiff HCD hna hnb HIFF
  cases hq : (x.k == y.k) with
  | false =>
    have HE := hend false (by rw [hq]; rfl)
    go_enter Tryd.func32, Tryd.ntmps32
    go_wp2_with fail
    refine AX.region_below (by kernel_rfl) (by kernel_rfl) ?_
    repeat (go_big_quiet_step (fail))
    repeat (go_big_quiet_step (fail))
    refine wpQuiet_nil ?_
    rintro w' ⟨p, rfl⟩
    go_wp2_with fail
    exact bodyPost_ret (v := .bool false) (by simp [results, Tryd.results32, go_sem]) rfl ⟨by rw [← HE.out], p.h⟩
  | true =>
    cases cd with
    | false =>
      have HE := hend false (by rw [hq]; rfl)
      go_enter Tryd.func32, Tryd.ntmps32
      go_wp2_with fail
      refine AX.region_below (by kernel_rfl) (by kernel_rfl) ?_
      repeat (go_big_quiet_step (fail))
      repeat (go_big_quiet_step (fail))
      refine wpQuiet_nil ?_
      rintro w' ⟨p, rfl⟩
      go_wp2_with fail
      exact bodyPost_ret (v := .bool false) (by simp [results, Tryd.results32, go_sem]) rfl ⟨by rw [← HE.out], p.h⟩
    | true =>
      have HE := hend ((x.kids.length : Int) == (y.kids.length : Int)) (by rw [hq, Bool.eq_iff_iff]; simp; omega)
      go_enter Tryd.func32, Tryd.ntmps32
      go_wp2_with fail
      refine AX.region_below (by kernel_rfl) (by kernel_rfl) ?_
      repeat (go_big_quiet_step (fail))
      refine wpQuiet_nil ?_
      rintro w' ⟨p, rfl⟩
      go_wp2_with fail
      exact bodyPost_ret (v := .bool ((x.kids.length : Int) == (y.kids.length : Int))) (by simp [results, Tryd.results32, go_sem]) rfl ⟨by rw [← HE.out], p.h⟩
theorem hdAt_eq {a : List Nd} {i : Nat} {x : Nd} (hx : a[i]? = some x) : hdAt a (i : Int) = hdC x := by
  unfold hdAt
  rw [List.getD_eq_getElem?_getD, Int.toNat_natCast, hx]
  rfl
theorem RRow.low {w w' : World} {v : Value} {r : List Nd} {n : Nat} (h : RRow w v r) (hb : Below n w w') (hn : w.heap.size ≤ n) : RRow w' v r := h.below hn hb
set_option maxRecDepth 100000 in
set_option maxHeartbeats 4000000 in
theorem equal_k (Pa Pb : Nat) (a b : List Nd) (l1 l2 : List Int) (h1 : ∀ j ∈ l1, 0 ≤ j ∧ j < a.length) (h2 : ∀ j ∈ l2, 0 ≤ j ∧ j < b.length) (hal : a.length ≤ 512) (hbl : b.length ≤ 512) (hl1 : l1.length ≤ 512) (_hl2 : l2.length ≤ 512) (va vb v1 v2 : Value) (w : World)
    (hA : Bx w Pa 24 #[va]) (hB : Bx w Pb 24 #[vb]) (hRa : RRow w va a) (hRb : RRow w vb b) (hI1 : IRd w v1 l1) (hI2 : IRd w v2 l2) :
    Calls Tryd.prog 30 #[v1, v2, .func (.func 32) #[] #[.pointer (some ⟨Pa, 0, none⟩), .pointer (some ⟨Pb, 0, none⟩)]] w fun e w' => e = .returned (.bool (decide (l1.map (hdAt a) = l2.map (hdAt b)))) ∧ Below w.heap.size w w' := by
  obtain ⟨la1, c1, rfl, hn1, hX1⟩ := hI1
  obtain ⟨la2, c2, rfl, hn2, hX2⟩ := hI2
  obtain ⟨res, hres⟩ : ∃ res, res = decide (l1.map (hdAt a) = l2.map (hdAt b)) := ⟨_, rfl⟩
  rw [← hres]
  have HRES := Lib.hid hres
  by_cases hlen : l1.length = l2.length
  · obtain ⟨n, hn⟩ : ∃ n, n = l1.length := ⟨_, rfl⟩
    have hn' : n = l2.length := by rw [hn, hlen]
    rw [← hn, ← hn']
    rw [← hn] at hl1
    have HN := Lib.hid hn
    have HN2 := Lib.hid hn'
    clear hres hlen _hl2 hn hn'
    go_enter Tryd.func30, Tryd.ntmps30
    go_wp2_with fail
    go_loopw [17] (fun t17 wr => ∃ i : Nat, i ≤ n ∧ t17 = .int .i64 i ∧ Below w.heap.size w wr ∧ Hid ((l1.take i).map (hdAt a) = (l2.take i).map (hdAt b)))
      (fun t17 _ => n - (intOf t17).toNat)
    case atStart => exact ⟨0, Nat.zero_le _, rfl, Below.refl _ _, Lib.hid rfl⟩
    case round =>
      obtain ⟨i, hi, rfl, hbr, HE⟩ := hrel
      by_cases hlt : i < n
      · obtain ⟨j, hj⟩ : ∃ j, l1[i]? = some j := ⟨_, List.getElem?_eq_getElem (by rw [← HN.out]; exact hlt)⟩
        obtain ⟨q, hq⟩ : ∃ q, l2[i]? = some q := ⟨_, List.getElem?_eq_getElem (by rw [← HN2.out]; exact hlt)⟩
        have hjb := h1 j (List.mem_of_getElem? hj)
        have hqb := h2 q (List.mem_of_getElem? hq)
        cases la1 with
        | none => have := hn1 rfl; subst this; simp at hj
        | some ad1 =>
        cases la2 with
        | none => have := hn2 rfl; subst this; simp at hq
        | some ad2 =>
        obtain ⟨B1, o1, rfl, hB1, hc1⟩ := hX1 _ rfl (by intro e; subst e; simp at hj)
        obtain ⟨B2, o2, rfl, hB2, hc2⟩ := hX2 _ rfl (by intro e; subst e; simp at hq)
        obtain ⟨ji, rfl⟩ : ∃ ji : Nat, j = (ji : Int) := ⟨j.toNat, by omega⟩
        obtain ⟨qi, rfl⟩ : ∃ qi : Nat, q = (qi : Int) := ⟨q.toNat, by omega⟩
        obtain ⟨x, hx⟩ : ∃ x, a[ji]? = some x := ⟨_, List.getElem?_eq_getElem (by omega)⟩
        obtain ⟨y, hy⟩ : ∃ y, b[qi]? = some y := ⟨_, List.getElem?_eq_getElem (by omega)⟩
        have hk := eq1_k Pa Pb a b ji qi x y hx hy hal hbl va vb wr (hA.below hbr hA.lt) (hB.below hbr hB.lt) (hRa.below (Nat.le_refl _) hbr) (hRb.below (Nat.le_refl _) hbr)
        have d1 := (hbr.cell (p := ⟨B1, o1 + i, none⟩) hB1).trans (hc1 i _ hj)
        have d2 := (hbr.cell (p := ⟨B2, o2 + i, none⟩) hB2).trans (hc2 i _ hq)
        have hw1 : B1 < wr.heap.size := Nat.lt_of_lt_of_le hB1 hbr.size
        have hw2 : B2 < wr.heap.size := Nat.lt_of_lt_of_le hB2 hbr.size
        have hi0 : (0 : Int) ≤ (i : Int) := by omega
        have hi1 : (i : Int) < (n : Int) := by omega
        have HT1 : Hid ((l1.take (i + 1)).map (hdAt a) = (l1.take i).map (hdAt a) ++ [hdC x]) := Lib.hid (by rw [List.take_add_one, hj, List.map_append, ← hdAt_eq hx]; rfl)
        have HT2 : Hid ((l2.take (i + 1)).map (hdAt b) = (l2.take i).map (hdAt b) ++ [hdC y]) := Lib.hid (by rw [List.take_add_one, hq, List.map_append, ← hdAt_eq hy]; rfl)
        have HNE : Hid (hdC x ≠ hdC y → res = false) := Lib.hid fun hne => by
          rw [HRES.out, decide_eq_false_iff_not]
          intro e
          have e1 := congrArg (fun l => l[i]?) e
          simp only [List.getElem?_map, hj, hq, Option.map_some, hdAt_eq hx, hdAt_eq hy, Option.some.injEq] at e1
          exact hne e1
        obtain ⟨eqb, heqb⟩ : ∃ eqb, eqb = decide (hdC x = hdC y) := ⟨_, rfl⟩
        rw [← heqb] at hk
        have HEQ := Lib.hid heqb
        clear hj hq hc1 hc2 hX1 hX2 hx hy heqb hn1 hn2 hjb hqb
        cases eqb with
        | true =>
          have hxy := of_decide_eq_true HEQ.out.symm
          have HXY := Lib.hid hxy
          clear hxy
          go_wp2_with (go_at_call 32; (with_reducible refine hk.mono ?_); rintro e W2 ⟨rfl, hb2⟩)
          have hb3 := hbr.trans (hb2.mono hbr.size)
          go_roundw
          case rel => exact ⟨i + 1, by omega, by simp, hb3, Lib.hid (by rw [HT1.out, HT2.out, HE.out, HXY.out])⟩
          case measure => simp [intOf]; omega
        | false =>
          have hxy := HNE.out (of_decide_eq_false HEQ.out.symm)
          subst hxy
          go_wp2_with (go_at_call 32; (with_reducible refine hk.mono ?_); rintro e W2 ⟨rfl, hb2⟩)
          exact bodyPost_ret (v := .bool false) (by simp [results, Tryd.results30, go_sem]) rfl ⟨rfl, hbr.trans (hb2.mono hbr.size)⟩
      · obtain rfl : i = n := by omega
        have hr : res = true := by
          rw [HRES.out, decide_eq_true_eq]
          have := HE.out
          rwa [HN.out, List.take_length, ← HN.out, HN2.out, List.take_length] at this
        subst hr
        go_wp2_with fail
        exact bodyPost_ret (v := .bool true) (by simp [results, Tryd.results30, go_sem]) rfl ⟨rfl, hbr⟩
  · have hr : res = false := by
      rw [HRES.out, decide_eq_false_iff_not]
      intro e
      have := congrArg List.length e
      simp at this
      exact hlen this
    subst hr
    have hne : ¬ ((l1.length : Int) = (l2.length : Int)) := by omega
    have hnb : ((l1.length : Int) != (l2.length : Int)) = true := by simp; omega
    go_enter Tryd.func30, Tryd.ntmps30
    go_wp2_with fail
    exact bodyPost_ret (v := .bool false) (by simp [results, Tryd.results30, go_sem]) rfl ⟨rfl, Below.refl _ _⟩
end Go.Proofs.YtpbkgegkjglibaaDoor

namespace Go.Proofs.YtpbkgegkjglibaaDoor
open Go Go.Proofs Go.RowKit
attribute [local go_sem] Oper.semAt_some
def plan11_3 : AX.Plan := .plain 0 (.plain 2 (.two 1 (.two 3 (.one 4 (.one 5 (.plain 6 (.nil)))) 4 (.one 3 (.one 5 (.plain 6 (.nil))))) 4 (.one 1 (.one 3 (.one 5 (.plain 6 (.nil)))))))
def inf11_3 : List AX.Inf := [⟨0, 8192, 4, true⟩, ⟨1, 16384, 8192, false⟩, ⟨0, 32768, 8, true⟩, ⟨6, 65536, 32768, false⟩, ⟨0, 131072, 12, false⟩, ⟨26, 262144, 212992, false⟩, ⟨63, 16, 262144, true⟩]
theorem fit11_3 : AX.planF inf11_3 plan11_3 0 7 = true := by kernel_rfl
theorem check_cases (r : List Nd) : (RxOk r ∧ checkV r = 0) ∨ (¬ RxOk r ∧ checkV r = 2) := by
  unfold checkV
  by_cases h : RxOk r
  · exact .inl ⟨h, if_pos h⟩
  · exact .inr ⟨h, if_neg h⟩
set_option maxRecDepth 100000 in
set_option maxHeartbeats 4000000 in
theorem same_k (a b : List Nd) (va vb : Value) (hal : a.length ≤ 1000000) (hbl : b.length ≤ 1000000) (w : World) (hRa : RRow w va a) (hRb : RRow w vb b) :
    Calls Tryd.prog 11 #[va, vb] w fun e w' => (∃ q : Bool, e = .returned (.bool q) ∧ (q = true ↔ SameV a b)) ∧ Below w.heap.size w w' := by
  obtain ⟨la, ca, hva⟩ : ∃ la ca, va = .slice la a.length ca := by obtain ⟨la, c, e, _⟩ := hRa; exact ⟨la, c, e⟩
  obtain ⟨lb, cb, hvb⟩ : ∃ lb cb, vb = .slice lb b.length cb := by obtain ⟨lb, c, e, _⟩ := hRb; exact ⟨lb, c, e⟩
  subst hva
  subst hvb
  obtain ⟨Pa, hPa⟩ : ∃ Pa, Pa = w.heap.size := ⟨_, rfl⟩
  obtain ⟨W0, hW0⟩ : ∃ W0, W0 = (w.alloc (.cells #[.slice la a.length ca] 24)).alloc (.cells #[.slice lb b.length cb] 24) := ⟨_, rfl⟩
  have hb1 := (Below.refl w.heap.size w).alloc (Nat.le_refl _) (.cells #[.slice la a.length ca] 24)
  have hz1 : (w.alloc (.cells #[.slice la a.length ca] 24)).heap.size = Pa + 1 := by rw [hPa]; simp
  have hb2 := (Below.refl (Pa + 1) (w.alloc (.cells #[.slice la a.length ca] 24))).alloc (by omega) (.cells #[.slice lb b.length cb] 24)
  have hA0 : Bx W0 Pa 24 #[.slice la a.length ca] := by
    rw [hW0]
    exact (Bx.new w 24 #[.slice la a.length ca] |> fun h => (hPa ▸ h : Bx (w.alloc (.cells #[.slice la a.length ca] 24)) Pa 24 #[.slice la a.length ca])).below hb2 (Nat.lt_succ_self _)
  have hB0 : Bx W0 (Pa + 1) 24 #[.slice lb b.length cb] := by
    rw [hW0, ← hz1]
    exact Bx.new _ 24 #[.slice lb b.length cb]
  have hb0 : Below w.heap.size w W0 := by rw [hW0]; exact hb1.trans (hb2.mono (by omega))
  have hRa0 := hRa.below (Nat.le_refl _) hb0
  have hRb0 := hRb.below (Nat.le_refl _) hb0
  have p00 : W0.cell? ⟨Pa, 0, none⟩ = some (.slice la a.length ca) := hA0.cell 0
  have HPA := Lib.hid hPa
  have HW0 := Lib.hid hW0
  clear hb1 hb2 hz1 hPa hW0 hRa hRb
  have hca := fun W (h : RRow W (.slice la a.length ca) a) => check_k a (.slice la a.length ca) hal W h
  have hcb := fun W (h : RRow W (.slice lb b.length cb) b) => check_k b (.slice lb b.length cb) hbl W h
  rcases check_cases a with ⟨oka, ea⟩ | ⟨noa, ea⟩
  · rw [ea] at hca
    rcases check_cases b with ⟨okb, eb⟩ | ⟨nob, eb⟩
    · rw [eb] at hcb
      have hq0 : decide ((preI a ((a.length : Int) - 1)).map (hdAt a) = (preI b ((b.length : Int) - 1)).map (hdAt b)) = true ↔ SameV a b := by
        have e1 : (preI a ((a.length : Int) - 1)).map (hdAt a) = codeOf a := by
          have h1 := oka.one
          have := pre_code oka.nd a.length (a.length - 1) (by omega) (by omega)
          unfold codeOf
          rw [show ((a.length : Int) - 1) = ((a.length - 1 : Nat) : Int) by omega]
          exact this
        have e2 : (preI b ((b.length : Int) - 1)).map (hdAt b) = codeOf b := by
          have h1 := okb.one
          have := pre_code okb.nd b.length (b.length - 1) (by omega) (by omega)
          unfold codeOf
          rw [show ((b.length : Int) - 1) = ((b.length - 1 : Nat) : Int) by omega]
          exact this
        rw [e1, e2, decide_eq_true_eq]
        exact ⟨fun h => ⟨oka, okb, h⟩, fun h => h.2.2⟩
      have HQ := Lib.hid hq0
      go_enter Tryd.func11, Tryd.ntmps11
      go_upto_region 1 with (fail)
      rw [← HPA.out, ← HW0.out]
      go_upto_region 3 with (go_at_call 10; first
        | ((with_reducible refine (hca _ hRa0).mono ?_); rintro x W1 ⟨rfl, hc1⟩; have hA1 := hA0.below hc1 hA0.lt; have hB1 := hB0.below hc1 hB0.lt; have hRa1 := hRa0.below (Nat.le_refl _) hc1; have hRb1 := hRb0.below (Nat.le_refl _) hc1; have hb11 := hb0.trans (hc1.mono hb0.size); have p0 : W1.cell? ⟨Pa, 0, none⟩ = some (.slice la a.length ca) := hA1.cell 0; have q0 : W1.cell? ⟨Pa + 1, 0, none⟩ = some (.slice lb b.length cb) := hB1.cell 0)
        | ((with_reducible refine (hcb _ hRb1).mono ?_); rintro x W2 ⟨rfl, hc2⟩))
      have hA2 := hA1.below hc2 hA1.lt
      have hB2 := hB1.below hc2 hB1.lt
      have hRa2 := hRa1.below (Nat.le_refl _) hc2
      have hRb2 := hRb1.below (Nat.le_refl _) hc2
      have hb01 : Below w.heap.size w W2 := hb11.trans (hc2.mono hb11.size)
      have P0 : ∀ p : AX.BW W2, p.W.cell? ⟨Pa, 0, none⟩ = some (.slice la a.length ca) := AX.cell_all (hA2.cell 0) hA2.lt
      have Q0 : ∀ p : AX.BW W2, p.W.cell? ⟨Pa + 1, 0, none⟩ = some (.slice lb b.length cb) := AX.cell_all (hB2.cell 0) hB2.lt
      have horda := fun W (hb : Below W2.heap.size W2 W) => order_k a oka (.slice la a.length ca) W (hRa2.below (Nat.le_refl _) hb)
      have hordb := fun W (hb : Below W2.heap.size W2 W) => order_k b okb (.slice lb b.length cb) W (hRb2.below (Nat.le_refl _) hb)
      have ma : ∀ j ∈ preI a ((a.length : Int) - 1), 0 ≤ j ∧ j < a.length := by
        have h1 := oka.one
        rw [show ((a.length : Int) - 1) = ((a.length - 1 : Nat) : Int) by omega]
        exact pre_mem oka.nd a.length (a.length - 1) (by omega) (by omega)
      have mb : ∀ j ∈ preI b ((b.length : Int) - 1), 0 ≤ j ∧ j < b.length := by
        have h1 := okb.one
        rw [show ((b.length : Int) - 1) = ((b.length - 1 : Nat) : Int) by omega]
        exact pre_mem okb.nd b.length (b.length - 1) (by omega) (by omega)
      have heq := fun W (hb : Below W2.heap.size W2 W) v1 v2 (h1 : IRd W v1 (preI a ((a.length : Int) - 1))) (h2 : IRd W v2 (preI b ((b.length : Int) - 1))) => equal_k Pa (Pa + 1) a b _ _ ma mb oka.most okb.most (by rw [pre_len oka]; exact oka.most) (by rw [pre_len okb]; exact okb.most) (.slice la a.length ca) (.slice lb b.length cb) v1 v2 W (hA2.below hb hA2.lt) (hB2.below hb hB2.lt) (hRa2.below (Nat.le_refl _) hb) (hRb2.below (Nat.le_refl _) hb) h1 h2
      have hW : Below W2.heap.size W2 W2.drew := (Below.refl _ W2).drew
      clear hq0 oka okb ea eb hca hcb ma mb p0 q0 p00
      refine AX.region_tree (C := fun W => ∃ p : AX.BW W2, W = p.W) plan11_3 inf11_3 (by kernel_rfl) (by kernel_rfl) (by kernel_rfl) fit11_3 (by intro c a d v w h; cases d <;> exact h) ⟨⟨W2.drew, hW⟩, rfl⟩ ?_
      unfold plan11_3
      generalize W2.drew = Wd at *
      repeat (refine AX.tree_plain _ (by rfl) ?_; go_big_quiet_step (fail); refine wpQuiet_nil ?_)
      refine ⟨?_, ?_⟩
      · refine AX.tree_call (horda _ hW) (by rfl) (by rfl) (by rfl) Tryd.func31 (by kernel_rfl) (by rfl) (by simp only [List.map_toArray, List.map_cons, List.map_nil]; rfl) ?_
        rintro e W7 ⟨⟨v1, rfl, hi1⟩, hb2⟩
        have hW7 : Below W2.heap.size W2 W7 := hW.trans (hb2.mono hW.size)
        refine ⟨_, rfl, ⟨⟨W7, hW7⟩, rfl⟩, ?_⟩
        simp only [Act.put, List.setIfInBounds_toArray, List.set_cons_succ, List.set_cons_zero]
        refine ⟨?_, ?_⟩
        · refine AX.tree_call (hordb _ hW7) (by rfl) (by rfl) (by rfl) Tryd.func31 (by kernel_rfl) (by rfl) (by simp only [List.map_toArray, List.map_cons, List.map_nil]; rfl) ?_
          rintro e W8 ⟨⟨v2, rfl, hi2⟩, hb3⟩
          have hW8 : Below W2.heap.size W2 W8 := hW7.trans (hb3.mono hW7.size)
          have hi1' := hi1.below (Nat.le_refl _) hb3
          refine ⟨_, rfl, ⟨⟨W8, hW8⟩, rfl⟩, ?_⟩
          simp only [Act.put, List.setIfInBounds_toArray, List.set_cons_succ, List.set_cons_zero]
          refine AX.tree_op _ (by rfl) (by rfl) ?_
          unfold Oper.wp
          go_simp
          refine ⟨⟨⟨_, hW8⟩, rfl⟩, ?_⟩
          refine AX.tree_call (heq _ hW8 v1 v2 hi1' hi2) (by rfl) (by rfl) (by rfl) Tryd.func30 (by kernel_rfl) (by rfl) (by simp only [List.map_toArray, List.map_cons, List.map_nil]; rfl) ?_
          rintro e W9 ⟨rfl, hb5⟩
          have hW9 : Below W2.heap.size W2 W9 := hW8.trans (hb5.mono hW8.size)
          refine ⟨_, rfl, ⟨⟨W9, hW9⟩, rfl⟩, ?_⟩
          simp only [Act.put, List.setIfInBounds_toArray, List.set_cons_succ, List.set_cons_zero]
          refine AX.tree_plain _ (by rfl) ?_; go_big_quiet_step (fail); refine wpQuiet_nil ?_
          unfold AX.wpTree
          go_wp2_with fail
          exact bodyPost_ret (v := .bool (decide ((preI a ((a.length : Int) - 1)).map (hdAt a) = (preI b ((b.length : Int) - 1)).map (hdAt b)))) (by simp [results, Tryd.results11, go_sem]) rfl ⟨⟨_, rfl, HQ.out⟩, hb01.trans (hW9.mono hb01.size)⟩
        · refine AX.tree_op _ (by rfl) (by rfl) ?_
          unfold Oper.wp
          go_simp
          refine ⟨⟨⟨_, hW7⟩, rfl⟩, ?_⟩
          refine AX.tree_call (hordb _ hW7) (by rfl) (by rfl) (by rfl) Tryd.func31 (by kernel_rfl) (by rfl) (by simp only [List.map_toArray, List.map_cons, List.map_nil]; rfl) ?_
          rintro e W8 ⟨⟨v2, rfl, hi2⟩, hb3⟩
          have hW8 : Below W2.heap.size W2 W8 := hW7.trans (hb3.mono hW7.size)
          have hi1' := hi1.below (Nat.le_refl _) hb3
          refine ⟨_, rfl, ⟨⟨W8, hW8⟩, rfl⟩, ?_⟩
          simp only [Act.put, List.setIfInBounds_toArray, List.set_cons_succ, List.set_cons_zero]
          refine AX.tree_call (heq _ hW8 v1 v2 hi1' hi2) (by rfl) (by rfl) (by rfl) Tryd.func30 (by kernel_rfl) (by rfl) (by simp only [List.map_toArray, List.map_cons, List.map_nil]; rfl) ?_
          rintro e W9 ⟨rfl, hb5⟩
          have hW9 : Below W2.heap.size W2 W9 := hW8.trans (hb5.mono hW8.size)
          refine ⟨_, rfl, ⟨⟨W9, hW9⟩, rfl⟩, ?_⟩
          simp only [Act.put, List.setIfInBounds_toArray, List.set_cons_succ, List.set_cons_zero]
          refine AX.tree_plain _ (by rfl) ?_; go_big_quiet_step (fail); refine wpQuiet_nil ?_
          unfold AX.wpTree
          go_wp2_with fail
          exact bodyPost_ret (v := .bool (decide ((preI a ((a.length : Int) - 1)).map (hdAt a) = (preI b ((b.length : Int) - 1)).map (hdAt b)))) (by simp [results, Tryd.results11, go_sem]) rfl ⟨⟨_, rfl, HQ.out⟩, hb01.trans (hW9.mono hb01.size)⟩
      · refine AX.tree_op _ (by rfl) (by rfl) ?_
        unfold Oper.wp
        go_simp
        refine ⟨⟨⟨_, hW⟩, rfl⟩, ?_⟩
        refine AX.tree_call (horda _ hW) (by rfl) (by rfl) (by rfl) Tryd.func31 (by kernel_rfl) (by rfl) (by simp only [List.map_toArray, List.map_cons, List.map_nil]; rfl) ?_
        rintro e W7 ⟨⟨v1, rfl, hi1⟩, hb2⟩
        have hW7 : Below W2.heap.size W2 W7 := hW.trans (hb2.mono hW.size)
        refine ⟨_, rfl, ⟨⟨W7, hW7⟩, rfl⟩, ?_⟩
        simp only [Act.put, List.setIfInBounds_toArray, List.set_cons_succ, List.set_cons_zero]
        refine AX.tree_call (hordb _ hW7) (by rfl) (by rfl) (by rfl) Tryd.func31 (by kernel_rfl) (by rfl) (by simp only [List.map_toArray, List.map_cons, List.map_nil]; rfl) ?_
        rintro e W8 ⟨⟨v2, rfl, hi2⟩, hb3⟩
        have hW8 : Below W2.heap.size W2 W8 := hW7.trans (hb3.mono hW7.size)
        have hi1' := hi1.below (Nat.le_refl _) hb3
        refine ⟨_, rfl, ⟨⟨W8, hW8⟩, rfl⟩, ?_⟩
        simp only [Act.put, List.setIfInBounds_toArray, List.set_cons_succ, List.set_cons_zero]
        refine AX.tree_call (heq _ hW8 v1 v2 hi1' hi2) (by rfl) (by rfl) (by rfl) Tryd.func30 (by kernel_rfl) (by rfl) (by simp only [List.map_toArray, List.map_cons, List.map_nil]; rfl) ?_
        rintro e W9 ⟨rfl, hb5⟩
        have hW9 : Below W2.heap.size W2 W9 := hW8.trans (hb5.mono hW8.size)
        refine ⟨_, rfl, ⟨⟨W9, hW9⟩, rfl⟩, ?_⟩
        simp only [Act.put, List.setIfInBounds_toArray, List.set_cons_succ, List.set_cons_zero]
        refine AX.tree_plain _ (by rfl) ?_; go_big_quiet_step (fail); refine wpQuiet_nil ?_
        unfold AX.wpTree
        go_wp2_with fail
        exact bodyPost_ret (v := .bool (decide ((preI a ((a.length : Int) - 1)).map (hdAt a) = (preI b ((b.length : Int) - 1)).map (hdAt b)))) (by simp [results, Tryd.results11, go_sem]) rfl ⟨⟨_, rfl, HQ.out⟩, hb01.trans (hW9.mono hb01.size)⟩
    · rw [eb] at hcb
      have hno : Hid ((false = true) ↔ SameV a b) := Lib.hid ⟨fun h => (by cases h), fun h => absurd h.2.1 nob⟩
      go_enter Tryd.func11, Tryd.ntmps11
      go_upto_region 1 with (fail)
      rw [← HPA.out, ← HW0.out]
      go_wp2_with (go_at_call 10; first
        | ((with_reducible refine (hca _ hRa0).mono ?_); rintro x W1 ⟨rfl, hc1⟩; have hB1 := hB0.below hc1 hB0.lt; have hRb1 := hRb0.below (Nat.le_refl _) hc1; have hb11 := hb0.trans (hc1.mono hb0.size); have q0 : W1.cell? ⟨Pa + 1, 0, none⟩ = some (.slice lb b.length cb) := hB1.cell 0)
        | ((with_reducible refine (hcb _ hRb1).mono ?_); rintro x W2 ⟨rfl, hc2⟩))
      exact bodyPost_ret (v := .bool false) (by simp [results, Tryd.results11, go_sem]) rfl ⟨⟨_, rfl, hno.out⟩, hb11.trans (hc2.mono hb11.size)⟩
  · rw [ea] at hca
    have hno : Hid ((false = true) ↔ SameV a b) := Lib.hid ⟨fun h => (by cases h), fun h => absurd h.1 noa⟩
    go_enter Tryd.func11, Tryd.ntmps11
    go_upto_region 1 with (fail)
    rw [← HPA.out, ← HW0.out]
    go_wp2_with (go_at_call 10; (with_reducible refine (hca _ hRa0).mono ?_); rintro x W1 ⟨rfl, hc1⟩)
    exact bodyPost_ret (v := .bool false) (by simp [results, Tryd.results11, go_sem]) rfl ⟨⟨_, rfl, hno.out⟩, hb0.trans (hc1.mono hb0.size)⟩
end Go.Proofs.YtpbkgegkjglibaaDoor
