/- Regex: the reader: class. -/
import Derived.Test.YtpbkgegkjglibaaDoorR4
import Derived.Test.YtpbkgegkjglibaaDoorR8
import Derived.Test.YtpbkgegkjglibaaDoorSt4
import Derived.Test.YtpbkgegkjglibaaDoorW8
namespace Go.Proofs.YtpbkgegkjglibaaDoor
open Go
/-- A class: four words. -/
structure C4 where
  a : Nat
  b : Nat
  c : Nat
  d : Nat
def C4.zero : C4 := ⟨0, 0, 0, 0⟩
def C4.v (x : C4) : Value := .agg #[.int .u64 x.a, .int .u64 x.b, .int .u64 x.c, .int .u64 x.d]
structure C4.Wd (x : C4) : Prop where
  a : x.a < 18446744073709551616
  b : x.b < 18446744073709551616
  c : x.c < 18446744073709551616
  d : x.d < 18446744073709551616
theorem C4.wd_zero : C4.zero.Wd := ⟨by decide, by decide, by decide, by decide⟩
end Go.Proofs.YtpbkgegkjglibaaDoor

namespace Go.Proofs.YtpbkgegkjglibaaDoor
open Go
/-- A byte, a place within the text, an error; what is read without one goes on. -/
def Out3 (s : ByteArray) (a : Nat) (x : Int × Int × Int) : Prop := ∃ (v k : Nat) (e : Int), x = ((v : Int), (k : Int), e) ∧ v < 256 ∧ k ≤ s.size ∧ (e = 0 → a < k)
theorem byteI_nat (s : ByteArray) (k : Nat) : ∃ v : Nat, byteI s k = (v : Int) ∧ v < 256 := by
  unfold byteI
  split
  · exact ⟨_, rfl, UInt8.toNat_lt _⟩
  · exact ⟨0, rfl, by decide⟩
theorem wrap_u8_nat (n : Int) : ∃ v : Nat, IntKind.u8.wrap n = (v : Int) ∧ v < 256 := by
  rw [IntKind.wrap_u8]
  exact ⟨(n % 256).toNat, by omega, by omega⟩
theorem digits_out (s : ByteArray) (a : Nat) (_ha : a < s.size) : Out3 s a (digitsV s a 0) := by
  unfold digitsV failV
  obtain ⟨v, hv, hv2⟩ := wrap_u8_nat (16 * hx s (a + 1) + hx s (a + 2))
  rw [hv]
  split
  · exact ⟨0, s.size, 8, rfl, by decide, Nat.le_refl _, fun h => by cases h⟩
  · split
    · exact ⟨0, a + 1, 7, rfl, by decide, by omega, fun h => by cases h⟩
    · split
      · exact ⟨0, s.size, 8, rfl, by decide, Nat.le_refl _, fun h => by cases h⟩
      · split
        · exact ⟨0, a + 2, 7, rfl, by decide, by omega, fun h => by cases h⟩
        · exact ⟨v, a + 3, 0, rfl, hv2, by omega, fun _ => by omega⟩
theorem escC_nat (c : Nat) (hc : c < 256) : ∃ v : Nat, escC (c : Int) = (v : Int) ∧ v < 256 := by
  unfold escC
  split
  · exact ⟨10, rfl, by decide⟩
  · split
    · exact ⟨9, rfl, by decide⟩
    · split
      · exact ⟨13, rfl, by decide⟩
      · exact ⟨c, rfl, hc⟩
theorem escape_out (s : ByteArray) (a : Nat) (ha : a ≤ s.size) : Out3 s a (escapeV s a 0) := by
  unfold escapeV
  obtain ⟨c, hc, hc2⟩ := byteI_nat s a
  obtain ⟨v, hv, hv2⟩ := escC_nat c hc2
  split
  · exact ⟨0, s.size, 8, rfl, by decide, Nat.le_refl _, fun h => by cases h⟩
  · rename_i hm
    have hal : a < s.size := by
      simp [moreV] at hm
      omega
    split
    · exact digits_out s a hal
    · split
      · exact ⟨0, a, 7, rfl, by decide, ha, fun h => by cases h⟩
      · rw [hc, hv]
        exact ⟨v, a + 1, 0, rfl, hv2, by omega, fun _ => by omega⟩
theorem one_out (s : ByteArray) (a : Nat) (ha : a < s.size) : Out3 s a (oneV s a 0) := by
  unfold oneV
  split
  · obtain ⟨v, k, e, h1, h2, h3, h4⟩ := escape_out s (a + 1) (by omega)
    exact ⟨v, k, e, h1, h2, h3, fun h => by have := h4 h; omega⟩
  · obtain ⟨c, hc, hc2⟩ := byteI_nat s a
    rw [hc]
    exact ⟨c, a + 1, 0, rfl, hc2, by omega, fun _ => by omega⟩
end Go.Proofs.YtpbkgegkjglibaaDoor

namespace Go.Proofs.YtpbkgegkjglibaaDoor
open Go
def C4.ofL (l : List Nat) : C4 := ⟨cw l 0, cw l 1, cw l 2, cw l 3⟩
def C4.or (x y : C4) : C4 := ⟨x.a ||| y.a, x.b ||| y.b, x.c ||| y.c, x.d ||| y.d⟩
def C4.not (x : C4) : C4 := ⟨nw x.a, nw x.b, nw x.c, nw x.d⟩
theorem C4.wd_ofL (l : List Nat) : (C4.ofL l).Wd := ⟨cw_lt _ _, cw_lt _ _, cw_lt _ _, cw_lt _ _⟩
theorem C4.Wd.or {x y : C4} (h : x.Wd) (g : y.Wd) : (x.or y).Wd :=
  ⟨Nat.or_lt_two_pow (n := 64) h.a g.a, Nat.or_lt_two_pow (n := 64) h.b g.b, Nat.or_lt_two_pow (n := 64) h.c g.c, Nat.or_lt_two_pow (n := 64) h.d g.d⟩
theorem C4.Wd.not {x : C4} (h : x.Wd) : x.not.Wd := ⟨nw_lt _ h.a, nw_lt _ h.b, nw_lt _ h.c, nw_lt _ h.d⟩
/-- Low, high, the place behind, the error. -/
def clsPair (s : ByteArray) (a : Nat) : Nat × Nat × Nat × Int :=
  let x := oneV s a 0
  let l := x.1.toNat
  let k := x.2.1.toNat
  if x.2.2 = 0 ∧ k + 1 < s.size ∧ byteI s k = 45 ∧ byteI s (k + 1) ≠ 93 then
    let y := oneV s (k + 1) 0
    if y.2.2 = 0 ∧ y.1.toNat < l then (l, y.1.toNat, k + 1, 7) else (l, y.1.toNat, y.2.1.toNat, y.2.2)
  else (l, l, k, x.2.2)
/-- The loop: place, error, the four words. -/
def clsL (s : ByteArray) : Nat → Nat → Int → C4 → Nat × Int × C4
  | 0, a, e, W => (a, e, W)
  | n + 1, a, e, W =>
    if moreV s.size a e = true ∧ byteI s a ≠ 93 then
      clsL s n (clsPair s a).2.2.1 (clsPair s a).2.2.2 (W.or (.ofL (rng (clsPair s a).1 (clsPair s a).2.1)))
    else (a, e, W)
theorem pair_out (s : ByteArray) (a : Nat) (ha : a < s.size) : (clsPair s a).1 < 256 ∧ (clsPair s a).2.1 < 256 ∧ (clsPair s a).2.2.1 ≤ s.size ∧ ((clsPair s a).2.2.2 = 0 → a < (clsPair s a).2.2.1) := by
  obtain ⟨v, k, e, h1, h2, h3, h4⟩ := one_out s a ha
  unfold clsPair
  simp only [h1, Int.toNat_natCast]
  split
  · rename_i hc
    obtain ⟨u, j, f, g1, g2, g3, g4⟩ := one_out s (k + 1) hc.2.1
    have hak := h4 hc.1
    simp only [g1, Int.toNat_natCast]
    split
    · exact ⟨h2, g2, (show k + 1 ≤ s.size by omega), fun h => by cases h⟩
    · exact ⟨h2, g2, g3, fun h => (show a < j by have := g4 h; omega)⟩
  · exact ⟨h2, h2, h3, h4⟩
theorem more_iff {n a : Nat} {e : Int} : moreV n a e = true ↔ e = 0 ∧ a < n := by simp [moreV]
theorem clsL_out (s : ByteArray) : ∀ (n a : Nat) (e : Int) (W : C4), a ≤ s.size → W.Wd → (clsL s n a e W).1 ≤ s.size ∧ (clsL s n a e W).2.2.Wd ∧ (s.size - a ≤ n → (clsL s n a e W).2.1 = 0 → a ≤ (clsL s n a e W).1)
  | 0, a, e, W, ha, hW => ⟨ha, hW, fun _ _ => Nat.le_refl _⟩
  | n + 1, a, e, W, ha, hW => by
    unfold clsL
    split
    · rename_i h
      obtain ⟨he, hal⟩ := more_iff.1 h.1
      obtain ⟨h1, h2, h3, h4⟩ := pair_out s a hal
      obtain ⟨g1, g2, g3⟩ := clsL_out s n (clsPair s a).2.2.1 (clsPair s a).2.2.2 (W.or (.ofL (rng (clsPair s a).1 (clsPair s a).2.1))) h3 (hW.or (C4.wd_ofL _))
      refine ⟨g1, g2, fun hn h0 => ?_⟩
      by_cases hp : (clsPair s a).2.2.2 = 0
      · have := h4 hp
        have := g3 (by omega) h0
        omega
      · cases n with
        | zero => exact absurd h0 (by simpa [clsL] using hp)
        | succ n =>
          have hm : moreV s.size (clsPair s a).2.2.1 (clsPair s a).2.2.2 = false := by
            rw [← Bool.not_eq_true, more_iff]
            exact fun h => hp h.1
          unfold clsL at h0
          rw [if_neg (by rw [hm]; rintro ⟨h, _⟩; cases h)] at h0
          exact absurd h0 hp
    · exact ⟨ha, hW, fun _ _ => Nat.le_refl _⟩
/-- A class behind its bracket: the class, the place, the error. -/
def classV (s : ByteArray) (a : Nat) : C4 × Nat × Int :=
  let nt := moreV s.size a 0 && (byteI s a == 94)
  let a1 := if nt then a + 1 else a
  let x := clsL s (s.size - a1) a1 0 .zero
  if moreV s.size x.1 x.2.1 = true then (if nt then x.2.2.not else x.2.2, x.1 + 1, 0) else (x.2.2, if x.2.1 = 0 then s.size else x.1, if x.2.1 = 0 then 8 else x.2.1)
/-- A class, whatever it is written as, behind its first byte. -/
def thingV (s : ByteArray) (a : Nat) (c : Int) : C4 × Nat × Int :=
  if c = 91 then classV s a
  else if c = 46 then ((C4.ofL [10]).not, a, 0)
  else if c = 92 then (.ofL [(escapeV s a 0).1.toNat], (escapeV s a 0).2.1.toNat, (escapeV s a 0).2.2)
  else (.ofL [c.toNat], a, 0)
end Go.Proofs.YtpbkgegkjglibaaDoor

namespace Go.Proofs.YtpbkgegkjglibaaDoor
open Go Go.Proofs Go.RowKit
attribute [local go_sem] Oper.semAt_some
def inf58_14 : List AX.Inf := [⟨0, 324518553658426726783156020576256, 4, true⟩, ⟨0, 649037107316853453566312041152512, 16, true⟩, ⟨0, 1298074214633706907132624082305024, 32, true⟩, ⟨6, 2596148429267413814265248164610048, 1947111321950560360698936123457536, false⟩, ⟨9, 5192296858534827628530496329220096, 2920666982925840541048404185186304, false⟩, ⟨31, 0, 5192296858534827628530496329220100, false⟩]
theorem more_b (Rb : Nat) (s : ByteArray) (at_ : Int) (rv sv : Value) (e : Int) (w : World) (hR : Rdr w Rb s at_ rv sv e) : ∀ p : AX.BW w, Calls Tryd.prog 23 #[.pointer (some ⟨Rb, 0, none⟩)] p.W fun x w' => x = .returned (.bool (moreV s.size at_ e)) ∧ ∃ q : AX.BW w, w' = q.W := fun p =>
  AX.below_of (more_k Rb s at_ rv sv e p.W (hR.below p.h hR.lt))
/-- A class's words, in memory. -/
def wsV (c : C4) : Array Value := #[.int .u64 c.a, .int .u64 c.b, .int .u64 c.c, .int .u64 c.d]
def ClsB (W : World) (B : Nat) (c : C4) : Prop := Bx W B 38 (wsV c)
theorem ClsB.cells {W : World} {B : Nat} {c : C4} (h : ClsB W B c) : W.cell? ⟨B, 0, none⟩ = some (.int .u64 c.a) ∧ W.cell? ⟨B, 1, none⟩ = some (.int .u64 c.b) ∧ W.cell? ⟨B, 2, none⟩ = some (.int .u64 c.c) ∧ W.cell? ⟨B, 3, none⟩ = some (.int .u64 c.d) := ⟨Bx.cell h 0, Bx.cell h 1, Bx.cell h 2, Bx.cell h 3⟩
def numOf (W : World) (B o : Nat) : Int := match W.cell? ⟨B, o, none⟩ with
  | some (.int _ n) => n
  | _ => 0
theorem numOf_at {W : World} {Rb : Nat} {s : ByteArray} {at_ e : Int} {rv sv : Value} (h : Rdr W Rb s at_ rv sv e) : numOf W Rb 1 = at_ ∧ numOf W Rb 4 = e := by
  obtain ⟨_, c1, _, _, c4⟩ := Bx.fiv h
  unfold numOf
  rw [c1, c4]
  exact ⟨rfl, rfl⟩
theorem but_new {w W W' : World} {A B : Nat} (h : AX.But A w W) (hB : w.heap.size ≤ B) (h3 : B < W'.heap.size) (h4 : ∀ j, j ≠ B → W'.heap[j]? = W.heap[j]?) (h5 : AX.Same W W') : AX.But A w W' :=
  ⟨h.low.trans (AX.below_turn (n := 0) (Nat.zero_le _) (.inl h3) h4 h5), fun k hk hn => (h4 k (by omega)).trans (h.same k hk hn)⟩
theorem rest_facts (s : ByteArray) (k : Nat) (_hk : k ≤ s.size) (rs : ByteArray) (hrs : rs = s.extract k s.size) : rs.size = s.size - k ∧ ∀ i (h : i < rs.size), ((rs[i].toNat : Nat) : Int) = byteI s (k + i) := by
  subst hrs
  refine ⟨by rw [ByteArray.size_extract]; omega, fun i h => ?_⟩
  have h2 : k + i < s.size := by rw [ByteArray.size_extract] at h; omega
  rw [byteI_eq s (k + i) h2, ByteArray.getElem_extract]
set_option maxRecDepth 100000 in
set_option maxHeartbeats 8000000 in
theorem class_k (Rb : Nat) (s : ByteArray) (a : Nat) (rv sv : Value) (w : World) (hR : Rdr w Rb s a rv sv 0) (hs : s.size ≤ 1000000) (ha : a ≤ s.size) :
    Calls Tryd.prog 58 #[.pointer (some ⟨Rb, 0, none⟩)] w fun x w' => x = .returned (classV s a).1.v ∧ Rdr w' Rb s (classV s a).2.1 rv sv (classV s a).2.2 ∧ AX.But Rb w w' := by
  obtain ⟨nt, hnt⟩ : ∃ nt, nt = (moreV s.size a 0 && (byteI s a == 94)) := ⟨_, rfl⟩
  obtain ⟨a1, ha1⟩ : ∃ a1, a1 = (if nt then a + 1 else a) := ⟨_, rfl⟩
  have ha1b : a1 ≤ s.size := by
    cases nt with
    | false => rw [ha1]; simpa using ha
    | true =>
      have h1 := hnt.symm
      rw [Bool.and_eq_true, more_iff] at h1
      rw [ha1]; simp; omega
  obtain ⟨xx, hxx⟩ : ∃ xx, xx = clsL s (s.size - a1) a1 0 .zero := ⟨_, rfl⟩
  have HV : Hid (classV s a = if moreV s.size xx.1 xx.2.1 = true then (if nt then xx.2.2.not else xx.2.2, xx.1 + 1, 0) else (xx.2.2, if xx.2.1 = 0 then s.size else xx.1, if xx.2.1 = 0 then 8 else xx.2.1)) := Lib.hid (by
    unfold classV
    simp only [← hnt, ← ha1, ← hxx])
  obtain ⟨Bc, hBc⟩ : ∃ Bc, Bc = w.heap.size := ⟨_, rfl⟩
  have HBC := Lib.hid hBc
  have HX := Lib.hid hxx
  have hRl := hR.lt
  go_enter Tryd.func58, Tryd.ntmps58
  go_wp2_with fail
  rw [← hBc]
  obtain ⟨W0, hW0⟩ : ∃ W0, W0 = w.alloc (.cells #[.int .u64 0, .int .u64 0, .int .u64 0, .int .u64 0] 38) := ⟨_, rfl⟩
  have hR0 : Rdr W0 Rb s a rv sv 0 := by rw [hW0]; exact hR.alloc _
  rw [← hW0]
  have hb0 : AX.But Rb w W0 := by rw [hW0]; exact AX.But.of_below ((Below.refl _ w).alloc (Nat.le_refl _) _)
  have hC0 : ClsB W0 Bc .zero := by rw [hW0, hBc]; exact Bx.new _ _ _
  have HN := Lib.hid hnt
  have HA1 := Lib.hid ha1
  clear hW0 hBc hnt ha1 hxx
  go_cut [3] from 8 to 21 (fun t3 wz => t3 = .bool nt ∧ Rdr wz Rb s a rv sv 0 ∧ ClsB wz Bc .zero ∧ AX.But Rb w wz)
  case first =>
    obtain ⟨c0, c1, c2, c3, c4⟩ := Bx.fiv hR0
    have d0 := AX.cell_all c0 hR0.lt
    have d1 := AX.cell_all c1 hR0.lt
    have hmb := more_b Rb s a rv sv 0 W0 hR0
    by_cases hal : a < s.size
    · have hm : moreV s.size a 0 = true := more_iff.2 ⟨rfl, hal⟩
      have hal2 : (a : Int) < (s.size : Int) := by omega
      have HNT : nt = (byteI s a == 94) := by rw [HN.out, hm, Bool.true_and]
      rw [hm] at hmb
      have HNT := Lib.hid HNT
      refine AX.region_below (by kernel_rfl) (by kernel_rfl) ?_
      repeat (go_big_quiet_step (first | (go_at_call 23; with_reducible exact (hmb _))))
      refine wpQuiet_nil ?_
      rintro W2 ⟨p, rfl⟩
      obtain ⟨W2, hb2⟩ := p
      change Below _ _ _ at hb2
      have hR2 : Rdr W2 Rb s a rv sv 0 := hR0.below hb2 hR0.lt
      have hC2 : ClsB W2 Bc .zero := Bx.below hC0 hb2 (Bx.lt hC0)
      have hB2 : AX.But Rb w W2 := hb0.trans (AX.But.of_below hb2)
      simp only [← byteI_eq s a hal, ← HNT.out]
      go_wp2_with fail
      go_meet
      case rel => exact ⟨rfl, hR2, hC2, hB2⟩
    · have hm : moreV s.size a 0 = false := by rw [← Bool.not_eq_true, more_iff]; rintro ⟨_, h⟩; exact hal h
      have HNT : nt = false := by rw [HN.out, hm, Bool.false_and]
      rw [hm] at hmb
      refine AX.region_below (by kernel_rfl) (by kernel_rfl) ?_
      repeat (go_big_quiet_step (first | (go_at_call 23; with_reducible exact (hmb _))))
      refine wpQuiet_nil ?_
      rintro W2 ⟨p, rfl⟩
      obtain ⟨W2, hb2⟩ := p
      change Below _ _ _ at hb2
      have hR2 : Rdr W2 Rb s a rv sv 0 := hR0.below hb2 hR0.lt
      have hC2 : ClsB W2 Bc .zero := Bx.below hC0 hb2 (Bx.lt hC0)
      have hB2 : AX.But Rb w W2 := hb0.trans (AX.But.of_below hb2)
      go_wp2_with fail
      go_meet
      case rel => exact ⟨by rw [HNT], hR2, hC2, hB2⟩
  case rest =>
    obtain ⟨rfl, hR2, hC2, hB2⟩ := hcut
    clear hR0 hb0 hC0
    go_upto_if 22 with (fail)
    go_cut [3] from 23 to 29 (fun t3 wz => t3 = .bool nt ∧ Rdr wz Rb s a1 rv sv 0 ∧ ClsB wz Bc .zero ∧ AX.But Rb w wz)
    case first =>
      cases nt
      · have e1 : a1 = a := HA1.out
        go_wp2_with fail
        go_meet
        case rel => exact ⟨rfl, by rw [e1]; exact hR2, hC2, hB2⟩
      · have e1 : a1 = a + 1 := HA1.out
        have c1 : wc.cell? ⟨Rb, 1, none⟩ = some (.int .i64 a) := hR2.cell 1
        have f1 := hR2.frozen 1
        have hne : Bc ≠ Rb := by have := HBC.out; omega
        go_wp2_with fail
        go_meet
        case rel => exact ⟨rfl, by rw [e1]; exact Bx.set hR2 1 (.int .i64 ((a : Int) + 1)), Bx.other hC2 hne, hB2.trans (but_set _ _ _ _)⟩
    case rest =>
      obtain ⟨rfl, hR3, hC3, hB3⟩ := hcut
      clear hR2 hC2 hB2
      go_wp2_with fail
      go_loopw [4] (fun _ wr => ∃ (n k : Nat) (e : Int) (c : C4), k ≤ s.size ∧ Rdr wr Rb s k rv sv e ∧ ClsB wr Bc c ∧ c.Wd ∧ AX.But Rb w wr ∧ (e = 0 → s.size - k ≤ n) ∧ Hid (xx = clsL s n k e c))
        (fun _ wr => if numOf wr Rb 4 = 0 then s.size - (numOf wr Rb 1).toNat + 1 else 0)
      case atStart => exact ⟨s.size - a1, a1, 0, .zero, ha1b, hR3, hC3, C4.wd_zero, hB3, fun _ => Nat.le_refl _, HX⟩
      case round =>
        clear hR3 hC3 hB3
        obtain ⟨n, k, e, c, hk, hRr, hCr, hWd, hBr, hn, HL⟩ := hrel
        have hmb := more_b Rb s k rv sv e wr hRr
        obtain ⟨c0, c1, c2, c3, c4⟩ := Bx.fiv hRr
        have d0 := AX.cell_all c0 hRr.lt
        have d1 := AX.cell_all c1 hRr.lt
        have d4 := AX.cell_all c4 hRr.lt
        by_cases hgo : moreV s.size k e = true ∧ byteI s k ≠ 93
        · obtain ⟨hm, hb93⟩ := hgo
          obtain ⟨rfl, hkl⟩ := more_iff.1 hm
          rw [hm] at hmb
          have hkl2 : (k : Int) < (s.size : Int) := by omega
          have hby := byteI_eq s k hkl
          have hb93b : (byteI s k != 93) = true := by simp [hb93]
          have HB93 := Lib.hid hb93b
          have HBY := Lib.hid hby
          have HB := Lib.hid hb93
          clear hby hb93 hb93b hm
          go_upto_region 4 with (fail)
          refine AX.region_below (by kernel_rfl) (by kernel_rfl) ?_
          repeat (go_big_quiet_step (first | (go_at_call 23; with_reducible exact (hmb _))))
          refine wpQuiet_nil ?_
          rintro W2 ⟨p, rfl⟩
          obtain ⟨W2, hb2⟩ := p
          change Below _ _ _ at hb2
          have hR4 : Rdr W2 Rb s k rv sv 0 := hRr.below hb2 hRr.lt
          have hC4 : ClsB W2 Bc c := Bx.below hCr hb2 (Bx.lt hCr)
          have hB4 : AX.But Rb w W2 := hBr.trans (AX.But.of_below hb2)
          simp only [← HBY.out, HB93.out]
          clear c0 c1 c2 c3 c4 d0 d1 d4 hCr hBr hmb
          have H1 := one_out s k hkl
          obtain ⟨v, k1, e1, hv, hv2, hk1, hgt⟩ := H1
          have ho := one_k Rb s k rv sv 0
          rw [hv] at ho
          have HP : Hid (clsPair s k = if e1 = 0 ∧ k1 + 1 < s.size ∧ byteI s k1 = 45 ∧ byteI s (k1 + 1) ≠ 93 then (if (oneV s (k1 + 1) 0).2.2 = 0 ∧ (oneV s (k1 + 1) 0).1.toNat < v then (v, (oneV s (k1 + 1) 0).1.toNat, k1 + 1, 7) else (v, (oneV s (k1 + 1) 0).1.toNat, (oneV s (k1 + 1) 0).2.1.toNat, (oneV s (k1 + 1) 0).2.2)) else (v, v, k1, e1)) := Lib.hid (by
            unfold clsPair
            simp only [hv, Int.toNat_natCast])
          have HGT := Lib.hid hgt
          clear hv hgt
          go_upto_region 7 with (go_at_call 68; (with_reducible refine (ho _ hR4 hs hkl).mono ?_); rintro x W5 ⟨rfl, hR5, hb5⟩; obtain ⟨c0, c1, c2, c3, c4⟩ := Bx.fiv hR5; have d0 := AX.cell_all c0 hR5.lt; have d1 := AX.cell_all c1 hR5.lt; have d4 := AX.cell_all c4 hR5.lt)
          have hk1I : (k1 : Int) ≤ (s.size : Int) := by omega
          have hk1m : min (k1 : Int) (s.size : Int) = (k1 : Int) := Int.min_eq_left hk1I
          refine AX.region_below (by kernel_rfl) (by kernel_rfl) ?_
          repeat (go_big_quiet_step (fail))
          refine wpQuiet_nil ?_
          rintro W6 ⟨p, rfl⟩
          obtain ⟨W6, hb6⟩ := p
          change Below _ _ _ at hb6
          have hR6 : Rdr W6 Rb s k1 rv sv e1 := hR5.below hb6 hR5.lt
          have hC6 : ClsB W6 Bc c := by
            have h5 : ClsB W5 Bc c := (hb5.same Bc (Bx.lt hC4) (by have := HBC.out; omega)).trans hC4
            exact Bx.below h5 hb6 (Bx.lt h5)
          have hB6 : AX.But Rb w W6 := (hB4.trans hb5).trans (AX.But.of_below hb6)
          clear c0 c1 c2 c3 c4 d0 d1 d4 hR4 hC4 hB4 hR5 hb5
          obtain ⟨rs, hrs⟩ : ∃ rs, rs = s.extract k1 s.size := ⟨_, rfl⟩
          obtain ⟨hrl, hrb⟩ := rest_facts s k1 hk1 rs hrs
          rw [← hrs]
          clear hrs
          obtain ⟨pb, hpb⟩ : ∃ pb, pb = decide (e1 = 0 ∧ k1 + 1 < s.size ∧ byteI s k1 = 45 ∧ byteI s (k1 + 1) ≠ 93) := ⟨_, rfl⟩
          have HPB := Lib.hid hpb
          have HRL := Lib.hid hrl
          have HRB := Lib.hid hrb
          clear hpb hrl hrb
          go_upto_region 8 with (fail)
          go_cut [81] from 62 to 80 (fun t81 wz => t81 = .bool pb ∧ wz = W6)
          case first =>
            obtain ⟨c0, c1, c2, c3, c4⟩ := Bx.fiv hR6
            by_cases he1 : e1 = 0
            · subst he1
              by_cases hsz : k1 + 1 < s.size
              · have hr1 : (1 : Int) < (rs.size : Int) := by have := HRL.out; omega
                have hb0 := HRB.out 0 (by omega)
                have hb1 := HRB.out 1 (by omega)
                rw [Nat.add_zero] at hb0
                by_cases h45 : byteI s k1 = 45
                · have p45 : (byteI s k1 == 45) = true := by simp [h45]
                  by_cases h93 : byteI s (k1 + 1) = 93
                  · have p93 : (byteI s (k1 + 1) != 93) = false := by simp [h93]
                    have hp : pb = false := by rw [HPB.out]; simp [h93]
                    go_wp2_with fail
                    go_meet
                    case rel => exact ⟨by rw [hp], rfl⟩
                  · have p93 : (byteI s (k1 + 1) != 93) = true := by simp [h93]
                    have hp : pb = true := by rw [HPB.out]; simp [h93, h45, hsz]
                    go_wp2_with fail
                    go_meet
                    case rel => exact ⟨by rw [hp], rfl⟩
                · have p45 : (byteI s k1 == 45) = false := by simp [h45]
                  have hp : pb = false := by rw [HPB.out]; simp [h45]
                  go_wp2_with fail
                  go_meet
                  case rel => exact ⟨by rw [hp], rfl⟩
              · have hr1 : ¬ (1 : Int) < (rs.size : Int) := by have := HRL.out; omega
                have hp : pb = false := by rw [HPB.out]; simp [hsz]
                go_wp2_with fail
                go_meet
                case rel => exact ⟨by rw [hp], rfl⟩
            · have hp : pb = false := by rw [HPB.out]; simp [he1]
              go_wp2_with fail
              go_meet
              case rel => exact ⟨by rw [hp], rfl⟩
          case rest =>
            obtain ⟨rfl, rfl⟩ := hcut
            clear HRB HRL
            obtain ⟨⟨pl, ph, pk, pe⟩, hpp⟩ : ∃ z, z = clsPair s k := ⟨_, rfl⟩
            rw [← hpp] at HP
            have HPP := Lib.hid hpp
            have hne : Bc ≠ Rb := by have := HBC.out; omega
            clear hpp
            go_upto_if 81 with (fail)
            go_cut [5] from 82 to 107 (fun t5 wz => t5 = .int .u8 (ph : Nat) ∧ pl = v ∧ Rdr wz Rb s pk rv sv pe ∧ ClsB wz Bc c ∧ AX.But Rb w wz)
            case first =>
              cases pb with
              | false =>
                have hno := of_decide_eq_false HPB.out.symm
                have hz := HP.out
                rw [if_neg hno] at hz
                obtain ⟨rfl, rfl, rfl, rfl⟩ : pl = v ∧ ph = v ∧ pk = k1 ∧ pe = e1 := by
                  simpa using hz
                clear hno hz HP HPP
                go_wp2_with fail
                go_meet
                case rel => exact ⟨rfl, trivial, hR6, hC6, hB6⟩
              | true =>
                obtain ⟨he1, hsz, h45, h93⟩ := of_decide_eq_true HPB.out.symm
                subst he1
                obtain ⟨v2, k2, e2, hv2', hv22, hk2, hgt2⟩ := one_out s (k1 + 1) hsz
                have hz := HP.out
                rw [if_pos ⟨rfl, hsz, h45, h93⟩] at hz
                have ho2 := one_k Rb s (k1 + 1) rv sv 0
                rw [hv2'] at ho2 hz
                simp only [Int.toNat_natCast] at hz
                have HZ := Lib.hid hz
                have c1 : wc.cell? ⟨Rb, 1, none⟩ = some (.int .i64 k1) := hR6.cell 1
                have f1 := hR6.frozen 1
                have hR7 : Rdr (wc.setCell ⟨Rb, 1, none⟩ (.int .i64 ((k1 : Int) + 1))) Rb s ((k1 + 1 : Nat) : Int) rv sv 0 := Bx.set hR6 1 (.int .i64 ((k1 : Int) + 1))
                have hC7 : ClsB (wc.setCell ⟨Rb, 1, none⟩ (.int .i64 ((k1 : Int) + 1))) Bc c := Bx.other hC6 hne
                have hB7 := hB6.trans (but_set wc Rb 1 (.int .i64 ((k1 : Int) + 1)))
                clear hz HP h45 h93 hv2' hgt2
                by_cases hbad : e2 = 0 ∧ v2 < v
                · obtain ⟨rfl, hlt⟩ := hbad
                  have hlt2 : (v2 : Int) < (v : Int) := by omega
                  have hz := HZ.out
                  rw [if_pos ⟨rfl, hlt⟩] at hz
                  obtain ⟨rfl, rfl, rfl, rfl⟩ : pl = v ∧ ph = v2 ∧ pk = k1 + 1 ∧ pe = 7 := by simpa using hz
                  clear hz HZ HPP
                  go_wp2_with (first
                    | (go_at_call 68; (with_reducible refine (ho2 _ hR7 hs hsz).mono ?_); rintro x W8 ⟨rfl, hR8, hb8⟩; obtain ⟨c0, c1, c2, c3, c4⟩ := Bx.fiv hR8; have hC8 : ClsB W8 Bc c := (hb8.same Bc (Bx.lt hC7) hne).trans hC7)
                    | (go_at_call 25; (with_reducible refine (fail_k Rb s _ rv sv 0 _ _ _ hR8).mono ?_); rintro x W9 ⟨rfl, hR9, hb9⟩; have hC9 : ClsB W9 Bc c := (hb9.same Bc (Bx.lt hC8) hne).trans hC8))
                  go_meet
                  case rel => exact ⟨rfl, trivial, hR9, hC9, (hB7.trans hb8).trans hb9⟩
                · have hz := HZ.out
                  rw [if_neg hbad] at hz
                  obtain ⟨rfl, rfl, rfl, rfl⟩ : pl = v ∧ ph = v2 ∧ pk = k2 ∧ pe = e2 := by simpa using hz
                  clear hz HZ HPP
                  have hbad2 : pe ≠ 0 ∨ (pe = 0 ∧ ¬ ((ph : Int) < (pl : Int))) := by
                    by_cases h0 : pe = 0
                    · exact .inr ⟨h0, fun h => hbad ⟨h0, by omega⟩⟩
                    · exact .inl h0
                  clear hbad
                  rcases hbad2 with h0 | ⟨rfl, h0⟩
                  · go_wp2_with (go_at_call 68; (with_reducible refine (ho2 _ hR7 hs hsz).mono ?_); rintro x W8 ⟨rfl, hR8, hb8⟩; obtain ⟨c0, c1, c2, c3, c4⟩ := Bx.fiv hR8; have hC8 : ClsB W8 Bc c := (hb8.same Bc (Bx.lt hC7) hne).trans hC7)
                    go_meet
                    case rel => exact ⟨rfl, trivial, hR8, hC8, hB7.trans hb8⟩
                  · go_wp2_with (go_at_call 68; (with_reducible refine (ho2 _ hR7 hs hsz).mono ?_); rintro x W8 ⟨rfl, hR8, hb8⟩; obtain ⟨c0, c1, c2, c3, c4⟩ := Bx.fiv hR8; have hC8 : ClsB W8 Bc c := (hb8.same Bc (Bx.lt hC7) hne).trans hC7)
                    go_meet
                    case rel => exact ⟨rfl, trivial, hR8, hC8, hB7.trans hb8⟩
            case rest =>
              obtain ⟨rfl, rfl, hR9, hC9, hB9⟩ := hcut
              clear hR6 hC6 hB6 HPB HP
              obtain ⟨hpl, hph, hpk, hpe⟩ : pl < 256 ∧ ph < 256 ∧ pk ≤ s.size ∧ (pe = 0 → k < pk) := by
                have := pair_out s k hkl
                rw [← HPP.out] at this
                exact this
              have HPE := Lib.hid hpe
              clear hpe
              go_wp2_with fail
              have hbd := (Below.refl wc.heap.size wc).drew
              have hR10 := Bx.below hR9 hbd (Bx.lt hR9)
              have hC10 : ClsB wc.drew Bc c := Bx.below hC9 hbd (Bx.lt hC9)
              have hB10 := hB9.trans (AX.But.of_below hbd)
              obtain ⟨C, hCi, hCo⟩ : ∃ C : World → Prop, (∀ Z, C Z → ClsB Z Bc c) ∧ (∀ Z, ClsB Z Bc c → C Z) := ⟨_, fun _ h => h, fun _ h => h⟩
              have hW0 : C wc.drew := hCo _ hC10
              haveI : Inhabited (AX.CW C) := ⟨⟨_, hW0⟩⟩
              haveI : Inhabited (AX.CW fun _ => True) := ⟨⟨w, trivial⟩⟩
              have b0 := fun p : AX.CW C => (hCi _ p.h).cells.1
              have b1 := fun p : AX.CW C => (hCi _ p.h).cells.2.1
              have b2 := fun p : AX.CW C => (hCi _ p.h).cells.2.2.1
              have b3 := fun p : AX.CW C => (hCi _ p.h).cells.2.2.2
              have HC := Lib.hid hCo
              clear hCo hCi
              refine AX.region_mixL (C := fun W => ∃ p : AX.CW C, W = p.W) (CT := fun W => ∃ p : AX.CW fun _ => True, W = p.W) 5 [(0, 0), (1, 0), (2, 0), (3, 2), (4, 2), (5, 2)] inf58_14 (by kernel_rfl) (by kernel_rfl) (by kernel_rfl) (by kernel_rfl) (by decide) (by kernel_rfl) (by kernel_rfl) (by intro c a d v w h; cases d <;> exact h) ⟨⟨⟨_, trivial⟩, rfl⟩, ⟨⟨_, hW0⟩, rfl⟩⟩ ?_
              clear hW0 hbd hR9 hC9 hB9
              generalize wc.drew = Wd at *
              repeat ((first | refine AX.mixL_own _ (by rfl) ?_ | refine AX.mixL_all _ (by rfl) ?_); go_big_quiet_step (fail); refine wpQuiet_nil ?_)
              refine AX.mixL_call (range_calls pl ph hpl hph _) (by rfl) (by rfl) (by rfl) Tryd.func70 (by kernel_rfl) (by rfl) (by simp only [List.map_toArray, List.map_cons, List.map_nil]; rfl) ?_
              rintro e W11 ⟨rfl, hb11⟩
              have hR11 := Bx.below hR10 hb11 (Bx.lt hR10)
              have hC11 : ClsB W11 Bc c := Bx.below hC10 hb11 (Bx.lt hC10)
              have hB11 := hB10.trans (AX.But.of_below hb11)
              refine ⟨_, rfl, ⟨⟨⟨W11, trivial⟩, rfl⟩, fun _ => ⟨⟨W11, HC.out _ hC11⟩, rfl⟩⟩, ?_⟩
              simp only [Act.put, List.setIfInBounds_toArray, List.set_cons_succ, List.set_cons_zero]
              have hcl := C4.wd_ofL (rng pl ph)
              obtain ⟨c2, hc2⟩ : ∃ c2, c2 = C4.ofL (rng pl ph) := ⟨_, rfl⟩
              have hu := union_k c.a c.b c.c c.d c2.a c2.b c2.c c2.d hWd.a hWd.b hWd.c hWd.d (hc2 ▸ hcl.a) (hc2 ▸ hcl.b) (hc2 ▸ hcl.c) (hc2 ▸ hcl.d)
              have hWd2 : (c.or c2).Wd := hWd.or (hc2 ▸ hcl)
              have HC2 := Lib.hid hc2
              rw [hc2] at hu
              clear hc2 hcl
              refine AX.mixL_call (hu _) (by rfl) (by rfl) (by rfl) Tryd.func69 (by kernel_rfl) (by rfl) (by simp only [List.map_toArray, List.map_cons, List.map_nil]; rfl) ?_
              rintro e W12 ⟨rfl, hb12⟩
              have hR12 := Bx.below hR11 hb12 (Bx.lt hR11)
              have hC12 : ClsB W12 Bc c := Bx.below hC11 hb12 (Bx.lt hC11)
              have hB12 := hB11.trans (AX.But.of_below hb12)
              refine ⟨_, rfl, ⟨⟨⟨W12, trivial⟩, rfl⟩, fun _ => ⟨⟨W12, HC.out _ hC12⟩, rfl⟩⟩, ?_⟩
              simp only [Act.put, List.setIfInBounds_toArray, List.set_cons_succ, List.set_cons_zero]
              refine AX.mixL_op _ (by rfl) (by rfl) ?_
              refine AX.oper_storeBox (vs := [.int .u64 (c.or c2).a, .int .u64 (c.or c2).b, .int .u64 (c.or c2).c, .int .u64 (c.or c2).d]) rfl (by rw [HC2.out]; rfl) sz38 hC12 rfl rfl ?_
              rintro W13 h3 h4 h5
              have hC13 : ClsB W13 Bc (c.or c2) := h3
              have hR13 : Rdr W13 Rb s pk rv sv pe := (h4 Rb (fun e => hne e.symm)).trans hR12
              have hB13 := but_new hB12 (by have := HBC.out; omega) (Array.getElem?_eq_some_iff.1 h3).1 h4 h5
              refine ⟨⟨⟨⟨W13, trivial⟩, rfl⟩, fun h => by cases h⟩, ?_⟩
              clear b0 b1 b2 b3 h3 h4 h5 HC hu hR10 hR11 hR12 hC10 hC11 hC12 hB10 hB11 hB12
              unfold AX.wpMixL
              go_wp2_with fail
              obtain ⟨n', rfl⟩ : ∃ n', n = n' + 1 := ⟨n - 1, by have := hn trivial; omega⟩
              have hx2 : xx = clsL s n' pk pe (c.or c2) := by
                rw [HL.out, clsL, if_pos ⟨more_iff.2 ⟨rfl, hkl⟩, HB.out⟩, ← HPP.out, HC2.out]
              have hn2 : pe = 0 → s.size - pk ≤ n' := fun h => by have := hn trivial; have := HPE.out h; omega
              obtain ⟨q1, q4⟩ := numOf_at hR13
              obtain ⟨o1, o4⟩ := numOf_at hRr
              have hms : (if numOf W13 Rb 4 = 0 then s.size - (numOf W13 Rb 1).toNat + 1 else 0) < (if numOf wr Rb 4 = 0 then s.size - (numOf wr Rb 1).toNat + 1 else 0) := by
                rw [q1, q4, o1, o4, if_pos rfl, Int.toNat_natCast, Int.toNat_natCast]
                by_cases h0 : pe = 0
                · rw [if_pos h0]; have := HPE.out h0; omega
                · rw [if_neg h0]; omega
              exact ⟨⟨n', pk, pe, c.or c2, hpk, hR13, hC13, hWd2, hB13, hn2, Lib.hid hx2⟩, hms⟩
        · have hxx : xx = (k, e, c) := by
            rw [HL.out]
            cases n with
            | zero => rfl
            | succ n => rw [clsL, if_neg hgo]
          subst hxx
          have hne : Bc ≠ Rb := by have := HBC.out; omega
          have hBcw : w.heap.size ≤ Bc := by have := HBC.out; omega
          dsimp only at HV
          by_cases hm : moreV s.size k e = true
          · obtain ⟨rfl, hkl⟩ := more_iff.1 hm
            have h93 : byteI s k = 93 := Classical.byContradiction fun h => hgo ⟨hm, h⟩
            rw [hm] at hmb
            rw [if_pos rfl, hm] at HV
            have hkl2 : (k : Int) < (s.size : Int) := by omega
            have hby := byteI_eq s k hkl
            have hb93b : (byteI s k != 93) = false := by simp [h93]
            have HB93 := Lib.hid hb93b
            have HBY := Lib.hid hby
            have HM := Lib.hid hm
            clear hby hb93b hm h93 hgo
            go_upto_region 4 with (fail)
            refine AX.region_below (by kernel_rfl) (by kernel_rfl) ?_
            repeat (go_big_quiet_step (first | (go_at_call 23; with_reducible exact (hmb _))))
            refine wpQuiet_nil ?_
            rintro W2 ⟨p, rfl⟩
            obtain ⟨W2, hb2⟩ := p
            change Below _ _ _ at hb2
            have hR4 : Rdr W2 Rb s k rv sv 0 := hRr.below hb2 hRr.lt
            have hC4 : ClsB W2 Bc c := Bx.below hCr hb2 (Bx.lt hCr)
            have hB4 : AX.But Rb w W2 := hBr.trans (AX.But.of_below hb2)
            simp only [← HBY.out, HB93.out]
            clear c0 c1 c2 c3 c4 d0 d1 d4 hRr hCr hBr hmb
            have hmk := more_k Rb s k rv sv 0
            rw [HM.out] at hmk
            go_upto_if 115 with (go_at_call 23; (with_reducible refine (hmk _ hR4).mono ?_); rintro x W5 ⟨rfl, hb5⟩; have hR5 : Rdr W5 Rb s k rv sv 0 := hR4.below hb5 hR4.lt; have hC5 : ClsB W5 Bc c := Bx.below hC4 hb5 (Bx.lt hC4); obtain ⟨c0, c1, c2, c3, c4⟩ := Bx.fiv hR5; have f1 := hR5.frozen 1; have hR6 : Rdr (W5.setCell ⟨Rb, 1, none⟩ (.int .i64 ((k : Int) + 1))) Rb s ((k + 1 : Nat) : Int) rv sv 0 := Bx.set hR5 1 (.int .i64 ((k : Int) + 1)); have hC6 : ClsB (W5.setCell ⟨Rb, 1, none⟩ (.int .i64 ((k : Int) + 1))) Bc c := Bx.other hC5 hne; have hB6 : AX.But Rb w (W5.setCell ⟨Rb, 1, none⟩ (.int .i64 ((k : Int) + 1))) := (hB4.trans (AX.But.of_below hb5)).trans (but_set _ _ _ _); obtain ⟨x0, x1, x2, x3⟩ := hC6.cells)
            cases nt with
            | false =>
              have hv : classV s a = (c, k + 1, 0) := HV.out
              clear hR4 hC4 hB4 hmk
              go_wp2_with ((with_reducible refine st_id ?_); refine AX.wpList_storeBox (vs := [.int .u64 c.a, .int .u64 c.b, .int .u64 c.c, .int .u64 c.d]) rfl rfl sz38 hC6 rfl rfl ?_; rintro W7 h3 h4 h5; have hC7 : ClsB W7 Bc c := h3; have hR7 : Rdr W7 Rb s ((k + 1 : Nat) : Int) rv sv 0 := (h4 Rb (fun e => hne e.symm)).trans hR6; have hB7 := but_new hB6 hBcw (Array.getElem?_eq_some_iff.1 h3).1 h4 h5; obtain ⟨y0, y1, y2, y3⟩ := hC7.cells)
              exact bodyPost_ret (v := c.v) (by simp [results, Tryd.results58, go_sem, C4.v, y0, y1, y2, y3]) rfl (by rw [hv]; exact ⟨rfl, hR7, hB7⟩)
            | true =>
              have hv : classV s a = (c.not, k + 1, 0) := HV.out
              have hnk := not_k c.a c.b c.c c.d hWd.a hWd.b hWd.c hWd.d
              clear hR4 hC4 hB4 hmk
              go_wp2_with (first
                | (go_at_call 59; (with_reducible refine (hnk _).mono ?_); rintro x W8 ⟨rfl, hb8⟩; have hR8 := Bx.below hR6 hb8 (Bx.lt hR6); have hC8 : ClsB W8 Bc c := Bx.below hC6 hb8 (Bx.lt hC6); have hB8 := hB6.trans (AX.But.of_below hb8))
                | ((with_reducible refine st_id ?_); refine AX.wpList_storeBox (vs := [.int .u64 (nw c.a : Nat), .int .u64 (nw c.b : Nat), .int .u64 (nw c.c : Nat), .int .u64 (nw c.d : Nat)]) rfl rfl sz38 hC8 rfl rfl ?_; rintro W7 h3 h4 h5; have hC7 : ClsB W7 Bc c.not := h3; have hR7 : Rdr W7 Rb s ((k + 1 : Nat) : Int) rv sv 0 := (h4 Rb (fun e => hne e.symm)).trans hR8; have hB7 := but_new hB8 hBcw (Array.getElem?_eq_some_iff.1 h3).1 h4 h5; obtain ⟨y0, y1, y2, y3⟩ := hC7.cells))
              exact bodyPost_ret (v := c.not.v) (by simp [results, Tryd.results58, go_sem, C4.v, y0, y1, y2, y3]) rfl (by rw [hv]; exact ⟨rfl, hR7, hB7⟩)
          · have hmf : moreV s.size k e = false := Bool.eq_false_iff.2 hm
            rw [hmf] at hmb
            rw [if_neg hm] at HV
            have hmk := more_k Rb s k rv sv e
            rw [hmf] at hmk
            have HFV : (failV ((k : Int), e) s.size 8) = (((if e = 0 then s.size else k : Nat) : Int), if e = 0 then 8 else e) := by
              unfold failV
              by_cases h0 : e = 0
              · simp [h0]
              · simp [h0]
            have HFV := Lib.hid HFV
            clear hm hmf hgo
            go_upto_region 4 with (fail)
            refine AX.region_below (by kernel_rfl) (by kernel_rfl) ?_
            repeat (go_big_quiet_step (first | (go_at_call 23; with_reducible exact (hmb _))))
            refine wpQuiet_nil ?_
            rintro W2 ⟨p, rfl⟩
            obtain ⟨W2, hb2⟩ := p
            change Below _ _ _ at hb2
            have hR4 : Rdr W2 Rb s k rv sv e := hRr.below hb2 hRr.lt
            have hC4 : ClsB W2 Bc c := Bx.below hCr hb2 (Bx.lt hCr)
            have hB4 : AX.But Rb w W2 := hBr.trans (AX.But.of_below hb2)
            clear c0 c1 c2 c3 c4 d0 d1 d4 hRr hCr hBr hmb
            go_wp2_with (first
              | (go_at_call 23; (with_reducible refine (hmk _ hR4).mono ?_); rintro x W5 ⟨rfl, hb5⟩; have hR5 : Rdr W5 Rb s k rv sv e := hR4.below hb5 hR4.lt; have hC5 : ClsB W5 Bc c := Bx.below hC4 hb5 (Bx.lt hC4); obtain ⟨c0, c1, c2, c3, c4⟩ := Bx.fiv hR5; have hB5 := hB4.trans (AX.But.of_below hb5))
              | (go_at_call 25; (with_reducible refine (fail_k Rb s _ rv sv e _ _ _ hR5).mono ?_); rintro x W8 ⟨rfl, hR8, hb8⟩; rw [HFV.out] at hR8; have hC8 : ClsB W8 Bc c := (hb8.same Bc (Bx.lt hC5) hne).trans hC5; have hB8 := hB5.trans hb8; obtain ⟨x0, x1, x2, x3⟩ := hC8.cells)
              | ((with_reducible refine st_id ?_); refine AX.wpList_storeBox (vs := [.int .u64 c.a, .int .u64 c.b, .int .u64 c.c, .int .u64 c.d]) rfl rfl sz38 hC8 rfl rfl ?_; rintro W7 h3 h4 h5; have hC7 : ClsB W7 Bc c := h3; have hR7 := (h4 Rb (fun e => hne e.symm)).trans hR8; have hB7 := but_new hB8 hBcw (Array.getElem?_eq_some_iff.1 h3).1 h4 h5; obtain ⟨y0, y1, y2, y3⟩ := hC7.cells))
            exact bodyPost_ret (v := c.v) (by simp [results, Tryd.results58, go_sem, C4.v, y0, y1, y2, y3]) rfl (by rw [HV.out]; exact ⟨rfl, hR7, hB7⟩)
end Go.Proofs.YtpbkgegkjglibaaDoor
