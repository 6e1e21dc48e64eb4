/- Dirty: rows of jobs that are owned; slices.Clone. -/
import Derived.Test.YtpplkjjfaibmmaaDoorE1
import Derived.Test.YtpplkjjfaibmmaaDoorE6
import Derived.Laws.Bits64b
import Derived.Laws.Bits64
import Derived.Lib.TrailingZeros
import Derived.RangeFuncBox
import Derived.Maps.AppendAt
import Derived.OwnWalk
namespace Go.Proofs.YtpplkjjfaibmmaaDoor
open Go Go.Proofs Go.RowKit
attribute [local go_sem] Oper.semAt_some
theorem ctz_bits (x : Nat) (h0 : x ≠ 0) (h : x < 18446744073709551616) : Lib.ctz 64 x < 64 ∧ x.testBit (Lib.ctz 64 x) = true ∧ ∀ j, j < Lib.ctz 64 x → x.testBit j = false := by
  obtain ⟨m, hm, hk⟩ := Lib.ctzFrom_spec 64 x (by omega) (by simpa using h)
  have e : Lib.ctz 64 x = Lib.ctzFrom 64 x := by simp [Lib.ctz, h0]
  rw [e]
  refine ⟨hk, ?_, fun j hj => ?_⟩
  · rw [hm, Nat.testBit_two_pow_mul]
    simp [← hm]
  · rw [hm, Nat.testBit_two_pow_mul]
    have : ¬ Lib.ctzFrom 64 x ≤ j := by omega
    simp [this]
/-- The table lies. -/
def TabAt (w : World) : Prop := ∀ j, j < 64 → w.cell? ⟨0, j, none⟩ = some (.int .u8 (Lib.deBruijn64tab.getD j 0 : Nat))
theorem TabAt.below {n : Nat} {w w' : World} (h : TabAt w) (hb : Below n w w') (hn : 0 < n) : TabAt w' := fun j hj => (hb.cell (p := ⟨0, j, none⟩) hn).trans (h j hj)
set_option maxHeartbeats 1000000 in
theorem tz64_core (x k idx : Nat) (w : World) (hx0 : ((x : Int) == 0) = false)
    (key : IntKind.u64.wrap (bits BinOp.and IntKind.u64 (x : Int) (IntKind.u64.wrap (-(x : Int))) * 285870213051353865) / 288230376151711744 = (idx : Int))
    (hi : idx < 64) (hk : k < 64) (hcell : w.cell? ⟨0, idx, none⟩ = some (.int .u8 k)) :
    Calls Tryd.prog 39 #[.int .u64 x] w fun e w' => e = .returned (.int .i64 k) ∧ w' = w := by
  go_enter Tryd.func39, Tryd.ntmps39
  go_wp2_with (simp only [key])
  go_ret
  exact ⟨rfl, rfl⟩
theorem tz64_key (x a : Nat) (hx : x < 18446744073709551616) (hx0 : x ≠ 0) (hlow : x &&& (18446744073709551616 - x) = a) :
    IntKind.u64.wrap (bits BinOp.and IntKind.u64 (x : Int) (IntKind.u64.wrap (-(x : Int))) * 285870213051353865) / 288230376151711744 = ((a * 285870213051353865 % 18446744073709551616 / 288230376151711744 : Nat) : Int) := by
  have e1 : IntKind.u64.wrap (-(x : Int)) = ((18446744073709551616 - x : Nat) : Int) := by rw [IntKind.wrap_u64]; omega
  rw [e1, bits_and_u64_nat x _ hx (by omega), hlow, IntKind.wrap_u64]
  omega
theorem tz64_k (x : Nat) (hx : x < 18446744073709551616) (hx0 : x ≠ 0) (w : World) (hT : TabAt w) : Calls Tryd.prog 39 #[.int .u64 x] w fun e w' => e = .returned (.int .i64 (Lib.ctz 64 x : Nat)) ∧ w' = w := by
  obtain ⟨hlow, hk⟩ := Lib.lowest_bit 64 x hx0 hx
  obtain ⟨hi, htab⟩ := Lib.deBruijn64_at _ hk
  have hcell := hT _ hi
  rw [htab] at hcell
  exact tz64_core x _ _ w (by simp; omega) (tz64_key x _ hx hx0 hlow) hi hk hcell
theorem wrap_two_pow (r : Nat) (hr : r < 64) : IntKind.u64.wrap ((2 : Int) ^ r) = ((2 ^ r : Nat) : Int) := by
  have h : 2 ^ r < 2 ^ 64 := Nat.pow_lt_pow_right (by decide) hr
  have h : 2 ^ r < 18446744073709551616 := by simpa using h
  have e : ((2 : Int) ^ r) = ((2 ^ r : Nat) : Int) := by simp
  rw [e]
  generalize 2 ^ r = m at *
  rw [IntKind.wrap_u64]
  omega
theorem or_bit (a r : Nat) (ha : a < 18446744073709551616) (hr : r < 64) : bits .or .u64 (a : Int) (IntKind.u64.wrap ((2 : Int) ^ r)) = ((a ||| 2 ^ r : Nat) : Int) := by
  have h : 2 ^ r < 2 ^ 64 := Nat.pow_lt_pow_right (by decide) hr
  rw [wrap_two_pow r hr, bits_or_u64_nat a _ ha (by simpa using h)]
theorem or_lt (a r : Nat) (ha : a < 18446744073709551616) (hr : r < 64) : a ||| 2 ^ r < 18446744073709551616 := by
  have h : 2 ^ r < 2 ^ 64 := Nat.pow_lt_pow_right (by decide) hr
  exact Nat.or_lt_two_pow (n := 64) ha h
theorem or_test (a r j : Nat) : (a ||| 2 ^ r).testBit j = (a.testBit j || decide (r = j)) := by
  rw [Nat.testBit_or, Nat.testBit_two_pow]
theorem not_u64 (x : Nat) (hx : x < 18446744073709551616) : bits .xor .u64 IntKind.u64.max (x : Int) = ((18446744073709551615 - x : Nat) : Int) := by
  have h := bits_xor_u64_nat 18446744073709551615 x (by omega) hx
  have hm : IntKind.u64.max = ((18446744073709551615 : Nat) : Int) := rfl
  rw [hm, h]
  congr 1
  apply Nat.eq_of_testBit_eq
  intro j
  have h1 := Nat.testBit_two_pow_sub_succ (n := 64) (x := x) (by simpa using hx) j
  rw [show (2 : Nat) ^ 64 - (x + 1) = 18446744073709551615 - x by omega] at h1
  have h2 := Nat.testBit_two_pow_sub_one 64 j
  rw [show (2 : Nat) ^ 64 - 1 = 18446744073709551615 by decide] at h2
  rw [Nat.testBit_xor, h1, h2]
  by_cases hj : j < 64
  · simp [hj]
  · have : x.testBit j = false := Nat.testBit_lt_two_pow (Nat.lt_of_lt_of_le (show x < 2 ^ 64 by simpa using hx) (Nat.pow_le_pow_right (by decide) (by omega)))
    simp [hj, this]
/-- The bits of the slots that are used. -/
def usedF (l : List J) (j : Nat) : Bool := l.any fun x => decide (x.s = (j : Int))
set_option maxHeartbeats 4000000 in
theorem free_k (l : List J) (hl : l.length ≤ 1000000) (hs : ∀ x ∈ l, 0 ≤ x.s ∧ x.s < 64) (hex : ∃ j, j < 64 ∧ usedF l j = false) (la : Option Addr) (c : Nat) (w : World) (h0 : 0 < w.heap.size) (hT : TabAt w)
    (hL : l ≠ [] → ∃ B off, la = some ⟨B, off, none⟩ ∧ B < w.heap.size ∧ JRow w B off l) :
    Calls Tryd.prog 22 #[.slice la l.length c] w fun e w' => (∃ r : Nat, e = .returned (.int .i64 r) ∧ r < 64 ∧ usedF l r = false ∧ ∀ j, j < r → usedF l j = true) ∧ Below w.heap.size w w' := by
  go_enter Tryd.func22, Tryd.ntmps22
  go_wp2
  obtain ⟨wo, rfl⟩ : ∃ wo : World, wo = w := ⟨_, rfl⟩
  go_loopw [3, 8] (fun u i wr => ∃ k x : Nat, k ≤ l.length ∧ x < 18446744073709551616 ∧ u = .int .u64 x ∧ i = .int .i64 k ∧ Hid (∀ j, x.testBit j = usedF (l.take k) j) ∧ Below wo.heap.size wo wr) (fun _ i _ => l.length - (intOf i).toNat)
  case atStart => exact ⟨0, 0, Nat.zero_le _, by omega, rfl, rfl, Lib.hid (fun j => by simp [usedF]), Below.refl _ _⟩
  case round =>
    obtain ⟨k, x, hk, hx, rfl, rfl, hb, hB⟩ := hrel
    by_cases hlt : k < l.length
    · obtain ⟨B, off, hla, hBl, hRow⟩ := hL (by intro e; subst e; cases hlt)
      subst hla
      have hj := (hRow.below hB hBl) k hlt
      have hsj := hs l[k] (List.getElem_mem hlt)
      have htk : Hid (l.take (k + 1) = l.take k ++ [l[k]]) := Lib.hid (by rw [List.take_add_one]; simp [hlt])
      generalize l[k] = y at *
      obtain ⟨r, hr⟩ : ∃ r : Nat, y.s = r := ⟨y.s.toNat, by omega⟩
      have hr64 : r < 64 := by omega
      have hor := or_bit x r hx hr64
      have hol := or_lt x r hx hr64
      obtain ⟨c0, c1, c2, c3, c4⟩ := hj
      have hk0 : (0 : Int) ≤ (k : Int) := by omega
      have hk1 : (k : Int) < (l.length : Int) := by omega
      have hlw : B < wr.heap.size := by have := hB.size; omega
      have HR := Lib.hid hr
      have HN : Hid (∀ j, (x ||| 2 ^ r).testBit j = usedF (l.take (k + 1)) j) := Lib.hid (fun j => by
        rw [or_test, hb.out j, htk.out]
        unfold usedF
        rw [List.any_append, List.any_cons, List.any_nil, Bool.or_false, hr]
        congr 1
        rw [decide_eq_decide]
        omega)
      rw [hr] at c0
      have hr0 : ¬ ((r : Int) < 0) := by omega
      have hr1 : (r : Int) < 64 := by omega
      clear hsj hr htk hb
      go_wp2
      go_roundw
      case rel => exact ⟨k + 1, x ||| 2 ^ r, by omega, hol, rfl, by simp, HN, hB.alloc hB.size _⟩
      case measure => simp [intOf]; omega
    · obtain rfl : k = l.length := by omega
      have hb := hb.out
      rw [List.take_length] at hb
      have hc : ∀ j, j < 64 → (18446744073709551615 - x).testBit j = !usedF l j := fun j hj => by
        have := Nat.testBit_two_pow_sub_succ (n := 64) (x := x) (by simpa using hx) j
        rw [show (2 : Nat) ^ 64 - (x + 1) = 18446744073709551615 - x by omega] at this
        rw [this, hb j]
        simp [hj]
      have hne : 18446744073709551615 - x ≠ 0 := fun e => by
        obtain ⟨j, hj, hu⟩ := hex
        have := hc j hj
        rw [e, hu] at this
        simp at this
      have hlt' : 18446744073709551615 - x < 18446744073709551616 := by omega
      obtain ⟨g1, g2, g3⟩ := ctz_bits _ hne hlt'
      have h39 := tz64_k _ hlt' hne wr (hT.below hB h0)
      have hx1 := not_u64 x hx
      obtain ⟨q, hq⟩ : ∃ q, q = Lib.ctz 64 (18446744073709551615 - x) := ⟨_, rfl⟩
      rw [← hq] at h39 g1 g2 g3
      rw [hc q g1] at g2
      have G : Hid (q < 64 ∧ usedF l q = false ∧ ∀ j, j < q → usedF l j = true) := Lib.hid ⟨g1, by simpa using g2, fun j hj => by
        have := g3 j hj
        rw [hc j (by omega)] at this
        simpa using this⟩
      clear hq g1 g2 g3 hc hb hex
      go_wp2_with (go_at_call 39; ((with_reducible refine h39.mono ?_); rintro e W1 ⟨rfl, rfl⟩))
      exact bodyPost_ret (v := .int .i64 q) (by simp [results, Tryd.results22, go_sem]) rfl ⟨⟨q, rfl, G.out⟩, hB⟩
end Go.Proofs.YtpplkjjfaibmmaaDoor

namespace Go.Proofs.YtpplkjjfaibmmaaDoor
open Go Go.Proofs Go.RowKit
attribute [local go_sem] Oper.semAt_some
def encJ (x : J) : List Value := [.int .i64 x.s, .int .i64 x.f, .int .i64 x.t, .int .i64 x.a, .int .i64 x.l]
theorem j_addr_add (B o j : Nat) : (⟨B, o, none⟩ : Addr).add j = ⟨B, o + j, none⟩ := by unfold Addr.add; split <;> simp_all
theorem info38' : (Tryd.prog.info? 38).map (fun i => (i.zero, i.size, i.bytes)) = some (some (.agg #[.int .i64 0, .int .i64 0, .int .i64 0, .int .i64 0, .int .i64 0]), 5, 40) := by kernel_rfl
theorem jflat_len (l : List J) : (l.flatMap encJ).length = l.length * 5 := by
  induction l with
  | nil => rfl
  | cons x l ih => rw [List.flatMap_cons, List.length_append, ih]; simp [encJ]; omega
theorem jflat_get : ∀ (l : List J) (i : Nat) (h : i < l.length) (j : Nat) (v : Value), (encJ l[i])[j]? = some v → (l.flatMap encJ)[i * 5 + j]? = some v
  | x :: l, 0, _, j, v, hv => by
    have hj : j < (encJ x).length := (List.getElem?_eq_some_iff.1 hv).1
    rw [List.flatMap_cons, Nat.zero_mul, Nat.zero_add, List.getElem?_append_left hj]
    exact hv
  | x :: l, i + 1, h, j, v, hv => by
    rw [List.flatMap_cons, List.getElem?_append_right (by simp [encJ]; omega)]
    have := jflat_get l i (by simpa using h) j v (by simpa using hv)
    rw [show (i + 1) * 5 + j - (encJ x).length = i * 5 + j by simp [encJ]; omega]
    exact this
theorem jflat_at : ∀ (l : List J) (k : Nat) (v : Value), (l.flatMap encJ)[k]? = some v → ∃ (i : Nat) (h : i < l.length), (encJ l[i])[k - i * 5]? = some v ∧ i * 5 ≤ k
  | x :: l, k, v, hv => by
    rw [List.flatMap_cons] at hv
    by_cases hk : k < 5
    · rw [List.getElem?_append_left (by simpa [encJ] using hk)] at hv
      exact ⟨0, by simp, by simpa using hv, by omega⟩
    · rw [List.getElem?_append_right (by simp [encJ]; omega)] at hv
      obtain ⟨i, h, h1, h2⟩ := jflat_at l _ v hv
      simp [encJ] at h1 h2
      exact ⟨i + 1, by simpa using h, by simp [encJ]; rw [show k - (i + 1) * 5 = k - 5 - i * 5 by omega]; exact h1, by omega⟩
/-- A row of jobs of one's own. -/
def DRow (w : World) (base : Nat) (v : Value) (l : List J) : Prop := w.ownsRow base 38 5 v l.length (l.flatMap encJ)
/-- A row of jobs that is read. -/
def RRow (w : World) (v : Value) (l : List J) : Prop := ∃ (la : Option Addr) (c : Nat), v = .slice la l.length c ∧ (la = none → l = []) ∧ ∀ a, la = some a → ∃ B off, a = ⟨B, off, none⟩ ∧ B < w.heap.size ∧ JRow w B off l
theorem DRow.read {w : World} {base : Nat} {v : Value} {l : List J} (h : DRow w base v l) : RRow w v l := by
  rcases h.2 with ⟨rfl, hn⟩ | ⟨g, cap, cur, rfl, hg, hh, rest⟩
  · obtain rfl : l = [] := List.eq_nil_of_length_eq_zero hn
    exact ⟨none, 0, rfl, fun _ => rfl, fun a e => by cases e⟩
  · refine ⟨some ⟨g, 0, none⟩, cap, rfl, (fun e => nomatch e), fun a e => ?_⟩
    obtain rfl := Option.some.inj e
    refine ⟨g, 0, rfl, (Array.getElem?_eq_some_iff.1 hh).1, fun i hi => ?_⟩
    have H : ∀ j v, (encJ l[i])[j]? = some v → w.cell? ⟨g, 0 + i * 5 + j, none⟩ = some v := fun j v hv => by
      have := World.ownsRow.cells h (g := g) rfl (i * 5 + j) v (jflat_get l i hi j v hv)
      rw [j_addr_add, Nat.zero_add] at this
      rw [Nat.zero_add]
      exact this
    exact ⟨H 0 _ rfl, H 1 _ rfl, H 2 _ rfl, H 3 _ rfl, H 4 _ rfl⟩
theorem RRow.below {w w' : World} {v : Value} {l : List J} (h : RRow w v l) (hb : Below w.heap.size w w') : RRow w' v l := by
  obtain ⟨la, c, rfl, h1, h2⟩ := h
  exact ⟨la, c, rfl, h1, fun a e => by obtain ⟨B, off, e1, e2, e3⟩ := h2 a e; exact ⟨B, off, e1, Nat.lt_of_lt_of_le e2 hb.size, e3.below hb e2⟩⟩
theorem encJ_one (l : List J) : ∀ v ∈ l.flatMap encJ, v.oneCell' = true := by
  intro v hv
  obtain ⟨x, _, hx⟩ := List.mem_flatMap.1 hv
  simp only [encJ, List.mem_cons, List.not_mem_nil, or_false] at hx
  rcases hx with rfl | rfl | rfl | rfl | rfl <;> rfl
theorem JRow.cells {w : World} {B off : Nat} {l : List J} (h : JRow w B off l) : ∀ j v, (l.flatMap encJ)[j]? = some v → w.cell? ⟨B, off + j, none⟩ = some v := fun k v hv => by
  obtain ⟨i, hi, h1, h2⟩ := jflat_at l k v hv
  obtain ⟨c0, c1, c2, c3, c4⟩ := h i hi
  obtain ⟨j, rfl⟩ : ∃ j, k = i * 5 + j := ⟨k - i * 5, by omega⟩
  rw [show i * 5 + j - i * 5 = j by omega] at h1
  rw [show off + (i * 5 + j) = off + i * 5 + j by omega]
  match j, h1 with
  | 0, h1 => simp [encJ] at h1; subst h1; exact c0
  | 1, h1 => simp [encJ] at h1; subst h1; exact c1
  | 2, h1 => simp [encJ] at h1; subst h1; exact c2
  | 3, h1 => simp [encJ] at h1; subst h1; exact c3
  | 4, h1 => simp [encJ] at h1; subst h1; exact c4
  | j + 5, h1 => simp [encJ] at h1
theorem JRow.of_cells {w : World} {B off : Nat} {l : List J} (h : ∀ j v, (l.flatMap encJ)[j]? = some v → w.cell? ⟨B, off + j, none⟩ = some v) : JRow w B off l := fun i hi => by
  have H : ∀ j v, (encJ l[i])[j]? = some v → w.cell? ⟨B, off + i * 5 + j, none⟩ = some v := fun j v hv => by
    have := h (i * 5 + j) v (jflat_get l i hi j v hv)
    rwa [← Nat.add_assoc] at this
  exact ⟨H 0 _ rfl, H 1 _ rfl, H 2 _ rfl, H 3 _ rfl, H 4 _ rfl⟩
/-- An append of a row of jobs. -/
theorem append_j {ops : Array Oper} {rest : List Oper} {o : Oper} {a : Act} {Q : Exit → Act → World → Prop} (W : World) (base : Nat) (v : Value) (pre l : List J) (hgd : o.guard = none) (s x : Operand)
    (ho : o.op = .call { callee := .builtin .append, args := #[s, x], argTypes := #[24, 24] }) (hs : a.eval s = v) (hown : DRow W base v pre) (B off c : Nat) (hx : a.eval x = .slice (some ⟨B, off, none⟩) l.length c)
    (hc : ∀ j u, (l.flatMap encJ)[j]? = some u → W.cell? ⟨B, off + j, none⟩ = some u) (hl : pre.length + l.length ≤ 1000000) (hb : base ≤ W.heap.size)
    (h : ∀ v' w', DRow w' base v' (pre ++ l) → Below base W w' → wpList Tryd.prog ops Q rest (a.put o.dst v') w') : wpList Tryd.prog ops Q (o :: rest) a W := by
  obtain ⟨ti, hi, hz0, hz1, hz2⟩ := info_parts info38'
  refine wpList_append_own W hgd s x 24 ho base 38 ti (.agg #[.int .i64 0, .int .i64 0, .int .i64 0, .int .i64 0, .int .i64 0]) 5 40 Tryd.underlying24 hi hz0 hz1 hz2 rfl (by decide) v pre.length _ hs hown ⟨B, off, none⟩ l.length c (l.flatMap encJ) hx (jflat_len l)
    (fun j u hj => by rw [j_addr_add]; exact hc j u hj) (encJ_one l) (by unfold maxLen; omega) (by omega) hb ?_
  intro v' w' h1 h2 _
  refine h v' w' ?_ ((Below.refl base W).grown h2 hb fun k hk => (World.ownsRow.lt hown k hk).1)
  unfold DRow
  rw [List.length_append, List.flatMap_append]
  exact h1
theorem eql_some (W : World) (B off n c : Nat) : (binOp .eql 24 (.slice (some ⟨B, off, none⟩) n c) (.slice none 0 0)).run Tryd.prog W = .ok (.bool false) W := by kernel_rfl
theorem eql_none (W : World) (n c : Nat) : (binOp .eql 24 (.slice none n c) (.slice none 0 0)).run Tryd.prog W = .ok (.bool true) W := by kernel_rfl
set_option maxRecDepth 100000 in
set_option maxHeartbeats 2000000 in
theorem clone_k {v : Value} {l : List J} (hl : l.length ≤ 1000000) (w : World) (hR : RRow w v l) : Calls Tryd.prog 35 #[v] w fun e w' => (∃ v', e = .returned v' ∧ DRow w' w.heap.size v' l) ∧ Below w.heap.size w w' := by
  obtain ⟨la, c, rfl, h1, h2⟩ := hR
  cases la with
  | none =>
    obtain rfl := h1 rfl
    have hq := eql_none
    go_enter Tryd.func35, Tryd.ntmps35
    go_wp2
    exact bodyPost_ret (v := .slice none 0 0) (by simp [results, Tryd.results35, go_sem]) rfl ⟨⟨_, rfl, World.ownsRow_nil _ _ _ _⟩, Below.refl _ _⟩
  | some ad =>
    obtain ⟨B, off, rfl, hB, hrow⟩ := h2 _ rfl
    clear h1 h2
    have hq := eql_some
    go_enter Tryd.func35, Tryd.ntmps35
    have hown : DRow (w.alloc (.cells #[] 38)) w.heap.size (.slice (some ⟨w.heap.size, 0, none⟩) 0 0) [] := ⟨rfl, .inr ⟨w.heap.size, 0, #[], rfl, Nat.le_refl _, World.alloc_heap_new w _, Nat.le_refl _, by unfold maxLen; omega, rfl, rfl⟩⟩
    have hB0 : Below w.heap.size w (w.alloc (.cells #[] 38)) := (Below.refl _ w).alloc (Nat.le_refl _) _
    have hrow1 := hrow.below hB0 hB
    go_wp2_with (at_builtin; refine append_j _ w.heap.size _ [] l rfl _ _ rfl rfl hown B off c rfl hrow1.cells (by simpa using hl) (by simp) ?_; intro v' w' hv' hb')
    exact bodyPost_ret (v := v') (by simp [results, Tryd.results35, go_sem]) rfl ⟨⟨_, rfl, hv'⟩, hB0.trans hb'⟩
end Go.Proofs.YtpplkjjfaibmmaaDoor
