/- Marks: slices.Backward of parts 21, its literal 47. -/
import Derived.Test.YtdjeokgkeejpcaaGreatDoorM9
namespace Go.Proofs.YtdjeokgkeejpcaaGreatDoor
open Go Go.Proofs Go.RowKit
attribute [local go_sem] Oper.semAt_some
def bools (X : List Bool) : Array Value := (X.map Value.bool).toArray
def intsA (X : List Int) : Array Value := (X.map (Value.int .i64)).toArray
theorem bools_get {X : List Bool} {i : Nat} (h : i < X.length) : (bools X)[i]? = some (.bool (bt X i)) := by
  simp [bools, bt, h]
theorem intsA_get {X : List Int} {i : Nat} (h : i < X.length) : (intsA X)[i]? = some (.int .i64 (it X i)) := by
  simp [intsA, it, h]
theorem stale1_k (X : List Bool) (g S n cp : Nat) (hn : X.length = n) (j : Nat) (hj : j < n) (w : World) (hS : Bx w S 54 #[.slice (some ⟨g, 0, none⟩) n cp]) (hX : Bx w g 4 (bools X)) :
    Calls Tryz.prog 42 #[.int .i64 j, .pointer (some ⟨S, 0, none⟩)] w fun e w' => e = .returned (.bool (bt X j)) ∧ Below w.heap.size w w' := by
  have h0 : (0 : Int) ≤ (j : Int) := by omega
  have h1 : (j : Int) < (n : Int) := by omega
  have c0 := hS.cell 0
  have c1 : w.cell? ⟨g, j, none⟩ = some (.bool (bt X j)) := (hX.cell j).trans (bools_get (by omega))
  have c1' : w.cell? ⟨g, 0 + j, none⟩ = some (.bool (bt X j)) := by rw [Nat.zero_add]; exact c1
  obtain ⟨v, hv⟩ : ∃ v, v = bt X j := ⟨_, rfl⟩
  rw [← hv] at c1 c1' ⊢
  clear hv
  go_enter Tryz.func42, Tryz.ntmps42
  go_wp2
  go_ret
  exact ⟨rfl, Below.refl _ _⟩
def AnyPost (b : Bool) (e : Ending) : Prop := (b = true ∧ ∃ k : Nat, e = .returned (.int .i64 k)) ∨ (b = false ∧ e = .returned (.int .i64 (-1)))
set_option maxRecDepth 100000 in
set_option maxHeartbeats 4000000 in
theorem index74_k (X : List Bool) (g S n cp : Nat) (hn : X.length = n) (ks : List Int) (hkl : ks.length ≤ 9223372036854775807) (hks : ∀ k, k ∈ ks → ∃ c : Nat, k = c ∧ c < n) (ka : Option Addr) (kc : Nat) (w : World) (hK : IRow w ka ks) (hS : Bx w S 54 #[.slice (some ⟨g, 0, none⟩) n cp]) (hX : Bx w g 4 (bools X)) :
    Calls Tryz.prog 74 #[.slice ka ks.length kc, .func (.func 42) #[] #[.pointer (some ⟨S, 0, none⟩)]] w fun e w' => AnyPost (ks.any fun k => bt X k.toNat) e ∧ Below w.heap.size w w' := by
  go_enter Tryz.func74, Tryz.ntmps74
  go_wp2
  obtain ⟨wo, rfl⟩ : ∃ wo : World, wo = w := ⟨_, rfl⟩
  have HKS := Lib.hid hks
  clear hks
  go_loopw [8] (fun i wr => ∃ k : Nat, k ≤ ks.length ∧ i = .int .i64 k ∧ Hid (∀ (j : Nat) (h : j < ks.length), j < k → bt X ks[j].toNat = false) ∧ Below wo.heap.size wo wr) (fun i _ => ks.length - (intOf i).toNat)
  case atStart => exact ⟨0, Nat.zero_le _, rfl, Lib.hid (fun j _ h => by omega), Below.refl _ _⟩
  case round =>
    obtain ⟨k, hk, rfl, hH, hB⟩ := hrel
    have hk0 : (0 : Int) ≤ (k : Int) := by omega
    by_cases hlt : k < ks.length
    · have hk1 : (k : Int) < (ks.length : Int) := by omega
      obtain ⟨kb, ko, rfl, hkb, q3⟩ := hK.at hlt
      have q3' := (hB.cell (p := ⟨kb, ko + k, none⟩) hkb).trans q3
      obtain ⟨m, hm, hml⟩ := HKS.out _ (List.getElem_mem hlt)
      have HM : Hid (bt X m = false → ∀ (j : Nat) (h : j < ks.length), j < k + 1 → bt X ks[j].toNat = false) := Lib.hid (fun hq j h hj => by
        rcases Nat.lt_or_ge j k with h' | h'
        · exact hH.out j h h'
        · obtain rfl : j = k := by omega
          rw [hm, Int.toNat_natCast]; exact hq)
      have HT : Hid (bt X m = true → (ks.any fun k => bt X k.toNat) = true) := Lib.hid (fun hq => List.any_eq_true.2 ⟨ks[k], List.getElem_mem hlt, by rw [hm, Int.toNat_natCast]; exact hq⟩)
      rw [hm] at q3'
      have h42 := stale1_k X g S n cp hn m hml wr (hS.below hB hS.lt) (hX.below hB hX.lt)
      obtain ⟨v, hv⟩ : ∃ v, v = bt X m := ⟨_, rfl⟩
      rw [← hv] at h42 HM HT
      clear hv hm q3 hml
      cases v with
      | true =>
        have HT' := Lib.hid (HT.out rfl)
        clear HT HM
        go_wp2_with (go_at_call 42; ((with_reducible refine h42.mono ?_); rintro e W1 ⟨rfl, hb1⟩))
        exact bodyPost_ret (v := .int .i64 k) (by simp [results, Tryz.results74, go_sem]) rfl ⟨.inl ⟨HT'.out, k, rfl⟩, hB.trans (hb1.mono hB.size)⟩
      | false =>
        have HM' := Lib.hid (HM.out rfl)
        clear HT HM
        go_wp2_with (go_at_call 42; ((with_reducible refine h42.mono ?_); rintro e W1 ⟨rfl, hb1⟩))
        go_roundw
        case rel => exact ⟨k + 1, by omega, by simp, HM', hB.trans (hb1.mono hB.size)⟩
        case measure => simp [intOf]; omega
    · have hk1 : ¬ (k : Int) < (ks.length : Int) := by omega
      have hno : Hid ((ks.any fun k => bt X k.toNat) = false) := Lib.hid (by
        rw [List.any_eq_false]
        intro x hx
        obtain ⟨j, hj, rfl⟩ := List.getElem_of_mem hx
        rw [hH.out j hj (by omega)]; simp)
      go_wp2_with fail
      exact bodyPost_ret (v := .int .i64 (-1)) (by simp [results, Tryz.results74, go_sem]) rfl ⟨.inr ⟨hno.out, rfl⟩, hB⟩
theorem contains41_k (X : List Bool) (g S n cp : Nat) (hn : X.length = n) (ks : List Int) (hkl : ks.length ≤ 9223372036854775807) (hks : ∀ k, k ∈ ks → ∃ c : Nat, k = c ∧ c < n) (ka : Option Addr) (kc : Nat) (w : World) (hK : IRow w ka ks) (hS : Bx w S 54 #[.slice (some ⟨g, 0, none⟩) n cp]) (hX : Bx w g 4 (bools X)) :
    Calls Tryz.prog 41 #[.slice ka ks.length kc, .func (.func 42) #[] #[.pointer (some ⟨S, 0, none⟩)]] w fun e w' => e = .returned (.bool (ks.any fun k => bt X k.toNat)) ∧ Below w.heap.size w w' := by
  have h74 := index74_k X g S n cp hn ks hkl hks ka kc w hK hS hX
  obtain ⟨v, hv⟩ : ∃ v, v = (ks.any fun k => bt X k.toNat) := ⟨_, rfl⟩
  rw [← hv] at h74 ⊢
  clear hv
  cases v with
  | true =>
    have h74 : Calls Tryz.prog 74 #[.slice ka ks.length kc, .func (.func 42) #[] #[.pointer (some ⟨S, 0, none⟩)]] w fun e w' => (∃ k : Nat, e = .returned (.int .i64 k)) ∧ Below w.heap.size w w' := h74.mono fun e w' ⟨h, hb⟩ => by
      rcases h with ⟨_, h⟩ | ⟨h, _⟩
      · exact ⟨h, hb⟩
      · cases h
    go_enter Tryz.func41, Tryz.ntmps41
    go_wp2_with (go_at_call 74; ((with_reducible refine h74.mono ?_); rintro e W1 ⟨⟨k, rfl⟩, hb1⟩; have hk0 : (0 : Int) ≤ (k : Int) := by omega))
    go_ret
    exact ⟨by simp [hk0], hb1⟩
  | false =>
    have h74 : Calls Tryz.prog 74 #[.slice ka ks.length kc, .func (.func 42) #[] #[.pointer (some ⟨S, 0, none⟩)]] w fun e w' => e = .returned (.int .i64 (-1)) ∧ Below w.heap.size w w' := h74.mono fun e w' ⟨h, hb⟩ => by
      rcases h with ⟨h, _⟩ | ⟨_, h⟩
      · cases h
      · exact ⟨h, hb⟩
    go_enter Tryz.func41, Tryz.ntmps41
    go_wp2_with (go_at_call 74; ((with_reducible refine h74.mono ?_); rintro e W1 ⟨rfl, hb1⟩))
    go_ret
    exact ⟨rfl, hb1⟩
theorem max46_k (a b : Int) (w : World) : Calls Tryz.prog 46 #[.int .i64 a, .int .i64 b] w fun e w' => e = .returned (.int .i64 (max a b)) ∧ w = w' := by
  go_enter Tryz.func46, Tryz.ntmps46
  go_wp2
  all_goals
    go_ret
    first
      | exact ⟨by rw [Int.max_eq_right (by omega)]; rfl, rfl⟩
      | exact ⟨by rw [Int.max_eq_left (by omega)]; rfl, rfl⟩
theorem foldMax_take {l : List Int} {k : Nat} (h : k < l.length) (x : Int) : foldMax (l.take (k + 1)) x = max (foldMax (l.take k) x) l[k] := by
  unfold foldMax
  rw [List.take_succ_eq_append_getElem h, List.foldl_append]; rfl
set_option maxRecDepth 100000 in
set_option maxHeartbeats 4000000 in
theorem fold45_k (l : List Int) (hl : l.length ≤ 1000000) (la : Option Addr) (c : Nat) (x : Int) (w : World) (hR : IRow w la l) :
    Calls Tryz.prog 45 #[.slice la l.length c, .int .i64 x, .func (.func 46) #[] #[]] w fun e w' => e = .returned (.int .i64 (foldMax l x)) ∧ w = w' := by
  obtain ⟨r, hr⟩ : ∃ r, r = foldMax l x := ⟨_, rfl⟩
  rw [← hr]
  have HR := Lib.hid hr
  clear hr
  go_enter Tryz.func45, Tryz.ntmps45
  go_wp2
  obtain ⟨wo, rfl⟩ : ∃ wo : World, wo = w := ⟨_, rfl⟩
  go_loopw [1, 11] (fun a i wr => ∃ (k : Nat) (z : Int), k ≤ l.length ∧ i = .int .i64 k ∧ a = .int .i64 z ∧ Hid (z = foldMax (l.take k) x) ∧ wr = wo) (fun _ i _ => l.length - (intOf i).toNat)
  case atStart => exact ⟨0, x, Nat.zero_le _, rfl, rfl, Lib.hid rfl, rfl⟩
  case round =>
    obtain ⟨k, z, hk, rfl, rfl, hH, rfl⟩ := hrel
    have hk0 : (0 : Int) ≤ (k : Int) := by omega
    by_cases hlt : k < l.length
    · have hk1 : (k : Int) < (l.length : Int) := by omega
      obtain ⟨b, o, rfl, hb, q⟩ := hR.at hlt
      have hst : Hid (max z l[k] = foldMax (l.take (k + 1)) x) := Lib.hid (by rw [foldMax_take hlt, hH.out])
      obtain ⟨y, hy⟩ : ∃ y, y = l[k] := ⟨_, rfl⟩
      rw [← hy] at q hst
      clear hy hR
      have h46 := max46_k z y wr
      go_wp2_with (go_at_call 46; ((with_reducible refine h46.mono ?_); rintro e W1 ⟨rfl, rfl⟩))
      go_roundw
      case rel => exact ⟨k + 1, _, by omega, by simp, rfl, hst, trivial⟩
      case measure => simp [intOf]; omega
    · obtain rfl : k = l.length := by omega
      have hz : Hid (r = z) := Lib.hid (by rw [HR.out, hH.out, List.take_length])
      go_wp2_with fail
      exact bodyPost_ret (v := .int .i64 z) (by simp [results, Tryz.results45, go_sem]) rfl ⟨by rw [hz.out], rfl⟩
end Go.Proofs.YtdjeokgkeejpcaaGreatDoor

namespace Go.Proofs.YtdjeokgkeejpcaaGreatDoor
open Go Go.Proofs Go.RowKit
attribute [local go_sem] Oper.semAt_some
/-- A row of parts with the addresses of its kids. -/
structure PR (w : World) (a : Option Addr) (l : List Pt) (ka : Nat → Option Addr) (kc : Nat → Nat) : Prop where
  row : ∀ j, j < l.length → ∃ b off, a = some ⟨b, off, none⟩ ∧ b < w.heap.size ∧ PtAt w b (off + j * 8) (pt l j) (ka j) (kc j)
  kids : ∀ j, j < l.length → IRow w (ka j) (pt l j).kids ∧ (pt l j).kids.length ≤ 9223372036854775807
theorem PRow.pr {w : World} {a : Option Addr} {l : List Pt} (h : PRow w a l) : ∃ ka kc, PR w a l ka kc := by
  have h1 : ∀ j : Nat, ∃ x : Option Addr × Nat, j < l.length → (∃ b off, a = some ⟨b, off, none⟩ ∧ b < w.heap.size ∧ PtAt w b (off + j * 8) (pt l j) x.1 x.2) ∧ IRow w x.1 (pt l j).kids ∧ (pt l j).kids.length ≤ 9223372036854775807 := fun j => by
    by_cases hj : j < l.length
    · obtain ⟨b, off, ka, kc, e, hb, y, hk, hkl⟩ := h.at hj
      rw [← pt_get hj] at y hk hkl
      exact ⟨(ka, kc), fun _ => ⟨⟨b, off, e, hb, y⟩, hk, hkl⟩⟩
    · exact ⟨(none, 0), fun h => absurd h hj⟩
  refine ⟨fun j => (Classical.choose (h1 j)).1, fun j => (Classical.choose (h1 j)).2, fun j hj => (Classical.choose_spec (h1 j) hj).1, fun j hj => (Classical.choose_spec (h1 j) hj).2⟩
theorem PR.below {w w' : World} {a : Option Addr} {l : List Pt} {ka : Nat → Option Addr} {kc : Nat → Nat} (h : PR w a l ka kc) (hb : Below w.heap.size w w') : PR w' a l ka kc :=
  ⟨fun j hj => by
    obtain ⟨b, off, e, hbl, y⟩ := h.row j hj
    exact ⟨b, off, e, Nat.lt_of_lt_of_le hbl hb.size, y.below hb hbl⟩, fun j hj => ⟨(h.kids j hj).1.below hb (Nat.le_refl _), (h.kids j hj).2⟩⟩
theorem back21_k (l : List Pt) (la : Option Addr) (c : Nat) (w : World) :
    Calls Tryz.prog 21 #[.slice la l.length c] w fun e w' => e = .returned (.func (.func 47) #[] #[.pointer (some ⟨w.heap.size, 0, none⟩)]) ∧ Below w.heap.size w w' ∧ w'.heap.size = w.heap.size + 1 ∧ Bx w' w.heap.size 22 #[.slice la l.length c] := by
  have b0 := Bx.new w 22 #[.slice la l.length c]
  have hB := (Below.refl _ w).alloc (Nat.le_refl _) (.cells #[.slice la l.length c] 22)
  go_enter Tryz.func21, Tryz.ntmps21
  go_wp2_with fail
  go_ret
  exact ⟨rfl, hB, by simp, b0⟩
def BkRel (w0 : World) (L D0 : Nat) (hdr : Value) (l : List Pt) (J : List Nat → World → Prop) (iv : Value) (wr : World) : Prop :=
  ∃ (pre : List Nat) (k : Nat), pre.length + k = l.length ∧ iv = .int .i64 ((k : Int) - 1) ∧ Fw w0 L hdr wr ∧ J pre wr ∧ D0 ≤ wr.heap.size
set_option maxRecDepth 100000 in
set_option maxHeartbeats 8000000 in
theorem back1_in (n : Nat) (hn1 : 1 ≤ n) {w0 : World} {L : Nat} (l : List Pt) (hl : l.length ≤ 120) (la : Option Addr) (c : Nat) (ka : Nat → Option Addr) (kc : Nat → Nat) (hR : PR w0 la l ka kc) (y H : Nat) (W : World) (hS : Fw w0 L (.slice la l.length c) W)
    (J : List Nat → World → Prop)
    (hY : ∀ (pre : List Nat) (x : Nat) (W1 : World), J pre W1 → W.heap.size ≤ W1.heap.size → pre.length + x + 1 = l.length → YieldAt Fence.wide (n - 1) Tryz.prog y #[.int .i64 (x : Nat), ptV (pt l x) (ka x) (kc x)] W1 fun e W' => e = .returned (.bool true) ∧ J (pre ++ [x]) W' ∧ AX.Keep (Wb w0.heap.size L) H W1 W')
    (h0 : J [] W) : CallsIn Fence.wide n Tryz.prog 47 #[.func (.yield y) #[] #[], .pointer (some ⟨L, 0, none⟩)] W fun e W' => (∃ v, e = .returned v) ∧ ∃ xs, xs.length = l.length ∧ J xs W' := by
  have c0 := hS.l.cell 0
  have hl0 : (0 : Int) ≤ (l.length : Int) := by omega
  unfold ptV at hY
  refine callsIn_of_wp Tryz.func47 rfl trivial ?_ rfl
  simp only [Tryz.ntmps47, List.size_toArray, List.length_cons, List.length_nil, Nat.reduceAdd, Nat.reduceSub, Array.replicate_succ, Array.replicate_zero, List.push_toArray, List.append_toArray, List.nil_append, List.cons_append]
  gi_wp2_with fail
  gi_loopw [3] (fun i wr => BkRel w0 L W.heap.size (.slice la l.length c) l J i wr) (fun i _ => (intOf i + 1).toNat)
  case atStart => exact ⟨[], l.length, by simp, by simp, hS, h0, Nat.le_refl _⟩
  case round =>
    obtain ⟨pre, k, hpk, rfl, hSr, hJr, hWr⟩ := hrel
    clear c0 hS h0
    have c0 := hSr.l.cell 0
    by_cases hk : k = 0
    · subst hk
      have hneg : ¬ (0 : Int) ≤ (((0 : Nat) : Int) - 1) := by omega
      gi_wp2_with fail
      go_end0
      exact ⟨⟨_, rfl⟩, pre, by omega, hJr⟩
    · obtain ⟨j, rfl⟩ : ∃ j, k = j + 1 := ⟨k - 1, by omega⟩
      have hj : j < l.length := by omega
      obtain ⟨b, off, rfl, hbl, z⟩ := hR.row j hj
      have z := z.below hSr.b hbl
      obtain ⟨fn, tmps, assign, body, hy, hRo⟩ := hY pre j wr hJr hWr (by omega)
      have hidx : (((j + 1 : Nat) : Int) - 1) = (j : Int) := by omega
      rw [hidx]
      obtain ⟨KA, hKA⟩ : ∃ x, x = ka j := ⟨_, rfl⟩
      obtain ⟨KC, hKC⟩ : ∃ x, x = kc j := ⟨_, rfl⟩
      obtain ⟨p, hp⟩ : ∃ p, p = pt l j := ⟨_, rfl⟩
      rw [← hKA, ← hKC, ← hp] at z hy
      clear hKA hKC hp hidx
      obtain ⟨y0, y1, y2, y3, y4, y5, y6, y7⟩ := z
      have hj0 : (0 : Int) ≤ (j : Int) := by omega
      have hj1 : (j : Int) < (l.length : Int) := by omega
      gi_wp2_with fail
      refine hRo.mono ?_
      rintro e1 W4 ⟨rfl, hJ4, hK4⟩
      have hS4 := hSr.keep hK4
      have hW4 := Nat.le_trans hWr hK4.low.size
      clear hy hRo hSr hK4 hJr c0 y0 y1 y2 y3 y4 y5 y6 y7
      gi_wp2_with fail
      go_roundw
      case rel => exact ⟨pre ++ [j], j, by rw [List.length_append, List.length_singleton]; omega, rfl, hS4, hJ4, hW4⟩
      case measure => simp [intOf] <;> omega
end Go.Proofs.YtdjeokgkeejpcaaGreatDoor
