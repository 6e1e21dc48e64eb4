/- Lexer: Window, where it answers. -/
import Derived.Test.YtefjfbhffmkikaaGreatDoorL31
import Derived.Test.YtefjfbhffmkikaaGreatDoorL16
import Derived.Laws.BytesArg
namespace Go.Proofs.YtefjfbhffmkikaaGreatDoor
open Go Go.Proofs Go.RowKit
attribute [local go_sem] Oper.semAt_some
def encB (x : Nat) : Value := .int .u8 (x : Int)
def BRow (w : World) (base : Nat) (v : Value) (l : List Nat) : Prop := w.ownsRow base 5 1 v l.length (l.map encB)
theorem info5 : (Tryz.prog.info? 5).map (fun i => (i.zero, i.size, i.bytes)) = some (some (.int .u8 0), 1, 1) := by kernel_rfl
theorem append_bIn {F : Fence} {n : Nat} {ops : Array Oper} {rest : List Oper} {o : Oper} {a : Act} {Q : Exit → Act → World → Prop} (W : World) (base : Nat) (v : Value) (pre : List Nat) (y : Nat) (hgd : o.guard = none) (s x : Operand)
    (ho : o.op = .call { callee := .builtin .append, args := #[s, x], argTypes := #[57, 57] }) (hs : a.eval s = v) (hown : BRow W base v pre) (ad : Addr) (hx : a.eval x = .slice (some ad) 1 1)
    (hc : W.cell? ad = some (encB y)) (hl : pre.length ≤ 1000000) (hb : base ≤ W.heap.size)
    (h : ∀ v' w', BRow w' base v' (pre ++ [y]) → W.grownBy w' v.ownBlock → wpListIn F n Tryz.prog ops Q rest (a.put o.dst v') w') : wpListIn F n Tryz.prog ops Q (o :: rest) a W := by
  obtain ⟨ti, hi, hz0, hz1, hz2⟩ := info_parts info5
  refine wpListIn_append_own W hgd s x 57 ho base 5 ti (.int .u8 0) 1 1 Tryz.underlying57 hi hz0 hz1 hz2 rfl (by decide) v pre.length _ hs hown ad 1 1 [encB y] hx rfl (fun j u hj => ?_) (fun u hu => by rw [List.mem_singleton.1 hu]; rfl) (by unfold maxLen; omega) (by omega) hb ?_
  · match j, hj with
    | 0, hj =>
      obtain rfl : encB y = u := by simpa using hj
      have : ad.add 0 = ad := by unfold Addr.add; split <;> simp_all
      rw [this]; exact hc
  · intro v' w' h1 h2 _
    refine h v' w' ?_ h2
    unfold BRow
    rw [List.length_append, List.map_append]
    exact h1
theorem append_b {ops : Array Oper} {rest : List Oper} {o : Oper} {a : Act} {Q : Exit → Act → World → Prop} (W : World) (base : Nat) (v : Value) (pre : List Nat) (y : Nat) (hgd : o.guard = none) (s x : Operand)
    (ho : o.op = .call { callee := .builtin .append, args := #[s, x], argTypes := #[57, 57] }) (hs : a.eval s = v) (hown : BRow W base v pre) (ad : Addr) (hx : a.eval x = .slice (some ad) 1 1)
    (hc : W.cell? ad = some (encB y)) (hl : pre.length ≤ 1000000) (hb : base ≤ W.heap.size)
    (h : ∀ v' w', BRow w' base v' (pre ++ [y]) → Below base W w' → wpList Tryz.prog ops Q rest (a.put o.dst v') w') : wpList Tryz.prog ops Q (o :: rest) a W := by
  obtain ⟨ti, hi, hz0, hz1, hz2⟩ := info_parts info5
  refine wpList_append_own W hgd s x 57 ho base 5 ti (.int .u8 0) 1 1 Tryz.underlying57 hi hz0 hz1 hz2 rfl (by decide) v pre.length _ hs hown ad 1 1 [encB y] hx rfl (fun j u hj => ?_) (fun u hu => by rw [List.mem_singleton.1 hu]; rfl) (by unfold maxLen; omega) (by omega) hb ?_
  · match j, hj with
    | 0, hj =>
      obtain rfl : encB y = u := by simpa using hj
      have : ad.add 0 = ad := by unfold Addr.add; split <;> simp_all
      rw [this]; exact hc
  · intro v' w' h1 h2 _
    refine h v' w' ?_ ((Below.refl base W).grown h2 hb fun k hk => (hown.lt k hk).1)
    unfold BRow
    rw [List.length_append, List.map_append]
    exact h1
def bstr (l : List Nat) : ByteArray := ⟨(l.map UInt8.ofNat).toArray⟩
theorem conv_row {W : World} {base : Nat} {v : Value} {l : List Nat} (h : BRow W base v l) : (convert 57 9 v).run Tryz.prog W = .ok (.string (bstr l)) W := by
  rcases h.2 with ⟨rfl, hn⟩ | ⟨g, cap, cur, rfl, _⟩
  · obtain rfl : l = [] := List.eq_nil_of_length_eq_zero hn
    exact run_convert_bytes_nil W 57 5 Tryz.underlying57 Tryz.underlying5 _ _ 9 Tryz.underlying9
  · have := run_convert_bytes_arg (P := Tryz.prog) W 57 5 Tryz.underlying57 Tryz.underlying5 g 0 l.length cap (List.map (fun x : Nat => (x : Int)) l) (by simp) (fun i hi => by
      have := World.ownsRow.cellAt h i (by omega)
      rw [Nat.zero_add, this]
      simp [hi, encB]) 9 Tryz.underlying9
    rw [this, show strOfNums (List.map (fun x : Nat => (x : Int)) l) = bstr l from by unfold strOfNums bstr; rw [List.map_map]; rfl]
/-- A token's byte in a window. -/
def byt (t : Tk) : Nat := if t.k = -2 then 255 else if t.k = -1 then 254 else t.k.toNat
def extF (l : List Tk) (e : Nat) : Nat := l.foldl (fun e t => max e t.e) e
/-- What a window answers. -/
def winT (R : List Tk) (i0 : Nat) (k : Int) : Value := .tuple #[.string (bstr ((R.take k.toNat).map byt)), .int .i64 (extF (R.take k.toNat) i0 : Nat), .int .i64 0]
end Go.Proofs.YtefjfbhffmkikaaGreatDoor

namespace Go.Proofs.YtefjfbhffmkikaaGreatDoor
open Go Go.Proofs Go.RowKit
attribute [local go_sem] Oper.semAt_some
section
variable {next rule kind : List Int} {kinds : Int} {an ar ak : Option Addr} {cn cr ck : Nat} {w : World}
theorem BRow.below {n₀ B : Nat} {v : Value} {l : List Nat} {w w' : World} (h : BRow w B v l) (hb : Below n₀ w w') (hl : w.heap.size ≤ n₀) : BRow w' B v l := by
  refine ⟨h.1, ?_⟩
  rcases h.2 with hn | ⟨g, cap, cur, rfl, hg, hh, rest⟩
  · exact .inl hn
  · exact .inr ⟨g, cap, cur, rfl, hg, (hb.block g (Nat.lt_of_lt_of_le (Array.getElem?_eq_some_iff.1 hh).1 hl)).trans hh, rest⟩
theorem BRow.turn {W W' : World} {b base : Nat} {v : Value} {l : List Nat} (h : BRow W base v l) (h4 : ∀ k, k ≠ b → W'.heap[k]? = W.heap[k]?) (hb : b < base ∨ W.heap.size ≤ b) : BRow W' base v l := by
  refine ⟨h.1, ?_⟩
  rcases h.2 with hn | ⟨g, cap, cur, rfl, hg, hh, rest⟩
  · exact .inl hn
  · exact .inr ⟨g, cap, cur, rfl, hg, (h4 g (by have := (Array.getElem?_eq_some_iff.1 hh).1; omega)).trans hh, rest⟩
theorem BRow.turn0 {W W' : World} {base : Nat} {v : Value} {l : List Nat} (h : BRow W base v l) (b : Nat) (h4 : ∀ k, k ≠ b → W'.heap[k]? = W.heap[k]?) (hb : ∀ g, v.ownBlock = some g → g ≠ b) : BRow W' base v l := by
  refine ⟨h.1, ?_⟩
  rcases h.2 with hn | ⟨g, cap, cur, rfl, hg, hh, rest⟩
  · exact .inl hn
  · exact .inr ⟨g, cap, cur, rfl, hg, (h4 g (hb g rfl)).trans hh, rest⟩
theorem extF_snoc (l : List Tk) (t : Tk) (e : Nat) : extF (l ++ [t]) e = max (extF l e) t.e := by unfold extF; rw [List.foldl_append]; rfl
theorem byt_lt {t : Tk} (h1 : -2 ≤ t.k) (h2 : t.k < 16) : byt t < 256 := by unfold byt; split <;> (try split) <;> omega
set_option maxRecDepth 100000 in
set_option maxHeartbeats 8000000 in
theorem rWindow_in (hn : next.length ≤ 1000000) (hr : rule.length ≤ 1000000) (hk : kind.length ≤ 1000000) (hN : IRow w an next) (hR : IRow w ar rule) (hK : IRow w ak kind) (s : ByteArray) (at_ : Nat) (hs : s.size ≤ 1000) (hok : okL next rule kind kinds = true) (hi : at_ ≤ s.size) (k : Int) (hk9 : k ≤ 9) :
    Calls Tryz.prog 11 #[lV an ar ak next.length rule.length kind.length cn cr ck kinds, .string s, .int .i64 at_, .int .i64 k] w fun e w' => e = .returned (winT (rowV next rule kind (sb s) at_) at_ k) ∧ Below w.heap.size w w' := by
  have hNx := fun W (hb : Below w.heap.size w W) => rNext_k (cn := cn) (cr := cr) (ck := ck) (kinds := kinds) hn hr hk (hN.below hb (Nat.le_refl _)) (hR.below hb (Nat.le_refl _)) (hK.below hb (Nat.le_refl _)) s (at_ : Int) (by omega)
  have hnx := fun (a : Nat) (ha : a ≤ s.size) W (hb : Below w.heap.size w W) => rnext_k (cn := cn) (cr := cr) (ck := ck) (hN.below hb (Nat.le_refl _)) (hR.below hb (Nat.le_refl _)) (hK.below hb (Nat.le_refl _)) hok s a ha (by omega)
  unfold nextV at hNx
  rw [if_pos ⟨hok, by omega, by omega⟩, Int.toNat_natCast] at hNx
  unfold lV tkV at *
  have hF := fits_of hok
  clear hN hR hK
  have hB := (Below.refl w.heap.size w).alloc (Nat.le_refl _) (.cells #[.slice an next.length cn, .slice ar rule.length cr, .slice ak kind.length ck, .int .i64 kinds] 26)
  have hD : Bx (w.alloc (.cells #[.slice an next.length cn, .slice ar rule.length cr, .slice ak kind.length ck, .int .i64 kinds] 26)) w.heap.size 26 #[.slice an next.length cn, .slice ar rule.length cr, .slice ak kind.length ck, .int .i64 kinds] := Bx.new _ _ _
  have h7 := hNx _ hB
  clear hNx
  generalize tokV next rule kind (sb s) at_ = t0 at h7
  have hbt := fun (i : Nat) (h : i ≤ s.size) => tok_bd hF (sb_lt s) (i := i) (by rw [sb_len]; exact h)
  have hln := fun (i : Nat) (h : i ≤ s.size) => rowV_len hF (sb_lt s) _ i (Nat.le_refl _) (by rw [sb_len]; exact h)
  have hre := fun (i : Nat) (h : i ≤ s.size) => rowV_eq hF (sb_lt s) (i := i) (by rw [sb_len]; exact h)
  simp only [sb_len] at hbt hln
  go_enter Tryz.func11, Tryz.ntmps11
  go_wp2_with fail
  generalize w.alloc (.cells #[.slice an next.length cn, .slice ar rule.length cr, .slice ak kind.length ck, .int .i64 kinds] 26) = W0 at *
  have hw0 := hD.lt
  go_wp2_with (first
    | (go_at_call 7; ((with_reducible refine h7.mono ?_); rintro e W1 ⟨rfl, hb1⟩; have hB1 := hB.trans (hb1.mono (Nat.le_of_lt hw0)); have hD1 := hD.below hb1 hw0; have hX0 := Bx.new W1 30 #[.int .i64 0, .int .i64 0, .int .i64 0, .int .i64 0, .int .i64 0]; have hD2 := hD1.alloc (.cells #[.int .i64 0, .int .i64 0, .int .i64 0, .int .i64 0, .int .i64 0] 30); have hB2 := hB1.alloc hB1.size (.cells #[.int .i64 0, .int .i64 0, .int .i64 0, .int .i64 0, .int .i64 0] 30); have hl1 := hD1.lt; clear h7))
    | ((with_reducible refine st_id ?_); refine AX.wpList_storeBox (vs := [.int .i64 t0.k, .int .i64 t0.f, .int .i64 t0.a, .int .i64 t0.t, .int .i64 t0.e]) rfl rfl sz30 hX0 rfl rfl ?_; rintro W3 h3 h4 h5; have hX3 : Bx W3 W1.heap.size 30 _ := h3; have hD3 := hD2.turn (by omega) h4; have hB3 := hB2.trans (AX.below_turn (n := w.heap.size) (by omega) (.inl hX3.lt) h4 h5); clear h3 h4 h5 hX3))
  go_loopw [2, 13, 14, 15] (fun a vo e i wr => ∃ (p : List Tk) (pos : Nat), a = .int .i64 pos ∧ pos ≤ s.size ∧ i = .int .i64 (p.length : Nat) ∧ p.length ≤ k.toNat ∧ e = .int .i64 (extF p at_ : Nat) ∧ BRow wr (w.heap.size + 1) vo (p.map byt) ∧ Bx wr w.heap.size 26 #[.slice an next.length cn, .slice ar rule.length cr, .slice ak kind.length ck, .int .i64 kinds] ∧ Below w.heap.size w wr ∧ Hid (p ++ rowV next rule kind (sb s) pos = rowV next rule kind (sb s) at_)) (fun _ _ _ i _ => (k - intOf i).toNat)
  case atStart => exact ⟨[], at_, rfl, hi, rfl, Nat.zero_le _, rfl, World.ownsRow_nil _ _ _ _, hD3, hB3, Lib.hid rfl⟩
  case round =>
    obtain ⟨p, pos, rfl, hpos, rfl, hpk, rfl, hRo, hDb, hBb, HM⟩ := hrel
    clear hD3 hB3
    by_cases hlt : (p.length : Int) < k
    · have d0 : wr.cell? ⟨w.heap.size, 0, none⟩ = some (.slice an next.length cn) := hDb.cell 0
      have d1 : wr.cell? ⟨w.heap.size, 1, none⟩ = some (.slice ar rule.length cr) := hDb.cell 1
      have d2 : wr.cell? ⟨w.heap.size, 2, none⟩ = some (.slice ak kind.length ck) := hDb.cell 2
      have d3 : wr.cell? ⟨w.heap.size, 3, none⟩ = some (.int .i64 kinds) := hDb.cell 3
      have h24 := hnx pos hpos wr hBb
      have hbi := hbt pos hpos
      have hrv := hre pos hpos
      obtain ⟨t, ht⟩ : ∃ t, t = tokV next rule kind (sb s) pos := ⟨_, rfl⟩
      rw [← ht] at h24 hbi hrv
      obtain ⟨b1, b2, b3, b4, b5, b6, b7, b8⟩ := hbi
      obtain ⟨E, hE⟩ : ∃ E, E = extF p at_ := ⟨_, rfl⟩
      obtain ⟨E', hE'⟩ : ∃ E', E' = extF (p ++ [t]) at_ := ⟨_, rfl⟩
      have hmx : max (E : Int) (t.e : Int) = (E' : Int) := by rw [hE', extF_snoc, ← hE]; omega
      rw [← hE]
      obtain ⟨pl, hpl⟩ : ∃ pl, pl = p.length := ⟨_, rfl⟩
      rw [← hpl] at hpk hlt ⊢
      have HV := Lib.hid hrv
      have HE := Lib.hid hE'
      have HP := Lib.hid hpl
      clear ht b1 b4 b5 b7 hE hE' hrv hre hln hbt
      go_wp2_with (first
        | (go_at_call 24; ((with_reducible refine h24.mono ?_); rintro e W3 ⟨rfl, hb3⟩; have hX0 := Bx.new W3 30 #[.int .i64 0, .int .i64 0, .int .i64 0, .int .i64 0, .int .i64 0]; have hd3 := (hDb.below hb3 hDb.lt).alloc (.cells #[.int .i64 0, .int .i64 0, .int .i64 0, .int .i64 0, .int .i64 0] 30); have hbb3 := hBb.trans (hb3.mono hBb.size); have hB3 := hbb3.alloc hbb3.size (.cells #[.int .i64 0, .int .i64 0, .int .i64 0, .int .i64 0, .int .i64 0] 30); have hr3 := hRo.below hb3 (Nat.le_refl _); have hr3 : BRow _ _ _ _ := World.ownsRow.alloc hr3 (.cells #[.int .i64 0, .int .i64 0, .int .i64 0, .int .i64 0, .int .i64 0] 30); have hl3 := hDb.lt; have hl4 := hb3.size; clear h24))
        | ((with_reducible refine st_id ?_); refine AX.wpList_storeBox (vs := [.int .i64 t.k, .int .i64 t.f, .int .i64 t.a, .int .i64 t.t, .int .i64 t.e]) rfl rfl sz30 hX0 rfl rfl ?_; rintro W4 h3 h4 h5; have hX4 : Bx W4 W3.heap.size 30 #[.int .i64 t.k, .int .i64 t.f, .int .i64 t.a, .int .i64 t.t, .int .i64 t.e] := h3; have hD4 := hd3.turn (by omega) h4; have hB4 := hB3.trans (AX.below_turn (n := w.heap.size) (by omega) (.inl hX4.lt) h4 h5); have hR4 := hr3.turn0 W3.heap.size h4 (fun g e => by have := (hRo.below hb3 (Nat.le_refl _)).2; exact Nat.ne_of_lt (World.ownsRow.lt (hRo.below hb3 (Nat.le_refl _)) g e).2); clear h3 h4 h5 hd3 hB3 hr3 hX0))
      obtain ⟨x0, x1, x2, x3, x4⟩ := Bx.five hX4
      go_region
      have hX5 : Bx W4.drew W3.heap.size 30 #[.int .i64 t.k, .int .i64 t.f, .int .i64 t.a, .int .i64 t.t, .int .i64 t.e] := hX4
      have hD5 : Bx W4.drew w.heap.size 26 _ := hD4
      have hB5 : Below w.heap.size w W4.drew := hB4.drew
      have hR5 : BRow W4.drew (w.heap.size + 1) u13 (p.map byt) := hR4
      have hpm : (p.map byt).length ≤ 1000000 := by rw [List.length_map, ← HP.out]; omega
      clear hX4 hD4 hB4 hR4 x0 x1 x2 x3 x4
      generalize W4.drew = W5 at *
      obtain ⟨x0, x1, x2, x3, x4⟩ := Bx.five hX5
      have hX5l := hX5.lt
      by_cases q2 : t.k = -2
      · have hE : p ++ [t] = rowV next rule kind (sb s) at_ := by rw [← HM.out, HV.out, if_pos q2]
        have hby : byt t = 255 := by unfold byt; rw [if_pos q2]
        have HF : Hid (winT (rowV next rule kind (sb s) at_) at_ k = .tuple #[.string (bstr (p.map byt ++ [255])), .int .i64 E', .int .i64 0]) := Lib.hid (by
          unfold winT
          rw [← hE, List.take_of_length_le (by rw [List.length_append, ← HP.out]; simp; omega), ← HE.out, List.map_append, List.map_singleton, hby])
        rw [q2] at x0
        clear q2 hE hby
        go_wp2_with (at_builtin; refine append_b _ (w.heap.size + 1) _ (p.map byt) 255 rfl _ _ rfl rfl (World.ownsRow.alloc hR5 (.cells #[.int .u8 255] 5)) ⟨W5.heap.size, 0, none⟩ rfl (Bx.cell (Bx.new W5 5 #[.int .u8 255]) 0) hpm (by simp; omega) ?_; intro v6 W6 hR6 hb6; have hcv := conv_row hR6)
        exact bodyPost_ret (v := .tuple #[.string (bstr (p.map byt ++ [255])), .int .i64 E', .int .i64 0]) (by simp [results, Tryz.results11, go_sem]) rfl ⟨by rw [HF.out], (hB5.alloc hB5.size (.cells #[.int .u8 255] 5)).trans (hb6.mono (by omega))⟩
      · have hE : (p ++ [t]) ++ rowV next rule kind (sb s) t.t = rowV next rule kind (sb s) at_ := by rw [← HM.out, HV.out, if_neg q2, List.append_assoc]; rfl
        have HF := Lib.hid hE
        have g2 : (t.k == -2) = false := by simp [q2]
        clear hE
        by_cases q1 : t.k = -1
        · have hby : byt t = 254 := by unfold byt; rw [if_neg q2, if_pos q1]
          have HY := Lib.hid hby
          have HPm : Hid ((p ++ [t]).map byt = p.map byt ++ [254]) := Lib.hid (by rw [List.map_append, List.map_singleton, hby])
          rw [q1] at x0
          clear q1 q2 hby g2
          go_wp2_with (at_builtin; refine append_b _ (w.heap.size + 1) _ (p.map byt) 254 rfl _ _ rfl rfl (World.ownsRow.alloc hR5 (.cells #[.int .u8 254] 5)) ⟨W5.heap.size, 0, none⟩ rfl (Bx.cell (Bx.new W5 5 #[.int .u8 254]) 0) hpm (by simp; omega) ?_; intro v6 W6 hR6 hb6)
          have hD6 := (hD5.alloc (.cells #[.int .u8 254] 5)).below hb6 (Nat.lt_succ_self _)
          have hB6 := (hB5.alloc hB5.size (.cells #[.int .u8 254] 5)).trans (hb6.mono (by omega))
          go_roundw
          case rel => exact ⟨p ++ [t], t.t, rfl, b6, by rw [List.length_append]; first | (simp; done) | (rw [HP.out]; simp), by rw [List.length_append, ← HP.out]; simp; omega, by rw [HE.out], by rw [HPm.out]; exact hR6, hD6, hB6, HF⟩
          case measure => simp [intOf]; omega
        · obtain ⟨y, hy⟩ : ∃ y : Nat, t.k = y := ⟨t.k.toNat, by omega⟩
          have hby : byt t = y := by unfold byt; rw [if_neg q2, if_neg q1, hy, Int.toNat_natCast]
          have HPm : Hid ((p ++ [t]).map byt = p.map byt ++ [y]) := Lib.hid (by rw [List.map_append, List.map_singleton, hby])
          have hw8 : IntKind.u8.wrap (y : Int) = y := by rw [IntKind.wrap_u8]; omega
          have g1 : ((y : Int) == -1) = false := by rw [beq_eq_false_iff_ne]; omega
          have g2 : ((y : Int) == -2) = false := by rw [beq_eq_false_iff_ne]; omega
          rw [hy] at x0
          clear q1 q2 hby hy
          go_wp2_with (at_builtin; refine append_b _ (w.heap.size + 1) _ (p.map byt) y rfl _ _ rfl rfl (World.ownsRow.alloc hR5 (.cells #[.int .u8 y] 5)) ⟨W5.heap.size, 0, none⟩ rfl (Bx.cell (Bx.new W5 5 #[.int .u8 y]) 0) hpm (by simp; omega) ?_; intro v6 W6 hR6 hb6)
          have hD6 := (hD5.alloc (.cells #[.int .u8 y] 5)).below hb6 (Nat.lt_succ_self _)
          have hB6 := (hB5.alloc hB5.size (.cells #[.int .u8 y] 5)).trans (hb6.mono (by omega))
          go_roundw
          case rel => exact ⟨p ++ [t], t.t, rfl, b6, by rw [List.length_append]; first | (simp; done) | (rw [HP.out]; simp), by rw [List.length_append, ← HP.out]; simp; omega, by rw [HE.out], by rw [HPm.out]; exact hR6, hD6, hB6, HF⟩
          case measure => simp [intOf]; omega
    · have HF : Hid (winT (rowV next rule kind (sb s) at_) at_ k = .tuple #[.string (bstr (p.map byt)), .int .i64 (extF p at_ : Nat), .int .i64 0]) := Lib.hid (by
        unfold winT
        rw [← HM.out, List.take_left' (by omega)])
      have hcv := conv_row hRo
      clear hre hln hbt hnx
      go_wp2_with fail
      exact bodyPost_ret (v := .tuple #[.string (bstr (p.map byt)), .int .i64 (extF p at_ : Nat), .int .i64 0]) (by simp [results, Tryz.results11, go_sem]) rfl ⟨by rw [HF.out], hBb⟩
set_option maxRecDepth 100000 in
set_option maxHeartbeats 4000000 in
theorem rWindow_out (hn : next.length ≤ 1000000) (hr : rule.length ≤ 1000000) (hk : kind.length ≤ 1000000) (hN : IRow w an next) (hR : IRow w ar rule) (hK : IRow w ak kind) (s : ByteArray) (at_ : Int) (hs : s.size ≤ 1000) (ho : ¬ (okL next rule kind kinds = true ∧ 0 ≤ at_ ∧ at_ ≤ s.size)) (k : Int) :
    Calls Tryz.prog 11 #[lV an ar ak next.length rule.length kind.length cn cr ck kinds, .string s, .int .i64 at_, .int .i64 k] w fun e w' => e = .returned (.tuple #[.string ⟨#[]⟩, .int .i64 0, .int .i64 2]) ∧ Below w.heap.size w w' := by
  have hNx := fun W (hb : Below w.heap.size w W) => rNext_k (cn := cn) (cr := cr) (ck := ck) (kinds := kinds) hn hr hk (hN.below hb (Nat.le_refl _)) (hR.below hb (Nat.le_refl _)) (hK.below hb (Nat.le_refl _)) s at_ (by omega)
  unfold nextV at hNx
  rw [if_neg ho] at hNx
  unfold lV at *
  have hB := (Below.refl w.heap.size w).alloc (Nat.le_refl _) (.cells #[.slice an next.length cn, .slice ar rule.length cr, .slice ak kind.length ck, .int .i64 kinds] 26)
  have h7 := hNx _ hB
  have hw0 := (Bx.new w 26 #[.slice an next.length cn, .slice ar rule.length cr, .slice ak kind.length ck, .int .i64 kinds]).lt
  clear hN hR hK ho hNx
  go_enter Tryz.func11, Tryz.ntmps11
  go_wp2_with fail
  generalize w.alloc (.cells #[.slice an next.length cn, .slice ar rule.length cr, .slice ak kind.length ck, .int .i64 kinds] 26) = W0 at *
  go_wp2_with (go_at_call 7; ((with_reducible refine h7.mono ?_); rintro e W1 ⟨rfl, hb1⟩; have hB1 := hB.trans (hb1.mono (Nat.le_of_lt hw0)); clear h7))
  exact bodyPost_ret (v := .tuple #[.string ⟨#[]⟩, .int .i64 0, .int .i64 2]) (by simp [results, Tryz.results11, go_sem]) rfl ⟨rfl, hB1.alloc hB1.size _⟩
end
end Go.Proofs.YtefjfbhffmkikaaGreatDoor

namespace Go.Proofs.YtefjfbhffmkikaaGreatDoor
open Go Go.Proofs Go.RowKit
attribute [local go_sem] Oper.semAt_some
/-- A row of bytes, its block below H. -/
def BRowH (H : Nat) (w : World) (base : Nat) (v : Value) (l : List Nat) : Prop := BRow w base v l ∧ ∀ g, v.ownBlock = some g → g < H
theorem BRowH.lets {A B H base : Nat} {X Y : World} {v : Value} {l : List Nat} (h : BRowH H X base v l) (hA : A < base) (hl : AX.Lets A B X Y) : BRowH H Y base v l := by
  refine ⟨⟨h.1.1, ?_⟩, h.2⟩
  rcases h.1.2 with hn | ⟨g, cap, cur, rfl, hg, hh, rest⟩
  · exact .inl hn
  · exact .inr ⟨g, cap, cur, rfl, hg, hl.same g _ hh (by omega) (.inr rfl), rest⟩
theorem Below.lets {A B n : Nat} {w X Y : World} (h : Below n w X) (hn : n ≤ w.heap.size) (hA : n ≤ A) (hB : n ≤ B) (hl : AX.Lets A B X Y) : Below n w Y :=
  ⟨hl.low.os.trans h.os, hl.low.tape.trans h.tape, hl.low.output.trans h.output, Nat.le_trans h.size hl.low.size, fun k hk => by
    have hlt : k < X.heap.size := Nat.lt_of_lt_of_le (Nat.lt_of_lt_of_le hk hn) h.size
    rw [← h.block k hk, hl.same k X.heap[k] (Array.getElem?_eq_getElem hlt) (by omega) (.inl (by omega)), Array.getElem?_eq_getElem hlt]⟩
theorem Fc.rebase {w0 w1 : World} {L : Nat} {next rule kind : List Int} {kinds : Int} {an ar ak : Option Addr} {cn cr ck : Nat} {s : ByteArray} {i : Int} {W : World} (h : Fc w1 L next rule kind kinds an ar ak cn cr ck s i W) (hb : Below w0.heap.size w0 w1) : Fc w0 L next rule kind kinds an ar ak cn cr ck s i W :=
  ⟨hb.trans (h.b.mono hb.size), h.l, h.t, h.a⟩
/-- An append of bytes to the row in a box: all the loop asks. -/
theorem appendedB {P : Nat → Prop} {H n₀ b : Nat} {W w1 w2 : World} {v v' : Value} {l l' : List Nat} {tmp : Obj} (hv : Bx W b 57 #[v]) (hrow : BRowH H W n₀ v l) (hb : b < n₀) (hbH : b < H) (hPb : ¬ P b) (hPg : ∀ g, n₀ ≤ g → ¬ P g)
    (hown : BRow w1 n₀ v' l') (hg : (W.alloc tmp).grownBy w1 v.ownBlock) (h3 : Bx w2 b 57 #[v']) (h4 : ∀ k, k ≠ b → w2.heap[k]? = w1.heap[k]?) (h5 : AX.Same w1 w2) (B : Nat) :
    BRowH w2.heap.size w2 n₀ v' l' ∧ AX.Keep P H W w2 ∧ KeepsFrom B W w2 ∧ Below b W w2 ∧ (∀ k o, W.heap[k]? = some o → k ≠ b → k < n₀ → w2.heap[k]? = some o) := by
  have hlow1 : Below b (W.alloc tmp) w1 := (Below.refl b _).grown hg (by have := hv.lt; simp; omega) fun j ej => by
    rcases hrow.1.2 with ⟨rfl, _⟩ | ⟨g, cap, cur, rfl, hge, _, _⟩
    · simp [Value.ownBlock] at ej
    · obtain rfl : g = j := by simpa [Value.ownBlock] using ej
      omega
  have hlow2 : Below b w1 w2 := AX.below_turn (Nat.le_refl _) (.inl h3.lt) h4 h5
  have hal : Below W.heap.size W (W.alloc tmp) := (Below.refl _ W).alloc (Nat.le_refl _) _
  have hlow : Below b W w2 := ((hal.mono (Nat.le_of_lt hv.lt)).trans hlow1).trans hlow2
  have hrow2 : BRow w2 n₀ v' l' := by
    refine ⟨hown.1, ?_⟩
    rcases hown.2 with hn | ⟨g, cap, cur, rfl, hge, hh, rest⟩
    · exact .inl hn
    · exact .inr ⟨g, cap, cur, rfl, hge, (h4 g (by omega)).trans hh, rest⟩
  have hge : ∀ g, v.ownBlock = some g → n₀ ≤ g := fun g e => by
    rcases hrow.1.2 with ⟨rfl, _⟩ | ⟨g', cap, cur, rfl, hge, _, _⟩
    · simp [Value.ownBlock] at e
    · obtain rfl : g' = g := by simpa [Value.ownBlock] using e
      exact hge
  have same : ∀ k o, W.heap[k]? = some o → k ≠ b → (∀ g, v.ownBlock = some g → k ≠ g) → w2.heap[k]? = some o := fun k o hk hkb hkg => by
    have hlt := (Array.getElem?_eq_some_iff.1 hk).1
    refine (h4 k hkb).trans ((hg.block k (by simp; omega) (fun e => hkg k e.symm rfl)).trans ((hal.block k hlt).trans hk))
  refine ⟨⟨hrow2, fun g e => (World.ownsRow.lt hrow2 g e).2⟩, ⟨hlow.mono (Nat.zero_le _), fun k o hk hu => ?_⟩, ⟨hlow.size, fun k o _ hk ho => ?_⟩, hlow, fun k o hk hkb hkn => same k o hk hkb fun g e => by have := hge g e; omega⟩
  · rcases hu with hp | ⟨hkH, _⟩
    · exact same k o hk (fun e => hPb (e ▸ hp)) fun g e e2 => hPg g (hge g e) (e2 ▸ hp)
    · exact same k o hk (by omega) fun g e => by have := hrow.2 g e; omega
  · refine same k o hk (fun e => ?_) fun g e => ?_
    · subst e; rw [show W.heap[k]? = _ from hv] at hk; cases hk; cases ho
    · intro e2
      subst e2
      rcases hrow.1.2 with ⟨rfl, _⟩ | ⟨g', cap, cur, rfl, hge, hh, _⟩
      · simp [Value.ownBlock] at e
      · obtain rfl : g' = k := by simpa [Value.ownBlock] using e
        rw [hh] at hk; cases hk; cases ho
theorem keepsFrom_turn {B b : Nat} {W W' : World} {t : TypeId} {cs : Array Value} (hv : Bx W b t cs) (hz : W.heap.size ≤ W'.heap.size) (h4 : ∀ k, k ≠ b → W'.heap[k]? = W.heap[k]?) : KeepsFrom B W W' :=
  ⟨hz, fun k o _ hk ho => (h4 k (fun e => by subst e; rw [show W.heap[k]? = _ from hv] at hk; cases hk; cases ho)).trans hk⟩
theorem BRowH.turn {H b base : Nat} {W W' : World} {v : Value} {l : List Nat} (h : BRowH H W base v l) (h4 : ∀ k, k ≠ b → W'.heap[k]? = W.heap[k]?) (hb : b < base) : BRowH H W' base v l := ⟨h.1.turn h4 (.inl hb), h.2⟩
theorem bbox_kept {W w1 : World} {b n₀ : Nat} {v u : Value} {l : List Nat} {tmp : Obj} {t : TypeId} (hv : Bx W b t #[u]) (hrow : BRow W n₀ v l) (hb : b < n₀) (hg : (W.alloc tmp).grownBy w1 v.ownBlock) : Bx w1 b t #[u] := by
  refine (hg.block b (by have := hv.lt; simp; omega) fun e => ?_).trans (hv.alloc tmp)
  have := (World.ownsRow.lt hrow b e.symm).1
  omega
theorem row_kinds {next rule kind : List Int} {kinds : Int} {t : List Nat} (H : Fits next rule kind kinds) (ht : ∀ b ∈ t, b < 256) : ∀ (n i : Nat), t.length - i ≤ n → i ≤ t.length → ∀ x ∈ rowV next rule kind t i, -2 ≤ x.k ∧ x.k < 16
  | 0, i, hn, hi, x, hx => by
    rw [rowV_eq H ht hi] at hx
    have hb := tok_bd H ht hi
    have : (tokV next rule kind t i).k = -2 := by
      have : t.length - i = 0 := by omega
      unfold tokV
      rw [this, tokF]
    rw [if_pos this] at hx
    rw [List.mem_singleton.1 hx]
    exact ⟨hb.2.1, hb.2.2.1⟩
  | n + 1, i, hn, hi, x, hx => by
    rw [rowV_eq H ht hi] at hx
    have hb := tok_bd H ht hi
    split at hx
    · rw [List.mem_singleton.1 hx]
      exact ⟨hb.2.1, hb.2.2.1⟩
    · rename_i hk
      have h8 := hb.2.2.2.2.2.2.2 hk
      rcases List.mem_cons.1 hx with rfl | hx
      · exact ⟨hb.2.1, hb.2.2.1⟩
      · exact row_kinds H ht n _ (by omega) hb.2.2.2.2.2.1 x hx
theorem sz57 : AX.sizeT Tryz.prog 57 = some 1 := by kernel_rfl
section
variable {next rule kind : List Int} {kinds : Int} {an ar ak : Option Addr} {cn cr ck : Nat} {w : World}
set_option maxRecDepth 100000 in
set_option maxHeartbeats 4000000 in
/-- Window where it refuses, or asks for nothing. -/
theorem window_out (hn : next.length ≤ 1000000) (hr : rule.length ≤ 1000000) (hk : kind.length ≤ 1000000) (hN : IRow w an next) (hR : IRow w ar rule) (hK : IRow w ak kind) (s : ByteArray) (at_ : Int) (hs : s.size ≤ 1000) (ho : ¬ (okL next rule kind kinds = true ∧ 0 ≤ at_ ∧ at_ ≤ s.size)) (k : Int) :
    Calls Tryz.prog 10 #[lV an ar ak next.length rule.length kind.length cn cr ck kinds, .string s, .int .i64 at_, .int .i64 k] w fun e w' => e = .returned (.tuple #[.string ⟨#[]⟩, .int .i64 0, .int .i64 2]) ∧ Below w.heap.size w w' := by
  have hmy := fun W (hb : Below w.heap.size w W) => may_k (cn := cn) (cr := cr) (ck := ck) (kinds := kinds) hn hr hk (hN.below hb (Nat.le_refl _)) (hR.below hb (Nat.le_refl _)) (hK.below hb (Nat.le_refl _)) s at_ (by omega)
  have hm0 : mayV next rule kind kinds s at_ = 2 := by unfold mayV; rw [if_neg ho]
  rw [hm0] at hmy
  unfold lV at *
  have b2 := Bx.new ((w.alloc (.cells #[.slice an next.length cn, .slice ar rule.length cr, .slice ak kind.length ck, .int .i64 kinds] 26)).alloc (.cells #[.int .i64 k] 3)) 3 #[.int .i64 0]
  have hB : Below w.heap.size w (((w.alloc (.cells #[.slice an next.length cn, .slice ar rule.length cr, .slice ak kind.length ck, .int .i64 kinds] 26)).alloc (.cells #[.int .i64 k] 3)).alloc (.cells #[.int .i64 0] 3)) := (((Below.refl _ w).alloc (Nat.le_refl _) _).alloc (by simp) _).alloc (by simp; omega) _
  simp only [World.size_alloc] at b2
  have h22 := hmy _ hB
  clear hm0 hN hR hK hmy ho
  go_enter Tryz.func10, Tryz.ntmps10
  go_wp2_with fail
  generalize ((w.alloc (.cells #[.slice an next.length cn, .slice ar rule.length cr, .slice ak kind.length ck, .int .i64 kinds] 26)).alloc (.cells #[.int .i64 k] 3)).alloc (.cells #[.int .i64 0] 3) = W0 at *
  have hl0 := b2.lt
  have hs0 := hB.size
  go_wp2_with (first
    | (go_at_call 22; ((with_reducible refine h22.mono ?_); rintro e W1 ⟨rfl, hb1⟩; have c2 := b2.below hb1 hl0; have hB1 := hB.trans (hb1.mono hs0)))
    | ((with_reducible refine st_id ?_); refine AX.wpList_storeCell (o := 0) (v := .int .i64 0) rfl rfl rfl sz3 c2 (show 0 < 1 by decide) ?_; rintro W2 h3 h4 h5; have d2 : Bx W2 (w.heap.size + 1 + 1) 3 #[.int .i64 0] := h3; have hB2 := hB1.trans (AX.below_turn (n := w.heap.size) (by omega) (.inl d2.lt) h4 h5); clear h3 h4 h5))
  have e2 := d2.cell 0
  exact bodyPost_ret (v := .tuple #[.string ⟨#[]⟩, .int .i64 0, .int .i64 2]) (by simp [results, Tryz.results10, go_sem, e2]) rfl ⟨rfl, hB2⟩
end
end Go.Proofs.YtefjfbhffmkikaaGreatDoor

namespace Go.Proofs.YtefjfbhffmkikaaGreatDoor
open Go Go.Proofs Go.RowKit
attribute [local go_sem] Oper.semAt_some
section
variable {next rule kind : List Int} {kinds : Int} {an ar ak : Option Addr} {cn cr ck : Nat} {w : World}
set_option maxRecDepth 100000 in
set_option maxHeartbeats 4000000 in
theorem window_no (hn : next.length ≤ 1000000) (hr : rule.length ≤ 1000000) (hk : kind.length ≤ 1000000) (hN : IRow w an next) (hR : IRow w ar rule) (hK : IRow w ak kind) (s : ByteArray) (i0 : Nat) (hs : s.size ≤ 1000) (hok : okL next rule kind kinds = true) (hi0 : i0 ≤ s.size) (k : Int) (hk1 : k < 1) :
    Calls Tryz.prog 10 #[lV an ar ak next.length rule.length kind.length cn cr ck kinds, .string s, .int .i64 i0, .int .i64 k] w fun e w' => e = .returned (winT (rowV next rule kind (sb s) i0) i0 k) ∧ Below w.heap.size w w' := by
  have hmy := fun W (hb : Below w.heap.size w W) => may_k (cn := cn) (cr := cr) (ck := ck) (kinds := kinds) hn hr hk (hN.below hb (Nat.le_refl _)) (hR.below hb (Nat.le_refl _)) (hK.below hb (Nat.le_refl _)) s (i0 : Int) (by omega)
  have hm0 : mayV next rule kind kinds s (i0 : Int) = 0 := by unfold mayV; rw [if_pos ⟨hok, by omega, by omega⟩]
  rw [hm0] at hmy
  have HF : Hid (winT (rowV next rule kind (sb s) i0) i0 k = .tuple #[.string ⟨#[]⟩, .int .i64 i0, .int .i64 0]) := Lib.hid (by
    unfold winT
    rw [show k.toNat = 0 by omega, List.take_zero]
    rfl)
  unfold lV at *
  have b1 := Bx.new (w.alloc (.cells #[.slice an next.length cn, .slice ar rule.length cr, .slice ak kind.length ck, .int .i64 kinds] 26)) 3 #[.int .i64 k]
  have b1 := b1.alloc (.cells #[.int .i64 0] 3)
  have b2 := Bx.new ((w.alloc (.cells #[.slice an next.length cn, .slice ar rule.length cr, .slice ak kind.length ck, .int .i64 kinds] 26)).alloc (.cells #[.int .i64 k] 3)) 3 #[.int .i64 0]
  have hB : Below w.heap.size w (((w.alloc (.cells #[.slice an next.length cn, .slice ar rule.length cr, .slice ak kind.length ck, .int .i64 kinds] 26)).alloc (.cells #[.int .i64 k] 3)).alloc (.cells #[.int .i64 0] 3)) := (((Below.refl _ w).alloc (Nat.le_refl _) _).alloc (by simp) _).alloc (by simp; omega) _
  simp only [World.size_alloc] at b1 b2
  have h22 := hmy _ hB
  clear hm0 hN hR hK hmy
  go_enter Tryz.func10, Tryz.ntmps10
  go_wp2_with fail
  generalize ((w.alloc (.cells #[.slice an next.length cn, .slice ar rule.length cr, .slice ak kind.length ck, .int .i64 kinds] 26)).alloc (.cells #[.int .i64 k] 3)).alloc (.cells #[.int .i64 0] 3) = W0 at *
  have hl0 := b2.lt
  have hs0 := hB.size
  go_wp2_with (first
    | (go_at_call 22; ((with_reducible refine h22.mono ?_); rintro e W1 ⟨rfl, hb1⟩; have c2 := (b2.below hb1 hl0).alloc (.cells #[.slice none 0 0] 57); have c1 := (b1.below hb1 b1.lt).alloc (.cells #[.slice none 0 0] 57); have hB1 := (hB.trans (hb1.mono hs0)).alloc (by have := hb1.size; omega) (.cells #[.slice none 0 0] 57)))
    | ((with_reducible refine st_id ?_); refine AX.wpList_storeCell (o := 0) (v := .int .i64 i0) rfl rfl rfl sz3 c2 (show 0 < 1 by decide) ?_; rintro W2 h3 h4 h5; have d2 : Bx W2 (w.heap.size + 1 + 1) 3 #[.int .i64 i0] := h3; have d1 := c1.turn (by omega) h4; have e1 := d1.cell 0; have e2 := d2.cell 0; have hB2 := hB1.trans (AX.below_turn (n := w.heap.size) (by omega) (.inl d2.lt) h4 h5); clear h3 h4 h5))
  have fr := d2.frozen
  go_region
  all_goals
    have f2 := (Bx.set d2 0 (.int .i64 i0)).cell 0
    have hB3 := (hB2.setCell (p := ⟨w.heap.size + 1 + 1, 0, none⟩) (by show w.heap.size ≤ w.heap.size + 1 + 1; omega) (.int .i64 i0)).drew
    go_wp2_with fail
    exact bodyPost_ret (v := .tuple #[.string ⟨#[]⟩, .int .i64 i0, .int .i64 0]) (by simp [results, Tryz.results10, go_sem, e2]) rfl ⟨by rw [HF.out], hB3⟩
set_option maxRecDepth 100000 in
set_option maxHeartbeats 8000000 in
theorem window_in (hn : next.length ≤ 1000000) (hr : rule.length ≤ 1000000) (hk : kind.length ≤ 1000000) (hN : IRow w an next) (hR : IRow w ar rule) (hK : IRow w ak kind) (s : ByteArray) (i0 : Nat) (hs : s.size ≤ 1000) (hok : okL next rule kind kinds = true) (hi0 : i0 ≤ s.size) (k : Int) (hk1 : ¬ k < 1) (hk9 : k ≤ 9) :
    Calls Tryz.prog 10 #[lV an ar ak next.length rule.length kind.length cn cr ck kinds, .string s, .int .i64 i0, .int .i64 k] w fun e w' => e = .returned (winT (rowV next rule kind (sb s) i0) i0 k) ∧ Below w.heap.size w w' := by
  have hmy := fun W (hb : Below w.heap.size w W) => may_k (cn := cn) (cr := cr) (ck := ck) (kinds := kinds) hn hr hk (hN.below hb (Nat.le_refl _)) (hR.below hb (Nat.le_refl _)) (hK.below hb (Nat.le_refl _)) s (i0 : Int) (by omega)
  have hm0 : mayV next rule kind kinds s (i0 : Int) = 0 := by unfold mayV; rw [if_pos ⟨hok, by omega, by omega⟩]
  rw [hm0] at hmy
  have hE := fun W => each_k (next := next) (rule := rule) (kind := kind) (kinds := kinds) (an := an) (ar := ar) (ak := ak) (cn := cn) (cr := cr) (ck := ck) s i0 W
  have hsq := fun (l : Nat) (J : Nat → List Tk → World → Prop) (Jx : List Tk → World → Prop) (L : Nat) (hL : w.heap.size ≤ L) hJ hJm hY W hS h0 => each1_in (cn := cn) (cr := cr) (ck := ck) 8 (by omega) (w0 := w) (L := L) hL hn hr hk hN hR hK s hs hok i0 hi0 l J Jx hJ hJm hY W hS h0
  have hRk : ∀ x ∈ rowV next rule kind (sb s) i0, -2 ≤ x.k ∧ x.k < 16 := row_kinds (fits_of hok) (sb_lt s) _ i0 (Nat.le_refl _) (by rw [sb_len]; exact hi0)
  have HR := Lib.hid hRk
  obtain ⟨R, hRe⟩ : ∃ R, R = rowV next rule kind (sb s) i0 := ⟨_, rfl⟩
  rw [← hRe] at hsq HR ⊢
  clear hRe hRk
  unfold lV at *
  have b0 := Bx.new w 26 #[.slice an next.length cn, .slice ar rule.length cr, .slice ak kind.length ck, .int .i64 kinds]
  have b0 := (b0.alloc (.cells #[.int .i64 k] 3)).alloc (.cells #[.int .i64 0] 3)
  have b1 := Bx.new (w.alloc (.cells #[.slice an next.length cn, .slice ar rule.length cr, .slice ak kind.length ck, .int .i64 kinds] 26)) 3 #[.int .i64 k]
  have b1 := b1.alloc (.cells #[.int .i64 0] 3)
  have b2 := Bx.new ((w.alloc (.cells #[.slice an next.length cn, .slice ar rule.length cr, .slice ak kind.length ck, .int .i64 kinds] 26)).alloc (.cells #[.int .i64 k] 3)) 3 #[.int .i64 0]
  have hB : Below w.heap.size w (((w.alloc (.cells #[.slice an next.length cn, .slice ar rule.length cr, .slice ak kind.length ck, .int .i64 kinds] 26)).alloc (.cells #[.int .i64 k] 3)).alloc (.cells #[.int .i64 0] 3)) := (((Below.refl _ w).alloc (Nat.le_refl _) _).alloc (by simp) _).alloc (by simp; omega) _
  simp only [World.size_alloc] at b1 b2
  have h22 := (callsIn_wide (n := 8)).2 (hmy _ hB)
  have hf22 : Fence.wide.fn 22 := trivial
  have hf26 : Fence.wide.fn 26 := trivial
  clear hm0 hN hR hK hmy
  refine (callsIn_wide (n := 9)).1 (callsIn_of_wp_marks Tryz.func10 rfl trivial ?_ rfl)
  simp only [Tryz.ntmps10, List.size_toArray, List.length_cons, List.length_nil, Nat.reduceAdd, Nat.reduceSub, Array.replicate_succ, Array.replicate_zero, List.push_toArray, List.append_toArray, List.nil_append, List.cons_append]
  gi_wp2_with fail
  generalize ((w.alloc (.cells #[.slice an next.length cn, .slice ar rule.length cr, .slice ak kind.length ck, .int .i64 kinds] 26)).alloc (.cells #[.int .i64 k] 3)).alloc (.cells #[.int .i64 0] 3) = V0 at *
  have hs0 := hB.size
  refine h22.mono ?_
  rintro e V1 ⟨rfl, hb1⟩
  have c0 := (b0.below hb1 b0.lt).alloc (.cells #[.slice none 0 0] 57)
  have c1 := (b1.below hb1 b1.lt).alloc (.cells #[.slice none 0 0] 57)
  have c2 := (b2.below hb1 b2.lt).alloc (.cells #[.slice none 0 0] 57)
  have cO := Bx.new V1 57 #[.slice none 0 0]
  have hsz1 : w.heap.size + 1 + 1 < V1.heap.size := Nat.lt_of_lt_of_le b2.lt hb1.size
  have hB1 := (hB.trans (hb1.mono hs0)).alloc (by omega) (.cells #[.slice none 0 0] 57)
  clear h22 b0 b1 b2 hB hb1
  gi_wp2_with ((with_reducible refine st_in ?_); refine AX.wpListIn_storeCell (o := 0) (v := .int .i64 i0) rfl rfl rfl sz3 c2 (show 0 < 1 by decide) ?_; rintro V3 h3 h4 h5; have d2 : Bx V3 (w.heap.size + 1 + 1) 3 #[.int .i64 i0] := h3; have d1 := c1.turn (by omega) h4; have d0 := c0.turn (by omega) h4; have dO := cO.turn (by omega) h4; have hB3 := hB1.trans (AX.below_turn (n := w.heap.size) (by omega) (.inl d2.lt) h4 h5); have e0 := d0.cell 0; have e1 := d0.cell 1; have e2 := d0.cell 2; have e3 := d0.cell 3; have f1 := d1.cell 0; clear h3 h4 h5 c0 c1 c2 cO hB1)
  refine ((callsIn_wide (n := 8)).2 (hE V3)).mono ?_
  rintro e V4 ⟨rfl, hb4, hz4, hS4⟩
  have HZ4 := Lib.hid hz4
  clear hz4 e0 e1 e2 e3 f1
  gi_wp2_with fail
  have hz4 := HZ4.out
  have dX := d2.below hb4 d2.lt
  have dK := d1.below hb4 d1.lt
  have hO3 := dO.lt
  have dO := dO.below hb4 dO.lt
  have hOlt := dO.lt
  have hS4 := hS4.rebase hB3
  have hB4 := hB3.trans (hb4.mono hB3.size)
  obtain ⟨L, hL⟩ : ∃ L, L = V3.heap.size := ⟨_, rfl⟩
  obtain ⟨O, hO⟩ : ∃ O, O = V1.heap.size := ⟨_, rfl⟩
  have hOL : O < L := by omega
  rw [← hL] at hS4 hz4 ⊢
  rw [← hO] at dO hsz1 ⊢
  have hwL : w.heap.size ≤ L := by omega
  clear d0 d1 d2 hf22 hf26 hE HZ4 hb4 hB3 hL hO
  refine AX.range_but (A := L + 2) (B := Fb w.heap.size L) (Pp := fun pre x => ∃ rest, R = pre ++ x :: rest) (encs := fun x : Tk => #[tkV x]) (S := fun xs => xs = R) (Sp := fun pre => ∃ rest, R = pre ++ rest) rfl (by omega) (gf := 43) (lb := #[.pointer (some ⟨L, 0, none⟩), .pointer (some ⟨L + 1, 0, none⟩), .pointer (some ⟨L + 2, 0, none⟩)]) rfl trivial (enters_of Tryz.func43 (by kernel_rfl) rfl) (by omega) (fun _ => rfl)
    (fun k h => by rcases h with h | h <;> omega) ?seq
    (fun H pre W => ((∃ v, Bx W O 57 #[v] ∧ BRowH H W V4.heap.size v (pre.map byt)) ∧ Bx W (w.heap.size + 1 + 1) 3 #[.int .i64 (extF pre i0 : Nat)] ∧ Bx W (w.heap.size + 1) 3 #[.int .i64 k]) ∧ Below w.heap.size w W ∧ pre.length < k.toNat ∧ V4.heap.size ≤ H)
    (fun c p W => (c = .exit 0 ∧ p.length = k.toNat) ∧ ((∃ v, Bx W O 57 #[v] ∧ BRow W V4.heap.size v (p.map byt)) ∧ Bx W (w.heap.size + 1 + 1) 3 #[.int .i64 (extF p i0 : Nat)]) ∧ Below w.heap.size w W) ?hI ?hIm ?hIx
    ⟨⟨⟨_, dO, World.ownsRow_nil _ _ _ _, fun g e => by cases e⟩, dX, dK⟩, hB4, by simp; omega, Nat.le_refl _⟩
    (fun x a' W => ∃ T, V4.heap.size ≤ T ∧ Bx W T 30 #[.int .i64 x.k, .int .i64 x.f, .int .i64 x.a, .int .i64 x.t, .int .i64 x.e] ∧ a' = { tmps := #[.agg #[.slice an next.length cn, .slice ar rule.length cr, .slice ak kind.length ck, .int .i64 kinds], .string s, .int .i64 i0, .int .i64 k, .pointer (some ⟨w.heap.size, 0, none⟩), undef, undef, .pointer (some ⟨w.heap.size + 1, 0, none⟩), .string ⟨#[]⟩, .pointer (some ⟨w.heap.size + 1 + 1, 0, none⟩), .int .i64 0, .int .i64 0, .pointer (some ⟨O, 0, none⟩), .pointer (some ⟨T, 0, none⟩), .agg #[.slice an next.length cn, .slice ar rule.length cr, .slice ak kind.length ck, .int .i64 kinds], .string s, .int .i64 i0, .int .i64 0, .int .i64 0, .bool false, undef, .int .i64 i0, .int .i64 k, .bool (decide (k < 1)), undef, .agg #[.slice an next.length cn, .slice ar rule.length cr, .slice ak kind.length ck, .int .i64 kinds], .string s, .int .i64 i0, .func (.func 43) #[] #[.pointer (some ⟨L, 0, none⟩), .pointer (some ⟨L + 1, 0, none⟩), .pointer (some ⟨L + 2, 0, none⟩)], tkV x, undef, undef, undef, undef, undef, undef, undef, undef, undef, undef, undef, undef, undef, undef, undef, undef, undef, undef, undef, undef, undef, undef, undef, undef, undef, undef, undef, undef, undef], defers := [] }) ?hAx ?assign ?body ?done ?stop
  case seq =>
    intro l J Jx W hW hJ hJm hJx hY h0
    exact hsq l J Jx L hwL hJ hJm hY W (hS4.below hW) h0
  case hI =>
    rintro H q A Y ⟨⟨⟨v, hv, hrow⟩, hx, hkk⟩, hb, hq, hH⟩ hl
    exact ⟨⟨⟨v, hv.lets (by omega) hl, hrow.lets (by omega) hl⟩, hx.lets (by omega) hl, hkk.lets (by omega) hl⟩, Below.lets hb (Nat.le_refl _) (by omega) (by omega) hl, hq, hH⟩
  case hIm =>
    rintro H H' q A ⟨⟨⟨v, hv, hrow⟩, hx, hkk⟩, hb, hq, hH⟩ hl
    exact ⟨⟨⟨v, hv, hrow.1, fun g e => Nat.lt_of_lt_of_le (hrow.2 g e) hl⟩, hx, hkk⟩, hb, hq, Nat.le_trans hH hl⟩
  case hIx =>
    rintro c q A Y ⟨hc, ⟨⟨v, hv, hrow⟩, hx⟩, hb⟩ hl
    exact ⟨hc, ⟨⟨v, hv.lets (by omega) hl, (BRowH.lets (H := A.heap.size) ⟨hrow, fun g e => (World.ownsRow.lt hrow g e).2⟩ (by omega) hl).1⟩, hx.lets (by omega) hl⟩, Below.lets hb (Nat.le_refl _) (by omega) (by omega) hl⟩
  case hAx =>
    rintro x a' A Y ⟨T, hT, hX, ha⟩ hl
    exact ⟨T, hT, hX.lets (by omega) hl, ha⟩
  case assign =>
    rintro l pre x H W K ⟨⟨⟨v, hv, hrow⟩, hx, hkk⟩, hb, hq, hH⟩ hHW hK
    have hT0 := Bx.new W 30 #[.int .i64 0, .int .i64 0, .int .i64 0, .int .i64 0, .int .i64 0]
    have hA0 : Below W.heap.size W (W.alloc (.cells #[.int .i64 0, .int .i64 0, .int .i64 0, .int .i64 0, .int .i64 0] 30)) := (Below.refl _ W).alloc (Nat.le_refl _) _
    have HZ := Lib.hid hz4
    clear hz4
    gi_wp2_with ((with_reducible refine st_in ?_); refine AX.wpListIn_storeBox (vs := [.int .i64 x.k, .int .i64 x.f, .int .i64 x.a, .int .i64 x.t, .int .i64 x.e]) rfl rfl sz30 hT0 rfl rfl ?_; rintro W3 h3 h4 h5)
    have hz4 := HZ.out
    have hX3 : Bx W3 W.heap.size 30 #[.int .i64 x.k, .int .i64 x.f, .int .i64 x.a, .int .i64 x.t, .int .i64 x.e] := h3
    have hB3 := hA0.trans (AX.below_turn (Nat.le_refl _) (.inl hX3.lt) h4 h5)
    have hl3 := (AX.But.of_below (A := L + 2) hB3).lets V4.heap.size
    exact hK _ W3 ⟨hB3.size, fun k o _ hk _ => (hB3.block k (Array.getElem?_eq_some_iff.1 hk).1).trans hk⟩ (AX.Keep.of_below hB3) ⟨⟨⟨v, hv.lets (by omega) hl3, hrow.lets (by omega) hl3⟩, hx.lets (by omega) hl3, hkk.lets (by omega) hl3⟩, Below.lets hb (Nat.le_refl _) (by omega) (by omega) hl3, hq, hH⟩ ⟨W.heap.size, by omega, hX3, rfl⟩
  case body =>
    rintro l pre x a' H W ⟨⟨⟨v, hv, hrow⟩, hx, hkk⟩, hb, hq, hH⟩ hHW ⟨T, hT, hX, rfl⟩ ⟨rest, hPp⟩
    have hxk := HR.out x (by rw [hPp]; simp)
    have hTX := hX.lt
    obtain ⟨E, hE⟩ : ∃ E, E = extF pre i0 := ⟨_, rfl⟩
    obtain ⟨E', hE'⟩ : ∃ E', E' = extF (pre ++ [x]) i0 := ⟨_, rfl⟩
    have hmx : max (E : Int) (x.e : Int) = (E' : Int) := by rw [hE', extF_snoc, ← hE]; omega
    rw [← hE] at hx
    obtain ⟨l', hl'⟩ : ∃ l', l' = (pre ++ [x]).map byt := ⟨_, rfl⟩
    have hln : l'.length = pre.length + 1 := by rw [hl']; simp
    have HE := Lib.hid hE'
    have HL := Lib.hid hl'
    have HP := Lib.hid hPp
    have hpm : (pre.map byt).length ≤ 1000000 := by rw [List.length_map]; omega
    have hnX : ¬ Fb w.heap.size L (w.heap.size + 1 + 1) := fun h => by rcases h with h | h <;> omega
    have hnO : ¬ Fb w.heap.size L O := fun h => by rcases h with h | h <;> omega
    have hnR : ∀ g, V4.heap.size ≤ g → ¬ Fb w.heap.size L g := fun g hg h => by rcases h with h | h <;> omega
    clear hE hE' hl' hPp hsq HR
    obtain ⟨x0, x1, x2, x3, x4⟩ := Bx.five hX
    have eX := hx.cell 0
    have HZ := Lib.hid (And.intro hz4 (And.intro hHW hH))
    have hTne : T ≠ w.heap.size + 1 + 1 := by omega
    have hOX : O ≠ w.heap.size + 1 + 1 := by omega
    have hON : O < V4.heap.size := by omega
    have hXN : w.heap.size + 1 + 1 < V4.heap.size := by omega
    have hXH : w.heap.size + 1 + 1 < H := by omega
    have hOH : O < H := by omega
    have hVW : V4.heap.size ≤ W.heap.size := by omega
    clear hz4 hHW hH
    rcases (show x.k = -2 ∨ x.k = -1 ∨ ∃ y : Nat, x.k = y by
      by_cases h1 : x.k = -2
      · exact .inl h1
      · by_cases h2 : x.k = -1
        · exact .inr (.inl h2)
        · exact .inr (.inr ⟨x.k.toNat, by omega⟩)) with q | q | ⟨y, q⟩
    · have hby : byt x = 255 := by unfold byt; rw [q]; rfl
      have HA : Hid (pre.map byt ++ [255] = l') := Lib.hid (by rw [HL.out, List.map_append, List.map_singleton, hby])
      rw [q] at hX x0
      clear q hby
      by_cases hq1 : (l'.length : Int) = k
      · have hqq : ((l'.length : Int) == k) = true := by rw [hq1]; exact beq_self_eq_true _
        gi_wp2_with (first
          | ((with_reducible refine st_in ?_); refine AX.wpListIn_storeCell (o := 0) (v := .int .i64 E') rfl rfl rfl sz3 hx (show 0 < 1 by decide) ?_; rintro W2 h3 h4 h5; have hx2 : Bx W2 (w.heap.size + 1 + 1) 3 #[.int .i64 E'] := h3; have hv2 := hv.turn hOX h4; have hk2 := hkk.turn (by omega) h4; have hr2 := hrow.turn h4 hXN; have hT2 := hX.turn hTne h4; have hlo2 := AX.below_turn (n := w.heap.size) (by omega) (.inl hx2.lt) h4 h5; have kp2 : AX.Keep (Fb w.heap.size L) H W W2 := AX.Keep.turn (hlo2.mono (Nat.zero_le _)) h4 hnX hXH; have kf2 := keepsFrom_turn (B := V4.heap.size) hx hlo2.size h4; have hz2 := hlo2.size; obtain ⟨x0, x1, x2, x3, x4⟩ := Bx.five hT2; have eO := hv2.cell 0; clear h3 h4 h5 eX)
          | (gi_at_builtin; refine append_bIn _ V4.heap.size _ (pre.map byt) 255 rfl _ _ rfl rfl (World.ownsRow.alloc hr2.1 (.cells #[.int .u8 255] 5)) ⟨W2.heap.size, 0, none⟩ rfl (Bx.cell (Bx.new W2 5 #[.int .u8 255]) 0) hpm (by simp; omega) ?_; intro v' w1 hown hg; rw [HA.out] at hown; have hv3 := bbox_kept hv2 hr2.1 hON hg; obtain ⟨aa, cc, rfl⟩ := row_shape hown)
          | ((with_reducible refine st_in ?_); refine AX.wpListIn_storeCell (o := 0) (v := .slice aa l'.length cc) rfl rfl rfl sz57 hv3 (show 0 < 1 by decide) ?_; rintro w2 h3 h4 h5; have hv4 : Bx w2 O 57 #[.slice aa l'.length cc] := h3; obtain ⟨r1, r2, r3, r4, r5⟩ := appendedB (P := Fb w.heap.size L) (H := H) hv2 hr2 hON hOH hnO hnR hown hg hv4 h4 h5 V4.heap.size; have hk4 : Bx w2 (w.heap.size + 1) 3 #[.int .i64 k] := r5 _ _ hk2 (by omega) (by omega); have hx4 : Bx w2 (w.heap.size + 1 + 1) 3 #[.int .i64 E'] := r5 _ _ hx2 (by omega) (by omega); have eO := hv4.cell 0; have eK := hk4.cell 0; clear h3 h4 h5))
        obtain ⟨hz4, hHW, hH⟩ := HZ.out
        have hbw := (hb.trans hlo2).trans (r4.mono (by omega))
        have hsz2 := hlo2.size
        have hsz4 := r4.size
        exact ⟨kf2.trans r3, ⟨rfl, by rw [List.length_append]; simp; omega⟩, ⟨⟨_, hv4, by rw [← HL.out]; exact r1.1⟩, by rw [← HE.out]; exact hx4⟩, hbw⟩
      · have hqq : ((l'.length : Int) == k) = false := by rw [beq_eq_false_iff_ne]; exact hq1
        gi_wp2_with (first
          | ((with_reducible refine st_in ?_); refine AX.wpListIn_storeCell (o := 0) (v := .int .i64 E') rfl rfl rfl sz3 hx (show 0 < 1 by decide) ?_; rintro W2 h3 h4 h5; have hx2 : Bx W2 (w.heap.size + 1 + 1) 3 #[.int .i64 E'] := h3; have hv2 := hv.turn hOX h4; have hk2 := hkk.turn (by omega) h4; have hr2 := hrow.turn h4 hXN; have hT2 := hX.turn hTne h4; have hlo2 := AX.below_turn (n := w.heap.size) (by omega) (.inl hx2.lt) h4 h5; have kp2 : AX.Keep (Fb w.heap.size L) H W W2 := AX.Keep.turn (hlo2.mono (Nat.zero_le _)) h4 hnX hXH; have kf2 := keepsFrom_turn (B := V4.heap.size) hx hlo2.size h4; have hz2 := hlo2.size; obtain ⟨x0, x1, x2, x3, x4⟩ := Bx.five hT2; have eO := hv2.cell 0; clear h3 h4 h5 eX)
          | (gi_at_builtin; refine append_bIn _ V4.heap.size _ (pre.map byt) 255 rfl _ _ rfl rfl (World.ownsRow.alloc hr2.1 (.cells #[.int .u8 255] 5)) ⟨W2.heap.size, 0, none⟩ rfl (Bx.cell (Bx.new W2 5 #[.int .u8 255]) 0) hpm (by simp; omega) ?_; intro v' w1 hown hg; rw [HA.out] at hown; have hv3 := bbox_kept hv2 hr2.1 hON hg; obtain ⟨aa, cc, rfl⟩ := row_shape hown)
          | ((with_reducible refine st_in ?_); refine AX.wpListIn_storeCell (o := 0) (v := .slice aa l'.length cc) rfl rfl rfl sz57 hv3 (show 0 < 1 by decide) ?_; rintro w2 h3 h4 h5; have hv4 : Bx w2 O 57 #[.slice aa l'.length cc] := h3; obtain ⟨r1, r2, r3, r4, r5⟩ := appendedB (P := Fb w.heap.size L) (H := H) hv2 hr2 hON hOH hnO hnR hown hg hv4 h4 h5 V4.heap.size; have hk4 : Bx w2 (w.heap.size + 1) 3 #[.int .i64 k] := r5 _ _ hk2 (by omega) (by omega); have hx4 : Bx w2 (w.heap.size + 1 + 1) 3 #[.int .i64 E'] := r5 _ _ hx2 (by omega) (by omega); have eO := hv4.cell 0; have eK := hk4.cell 0; clear h3 h4 h5))
        obtain ⟨hz4, hHW, hH⟩ := HZ.out
        have hbw := (hb.trans hlo2).trans (r4.mono (by omega))
        have hsz2 := hlo2.size
        have hsz4 := r4.size
        exact ⟨kf2.trans r3, kp2.trans r2, ⟨⟨_, hv4, by rw [← HL.out]; exact r1⟩, by rw [← HE.out]; exact hx4, hk4⟩, hbw, by rw [List.length_append]; simp; omega, by omega⟩
    · have hby : byt x = 254 := by unfold byt; rw [q]; rfl
      have HA : Hid (pre.map byt ++ [254] = l') := Lib.hid (by rw [HL.out, List.map_append, List.map_singleton, hby])
      rw [q] at hX x0
      clear q hby
      by_cases hq1 : (l'.length : Int) = k
      · have hqq : ((l'.length : Int) == k) = true := by rw [hq1]; exact beq_self_eq_true _
        gi_wp2_with (first
          | ((with_reducible refine st_in ?_); refine AX.wpListIn_storeCell (o := 0) (v := .int .i64 E') rfl rfl rfl sz3 hx (show 0 < 1 by decide) ?_; rintro W2 h3 h4 h5; have hx2 : Bx W2 (w.heap.size + 1 + 1) 3 #[.int .i64 E'] := h3; have hv2 := hv.turn hOX h4; have hk2 := hkk.turn (by omega) h4; have hr2 := hrow.turn h4 hXN; have hT2 := hX.turn hTne h4; have hlo2 := AX.below_turn (n := w.heap.size) (by omega) (.inl hx2.lt) h4 h5; have kp2 : AX.Keep (Fb w.heap.size L) H W W2 := AX.Keep.turn (hlo2.mono (Nat.zero_le _)) h4 hnX hXH; have kf2 := keepsFrom_turn (B := V4.heap.size) hx hlo2.size h4; have hz2 := hlo2.size; obtain ⟨x0, x1, x2, x3, x4⟩ := Bx.five hT2; have eO := hv2.cell 0; clear h3 h4 h5 eX)
          | (gi_at_builtin; refine append_bIn _ V4.heap.size _ (pre.map byt) 254 rfl _ _ rfl rfl (World.ownsRow.alloc hr2.1 (.cells #[.int .u8 254] 5)) ⟨W2.heap.size, 0, none⟩ rfl (Bx.cell (Bx.new W2 5 #[.int .u8 254]) 0) hpm (by simp; omega) ?_; intro v' w1 hown hg; rw [HA.out] at hown; have hv3 := bbox_kept hv2 hr2.1 hON hg; obtain ⟨aa, cc, rfl⟩ := row_shape hown)
          | ((with_reducible refine st_in ?_); refine AX.wpListIn_storeCell (o := 0) (v := .slice aa l'.length cc) rfl rfl rfl sz57 hv3 (show 0 < 1 by decide) ?_; rintro w2 h3 h4 h5; have hv4 : Bx w2 O 57 #[.slice aa l'.length cc] := h3; obtain ⟨r1, r2, r3, r4, r5⟩ := appendedB (P := Fb w.heap.size L) (H := H) hv2 hr2 hON hOH hnO hnR hown hg hv4 h4 h5 V4.heap.size; have hk4 : Bx w2 (w.heap.size + 1) 3 #[.int .i64 k] := r5 _ _ hk2 (by omega) (by omega); have hx4 : Bx w2 (w.heap.size + 1 + 1) 3 #[.int .i64 E'] := r5 _ _ hx2 (by omega) (by omega); have eO := hv4.cell 0; have eK := hk4.cell 0; clear h3 h4 h5))
        obtain ⟨hz4, hHW, hH⟩ := HZ.out
        have hbw := (hb.trans hlo2).trans (r4.mono (by omega))
        have hsz2 := hlo2.size
        have hsz4 := r4.size
        exact ⟨kf2.trans r3, ⟨rfl, by rw [List.length_append]; simp; omega⟩, ⟨⟨_, hv4, by rw [← HL.out]; exact r1.1⟩, by rw [← HE.out]; exact hx4⟩, hbw⟩
      · have hqq : ((l'.length : Int) == k) = false := by rw [beq_eq_false_iff_ne]; exact hq1
        gi_wp2_with (first
          | ((with_reducible refine st_in ?_); refine AX.wpListIn_storeCell (o := 0) (v := .int .i64 E') rfl rfl rfl sz3 hx (show 0 < 1 by decide) ?_; rintro W2 h3 h4 h5; have hx2 : Bx W2 (w.heap.size + 1 + 1) 3 #[.int .i64 E'] := h3; have hv2 := hv.turn hOX h4; have hk2 := hkk.turn (by omega) h4; have hr2 := hrow.turn h4 hXN; have hT2 := hX.turn hTne h4; have hlo2 := AX.below_turn (n := w.heap.size) (by omega) (.inl hx2.lt) h4 h5; have kp2 : AX.Keep (Fb w.heap.size L) H W W2 := AX.Keep.turn (hlo2.mono (Nat.zero_le _)) h4 hnX hXH; have kf2 := keepsFrom_turn (B := V4.heap.size) hx hlo2.size h4; have hz2 := hlo2.size; obtain ⟨x0, x1, x2, x3, x4⟩ := Bx.five hT2; have eO := hv2.cell 0; clear h3 h4 h5 eX)
          | (gi_at_builtin; refine append_bIn _ V4.heap.size _ (pre.map byt) 254 rfl _ _ rfl rfl (World.ownsRow.alloc hr2.1 (.cells #[.int .u8 254] 5)) ⟨W2.heap.size, 0, none⟩ rfl (Bx.cell (Bx.new W2 5 #[.int .u8 254]) 0) hpm (by simp; omega) ?_; intro v' w1 hown hg; rw [HA.out] at hown; have hv3 := bbox_kept hv2 hr2.1 hON hg; obtain ⟨aa, cc, rfl⟩ := row_shape hown)
          | ((with_reducible refine st_in ?_); refine AX.wpListIn_storeCell (o := 0) (v := .slice aa l'.length cc) rfl rfl rfl sz57 hv3 (show 0 < 1 by decide) ?_; rintro w2 h3 h4 h5; have hv4 : Bx w2 O 57 #[.slice aa l'.length cc] := h3; obtain ⟨r1, r2, r3, r4, r5⟩ := appendedB (P := Fb w.heap.size L) (H := H) hv2 hr2 hON hOH hnO hnR hown hg hv4 h4 h5 V4.heap.size; have hk4 : Bx w2 (w.heap.size + 1) 3 #[.int .i64 k] := r5 _ _ hk2 (by omega) (by omega); have hx4 : Bx w2 (w.heap.size + 1 + 1) 3 #[.int .i64 E'] := r5 _ _ hx2 (by omega) (by omega); have eO := hv4.cell 0; have eK := hk4.cell 0; clear h3 h4 h5))
        obtain ⟨hz4, hHW, hH⟩ := HZ.out
        have hbw := (hb.trans hlo2).trans (r4.mono (by omega))
        have hsz2 := hlo2.size
        have hsz4 := r4.size
        exact ⟨kf2.trans r3, kp2.trans r2, ⟨⟨_, hv4, by rw [← HL.out]; exact r1⟩, by rw [← HE.out]; exact hx4, hk4⟩, hbw, by rw [List.length_append]; simp; omega, by omega⟩
    · have hby : byt x = y := by unfold byt; rw [q]; rw [if_neg (by omega), if_neg (by omega), Int.toNat_natCast]
      have HA : Hid (pre.map byt ++ [y] = l') := Lib.hid (by rw [HL.out, List.map_append, List.map_singleton, hby])
      have hw8 : IntKind.u8.wrap (y : Int) = y := by rw [IntKind.wrap_u8]; omega
      have g1 : ((y : Int) == -1) = false := by rw [beq_eq_false_iff_ne]; omega
      have g2 : ((y : Int) == -2) = false := by rw [beq_eq_false_iff_ne]; omega
      rw [q] at hX x0
      clear q hby
      by_cases hq1 : (l'.length : Int) = k
      · have hqq : ((l'.length : Int) == k) = true := by rw [hq1]; exact beq_self_eq_true _
        gi_wp2_with (first
          | ((with_reducible refine st_in ?_); refine AX.wpListIn_storeCell (o := 0) (v := .int .i64 E') rfl rfl rfl sz3 hx (show 0 < 1 by decide) ?_; rintro W2 h3 h4 h5; have hx2 : Bx W2 (w.heap.size + 1 + 1) 3 #[.int .i64 E'] := h3; have hv2 := hv.turn hOX h4; have hk2 := hkk.turn (by omega) h4; have hr2 := hrow.turn h4 hXN; have hT2 := hX.turn hTne h4; have hlo2 := AX.below_turn (n := w.heap.size) (by omega) (.inl hx2.lt) h4 h5; have kp2 : AX.Keep (Fb w.heap.size L) H W W2 := AX.Keep.turn (hlo2.mono (Nat.zero_le _)) h4 hnX hXH; have kf2 := keepsFrom_turn (B := V4.heap.size) hx hlo2.size h4; have hz2 := hlo2.size; obtain ⟨x0, x1, x2, x3, x4⟩ := Bx.five hT2; have eO := hv2.cell 0; clear h3 h4 h5 eX)
          | (gi_at_builtin; refine append_bIn _ V4.heap.size _ (pre.map byt) y rfl _ _ rfl rfl (World.ownsRow.alloc hr2.1 (.cells #[.int .u8 y] 5)) ⟨W2.heap.size, 0, none⟩ rfl (Bx.cell (Bx.new W2 5 #[.int .u8 y]) 0) hpm (by simp; omega) ?_; intro v' w1 hown hg; rw [HA.out] at hown; have hv3 := bbox_kept hv2 hr2.1 hON hg; obtain ⟨aa, cc, rfl⟩ := row_shape hown)
          | ((with_reducible refine st_in ?_); refine AX.wpListIn_storeCell (o := 0) (v := .slice aa l'.length cc) rfl rfl rfl sz57 hv3 (show 0 < 1 by decide) ?_; rintro w2 h3 h4 h5; have hv4 : Bx w2 O 57 #[.slice aa l'.length cc] := h3; obtain ⟨r1, r2, r3, r4, r5⟩ := appendedB (P := Fb w.heap.size L) (H := H) hv2 hr2 hON hOH hnO hnR hown hg hv4 h4 h5 V4.heap.size; have hk4 : Bx w2 (w.heap.size + 1) 3 #[.int .i64 k] := r5 _ _ hk2 (by omega) (by omega); have hx4 : Bx w2 (w.heap.size + 1 + 1) 3 #[.int .i64 E'] := r5 _ _ hx2 (by omega) (by omega); have eO := hv4.cell 0; have eK := hk4.cell 0; clear h3 h4 h5))
        obtain ⟨hz4, hHW, hH⟩ := HZ.out
        have hbw := (hb.trans hlo2).trans (r4.mono (by omega))
        have hsz2 := hlo2.size
        have hsz4 := r4.size
        exact ⟨kf2.trans r3, ⟨rfl, by rw [List.length_append]; simp; omega⟩, ⟨⟨_, hv4, by rw [← HL.out]; exact r1.1⟩, by rw [← HE.out]; exact hx4⟩, hbw⟩
      · have hqq : ((l'.length : Int) == k) = false := by rw [beq_eq_false_iff_ne]; exact hq1
        gi_wp2_with (first
          | ((with_reducible refine st_in ?_); refine AX.wpListIn_storeCell (o := 0) (v := .int .i64 E') rfl rfl rfl sz3 hx (show 0 < 1 by decide) ?_; rintro W2 h3 h4 h5; have hx2 : Bx W2 (w.heap.size + 1 + 1) 3 #[.int .i64 E'] := h3; have hv2 := hv.turn hOX h4; have hk2 := hkk.turn (by omega) h4; have hr2 := hrow.turn h4 hXN; have hT2 := hX.turn hTne h4; have hlo2 := AX.below_turn (n := w.heap.size) (by omega) (.inl hx2.lt) h4 h5; have kp2 : AX.Keep (Fb w.heap.size L) H W W2 := AX.Keep.turn (hlo2.mono (Nat.zero_le _)) h4 hnX hXH; have kf2 := keepsFrom_turn (B := V4.heap.size) hx hlo2.size h4; have hz2 := hlo2.size; obtain ⟨x0, x1, x2, x3, x4⟩ := Bx.five hT2; have eO := hv2.cell 0; clear h3 h4 h5 eX)
          | (gi_at_builtin; refine append_bIn _ V4.heap.size _ (pre.map byt) y rfl _ _ rfl rfl (World.ownsRow.alloc hr2.1 (.cells #[.int .u8 y] 5)) ⟨W2.heap.size, 0, none⟩ rfl (Bx.cell (Bx.new W2 5 #[.int .u8 y]) 0) hpm (by simp; omega) ?_; intro v' w1 hown hg; rw [HA.out] at hown; have hv3 := bbox_kept hv2 hr2.1 hON hg; obtain ⟨aa, cc, rfl⟩ := row_shape hown)
          | ((with_reducible refine st_in ?_); refine AX.wpListIn_storeCell (o := 0) (v := .slice aa l'.length cc) rfl rfl rfl sz57 hv3 (show 0 < 1 by decide) ?_; rintro w2 h3 h4 h5; have hv4 : Bx w2 O 57 #[.slice aa l'.length cc] := h3; obtain ⟨r1, r2, r3, r4, r5⟩ := appendedB (P := Fb w.heap.size L) (H := H) hv2 hr2 hON hOH hnO hnR hown hg hv4 h4 h5 V4.heap.size; have hk4 : Bx w2 (w.heap.size + 1) 3 #[.int .i64 k] := r5 _ _ hk2 (by omega) (by omega); have hx4 : Bx w2 (w.heap.size + 1 + 1) 3 #[.int .i64 E'] := r5 _ _ hx2 (by omega) (by omega); have eO := hv4.cell 0; have eK := hk4.cell 0; clear h3 h4 h5))
        obtain ⟨hz4, hHW, hH⟩ := HZ.out
        have hbw := (hb.trans hlo2).trans (r4.mono (by omega))
        have hsz2 := hlo2.size
        have hsz4 := r4.size
        exact ⟨kf2.trans r3, kp2.trans r2, ⟨⟨_, hv4, by rw [← HL.out]; exact r1⟩, by rw [← HE.out]; exact hx4, hk4⟩, hbw, by rw [List.length_append]; simp; omega, by omega⟩
  case done =>
    rintro D H ys W hD rfl ⟨⟨⟨v, hv, hrow⟩, hx, hkk⟩, hb, hq, hH⟩ hK
    have HF : Hid (winT ys i0 k = .tuple #[.string (bstr (ys.map byt)), .int .i64 (extF ys i0 : Nat), .int .i64 0]) := Lib.hid (by unfold winT; rw [List.take_of_length_le (Nat.le_of_lt hq)])
    clear hq hH
    have hcv : (convert 57 9 v).run Tryz.prog W.drew = .ok (.string (bstr (ys.map byt))) W.drew := conv_row (W := W.drew) (base := V4.heap.size) hrow.1
    have c1 := hv.cell 0
    have c2 := hx.cell 0
    have fr := hx.frozen
    obtain ⟨E, hE⟩ : ∃ E, E = extF ys i0 := ⟨_, rfl⟩
    rw [← hE] at hx c2 HF
    have hDX : D ≠ w.heap.size + 1 + 1 := by omega
    have hDw : w.heap.size ≤ D := by omega
    have hXL : w.heap.size + 1 + 1 ≠ L + 2 := by omega
    have hw1 : w.heap.size ≤ w.heap.size + 1 + 1 := by omega
    clear hz4 hE hsq HR hD
    gi_wp2_with fail
    gi_region
    all_goals
      have hx2 : Bx (W.setCell ⟨w.heap.size + 1 + 1, 0, none⟩ (.int .i64 E)).drew (w.heap.size + 1 + 1) 3 #[.int .i64 E] := Bx.set hx 0 (.int .i64 E)
      have hb2 : Below w.heap.size w (W.setCell ⟨w.heap.size + 1 + 1, 0, none⟩ (.int .i64 E)).drew := (hb.setCell (p := ⟨w.heap.size + 1 + 1, 0, none⟩) hw1 (.int .i64 E)).drew
      have hK2 : (W.setCell ⟨w.heap.size + 1 + 1, 0, none⟩ (.int .i64 E)).drew.heap[D]? = some (.deferred (some [])) := (Below.heap_setCell W ⟨w.heap.size + 1 + 1, 0, none⟩ (.int .i64 E) D hDX).trans hK
      generalize (W.setCell ⟨w.heap.size + 1 + 1, 0, none⟩ (.int .i64 E)).drew = W2 at *
      gi_wp2_with fail
      refine ⟨by simp, .inl ⟨_, _, rfl, run_takeDeferred hK2, ?_⟩⟩
      have hl := AX.Lets.put (A := L + 2) (B := w.heap.size) (.deferred none) hK2 rfl hDw
      have e1 := (hx2.lets hXL hl).cell 0
      have hbf := Below.lets hb2 (Nat.le_refl _) (by omega) (Nat.le_refl _) hl
      rw [HF.out]
      refine ⟨.tuple #[.string (bstr (ys.map byt)), .int .i64 E, .int .i64 0], ?_, rfl, hbf⟩
      simp [results, Tryz.results10, go_sem, e1]
  case stop =>
    rintro D c ps W hD ⟨rest, rfl⟩ ⟨⟨rfl, hpl⟩, ⟨⟨v, hv, hrow⟩, hx⟩, hb⟩ hK
    have HF : Hid (winT (ps ++ rest) i0 k = .tuple #[.string (bstr (ps.map byt)), .int .i64 (extF ps i0 : Nat), .int .i64 0]) := Lib.hid (by unfold winT; rw [List.take_left' hpl])
    clear hpl
    have hcv : (convert 57 9 v).run Tryz.prog W.drew = .ok (.string (bstr (ps.map byt))) W.drew := conv_row (W := W.drew) (base := V4.heap.size) hrow
    have c1 := hv.cell 0
    have c2 := hx.cell 0
    have fr := hx.frozen
    obtain ⟨E, hE⟩ : ∃ E, E = extF ps i0 := ⟨_, rfl⟩
    rw [← hE] at hx c2 HF
    have hDX : D ≠ w.heap.size + 1 + 1 := by omega
    have hDw : w.heap.size ≤ D := by omega
    have hXL : w.heap.size + 1 + 1 ≠ L + 2 := by omega
    have hw1 : w.heap.size ≤ w.heap.size + 1 + 1 := by omega
    clear hz4 hE hsq HR hD
    gi_wp2_with fail
    gi_region
    all_goals
      have hx2 : Bx (W.setCell ⟨w.heap.size + 1 + 1, 0, none⟩ (.int .i64 E)).drew (w.heap.size + 1 + 1) 3 #[.int .i64 E] := Bx.set hx 0 (.int .i64 E)
      have hb2 : Below w.heap.size w (W.setCell ⟨w.heap.size + 1 + 1, 0, none⟩ (.int .i64 E)).drew := (hb.setCell (p := ⟨w.heap.size + 1 + 1, 0, none⟩) hw1 (.int .i64 E)).drew
      have hK2 : (W.setCell ⟨w.heap.size + 1 + 1, 0, none⟩ (.int .i64 E)).drew.heap[D]? = some (.deferred (some [])) := (Below.heap_setCell W ⟨w.heap.size + 1 + 1, 0, none⟩ (.int .i64 E) D hDX).trans hK
      generalize (W.setCell ⟨w.heap.size + 1 + 1, 0, none⟩ (.int .i64 E)).drew = W2 at *
      gi_wp2_with fail
      refine ⟨by simp, .inl ⟨_, _, rfl, run_takeDeferred hK2, ?_⟩⟩
      have hl := AX.Lets.put (A := L + 2) (B := w.heap.size) (.deferred none) hK2 rfl hDw
      have e1 := (hx2.lets hXL hl).cell 0
      have hbf := Below.lets hb2 (Nat.le_refl _) (by omega) (Nat.le_refl _) hl
      rw [HF.out]
      refine ⟨.tuple #[.string (bstr (ps.map byt)), .int .i64 E, .int .i64 0], ?_, rfl, hbf⟩
      simp [results, Tryz.results10, go_sem, e1]
end
end Go.Proofs.YtefjfbhffmkikaaGreatDoor
