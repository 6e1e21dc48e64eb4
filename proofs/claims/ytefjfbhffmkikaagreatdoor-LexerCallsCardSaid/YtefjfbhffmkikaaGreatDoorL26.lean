/- Lexer: the reference's Same. -/
import Derived.Test.YtefjfbhffmkikaaGreatDoorL9d
import Derived.RangeFuncBox
import Derived.Maps.AppendAt
import Derived.OwnWalk
import Derived.Test.YtefjfbhffmkikaaGreatDoorL16
namespace Go.Proofs.YtefjfbhffmkikaaGreatDoor
open Go Go.Proofs Go.RowKit
attribute [local go_sem] Oper.semAt_some
/-- A token's cells. -/
def encT (t : Tk) : List Value := [.int .i64 t.k, .int .i64 t.f, .int .i64 t.a, .int .i64 t.t, .int .i64 t.e]
theorem encT_len (t : Tk) : (encT t).length = 5 := rfl
theorem t_addr_add (B o j : Nat) : (⟨B, o, none⟩ : Addr).add j = ⟨B, o + j, none⟩ := by unfold Addr.add; split <;> simp_all
theorem info30 : (Tryz.prog.info? 30).map (fun i => (i.zero, i.size, i.bytes)) = some (some (.agg #[.int .i64 0, .int .i64 0, .int .i64 0, .int .i64 0, .int .i64 0]), 5, 40) := by kernel_rfl
theorem tflat_one (l : List Tk) (y : Tk) : (l ++ [y]).flatMap encT = l.flatMap encT ++ encT y := by simp
theorem encT_one (x : Tk) : ∀ v ∈ encT x, v.oneCell' = true := by
  intro v hv
  simp only [encT, List.mem_cons, List.not_mem_nil, or_false] at hv
  rcases hv with rfl | rfl | rfl | rfl | rfl <;> rfl
theorem row_at_below {n₀ B : Nat} {e : TypeId} {k : Nat} {v : Value} {n : Nat} {xs : List Value} {w w' : World} (h : w.ownsRow B e k v n xs) (hb : Below n₀ w w') (hl : ∀ g, v.ownBlock = some g → g < n₀) : w'.ownsRow B e k v n xs := by
  refine ⟨h.1, ?_⟩
  rcases h.2 with hn | ⟨g, cap, cur, rfl, hg, hh, rest⟩
  · exact .inl hn
  · exact .inr ⟨g, cap, cur, rfl, hg, (hb.block g (hl g rfl)).trans hh, rest⟩
theorem append_t {ops : Array Oper} {rest : List Oper} {o : Oper} {a : Act} {Q : Exit → Act → World → Prop} (W : World) (base : Nat) (v : Value) (pre : List Tk) (y : Tk) (hgd : o.guard = none) (s x : Operand)
    (ho : o.op = .call { callee := .builtin .append, args := #[s, x], argTypes := #[34, 34] }) (hs : a.eval s = v) (hown : W.ownsRow base 30 5 v pre.length (pre.flatMap encT)) (ad : Addr) (hx : a.eval x = .slice (some ad) 1 1)
    (hc : ∀ j u, (encT y)[j]? = some u → W.cell? (ad.add j) = some u) (hl : pre.length ≤ 1000000) (hb : base ≤ W.heap.size)
    (h : ∀ v' w', w'.ownsRow base 30 5 v' (pre ++ [y]).length ((pre ++ [y]).flatMap encT) → Below base W w' → wpList Tryz.prog ops Q rest (a.put o.dst v') w') : wpList Tryz.prog ops Q (o :: rest) a W := by
  obtain ⟨ti, hi, hz0, hz1, hz2⟩ := info_parts info30
  refine wpList_append_own W hgd s x 34 ho base 30 ti (.agg #[.int .i64 0, .int .i64 0, .int .i64 0, .int .i64 0, .int .i64 0]) 5 40 Tryz.underlying34 hi hz0 hz1 hz2 rfl (by decide) v pre.length _ hs hown ad 1 1 (encT y) hx rfl hc (encT_one y) (by unfold maxLen; omega) (by omega) hb ?_
  intro v' w' h1 h2 _
  refine h v' w' ?_ ((Below.refl base W).grown h2 hb fun k hk => (hown.lt k hk).1)
  rw [tflat_one, List.length_append, List.length_singleton]
  exact h1
end Go.Proofs.YtefjfbhffmkikaaGreatDoor

namespace Go.Proofs.YtefjfbhffmkikaaGreatDoor
open Go Go.Proofs Go.RowKit
attribute [local go_sem] Oper.semAt_some
section
variable {next rule kind : List Int} {kinds : Int} {an ar ak : Option Addr} {cn cr ck : Nat} {w : World}
/-- The rows that From answers. -/
def TRow (w : World) (base : Nat) (v : Value) (l : List Tk) : Prop := w.ownsRow base 30 5 v l.length (l.flatMap encT)
theorem row_at_turn {b : Nat} {e : TypeId} {k : Nat} {v : Value} {n : Nat} {xs : List Value} {w w' : World} (h : w.ownsRow (b + 1) e k v n xs) (h4 : ∀ j, j ≠ b → w'.heap[j]? = w.heap[j]?) : w'.ownsRow (b + 1) e k v n xs := by
  refine ⟨h.1, ?_⟩
  rcases h.2 with hn | ⟨g, cap, cur, rfl, hg, hh, rest⟩
  · exact .inl hn
  · exact .inr ⟨g, cap, cur, rfl, hg, (h4 g (by omega)).trans hh, rest⟩
theorem tcells_new (w : World) (x : Tk) : ∀ j u, (encT x)[j]? = some u → (w.alloc (.cells #[.int .i64 x.k, .int .i64 x.f, .int .i64 x.a, .int .i64 x.t, .int .i64 x.e] 30)).cell? ((⟨w.heap.size, 0, none⟩ : Addr).add j) = some u := by
  intro j u hj
  rw [t_addr_add, Nat.zero_add]
  simp only [encT] at hj
  match j, hj with
  | 0, hj => simp at hj; subst hj; simp
  | 1, hj => simp at hj; subst hj; simp
  | 2, hj => simp at hj; subst hj; simp
  | 3, hj => simp at hj; subst hj; simp
  | 4, hj => simp at hj; subst hj; simp
  | j + 5, hj => simp at hj
/-- What is left to be read, as the token's block tells. -/
def leftAt (w : World) (T n : Nat) : Nat := match w.cell? ⟨T, 0, none⟩, w.cell? ⟨T, 3, none⟩ with
  | some (.int _ k), some (.int _ q) => if k = -2 then 0 else n + 1 - q.toNat
  | _, _ => 0
theorem left_bx {w : World} {T n : Nat} {t : Tk} (h : Bx w T 30 #[.int .i64 t.k, .int .i64 t.f, .int .i64 t.a, .int .i64 t.t, .int .i64 t.e]) : leftAt w T n = if t.k = -2 then 0 else n + 1 - t.t := by
  unfold leftAt
  rw [h.cell 0, h.cell 3]
  rfl
theorem row_base {w : World} {b b' : Nat} {v : Value} {l : List Tk} (h : TRow w b v l) (hb : b' ≤ b) : TRow w b' v l := by
  refine ⟨h.1, ?_⟩
  rcases h.2 with hn | ⟨g, cap, cur, hv, hg, rest⟩
  · exact .inl hn
  · exact .inr ⟨g, cap, cur, hv, Nat.le_trans hb hg, rest⟩
set_option maxRecDepth 100000 in
set_option maxHeartbeats 4000000 in
theorem from_in (hn : next.length ≤ 1000000) (hr : rule.length ≤ 1000000) (hk : kind.length ≤ 1000000) (hN : IRow w an next) (hR : IRow w ar rule) (hK : IRow w ak kind) (s : ByteArray) (at_ : Nat) (hs : s.size ≤ 1000) (hok : okL next rule kind kinds = true) (hi : at_ ≤ s.size) :
    Calls Tryz.prog 13 #[lV an ar ak next.length rule.length kind.length cn cr ck kinds, .string s, .int .i64 at_] w fun e w' => (∃ v, e = .returned (.tuple #[v, .int .i64 0]) ∧ TRow w' w.heap.size v (rowV next rule kind (sb s) at_)) ∧ Below w.heap.size w w' := by
  have hNx := fun W (hb : Below w.heap.size w W) => rNext_k (cn := cn) (cr := cr) (ck := ck) (kinds := kinds) hn hr hk (hN.below hb (Nat.le_refl _)) (hR.below hb (Nat.le_refl _)) (hK.below hb (Nat.le_refl _)) s (at_ : Int) (by omega)
  have hnx := fun (a : Nat) (ha : a ≤ s.size) W (hb : Below w.heap.size w W) => rnext_k (cn := cn) (cr := cr) (ck := ck) (hN.below hb (Nat.le_refl _)) (hR.below hb (Nat.le_refl _)) (hK.below hb (Nat.le_refl _)) hok s a ha (by omega)
  unfold nextV at hNx
  rw [if_pos ⟨hok, by omega, by omega⟩, Int.toNat_natCast] at hNx
  unfold lV tkV at *
  have hF := fits_of hok
  clear hN hR hK
  have hB := (Below.refl w.heap.size w).alloc (Nat.le_refl _) (.cells #[.slice an next.length cn, .slice ar rule.length cr, .slice ak kind.length ck, .int .i64 kinds] 26)
  have hD : Bx (w.alloc (.cells #[.slice an next.length cn, .slice ar rule.length cr, .slice ak kind.length ck, .int .i64 kinds] 26)) w.heap.size 26 #[.slice an next.length cn, .slice ar rule.length cr, .slice ak kind.length ck, .int .i64 kinds] := Bx.new _ _ _
  have h7 := hNx _ hB
  clear hNx
  obtain ⟨t0, ht0⟩ : ∃ t0, t0 = tokV next rule kind (sb s) at_ := ⟨_, rfl⟩
  rw [← ht0] at h7
  have HT := Lib.hid ht0
  clear ht0
  go_enter Tryz.func13, Tryz.ntmps13
  go_wp2_with fail
  generalize w.alloc (.cells #[.slice an next.length cn, .slice ar rule.length cr, .slice ak kind.length ck, .int .i64 kinds] 26) = W0 at *
  have hw0 := hD.lt
  go_wp2_with (go_at_call 7; ((with_reducible refine h7.mono ?_); rintro e W1 ⟨rfl, hb1⟩; have hB1 := hB.trans (hb1.mono (Nat.le_of_lt hw0)); have hD1 := hD.below hb1 hw0; clear h7))
  have hTn := Bx.new W1 30 #[.int .i64 t0.k, .int .i64 t0.f, .int .i64 t0.a, .int .i64 t0.t, .int .i64 t0.e]
  have hTm := hTn.alloc (.cells #[.int .i64 t0.k, .int .i64 t0.f, .int .i64 t0.a, .int .i64 t0.t, .int .i64 t0.e] 30)
  have hRn := Bx.new (W1.alloc (.cells #[.int .i64 t0.k, .int .i64 t0.f, .int .i64 t0.a, .int .i64 t0.t, .int .i64 t0.e] 30)) 30 #[.int .i64 t0.k, .int .i64 t0.f, .int .i64 t0.a, .int .i64 t0.t, .int .i64 t0.e]
  have hBn : Below W1.heap.size W1 ((W1.alloc (.cells #[.int .i64 t0.k, .int .i64 t0.f, .int .i64 t0.a, .int .i64 t0.t, .int .i64 t0.e] 30)).alloc (.cells #[.int .i64 t0.k, .int .i64 t0.f, .int .i64 t0.a, .int .i64 t0.t, .int .i64 t0.e] 30)) := ((Below.refl _ W1).alloc (Nat.le_refl _) _).alloc (by simp) _
  rw [World.size_alloc] at hRn
  have hD2 := hD1.below hBn hD1.lt
  have hB2 := hB1.trans (hBn.mono hB1.size)
  have hTl : w.heap.size < W1.heap.size := hD1.lt
  obtain ⟨T, hTe⟩ : ∃ T, W1.heap.size = T := ⟨_, rfl⟩
  rw [hTe] at hTm hRn hTl ⊢
  generalize (W1.alloc (.cells #[.int .i64 t0.k, .int .i64 t0.f, .int .i64 t0.a, .int .i64 t0.t, .int .i64 t0.e] 30)).alloc (.cells #[.int .i64 t0.k, .int .i64 t0.f, .int .i64 t0.a, .int .i64 t0.t, .int .i64 t0.e] 30) = W2 at *
  clear hTn hBn hD1 hB1 hTe hw0 hB hD
  have hR2 : TRow W2 (T + 1) (.slice (some ⟨T + 1, 0, none⟩) 1 1) ([] ++ [t0]) := ⟨rfl, .inr ⟨T + 1, 1, _, rfl, Nat.le_refl _, hRn, Nat.le_refl _, by unfold maxLen; omega, rfl, rfl⟩⟩
  clear hRn
  have hbt := fun (i : Nat) (h : i ≤ s.size) => tok_bd hF (sb_lt s) (i := i) (by rw [sb_len]; exact h)
  rw [sb_len] at hbt
  obtain ⟨vo0, hvo⟩ : ∃ vo0, vo0 = Value.slice (some ⟨T + 1, 0, none⟩) 1 1 := ⟨_, rfl⟩
  rw [← hvo] at hR2
  go_loopw [10] (fun vo wr => ∃ (pre : List Tk) (i : Nat) (t : Tk), Hid (t = tokV next rule kind (sb s) i) ∧ i ≤ s.size ∧ pre.length ≤ i ∧ TRow wr (T + 1) vo (pre ++ [t]) ∧ Bx wr T 30 #[.int .i64 t.k, .int .i64 t.f, .int .i64 t.a, .int .i64 t.t, .int .i64 t.e] ∧ Bx wr w.heap.size 26 #[.slice an next.length cn, .slice ar rule.length cr, .slice ak kind.length ck, .int .i64 kinds] ∧ Below w.heap.size w wr ∧ Hid (pre ++ rowV next rule kind (sb s) i = rowV next rule kind (sb s) at_)) (fun _ wr => leftAt wr T s.size)
  case atStart => exact ⟨[], at_, t0, HT, hi, Nat.zero_le _, hvo ▸ hR2, hTm, hD2, hB2, Lib.hid rfl⟩
  case round =>
    obtain ⟨pre, i, t, HT', hil, hpl, hRo, hTb, hDb, hBb, HM⟩ := hrel
    obtain ⟨x0, x1, x2, x3, x4⟩ := Bx.five hTb
    have hbi := hbt i hil
    rw [← HT'.out] at hbi
    obtain ⟨b1, b2, b3, b4, b5, b6, b7, b8⟩ := hbi
    rw [left_bx hTb]
    clear b1
    have hrv := rowV_eq hF (sb_lt s) (i := i) (by rw [sb_len]; exact hil)
    rw [← HT'.out] at hrv
    have hm := HM.out
    clear hR2 hTm hD2 hB2
    by_cases hk : t.k = -2
    · rw [if_pos hk] at hrv
      rw [hrv] at hm
      have HE := Lib.hid hm
      have q1 : (t.k == -2) = true := by rw [hk]; rfl
      clear hm hrv HM
      rw [hk] at x0
      go_wp2_with fail
      exact bodyPost_ret (v := .tuple #[u10, .int .i64 0]) (by simp [results, Tryz.results13, go_sem]) rfl ⟨⟨u10, rfl, HE.out ▸ row_base hRo (by omega)⟩, hBb⟩
    · rw [if_neg hk] at hrv ⊢
      rw [hrv] at hm
      have h8 := b8 hk
      have hbj := hbt t.t (by omega)
      have h24 := hnx t.t (by omega) wr hBb
      obtain ⟨u, hu⟩ : ∃ u, u = tokV next rule kind (sb s) t.t := ⟨_, rfl⟩
      rw [← hu] at h24 hbj
      have HU := Lib.hid hu
      have HE : Hid ((pre ++ [t]) ++ rowV next rule kind (sb s) t.t = rowV next rule kind (sb s) at_) := Lib.hid (by rw [List.append_assoc]; exact hm)
      have q1 : (t.k == -2) = false := by simp [hk]
      have d0 : wr.cell? ⟨w.heap.size, 0, none⟩ = some (.slice an next.length cn) := hDb.cell 0
      have d1 : wr.cell? ⟨w.heap.size, 1, none⟩ = some (.slice ar rule.length cr) := hDb.cell 1
      have d2 : wr.cell? ⟨w.heap.size, 2, none⟩ = some (.slice ak kind.length ck) := hDb.cell 2
      have d3 : wr.cell? ⟨w.heap.size, 3, none⟩ = some (.int .i64 kinds) := hDb.cell 3
      have hTl1 := hTb.lt
      have HBJ := Lib.hid hbj
      clear hm hrv hu hbj
      go_wp2_with (first
        | (go_at_call 24; ((with_reducible refine h24.mono ?_); rintro e W3 ⟨rfl, hb3⟩; have hT3 := hTb.below hb3 hTl1; have hD3 := hDb.below hb3 (by omega); have hB3 := hBb.trans (hb3.mono hBb.size); have hR3 := row_at_below hRo hb3 (fun g e => (hRo.lt g e).2); clear h24 hTb hDb hBb hRo d0 d1 d2 d3 x0 x1 x2 x3 x4))
        | ((with_reducible refine st_id ?_); refine AX.wpList_storeBox (vs := [.int .i64 u.k, .int .i64 u.f, .int .i64 u.a, .int .i64 u.t, .int .i64 u.e]) rfl rfl sz30 hT3 rfl rfl ?_; rintro W4 h3 h4 h5; have hT4 : Bx W4 T 30 #[.int .i64 u.k, .int .i64 u.f, .int .i64 u.a, .int .i64 u.t, .int .i64 u.e] := h3; have hlt4 := hT4.lt; obtain ⟨x0, x1, x2, x3, x4⟩ := Bx.five hT4; have hD4 := hD3.turn (by omega) h4; have hBt := AX.below_turn (n := T) (Nat.le_refl _) (.inl hlt4) h4 h5; have hB4 := hB3.trans (hBt.mono (by omega)); have hR4 : W4.ownsRow (T + 1) 30 5 u10 (pre ++ [t]).length (List.flatMap encT (pre ++ [t])) := row_at_turn hR3 h4; clear hT3 hD3 hB3 hR3 h3 h4 h5)
        | (at_builtin; refine append_t _ (T + 1) _ (pre ++ [t]) u rfl _ _ rfl rfl (hR4.alloc (.cells #[.int .i64 u.k, .int .i64 u.f, .int .i64 u.a, .int .i64 u.t, .int .i64 u.e] 30)) ⟨W4.heap.size, 0, none⟩ rfl (tcells_new W4 u) (by rw [List.length_append]; simp; omega) (by simp; omega) ?_; intro v5 W5 hR5 hb5))
      have hT5 := (hT4.alloc (.cells #[.int .i64 u.k, .int .i64 u.f, .int .i64 u.a, .int .i64 u.t, .int .i64 u.e] 30)).below hb5 (Nat.lt_succ_self T)
      have hD5 := (hD4.alloc (.cells #[.int .i64 u.k, .int .i64 u.f, .int .i64 u.a, .int .i64 u.t, .int .i64 u.e] 30)).below hb5 (by omega)
      have hB5 := (hB4.alloc hB4.size (.cells #[.int .i64 u.k, .int .i64 u.f, .int .i64 u.a, .int .i64 u.t, .int .i64 u.e] 30)).trans (hb5.mono (by omega))
      obtain ⟨c1, c2, c3, c4, c5, c6, c7, c8⟩ := HBJ.out
      refine ⟨⟨pre ++ [t], t.t, u, HU, by omega, by rw [List.length_append]; simp; omega, hR5, hT5, hD5, hB5, HE⟩, ?_⟩
      rw [left_bx hT5]
      split
      · omega
      · rename_i hk'
        have := c8 hk'
        omega
end
end Go.Proofs.YtefjfbhffmkikaaGreatDoor

namespace Go.Proofs.YtefjfbhffmkikaaGreatDoor
open Go Go.Proofs Go.RowKit
attribute [local go_sem] Oper.semAt_some
section
variable {next rule kind : List Int} {kinds : Int} {an ar ak : Option Addr} {cn cr ck : Nat} {w : World}
set_option maxRecDepth 100000 in
set_option maxHeartbeats 4000000 in
theorem from_out (hn : next.length ≤ 1000000) (hr : rule.length ≤ 1000000) (hk : kind.length ≤ 1000000) (hN : IRow w an next) (hR : IRow w ar rule) (hK : IRow w ak kind) (s : ByteArray) (at_ : Int) (hs : s.size ≤ 1000) (ho : ¬ (okL next rule kind kinds = true ∧ 0 ≤ at_ ∧ at_ ≤ s.size)) :
    Calls Tryz.prog 13 #[lV an ar ak next.length rule.length kind.length cn cr ck kinds, .string s, .int .i64 at_] w fun e w' => e = .returned (.tuple #[.slice none 0 0, .int .i64 2]) ∧ Below w.heap.size w w' := by
  have hNx := fun W (hb : Below w.heap.size w W) => rNext_k (cn := cn) (cr := cr) (ck := ck) (kinds := kinds) hn hr hk (hN.below hb (Nat.le_refl _)) (hR.below hb (Nat.le_refl _)) (hK.below hb (Nat.le_refl _)) s at_ (by omega)
  unfold nextV at hNx
  rw [if_neg ho] at hNx
  unfold lV at *
  have hB := (Below.refl w.heap.size w).alloc (Nat.le_refl _) (.cells #[.slice an next.length cn, .slice ar rule.length cr, .slice ak kind.length ck, .int .i64 kinds] 26)
  have h7 := hNx _ hB
  have hw0 := (Bx.new w 26 #[.slice an next.length cn, .slice ar rule.length cr, .slice ak kind.length ck, .int .i64 kinds]).lt
  clear hN hR hK ho hNx
  go_enter Tryz.func13, Tryz.ntmps13
  go_wp2_with fail
  generalize w.alloc (.cells #[.slice an next.length cn, .slice ar rule.length cr, .slice ak kind.length ck, .int .i64 kinds] 26) = W0 at *
  go_wp2_with (go_at_call 7; ((with_reducible refine h7.mono ?_); rintro e W1 ⟨rfl, hb1⟩; have hB1 := hB.trans (hb1.mono (Nat.le_of_lt hw0)); clear h7))
  exact bodyPost_ret (v := .tuple #[.slice none 0 0, .int .i64 2]) (by simp [results, Tryz.results13, go_sem]) rfl ⟨rfl, hB1.alloc hB1.size _⟩
set_option maxRecDepth 100000 in
set_option maxHeartbeats 4000000 in
theorem rAll_in (hn : next.length ≤ 1000000) (hr : rule.length ≤ 1000000) (hk : kind.length ≤ 1000000) (hN : IRow w an next) (hR : IRow w ar rule) (hK : IRow w ak kind) (s : ByteArray) (hs : s.size ≤ 1000) (hok : okL next rule kind kinds = true) :
    Calls Tryz.prog 9 #[lV an ar ak next.length rule.length kind.length cn cr ck kinds, .string s] w fun e w' => (∃ v, e = .returned (.tuple #[v, .int .i64 0]) ∧ TRow w' w.heap.size v (rowV next rule kind (sb s) 0)) ∧ Below w.heap.size w w' := by
  have hF := fun W (hb : Below w.heap.size w W) => from_in (cn := cn) (cr := cr) (ck := ck) hn hr hk (hN.below hb (Nat.le_refl _)) (hR.below hb (Nat.le_refl _)) (hK.below hb (Nat.le_refl _)) s 0 hs hok (Nat.zero_le _)
  unfold lV at *
  have hB := (Below.refl w.heap.size w).alloc (Nat.le_refl _) (.cells #[.slice an next.length cn, .slice ar rule.length cr, .slice ak kind.length ck, .int .i64 kinds] 26)
  have h13 := hF _ hB
  clear hN hR hK hF
  go_enter Tryz.func9, Tryz.ntmps9
  go_wp2_with (go_at_call 13; ((refine h13.mono ?_); rintro e W1 ⟨⟨v, rfl, hv⟩, hb1⟩; have hB1 := hB.trans (hb1.mono hB.size); clear h13))
  exact bodyPost_ret (v := .tuple #[v, .int .i64 0]) (by simp [results, Tryz.results9, go_sem]) rfl ⟨⟨v, rfl, row_base hv (by simp)⟩, hB1⟩
set_option maxRecDepth 100000 in
set_option maxHeartbeats 4000000 in
theorem rAll_out (hn : next.length ≤ 1000000) (hr : rule.length ≤ 1000000) (hk : kind.length ≤ 1000000) (hN : IRow w an next) (hR : IRow w ar rule) (hK : IRow w ak kind) (s : ByteArray) (hs : s.size ≤ 1000) (hok : ¬ okL next rule kind kinds = true) :
    Calls Tryz.prog 9 #[lV an ar ak next.length rule.length kind.length cn cr ck kinds, .string s] w fun e w' => e = .returned (.tuple #[.slice none 0 0, .int .i64 2]) ∧ Below w.heap.size w w' := by
  have hF := fun W (hb : Below w.heap.size w W) => from_out (cn := cn) (cr := cr) (ck := ck) hn hr hk (hN.below hb (Nat.le_refl _)) (hR.below hb (Nat.le_refl _)) (hK.below hb (Nat.le_refl _)) s 0 hs (fun h => hok h.1)
  unfold lV at *
  have hB := (Below.refl w.heap.size w).alloc (Nat.le_refl _) (.cells #[.slice an next.length cn, .slice ar rule.length cr, .slice ak kind.length ck, .int .i64 kinds] 26)
  have h13 := hF _ hB
  clear hN hR hK hF
  go_enter Tryz.func9, Tryz.ntmps9
  go_wp2_with (go_at_call 13; ((refine h13.mono ?_); rintro e W1 ⟨rfl, hb1⟩; have hB1 := hB.trans (hb1.mono hB.size); clear h13))
  exact bodyPost_ret (v := .tuple #[.slice none 0 0, .int .i64 2]) (by simp [results, Tryz.results9, go_sem]) rfl ⟨rfl, hB1⟩
end
end Go.Proofs.YtefjfbhffmkikaaGreatDoor

namespace Go.Proofs.YtefjfbhffmkikaaGreatDoor
open Go Go.Proofs Go.RowKit
attribute [local go_sem] Oper.semAt_some
set_option maxHeartbeats 4000000 in
theorem light_k (an ar : Option Addr) (n r cn cr : Nat) (hn : n ≤ 9223372036854775807) (hr : r ≤ 9223372036854775807) (w : World) :
    Calls Tryz.prog 21 #[.agg #[.slice an n cn, .slice ar r cr], .int .i64 24] w fun e w' => e = .returned (.bool (decide (r ≤ 24) && decide (n ≤ 6144))) ∧ Below w.heap.size w w' := by
  have hB := (Below.refl w.heap.size w).alloc (Nat.le_refl _) (.cells #[.slice an n cn, .slice ar r cr] 24)
  obtain ⟨rv, hrv⟩ : ∃ rv, rv = (decide (r ≤ 24) && decide (n ≤ 6144)) := ⟨_, rfl⟩
  rw [← hrv]
  have HRV := Lib.hid hrv
  clear hrv
  by_cases h1 : (r : Int) ≤ 24
  · by_cases h2 : (n : Int) ≤ 6144
    · have HE := Lib.hid (show rv = true by rw [HRV.out]; simp; omega)
      clear HRV
      go_enter Tryz.func21, Tryz.ntmps21
      go_wp2
      go_ret
      exact ⟨by rw [HE.out]; rfl, hB⟩
    · have HE := Lib.hid (show rv = false by rw [HRV.out]; simp; omega)
      have h3 : (6144 : Int) < (n : Int) := by omega
      clear HRV h2
      go_enter Tryz.func21, Tryz.ntmps21
      go_wp2
      have E : decide ((n : Int) ≤ 6144) = false := by simp; omega
      exact bodyPost_ret (v := .bool rv) (by simp [results, Tryz.results21, go_sem, HE.out, E]) rfl ⟨rfl, hB⟩
  · have HE := Lib.hid (show rv = false by rw [HRV.out]; simp; omega)
    have h3 : (24 : Int) < (r : Int) := by omega
    clear HRV h1
    go_enter Tryz.func21, Tryz.ntmps21
    go_wp2
    go_ret
    exact ⟨by rw [HE.out]; rfl, hB⟩

set_option maxRecDepth 100000 in
set_option maxHeartbeats 4000000 in
theorem llight_k (an ar ak : Option Addr) (n r k cn cr ck : Nat) (kinds : Int) (hn : n ≤ 9223372036854775807) (hr : r ≤ 9223372036854775807) (hk : k ≤ 9223372036854775807) (w : World) :
    Calls Tryz.prog 5 #[lV an ar ak n r k cn cr ck kinds] w fun e w' => e = .returned (.bool ((decide (r ≤ 24) && decide (n ≤ 6144)) && decide (k ≤ 40))) ∧ Below w.heap.size w w' := by
  unfold lV
  have hB := (Below.refl w.heap.size w).alloc (Nat.le_refl _) (.cells #[.slice an n cn, .slice ar r cr, .slice ak k ck, .int .i64 kinds] 26)
  have hD : Bx (w.alloc (.cells #[.slice an n cn, .slice ar r cr, .slice ak k ck, .int .i64 kinds] 26)) w.heap.size 26 #[.slice an n cn, .slice ar r cr, .slice ak k ck, .int .i64 kinds] := Bx.new _ _ _
  have hl := light_k an ar n r cn cr hn hr (w.alloc (.cells #[.slice an n cn, .slice ar r cr, .slice ak k ck, .int .i64 kinds] 26))
  have hw0 := hD.lt
  generalize (decide (r ≤ 24) && decide (n ≤ 6144)) = b at *
  obtain ⟨q, hq⟩ : ∃ q, q = decide (k ≤ 40) := ⟨_, rfl⟩
  have hq' : decide ((k : Int) ≤ 40) = q := by rw [hq]; simp; omega
  rw [← hq]
  clear hq
  cases b <;> cases q <;>
  · go_enter Tryz.func5, Tryz.ntmps5
    go_wp2_with fail
    generalize w.alloc (.cells #[.slice an n cn, .slice ar r cr, .slice ak k ck, .int .i64 kinds] 26) = W0 at *
    go_wp2_with (go_at_call 21; ((with_reducible refine hl.mono ?_); rintro e W1 ⟨rfl, hb1⟩; have hB1 := hB.trans (hb1.mono (Nat.le_of_lt hw0)); have hD1 := hD.below hb1 hw0; have d2 : W1.cell? ⟨w.heap.size, 2, none⟩ = some (.slice ak k ck) := hD1.cell 2))
    go_ret
    exact ⟨rfl, hB1⟩
end Go.Proofs.YtefjfbhffmkikaaGreatDoor

namespace Go.Proofs.YtefjfbhffmkikaaGreatDoor
open Go Go.Proofs Go.RowKit
attribute [local go_sem] Oper.semAt_some
theorem tflat_get : ∀ (l : List Tk) (i : Nat) (h : i < l.length) (j : Nat) (v : Value), (encT l[i])[j]? = some v → (l.flatMap encT)[i * 5 + j]? = some v
  | x :: l, 0, _, j, v, hv => by
    have hj : j < (encT x).length := (List.getElem?_eq_some_iff.1 hv).1
    rw [List.flatMap_cons, Nat.zero_mul, Nat.zero_add, List.getElem?_append_left hj]
    exact hv
  | x :: l, i + 1, h, j, v, hv => by
    rw [List.flatMap_cons, List.getElem?_append_right (by rw [encT_len]; omega), encT_len, show (i + 1) * 5 + j - 5 = i * 5 + j by omega]
    exact tflat_get l i (by simpa using h) j v (by simpa using hv)
theorem trow_cell {w : World} {base g n cap : Nat} {l : List Tk} (h : w.ownsRow base 30 5 (.slice (some ⟨g, 0, none⟩) n cap) n (l.flatMap encT)) {i : Nat} (hi : i < l.length) : w.cell? ⟨g, i * 5, none⟩ = some (.int .i64 l[i].k) ∧ w.cell? ⟨g, i * 5 + 1, none⟩ = some (.int .i64 l[i].f) ∧ w.cell? ⟨g, i * 5 + 2, none⟩ = some (.int .i64 l[i].a) ∧ w.cell? ⟨g, i * 5 + 3, none⟩ = some (.int .i64 l[i].t) ∧ w.cell? ⟨g, i * 5 + 4, none⟩ = some (.int .i64 l[i].e) := by
  have H : ∀ j v, (encT l[i])[j]? = some v → w.cell? ⟨g, i * 5 + j, none⟩ = some v := fun j v hv => by
    have := h.cells (g := g) rfl (i * 5 + j) v (tflat_get l i hi j v hv)
    rwa [t_addr_add, Nat.zero_add] at this
  exact ⟨H 0 _ rfl, H 1 _ rfl, H 2 _ rfl, H 3 _ rfl, H 4 _ rfl⟩
set_option maxRecDepth 100000 in
set_option maxHeartbeats 4000000 in
theorem same_k (l : List Tk) (hl : l.length ≤ 1000000) (w : World) (ba bb ga gb ca cb : Nat) (hA : w.ownsRow ba 30 5 (.slice (some ⟨ga, 0, none⟩) l.length ca) l.length (l.flatMap encT)) (hB : w.ownsRow bb 30 5 (.slice (some ⟨gb, 0, none⟩) l.length cb) l.length (l.flatMap encT)) :
    Calls Tryz.prog 14 #[.slice (some ⟨ga, 0, none⟩) l.length ca, .slice (some ⟨gb, 0, none⟩) l.length cb] w fun e w' => e = .returned (.bool true) ∧ Below w.heap.size w w' := by
  have hga := (hA.lt ga rfl).2
  have hgb := (hB.lt gb rfl).2
  have hcA := fun i (hi : i < l.length) => trow_cell hA hi
  have hcB := fun i (hi : i < l.length) => trow_cell hB hi
  clear hA hB
  go_enter Tryz.func14, Tryz.ntmps14
  go_wp2
  obtain ⟨wo, rfl⟩ : ∃ wo : World, wo = w := ⟨_, rfl⟩
  go_loopw [5] (fun vi wr => ∃ i : Nat, vi = .int .i64 i ∧ i ≤ l.length ∧ Below wo.heap.size wo wr) (fun vi _ => l.length - (intOf vi).toNat)
  case atStart => exact ⟨0, rfl, Nat.zero_le _, Below.refl _ _⟩
  case round =>
    obtain ⟨i, rfl, hi, hb⟩ := hrel
    rcases Nat.lt_or_eq_of_le hi with hlt | rfl
    · obtain ⟨a0, a1, a2, a3, a4⟩ := hcA i hlt
      obtain ⟨b0, b1, b2, b3, b4⟩ := hcB i hlt
      have a0 := (hb.cell (p := ⟨ga, i * 5, none⟩) hga).trans a0
      have a1 := (hb.cell (p := ⟨ga, i * 5 + 1, none⟩) hga).trans a1
      have a2 := (hb.cell (p := ⟨ga, i * 5 + 2, none⟩) hga).trans a2
      have a3 := (hb.cell (p := ⟨ga, i * 5 + 3, none⟩) hga).trans a3
      have a4 := (hb.cell (p := ⟨ga, i * 5 + 4, none⟩) hga).trans a4
      have b0 := (hb.cell (p := ⟨gb, i * 5, none⟩) hgb).trans b0
      have b1 := (hb.cell (p := ⟨gb, i * 5 + 1, none⟩) hgb).trans b1
      have b2 := (hb.cell (p := ⟨gb, i * 5 + 2, none⟩) hgb).trans b2
      have b3 := (hb.cell (p := ⟨gb, i * 5 + 3, none⟩) hgb).trans b3
      have b4 := (hb.cell (p := ⟨gb, i * 5 + 4, none⟩) hgb).trans b4
      generalize l[i] = t at *
      have i0 : (0 : Int) ≤ (i : Int) := by omega
      have i1 : (i : Int) < (l.length : Int) := by omega
      clear hcA hcB
      go_wp2
      go_region
      have hbd := hb.drew
      generalize wr.drew = W2 at *
      clear a0 a1 a2 a3 a4 b0 b1 b2 b3 b4
      go_wp2
      go_roundw
      case rel => exact ⟨i + 1, by go_num, by omega, hbd⟩
      case measure => simp [intOf]; omega
    · go_wp2
      go_ret
      exact ⟨rfl, hb⟩
end Go.Proofs.YtefjfbhffmkikaaGreatDoor

namespace Go.Proofs.YtefjfbhffmkikaaGreatDoor
open Go Go.Proofs Go.RowKit
attribute [local go_sem] Oper.semAt_some
set_option maxRecDepth 100000 in
set_option maxHeartbeats 4000000 in
/-- slices.Equal of two rows of numbers. -/
theorem equal_k (xs ys : List Int) (hx : xs.length ≤ 1000000) (_hy : ys.length ≤ 1000000) (a b : Option Addr) (ca cb : Nat) (w : World) (hA : IRow w a xs) (hB : IRow w b ys) :
    Calls Tryz.prog 33 #[.slice a xs.length ca, .slice b ys.length cb] w fun e w' => e = .returned (.bool (decide (xs = ys))) ∧ Below w.heap.size w w' := by
  obtain ⟨r, hr⟩ : ∃ r, r = decide (xs = ys) := ⟨_, rfl⟩
  rw [← hr]
  have HR := Lib.hid hr
  clear hr
  by_cases hlen : xs.length = ys.length
  · have HL := Lib.hid hlen
    have q0 : ((xs.length : Int) != (ys.length : Int)) = false := by simp [hlen]
    clear hlen
    go_enter Tryz.func33, Tryz.ntmps33
    go_wp2
    obtain ⟨wo, rfl⟩ : ∃ wo : World, wo = w := ⟨_, rfl⟩
    go_loopw [13] (fun vi wr => ∃ i : Nat, vi = .int .i64 i ∧ i ≤ xs.length ∧ Hid (∀ j, j < i → xs.getD j 0 = ys.getD j 0) ∧ Below wo.heap.size wo wr) (fun vi _ => xs.length - (intOf vi).toNat)
    case atStart => exact ⟨0, rfl, Nat.zero_le _, Lib.hid (fun j hj => by omega), Below.refl _ _⟩
    case round =>
      obtain ⟨i, rfl, hi, HE, hb⟩ := hrel
      rcases Nat.lt_or_eq_of_le hi with hlt | heq
      · obtain ⟨b1, o1, rfl, hb1, c1⟩ := hA.get hlt
        obtain ⟨b2, o2, rfl, hb2, c2⟩ := hB.get (show i < ys.length by rw [← HL.out]; exact hlt)
        have c1 := (hb.cell (p := ⟨b1, o1 + i, none⟩) hb1).trans c1
        have c2 := (hb.cell (p := ⟨b2, o2 + i, none⟩) hb2).trans c2
        have i0 : (0 : Int) ≤ (i : Int) := by omega
        have i1 : (i : Int) < (xs.length : Int) := by omega
        have i2 : (i : Int) < (ys.length : Int) := by have := HL.out; omega
        obtain ⟨x, hxe⟩ : ∃ x, x = xs.getD i 0 := ⟨_, rfl⟩
        obtain ⟨y, hye⟩ : ∃ y, y = ys.getD i 0 := ⟨_, rfl⟩
        rw [← hxe] at c1
        rw [← hye] at c2
        have HX := Lib.hid hxe
        have HY := Lib.hid hye
        clear hxe hye
        by_cases hxy : x = y
        · subst hxy
          go_wp2
          go_region
          have hbd := hb.drew
          generalize wr.drew = W2 at *
          clear c1 c2
          go_wp2
          go_roundw
          case rel => exact ⟨i + 1, by go_num, by omega, Lib.hid (fun j hj => by
            rcases Nat.lt_or_eq_of_le (Nat.le_of_lt_succ hj) with h | rfl
            · exact HE.out j h
            · exact HX.out.symm.trans HY.out), hbd⟩
          case measure => simp [intOf]; omega
        · have q1 : (x != y) = true := by simp [hxy]
          have q2 : (x == y) = false := by simp [hxy]
          have HF : Hid (r = false) := Lib.hid (by rw [HR.out]; simp; intro h; apply hxy; rw [HX.out, HY.out, h])
          clear hxy
          go_wp2
          go_region
          have hbd := hb.drew
          generalize wr.drew = W2 at *
          clear c1 c2
          go_wp2
          go_ret
          exact ⟨by rw [HF.out]; rfl, hbd⟩
      · have HT : Hid (r = true) := Lib.hid (by
          rw [HR.out]
          simp only [decide_eq_true_eq]
          apply List.ext_getElem HL.out
          intro j h1 h2
          have := HE.out j (by omega)
          simpa [h1, h2] using this)
        subst heq
        go_wp2
        go_ret
        exact ⟨by rw [HT.out]; rfl, hb⟩
  · have HF : Hid (r = false) := Lib.hid (by rw [HR.out]; simp; intro h; exact hlen (by rw [h]))
    have q0 : ((xs.length : Int) != (ys.length : Int)) = true := by simp; omega
    clear hlen
    go_enter Tryz.func33, Tryz.ntmps33
    go_wp2
    go_ret
    exact ⟨by rw [HF.out]; rfl, Below.refl _ _⟩
end Go.Proofs.YtefjfbhffmkikaaGreatDoor

namespace Go.Proofs.YtefjfbhffmkikaaGreatDoor
open Go Go.Proofs Go.RowKit
attribute [local go_sem] Oper.semAt_some
section
variable {next rule kind next' rule' kind' : List Int} {kinds kinds' : Int} {an ar ak bn br bk : Option Addr} {cn cr ck dn dr dk : Nat} {w : World}
set_option maxRecDepth 100000 in
set_option maxHeartbeats 4000000 in
theorem dsame_k (h1 : next.length ≤ 1000000) (h2 : rule.length ≤ 1000000) (h3 : next'.length ≤ 1000000) (h4 : rule'.length ≤ 1000000) (hN : IRow w an next) (hR : IRow w ar rule) (hN' : IRow w bn next') (hR' : IRow w br rule') :
    Calls Tryz.prog 32 #[dV an ar next.length rule.length cn cr, dV bn br next'.length rule'.length dn dr] w fun e w' => e = .returned (.bool (decide (next = next') && decide (rule = rule'))) ∧ Below w.heap.size w w' := by
  have k1 := fun W (hb : Below w.heap.size w W) => equal_k next next' h1 h3 an bn cn dn W (hN.below hb (Nat.le_refl _)) (hN'.below hb (Nat.le_refl _))
  have k2 := fun W (hb : Below w.heap.size w W) => equal_k rule rule' h2 h4 ar br cr dr W (hR.below hb (Nat.le_refl _)) (hR'.below hb (Nat.le_refl _))
  unfold dV
  have hD := (Bx.new w 24 #[.slice an next.length cn, .slice ar rule.length cr]).alloc (.cells #[.slice bn next'.length dn, .slice br rule'.length dr] 24)
  have hE := Bx.new (w.alloc (.cells #[.slice an next.length cn, .slice ar rule.length cr] 24)) 24 #[.slice bn next'.length dn, .slice br rule'.length dr]
  rw [World.size_alloc] at hE
  have hB := ((Below.refl w.heap.size w).alloc (Nat.le_refl _) (.cells #[.slice an next.length cn, .slice ar rule.length cr] 24)).alloc (by simp) (.cells #[.slice bn next'.length dn, .slice br rule'.length dr] 24)
  generalize decide (next = next') = p at *
  generalize decide (rule = rule') = q at *
  generalize next.length = n1 at *
  generalize rule.length = n2 at *
  generalize next'.length = n3 at *
  generalize rule'.length = n4 at *
  clear hN hR hN' hR'
  cases p <;> cases q <;>
  · go_enter Tryz.func32, Tryz.ntmps32
    go_wp2_with fail
    generalize (w.alloc (.cells #[.slice an n1 cn, .slice ar n2 cr] 24)).alloc (.cells #[.slice bn n3 dn, .slice br n4 dr] 24) = W0 at *
    have g1 := k1 W0 hB
    have c1 : W0.cell? ⟨w.heap.size, 0, none⟩ = some (.slice an n1 cn) := hD.cell 0
    have c2 : W0.cell? ⟨w.heap.size, 1, none⟩ = some (.slice ar n2 cr) := hD.cell 1
    have c3 : W0.cell? ⟨w.heap.size + 1, 0, none⟩ = some (.slice bn n3 dn) := hE.cell 0
    have c4 : W0.cell? ⟨w.heap.size + 1, 1, none⟩ = some (.slice br n4 dr) := hE.cell 1
    have hw1 := hE.lt
    have hw0 := hD.lt
    go_wp2_with (go_at_call 33; (first
      | ((with_reducible refine g1.mono ?_); rintro e W1 ⟨rfl, hb1⟩; have hB1 := hB.trans (hb1.mono (Nat.le_of_lt hw0)); have g2 := k2 W1 hB1; have d1 : W1.cell? ⟨w.heap.size, 1, none⟩ = some (.slice ar n2 cr) := (hD.below hb1 hw0).cell 1; have d3 : W1.cell? ⟨w.heap.size + 1, 1, none⟩ = some (.slice br n4 dr) := (hE.below hb1 hw1).cell 1)
      | ((with_reducible refine g2.mono ?_); rintro e W2 ⟨rfl, hb2⟩; have hB1 := hB1.trans (hb2.mono hB1.size))))
    go_ret
    exact ⟨rfl, hB1⟩
end
end Go.Proofs.YtefjfbhffmkikaaGreatDoor

namespace Go.Proofs.YtefjfbhffmkikaaGreatDoor
open Go Go.Proofs Go.RowKit
attribute [local go_sem] Oper.semAt_some
section
variable {next rule kind next' rule' kind' : List Int} {kinds kinds' : Int} {an ar ak bn br bk : Option Addr} {cn cr ck dn dr dk : Nat} {w : World}
def sameV (next rule kind next' rule' kind' : List Int) (kinds kinds' : Int) : Bool := (decide (next = next') && decide (rule = rule')) && (decide (kinds = kinds') && decide (kind = kind'))
set_option maxRecDepth 100000 in
set_option maxHeartbeats 4000000 in
theorem lsame_k (h1 : next.length ≤ 1000000) (h2 : rule.length ≤ 1000000) (h3 : next'.length ≤ 1000000) (h4 : rule'.length ≤ 1000000) (h5 : kind.length ≤ 1000000) (h6 : kind'.length ≤ 1000000) (hN : IRow w an next) (hR : IRow w ar rule) (hK : IRow w ak kind) (hN' : IRow w bn next') (hR' : IRow w br rule') (hK' : IRow w bk kind') :
    Calls Tryz.prog 17 #[lV an ar ak next.length rule.length kind.length cn cr ck kinds, lV bn br bk next'.length rule'.length kind'.length dn dr dk kinds'] w fun e w' => e = .returned (.bool (sameV next rule kind next' rule' kind' kinds kinds')) ∧ Below w.heap.size w w' := by
  have k1 := fun W (hb : Below w.heap.size w W) => dsame_k (cn := cn) (cr := cr) (dn := dn) (dr := dr) h1 h2 h3 h4 (hN.below hb (Nat.le_refl _)) (hR.below hb (Nat.le_refl _)) (hN'.below hb (Nat.le_refl _)) (hR'.below hb (Nat.le_refl _))
  have k2 := fun W (hb : Below w.heap.size w W) => equal_k kind kind' h5 h6 ak bk ck dk W (hK.below hb (Nat.le_refl _)) (hK'.below hb (Nat.le_refl _))
  unfold lV sameV
  unfold dV at k1
  have hD := (Bx.new w 26 #[.slice an next.length cn, .slice ar rule.length cr, .slice ak kind.length ck, .int .i64 kinds]).alloc (.cells #[.slice bn next'.length dn, .slice br rule'.length dr, .slice bk kind'.length dk, .int .i64 kinds'] 26)
  have hE := Bx.new (w.alloc (.cells #[.slice an next.length cn, .slice ar rule.length cr, .slice ak kind.length ck, .int .i64 kinds] 26)) 26 #[.slice bn next'.length dn, .slice br rule'.length dr, .slice bk kind'.length dk, .int .i64 kinds']
  rw [World.size_alloc] at hE
  have hB := ((Below.refl w.heap.size w).alloc (Nat.le_refl _) (.cells #[.slice an next.length cn, .slice ar rule.length cr, .slice ak kind.length ck, .int .i64 kinds] 26)).alloc (by simp) (.cells #[.slice bn next'.length dn, .slice br rule'.length dr, .slice bk kind'.length dk, .int .i64 kinds'] 26)
  generalize (decide (next = next') && decide (rule = rule')) = p at *
  generalize decide (kind = kind') = q at *
  generalize next.length = n1 at *
  generalize rule.length = n2 at *
  generalize next'.length = n3 at *
  generalize rule'.length = n4 at *
  generalize kind.length = n5 at *
  generalize kind'.length = n6 at *
  clear hN hR hN' hR' hK hK'
  by_cases hkk : kinds = kinds'
  · subst hkk
    simp only [decide_true, Bool.true_and]
    cases p <;> cases q <;>
    · go_enter Tryz.func17, Tryz.ntmps17
      go_wp2_with fail
      generalize (w.alloc (.cells #[.slice an n1 cn, .slice ar n2 cr, .slice ak n5 ck, .int .i64 kinds] 26)).alloc (.cells #[.slice bn n3 dn, .slice br n4 dr, .slice bk n6 dk, .int .i64 kinds] 26) = W0 at *
      have g1 := k1 W0 hB
      have c1 : W0.cell? ⟨w.heap.size, 0, none⟩ = some (.slice an n1 cn) := hD.cell 0
      have c2 : W0.cell? ⟨w.heap.size, 1, none⟩ = some (.slice ar n2 cr) := hD.cell 1
      have c3 : W0.cell? ⟨w.heap.size + 1, 0, none⟩ = some (.slice bn n3 dn) := hE.cell 0
      have c4 : W0.cell? ⟨w.heap.size + 1, 1, none⟩ = some (.slice br n4 dr) := hE.cell 1
      have hw1 := hE.lt
      have hw0 := hD.lt
      go_wp2_with (first
        | (go_at_call 32; ((with_reducible refine g1.mono ?_); rintro e W1 ⟨rfl, hb1⟩; have hB1 := hB.trans (hb1.mono (Nat.le_of_lt hw0)); have g2 := k2 W1 hB1; have d1 : W1.cell? ⟨w.heap.size, 2, none⟩ = some (.slice ak n5 ck) := (hD.below hb1 hw0).cell 2; have d2 : W1.cell? ⟨w.heap.size, 3, none⟩ = some (.int .i64 kinds) := (hD.below hb1 hw0).cell 3; have d3 : W1.cell? ⟨w.heap.size + 1, 2, none⟩ = some (.slice bk n6 dk) := (hE.below hb1 hw1).cell 2; have d4 : W1.cell? ⟨w.heap.size + 1, 3, none⟩ = some (.int .i64 kinds) := (hE.below hb1 hw1).cell 3))
        | (go_at_call 33; ((with_reducible refine g2.mono ?_); rintro e W2 ⟨rfl, hb2⟩; have hB1 := hB1.trans (hb2.mono hB1.size))))
      go_ret
      exact ⟨rfl, hB1⟩
  · simp only [hkk, decide_false, Bool.false_and, Bool.and_false]
    have q1 : (kinds == kinds') = false := by simp [hkk]
    clear hkk k2
    cases p <;>
    · go_enter Tryz.func17, Tryz.ntmps17
      go_wp2_with fail
      generalize (w.alloc (.cells #[.slice an n1 cn, .slice ar n2 cr, .slice ak n5 ck, .int .i64 kinds] 26)).alloc (.cells #[.slice bn n3 dn, .slice br n4 dr, .slice bk n6 dk, .int .i64 kinds'] 26) = W0 at *
      have g1 := k1 W0 hB
      have c1 : W0.cell? ⟨w.heap.size, 0, none⟩ = some (.slice an n1 cn) := hD.cell 0
      have c2 : W0.cell? ⟨w.heap.size, 1, none⟩ = some (.slice ar n2 cr) := hD.cell 1
      have c3 : W0.cell? ⟨w.heap.size + 1, 0, none⟩ = some (.slice bn n3 dn) := hE.cell 0
      have c4 : W0.cell? ⟨w.heap.size + 1, 1, none⟩ = some (.slice br n4 dr) := hE.cell 1
      have hw1 := hE.lt
      have hw0 := hD.lt
      go_wp2_with (go_at_call 32; ((with_reducible refine g1.mono ?_); rintro e W1 ⟨rfl, hb1⟩; have hB1 := hB.trans (hb1.mono (Nat.le_of_lt hw0)); have d2 : W1.cell? ⟨w.heap.size, 3, none⟩ = some (.int .i64 kinds) := (hD.below hb1 hw0).cell 3; have d4 : W1.cell? ⟨w.heap.size + 1, 3, none⟩ = some (.int .i64 kinds') := (hE.below hb1 hw1).cell 3))
      go_ret
      exact ⟨rfl, hB1⟩
end
end Go.Proofs.YtefjfbhffmkikaaGreatDoor

namespace Go.Proofs.YtefjfbhffmkikaaGreatDoor
open Go Go.Proofs Go.RowKit
attribute [local go_sem] Oper.semAt_some
section
variable {next rule next' rule' : List Int} {an ar bn br : Option Addr} {cn cr dn dr : Nat} {w : World}
/-- Both boxes of tables stand. -/
structure D2 (w W : World) (n1 n2 n3 n4 : Nat) (an ar bn br : Option Addr) (cn cr dn dr : Nat) : Prop where
  b : Below w.heap.size w W
  d : Bx W w.heap.size 24 #[.slice an n1 cn, .slice ar n2 cr]
  e : Bx W (w.heap.size + 1) 24 #[.slice bn n3 dn, .slice br n4 dr]
theorem D2.drew {w W : World} {n1 n2 n3 n4 : Nat} (h : D2 w W n1 n2 n3 n4 an ar bn br cn cr dn dr) : D2 w W.drew n1 n2 n3 n4 an ar bn br cn cr dn dr := ⟨h.b.drew, h.d, h.e⟩
set_option maxRecDepth 100000 in
set_option maxHeartbeats 4000000 in
theorem rdsame_k (h1 : next.length ≤ 1000000) (h2 : rule.length ≤ 1000000) (_h3 : next'.length ≤ 1000000) (_h4 : rule'.length ≤ 1000000) (hN : IRow w an next) (hR : IRow w ar rule) (hN' : IRow w bn next') (hR' : IRow w br rule') :
    Calls Tryz.prog 34 #[dV an ar next.length rule.length cn cr, dV bn br next'.length rule'.length dn dr] w fun e w' => e = .returned (.bool (decide (next = next') && decide (rule = rule'))) ∧ Below w.heap.size w w' := by
  unfold dV
  obtain ⟨r, hr⟩ : ∃ r, r = (decide (next = next') && decide (rule = rule')) := ⟨_, rfl⟩
  rw [← hr]
  have HR := Lib.hid hr
  clear hr
  have hD : D2 w ((w.alloc (.cells #[.slice an next.length cn, .slice ar rule.length cr] 24)).alloc (.cells #[.slice bn next'.length dn, .slice br rule'.length dr] 24)) next.length rule.length next'.length rule'.length an ar bn br cn cr dn dr := by
    have hE := Bx.new (w.alloc (.cells #[.slice an next.length cn, .slice ar rule.length cr] 24)) 24 #[.slice bn next'.length dn, .slice br rule'.length dr]
    rw [World.size_alloc] at hE
    exact ⟨((Below.refl w.heap.size w).alloc (Nat.le_refl _) _).alloc (by simp) _, (Bx.new w 24 #[.slice an next.length cn, .slice ar rule.length cr]).alloc _, hE⟩
  by_cases hlen : next.length = next'.length ∧ rule.length = rule'.length
  · obtain ⟨hl1, hl2⟩ := hlen
    have q0 : ((next.length : Int) != (next'.length : Int)) = false := by simp [hl1]
    have q1 : ((rule.length : Int) != (rule'.length : Int)) = false := by simp [hl2]
    have HL1 := Lib.hid hl1
    have HL2 := Lib.hid hl2
    clear hl1 hl2
    go_enter Tryz.func34, Tryz.ntmps34
    go_wp2_with fail
    generalize (w.alloc (.cells #[.slice an next.length cn, .slice ar rule.length cr] 24)).alloc (.cells #[.slice bn next'.length dn, .slice br rule'.length dr] 24) = W0 at *
    have c1 : W0.cell? ⟨w.heap.size, 0, none⟩ = some (.slice an next.length cn) := hD.d.cell 0
    have c2 : W0.cell? ⟨w.heap.size, 1, none⟩ = some (.slice ar rule.length cr) := hD.d.cell 1
    have c3 : W0.cell? ⟨w.heap.size + 1, 0, none⟩ = some (.slice bn next'.length dn) := hD.e.cell 0
    have c4 : W0.cell? ⟨w.heap.size + 1, 1, none⟩ = some (.slice br rule'.length dr) := hD.e.cell 1
    have hDD := hD
    clear hD
    go_wp2_with fail
    go_loopw [5] (fun vi wr => ∃ i : Nat, vi = .int .i64 i ∧ i ≤ next.length ∧ Hid (∀ j, j < i → next.getD j 0 = next'.getD j 0) ∧ D2 w wr next.length rule.length next'.length rule'.length an ar bn br cn cr dn dr) (fun vi _ => next.length - (intOf vi).toNat)
    case atStart => exact ⟨0, rfl, Nat.zero_le _, Lib.hid (fun j hj => by omega), hDD⟩
    case round =>
      obtain ⟨i, rfl, hi, HE, hb⟩ := hrel
      have c1 : wr.cell? ⟨w.heap.size, 0, none⟩ = some (.slice an next.length cn) := hb.d.cell 0
      have c2 : wr.cell? ⟨w.heap.size, 1, none⟩ = some (.slice ar rule.length cr) := hb.d.cell 1
      have c3 : wr.cell? ⟨w.heap.size + 1, 0, none⟩ = some (.slice bn next'.length dn) := hb.e.cell 0
      have c4 : wr.cell? ⟨w.heap.size + 1, 1, none⟩ = some (.slice br rule'.length dr) := hb.e.cell 1
      rcases Nat.lt_or_eq_of_le hi with hlt | heq
      · obtain ⟨b1, o1, hba, hb1, k1⟩ := hN.get hlt
        obtain ⟨b2, o2, hbb, hb2, k2⟩ := hN'.get (show i < next'.length by rw [← HL1.out]; exact hlt)
        have k1 := (hb.b.cell (p := ⟨b1, o1 + i, none⟩) hb1).trans k1
        have k2 := (hb.b.cell (p := ⟨b2, o2 + i, none⟩) hb2).trans k2
        have i0 : (0 : Int) ≤ (i : Int) := by omega
        have i1 : (i : Int) < (next.length : Int) := by omega
        have i2 : (i : Int) < (next'.length : Int) := by have := HL1.out; omega
        obtain ⟨x, hxe⟩ : ∃ x, x = next.getD i 0 := ⟨_, rfl⟩
        obtain ⟨y, hye⟩ : ∃ y, y = next'.getD i 0 := ⟨_, rfl⟩
        rw [← hxe] at k1
        rw [← hye] at k2
        have HX := Lib.hid hxe
        have HY := Lib.hid hye
        clear hxe hye
        subst hba hbb
        by_cases hxy : x = y
        · subst hxy
          go_wp2
          go_region
          have hbd := hb.drew
          generalize wr.drew = W2 at *
          clear k1 k2 c1 c2 c3 c4
          go_wp2
          go_roundw
          case rel => exact ⟨i + 1, by go_num, by omega, Lib.hid (fun j hj => by
            rcases Nat.lt_or_eq_of_le (Nat.le_of_lt_succ hj) with h | rfl
            · exact HE.out j h
            · exact HX.out.symm.trans HY.out), hbd⟩
          case measure => simp [intOf]; omega
        · have q3 : (x != y) = true := by simp [hxy]
          have q2 : (x == y) = false := by simp [hxy]
          have HF : Hid (r = false) := Lib.hid (by rw [HR.out]; simp only [Bool.and_eq_false_iff, decide_eq_false_iff_not]; left; intro h; apply hxy; rw [HX.out, HY.out, h])
          clear hxy
          go_wp2
          go_region
          have hbd := hb.drew
          generalize wr.drew = W2 at *
          clear k1 k2 c1 c2 c3 c4
          go_wp2
          go_ret
          exact ⟨by rw [HF.out]; rfl, hbd.b⟩
      · have HQ1 : Hid (next = next') := Lib.hid (by
          apply List.ext_getElem HL1.out
          intro j h1 h2
          have := HE.out j (by omega)
          simpa [h1, h2] using this)
        subst heq
        have hDD := hb
        go_wp2
        go_loopw [6] (fun vi wr => ∃ i : Nat, vi = .int .i64 i ∧ i ≤ rule.length ∧ Hid (∀ j, j < i → rule.getD j 0 = rule'.getD j 0) ∧ D2 w wr next.length rule.length next'.length rule'.length an ar bn br cn cr dn dr) (fun vi _ => rule.length - (intOf vi).toNat)
        case atStart => exact ⟨0, rfl, Nat.zero_le _, Lib.hid (fun j hj => by omega), hDD⟩
        case round =>
          obtain ⟨i, rfl, hi, HE, hb⟩ := hrel
          have c1 : wr.cell? ⟨w.heap.size, 0, none⟩ = some (.slice an next.length cn) := hb.d.cell 0
          have c2 : wr.cell? ⟨w.heap.size, 1, none⟩ = some (.slice ar rule.length cr) := hb.d.cell 1
          have c3 : wr.cell? ⟨w.heap.size + 1, 0, none⟩ = some (.slice bn next'.length dn) := hb.e.cell 0
          have c4 : wr.cell? ⟨w.heap.size + 1, 1, none⟩ = some (.slice br rule'.length dr) := hb.e.cell 1
          rcases Nat.lt_or_eq_of_le hi with hlt | heq
          · obtain ⟨b1, o1, hba, hb1, k1⟩ := hR.get hlt
            obtain ⟨b2, o2, hbb, hb2, k2⟩ := hR'.get (show i < rule'.length by rw [← HL2.out]; exact hlt)
            have k1 := (hb.b.cell (p := ⟨b1, o1 + i, none⟩) hb1).trans k1
            have k2 := (hb.b.cell (p := ⟨b2, o2 + i, none⟩) hb2).trans k2
            have i0 : (0 : Int) ≤ (i : Int) := by omega
            have i1 : (i : Int) < (rule.length : Int) := by omega
            have i2 : (i : Int) < (rule'.length : Int) := by have := HL2.out; omega
            obtain ⟨x, hxe⟩ : ∃ x, x = rule.getD i 0 := ⟨_, rfl⟩
            obtain ⟨y, hye⟩ : ∃ y, y = rule'.getD i 0 := ⟨_, rfl⟩
            rw [← hxe] at k1
            rw [← hye] at k2
            have HX := Lib.hid hxe
            have HY := Lib.hid hye
            clear hxe hye
            subst hba hbb
            by_cases hxy : x = y
            · subst hxy
              go_wp2
              go_region
              have hbd := hb.drew
              generalize wr.drew = W2 at *
              clear k1 k2 c1 c2 c3 c4
              go_wp2
              go_roundw
              case rel => exact ⟨i + 1, by go_num, by omega, Lib.hid (fun j hj => by
                rcases Nat.lt_or_eq_of_le (Nat.le_of_lt_succ hj) with h | rfl
                · exact HE.out j h
                · exact HX.out.symm.trans HY.out), hbd⟩
              case measure => simp [intOf]; omega
            · have q3 : (x != y) = true := by simp [hxy]
              have q2 : (x == y) = false := by simp [hxy]
              have HF : Hid (r = false) := Lib.hid (by rw [HR.out]; simp only [Bool.and_eq_false_iff, decide_eq_false_iff_not]; right; intro h; apply hxy; rw [HX.out, HY.out, h])
              clear hxy
              go_wp2
              go_region
              have hbd := hb.drew
              generalize wr.drew = W2 at *
              clear k1 k2 c1 c2 c3 c4
              go_wp2
              go_ret
              exact ⟨by rw [HF.out]; rfl, hbd.b⟩
          · have HQ2 : Hid (rule = rule') := Lib.hid (by
              apply List.ext_getElem HL2.out
              intro j h1 h2
              have := HE.out j (by omega)
              simpa [h1, h2] using this)
            subst heq
            have hDD := hb
            go_wp2
            go_ret
            exact ⟨by rw [HR.out, HQ1.out, HQ2.out]; simp, hDD.b⟩
  · have HF : Hid (r = false) := Lib.hid (by
      rw [HR.out]
      simp only [Bool.and_eq_false_iff, decide_eq_false_iff_not]
      by_cases e : next.length = next'.length
      · exact .inr fun h => hlen ⟨e, by rw [h]⟩
      · exact .inl fun h => e (by rw [h]))
    have hb := hD.b
    have c1 := hD.d.cell 0
    clear hD
    by_cases e : next.length = next'.length
    · have e2 : rule.length ≠ rule'.length := fun h => hlen ⟨e, h⟩
      have q0 : ((next.length : Int) != (next'.length : Int)) = false := by simp [e]
      have q1 : ((rule.length : Int) != (rule'.length : Int)) = true := by simp; omega
      clear e e2 hlen c1
      go_enter Tryz.func34, Tryz.ntmps34
      go_wp2
      go_ret
      exact ⟨by rw [HF.out]; rfl, hb⟩
    · have q0 : ((next.length : Int) != (next'.length : Int)) = true := by simp; omega
      clear e hlen c1
      go_enter Tryz.func34, Tryz.ntmps34
      go_wp2
      go_ret
      exact ⟨by rw [HF.out]; rfl, hb⟩
end
end Go.Proofs.YtefjfbhffmkikaaGreatDoor

namespace Go.Proofs.YtefjfbhffmkikaaGreatDoor
open Go Go.Proofs Go.RowKit
attribute [local go_sem] Oper.semAt_some
section
variable {next rule kind next' rule' kind' : List Int} {kinds kinds' : Int} {an ar ak bn br bk : Option Addr} {cn cr ck dn dr dk : Nat} {w : World}
/-- Both boxes of lexers stand. -/
structure E2 (w W : World) (n1 n2 n3 n4 n5 n6 : Nat) (kinds kinds' : Int) (an ar ak bn br bk : Option Addr) (cn cr ck dn dr dk : Nat) : Prop where
  b : Below w.heap.size w W
  d : Bx W w.heap.size 26 #[.slice an n1 cn, .slice ar n2 cr, .slice ak n5 ck, .int .i64 kinds]
  e : Bx W (w.heap.size + 1) 26 #[.slice bn n3 dn, .slice br n4 dr, .slice bk n6 dk, .int .i64 kinds']
theorem E2.drew {w W : World} {n1 n2 n3 n4 n5 n6 : Nat} (h : E2 w W n1 n2 n3 n4 n5 n6 kinds kinds' an ar ak bn br bk cn cr ck dn dr dk) : E2 w W.drew n1 n2 n3 n4 n5 n6 kinds kinds' an ar ak bn br bk cn cr ck dn dr dk := ⟨h.b.drew, h.d, h.e⟩
theorem E2.below {w W W' : World} {n1 n2 n3 n4 n5 n6 : Nat} (h : E2 w W n1 n2 n3 n4 n5 n6 kinds kinds' an ar ak bn br bk cn cr ck dn dr dk) (hb : Below W.heap.size W W') : E2 w W' n1 n2 n3 n4 n5 n6 kinds kinds' an ar ak bn br bk cn cr ck dn dr dk :=
  ⟨h.b.trans (hb.mono h.b.size), h.d.below hb h.d.lt, h.e.below hb h.e.lt⟩
set_option maxRecDepth 100000 in
set_option maxHeartbeats 8000000 in
theorem rlsame_k (h1 : next.length ≤ 1000000) (h2 : rule.length ≤ 1000000) (h3 : next'.length ≤ 1000000) (h4 : rule'.length ≤ 1000000) (h5 : kind.length ≤ 1000000) (_h6 : kind'.length ≤ 1000000) (hN : IRow w an next) (hR : IRow w ar rule) (hK : IRow w ak kind) (hN' : IRow w bn next') (hR' : IRow w br rule') (hK' : IRow w bk kind') :
    Calls Tryz.prog 18 #[lV an ar ak next.length rule.length kind.length cn cr ck kinds, lV bn br bk next'.length rule'.length kind'.length dn dr dk kinds'] w fun e w' => e = .returned (.bool (sameV next rule kind next' rule' kind' kinds kinds')) ∧ Below w.heap.size w w' := by
  have k1 := fun W (hb : Below w.heap.size w W) => rdsame_k (cn := cn) (cr := cr) (dn := dn) (dr := dr) h1 h2 h3 h4 (hN.below hb (Nat.le_refl _)) (hR.below hb (Nat.le_refl _)) (hN'.below hb (Nat.le_refl _)) (hR'.below hb (Nat.le_refl _))
  unfold lV
  unfold dV at k1
  obtain ⟨r, hr⟩ : ∃ r, r = sameV next rule kind next' rule' kind' kinds kinds' := ⟨_, rfl⟩
  rw [← hr]
  unfold sameV at hr
  have hD : E2 w ((w.alloc (.cells #[.slice an next.length cn, .slice ar rule.length cr, .slice ak kind.length ck, .int .i64 kinds] 26)).alloc (.cells #[.slice bn next'.length dn, .slice br rule'.length dr, .slice bk kind'.length dk, .int .i64 kinds'] 26)) next.length rule.length next'.length rule'.length kind.length kind'.length kinds kinds' an ar ak bn br bk cn cr ck dn dr dk := by
    have hE := Bx.new (w.alloc (.cells #[.slice an next.length cn, .slice ar rule.length cr, .slice ak kind.length ck, .int .i64 kinds] 26)) 26 #[.slice bn next'.length dn, .slice br rule'.length dr, .slice bk kind'.length dk, .int .i64 kinds']
    rw [World.size_alloc] at hE
    exact ⟨((Below.refl w.heap.size w).alloc (Nat.le_refl _) _).alloc (by simp) _, (Bx.new w 26 #[.slice an next.length cn, .slice ar rule.length cr, .slice ak kind.length ck, .int .i64 kinds]).alloc _, hE⟩
  have g1 := k1 _ hD.b
  generalize (decide (next = next') && decide (rule = rule')) = p at *
  have HR := Lib.hid hr
  clear hr k1
  rcases Classical.em (p = true ∧ kinds = kinds' ∧ kind.length = kind'.length) with hok | hno
  · obtain ⟨rfl, rfl, hl⟩ := hok
    have q0 : ((kind.length : Int) != (kind'.length : Int)) = false := by simp [hl]
    have HL2 := Lib.hid hl
    clear hl
    go_enter Tryz.func18, Tryz.ntmps18
    go_wp2_with fail
    generalize (w.alloc (.cells #[.slice an next.length cn, .slice ar rule.length cr, .slice ak kind.length ck, .int .i64 kinds] 26)).alloc (.cells #[.slice bn next'.length dn, .slice br rule'.length dr, .slice bk kind'.length dk, .int .i64 kinds] 26) = W0 at *
    have c0 : W0.cell? ⟨w.heap.size, 0, none⟩ = some (.slice an next.length cn) := hD.d.cell 0
    have c1 : W0.cell? ⟨w.heap.size, 1, none⟩ = some (.slice ar rule.length cr) := hD.d.cell 1
    have c2 : W0.cell? ⟨w.heap.size, 2, none⟩ = some (.slice ak kind.length ck) := hD.d.cell 2
    have c3 : W0.cell? ⟨w.heap.size, 3, none⟩ = some (.int .i64 kinds) := hD.d.cell 3
    have c4 : W0.cell? ⟨w.heap.size + 1, 0, none⟩ = some (.slice bn next'.length dn) := hD.e.cell 0
    have c5 : W0.cell? ⟨w.heap.size + 1, 1, none⟩ = some (.slice br rule'.length dr) := hD.e.cell 1
    have c6 : W0.cell? ⟨w.heap.size + 1, 2, none⟩ = some (.slice bk kind'.length dk) := hD.e.cell 2
    have c7 : W0.cell? ⟨w.heap.size + 1, 3, none⟩ = some (.int .i64 kinds) := hD.e.cell 3
    go_wp2_with (go_at_call 34; ((with_reducible refine g1.mono ?_); rintro e W1 ⟨rfl, hb1⟩; have hDD := hD.below hb1; have d0 : W1.cell? ⟨w.heap.size, 0, none⟩ = some (.slice an next.length cn) := hDD.d.cell 0; have d1 : W1.cell? ⟨w.heap.size, 1, none⟩ = some (.slice ar rule.length cr) := hDD.d.cell 1; have d2 : W1.cell? ⟨w.heap.size, 2, none⟩ = some (.slice ak kind.length ck) := hDD.d.cell 2; have d3 : W1.cell? ⟨w.heap.size, 3, none⟩ = some (.int .i64 kinds) := hDD.d.cell 3; have d4 : W1.cell? ⟨w.heap.size + 1, 0, none⟩ = some (.slice bn next'.length dn) := hDD.e.cell 0; have d5 : W1.cell? ⟨w.heap.size + 1, 1, none⟩ = some (.slice br rule'.length dr) := hDD.e.cell 1; have d6 : W1.cell? ⟨w.heap.size + 1, 2, none⟩ = some (.slice bk kind'.length dk) := hDD.e.cell 2; have d7 : W1.cell? ⟨w.heap.size + 1, 3, none⟩ = some (.int .i64 kinds) := hDD.e.cell 3))
    clear c0 c1 c2 c3 c4 c5 c6 c7 d0 d1 d2 d3 d4 d5 d6 d7
    go_loopw [5] (fun vi wr => ∃ i : Nat, vi = .int .i64 i ∧ i ≤ kind.length ∧ Hid (∀ j, j < i → kind.getD j 0 = kind'.getD j 0) ∧ E2 w wr next.length rule.length next'.length rule'.length kind.length kind'.length kinds kinds an ar ak bn br bk cn cr ck dn dr dk) (fun vi _ => kind.length - (intOf vi).toNat)
    case atStart => exact ⟨0, rfl, Nat.zero_le _, Lib.hid (fun j hj => by omega), hDD⟩
    case round =>
      obtain ⟨i, rfl, hi, HE, hb⟩ := hrel
      have c2 : wr.cell? ⟨w.heap.size, 2, none⟩ = some (.slice ak kind.length ck) := hb.d.cell 2
      have c6 : wr.cell? ⟨w.heap.size + 1, 2, none⟩ = some (.slice bk kind'.length dk) := hb.e.cell 2
      rcases Nat.lt_or_eq_of_le hi with hlt | heq
      · obtain ⟨b1, o1, hba, hb1, k1⟩ := hK.get hlt
        obtain ⟨b2, o2, hbb, hb2, k2⟩ := hK'.get (show i < kind'.length by rw [← HL2.out]; exact hlt)
        have k1 := (hb.b.cell (p := ⟨b1, o1 + i, none⟩) hb1).trans k1
        have k2 := (hb.b.cell (p := ⟨b2, o2 + i, none⟩) hb2).trans k2
        have i0 : (0 : Int) ≤ (i : Int) := by omega
        have i1 : (i : Int) < (kind.length : Int) := by omega
        have i2 : (i : Int) < (kind'.length : Int) := by have := HL2.out; omega
        obtain ⟨x, hxe⟩ : ∃ x, x = kind.getD i 0 := ⟨_, rfl⟩
        obtain ⟨y, hye⟩ : ∃ y, y = kind'.getD i 0 := ⟨_, rfl⟩
        rw [← hxe] at k1
        rw [← hye] at k2
        have HX := Lib.hid hxe
        have HY := Lib.hid hye
        clear hxe hye
        subst hba hbb
        by_cases hxy : x = y
        · subst hxy
          go_wp2
          go_region
          have hbd := hb.drew
          generalize wr.drew = W2 at *
          clear k1 k2 c2 c6
          go_wp2
          go_roundw
          case rel => exact ⟨i + 1, by go_num, by omega, Lib.hid (fun j hj => by
            rcases Nat.lt_or_eq_of_le (Nat.le_of_lt_succ hj) with h | rfl
            · exact HE.out j h
            · exact HX.out.symm.trans HY.out), hbd⟩
          case measure => simp [intOf]; omega
        · have q3 : (x != y) = true := by simp [hxy]
          have q2 : (x == y) = false := by simp [hxy]
          have HF : Hid (r = false) := Lib.hid (by rw [HR.out]; simp; intro h; apply hxy; rw [HX.out, HY.out, h])
          clear hxy
          go_wp2
          go_region
          have hbd := hb.drew
          generalize wr.drew = W2 at *
          clear k1 k2 c2 c6
          go_wp2
          go_ret
          exact ⟨by rw [HF.out]; rfl, hbd.b⟩
      · have HQ : Hid (kind = kind') := Lib.hid (by
          apply List.ext_getElem HL2.out
          intro j h1 h2
          have := HE.out j (by omega)
          simpa [h1, h2] using this)
        subst heq
        go_wp2
        go_ret
        exact ⟨by rw [HR.out, HQ.out]; simp, hb.b⟩
  · have HF : Hid (r = false) := Lib.hid (by
      rw [HR.out]
      cases p
      · rfl
      · simp only [Bool.true_and, Bool.and_eq_false_iff, decide_eq_false_iff_not]
        by_cases e : kinds = kinds'
        · exact .inr fun h => hno ⟨rfl, e, by rw [h]⟩
        · exact .inl e)
    clear HR
    cases p
    · clear hno
      go_enter Tryz.func18, Tryz.ntmps18
      go_wp2_with fail
      generalize (w.alloc (.cells #[.slice an next.length cn, .slice ar rule.length cr, .slice ak kind.length ck, .int .i64 kinds] 26)).alloc (.cells #[.slice bn next'.length dn, .slice br rule'.length dr, .slice bk kind'.length dk, .int .i64 kinds'] 26) = W0 at *
      have c0 : W0.cell? ⟨w.heap.size, 0, none⟩ = some (.slice an next.length cn) := hD.d.cell 0
      have c1 : W0.cell? ⟨w.heap.size, 1, none⟩ = some (.slice ar rule.length cr) := hD.d.cell 1
      have c2 : W0.cell? ⟨w.heap.size, 2, none⟩ = some (.slice ak kind.length ck) := hD.d.cell 2
      have c3 : W0.cell? ⟨w.heap.size, 3, none⟩ = some (.int .i64 kinds) := hD.d.cell 3
      have c4 : W0.cell? ⟨w.heap.size + 1, 0, none⟩ = some (.slice bn next'.length dn) := hD.e.cell 0
      have c5 : W0.cell? ⟨w.heap.size + 1, 1, none⟩ = some (.slice br rule'.length dr) := hD.e.cell 1
      have c6 : W0.cell? ⟨w.heap.size + 1, 2, none⟩ = some (.slice bk kind'.length dk) := hD.e.cell 2
      have c7 : W0.cell? ⟨w.heap.size + 1, 3, none⟩ = some (.int .i64 kinds') := hD.e.cell 3
      go_wp2_with (go_at_call 34; ((with_reducible refine g1.mono ?_); rintro e W1 ⟨rfl, hb1⟩; have hDD := hD.below hb1; have d0 : W1.cell? ⟨w.heap.size, 0, none⟩ = some (.slice an next.length cn) := hDD.d.cell 0; have d1 : W1.cell? ⟨w.heap.size, 1, none⟩ = some (.slice ar rule.length cr) := hDD.d.cell 1; have d2 : W1.cell? ⟨w.heap.size, 2, none⟩ = some (.slice ak kind.length ck) := hDD.d.cell 2; have d3 : W1.cell? ⟨w.heap.size, 3, none⟩ = some (.int .i64 kinds) := hDD.d.cell 3; have d4 : W1.cell? ⟨w.heap.size + 1, 0, none⟩ = some (.slice bn next'.length dn) := hDD.e.cell 0; have d5 : W1.cell? ⟨w.heap.size + 1, 1, none⟩ = some (.slice br rule'.length dr) := hDD.e.cell 1; have d6 : W1.cell? ⟨w.heap.size + 1, 2, none⟩ = some (.slice bk kind'.length dk) := hDD.e.cell 2; have d7 : W1.cell? ⟨w.heap.size + 1, 3, none⟩ = some (.int .i64 kinds') := hDD.e.cell 3))
      go_ret
      exact ⟨by rw [HF.out]; rfl, hDD.b⟩
    · by_cases e : kinds = kinds'
      · subst e
        have q0 : ((kind.length : Int) != (kind'.length : Int)) = true := by
          simp only [bne_iff_ne, ne_eq]
          intro h
          exact hno ⟨rfl, rfl, by omega⟩
        clear hno
        go_enter Tryz.func18, Tryz.ntmps18
        go_wp2_with fail
        generalize (w.alloc (.cells #[.slice an next.length cn, .slice ar rule.length cr, .slice ak kind.length ck, .int .i64 kinds] 26)).alloc (.cells #[.slice bn next'.length dn, .slice br rule'.length dr, .slice bk kind'.length dk, .int .i64 kinds] 26) = W0 at *
        have c0 : W0.cell? ⟨w.heap.size, 0, none⟩ = some (.slice an next.length cn) := hD.d.cell 0
        have c1 : W0.cell? ⟨w.heap.size, 1, none⟩ = some (.slice ar rule.length cr) := hD.d.cell 1
        have c2 : W0.cell? ⟨w.heap.size, 2, none⟩ = some (.slice ak kind.length ck) := hD.d.cell 2
        have c3 : W0.cell? ⟨w.heap.size, 3, none⟩ = some (.int .i64 kinds) := hD.d.cell 3
        have c4 : W0.cell? ⟨w.heap.size + 1, 0, none⟩ = some (.slice bn next'.length dn) := hD.e.cell 0
        have c5 : W0.cell? ⟨w.heap.size + 1, 1, none⟩ = some (.slice br rule'.length dr) := hD.e.cell 1
        have c6 : W0.cell? ⟨w.heap.size + 1, 2, none⟩ = some (.slice bk kind'.length dk) := hD.e.cell 2
        have c7 : W0.cell? ⟨w.heap.size + 1, 3, none⟩ = some (.int .i64 kinds) := hD.e.cell 3
        go_wp2_with (go_at_call 34; ((with_reducible refine g1.mono ?_); rintro e W1 ⟨rfl, hb1⟩; have hDD := hD.below hb1; have d0 : W1.cell? ⟨w.heap.size, 0, none⟩ = some (.slice an next.length cn) := hDD.d.cell 0; have d1 : W1.cell? ⟨w.heap.size, 1, none⟩ = some (.slice ar rule.length cr) := hDD.d.cell 1; have d2 : W1.cell? ⟨w.heap.size, 2, none⟩ = some (.slice ak kind.length ck) := hDD.d.cell 2; have d3 : W1.cell? ⟨w.heap.size, 3, none⟩ = some (.int .i64 kinds) := hDD.d.cell 3; have d4 : W1.cell? ⟨w.heap.size + 1, 0, none⟩ = some (.slice bn next'.length dn) := hDD.e.cell 0; have d5 : W1.cell? ⟨w.heap.size + 1, 1, none⟩ = some (.slice br rule'.length dr) := hDD.e.cell 1; have d6 : W1.cell? ⟨w.heap.size + 1, 2, none⟩ = some (.slice bk kind'.length dk) := hDD.e.cell 2; have d7 : W1.cell? ⟨w.heap.size + 1, 3, none⟩ = some (.int .i64 kinds) := hDD.e.cell 3))
        go_ret
        exact ⟨by rw [HF.out]; rfl, hDD.b⟩
      · have q0 : (kinds != kinds') = true := by simp [e]
        clear hno e
        go_enter Tryz.func18, Tryz.ntmps18
        go_wp2_with fail
        generalize (w.alloc (.cells #[.slice an next.length cn, .slice ar rule.length cr, .slice ak kind.length ck, .int .i64 kinds] 26)).alloc (.cells #[.slice bn next'.length dn, .slice br rule'.length dr, .slice bk kind'.length dk, .int .i64 kinds'] 26) = W0 at *
        have c0 : W0.cell? ⟨w.heap.size, 0, none⟩ = some (.slice an next.length cn) := hD.d.cell 0
        have c1 : W0.cell? ⟨w.heap.size, 1, none⟩ = some (.slice ar rule.length cr) := hD.d.cell 1
        have c2 : W0.cell? ⟨w.heap.size, 2, none⟩ = some (.slice ak kind.length ck) := hD.d.cell 2
        have c3 : W0.cell? ⟨w.heap.size, 3, none⟩ = some (.int .i64 kinds) := hD.d.cell 3
        have c4 : W0.cell? ⟨w.heap.size + 1, 0, none⟩ = some (.slice bn next'.length dn) := hD.e.cell 0
        have c5 : W0.cell? ⟨w.heap.size + 1, 1, none⟩ = some (.slice br rule'.length dr) := hD.e.cell 1
        have c6 : W0.cell? ⟨w.heap.size + 1, 2, none⟩ = some (.slice bk kind'.length dk) := hD.e.cell 2
        have c7 : W0.cell? ⟨w.heap.size + 1, 3, none⟩ = some (.int .i64 kinds') := hD.e.cell 3
        go_wp2_with (go_at_call 34; ((with_reducible refine g1.mono ?_); rintro e W1 ⟨rfl, hb1⟩; have hDD := hD.below hb1; have d0 : W1.cell? ⟨w.heap.size, 0, none⟩ = some (.slice an next.length cn) := hDD.d.cell 0; have d1 : W1.cell? ⟨w.heap.size, 1, none⟩ = some (.slice ar rule.length cr) := hDD.d.cell 1; have d2 : W1.cell? ⟨w.heap.size, 2, none⟩ = some (.slice ak kind.length ck) := hDD.d.cell 2; have d3 : W1.cell? ⟨w.heap.size, 3, none⟩ = some (.int .i64 kinds) := hDD.d.cell 3; have d4 : W1.cell? ⟨w.heap.size + 1, 0, none⟩ = some (.slice bn next'.length dn) := hDD.e.cell 0; have d5 : W1.cell? ⟨w.heap.size + 1, 1, none⟩ = some (.slice br rule'.length dr) := hDD.e.cell 1; have d6 : W1.cell? ⟨w.heap.size + 1, 2, none⟩ = some (.slice bk kind'.length dk) := hDD.e.cell 2; have d7 : W1.cell? ⟨w.heap.size + 1, 3, none⟩ = some (.int .i64 kinds') := hDD.e.cell 3))
        go_ret
        exact ⟨by rw [HF.out]; rfl, hDD.b⟩
end
end Go.Proofs.YtefjfbhffmkikaaGreatDoor
