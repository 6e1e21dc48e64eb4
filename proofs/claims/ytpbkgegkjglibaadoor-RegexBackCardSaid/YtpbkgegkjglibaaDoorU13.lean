/- Regex: kit.Same 15 of rows of classes that are the same. -/
import Derived.Test.YtpbkgegkjglibaaDoorU11
import Derived.Test.YtpbkgegkjglibaaDoorS12
import Derived.Test.YtpbkgegkjglibaaDoorS10
import Derived.Test.YtpbkgegkjglibaaDoorS14
namespace Go.Proofs.YtpbkgegkjglibaaDoor
open Go Go.Proofs Go.RowKit
attribute [local go_sem] Oper.semAt_some
theorem text_err (r : List Nd) (v : Value) (w : World) (hl : r.length ≤ 1000000) (hR : RRow w v r) (hck : checkV r ≠ 0) :
    Calls Tryd.prog 14 #[v] w fun e w' => e = .returned (.tuple #[.string ⟨#[]⟩, .int .i64 2]) ∧ Below w.heap.size w w' := by
  have hc2 : checkV r = 2 := by
    by_cases h : RxOk r
    · exact absurd (if_pos h) hck
    · exact if_neg h
  have hc := check_k r v hl w hR
  rw [hc2] at hc
  go_enter Tryd.func14, Tryd.ntmps14
  go_wp2_with (go_at_call 10; (with_reducible refine hc.mono ?_); rintro e W1 ⟨rfl, hb1⟩)
  exact bodyPost_ret (v := .tuple #[.string ⟨#[]⟩, .int .i64 2]) (by simp [results, Tryd.results14, go_sem]) rfl ⟨rfl, hb1⟩
theorem read_long (s : ByteArray) (hs : 256 < s.size) (w : World) : Calls Tryd.prog 9 #[.string s] w fun e w' => e = .returned (.tuple #[.slice none 0 0, .int .i64 0, .int .i64 3]) ∧ w' = w := by
  have hs2 : (256 : Int) < (s.size : Int) := by omega
  go_enter Tryd.func9, Tryd.ntmps9
  go_wp2
  exact bodyPost_ret (v := .tuple #[.slice none 0 0, .int .i64 0, .int .i64 3]) (by simp [results, Tryd.results9, go_sem]) rfl ⟨rfl, rfl⟩
theorem info38' : (Tryd.prog.info? 38).map (fun i => (i.zero, i.size, i.bytes)) = some (some (.agg #[.int .u64 0, .int .u64 0, .int .u64 0, .int .u64 0]), 4, 32) := by kernel_rfl
/-- Classes of one's own. -/
def COwn (W : World) (base : Nat) (v : Value) (l : List C4) : Prop := W.ownsRow base 38 4 v l.length (l.flatMap fun c => (wsV c).toList)
theorem append_c {ops : Array Oper} {rest : List Oper} {o : Oper} {a : Act} {Q : Exit → Act → World → Prop} (W : World) (base : Nat) (v : Value) (pre : List C4) (x : C4) (hgd : o.guard = none) (s y : Operand)
    (ho : o.op = .call { callee := .builtin .append, args := #[s, y], argTypes := #[39, 39] }) (hs : a.eval s = v) (hown : COwn W base v pre) (B c : Nat) (hx : a.eval y = .slice (some ⟨B, 0, none⟩) 1 c)
    (hc : Bx W B 38 (wsV x)) (hl : pre.length ≤ 100000) (hb : base ≤ W.heap.size)
    (h : ∀ v' w', COwn w' base v' (pre ++ [x]) → W.grownBy w' v.ownBlock → wpList Tryd.prog ops Q rest (a.put o.dst v') w') : wpList Tryd.prog ops Q (o :: rest) a W := by
  obtain ⟨ti, hi, hz0, hz1, hz2⟩ := info_parts info38'
  refine wpList_append_own (P := Tryd.prog) (w := W) hgd s y 39 ho base 38 ti (.agg #[.int .u64 0, .int .u64 0, .int .u64 0, .int .u64 0]) 4 32 Tryd.underlying39 hi hz0 hz1 hz2 rfl (by decide) v pre.length _ hs hown ⟨B, 0, none⟩ 1 c (wsV x).toList hx rfl
    (fun j u hj => by rw [addr_add, Nat.zero_add, hc.cell]; simpa using hj) (fun u hu => by
      simp only [wsV, List.mem_cons, List.not_mem_nil, or_false] at hu
      rcases hu with rfl | rfl | rfl | rfl <;> rfl) (by unfold maxLen; omega) (by omega) hb ?_
  intro v' w' h1 h2 _
  refine h v' w' ?_ h2
  unfold COwn
  rw [List.length_append, List.flatMap_append]
  simpa using h1
def clsC (x : Cd) : Option C4 := if x.k = 2 then some x.w else none
/-- The classes from the left to the right. -/
def leafV (r : List Nd) : List C4 := ((preI r ((r.length : Int) - 1)).map (hdAt r)).filterMap clsC
theorem COwn.below {W W' : World} {base n : Nat} {v : Value} {l : List C4} (h : COwn W base v l) (hb : Below n W W') (hn : W.heap.size ≤ n) : COwn W' base v l :=
  World.ownsRow.kept (row := none) h ⟨hb.os, hb.tape, hb.output, hb.size, fun j hj _ => hb.block j (by omega)⟩ (by cases hv : v.ownBlock <;> simp)
theorem COwn.low {W : World} {base n : Nat} {v : Value} {l : List C4} (h : COwn W base v l) (hn : n ≤ base) : COwn W n v l := by
  refine ⟨h.1, h.2.imp id ?_⟩
  rintro ⟨g, cap, cur, h1, h2, h3⟩
  exact ⟨g, cap, cur, h1, Nat.le_trans hn h2, h3⟩
set_option maxRecDepth 100000 in
set_option maxHeartbeats 4000000 in
theorem leaves_k (r : List Nd) (ok : RxOk r) (v : Value) (w : World) (hR : RRow w v r) :
    Calls Tryd.prog 16 #[v] w fun e w' => (∃ v', e = .returned v' ∧ COwn w' w.heap.size v' (leafV r)) ∧ Below w.heap.size w w' := by
  have hc := check_k r v (by have := ok.most; omega) w hR
  have hc0 : checkV r = 0 := if_pos ok
  rw [hc0] at hc
  have hord := fun W (hb : Below w.heap.size w W) => order_k r ok v W (hR.below (Nat.le_refl _) hb)
  have hpm := pre_mem ok.nd r.length (r.length - 1) (by have := ok.one; omega) (by have := ok.one; omega)
  have hpl := pre_len ok
  have he : ((r.length - 1 : Nat) : Int) = (r.length : Int) - 1 := by have := ok.one; omega
  rw [he] at hpm
  obtain ⟨P, hP⟩ : ∃ P, P = preI r ((r.length : Int) - 1) := ⟨_, rfl⟩
  rw [← hP] at hpm hpl
  have HLV : Hid (leafV r = (P.map (hdAt r)).filterMap clsC) := Lib.hid (by rw [hP]; rfl)
  simp only [← hP] at hord
  have hr2 := ok.most
  obtain ⟨la, c, rfl, hR1, hR2⟩ := hR
  have HPM := Lib.hid hpm
  obtain ⟨n, hn⟩ : ∃ n, n = r.length := ⟨_, rfl⟩
  have HN := Lib.hid hn
  rw [← hn] at hc hord hpl hr2 ⊢
  clear hpm hP hc0 he hn
  go_enter Tryd.func16, Tryd.ntmps16
  go_upto_region 4 with (go_at_call 10; (with_reducible refine hc.mono ?_); rintro e W1 ⟨rfl, hb1⟩)
  have ho := hord W1 hb1
  go_wp2_with (go_at_call 31; (with_reducible refine ho.mono ?_); rintro e W2 ⟨⟨v2, rfl, lo, co, rfl, hI1, hI2⟩, hb2⟩)
  clear hc hord ho
  have hlow2 : Below w.heap.size w W2 := hb1.trans (hb2.mono hb1.size)
  have hr0 : COwn W2 W2.heap.size (.slice none 0 0) [] := World.ownsRow_nil _ _ _ _
  go_loopw [3, 12] (fun t3 t12 wr => ∃ j : Nat, j ≤ n ∧ t12 = .int .i64 j ∧ COwn wr W2.heap.size t3 (((P.take j).map (hdAt r)).filterMap clsC) ∧ Below W2.heap.size W2 wr ∧ Below w.heap.size w wr)
    (fun _ t12 _ => n - (intOf t12).toNat)
  case atStart => exact ⟨0, Nat.zero_le _, rfl, hr0, Below.refl _ _, hlow2⟩
  case round =>
    clear hr0
    obtain ⟨j, hj, rfl, hr, hb, hlow⟩ := hrel
    by_cases hjl : j < n
    · obtain ⟨q, hq⟩ : ∃ q, P[j]? = some q := ⟨_, List.getElem?_eq_getElem (by omega)⟩
      obtain ⟨hq0, hql⟩ := HPM.out q (List.mem_of_getElem? hq)
      obtain ⟨m, rfl⟩ : ∃ m : Nat, q = (m : Int) := ⟨q.toNat, by omega⟩
      obtain ⟨x, hx⟩ : ∃ x, r[m]? = some x := ⟨_, List.getElem?_eq_getElem (by omega)⟩
      have hmn : m < n := by rw [HN.out]; exact (List.getElem?_eq_some_iff.1 hx).1
      cases lo with
      | none => exfalso; have := hI1 rfl; rw [this] at hq; simp at hq
      | some ad =>
      obtain ⟨B2, off2, rfl, hB2, hKc⟩ := hI2 _ rfl (by intro e; rw [e] at hq; simp at hq)
      cases la with
      | none => exfalso; have := hR1 rfl; rw [this] at hx; simp at hx
      | some ad =>
      obtain ⟨B, off, rfl, hBl, hX⟩ := hR2 _ rfl (by intro e; rw [e] at hx; simp at hx)
      have d0 := (hb.cell (p := ⟨B2, off2 + j, none⟩) hB2).trans (hKc j m hq)
      obtain ⟨k0, k1, k2, k3, k4, _⟩ := hX m x hx
      replace k0 := (hlow.cell (p := ⟨B, off + m * 6, none⟩) hBl).trans k0
      replace k1 := (hlow.cell (p := ⟨B, off + m * 6 + 1, none⟩) hBl).trans k1
      replace k2 := (hlow.cell (p := ⟨B, off + m * 6 + 2, none⟩) hBl).trans k2
      replace k3 := (hlow.cell (p := ⟨B, off + m * 6 + 3, none⟩) hBl).trans k3
      replace k4 := (hlow.cell (p := ⟨B, off + m * 6 + 4, none⟩) hBl).trans k4
      have hBw : B < wr.heap.size := Nat.lt_of_lt_of_le hBl hlow.size
      have hB2w : B2 < wr.heap.size := Nat.lt_of_lt_of_le hB2 hb.size
      have hhd : hdAt r (m : Int) = ⟨x.k, ⟨x.a, x.b, x.c, x.d⟩, x.kids.length⟩ := by unfold hdAt hdC; rw [Int.toNat_natCast, List.getD_eq_getElem?_getD, hx]; rfl
      have HTJ : Hid (((P.take (j + 1)).map (hdAt r)).filterMap clsC = ((P.take j).map (hdAt r)).filterMap clsC ++ (if x.k = 2 then [⟨x.a, x.b, x.c, x.d⟩] else [])) := Lib.hid (by
        rw [List.take_add_one, hq]
        simp only [Option.toList_some, List.map_append, List.map_cons, List.map_nil, List.filterMap_append, hhd]
        by_cases h2 : x.k = 2 <;> simp [clsC, h2])
      have hj0 : (0 : Int) ≤ (j : Int) := by omega
      have hj1 : (j : Int) < (n : Int) := by omega
      have hjt : (j : Int).toNat = j := by omega
      have hm0 : (0 : Int) ≤ (m : Int) := by omega
      have hm1 : (m : Int) < (n : Int) := by omega
      have hmt : (m : Int).toNat = m := by omega
      have hplI : (j : Int) < (P.length : Int) := by omega
      obtain ⟨kd, hkd⟩ : ∃ kd, kd = x.k := ⟨_, rfl⟩
      rw [← hkd] at k0 HTJ
      clear hq hx hKc hX hI1 hI2 hR1 hR2 hhd hkd
      by_cases h2 : kd = 2
      · have hTJ := HTJ.out
        rw [if_pos h2] at hTJ
        have HTJ2 := Lib.hid hTJ
        clear hTJ HTJ
        subst h2
        have hbw2 : Below W2.heap.size wr (wr.alloc (.cells (wsV ⟨x.a, x.b, x.c, x.d⟩) 38)) := (Below.refl _ wr).alloc hb.size _
        have hcb := Bx.new wr 38 (wsV ⟨x.a, x.b, x.c, x.d⟩)
        have hra : COwn (wr.alloc (.cells (wsV ⟨x.a, x.b, x.c, x.d⟩) 38)) W2.heap.size u3 (((P.take j).map (hdAt r)).filterMap clsC) := World.ownsRow.alloc hr _
        have hsz9 : W2.heap.size ≤ (wr.alloc (.cells (wsV ⟨x.a, x.b, x.c, x.d⟩) 38)).heap.size := Nat.le_trans hb.size (by simp)
        have hlt9 : (((P.take j).map (hdAt r)).filterMap clsC).length ≤ 100000 := by
          have := List.length_filterMap_le clsC ((P.take j).map (hdAt r))
          rw [List.length_map, List.length_take] at this
          omega
        go_wp2_with (at_builtin; refine append_c _ W2.heap.size u3 _ ⟨x.a, x.b, x.c, x.d⟩ rfl _ _ rfl rfl hra wr.heap.size 1 rfl hcb hlt9 hsz9 ?_; intro v' W5 hr5 hg5)
        have hbb := (hb.trans hbw2).trans ((Below.refl W2.heap.size _).grown hg5 hsz9 fun g e => (World.ownsRow.lt hra g e).1)
        exact ⟨⟨j + 1, by omega, by simp, by rw [HTJ2.out]; exact hr5, hbb, hlow2.trans (hbb.mono hlow2.size)⟩, by simp [intOf]; omega⟩
      · have hTJ := HTJ.out
        rw [if_neg h2, List.append_nil] at hTJ
        have HTJ2 := Lib.hid hTJ
        clear hTJ HTJ
        have h2b : (kd == 2) = false := by simp [h2]
        go_wp2_with fail
        exact ⟨⟨j + 1, by omega, by simp, by rw [HTJ2.out]; exact hr, hb, hlow⟩, by simp [intOf]; omega⟩
    · obtain rfl : j = n := by omega
      rw [List.take_of_length_le (by omega)] at hr
      go_wp2_with fail
      go_ret
      exact ⟨⟨_, rfl, by rw [HLV.out]; exact COwn.low hr hlow2.size⟩, hlow⟩
end Go.Proofs.YtpbkgegkjglibaaDoor

namespace Go.Proofs.YtpbkgegkjglibaaDoor
open Go Go.Proofs Go.RowKit
attribute [local go_sem] Oper.semAt_some
theorem COwn.cells {W : World} {base : Nat} {v : Value} {l : List C4} (h : COwn W base v l) : (v = .slice none 0 0 ∧ l = []) ∨ ∃ g cap, v = .slice (some ⟨g, 0, none⟩) l.length cap ∧ g < W.heap.size ∧ ∀ (i : Nat) (x : C4), l[i]? = some x →
    W.cell? ⟨g, i * 4, none⟩ = some (.int .u64 (x.a : Nat)) ∧ W.cell? ⟨g, i * 4 + 1, none⟩ = some (.int .u64 (x.b : Nat)) ∧ W.cell? ⟨g, i * 4 + 2, none⟩ = some (.int .u64 (x.c : Nat)) ∧ W.cell? ⟨g, i * 4 + 3, none⟩ = some (.int .u64 (x.d : Nat)) := by
  rcases h.2 with ⟨e, hn⟩ | ⟨g, cap, cur, e, hg, hh, rest⟩
  · exact .inl ⟨e, List.eq_nil_of_length_eq_zero hn⟩
  · refine .inr ⟨g, cap, e, (Array.getElem?_eq_some_iff.1 hh).1, fun i x hx => ?_⟩
    have hc : ∀ q v, (wsV x).toList[q]? = some v → W.cell? ⟨g, i * 4 + q, none⟩ = some v := fun q v hv => by
      have := World.ownsRow.cells h (g := g) (by rw [e]; rfl) (i * 4 + q) v (flat_get (fun c => (wsV c).toList) 4 (fun _ => rfl) l i x hx q v hv)
      rw [addr_add, Nat.zero_add] at this
      exact this
    exact ⟨hc 0 _ rfl, hc 1 _ rfl, hc 2 _ rfl, hc 3 _ rfl⟩
set_option maxRecDepth 100000 in
set_option maxHeartbeats 4000000 in
theorem samec_k (l : List C4) (hl : l.length ≤ 100000) (v1 v2 : Value) (b1 b2 : Nat) (w : World) (h1 : COwn w b1 v1 l) (h2 : COwn w b2 v2 l) : Calls Tryd.prog 15 #[v1, v2] w fun e w' => e = .returned (.bool true) ∧ Below w.heap.size w w' := by
  rcases h1.cells with ⟨rfl, rfl⟩ | ⟨g1, c1, rfl, hg1, H1⟩
  · rcases h2.cells with ⟨rfl, _⟩ | ⟨g2, c2, rfl, _, _⟩
    · go_enter Tryd.func15, Tryd.ntmps15
      go_wp2
      go_loopw [5] (fun i wr => i = .int .i64 0 ∧ Below w.heap.size w wr) (fun i _ => 0)
      case atStart => exact ⟨rfl, Below.refl _ _⟩
      case round =>
        obtain ⟨rfl, hb⟩ := hrel
        go_wp2
        exact bodyPost_ret (v := .bool true) (by simp [results, Tryd.results15, go_sem]) rfl ⟨rfl, hb⟩
    · go_enter Tryd.func15, Tryd.ntmps15
      go_wp2
      go_loopw [5] (fun i wr => i = .int .i64 0 ∧ Below w.heap.size w wr) (fun i _ => 0)
      case atStart => exact ⟨rfl, Below.refl _ _⟩
      case round =>
        obtain ⟨rfl, hb⟩ := hrel
        go_wp2
        exact bodyPost_ret (v := .bool true) (by simp [results, Tryd.results15, go_sem]) rfl ⟨rfl, hb⟩
  · obtain ⟨n, hn⟩ : ∃ n, n = l.length := ⟨_, rfl⟩
    have hf : ∃ la c2, v2 = .slice la n c2 ∧ (l ≠ [] → ∃ g2, la = some ⟨g2, 0, none⟩ ∧ g2 < w.heap.size ∧ ∀ (i : Nat) (x : C4), l[i]? = some x → w.cell? ⟨g2, i * 4, none⟩ = some (.int .u64 (x.a : Nat)) ∧ w.cell? ⟨g2, i * 4 + 1, none⟩ = some (.int .u64 (x.b : Nat)) ∧ w.cell? ⟨g2, i * 4 + 2, none⟩ = some (.int .u64 (x.c : Nat)) ∧ w.cell? ⟨g2, i * 4 + 3, none⟩ = some (.int .u64 (x.d : Nat))) := by
      rcases h2.cells with ⟨rfl, rfl⟩ | ⟨g2, c2, rfl, hg2, H2⟩
      · exact ⟨none, 0, by rw [hn]; rfl, fun h => absurd rfl h⟩
      · exact ⟨_, c2, by rw [hn], fun _ => ⟨g2, rfl, hg2, H2⟩⟩
    obtain ⟨la, c2, rfl, H2⟩ := hf
    rw [← hn]
    have HN := Lib.hid hn
    rw [← hn] at hl
    clear hn h1 h2
    go_enter Tryd.func15, Tryd.ntmps15
    go_wp2
    go_loopw [5] (fun i wr => ∃ k : Nat, k ≤ n ∧ i = .int .i64 k ∧ Below w.heap.size w wr) (fun i _ => n - (intOf i).toNat)
    case atStart => exact ⟨0, Nat.zero_le _, rfl, Below.refl _ _⟩
    case round =>
      obtain ⟨k, hk, rfl, hb⟩ := hrel
      by_cases hkl : k < n
      · obtain ⟨x, hx⟩ : ∃ x, l[k]? = some x := ⟨_, List.getElem?_eq_getElem (by rw [← HN.out]; exact hkl)⟩
        obtain ⟨g2, rfl, hg2, H2⟩ := H2 (by intro e; rw [e] at hx; simp at hx)
        obtain ⟨a0, a1, a2, a3⟩ := H1 k x hx
        obtain ⟨e0, e1, e2, e3⟩ := H2 k x hx
        have mv : ∀ (g o : Nat) (v : Value), g < w.heap.size → w.cell? ⟨g, o, none⟩ = some v → wr.cell? ⟨g, o, none⟩ = some v := fun g o v hg h => (hb.cell (p := ⟨g, o, none⟩) hg).trans h
        have hg1' : g1 < wr.heap.size := Nat.lt_of_lt_of_le hg1 hb.size
        have hg2' : g2 < wr.heap.size := Nat.lt_of_lt_of_le hg2 hb.size
        have A0 := AX.cell_all (mv _ _ _ hg1 a0) hg1'
        have A1 := AX.cell_all (mv _ _ _ hg1 a1) hg1'
        have A2 := AX.cell_all (mv _ _ _ hg1 a2) hg1'
        have A3 := AX.cell_all (mv _ _ _ hg1 a3) hg1'
        have B0 := AX.cell_all (mv _ _ _ hg2 e0) hg2'
        have B1 := AX.cell_all (mv _ _ _ hg2 e1) hg2'
        have B2 := AX.cell_all (mv _ _ _ hg2 e2) hg2'
        have B3 := AX.cell_all (mv _ _ _ hg2 e3) hg2'
        have he := fun w => (eq38 x x w).trans (by rw [decide_eq_true rfl])
        have hk0 : (0 : Int) ≤ (k : Int) := by omega
        have hk1 : (k : Int) < (n : Int) := by omega
        have hkt : (k : Int).toNat = k := by omega
        clear a0 a1 a2 a3 e0 e1 e2 e3 mv hx H1 H2
        go_upto_region 6 with (fail)
        refine AX.region_below (by kernel_rfl) (by kernel_rfl) ?_
        repeat (go_big_quiet_step (fail))
        refine wpQuiet_nil ?_
        rintro W7 ⟨p, rfl⟩
        obtain ⟨W7, hb7⟩ := p
        change Below _ _ _ at hb7
        go_wp2_with fail
        exact ⟨⟨k + 1, by omega, by simp, hb.trans (hb7.mono hb.size)⟩, by simp [intOf]; omega⟩
      · obtain rfl : k = n := by omega
        go_wp2
        exact bodyPost_ret (v := .bool true) (by simp [results, Tryd.results15, go_sem]) rfl ⟨rfl, hb⟩
end Go.Proofs.YtpbkgegkjglibaaDoor
