/- Marks: marks.Count 10. -/
import Derived.Test.YtdjeokgkeejpcaaGreatDoorP2
import Derived.Test.YtdjeokgkeejpcaaGreatDoorM6
import Derived.Test.YtdjeokgkeejpcaaGreatDoorM15
namespace Go.Proofs.YtdjeokgkeejpcaaGreatDoor
theorem kidsF_mono {l : List Pt} {e e' : Nat → Option Nat} (he : ∀ n m, e n = some m → e' n = some m) : ∀ (ks : List Int) (n : Nat) (a : Int) (x : Nat × Int), kidsF l e n a ks = some x → kidsF l e' n a ks = some x
  | [], _, _, _, h => h
  | k :: ks, n, a, x, h => by
    obtain ⟨h1, h2, h3, m, h4, h5⟩ := kidsF_cons h
    rw [kidsF, if_pos ⟨h1, h2, h3⟩, he n m h4, Option.bind_some]
    exact kidsF_mono he ks m _ x h5
theorem endF_step {l : List Pt} : ∀ (f i e : Nat), endF l f i = some e → endF l (f + 1) i = some e
  | 0, _, _, h => by cases h
  | f + 1, i, e, h => by
    obtain ⟨a, h1, h2⟩ := endF_succ h
    have h3 := kidsF_mono (e' := endF l (f + 1)) (fun n m => endF_step f n m) _ _ _ _ h1
    rw [endF, h3, Option.bind_some, if_pos h2]
theorem endF_le {l : List Pt} {f i e : Nat} (h : endF l f i = some e) : ∀ d, endF l (f + d) i = some e
  | 0 => h
  | d + 1 => endF_step _ _ _ (endF_le h d)
theorem endF_one {l : List Pt} {f f' i e e' : Nat} (h : endF l f i = some e) (h' : endF l f' i = some e') : e = e' := by
  have a := endF_le h f'
  have b := endF_le h' f
  rw [Nat.add_comm] at b
  rw [a] at b
  exact Option.some.inj b
/- A part's kids have spans, one behind the other. -/
theorem kids_apart {l : List Pt} {e : Nat → Option Nat} (he : ∀ n m, n < l.length → e n = some m → n < m ∧ m ≤ l.length) :
    ∀ (ks : List Int) (n : Nat) (a : Int) (m : Nat) (b : Int), n ≤ l.length → kidsF l e n a ks = some (m, b) → ∀ c d : Nat, (c : Int) ∈ ks → (d : Int) ∈ ks → c < d → ∃ q, e c = some q ∧ q ≤ d
  | [], _, _, _, _, _, _, c, _, hc, _, _ => by cases hc
  | k :: ks, n, a, m, b, hn, h, c, d, hc, hd, hlt => by
    obtain ⟨h1, h2, _, m', h4, h5⟩ := kidsF_cons h
    obtain ⟨g1, g2⟩ := he n m' h2 h4
    have hin := kids_in he ks m' _ m b g2 h5
    rcases List.mem_cons.1 hc with hc | hc
    · rcases List.mem_cons.1 hd with hd | hd
      · omega
      · obtain ⟨d', q1, q2, _⟩ := hin _ hd
        have e1 : c = n := by omega
        subst e1
        exact ⟨m', h4, by omega⟩
    · rcases List.mem_cons.1 hd with hd | hd
      · obtain ⟨c', q1, q2, _⟩ := hin _ hc
        omega
      · exact kids_apart he ks m' _ m b g2 h5 c d hc hd hlt
theorem end_lt' {l : List Pt} (f : Nat) : ∀ n m, n < l.length → endF l f n = some m → n < m ∧ m ≤ l.length := fun n m hn hm => ⟨(end_lt f n m hn hm).1, (end_lt f n m hn hm).2.1⟩
/- No part has two parents. -/
theorem Tr.one_lt {l : List Pt} (h : Tr l) {j j' c : Nat} (hj' : j' < l.length) (hlt : j < j') (hc : (c : Int) ∈ (pt l j).kids) (hc' : (c : Int) ∈ (pt l j').kids) : False := by
  have hj : j < l.length := by omega
  obtain ⟨f, e, h1, h2⟩ := h.at hj
  obtain ⟨a, hk, _⟩ := endF_succ h1
  obtain ⟨c1, e1, _, c3, ec, ed, ee⟩ := kids_in (end_lt' f) _ _ _ _ _ hj hk _ hc
  obtain rfl : c1 = c := by omega
  obtain ⟨c2, e2, q2, _⟩ := h.kid hj' hc'
  obtain rfl : c2 = c1 := by omega
  have hce := end_lt f _ _ c3 ed
  obtain ⟨d, d1, d2, d3, ed2, d4, d5, d6⟩ := kids_cover (end_lt' f) _ _ _ _ _ hj hk j' (by omega) (by omega)
  obtain ⟨f', e', r1, r2⟩ := end_sub f d ed2 d2 d4 j' d3 d5
  obtain ⟨a', hk', _⟩ := endF_succ r1
  obtain ⟨c4, e4, q4, q5, ec4, q6, q7⟩ := kids_in (end_lt' f') _ _ _ _ _ hj' hk' _ hc'
  obtain rfl : c4 = c2 := by omega
  have h8 := end_lt f' _ _ q5 q6
  obtain ⟨q, w1, w2⟩ := kids_apart (end_lt' f) _ _ _ _ _ hj hk d c4 d1 hc (by omega)
  rw [d4] at w1
  cases w1
  omega
theorem Tr.one {l : List Pt} (h : Tr l) {j j' c : Nat} (hj : j < l.length) (hj' : j' < l.length) (hc : (c : Int) ∈ (pt l j).kids) (hc' : (c : Int) ∈ (pt l j').kids) : j = j' := by
  rcases Nat.lt_trichotomy j j' with h1 | h1 | h1
  · exact (h.one_lt hj' h1 hc hc').elim
  · exact h1
  · exact (h.one_lt hj h1 hc' hc).elim
/- Each part but the first has a parent. -/
theorem end_par {l : List Pt} : ∀ (f i e : Nat), i < l.length → endF l f i = some e → ∀ c, i < c → c < e → ∃ j : Nat, i ≤ j ∧ j < c ∧ (c : Int) ∈ (pt l j).kids
  | 0, _, _, _, h, _, _, _ => by cases h
  | f + 1, i, e, hi, h, c, h1, h2 => by
    obtain ⟨a, hk, _⟩ := endF_succ h
    obtain ⟨d, d1, d2, d3, ed, d4, d5, d6⟩ := kids_cover (end_lt' f) _ _ _ _ _ hi hk c (by omega) h2
    by_cases hd : d = c
    · subst hd; exact ⟨i, Nat.le_refl _, h1, d1⟩
    · obtain ⟨d', q1, q2, _⟩ := kids_in (end_lt' f) _ _ _ _ _ hi hk _ d1
      obtain ⟨j, j1, j2, j3⟩ := end_par f d ed d2 d4 c (by omega) d5
      exact ⟨j, by omega, j2, j3⟩
theorem Tr.par {l : List Pt} (h : Tr l) {c : Nat} (h0 : 0 < c) (hc : c < l.length) : ∃ j : Nat, j < c ∧ (c : Int) ∈ (pt l j).kids := by
  obtain ⟨j, _, h2, h3⟩ := end_par _ _ _ h.pos h.whole c h0 hc
  exact ⟨j, h2, h3⟩
/- Parents, told by number. -/
structure Ups (l : List Pt) (U : List Int) : Prop where
  len : U.length = l.length
  root : it U 0 = -1
  up : ∀ j c : Nat, j < l.length → (c : Int) ∈ (pt l j).kids → it U c = j
theorem Ups.dn {l : List Pt} {U : List Int} (hT : Tr l) (h : Ups l U) {c : Nat} (h0 : 0 < c) (hc : c < l.length) : ∃ j : Nat, it U c = j ∧ j < c ∧ (c : Int) ∈ (pt l j).kids := by
  obtain ⟨j, h1, h2⟩ := hT.par h0 hc
  exact ⟨j, h.up j c (by omega) h2, h1, h2⟩
/- The way up. -/
def wayF (U : List Int) : Nat → Nat → List Nat
  | 0, _ => []
  | f + 1, i => i :: (if it U i < 0 then [] else wayF U f (it U i).toNat)
theorem way_lt {l : List Pt} {U : List Int} (hT : Tr l) (h : Ups l U) : ∀ (f i : Nat), i < l.length → ∀ x, x ∈ wayF U f i → x ≤ i
  | 0, _, _, x, hx => by cases hx
  | f + 1, i, hi, x, hx => by
    rcases List.mem_cons.1 hx with rfl | hx
    · exact Nat.le_refl _
    · split at hx
      · cases hx
      · by_cases h0 : i = 0
        · subst h0; rw [h.root] at *; omega
        · obtain ⟨j, e, h1, _⟩ := h.dn hT (by omega) hi
          rw [e, Int.toNat_natCast] at hx
          have := way_lt hT h f j (by omega) x hx
          omega
/- It falls. -/
theorem way_falls {l : List Pt} {U : List Int} (hT : Tr l) (h : Ups l U) : ∀ (f i : Nat), i < l.length → (wayF U f i).Pairwise (fun a b => b < a)
  | 0, _, _ => List.Pairwise.nil
  | f + 1, i, hi => by
    rw [wayF]
    split
    · exact List.pairwise_singleton _ _
    · by_cases h0 : i = 0
      · subst h0; rw [h.root] at *; omega
      · obtain ⟨j, e, h1, _⟩ := h.dn hT (by omega) hi
        rw [e, Int.toNat_natCast]
        refine List.pairwise_cons.2 ⟨fun x hx => ?_, way_falls hT h f j (by omega)⟩
        have := way_lt hT h f j (by omega) x hx
        omega
/- It is closed. -/
theorem way_up {l : List Pt} {U : List Int} (hT : Tr l) (h : Ups l U) : ∀ (f i : Nat), i < f → i < l.length → ∀ x, x ∈ wayF U f i → ∀ j : Nat, it U x = j → j ∈ wayF U f i
  | 0, _, h1, _, _, _, _, _ => by omega
  | f + 1, i, h1, hi, x, hx, j, hj => by
    rw [wayF] at hx ⊢
    have hsub : ∀ y, it U i = (y : Nat) → y < i → ∀ g, y < g → y ∈ wayF U g y := fun y _ _ g hg => by
      cases g with
      | zero => omega
      | succ g => exact List.mem_cons_self ..
    rcases List.mem_cons.1 hx with rfl | hx
    · by_cases h0 : x = 0
      · subst h0; rw [h.root] at hj; omega
      · obtain ⟨j', e, h2, _⟩ := h.dn hT (by omega) hi
        have : j = j' := by omega
        subst this
        rw [if_neg (by omega), e, Int.toNat_natCast]
        exact List.mem_cons_of_mem _ (hsub j e h2 f (by omega))
    · split at hx
      · cases hx
      · rename_i hn
        by_cases h0 : i = 0
        · subst h0; rw [h.root] at hn; omega
        · obtain ⟨j', e, h2, _⟩ := h.dn hT (by omega) hi
          rw [if_neg hn]
          rw [e, Int.toNat_natCast] at hx ⊢
          exact List.mem_cons_of_mem _ (way_up hT h f j' (by omega) (by omega) x hx j hj)
/- With one part met, what is stale is the way up from it. -/
theorem stale_way {l : List Pt} {U : List Int} {X : List Bool} (hT : Tr l) (h : Ups l U) (hX : StaleOk l X) {i : Nat} (hi : i < l.length) (hm : ∀ j, j < l.length → ((pt l j).met ≠ 0 ↔ j = i)) :
    ∀ j, j < l.length → (bt X j = true ↔ j ∈ wayF U (i + 1) i) := by
  have hto : ∀ (f k : Nat), k < l.length → bt X k = true → ∀ x, x ∈ wayF U f k → bt X x = true := by
    intro f
    induction f with
    | zero => intro k _ _ x hx; cases hx
    | succ f ih =>
      intro k hk hb x hx
      rcases List.mem_cons.1 hx with rfl | hx
      · exact hb
      · split at hx
        · cases hx
        · rename_i hn
          by_cases h0 : k = 0
          · subst h0; rw [h.root] at hn; omega
          · obtain ⟨j, e, h2, h3⟩ := h.dn hT (by omega) hk
            rw [e, Int.toNat_natCast] at hx
            refine ih j (by omega) ?_ x hx
            rw [hX.is j (by omega), Bool.or_eq_true, List.any_eq_true]
            exact .inr ⟨_, h3, by rw [Int.toNat_natCast]; exact hb⟩
  have hi0 : bt X i = true := by rw [hX.is i hi, decide_eq_true ((hm i hi).2 rfl), Bool.true_or]
  have hself : i ∈ wayF U (i + 1) i := List.mem_cons_self ..
  refine fun j hj => ⟨?_, fun hw => hto _ _ hi hi0 _ hw⟩
  refine back (n := l.length) (p := fun j => bt X j = true → j ∈ wayF U (i + 1) i) (fun j hj ih hb => ?_) j hj
  rw [hX.is j hj, Bool.or_eq_true, List.any_eq_true] at hb
  rcases hb with hb | ⟨k, hk, hb⟩
  · rw [(hm j hj).1 (of_decide_eq_true hb)]; exact hself
  · obtain ⟨c, rfl, h3, h4⟩ := hT.kid hj hk
    rw [Int.toNat_natCast] at hb
    exact way_up hT h _ _ (Nat.lt_succ_self i) hi c (ih c h3 h4 hb) j (h.up j c hj hk)
/- Without a part met nothing is stale; then all is confirmed. -/
theorem stale_none {l : List Pt} {X : List Bool} (hT : Tr l) (hX : StaleOk l X) (hm : ∀ j, j < l.length → (pt l j).met = 0) : ∀ j, j < l.length → bt X j = false := by
  refine back fun j hj ih => ?_
  rw [hX.is j hj, hm j hj]
  simp only [ne_eq, not_true_eq_false, decide_false, Bool.false_or, List.any_eq_false]
  intro k hk
  obtain ⟨c, rfl, h3, h4⟩ := hT.kid hj hk
  rw [Int.toNat_natCast, ih c h3 h4]
  exact Bool.false_ne_true
theorem marks_all {l : List Pt} {X : List Bool} {R M : List Int} (hT : Tr l) (hX : StaleOk l X) (hm : ∀ j, j < l.length → (pt l j).met = 0) (hM : MarksOk l X R (-1) M) : ∀ j, j < l.length → it M j = 3 := by
  refine back fun j hj ih => ?_
  rw [hM.is j hj, mark3]
  refine ⟨stale_none hT hX hm j hj, ?_⟩
  have ha : ∀ y, aheadF (-1) y = true := fun y => by simp [aheadF]
  unfold sureF
  split
  · exact ha _
  · rw [foldl_all (fun k : Int => decide (it M k.toNat = 3)), ha, Bool.true_and, List.all_eq_true]
    intro k hk
    obtain ⟨c, rfl, h3, h4⟩ := hT.kid hj hk
    rw [Int.toNat_natCast]
    exact decide_eq_true (ih c h3 h4)
/- Counts. -/
def norm (m : Int) : Int := if m < 1 ∨ 3 < m then 0 else m
def cntF (M : List Int) (q : Int) : Nat := M.countP fun m => decide (norm m = q)
theorem cnt_all {M : List Int} (h : ∀ j, j < M.length → it M j = 3) : cntF M 3 = M.length := by
  unfold cntF
  rw [List.countP_eq_length]
  intro m hm
  obtain ⟨j, hj, rfl⟩ := List.mem_iff_getElem.1 hm
  have := h j hj
  rw [it, List.getD_eq_getElem?_getD, List.getElem?_eq_getElem hj, Option.getD_some] at this
  rw [this]; decide
theorem cnt_way : ∀ (n : Nat) (p : Nat → Bool) (ws : List Nat), ws.Pairwise (fun a b => b < a) → (∀ x, x ∈ ws ↔ x < n ∧ p x = true) → (List.range n).countP p = ws.length
  | 0, p, ws, _, h => by
    have : ws = [] := List.eq_nil_iff_forall_not_mem.2 fun x hx => by have := (h x).1 hx; omega
    rw [this]; rfl
  | n + 1, p, ws, hp, h => by
    rw [List.range_succ, List.countP_append]
    by_cases hn : p n = true
    · have hmem : n ∈ ws := (h n).2 ⟨Nat.lt_succ_self n, hn⟩
      cases ws with
      | nil => cases hmem
      | cons x ws =>
        obtain ⟨h1, h2⟩ := List.pairwise_cons.1 hp
        have hx : x = n := by
          rcases List.mem_cons.1 hmem with e | hm
          · exact e.symm
          · have := h1 n hm
            have := ((h x).1 (List.mem_cons_self ..)).1
            omega
        subst hx
        have := cnt_way x p ws h2 fun y => ⟨fun hy => ⟨h1 y hy, ((h y).1 (List.mem_cons_of_mem _ hy)).2⟩, fun hy => by
          rcases List.mem_cons.1 ((h y).2 ⟨by omega, hy.2⟩) with e | hm
          · omega
          · exact hm⟩
        rw [this]
        simp [hn]
    · have := cnt_way n p ws hp fun y => ⟨fun hy => ⟨by
        have h3 := (h y).1 hy
        rcases Nat.lt_or_ge y n with h4 | h4
        · exact h4
        · obtain rfl : y = n := by omega
          exact absurd h3.2 hn, ((h y).1 hy).2⟩, fun hy => (h y).2 ⟨by omega, hy.2⟩⟩
      rw [this]
      simp [hn]
theorem cnt_one {M : List Int} {p : Nat → Bool} (h : ∀ j, j < M.length → (it M j = 1 ↔ p j = true)) : cntF M 1 = (List.range M.length).countP p := by
  have e : M = (List.range M.length).map (it M) := by
    refine List.ext_getElem (by simp) fun j h1 h2 => ?_
    simp [it, h1]
  unfold cntF
  conv => lhs; rw [e]
  rw [List.countP_map]
  refine List.countP_congr fun j hj => ?_
  have hj : j < M.length := List.mem_range.1 hj
  rw [Function.comp, decide_eq_true_iff, ← h j hj]
  unfold norm
  constructor
  · intro g; split at g <;> omega
  · intro g; rw [if_neg (by omega)]; exact g
end Go.Proofs.YtdjeokgkeejpcaaGreatDoor

namespace Go.Proofs.YtdjeokgkeejpcaaGreatDoor
open Go Go.Proofs Go.RowKit
attribute [local go_sem] Oper.semAt_some
set_option maxRecDepth 100000 in
set_option maxHeartbeats 16000000 in
theorem check7_ok (l : List Pt) (hl : l.length ≤ 120) (hT : TrOk l) (la : Option Addr) (c : Nat) (w : World) (hR : PRow w la l) :
    Calls Tryz.prog 7 #[.slice la l.length c] w fun e w' => e = .returned (.int .i64 0) ∧ Below w.heap.size w w' := by
  have hl1 : ¬ (524288 : Int) < (l.length : Int) := by omega
  have hpos := hT.tr.pos
  have hbare := Lib.hid hT.bare
  have hroot := Lib.hid hT.root
  have hwhole := Lib.hid hT.tr.whole
  clear hT
  go_enter Tryz.func7, Tryz.ntmps7
  go_wp2
  obtain ⟨wo, rfl⟩ : ∃ wo : World, wo = w := ⟨_, rfl⟩
  go_loopw [3] (fun i wr => ∃ k : Nat, k ≤ l.length ∧ i = .int .i64 k ∧ Below wo.heap.size wo wr) (fun i _ => l.length - (intOf i).toNat)
  case atStart => exact ⟨0, Nat.zero_le _, rfl, Below.refl _ _⟩
  case round =>
    obtain ⟨k, hk, rfl, hB⟩ := hrel
    have hk0 : (0 : Int) ≤ (k : Int) := by omega
    by_cases hlt : k < l.length
    · have hk1 : (k : Int) < (l.length : Int) := by omega
      obtain ⟨b, off, ka, kc, rfl, hbl, y, _, _⟩ := (hR.below hB (Nat.le_refl _)).at hlt
      have hbw : b < wr.heap.size := hbl
      rw [← pt_get hlt] at y
      have hbo := hbare.out k hlt
      have hrt := hroot.out k hlt
      obtain ⟨p, hp⟩ : ∃ p, p = pt l k := ⟨_, rfl⟩
      rw [← hp] at y hbo hrt
      clear hp
      have h16 := bare16_k p ka kc wr
      unfold ptV at h16
      obtain ⟨y0, y1, y2, y3, y4, y5, y6, y7⟩ := y
      rw [bareB_true.2 hbo] at h16
      clear hbo
      by_cases hz : (0 : Int) < (k : Int)
      · have hkd : ¬ p.kind = 1 := hrt (by omega)
        clear hrt
        go_wp2_with (go_at_call 16; ((with_reducible refine h16.mono ?_); rintro e W2 ⟨rfl, hb2⟩; (have y1' := (hb2.cell (p := ⟨b, off + k * 8 + 1, none⟩) hbw).trans y1)))
        go_roundw
        case rel => exact ⟨k + 1, by omega, by simp, hB.trans (hb2.mono hB.size)⟩
        case measure => simp [intOf]; omega
      · clear hrt
        go_wp2_with (go_at_call 16; ((with_reducible refine h16.mono ?_); rintro e W2 ⟨rfl, hb2⟩))
        go_roundw
        case rel => exact ⟨k + 1, by omega, by simp, hB.trans (hb2.mono hB.size)⟩
        case measure => simp [intOf]; omega
    · have hk1 : ¬ (k : Int) < (l.length : Int) := by omega
      have h0 : ¬ (l.length : Int) = 0 := by omega
      have h17 : Calls Tryz.prog 17 #[.slice la l.length c, .int .i64 0] wr fun e w' => e = .returned (.int .i64 (l.length : Nat)) ∧ Below wr.heap.size wr w' := by
        have := end17_k l (by omega) la c l.length 0 (by omega) (by omega) wr (hR.below hB (Nat.le_refl _))
        rw [hwhole.out] at this
        exact this
      have hb0 : ((l.length : Int) == 0) = false := by simpa using h0
      clear h0
      go_wp2_with (go_at_call 17; ((with_reducible refine h17.mono ?_); rintro e W2 ⟨rfl, hb2⟩))
      exact bodyPost_ret (v := .int .i64 0) (by simp [results, Tryz.results7, go_sem]) rfl ⟨rfl, hB.trans (hb2.mono hB.size)⟩
/-- Pick tells a place within. -/
def PkPost (n : Nat) (w : World) (e : Ending) (w' : World) : Prop := ∃ i : Nat, i < n ∧ e = .returned (.int .i64 i) ∧ w' = w
set_option maxRecDepth 100000 in
set_option maxHeartbeats 4000000 in
theorem pick11_k (k : Int) (n : Nat) (h0 : 0 < n) (h1 : n ≤ 120) (w : World) : Calls Tryz.prog 11 #[.int .i64 k, .int .i64 n] w (PkPost n w) := by
  have hn : ¬ (n : Int) < 1 := by omega
  have hz : ¬ (n : Int) = 0 := by omega
  have r1 : k.tmod n < n := Int.tmod_lt_of_pos k (by omega)
  have r2 : -(n : Int) < k.tmod n := by
    have h2 := Int.tmod_lt_of_pos (-k) (show (0 : Int) < n by omega)
    rw [Int.neg_tmod] at h2
    omega
  obtain ⟨r, hr⟩ : ∃ r, r = k.tmod n := ⟨_, rfl⟩
  rw [← hr] at r1 r2
  go_enter Tryz.func11, Tryz.ntmps11
  go_upto_region 4 with fail
  rw [← hr]
  clear hr
  by_cases hc : r < 0
  · go_wp2_with fail
    exact bodyPost_ret (v := .int .i64 ((r + n).toNat : Nat)) (by simp [results, Tryz.results11, go_sem]; omega) rfl ⟨(r + n).toNat, by omega, rfl, rfl⟩
  · go_wp2_with fail
    exact bodyPost_ret (v := .int .i64 (r.toNat : Nat)) (by simp [results, Tryz.results11, go_sem]; omega) rfl ⟨r.toNat, by omega, rfl, rfl⟩
end Go.Proofs.YtdjeokgkeejpcaaGreatDoor

namespace Go.Proofs.YtdjeokgkeejpcaaGreatDoor
open Go Go.Proofs Go.RowKit
attribute [local go_sem] Oper.semAt_some
/-- Parents of the parts ahead of i, and of i's first k kids. -/
structure Pa (l : List Pt) (i k : Nat) (U : List Int) : Prop where
  len : U.length = l.length
  root : it U 0 = -1
  up : ∀ j c : Nat, j < l.length → (c : Int) ∈ (pt l j).kids → (j < i ∨ j = i ∧ (c : Int) ∈ (pt l i).kids.take k) → it U c = j
theorem Pa.start {l : List Pt} (hT : Tr l) : Pa l 0 0 ((List.replicate l.length 0).set 0 (-1)) := by
  have := hT.pos
  refine ⟨by simp, by rw [it_set_self]; simpa using this, fun j c _ _ h => ?_⟩
  rcases h with h | ⟨_, h⟩
  · omega
  · simp at h
theorem Pa.step {l : List Pt} (hT : Tr l) {i k : Nat} {U : List Int} (h : Pa l i k U) (hi : i < l.length) (hk : k < (pt l i).kids.length) {c : Nat} (hc : (pt l i).kids[k] = (c : Int)) : c < l.length ∧ Pa l i (k + 1) (U.set c i) := by
  have hm : (c : Int) ∈ (pt l i).kids := by rw [← hc]; exact List.getElem_mem hk
  obtain ⟨c', e, h1, h2⟩ := hT.kid hi hm
  obtain rfl : c' = c := by omega
  refine ⟨h2, by simp [h.len], by rw [it_set_ne _ (by omega)]; exact h.root, fun j d hj hd hh => ?_⟩
  by_cases e : d = c'
  · subst e
    rw [it_set_self _ (by rw [h.len]; exact h2), hT.one hi hj hm hd]
  · rw [it_set_ne _ (Ne.symm e)]
    refine h.up j d hj hd ?_
    rcases hh with hh | ⟨rfl, hh⟩
    · exact .inl hh
    · refine .inr ⟨rfl, ?_⟩
      rw [List.take_succ_eq_append_getElem hk, hc, List.mem_append] at hh
      rcases hh with hh | hh
      · exact hh
      · rw [List.mem_singleton] at hh; omega
theorem Pa.next {l : List Pt} {i : Nat} {U : List Int} (h : Pa l i (pt l i).kids.length U) : Pa l (i + 1) 0 U := by
  refine ⟨h.len, h.root, fun j d hj hd hh => h.up j d hj hd ?_⟩
  rcases hh with hh | ⟨_, hh⟩
  · rcases Nat.lt_or_ge j i with h1 | h1
    · exact .inl h1
    · obtain rfl : j = i := by omega
      exact .inr ⟨rfl, by rw [List.take_length]; exact hd⟩
  · simp at hh
theorem Pa.ups {l : List Pt} {U : List Int} {i : Nat} (hi : i = l.length) (h : Pa l i 0 U) : Ups l U := ⟨h.len, h.root, fun j c hj hc => h.up j c hj hc (.inl (by omega))⟩
def UpPost (l : List Pt) (w : World) (e : Ending) (w' : World) : Prop := ∃ g U, e = .returned (.slice (some ⟨g, 0, none⟩) l.length l.length) ∧ w.heap.size ≤ g ∧ Bx w' g 3 (intsA U) ∧ Ups l U ∧ Below w.heap.size w w'
set_option maxRecDepth 100000 in
set_option maxHeartbeats 16000000 in
theorem parents12_k (l : List Pt) (hl : l.length ≤ 120) (hT : TrOk l) (la : Option Addr) (c : Nat) (w : World) (hR : PRow w la l) :
    Calls Tryz.prog 12 #[.slice la l.length c] w (UpPost l w) := by
  have h7 := check7_ok l hl hT la c w hR
  have hTr := hT.tr
  have hpos := hTr.pos
  have hmk := fun W => makeI l.length (by omega) W
  have hT := Lib.hid hTr
  clear hTr
  go_enter Tryz.func12, Tryz.ntmps12
  go_upto_region 4 with (go_at_call 7; ((with_reducible refine h7.mono ?_); rintro e W1 ⟨rfl, hb1⟩))
  clear h7 hmk
  obtain ⟨g, hg⟩ : ∃ g, g = W1.heap.size := ⟨_, rfl⟩
  have n1 := Bx.new W1 3 (intsA (List.replicate l.length 0))
  have hb2 := hb1.alloc hb1.size (.cells (intsA (List.replicate l.length 0)) 3)
  have hgw : w.heap.size ≤ g := by rw [hg]; exact hb1.size
  rw [← hg] at n1 ⊢
  obtain ⟨W2, hW2⟩ : ∃ W2, W2 = W1.alloc (.cells (intsA (List.replicate l.length 0)) 3) := ⟨_, rfl⟩
  rw [← hW2] at n1 hb2 ⊢
  clear hW2 hg hb1
  go_upto_region 5 with ((with_reducible refine st_id ?_); refine AX.wpList_storeCell (o := 0) (v := .int .i64 (-1)) rfl rfl rfl sz3 n1 (by rw [intsA_size, List.length_replicate]; omega) ?_; rintro W3 g3 g4 g5)
  have hb3 := hb2.trans (AX.below_turn hgw (.inl (Bx.lt g3)) g4 g5)
  rw [intsA_set] at g3
  have hP0 := Lib.hid (Pa.start hT.out)
  clear g4 g5 hb2 n1
  go_wp2_with fail
  go_loopw [4] (fun i wr => ∃ (n : Nat) (U : List Int), n ≤ l.length ∧ i = .int .i64 n ∧ Bx wr g 3 (intsA U) ∧ Hid (Pa l n 0 U) ∧ Below w.heap.size w wr) (fun i _ => l.length - (intOf i).toNat)
  case atStart => exact ⟨0, _, Nat.zero_le _, rfl, g3, hP0, hb3⟩
  case round =>
    obtain ⟨n, U, hn, rfl, hx, hP, hB⟩ := hrel
    have hn0 : (0 : Int) ≤ (n : Int) := by omega
    by_cases hlt : n < l.length
    · have hn1 : (n : Int) < (l.length : Int) := by omega
      obtain ⟨p, hp⟩ : ∃ p, p = pt l n := ⟨_, rfl⟩
      have HP := Lib.hid hp
      clear hp
      go_wp2_with fail
      go_loopw [5] (fun k wr => ∃ (m : Nat) (U : List Int), m ≤ p.kids.length ∧ k = .int .i64 m ∧ Bx wr g 3 (intsA U) ∧ Hid (Pa l n m U) ∧ Below w.heap.size w wr) (fun k _ => p.kids.length - (intOf k).toNat)
      case atStart => exact ⟨0, U, Nat.zero_le _, rfl, hx, hP, hB⟩
      case round =>
        obtain ⟨m, U', hm, rfl, hx', hP', hB'⟩ := hrel
        obtain ⟨b, off, ka, kc, rfl, hbl, z, hK, hkl⟩ := (hR.below hB' (Nat.le_refl _)).at hlt
        rw [← pt_get hlt, ← HP.out] at z hK hkl
        have z6 := z.c6
        have hm0 : (0 : Int) ≤ (m : Int) := by omega
        clear z
        by_cases hlm : m < p.kids.length
        · have hm1 : (m : Int) < (p.kids.length : Int) := by omega
          obtain ⟨kb, ko, rfl, hkb, q3⟩ := hK.at hlm
          obtain ⟨cc, hcc, _, _⟩ := hT.out.kid hlt (by rw [← HP.out]; exact List.getElem_mem hlm)
          have hst : cc < l.length ∧ Pa l n (m + 1) (U'.set cc n) := by
            have hP2 := hP'.out
            obtain rfl := HP.out
            exact hP2.step hT.out hlt hlm hcc
          obtain ⟨s1, s2⟩ := hst
          rw [hcc] at q3
          have hs2 := Lib.hid s2
          have hU' := hP'.out.len
          have hc0 : (0 : Int) ≤ (cc : Int) := by omega
          have hc1 : (cc : Int) < (l.length : Int) := by omega
          clear s2 hK hcc
          go_wp2_with ((with_reducible refine st_id ?_); refine AX.wpList_storeCell (o := cc) (v := .int .i64 n) (by simp [go_sem]) rfl rfl sz3 hx' (by rw [intsA_size]; omega) ?_; rintro W3 i3 i4 i5)
          have hb4 := hB'.trans (AX.below_turn hgw (.inl (Bx.lt i3)) i4 i5)
          rw [intsA_set] at i3
          go_roundw
          case rel => exact ⟨m + 1, _, by omega, by simp, i3, hs2, hb4⟩
          case measure => simp [intOf]; omega
        · have hm1 : ¬ (m : Int) < (p.kids.length : Int) := by omega
          have hnx : Hid (Pa l (n + 1) 0 U') := Lib.hid (by
            obtain rfl : m = p.kids.length := by omega
            have hP2 := hP'.out
            rw [HP.out] at hP2
            exact hP2.next)
          clear hK hP'
          go_wp2_with fail
          go_roundw
          case rel => exact ⟨n + 1, _, by omega, by simp, hx', hnx, hB'⟩
          case measure => simp [intOf]; omega
    · have hn1 : ¬ (n : Int) < (l.length : Int) := by omega
      have hU : Hid (Ups l U) := Lib.hid (hP.out.ups (by omega))
      clear hP
      go_wp2_with fail
      exact bodyPost_ret (v := .slice (some ⟨g, 0, none⟩) l.length l.length) (by simp [results, Tryz.results12, go_sem]) rfl ⟨g, U, rfl, hgw, hx, hU.out, hB⟩
end Go.Proofs.YtdjeokgkeejpcaaGreatDoor

namespace Go.Proofs.YtdjeokgkeejpcaaGreatDoor
open Go Go.Proofs Go.RowKit
attribute [local go_sem] Oper.semAt_some
def cnA (a b c d : Nat) : Array Value := #[.int .i64 (a : Nat), .int .i64 (b : Nat), .int .i64 (c : Nat), .int .i64 (d : Nat)]
def cntA (M : List Int) : Array Value := cnA (cntF M 0) (cntF M 1) (cntF M 2) (cntF M 3)
theorem sz32 : AX.sizeT Tryz.prog 32 = some 4 := by kernel_rfl
theorem cnt_le (M : List Int) (q : Int) : cntF M q ≤ M.length := List.countP_le_length
theorem cnt_add (M : List Int) (m q : Int) : cntF (M ++ [m]) q = cntF M q + (if norm m = q then 1 else 0) := by
  unfold cntF
  rw [List.countP_append]
  congr 1
  simp [List.countP_cons]
theorem bx_set {w : World} {B : Nat} {t : TypeId} {cs : Array Value} (h : Bx w B t cs) (i : Nat) (v : Value) : Bx (w.setCell ⟨B, i, none⟩ v) B t (cs.setIfInBounds i v) := by
  have h' : w.heap[B]? = _ := h
  simp [Bx, World.setCell, Array.getElem?_modify, h']
set_option maxRecDepth 100000 in
set_option maxHeartbeats 8000000 in
theorem count10_k (M : List Int) (hn : M.length ≤ 120) (g c : Nat) (w : World) (hg : Bx w g 3 (intsA M)) :
    Calls Tryz.prog 10 #[.slice (some ⟨g, 0, none⟩) M.length c] w fun e w' => e = .returned (.agg (cntA M)) ∧ Below w.heap.size w w' := by
  obtain ⟨S, hS⟩ : ∃ S, S = w.heap.size := ⟨_, rfl⟩
  obtain ⟨W1, hW1⟩ : ∃ W1, W1 = w.alloc (.cells #[.int .i64 0, .int .i64 0, .int .i64 0, .int .i64 0] 32) := ⟨_, rfl⟩
  obtain ⟨W2, hW2⟩ : ∃ W2, W2 = W1.alloc (.cells #[.int .i64 0, .int .i64 0, .int .i64 0, .int .i64 0] 32) := ⟨_, rfl⟩
  have hz1 : W1.heap.size = S + 1 := by rw [hW1, hS]; simp
  have b1 : Bx W1 S 32 #[.int .i64 0, .int .i64 0, .int .i64 0, .int .i64 0] := by rw [hW1, hS]; exact Bx.new w 32 _
  have b2 : Bx W2 (S + 1) 32 (cntA []) := by rw [hW2, ← hz1]; exact Bx.new W1 32 _
  have b1 : Bx W2 S 32 #[.int .i64 0, .int .i64 0, .int .i64 0, .int .i64 0] := by rw [hW2]; exact b1.alloc _
  have hB2 : Below S w W2 := by
    rw [hW2, hW1, hS]
    exact ((Below.refl _ w).alloc (Nat.le_refl _) _).alloc (by simp) _
  have HW1 := Lib.hid hW1
  have HW2 := Lib.hid hW2
  have HZ1 := Lib.hid hz1
  have HS := Lib.hid hS
  have hgS : g < S := by rw [hS]; exact hg.lt
  rw [← hS]
  clear hW1 hW2 hz1 hS
  go_enter Tryz.func10, Tryz.ntmps10
  go_upto_region 2 with fail
  rw [← HW1.out, ← HW2.out, ← HS.out]
  go_wp2_with fail
  go_loopw [5, 8] (fun _ i wr => ∃ k : Nat, k ≤ M.length ∧ i = .int .i64 k ∧ Bx wr S 32 #[.int .i64 0, .int .i64 0, .int .i64 0, .int .i64 0] ∧ Bx wr (S + 1) 32 (cntA (M.take k)) ∧ Below S w wr) (fun _ i _ => M.length - (intOf i).toNat)
  case atStart => exact ⟨0, Nat.zero_le _, rfl, b1, b2, hB2⟩
  case round =>
    obtain ⟨k, hk, rfl, h1, h2, hB⟩ := hrel
    have hk0 : (0 : Int) ≤ (k : Int) := by omega
    by_cases hlt : k < M.length
    · have hk1 : (k : Int) < (M.length : Int) := by omega
      have q : wr.cell? ⟨g, 0 + k, none⟩ = some (.int .i64 (it M k)) := by rw [Nat.zero_add]; exact ((hB.cell (p := ⟨g, k, none⟩) hgS).trans (hg.cell k)).trans (intsA_get hlt)
      have q' : wr.cell? ⟨g, k, none⟩ = some (.int .i64 (it M k)) := by rw [Nat.zero_add] at q; exact q
      have hnext : M.take (k + 1) = M.take k ++ [it M k] := by
        rw [List.take_succ_eq_append_getElem hlt]; simp [it, hlt]
      have hadd := cnt_add (M.take k) (it M k)
      rw [← hnext] at hadd
      have hle := cnt_le (M.take k)
      rw [List.length_take] at hle
      have a0 := hadd 0
      have a1 := hadd 1
      have a2 := hadd 2
      have a3 := hadd 3
      have l0 := hle 0
      have l1 := hle 1
      have l2 := hle 2
      have l3 := hle 3
      have hfin : Hid (∀ i v, (cntA (M.take k)).setIfInBounds i v = cntA (M.take (k + 1)) → (∃ n : Nat, n ≤ M.length ∧ Value.int .i64 ((k : Int) + 1) = .int .i64 n ∧ Bx (wr.setCell ⟨S + 1, i, none⟩ v) S 32 #[.int .i64 0, .int .i64 0, .int .i64 0, .int .i64 0] ∧ Bx (wr.setCell ⟨S + 1, i, none⟩ v) (S + 1) 32 (cntA (M.take n)) ∧ Below S w (wr.setCell ⟨S + 1, i, none⟩ v))) := Lib.hid (fun i v he =>
        ⟨k + 1, by omega, by simp, h1.same (Below.heap_setCell _ _ _ _ (by simp)), by rw [← he]; exact bx_set h2 i v, hB.setCell (p := ⟨S + 1, i, none⟩) (by simp) v⟩)
      have hnew : Hid (cntA (M.take (k + 1)) = cnA (cntF (M.take k) 0 + if norm (it M k) = 0 then 1 else 0) (cntF (M.take k) 1 + if norm (it M k) = 1 then 1 else 0) (cntF (M.take k) 2 + if norm (it M k) = 2 then 1 else 0) (cntF (M.take k) 3 + if norm (it M k) = 3 then 1 else 0)) := Lib.hid (by
        unfold cntA; rw [a0, a1, a2, a3])
      have y0 : wr.cell? ⟨S + 1, 0, none⟩ = some (.int .i64 (cntF (M.take k) 0 : Nat)) := h2.cell 0
      have y1 : wr.cell? ⟨S + 1, 1, none⟩ = some (.int .i64 (cntF (M.take k) 1 : Nat)) := h2.cell 1
      have y2 : wr.cell? ⟨S + 1, 2, none⟩ = some (.int .i64 (cntF (M.take k) 2 : Nat)) := h2.cell 2
      have y3 : wr.cell? ⟨S + 1, 3, none⟩ = some (.int .i64 (cntF (M.take k) 3 : Nat)) := h2.cell 3
      have f0 := h2.frozen 0
      have f1 := h2.frozen 1
      have f2 := h2.frozen 2
      have f3 := h2.frozen 3
      obtain ⟨x, hx⟩ : ∃ x, x = it M k := ⟨_, rfl⟩
      rw [← hx] at q q' hnew
      unfold cntA at hfin hnew
      obtain ⟨c0, e0⟩ : ∃ z, z = cntF (M.take k) 0 := ⟨_, rfl⟩
      obtain ⟨c1, e1⟩ : ∃ z, z = cntF (M.take k) 1 := ⟨_, rfl⟩
      obtain ⟨c2, e2⟩ : ∃ z, z = cntF (M.take k) 2 := ⟨_, rfl⟩
      obtain ⟨c3, e3⟩ : ∃ z, z = cntF (M.take k) 3 := ⟨_, rfl⟩
      rw [← e0] at y0 hfin l0 hnew
      rw [← e1] at y1 hfin l1 hnew
      rw [← e2] at y2 hfin l2 hnew
      rw [← e3] at y3 hfin l3 hnew
      clear hx e0 e1 e2 e3 a0 a1 a2 a3 hadd hle hnext hg h1 h2 b1 b2
      have hcase : x < 1 ∨ (¬ x < 1 ∧ 3 < x) ∨ x = 1 ∨ x = 2 ∨ x = 3 := by omega
      rcases hcase with hc | ⟨hc, hd⟩ | rfl | rfl | rfl
      · have hnm : Hid (norm x = 0) := Lib.hid (if_pos (.inl hc))
        go_wp2_with fail
        exact ⟨hfin.out 0 _ (by rw [hnew.out, hnm.out]; simp [cnA]), by simp [intOf]; omega⟩
      · have hnm : Hid (norm x = 0) := Lib.hid (if_pos (.inr hd))
        go_wp2_with fail
        exact ⟨hfin.out 0 _ (by rw [hnew.out, hnm.out]; simp [cnA]), by simp [intOf]; omega⟩
      · go_wp2_with fail
        exact ⟨hfin.out 1 _ (by rw [hnew.out, show norm 1 = 1 by decide]; simp [cnA]), by simp [intOf]; omega⟩
      · go_wp2_with fail
        exact ⟨hfin.out 2 _ (by rw [hnew.out, show norm 2 = 2 by decide]; simp [cnA]), by simp [intOf]; omega⟩
      · go_wp2_with fail
        exact ⟨hfin.out 3 _ (by rw [hnew.out, show norm 3 = 3 by decide]; simp [cnA]), by simp [intOf]; omega⟩
    · have hk1 : ¬ (k : Int) < (M.length : Int) := by omega
      rw [List.take_of_length_le (by omega)] at h2
      unfold cntA at h2
      obtain ⟨c0, e0⟩ : ∃ z, z = cntF M 0 := ⟨_, rfl⟩
      obtain ⟨c1, e1⟩ : ∃ z, z = cntF M 1 := ⟨_, rfl⟩
      obtain ⟨c2, e2⟩ : ∃ z, z = cntF M 2 := ⟨_, rfl⟩
      obtain ⟨c3, e3⟩ : ∃ z, z = cntF M 3 := ⟨_, rfl⟩
      rw [← e0, ← e1, ← e2, ← e3] at h2
      have hca : Hid (cntA M = #[.int .i64 (c0 : Nat), .int .i64 (c1 : Nat), .int .i64 (c2 : Nat), .int .i64 (c3 : Nat)]) := Lib.hid (by unfold cntA cnA; rw [← e0, ← e1, ← e2, ← e3])
      clear e0 e1 e2 e3
      unfold cnA at h2
      have y0 : wr.cell? ⟨S + 1, 0, none⟩ = some (.int .i64 (c0 : Nat)) := h2.cell 0
      have y1 : wr.cell? ⟨S + 1, 1, none⟩ = some (.int .i64 (c1 : Nat)) := h2.cell 1
      have y2 : wr.cell? ⟨S + 1, 2, none⟩ = some (.int .i64 (c2 : Nat)) := h2.cell 2
      have y3 : wr.cell? ⟨S + 1, 3, none⟩ = some (.int .i64 (c3 : Nat)) := h2.cell 3
      go_wp2_with ((with_reducible refine st_id ?_); refine AX.wpList_storeBox (vs := [.int .i64 (c0 : Nat), .int .i64 (c1 : Nat), .int .i64 (c2 : Nat), .int .i64 (c3 : Nat)]) rfl rfl sz32 h1 rfl rfl ?_; rintro W9 g3 g4 g5)
      have h3' : Bx W9 S 32 #[.int .i64 (c0 : Nat), .int .i64 (c1 : Nat), .int .i64 (c2 : Nat), .int .i64 (c3 : Nat)] := g3
      have d0 := h3'.cell 0
      have d1 := h3'.cell 1
      have d2 := h3'.cell 2
      have d3 := h3'.cell 3
      exact bodyPost_ret (v := .agg #[.int .i64 (c0 : Nat), .int .i64 (c1 : Nat), .int .i64 (c2 : Nat), .int .i64 (c3 : Nat)]) (by simp [results, Tryz.results10, go_sem, d0, d1, d2, d3]) rfl ⟨by rw [hca.out], hB.trans (AX.below_turn (by omega) (.inl h3'.lt) g4 g5)⟩
end Go.Proofs.YtdjeokgkeejpcaaGreatDoor
