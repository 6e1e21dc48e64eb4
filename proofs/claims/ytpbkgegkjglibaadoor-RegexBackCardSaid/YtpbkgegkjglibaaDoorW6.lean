/- Regex: Check walked. -/
import Derived.Test.YtpbkgegkjglibaaDoorW5
namespace Go.Proofs.YtpbkgegkjglibaaDoor
open Go Go.Proofs Go.RowKit
attribute [local go_sem] Oper.semAt_some
theorem high_le (k : Int) : highV k ≤ 512 := by unfold highV; split <;> (try split) <;> (try split) <;> omega
theorem kidsOf_len (c : Nat) : ∀ r : List Nd, (∀ x ∈ r, x.kids.length ≤ c) → (kidsOf r).length ≤ r.length * c
  | [], _ => by simp [kidsOf]
  | x :: r, h => by
    have h1 := kidsOf_len c r (fun y hy => h y (List.mem_cons_of_mem _ hy))
    have h2 := h x (List.mem_cons_self ..)
    rw [kidsOf_cons, List.length_append, List.length_cons, Nat.add_mul, Nat.one_mul]
    omega
set_option maxRecDepth 100000 in
set_option maxHeartbeats 8000000 in
theorem check_k (r : List Nd) (v : Value) (hl : r.length ≤ 1000000) (w : World) (hR : RRow w v r) :
    Calls Tryd.prog 10 #[v] w fun e w' => e = .returned (.int .i64 (checkV r)) ∧ Below w.heap.size w w' := by
  obtain ⟨la, c, rfl, h1, h2⟩ := hR
  by_cases hs : r.length < 1 ∨ 512 < r.length
  · have HC : Hid (checkV r = 2) := Lib.hid (if_neg (fun h => by have := h.one; have := h.most; omega))
    have hb : (r.length < 1 ∧ ¬ 512 < r.length) ∨ 512 < r.length := by omega
    generalize checkV r = cv at *
    rcases hb with ⟨h0, h512⟩ | h512
    · go_enter Tryd.func10, Tryd.ntmps10
      go_wp2
      exact bodyPost_ret (v := .int .i64 2) (by simp [results, Tryd.results10, go_sem]) rfl ⟨by rw [HC.out], Below.refl _ _⟩
    · go_enter Tryd.func10, Tryd.ntmps10
      go_wp2
      exact bodyPost_ret (v := .int .i64 2) (by simp [results, Tryd.results10, go_sem]) rfl ⟨by rw [HC.out], Below.refl _ _⟩
  have hn1 : 1 ≤ r.length := by omega
  have hn2 : r.length ≤ 512 := by omega
  clear hs hl
  cases la with
  | none => have := h1 rfl; subst this; simp at hn1
  | some ad =>
  obtain ⟨B, off, rfl, hBl, hX⟩ := h2 _ rfl (by intro e; rw [e] at hn1; simp at hn1)
  clear h1 h2
  obtain ⟨n, hn⟩ : ∃ n, n = r.length := ⟨_, rfl⟩
  rw [← hn] at hn1 hn2 ⊢
  have HNn := Lib.hid hn
  clear hn
  have hnot : ∀ k x, r[k]? = some x → ¬ NdOk k x → Hid (checkV r = 2) := fun k x hx hno => Lib.hid (if_neg (fun h => hno (h.nd k x hx)))
  obtain ⟨W0, hmk, hU0, hB0, hS0⟩ := mk_ints n (by omega) w
  obtain ⟨U, hU⟩ : ∃ U, U = w.heap.size := ⟨_, rfl⟩
  rw [← hU] at hmk hU0 hB0 hBl
  have HU := Lib.hid hU
  clear hU
  have hkid0 : kidsOf (r.take 0) = [] := by simp [kidsOf]
  generalize hcv : checkV r = cv at *
  have HCV := Lib.hid hcv
  clear hcv
  go_enter Tryd.func10, Tryd.ntmps10
  go_wp2
  go_loopw [24] (fun i wr => ∃ k : Nat, k ≤ n ∧ i = .int .i64 k ∧ IRow wr U (usedL n (kidsOf (r.take k))) ∧ Hid (∀ i x, i < k → r[i]? = some x → NdOk i x) ∧ Below U w wr)
    (fun i _ => n - (intOf i).toNat)
  case atStart => exact ⟨0, Nat.zero_le _, rfl, by rw [hkid0]; exact hU0, Lib.hid (fun i x h => by omega), hB0⟩
  case round =>
    obtain ⟨k, hk', rfl, hUr, hnd, hB⟩ := hrel
    by_cases hlt : k < n
    · obtain ⟨x, hx⟩ : ∃ x, r[k]? = some x := ⟨_, List.getElem?_eq_getElem (by rw [← HNn.out]; exact hlt)⟩
      obtain ⟨c0, c1, c2, c3, c4, kv, c5, hIR⟩ := hX k x hx
      replace c0 := (hB.cell (p := ⟨B, off + k * 6, none⟩) hBl).trans c0
      replace c1 := (hB.cell (p := ⟨B, off + k * 6 + 1, none⟩) hBl).trans c1
      replace c2 := (hB.cell (p := ⟨B, off + k * 6 + 2, none⟩) hBl).trans c2
      replace c3 := (hB.cell (p := ⟨B, off + k * 6 + 3, none⟩) hBl).trans c3
      replace c4 := (hB.cell (p := ⟨B, off + k * 6 + 4, none⟩) hBl).trans c4
      replace c5 := (hB.cell (p := ⟨B, off + k * 6 + 5, none⟩) hBl).trans c5
      obtain ⟨lk, ck, rfl, hK1, hK2⟩ := hIR
      have hk0 : (0 : Int) ≤ (k : Int) := by omega
      have hk1 : (k : Int) < (n : Int) := by omega
      have hBw : B < wr.heap.size := by have := hB.size; have := HU.out; omega
      have HT := Lib.hid (kidsOf_take r k x hx)
      have HNO := Lib.hid (hnot k x hx)
      have HX := Lib.hid hx
      have hneq := neq_cls x.a x.b x.c x.d
      clear hx hnot
      by_cases hho : headOk x
      · obtain ⟨g1, p3, p4, p5⟩ := hho
        have har := arity_k x.k
        rw [show kindV x.k = true by simp [kindV, g1]] at har
        have HHO : Hid (NdOk k x ↔ ∀ q ∈ x.kids, 0 ≤ q ∧ q < (k : Int)) := Lib.hid ⟨fun h => h.kids, fun h => ⟨g1, p3, p4, p5, h⟩⟩
        have q3 : ¬ (x.kids.length : Int) < lowV x.k := by omega
        have q4 : ¬ highV x.k < (x.kids.length : Int) := by omega
        have hz : x.k = 2 ∨ (¬ x.k = 2 ∧ (!decide (x.a = 0 ∧ x.b = 0 ∧ x.c = 0 ∧ x.d = 0)) = false) := by
          by_cases h : x.k = 2
          · exact .inl h
          · exact .inr ⟨h, by rw [decide_eq_true (p5 h)]; rfl⟩
        have HCB : Hid ((kidsOf (r.take k)).length ≤ 512000000) := Lib.hid (by
          have h1 := kidsOf_len 512 (r.take k) (fun y hy => by
            obtain ⟨i, hi⟩ := List.getElem?_of_mem hy
            rw [List.getElem?_take] at hi
            split at hi
            · rename_i hik
              have := (hnd.out i y hik hi).high
              have := high_le y.k
              omega
            · cases hi)
          have h2 : (r.take k).length ≤ 512 := by rw [List.length_take]; omega
          have h3 : (r.take k).length * 512 ≤ 512 * 512 := Nat.mul_le_mul_right _ h2
          omega)
        have hkl : x.kids.length ≤ 512 := by have := high_le x.k; omega
        generalize x.k = xk at *
        generalize lowV xk = lo at *
        generalize highV xk = hi at *
        clear p3 p4 g1 p5
        generalize (!decide (x.a = 0 ∧ x.b = 0 ∧ x.c = 0 ∧ x.d = 0)) = zb at *
        have HBR : Hid (∀ vs t, Below U w (wr.alloc (.cells vs t))) := Lib.hid (fun vs t => hB.alloc (by have := hB.size; have := HU.out; omega) _)
        have HUR : Hid (∀ vs t, IRow (wr.alloc (.cells vs t)) U (usedL n (kidsOf (r.take k)))) := Lib.hid (fun vs t => hUr.below ((Below.refl _ wr).alloc (Nat.le_refl _) _) hUr.lt)
        generalize kidsOf (r.take k) = ks at *
        rcases hz with rfl | ⟨hk2, rfl⟩
        all_goals
          go_wp2_with (go_at_call 27; refine (har _).mono ?_; rintro e Wd ⟨rfl, rfl⟩)
          generalize hwa : wr.alloc (.cells _ 45) = wa
          have hBa : Below U w wa := hwa ▸ HBR.out _ _
          have hUa : IRow wa U (usedL n ks) := hwa ▸ HUR.out _ _
          clear hwa
          go_loopw [66] (fun i wr => ∃ m : Nat, m ≤ x.kids.length ∧ i = .int .i64 m ∧ IRow wr U (usedL n (ks ++ x.kids.take m)) ∧ Hid (∀ q ∈ x.kids.take m, 0 ≤ q ∧ q < (k : Int)) ∧ Below U w wr)
            (fun i _ => x.kids.length - (intOf i).toNat)
          case atStart => exact ⟨0, Nat.zero_le _, rfl, by rw [List.take_zero, List.append_nil]; exact hUa, Lib.hid (by simp), hBa⟩
          case round =>
            obtain ⟨m, hm, rfl, hUi, hqs, hBi⟩ := hrel
            by_cases hml : m < x.kids.length
            · obtain ⟨q, hq⟩ : ∃ q, x.kids[m]? = some q := ⟨_, List.getElem?_eq_getElem hml⟩
              cases lk with
              | none => exfalso; have := hK1 rfl; rw [this] at hml; simp at hml
              | some ad =>
              obtain ⟨B2, off2, rfl, hB2, hKc⟩ := hK2 _ rfl (by intro e; rw [e] at hml; simp at hml)
              have hB2U : B2 < U := by rw [HU.out]; exact hB2
              have d0 := (hBi.cell (p := ⟨B2, off2 + m, none⟩) hB2U).trans (hKc m q hq)
              have hm0 : (0 : Int) ≤ (m : Int) := by omega
              have hm1 : (m : Int) < (x.kids.length : Int) := by omega
              have HTM : Hid (x.kids.take (m + 1) = x.kids.take m ++ [q]) := Lib.hid (by rw [List.take_add_one, hq]; rfl)
              have HQM : Hid (q ∈ x.kids) := Lib.hid (List.mem_of_getElem? hq)
              clear hq hKc hK1 hK2
              by_cases hqk : 0 ≤ q ∧ q < (k : Int)
              · obtain ⟨j, rfl⟩ : ∃ j : Nat, q = (j : Int) := ⟨q.toNat, by omega⟩
                have hj : j < n := by omega
                have hget := usedL_get n (ks ++ x.kids.take m) j hj
                have e0 := hUi.at j _ hget
                have fr := hUi.frozen j
                have hj0 : (j : Int).toNat = j := by omega
                have hj1 : (j : Int) < (n : Int) := by omega
                have hcb : (((ks ++ x.kids.take m).count (j : Int) : Nat) : Int) ≤ 600000000 := by
                  have h1 := List.count_le_length (a := (j : Int)) (l := ks ++ x.kids.take m)
                  have h2 := HCB.out
                  rw [List.length_append, List.length_take] at h1
                  omega
                have HPUT := Lib.hid (usedL_put n (ks ++ x.kids.take m) j hj)
                have HSET : ∀ cn : Int, Hid (IRow (wr.setCell ⟨U, j, none⟩ (.int .i64 cn)) U ((usedL n (ks ++ x.kids.take m)).set j cn)) := fun cn => Lib.hid (hUi.set j cn)
                have HBS : ∀ cn : Int, Hid (Below U w (wr.setCell ⟨U, j, none⟩ (.int .i64 cn))) := fun cn => Lib.hid (hBi.setCell (p := ⟨U, j, none⟩) (Nat.le_refl _) _)
                have HQK := Lib.hid hqk
                have hq0 : (0 : Int) ≤ (j : Int) := by omega
                have hq1 : (j : Int) < (k : Int) := hqk.2
                clear hget hqk
                generalize hcc : (((ks ++ x.kids.take m).count (j : Int) : Nat) : Int) = cc at *
                have hc0 : 0 ≤ cc := by omega
                clear hcc
                go_wp2
                go_roundw
                case rel =>
                  refine ⟨m + 1, by omega, by simp, ?_, Lib.hid ?_, (HBS _).out⟩
                  · rw [HTM.out, ← List.append_assoc, ← HPUT.out]; exact (HSET _).out
                  · rw [HTM.out]; intro y hy; rcases List.mem_append.1 hy with hy | hy
                    · exact hqs.out y hy
                    · simp at hy; subst hy; exact HQK.out
                case measure => simp [intOf]; omega
              · have HC2 : Hid (cv = 2) := Lib.hid ((HNO.out (fun h => hqk (HHO.out.1 h q HQM.out))).out)
                have hqb : q < 0 ∨ (0 ≤ q ∧ (k : Int) ≤ q) := by omega
                clear hqk
                have HBI : Hid (Below w.heap.size w wr) := Lib.hid (by rw [← HU.out]; exact hBi)
                rcases hqb with hq0 | ⟨hq0, hq1⟩
                all_goals
                  go_wp2
                  exact bodyPost_ret (v := .int .i64 2) (by simp [results, Tryd.results10, go_sem]) rfl ⟨by rw [HC2.out], HBI.out⟩
            · obtain rfl : m = x.kids.length := by omega
              have hUd : IRow wr U (usedL n (kidsOf (r.take (k + 1)))) := by rw [HT.out]; rw [List.take_length] at hUi; exact hUi
              have HND : Hid (NdOk k x) := Lib.hid (HHO.out.2 (by have := hqs.out; rwa [List.take_length] at this))
              go_wp2
              go_roundw
              case rel =>
                refine ⟨k + 1, by omega, by simp, hUd, Lib.hid ?_, hBi⟩
                intro i y hi hy
                by_cases e : i = k
                · subst e; rw [HX.out] at hy; cases hy; exact HND.out
                · exact hnd.out i y (by omega) hy
              case measure => simp [intOf]; omega
      · have HC2 : Hid (cv = 2) := Lib.hid ((HNO.out (fun h => hho ⟨h.k, h.low, h.high, h.cls⟩)).out)
        have HBr : Hid (∀ vs t, Below w.heap.size w (wr.alloc (.cells vs t))) := Lib.hid (fun vs t => by rw [← HU.out]; exact hB.alloc (by have := hB.size; have := HU.out; omega) _)
        have hak : ∃ lo hi, lo = lowV x.k ∧ hi = highV x.k := ⟨_, _, rfl, rfl⟩
        obtain ⟨lo, hi, hlo, hhi⟩ := hak
        have har := arity_k x.k
        rw [← hlo, ← hhi] at har
        unfold headOk at hho
        rw [← hlo, ← hhi] at hho
        have hkv : kindV x.k = decide (1 ≤ x.k ∧ x.k ≤ 7) := by simp [kindV]
        rw [hkv] at har
        clear hlo hhi hkv
        by_cases g1 : 1 ≤ x.k ∧ x.k ≤ 7
        · rw [decide_eq_true g1] at har
          have H1 := Lib.hid g1
          by_cases g2 : (x.kids.length : Int) < lo
          · clear hho g1
            go_wp2_with (go_at_call 27; refine (har _).mono ?_; rintro e Wd ⟨rfl, rfl⟩)
            all_goals exact bodyPost_ret (v := .int .i64 2) (by simp [results, Tryd.results10, go_sem]) rfl ⟨by rw [HC2.out], HBr.out _ _⟩
          · by_cases g3 : hi < (x.kids.length : Int)
            · clear hho g1
              go_wp2_with (go_at_call 27; refine (har _).mono ?_; rintro e Wd ⟨rfl, rfl⟩)
              all_goals exact bodyPost_ret (v := .int .i64 2) (by simp [results, Tryd.results10, go_sem]) rfl ⟨by rw [HC2.out], HBr.out _ _⟩
            · have g4 : x.k ≠ 2 ∧ ¬ (x.a = 0 ∧ x.b = 0 ∧ x.c = 0 ∧ x.d = 0) := by
                refine ⟨fun h => hho ⟨g1, by omega, by omega, fun h' => (h' h).elim⟩, fun h => hho ⟨g1, by omega, by omega, fun _ => h⟩⟩
              obtain ⟨g5, g6⟩ := g4
              rw [decide_eq_false g6] at hneq
              clear hho g1 g6
              go_wp2_with (go_at_call 27; refine (har _).mono ?_; rintro e Wd ⟨rfl, rfl⟩)
              all_goals first | exact bodyPost_ret (v := .int .i64 2) (by simp [results, Tryd.results10, go_sem]) rfl ⟨by rw [HC2.out], HBr.out _ _⟩ | (exfalso; rename_i hxx; exact g5 (by have := hxx.2; simpa using this))
        · rw [decide_eq_false g1] at har
          clear hho g1
          go_wp2_with (go_at_call 27; refine (har _).mono ?_; rintro e Wd ⟨rfl, rfl⟩)
          all_goals exact bodyPost_ret (v := .int .i64 2) (by simp [results, Tryd.results10, go_sem]) rfl ⟨by rw [HC2.out], HBr.out _ _⟩
    · obtain rfl : k = n := by omega
      have htk : r.take k = r := by rw [HNn.out, List.take_length]
      rw [htk] at hUr
      have hcon := contains_k U (k - 1) k (usedL k (kidsOf r)) (by rw [usedL_len]; omega) (by rw [usedL_len]; omega) wr hUr
      have hm : ((k : Int) - 1).toNat = k - 1 := by omega
      have hget : ∀ j, j < k - 1 → (usedL k (kidsOf r))[j]? = some (((kidsOf r).count (j : Int) : Nat) : Int) := fun j hj => usedL_get _ _ j (by omega)
      clear htk hnot
      by_cases hE : ∃ x ∈ (usedL k (kidsOf r)).take (k - 1), x ≠ 1
      · have HC2 : Hid (cv = 2) := Lib.hid (by
          rw [← HCV.out]
          refine if_neg (fun h => ?_)
          obtain ⟨x, hx, hx1⟩ := hE
          obtain ⟨j, hj⟩ := List.getElem?_of_mem hx
          rw [List.getElem?_take] at hj
          split at hj
          · rename_i hjk
            rw [hget j hjk] at hj
            have := h.once j (by have := HNn.out; omega)
            have := Option.some.inj hj
            omega
          · cases hj)
        rw [decide_eq_true hE] at hcon
        clear hE hget
        go_wp2_with (go_at_call 28; refine hcon.mono ?_; rintro e Wd ⟨rfl, rfl⟩)
        exact bodyPost_ret (v := .int .i64 2) (by simp [results, Tryd.results10, go_sem]) rfl ⟨by rw [HC2.out], by rw [← HU.out]; exact hB⟩
      · have HC2 : Hid (cv = 0) := Lib.hid (by
          rw [← HCV.out]
          refine if_pos ⟨by rw [← HNn.out]; exact hn1, by rw [← HNn.out]; exact hn2, fun i x hx => hnd.out i x (by have := lt_of_some hx; have := HNn.out; omega) hx, fun j hj => ?_⟩
          have hjk : j < k - 1 := by have := HNn.out; omega
          have h1 : ((((kidsOf r).count (j : Int) : Nat) : Int)) = 1 := by
            refine Classical.byContradiction fun h1 => hE ⟨_, ?_, h1⟩
            refine List.mem_of_getElem? (i := j) ?_
            rw [List.getElem?_take, if_pos hjk, hget j hjk]
          omega)
        rw [decide_eq_false hE] at hcon
        clear hE hget
        go_wp2_with (go_at_call 28; refine hcon.mono ?_; rintro e Wd ⟨rfl, rfl⟩)
        exact bodyPost_ret (v := .int .i64 0) (by simp [results, Tryd.results10, go_sem]) rfl ⟨by rw [HC2.out], by rw [← HU.out]; exact hB⟩
end Go.Proofs.YtpbkgegkjglibaaDoor
