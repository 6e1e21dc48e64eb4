/- Regex: how long texts may be. -/
import Derived.Test.YtpbkgegkjglibaaDoorU16
import Derived.Test.YtpbkgegkjglibaaDoorU13
namespace Go.Proofs.YtpbkgegkjglibaaDoor
open Go
theorem textOf_eq (r : List Nd) : textOf r = tx r ((r.length - 1 : Nat) : Int) := by
  unfold textOf
  rw [List.getLastD_eq_getLast?, List.getLast?_eq_getElem?, txs_len]
  unfold tx
  rw [Int.toNat_natCast, List.getD_eq_getElem?_getD]
theorem at_self (t : List UInt8) : At ⟨t.toArray⟩ 0 t := by
  refine ⟨by show 0 + t.length ≤ t.toArray.size; simp, fun j hj => ?_⟩
  have h : 0 + j < (⟨t.toArray⟩ : ByteArray).size := by show 0 + j < t.toArray.size; simpa using hj
  rw [byteI_eq _ _ h]
  have e : (⟨t.toArray⟩ : ByteArray)[0 + j] = t[j] := by
    show t.toArray[0 + j]'_ = _
    simp
  rw [e]
theorem text_fin {r : List Nd} (ok : RxOk r) (wd' : ∀ x ∈ r, x.Wd) : ∃ A I, Fin2 ⟨(textOf r).toArray⟩ A I ∧ endC A I = codeOf r := by
  have h1 := ok.one
  obtain ⟨A, I, hr, he⟩ := (node_read ok wd' r.length (r.length - 1) (by omega) (by omega)).fresh ⟨(textOf r).toArray⟩ 0 [] (by rw [← textOf_eq]; exact at_self _)
  refine ⟨A, I, ?_, ?_⟩
  · rw [← textOf_eq, Nat.zero_add] at hr
    exact hr
  · rw [he]
    unfold codeOf
    congr 1
    omega
theorem forest_len {out : List Nd} {k : Int} (h : Forest out [k]) (h1 : 1 ≤ out.length) : (codeAt out k).length = out.length := by
  obtain ⟨n, hn⟩ : ∃ n, out.length = n + 1 := ⟨out.length - 1, by omega⟩
  have hk := root_last h h1
  have hp := pre_sum h.nd out.length (Nat.le_refl _)
  have hb := kids_bound (n := 0) (fun i x hx => by simpa using h.nd i x hx)
  rw [List.take_length, sk_count _ out.length _ (fun k hk => by have := hb k hk; omega), hn, sm, sm] at hp
  have hz : (kidsOf out).count (n : Int) = 0 := List.count_eq_zero_of_not_mem (fun hm => by have := hb _ hm; omega)
  rw [hz, Nat.zero_mul, Nat.add_zero] at hp
  have honce : ∀ j : Nat, j + 1 < out.length → (kidsOf out).count (j : Int) = 1 := fun j hj => by
    have h2 := h.one j (by omega)
    have h4 : [k].count (j : Int) = 0 := List.count_eq_zero_of_not_mem (fun hm => by
      have := List.mem_singleton.1 hm
      omega)
    omega
  have h2 : sm (fun j => (kidsOf out).count (j : Int) * (preI out (j : Int)).length) n = sm (fun j => (preI out (j : Int)).length) n := sm_congr n fun j hj => by
    rw [honce j (by omega), Nat.one_mul]
  rw [h2] at hp
  have hc := pre_code h.nd out.length n (by omega) (by omega)
  rw [hk, show ((out.length : Int) - 1) = (n : Int) by omega, ← hc, List.length_map]
  omega
theorem mkI_wd {r : List Nd} {h : H5} {l : List Int} (hw : h.w.Wd) (hr : ∀ y ∈ r, y.Wd) : ∀ y ∈ (mkI r h l).1, y.Wd := fun y hy => by
  unfold mkI at hy
  rcases List.mem_append.1 hy with hy | hy
  · exact hr y hy
  · rw [List.mem_singleton.1 hy]
    exact ⟨hw.a, hw.b, hw.c, hw.d⟩
theorem many_wd {r : List Nd} {k : Int} {l : List Int} (hr : ∀ y ∈ r, y.Wd) : ∀ y ∈ (manyG mkI r k l).1, y.Wd := by
  match l with
  | [] => exact mkI_wd C4.wd_zero hr
  | [_] => exact hr
  | _ :: _ :: _ => exact mkI_wd C4.wd_zero hr
theorem shut_wd {r : List Nd} {A I : List Int} (hr : ∀ y ∈ r, y.Wd) : ∀ y ∈ (shutG mkI r A I).1, y.Wd := many_wd (many_wd hr)
theorem again_wd {x : Ms (List Nd) Int} {k : Int} (hr : ∀ y ∈ x.st, y.Wd) : ∀ y ∈ (againG mkI x k).st, y.Wd := by
  unfold againG
  split
  · exact hr
  · exact mkI_wd C4.wd_zero hr
theorem step_wd {s : ByteArray} {x : Ms (List Nd) Int} (hm : moreV s.size x.a x.e = true) (hr : ∀ y ∈ x.st, y.Wd) : ∀ y ∈ (stepG mkI s x).st, y.Wd := by
  have hal := (more_iff.1 hm).2
  unfold stepG
  split
  · exact many_wd hr
  split
  · exact hr
  split
  · split
    · exact hr
    · exact shut_wd hr
  split
  · exact hr
  split
  · exact again_wd hr
  split
  · exact again_wd hr
  split
  · exact again_wd hr
  · exact mkI_wd (thing_out s (x.a + 1) _ (by omega)).1 hr
theorem reach_wd {s : ByteArray} {b x : Ms (List Nd) Int} (h : Reach mkI s b x) (hb : ∀ y ∈ b.st, y.Wd) : ∀ y ∈ x.st, y.Wd := by
  induction h with
  | refl => exact hb
  | more _ hm ih => exact step_wd hm ih
theorem read_fin {s : ByteArray} (hs : s.size ≤ 256) {A I : List (List Cd)} (hfin : Fin2 s A I) (hl : (endC A I).length ≤ 512) {x : Ms (List Nd) Int} (h : Reads s x) : (outE s x).2 = 0 ∧ RxOk (rowOf x) ∧ codeOf (rowOf x) = endC A I ∧ ∀ y ∈ rowOf x, y.Wd := by
  obtain ⟨hr, hm, hok⟩ := h
  have h1 := (reach_ok hs hr).2
  have h2 := fin_uniq h1 hfin (by show ¬ moreV s.size x.a x.e = true; rw [hm]; simp) (by rw [more_iff]; rintro ⟨_, h⟩; exact Nat.lt_irrefl _ h)
  have he : x.e = 0 := congrArg Ms.e h2
  have hf : x.f = [] := by
    have := congrArg Ms.f h2
    exact List.map_eq_nil_iff.1 this
  have ho : (outE s x).2 = 0 := by
    unfold outE
    rw [if_pos hf]
    exact he
  have hk := hok he
  have hA : x.A.map (codeAt x.st) = A := congrArg Ms.A h2
  have hI : x.I.map (codeAt x.st) = I := congrArg Ms.I h2
  have hfo := hk.fo
  have hrl := hk.rl
  have hsl := hk.sl
  have hal := hk.al
  unfold rootsM at hfo hrl
  rw [hf] at hfo hrl
  simp only [List.flatMap_nil, List.append_nil, List.length_append] at hfo hrl
  obtain ⟨g1, g2⟩ := (hfo.perm (R' := x.A ++ x.I ++ []) (by rw [List.append_nil])).shutF (by omega) (by omega)
  have hk2 := g1.roots _ (List.mem_cons_self ..)
  have hone : 1 ≤ (shutG mkI x.st x.A x.I).1.length := by omega
  have hcode : codeAt (shutG mkI x.st x.A x.I).1 (shutG mkI x.st x.A x.I).2 = endC A I := by
    rw [← hA, ← hI]
    exact shut_code _ _ _ (inR_left hfo.inR) (inR_right hfo.inR)
  have hlen := forest_len g1 hone
  rw [hcode] at hlen
  have hrow : RxOk (rowOf x) := forest_ok g1 (by show (shutG mkI x.st x.A x.I).1.length ≤ 512; rw [← hlen]; exact hl)
  refine ⟨ho, hrow, ?_, ?_⟩
  · unfold codeOf
    rw [show ((rowOf x).length : Int) - 1 = (shutG mkI x.st x.A x.I).2 from (root_last g1 hone).symm]
    exact hcode
  · exact shut_wd (reach_wd hr (fun y hy => by cases hy))
/-- Trees' codes are told apart; so are the texts. -/
theorem code_split {a b : List Nd} (oka : RxOk a) (okb : RxOk b) : ∀ (n i : Nat), i < n → i < a.length → ∀ j : Nat, j < b.length → ∀ s t : List Cd, codeAt a (i : Int) ++ s = codeAt b (j : Int) ++ t → s = t ∧ kd a (i : Int) = kd b (j : Int) ∧ tx a (i : Int) = tx b (j : Int)
  | 0, _, h, _, _, _, _, _, _ => absurd h (Nat.not_lt_zero _)
  | n + 1, i, hin, hi, j, hj, s, t, h => by
    obtain ⟨x, hx⟩ : ∃ x, a[i]? = some x := ⟨_, List.getElem?_eq_getElem hi⟩
    obtain ⟨y, hy⟩ : ∃ y, b[j]? = some y := ⟨_, List.getElem?_eq_getElem hj⟩
    have hnx := oka.nd i x hx
    have hny := okb.nd j y hy
    obtain ⟨e1, e2⟩ := tx_eq a i x hx hnx.kids
    obtain ⟨f1, f2⟩ := tx_eq b j y hy hny.kids
    rw [code_eq hx hnx.kids, code_eq hy hny.kids, List.cons_append, List.cons_append] at h
    obtain ⟨hh, ht⟩ := List.cons.inj h
    have hk : x.k = y.k := congrArg Cd.k hh
    have hw : (⟨x.a, x.b, x.c, x.d⟩ : C4) = ⟨y.a, y.b, y.c, y.d⟩ := congrArg Cd.w hh
    have hl : x.kids.length = y.kids.length := congrArg Cd.n hh
    have main : ∀ (l1 l2 : List Int), l1.length = l2.length → (∀ k ∈ l1, 0 ≤ k ∧ k < (i : Int)) → (∀ k ∈ l2, 0 ≤ k ∧ k < (j : Int)) → ∀ s t : List Cd, l1.flatMap (codeAt a) ++ s = l2.flatMap (codeAt b) ++ t → s = t ∧ ∀ p, l1.map (kidT (txs a) p) = l2.map (kidT (txs b) p) := by
      intro l1
      induction l1 with
      | nil =>
        intro l2 hl _ _ s t h
        obtain rfl : l2 = [] := List.eq_nil_of_length_eq_zero (by rw [← hl]; rfl)
        exact ⟨h, fun _ => rfl⟩
      | cons k1 l1 ih =>
        intro l2 hl h1 h2 s t h
        match l2, hl with
        | k2 :: l2, hl =>
          have g1 := h1 k1 (List.mem_cons_self ..)
          have g2 := h2 k2 (List.mem_cons_self ..)
          obtain ⟨m1, rfl⟩ : ∃ m : Nat, k1 = (m : Int) := ⟨k1.toNat, by omega⟩
          obtain ⟨m2, rfl⟩ : ∃ m : Nat, k2 = (m : Int) := ⟨k2.toNat, by omega⟩
          simp only [List.flatMap_cons, List.append_assoc] at h
          obtain ⟨q1, q2, q3⟩ := code_split oka okb n m1 (by omega) (by omega) m2 (by omega) _ _ h
          obtain ⟨q4, q5⟩ := ih l2 (by simpa using hl) (fun k hk => h1 k (List.mem_cons_of_mem _ hk)) (fun k hk => h2 k (List.mem_cons_of_mem _ hk)) s t q1
          refine ⟨q4, fun p => ?_⟩
          rw [List.map_cons, List.map_cons, q5 p]
          congr 1
          unfold kd at q2
          unfold tx at q3
          unfold kidT
          rw [q2, q3]
    obtain ⟨m1, m2⟩ := main x.kids y.kids hl hnx.kids hny.kids s t ht
    refine ⟨m1, by rw [e1, f1, hk], ?_⟩
    rw [e2, f2]
    obtain ⟨w1, w2, w3, w4⟩ : x.a = y.a ∧ x.b = y.b ∧ x.c = y.c ∧ x.d = y.d := by
      injection hw with w1 w2 w3 w4
      exact ⟨w1, w2, w3, w4⟩
    unfold nodeT clsT
    rw [hk, m2 y.k, w1, w2, w3, w4]
theorem text_code {a b : List Nd} (oka : RxOk a) (okb : RxOk b) (h : codeOf a = codeOf b) : textOf a = textOf b := by
  have ha := oka.one
  have hb := okb.one
  unfold codeOf at h
  rw [show (a.length : Int) - 1 = ((a.length - 1 : Nat) : Int) by omega, show (b.length : Int) - 1 = ((b.length - 1 : Nat) : Int) by omega] at h
  have := code_split oka okb a.length (a.length - 1) (by omega) (by omega) (b.length - 1) (by omega) [] [] (by rw [List.append_nil, List.append_nil, h])
  rw [textOf_eq, textOf_eq]
  exact this.2.2
theorem leaf_code {a b : List Nd} (oka : RxOk a) (okb : RxOk b) (h : codeOf a = codeOf b) : leafV a = leafV b := by
  have e : ∀ {r : List Nd}, RxOk r → leafV r = (codeOf r).filterMap clsC := fun {r} ok => by
    have h1 := ok.one
    unfold leafV codeOf
    rw [show (r.length : Int) - 1 = ((r.length - 1 : Nat) : Int) by omega, pre_code ok.nd r.length (r.length - 1) (by omega) (by omega)]
  rw [e oka, e okb, h]
theorem code_len {r : List Nd} (ok : RxOk r) : (codeOf r).length = r.length := by
  have h1 := ok.one
  unfold codeOf
  rw [show (r.length : Int) - 1 = ((r.length - 1 : Nat) : Int) by omega, ← pre_code ok.nd r.length (r.length - 1) (by omega) (by omega), List.length_map]
  have := pre_len ok
  rw [show (r.length : Int) - 1 = ((r.length - 1 : Nat) : Int) by omega] at this
  exact this
end Go.Proofs.YtpbkgegkjglibaaDoor

namespace Go.Proofs.YtpbkgegkjglibaaDoor
open Go
theorem sm_le {f g : Nat → Nat} : ∀ n, (∀ j, j < n → f j ≤ g j) → sm f n ≤ sm g n
  | 0, _ => Nat.le_refl _
  | n + 1, h => Nat.add_le_add (sm_le n fun j hj => h j (by omega)) (h n (by omega))
theorem pre_le {r : List Nd} (ok : RxOk r) (i : Nat) (hi : i < r.length) : (preI r (i : Int)).length ≤ i + 1 := by
  have hp := pre_sum ok.nd (i + 1) (by omega)
  have hb := kids_bound (out := r.take (i + 1)) (n := 0) (fun j x hx => by
    rw [List.getElem?_take] at hx
    split at hx
    · simpa using ok.nd j x hx
    · cases hx)
  have hlen : (r.take (i + 1)).length = i + 1 := by rw [List.length_take]; omega
  rw [sk_count _ i _ (fun k hk => by have := hb k hk; omega)] at hp
  have hle : sm (fun j => (kidsOf (r.take (i + 1))).count (j : Int) * (preI r (j : Int)).length) i ≤ sm (fun j => (preI r (j : Int)).length) i := sm_le i fun j hj => by
    have h1 := ok.once j (by omega)
    have h2 : (kidsOf (r.take (i + 1))).count (j : Int) ≤ (kidsOf r).count (j : Int) := by
      conv => rhs; rw [← List.take_append_drop (i + 1) r]
      unfold kidsOf
      rw [List.flatMap_append, List.count_append]
      omega
    have h3 : (kidsOf (r.take (i + 1))).count (j : Int) ≤ 1 := by omega
    exact Nat.le_trans (Nat.mul_le_mul_right _ h3) (by rw [Nat.one_mul]; exact Nat.le_refl _)
  rw [sm] at hp
  omega
theorem code_le {r : List Nd} (ok : RxOk r) (i : Nat) (hi : i < r.length) : (codeAt r (i : Int)).length ≤ r.length := by
  rw [← pre_code ok.nd r.length i (by omega) hi, List.length_map]
  have := pre_le ok i hi
  omega
theorem ctx_len : ∀ (m : Nat) (l : List UInt8), l.length ≤ m → (ctx l.length l).length ≤ 9 * l.length
  | 0, l, h => by
    obtain rfl : l = [] := List.eq_nil_of_length_eq_zero (by omega)
    exact Nat.le_refl _
  | m + 1, l, h => by
    by_cases hl : l = []
    · subst hl; exact Nat.le_refl _
    · have h1 := rl_pos l hl
      have h2 := piece_len l
      have h3 := ctx_len m (l.drop (rl l)) (by rw [List.length_drop]; omega)
      rw [ctx_step l hl, List.length_append]
      have h4 : (List.drop (rl l) l).length = l.length - rl l := List.length_drop
      rw [h4] at h3 ⊢
      omega
theorem clsT_len (x : Nd) : (clsT x).length ≤ 2400 := by
  unfold clsT ctV
  have h256 : ((bytesB x.a x.b x.c x.d).map UInt8.ofNat).length ≤ 256 := by rw [List.length_map]; exact upB_len _ _ _ _ _
  generalize (bytesB x.a x.b x.c x.d).map UInt8.ofNat = L at *
  have := ctx_len L.length L (Nat.le_refl _)
  split
  · show L.toArray.toList.length ≤ 2400
    simp; omega
  · show (91 :: (ctx L.length L ++ [93])).toArray.toList.length ≤ 2400
    simp; omega
theorem join_le (l : List (List UInt8)) (sep : List UInt8) (hs : sep.length ≤ 1) : (Lib.join l sep).length ≤ (l.map (fun x => x.length + 1)).sum := by
  cases l with
  | nil => exact Nat.le_refl _
  | cons x r =>
    rw [Lib.join_cons, List.length_append, List.map_cons, List.sum_cons]
    have h : ∀ r : List (List UInt8), (Lib.joinTail sep r).length ≤ (r.map (fun x => x.length + 1)).sum := fun r => by
      induction r with
      | nil => exact Nat.le_refl _
      | cons y r ih =>
        have e : Lib.joinTail sep (y :: r) = (sep ++ y) ++ Lib.joinTail sep r := by unfold Lib.joinTail; simp
        rw [e, List.length_append, List.length_append, List.map_cons, List.sum_cons]
        omega
    have := h r
    omega
theorem tx_len {r : List Nd} (ok : RxOk r) : ∀ (n i : Nat), i < n → i < r.length → (tx r (i : Int)).length + 3 ≤ 3000 * (codeAt r (i : Int)).length
  | 0, _, h, _ => absurd h (Nat.not_lt_zero _)
  | n + 1, i, hin, hi => by
    obtain ⟨x, hx⟩ : ∃ x, r[i]? = some x := ⟨_, List.getElem?_eq_getElem hi⟩
    have hnd := ok.nd i x hx
    obtain ⟨_, htx⟩ := tx_eq r i x hx hnd.kids
    rw [code_eq hx hnd.kids, htx, List.length_cons]
    have hkids : ∀ (p : Int) (l : List Int), (∀ k ∈ l, 0 ≤ k ∧ k < (i : Int)) → ((l.map (kidT (txs r) p)).map (fun x => x.length + 1)).sum ≤ 3000 * (l.flatMap (codeAt r)).length := by
      intro p l
      induction l with
      | nil => intro _; exact Nat.zero_le _
      | cons k l ih =>
        intro h
        have h1 := h k (List.mem_cons_self ..)
        obtain ⟨m, rfl⟩ : ∃ m : Nat, k = (m : Int) := ⟨k.toNat, by omega⟩
        have h2 := tx_len ok n m (by omega) (by omega)
        have h3 := ih (fun k hk => h k (List.mem_cons_of_mem _ hk))
        have h4 : (kidT (txs r) p (m : Int)).length ≤ (tx r (m : Int)).length + 2 := by
          unfold kidT tx
          split
          · rw [List.length_cons, List.length_append, List.length_singleton]; exact Nat.le_refl _
          · exact Nat.le_add_right _ _
        rw [List.map_cons, List.map_cons, List.sum_cons, List.flatMap_cons, List.length_append]
        omega
    have hk := hkids x.k x.kids hnd.kids
    have hb : (behV x.k).length ≤ 1 := by unfold behV; split <;> (try split) <;> (try split) <;> simp
    have hc := clsT_len x
    have h1 := join_le (x.kids.map (kidT (txs r) x.k)) [124] (by simp)
    have h2 := join_le (x.kids.map (kidT (txs r) x.k)) [] (by simp)
    unfold nodeT
    split
    · simp; omega
    split
    · omega
    split
    · omega
    · rw [List.length_append]; omega
theorem text_bound {r : List Nd} (ok : RxOk r) (hl : r.length ≤ 60) : ∀ i x, r[i]? = some x → (nodeT (txs (r.take i)) x).length ≤ 1000000 := fun i x hx => by
  have hi := (List.getElem?_eq_some_iff.1 hx).1
  have e := txs_at _ r rfl i x hx
  have h1 := tx_len ok r.length i hi hi
  have h2 := code_le ok i hi
  unfold tx at h1
  rw [Int.toNat_natCast, e] at h1
  dsimp only at h1
  omega
end Go.Proofs.YtpbkgegkjglibaaDoor
