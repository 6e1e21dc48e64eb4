/- Regex: the reader, plain: what it makes is a row that may be, and tells a tree. -/
import Derived.Test.YtpbkgegkjglibaaDoorR10
import Derived.Test.YtpbkgegkjglibaaDoorA8
namespace Go.Proofs.YtpbkgegkjglibaaDoor
open Go
/-- A node without its parts. -/
structure H5 where
  k : Int
  w : C4
def h5 (k : Int) : H5 := ⟨k, .zero⟩
abbrev Fr (α : Type) := List α × List α
section
variable {σ α : Type} (mk : σ → H5 → List α → σ × α)
def manyG (st : σ) (k : Int) : List α → σ × α
  | [] => mk st (h5 1) []
  | [x] => (st, x)
  | x :: y :: l => mk st (h5 k) (x :: y :: l)
def shutG (st : σ) (A I : List α) : σ × α := manyG mk (manyG mk st 3 I).1 4 (A ++ [(manyG mk st 3 I).2])
end
/-- Nodes in a row, told by their places. -/
def mkI (r : List Nd) (h : H5) (l : List Int) : List Nd × Int := (r ++ [⟨h.k, h.w.a, h.w.b, h.w.c, h.w.d, l⟩], (r.length : Int))
/-- A node's head: its kind, class, number of parts. -/
structure Cd where
  k : Int
  w : C4
  n : Nat
/-- Trees, told by what stands at their nodes, a node's ahead of its parts'. -/
def mkC (_ : Unit) (h : H5) (l : List (List Cd)) : Unit × List Cd := ((), ⟨h.k, h.w, l.length⟩ :: l.flatten)
end Go.Proofs.YtpbkgegkjglibaaDoor

namespace Go.Proofs.YtpbkgegkjglibaaDoor
open Go
section
variable {σ α : Type} (mk : σ → H5 → List α → σ × α)
structure Ms (σ α : Type) where
  st : σ
  a : Nat
  e : Int
  A : List α
  I : List α
  f : List (Fr α)
def againG (x : Ms σ α) (k : Int) : Ms σ α :=
  match x.I.getLast? with
  | none => { x with e := 7 }
  | some y => { x with st := (mk x.st (h5 k) [y]).1, a := x.a + 1, I := x.I.dropLast ++ [(mk x.st (h5 k) [y]).2] }
def stepG (s : ByteArray) (x : Ms σ α) : Ms σ α :=
  if byteI s x.a = 124 then { x with st := (manyG mk x.st 3 x.I).1, a := x.a + 1, A := x.A ++ [(manyG mk x.st 3 x.I).2], I := [] }
  else if byteI s x.a = 40 then { x with a := x.a + 1, A := [], I := [], f := (x.A, x.I) :: x.f }
  else if byteI s x.a = 41 then
    match x.f with
    | [] => { x with e := 7 }
    | (B, J) :: f => ⟨(shutG mk x.st x.A x.I).1, x.a + 1, x.e, B, J ++ [(shutG mk x.st x.A x.I).2], f⟩
  else if byteI s x.a = 93 then { x with e := 7 }
  else if byteI s x.a = 42 then againG mk x 5
  else if byteI s x.a = 43 then againG mk x 6
  else if byteI s x.a = 63 then againG mk x 7
  else
    let t := thingV s (x.a + 1) (byteI s x.a)
    { x with st := (mk x.st ⟨2, t.1⟩ []).1, a := t.2.1, e := t.2.2, I := x.I ++ [(mk x.st ⟨2, t.1⟩ []).2] }
def begG (st : σ) : Ms σ α := ⟨st, 0, 0, [], [], []⟩
inductive Reach (s : ByteArray) : Ms σ α → Ms σ α → Prop where
  | refl (x : Ms σ α) : Reach s x x
  | more {x y : Ms σ α} : Reach s x y → moreV s.size y.a y.e = true → Reach s x (stepG mk s y)
end
end Go.Proofs.YtpbkgegkjglibaaDoor

namespace Go.Proofs.YtpbkgegkjglibaaDoor
open Go
def hdC (x : Nd) : Cd := ⟨x.k, ⟨x.a, x.b, x.c, x.d⟩, x.kids.length⟩
def codesK (acc : List (List Cd)) (x : Nd) : List (List Cd) := acc ++ [hdC x :: x.kids.flatMap (fun k => acc.getD k.toNat [])]
def codesOf (r : List Nd) : List (List Cd) := r.foldl codesK []
def codeAt (r : List Nd) (k : Int) : List Cd := (codesOf r).getD k.toNat []
theorem codes_snoc (r : List Nd) (x : Nd) : codesOf (r ++ [x]) = codesOf r ++ [hdC x :: x.kids.flatMap (codeAt r)] := by
  unfold codesOf
  rw [List.foldl_append]
  rfl
theorem codes_len_aux : ∀ (r : List Nd) (acc : List (List Cd)), (r.foldl codesK acc).length = acc.length + r.length
  | [], acc => rfl
  | x :: r, acc => by
    rw [List.foldl_cons, codes_len_aux r, List.length_cons]
    simp [codesK]
    omega
theorem codes_len (r : List Nd) : (codesOf r).length = r.length := by
  unfold codesOf
  rw [codes_len_aux]
  simp
theorem code_lt (r : List Nd) (x : Nd) (k : Int) (h : 0 ≤ k ∧ k < r.length) : codeAt (r ++ [x]) k = codeAt r k := by
  unfold codeAt
  rw [codes_snoc, List.getD_eq_getElem?_getD, List.getElem?_append_left (by rw [codes_len]; omega), List.getD_eq_getElem?_getD]
theorem code_new (r : List Nd) (x : Nd) : codeAt (r ++ [x]) (r.length : Int) = hdC x :: x.kids.flatMap (codeAt r) := by
  unfold codeAt
  rw [codes_snoc, List.getD_eq_getElem?_getD, List.getElem?_append_right (by rw [codes_len]; omega), codes_len, Int.toNat_natCast, Nat.sub_self]
  rfl
theorem code_ext (r : List Nd) (k : Int) (h : 0 ≤ k ∧ k < r.length) : ∀ t : List Nd, codeAt (r ++ t) k = codeAt r k := by
  intro t
  induction t generalizing r with
  | nil => rw [List.append_nil]
  | cons x t ih =>
    rw [show r ++ x :: t = (r ++ [x]) ++ t by simp, ih _ (by simp; omega), code_lt _ _ _ h]
/-- A tree of a row. -/
def codeOf (r : List Nd) : List Cd := codeAt r ((r.length : Int) - 1)
def inR (r : List Nd) (l : List Int) : Prop := ∀ k ∈ l, 0 ≤ k ∧ k < r.length
theorem mkI_ext (r : List Nd) (h : H5) (l : List Int) : ∃ t, (mkI r h l).1 = r ++ t := ⟨_, rfl⟩
theorem many_ext (r : List Nd) (k : Int) (l : List Int) : ∃ t, (manyG mkI r k l).1 = r ++ t := by
  match l with
  | [] => exact ⟨_, rfl⟩
  | [x] => exact ⟨[], by simp [manyG]⟩
  | x :: y :: l => exact ⟨_, rfl⟩
theorem mk_code (r : List Nd) (h : H5) (l : List Int) : codeAt (mkI r h l).1 (mkI r h l).2 = (mkC () h (l.map (codeAt r))).2 := by
  show codeAt (r ++ [_]) (r.length : Int) = _
  rw [code_new]
  simp [mkC, hdC, List.flatMap]
theorem many_code (r : List Nd) (k : Int) (l : List Int) (h : inR r l) : codeAt (manyG mkI r k l).1 (manyG mkI r k l).2 = (manyG mkC () k (l.map (codeAt r))).2 := by
  match l with
  | [] => exact mk_code r _ []
  | [x] => rfl
  | x :: y :: l => exact mk_code r _ _
theorem ext_map {r r' : List Nd} (h : ∃ t, r' = r ++ t) {l : List Int} (hl : inR r l) : l.map (codeAt r') = l.map (codeAt r) := by
  obtain ⟨t, rfl⟩ := h
  exact List.map_congr_left fun k hk => code_ext r k (hl k hk) t
theorem inR_ext {r r' : List Nd} (h : ∃ t, r' = r ++ t) {l : List Int} (hl : inR r l) : inR r' l := by
  obtain ⟨t, rfl⟩ := h
  intro k hk
  have := hl k hk
  simp; omega
theorem many_in (r : List Nd) (k : Int) (l : List Int) (h : inR r l) : inR (manyG mkI r k l).1 [(manyG mkI r k l).2] := by
  match l with
  | [] => intro j hj; rw [List.mem_singleton.1 hj]; simp only [manyG, mkI, List.length_append, List.length_singleton]; omega
  | [x] => exact h
  | x :: y :: l => intro j hj; rw [List.mem_singleton.1 hj]; simp only [manyG, mkI, List.length_append, List.length_singleton]; omega
theorem ext_trans {r r' r'' : List Nd} (h : ∃ t, r' = r ++ t) (g : ∃ t, r'' = r' ++ t) : ∃ t, r'' = r ++ t := by
  obtain ⟨t, rfl⟩ := h
  obtain ⟨u, rfl⟩ := g
  exact ⟨t ++ u, by simp⟩
theorem inR_app {r : List Nd} {l m : List Int} (h : inR r l) (g : inR r m) : inR r (l ++ m) := fun k hk => by
  rcases List.mem_append.1 hk with hk | hk
  · exact h k hk
  · exact g k hk
theorem inR_left {r : List Nd} {l m : List Int} (h : inR r (l ++ m)) : inR r l := fun k hk => h k (List.mem_append_left _ hk)
theorem inR_right {r : List Nd} {l m : List Int} (h : inR r (l ++ m)) : inR r m := fun k hk => h k (List.mem_append_right _ hk)
theorem shut_ext (r : List Nd) (A I : List Int) : ∃ t, (shutG mkI r A I).1 = r ++ t := ext_trans (many_ext r 3 I) (many_ext _ _ _)
theorem shut_code (r : List Nd) (A I : List Int) (hA : inR r A) (hI : inR r I) : codeAt (shutG mkI r A I).1 (shutG mkI r A I).2 = (shutG mkC () (A.map (codeAt r)) (I.map (codeAt r))).2 := by
  unfold shutG
  rw [many_code _ _ _ (inR_app (inR_ext (many_ext r 3 I) hA) (many_in r 3 I hI)), List.map_append, ext_map (many_ext r 3 I) hA, List.map_cons, List.map_nil, many_code r 3 I hI]
def frIn (r : List Nd) (f : Fr Int) : Prop := inR r f.1 ∧ inR r f.2
def absF (r : List Nd) (f : Fr Int) : Fr (List Cd) := (f.1.map (codeAt r), f.2.map (codeAt r))
def absM (x : Ms (List Nd) Int) : Ms Unit (List Cd) := ⟨(), x.a, x.e, x.A.map (codeAt x.st), x.I.map (codeAt x.st), x.f.map (absF x.st)⟩
def rootsM (x : Ms (List Nd) Int) : List Int := x.A ++ x.I ++ x.f.flatMap (fun f => f.1 ++ f.2)
theorem roots_in {x : Ms (List Nd) Int} (h : inR x.st (rootsM x)) : inR x.st x.A ∧ inR x.st x.I ∧ ∀ f ∈ x.f, frIn x.st f :=
  ⟨inR_left (inR_left h), inR_right (inR_left h), fun f hf => ⟨fun k hk => h k (List.mem_append_right _ (List.mem_flatMap.2 ⟨f, hf, List.mem_append_left _ hk⟩)), fun k hk => h k (List.mem_append_right _ (List.mem_flatMap.2 ⟨f, hf, List.mem_append_right _ hk⟩))⟩⟩
theorem absF_ext {r r' : List Nd} (h : ∃ t, r' = r ++ t) {f : List (Fr Int)} (hf : ∀ y ∈ f, frIn r y) : f.map (absF r') = f.map (absF r) :=
  List.map_congr_left fun y hy => by unfold absF; rw [ext_map h (hf y hy).1, ext_map h (hf y hy).2]
theorem again_abs (x : Ms (List Nd) Int) (k : Int) (h : inR x.st (rootsM x)) : absM (againG mkI x k) = againG mkC (absM x) k := by
  obtain ⟨hA, hI, hf⟩ := roots_in h
  unfold againG
  cases e : x.I.getLast? with
  | none => simp only [absM, List.getLast?_map, e, Option.map_none]
  | some y =>
    have hext := mkI_ext x.st (h5 k) [y]
    simp only [absM, List.getLast?_map, e, Option.map_some, Ms.mk.injEq, true_and]
    refine ⟨ext_map hext hA, ?_, absF_ext hext hf⟩
    rw [List.map_append, ext_map hext (fun q hq => hI q (List.dropLast_subset _ hq)), List.map_dropLast, List.map_cons, List.map_nil, mk_code]
    rfl
theorem step_abs (s : ByteArray) (x : Ms (List Nd) Int) (h : inR x.st (rootsM x)) : absM (stepG mkI s x) = stepG mkC s (absM x) := by
  obtain ⟨hA, hI, hf⟩ := roots_in h
  have ea : (absM x).a = x.a := rfl
  unfold stepG
  rw [ea]
  split
  · have hext := many_ext x.st 3 x.I
    simp only [absM, Ms.mk.injEq, true_and]
    refine ⟨?_, rfl, absF_ext hext hf⟩
    rw [List.map_append, ext_map hext hA, List.map_cons, List.map_nil, many_code _ _ _ hI]
  split
  · simp only [absM, absF, List.map_cons, List.map_nil]
  split
  · cases e : x.f with
    | nil => simp only [absM, e, List.map_nil]
    | cons y f =>
      obtain ⟨B, J⟩ := y
      have hext := shut_ext x.st x.A x.I
      have hy := hf (B, J) (by rw [e]; exact List.mem_cons_self ..)
      simp only [absM, e, List.map_cons, absF, Ms.mk.injEq, true_and]
      refine ⟨ext_map hext hy.1, ?_, absF_ext hext (fun z hz => hf z (by rw [e]; exact List.mem_cons_of_mem _ hz))⟩
      rw [List.map_append, ext_map hext hy.2, List.map_cons, List.map_nil, shut_code _ _ _ hA hI]
  split
  · rfl
  split
  · exact again_abs x 5 h
  split
  · exact again_abs x 6 h
  split
  · exact again_abs x 7 h
  · have hext := mkI_ext x.st ⟨2, (thingV s (x.a + 1) (byteI s x.a)).1⟩ []
    simp only [absM, Ms.mk.injEq, true_and]
    refine ⟨ext_map hext hA, ?_, absF_ext hext hf⟩
    rw [List.map_append, ext_map hext hI, List.map_cons, List.map_nil, mk_code]
    rfl
-- a row of trees
theorem Forest.perm {out : List Nd} {R R' : List Int} (h : Forest out R) (p : R.Perm R') : Forest out R' :=
  ⟨h.nd, fun j hj => by rw [← p.count_eq]; exact h.one j hj, fun k hk => h.roots k (p.mem_iff.2 hk)⟩
theorem Forest.inR {out : List Nd} {R : List Int} (h : Forest out R) : inR out R := h.roots
theorem Forest.put {out : List Nd} {h : H5} {l rest : List Int} (H : Forest out (l ++ rest)) (hk : 1 ≤ h.k ∧ h.k ≤ 7) (hl : lowV h.k ≤ l.length) (hh : (l.length : Int) ≤ highV h.k) (hc : h.k ≠ 2 → h.w = .zero) : Forest (mkI out h l).1 ((mkI out h l).2 :: rest) := by
  unfold mkI
  refine ⟨?_, ?_, ?_⟩
  · intro i x hx
    by_cases hi : i < out.length
    · rw [List.getElem?_append_left hi] at hx
      exact H.nd i x hx
    · rw [List.getElem?_append_right (by omega)] at hx
      by_cases e : i = out.length
      · subst e
        simp at hx
        subst hx
        exact ⟨hk, hl, hh, fun hn => by rw [hc hn]; exact ⟨rfl, rfl, rfl, rfl⟩, fun k hk => H.roots k (List.mem_append_left _ hk)⟩
      · rw [List.getElem?_eq_none (by simp; omega)] at hx; simp at hx
  · intro j hj
    simp only [List.length_append, List.length_singleton] at hj
    rw [kidsOf_append, List.count_append, List.count_cons]
    have e1 : (kidsOf [(⟨h.k, h.w.a, h.w.b, h.w.c, h.w.d, l⟩ : Nd)]) = l := by simp [kidsOf]
    rw [e1]
    by_cases hi : j < out.length
    · have := H.one j hi
      rw [List.count_append] at this
      rw [if_neg (by simp; omega)]
      omega
    · obtain rfl : j = out.length := by omega
      have h1 : (kidsOf out).count (out.length : Int) = 0 := List.count_eq_zero_of_not_mem (fun hm => by
        have := kids_bound (n := 0) (fun i x hx => by simpa using H.nd i x hx) _ hm
        omega)
      have h2 : l.count (out.length : Int) = 0 := List.count_eq_zero_of_not_mem (fun hm => by have := H.roots _ (List.mem_append_left _ hm); omega)
      have h3 : rest.count (out.length : Int) = 0 := List.count_eq_zero_of_not_mem (fun hm => by have := H.roots _ (List.mem_append_right _ hm); omega)
      rw [h1, h2, h3, if_pos (by simp)]
  · intro k hk
    simp only [List.mem_cons, List.length_append, List.length_singleton] at hk ⊢
    rcases hk with rfl | hk
    · omega
    · have := H.roots k (List.mem_append_right _ hk)
      omega
theorem Forest.many {out : List Nd} {l rest : List Int} (H : Forest out (l ++ rest)) (k : Int) (hk : k = 3 ∨ k = 4) (hl : l.length ≤ 512) : Forest (manyG mkI out k l).1 ((manyG mkI out k l).2 :: rest) ∧ (manyG mkI out k l).1.length ≤ out.length + 1 := by
  match l with
  | [] => exact ⟨H.put (h := h5 1) (by decide) (by decide) (by decide) (fun _ => rfl), by simp [manyG, mkI]⟩
  | [x] => exact ⟨H, by simp [manyG]⟩
  | x :: y :: l =>
    refine ⟨H.put (h := h5 k) ?_ ?_ ?_ (fun _ => rfl), by simp [manyG, mkI]⟩
    · rcases hk with rfl | rfl <;> decide
    · rcases hk with rfl | rfl <;> simp [h5, lowV] <;> omega
    · rcases hk with rfl | rfl <;> simp [h5, highV] <;> simp at hl <;> omega
theorem Forest.shutF {out : List Nd} {A I rest : List Int} (H : Forest out (A ++ I ++ rest)) (hA : A.length ≤ 511) (hI : I.length ≤ 512) : Forest (shutG mkI out A I).1 ((shutG mkI out A I).2 :: rest) ∧ (shutG mkI out A I).1.length ≤ out.length + 2 := by
  obtain ⟨h1, h2⟩ := (H.perm (R' := I ++ (A ++ rest)) (by rw [← List.append_assoc]; exact List.Perm.append_right _ List.perm_append_comm)).many 3 (.inl rfl) hI
  obtain ⟨h3, h4⟩ := (h1.perm (R' := (A ++ [(manyG mkI out 3 I).2]) ++ rest) (by
    rw [List.append_assoc, List.singleton_append]; exact List.perm_middle.symm)).many 4 (.inr rfl) (by simp; omega)
  exact ⟨h3, by unfold shutG; omega⟩
/-- What the reader keeps while it reads without an error. -/
structure MsOk (s : ByteArray) (x : Ms (List Nd) Int) : Prop where
  fo : Forest x.st (rootsM x)
  rl : (rootsM x).length ≤ x.a
  sl : x.st.length ≤ 2 * x.a
  al : x.a ≤ s.size
  fl : x.f.length ≤ x.a
theorem thing_out (s : ByteArray) (a : Nat) (c : Int) (ha : a ≤ s.size) : (thingV s a c).1.Wd ∧ (thingV s a c).2.1 ≤ s.size ∧ ((thingV s a c).2.2 = 0 → a ≤ (thingV s a c).2.1) := by
  unfold thingV
  split
  · unfold classV
    obtain ⟨nt, hnt⟩ : ∃ nt, nt = (moreV s.size a 0 && (byteI s a == 94)) := ⟨_, rfl⟩
    obtain ⟨a1, ha1⟩ : ∃ a1, a1 = (if nt then a + 1 else a) := ⟨_, rfl⟩
    have h1 : a ≤ a1 ∧ a1 ≤ s.size := by
      rw [ha1]
      cases nt with
      | false => simp; exact ha
      | true =>
        have : moreV s.size a 0 = true := by
          have := hnt.symm
          rw [Bool.and_eq_true] at this
          exact this.1
        have := (more_iff.1 this).2
        simp; omega
    simp only [← hnt, ← ha1]
    obtain ⟨g1, g2, g3⟩ := clsL_out s (s.size - a1) a1 0 .zero h1.2 C4.wd_zero
    split
    · rename_i hm
      have hm := more_iff.1 hm
      refine ⟨?_, hm.2, fun _ => ?_⟩
      · cases nt <;> simp [g2, g2.not]
      · have := g3 (by omega) hm.1
        show a ≤ _ + 1
        omega
    · refine ⟨g2, ?_, fun h => ?_⟩
      · show (if _ then _ else _) ≤ _
        split <;> omega
      · exfalso
        simp only at h
        split at h
        · cases h
        · exact absurd h (by assumption)
  split
  · exact ⟨(C4.wd_ofL _).not, ha, fun _ => Nat.le_refl _⟩
  split
  · obtain ⟨v, k, e, h1, h2, h3, h4⟩ := escape_out s a ha
    rw [h1]
    exact ⟨C4.wd_ofL _, h3, fun h => by have := h4 h; simp; omega⟩
  · exact ⟨C4.wd_ofL _, ha, fun _ => Nat.le_refl _⟩
theorem beg_ok (s : ByteArray) : MsOk s (begG []) := ⟨⟨fun i x h => by simp [begG] at h, fun j h => by simp [begG] at h, fun k h => by simp [rootsM, begG] at h⟩, by simp [rootsM, begG], by simp [begG], Nat.zero_le _, by simp [begG]⟩
theorem last_split {α : Type} {l : List α} {y : α} (h : l.getLast? = some y) : l = l.dropLast ++ [y] := by
  have hne : l ≠ [] := by rintro rfl; simp at h
  rw [List.getLast?_eq_some_getLast hne] at h
  have := List.dropLast_concat_getLast hne
  rw [Option.some.inj h] at this
  exact this.symm
theorem again_ok {s : ByteArray} {x : Ms (List Nd) Int} (h : MsOk s x) (hal : x.a < s.size) (k : Int) (hk : k = 5 ∨ k = 6 ∨ k = 7) (he : (againG mkI x k).e = 0) : MsOk s (againG mkI x k) := by
  unfold againG at he ⊢
  cases e : x.I.getLast? with
  | none => simp [e] at he
  | some y =>
    simp only
    have hs := last_split e
    obtain ⟨D, hD⟩ : ∃ D, D = x.I.dropLast := ⟨_, rfl⟩
    rw [← hD] at hs ⊢
    have hfo := h.fo
    have hrl := h.rl
    unfold rootsM at hfo hrl
    rw [hs] at hfo hrl
    have hp : Forest x.st ([y] ++ (x.A ++ D ++ x.f.flatMap (fun f => f.1 ++ f.2))) := hfo.perm (by
      rw [← List.append_assoc x.A D [y], List.append_assoc (x.A ++ D) [y], List.singleton_append]
      exact List.perm_middle)
    have h1 := hp.put (h := h5 k) (by rcases hk with rfl | rfl | rfl <;> simp [h5]) (by rcases hk with rfl | rfl | rfl <;> simp [h5, lowV]) (by rcases hk with rfl | rfl | rfl <;> simp [h5, highV]) (fun _ => rfl)
    refine ⟨?_, ?_, ?_, hal, Nat.le_succ_of_le h.fl⟩
    · show Forest (mkI x.st (h5 k) [y]).1 (x.A ++ (D ++ [(mkI x.st (h5 k) [y]).2]) ++ x.f.flatMap (fun f => f.1 ++ f.2))
      refine h1.perm ?_
      rw [← List.append_assoc x.A D, List.append_assoc (x.A ++ D) [_], List.singleton_append]
      exact List.perm_middle.symm
    · show (x.A ++ (D ++ [(mkI x.st (h5 k) [y]).2]) ++ x.f.flatMap (fun f => f.1 ++ f.2)).length ≤ x.a + 1
      simp only [List.length_append, List.length_singleton] at hrl ⊢
      omega
    · show (mkI x.st (h5 k) [y]).1.length ≤ 2 * (x.a + 1)
      have := h.sl
      simp [mkI]; omega
theorem step_ok {s : ByteArray} {x : Ms (List Nd) Int} (h : MsOk s x) (hs : s.size ≤ 256) (hal : x.a < s.size) (_he : x.e = 0) (he2 : (stepG mkI s x).e = 0) : MsOk s (stepG mkI s x) := by
  have hfo := h.fo
  have hrl := h.rl
  have hsl := h.sl
  unfold rootsM at hfo hrl
  simp only [List.length_append] at hrl
  unfold stepG at he2 ⊢
  split
  · obtain ⟨h1, h2⟩ := (hfo.perm (R' := x.I ++ (x.A ++ x.f.flatMap (fun f => f.1 ++ f.2))) (by rw [← List.append_assoc]; exact List.Perm.append_right _ List.perm_append_comm)).many 3 (.inl rfl) (by omega)
    refine ⟨h1.perm ?_, ?_, ?_, hal, Nat.le_succ_of_le h.fl⟩
    · simp only [rootsM, List.append_nil]
      rw [List.append_assoc, List.singleton_append]
      exact List.perm_middle.symm
    · simp [rootsM] at hrl ⊢; omega
    · show (manyG mkI x.st 3 x.I).1.length ≤ 2 * (x.a + 1)
      omega
  rw [if_neg (by assumption)] at he2
  split
  · refine ⟨?_, ?_, ?_, hal, Nat.succ_le_succ h.fl⟩
    · simpa [rootsM] using hfo
    · simp [rootsM] at hrl ⊢; omega
    · show _ ≤ 2 * (x.a + 1)
      have : x.st.length ≤ 2 * x.a := hsl
      show x.st.length ≤ _
      omega
  rw [if_neg (by assumption)] at he2
  split
  · rw [if_pos (by assumption)] at he2
    cases e : x.f with
    | nil => rw [e] at he2; simp at he2
    | cons y f =>
      obtain ⟨B, J⟩ := y
      simp only
      rw [e] at hfo hrl
      obtain ⟨h1, h2⟩ := hfo.shutF (by omega) (by omega)
      refine ⟨h1.perm ?_, ?_, ?_, hal, by have := h.fl; rw [e] at this; simp at this ⊢; omega⟩
      · simp only [rootsM, List.flatMap_cons]
        rw [← List.append_assoc B J [_], List.append_assoc (B ++ J) [_], List.singleton_append]
        exact List.perm_middle.symm
      · simp [rootsM] at hrl ⊢; omega
      · show (shutG mkI x.st x.A x.I).1.length ≤ 2 * (x.a + 1)
        omega
  rw [if_neg (by assumption)] at he2
  split
  · rw [if_pos (by assumption)] at he2; cases he2
  rw [if_neg (by assumption)] at he2
  split
  · rw [if_pos (by assumption)] at he2
    exact again_ok h hal 5 (.inl rfl) he2
  rw [if_neg (by assumption)] at he2
  split
  · rw [if_pos (by assumption)] at he2
    exact again_ok h hal 6 (.inr (.inl rfl)) he2
  rw [if_neg (by assumption)] at he2
  split
  · rw [if_pos (by assumption)] at he2
    exact again_ok h hal 7 (.inr (.inr rfl)) he2
  rw [if_neg (by assumption)] at he2
  obtain ⟨t1, t2, t3⟩ := thing_out s (x.a + 1) (byteI s x.a) hal
  have t3 := t3 he2
  have hp : Forest x.st ([] ++ (x.A ++ x.I ++ x.f.flatMap (fun f => f.1 ++ f.2))) := hfo
  have h1 := hp.put (h := ⟨2, (thingV s (x.a + 1) (byteI s x.a)).1⟩) (by simp) (by simp [lowV]) (by simp [highV]) (fun h => absurd rfl h)
  refine ⟨h1.perm ?_, ?_, ?_, t2, by have := h.fl; show x.f.length ≤ (thingV s (x.a + 1) (byteI s x.a)).2.1; omega⟩
  · simp only [rootsM]
    rw [← List.append_assoc x.A x.I, List.append_assoc (x.A ++ x.I) [_], List.singleton_append]
    exact List.perm_middle.symm
  · simp only [rootsM, List.length_append, List.length_singleton]
    omega
  · simp only [mkI, List.length_append, List.length_singleton]
    omega
end Go.Proofs.YtpbkgegkjglibaaDoor
