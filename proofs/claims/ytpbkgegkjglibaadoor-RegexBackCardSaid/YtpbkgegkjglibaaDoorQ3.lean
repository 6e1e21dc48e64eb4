/- Regex, plain: the order of a tree's nodes. -/
import Derived.Test.YtpbkgegkjglibaaDoorQ2
namespace Go.Proofs.YtpbkgegkjglibaaDoor
open Go
def preK (acc : List (List Int)) (x : Nd) : List (List Int) := acc ++ [(acc.length : Int) :: x.kids.flatMap (fun k => acc.getD k.toNat [])]
def presOf (r : List Nd) : List (List Int) := r.foldl preK []
/-- A node's place, and then its parts', from the left to the right. -/
def preI (r : List Nd) (k : Int) : List Int := (presOf r).getD k.toNat []
theorem pres_len_aux : ∀ (r : List Nd) (acc : List (List Int)), (r.foldl preK acc).length = acc.length + r.length
  | [], acc => rfl
  | x :: r, acc => by
    rw [List.foldl_cons, pres_len_aux r, List.length_cons]
    simp [preK]
    omega
theorem pres_len (r : List Nd) : (presOf r).length = r.length := by
  unfold presOf
  rw [pres_len_aux]
  simp
theorem pres_snoc (r : List Nd) (x : Nd) : presOf (r ++ [x]) = presOf r ++ [(r.length : Int) :: x.kids.flatMap (preI r)] := by
  have h := pres_len r
  unfold presOf at h ⊢
  rw [List.foldl_append]
  show r.foldl preK [] ++ [((r.foldl preK []).length : Int) :: x.kids.flatMap (fun k => (r.foldl preK []).getD k.toNat [])] = _
  rw [h]
  rfl
theorem pre_ext (r : List Nd) (k : Int) (h : 0 ≤ k ∧ k < r.length) : ∀ t : List Nd, preI (r ++ t) k = preI r k := by
  intro t
  induction t generalizing r with
  | nil => rw [List.append_nil]
  | cons x t ih =>
    rw [show r ++ x :: t = (r ++ [x]) ++ t by simp, ih _ (by simp; omega)]
    unfold preI
    rw [pres_snoc, List.getD_eq_getElem?_getD, List.getElem?_append_left (by rw [pres_len]; omega), List.getD_eq_getElem?_getD]
theorem split_at {r : List Nd} {i : Nat} {x : Nd} (hx : r[i]? = some x) : ∃ t, r = (r.take i ++ [x]) ++ t ∧ (r.take i).length = i := by
  have hi := (List.getElem?_eq_some_iff.1 hx).1
  have hx' := (List.getElem?_eq_some_iff.1 hx).2
  refine ⟨r.drop (i + 1), ?_, by rw [List.length_take]; omega⟩
  rw [← hx', List.append_assoc, List.singleton_append, List.getElem_cons_drop, List.take_append_drop]
theorem pre_eq {r : List Nd} {i : Nat} {x : Nd} (hx : r[i]? = some x) (hk : ∀ k ∈ x.kids, 0 ≤ k ∧ k < (i : Int)) : preI r (i : Int) = (i : Int) :: x.kids.flatMap (preI r) := by
  obtain ⟨t, ht, hl⟩ := split_at hx
  generalize r.take i = p at ht hl
  subst ht
  have h1 : preI (p ++ [x] ++ t) (i : Int) = preI (p ++ [x]) (i : Int) := pre_ext _ _ (by simp; omega) t
  have h2 : preI (p ++ [x]) (i : Int) = (i : Int) :: x.kids.flatMap (preI p) := by
    unfold preI
    rw [pres_snoc, List.getD_eq_getElem?_getD, List.getElem?_append_right (by rw [pres_len]; omega), pres_len, hl]
    simp
    rfl
  rw [h1, h2]
  congr 1
  rw [List.flatMap_def, List.flatMap_def]
  congr 1
  refine List.map_congr_left fun k hk' => ?_
  have := hk k hk'
  rw [List.append_assoc, pre_ext p k (by omega)]
theorem code_eq {r : List Nd} {i : Nat} {x : Nd} (hx : r[i]? = some x) (hk : ∀ k ∈ x.kids, 0 ≤ k ∧ k < (i : Int)) : codeAt r (i : Int) = hdC x :: x.kids.flatMap (codeAt r) := by
  obtain ⟨t, ht, hl⟩ := split_at hx
  generalize r.take i = p at ht hl
  subst ht
  rw [code_ext (p ++ [x]) _ (by simp; omega) t, ← hl, code_new]
  congr 1
  rw [List.flatMap_def, List.flatMap_def]
  congr 1
  refine List.map_congr_left fun k hk' => ?_
  have := hk k hk'
  rw [List.append_assoc, code_ext p k (by omega)]
def hdAt (r : List Nd) (j : Int) : Cd := hdC (r.getD j.toNat default)
theorem pre_code {r : List Nd} (ok : ∀ i x, r[i]? = some x → NdOk i x) : ∀ (n i : Nat), i < n → i < r.length → (preI r (i : Int)).map (hdAt r) = codeAt r (i : Int)
  | 0, _, h, _ => absurd h (Nat.not_lt_zero _)
  | n + 1, i, h, hi => by
    obtain ⟨x, hx⟩ : ∃ x, r[i]? = some x := ⟨_, List.getElem?_eq_getElem hi⟩
    have hk := (ok i x hx).kids
    rw [pre_eq hx hk, code_eq hx hk, List.map_cons]
    have h0 : hdAt r (i : Int) = hdC x := by
      unfold hdAt
      rw [List.getD_eq_getElem?_getD, Int.toNat_natCast, hx]
      rfl
    rw [h0]
    congr 1
    rw [List.map_flatMap, List.flatMap_def, List.flatMap_def]
    congr 1
    refine List.map_congr_left fun k hk' => ?_
    have h1 := hk k hk'
    obtain ⟨j, rfl⟩ : ∃ j : Nat, k = (j : Int) := ⟨k.toNat, by omega⟩
    exact pre_code ok n j (by omega) (by omega)
theorem pre_mem {r : List Nd} (ok : ∀ i x, r[i]? = some x → NdOk i x) : ∀ (n i : Nat), i < n → i < r.length → ∀ j ∈ preI r (i : Int), 0 ≤ j ∧ j < r.length
  | 0, _, h, _ => absurd h (Nat.not_lt_zero _)
  | n + 1, i, h, hi => by
    obtain ⟨x, hx⟩ : ∃ x, r[i]? = some x := ⟨_, List.getElem?_eq_getElem hi⟩
    have hk := (ok i x hx).kids
    rw [pre_eq hx hk]
    intro j hj
    rcases List.mem_cons.1 hj with rfl | hj
    · omega
    · obtain ⟨k, hk', hj⟩ := List.mem_flatMap.1 hj
      have h1 := hk k hk'
      obtain ⟨q, rfl⟩ : ∃ q : Nat, k = (q : Int) := ⟨k.toNat, by omega⟩
      exact pre_mem ok n q (by omega) (by omega) j hj
-- how many there are
def sm (f : Nat → Nat) : Nat → Nat
  | 0 => 0
  | n + 1 => sm f n + f n
def sk (f : Nat → Nat) : List Int → Nat
  | [] => 0
  | k :: ks => f k.toNat + sk f ks
theorem sk_append (f : Nat → Nat) : ∀ a b : List Int, sk f (a ++ b) = sk f a + sk f b
  | [], b => by simp [sk]
  | k :: a, b => by rw [List.cons_append, sk, sk, sk_append f a b]; omega
theorem sm_congr {f g : Nat → Nat} : ∀ n, (∀ j, j < n → f j = g j) → sm f n = sm g n
  | 0, _ => rfl
  | n + 1, h => by rw [sm, sm, sm_congr n (fun j hj => h j (by omega)), h n (Nat.lt_succ_self n)]
theorem sm_delta (f : Nat → Nat) (c : Nat → Nat) (k : Nat) : ∀ n, sm (fun j => (c j + if k = j then 1 else 0) * f j) n = sm (fun j => c j * f j) n + if k < n then f k else 0
  | 0 => by simp [sm]
  | n + 1 => by
    rw [sm, sm, sm_delta f c k n]
    by_cases h1 : k < n
    · have h2 : ¬ k = n := by omega
      have h3 : k < n + 1 := by omega
      simp only [if_pos h1, if_neg h2, if_pos h3, Nat.add_zero]
      omega
    · by_cases h2 : k = n
      · have h3 : k < n + 1 := by omega
        simp only [if_neg h1, if_pos h2, if_pos h3]
        rw [Nat.add_mul, Nat.one_mul, h2]
        omega
      · have h3 : ¬ k < n + 1 := by omega
        simp only [if_neg h1, if_neg h2, if_neg h3, Nat.add_zero]
theorem sk_count (f : Nat → Nat) (n : Nat) : ∀ ks : List Int, (∀ k ∈ ks, 0 ≤ k ∧ k < n) → sk f ks = sm (fun j => ks.count (j : Int) * f j) n
  | [], _ => by
    have : ∀ n, sm (fun j => List.count (j : Int) [] * f j) n = 0 := by
      intro n
      induction n with
      | zero => rfl
      | succ n ih => rw [sm, ih]; simp
    rw [this]; rfl
  | k :: ks, h => by
    have hk := h k (List.mem_cons_self ..)
    rw [sk, sk_count f n ks (fun q hq => h q (List.mem_cons_of_mem _ hq))]
    rw [show sm (fun j => (k :: ks).count (j : Int) * f j) n = sm (fun j => (ks.count (j : Int) + if k.toNat = j then 1 else 0) * f j) n from sm_congr n fun j _ => by
      congr 1
      rw [List.count_cons]
      congr 1
      by_cases e : k.toNat = j
      · rw [if_pos e, if_pos (by simp; omega)]
      · rw [if_neg e, if_neg (by simp; omega)]]
    rw [sm_delta, if_pos (by omega)]
    omega
theorem flat_sk (f : Int → List Int) : ∀ ks : List Int, (∀ k ∈ ks, 0 ≤ k) → (ks.flatMap f).length = sk (fun j => (f (j : Int)).length) ks
  | [], _ => rfl
  | k :: ks, h => by
    have hk := h k (List.mem_cons_self ..)
    rw [List.flatMap_cons, List.length_append, sk, flat_sk f ks (fun q hq => h q (List.mem_cons_of_mem _ hq)), Int.toNat_of_nonneg hk]
theorem pre_sum {r : List Nd} (ok : ∀ i x, r[i]? = some x → NdOk i x) : ∀ m, m ≤ r.length → sm (fun j => (preI r (j : Int)).length) m = m + sk (fun j => (preI r (j : Int)).length) (kidsOf (r.take m))
  | 0, _ => by simp [sm, kidsOf, sk]
  | m + 1, h => by
    obtain ⟨x, hx⟩ : ∃ x, r[m]? = some x := ⟨_, List.getElem?_eq_getElem (by omega)⟩
    have hk := (ok m x hx).kids
    rw [sm, pre_sum ok m (by omega), pre_eq hx hk, kidsOf_take r m x hx, sk_append, List.length_cons, flat_sk _ x.kids (fun k hk' => (hk k hk').1)]
    omega
theorem pre_len {r : List Nd} (ok : RxOk r) : (preI r ((r.length : Int) - 1)).length = r.length := by
  obtain ⟨n, hn⟩ : ∃ n, r.length = n + 1 := ⟨r.length - 1, by have := ok.one; omega⟩
  have h1 := pre_sum ok.nd r.length (Nat.le_refl _)
  have hb := kids_bound (n := 0) (fun i x hx => by simpa using ok.nd i x hx)
  rw [List.take_length, sk_count _ r.length _ (fun k hk => by have := hb k hk; omega), hn, sm, sm] at h1
  have hz : (kidsOf r).count (n : Int) = 0 := List.count_eq_zero_of_not_mem (fun hm => by have := hb _ hm; omega)
  rw [hz, Nat.zero_mul, Nat.add_zero] at h1
  have h2 : sm (fun j => (kidsOf r).count (j : Int) * (preI r (j : Int)).length) n = sm (fun j => (preI r (j : Int)).length) n := sm_congr n fun j hj => by
    rw [ok.once j (by omega), Nat.one_mul]
  rw [h2] at h1
  rw [show ((r.length : Int) - 1) = (n : Int) by omega]
  omega
/-- Are they the same? -/
def SameV (a b : List Nd) : Prop := RxOk a ∧ RxOk b ∧ codeOf a = codeOf b
end Go.Proofs.YtpbkgegkjglibaaDoor
