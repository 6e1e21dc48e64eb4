/- Lexer: what is kept over the lexemes. -/
import Derived.Lib.Hide
import Derived.Test.YtefjfbhffmkikaaGreatDoorMm
import Derived.WalkKit
import Derived.ProofKit
import Derived.OpenShut
import Derived.KernelRfl
import Derived.BigQuiet
import Derived.Deep.QuietTactic
import Derived.Test.YtefjfbhffmkikaaGreatDoorRg3
import Derived.RangeFuncBox
import Derived.Test.YtefjfbhffmkikaaGreatDoorRf1
import Derived.WalkMore
import Derived.OwnWalkIn
namespace Go.Proofs.YtefjfbhffmkikaaGreatDoor
/-- The longest lexeme: its rule, its end, how far is looked. -/
def munchF (next rule : List Int) (t : List Nat) : Nat → Nat → Nat → Int → Nat → Int × Nat × Nat
  | 0, i, _, r, to => (r, to, i + 1)
  | f + 1, i, st, r, to => if i < t.length then
      let s := next.getD (256 * st + t.getD i 0) 0
      if s < 0 then (r, to, i + 1) else
      let u := rule.getD s.toNat 0
      if 0 ≤ u then munchF next rule t f (i + 1) s.toNat u (i + 1) else munchF next rule t f (i + 1) s.toNat r to
    else (r, to, i + 1)
/-- A token: kind, from, at, to, ext. -/
structure Tk where
  k : Int
  f : Nat
  a : Nat
  t : Nat
  e : Nat
/-- The lexeme at a place. -/
def lexV (next rule : List Int) (t : List Nat) (at_ : Nat) : Int × Nat × Nat := munchF next rule t (t.length - at_) at_ 0 (-1) (at_ + 1)
def tokF (next rule kind : List Int) (t : List Nat) (from_ : Nat) : Nat → Nat → Nat → Tk
  | 0, _, _ => ⟨-2, from_, t.length, t.length, t.length + 1⟩
  | f + 1, at_, ext => if at_ < t.length then
      let x := lexV next rule t at_
      let k := if x.1 < 0 then -1 else kind.getD x.1.toNat 0
      if x.1 < 0 ∨ 0 ≤ k then ⟨k, from_, at_, x.2.1, max (max ext x.2.2) (x.2.1 + 1)⟩ else tokF next rule kind t from_ f x.2.1 (max ext x.2.2)
    else ⟨-2, from_, t.length, t.length, t.length + 1⟩
/-- The token at a place. -/
def tokV (next rule kind : List Int) (t : List Nat) (at_ : Nat) : Tk := tokF next rule kind t at_ (t.length - at_) at_ 0
/-- The tokens from a place on. -/
def rowF (next rule kind : List Int) (t : List Nat) : Nat → Nat → List Tk
  | 0, at_ => [tokV next rule kind t at_]
  | f + 1, at_ => if (tokV next rule kind t at_).k = -2 then [tokV next rule kind t at_] else tokV next rule kind t at_ :: rowF next rule kind t f (tokV next rule kind t at_).t
def rowV (next rule kind : List Int) (t : List Nat) (at_ : Nat) : List Tk := rowF next rule kind t (t.length - at_) at_

/-- A table and kinds that fit. -/
structure Fits (next rule kind : List Int) (kinds : Int) : Prop where
  r1 : 1 ≤ rule.length
  nl : next.length = 256 * rule.length
  bd : ∀ x ∈ next, -1 ≤ x ∧ x < rule.length
  br : ∀ x ∈ rule, -1 ≤ x ∧ x < 16 ∧ x < kind.length
  bk : ∀ x ∈ kind, -1 ≤ x ∧ x < kinds
  k16 : 0 ≤ kinds ∧ kinds ≤ 16
theorem getD_mem {l : List Int} {i : Nat} (h : i < l.length) : l.getD i 0 ∈ l := by
  rw [show l.getD i 0 = l[i] by simp [h]]
  exact List.getElem_mem h
section
variable {next rule kind : List Int} {kinds : Int} {t : List Nat}
theorem munch_bd (H : Fits next rule kind kinds) (ht : ∀ b ∈ t, b < 256) : ∀ (f i st : Nat) (r : Int) (to : Nat), st < rule.length → f = t.length - i → i ≤ t.length → to ≤ t.length ∨ to ≤ i + 1 → 
    -1 ≤ r → r < 16 → r < kind.length →
    (-1 ≤ (munchF next rule t f i st r to).1 ∧ (munchF next rule t f i st r to).1 < 16 ∧ (munchF next rule t f i st r to).1 < kind.length) ∧ (min to (i + 1) ≤ (munchF next rule t f i st r to).2.1) ∧
      i + 1 ≤ (munchF next rule t f i st r to).2.2 ∧ (munchF next rule t f i st r to).2.2 ≤ t.length + 1
  | 0, i, st, r, to, hst, hf, hi, hto, h1, h2, h3 => by
    unfold munchF
    exact ⟨⟨h1, h2, h3⟩, Nat.min_le_left _ _, Nat.le_refl _, by show i + 1 ≤ t.length + 1; omega⟩
  | f + 1, i, st, r, to, hst, hf, hi, hto, h1, h2, h3 => by
    unfold munchF
    have hlt : i < t.length := by omega
    rw [if_pos hlt]
    have hb : t.getD i 0 < 256 := by
      rw [show t.getD i 0 = t[i] by simp [hlt]]
      exact ht _ (List.getElem_mem hlt)
    have hix : 256 * st + t.getD i 0 < next.length := by have := H.nl; omega
    have hs := H.bd _ (getD_mem hix)
    generalize next.getD (256 * st + t.getD i 0) 0 = s at *
    simp only
    split
    · exact ⟨⟨h1, h2, h3⟩, Nat.min_le_left _ _, Nat.le_refl _, by show i + 1 ≤ t.length + 1; omega⟩
    · rename_i hs0
      have hsl : s.toNat < rule.length := by omega
      have hu := H.br _ (getD_mem hsl)
      generalize rule.getD s.toNat 0 = u at *
      split
      · have := munch_bd H ht f (i + 1) s.toNat u (i + 1) hsl (by omega) (by omega) (.inl (by omega)) (by omega) hu.2.1 hu.2.2
        exact ⟨this.1, by omega, by omega, this.2.2.2⟩
      · have := munch_bd H ht f (i + 1) s.toNat r to hsl (by omega) (by omega) (by omega) h1 h2 h3
        exact ⟨this.1, by omega, by omega, this.2.2.2⟩
theorem munch_to (H : Fits next rule kind kinds) (ht : ∀ b ∈ t, b < 256) : ∀ (f i st : Nat) (r : Int) (to : Nat), st < rule.length → f = t.length - i → to ≤ t.length → (munchF next rule t f i st r to).2.1 ≤ t.length
  | 0, i, st, r, to, hst, hf, hto => by unfold munchF; exact hto
  | f + 1, i, st, r, to, hst, hf, hto => by
    unfold munchF
    have hlt : i < t.length := by omega
    rw [if_pos hlt]
    have hb : t.getD i 0 < 256 := by
      rw [show t.getD i 0 = t[i] by simp [hlt]]
      exact ht _ (List.getElem_mem hlt)
    have hix : 256 * st + t.getD i 0 < next.length := by have := H.nl; omega
    have hs := H.bd _ (getD_mem hix)
    generalize next.getD (256 * st + t.getD i 0) 0 = s at *
    simp only
    split
    · exact hto
    · rename_i hs0
      have hsl : s.toNat < rule.length := by omega
      split
      · exact munch_to H ht f (i + 1) s.toNat _ (i + 1) hsl (by omega) (by omega)
      · exact munch_to H ht f (i + 1) s.toNat r to hsl (by omega) hto
/-- What is known of a lexeme. -/
theorem lex_bd (H : Fits next rule kind kinds) (ht : ∀ b ∈ t, b < 256) {i : Nat} (hi : i < t.length) :
    -1 ≤ (lexV next rule t i).1 ∧ (lexV next rule t i).1 < 16 ∧ (lexV next rule t i).1 < kind.length ∧ i + 1 ≤ (lexV next rule t i).2.1 ∧ (lexV next rule t i).2.1 ≤ t.length ∧ i + 1 ≤ (lexV next rule t i).2.2 ∧ (lexV next rule t i).2.2 ≤ t.length + 1 := by
  have hk : (-1 : Int) < kind.length := by omega
  have h1 := munch_bd H ht (t.length - i) i 0 (-1) (i + 1) (by have := H.r1; omega) rfl (by omega) (.inr (Nat.le_refl _)) (by omega) (by omega) hk
  have h2 := munch_to H ht (t.length - i) i 0 (-1) (i + 1) (by have := H.r1; omega) rfl (by omega)
  unfold lexV
  exact ⟨h1.1.1, h1.1.2.1, h1.1.2.2, by omega, h2, h1.2.2.1, h1.2.2.2⟩
/-- What is known of a token. -/
theorem tokF_bd (H : Fits next rule kind kinds) (ht : ∀ b ∈ t, b < 256) (fr : Nat) (hfr : fr ≤ t.length) : ∀ (f i e : Nat), t.length - i ≤ f → fr ≤ i → i ≤ t.length → e ≤ t.length + 1 →
    (tokF next rule kind t fr f i e).f = fr ∧ -2 ≤ (tokF next rule kind t fr f i e).k ∧ (tokF next rule kind t fr f i e).k < 16 ∧ fr ≤ (tokF next rule kind t fr f i e).a ∧ (tokF next rule kind t fr f i e).a ≤ (tokF next rule kind t fr f i e).t ∧ (tokF next rule kind t fr f i e).t ≤ t.length ∧
      (tokF next rule kind t fr f i e).e ≤ t.length + 1 ∧ ((tokF next rule kind t fr f i e).k ≠ -2 → i + 1 ≤ (tokF next rule kind t fr f i e).t)
  | 0, i, e, hf, hfi, hi, he => by
    unfold tokF
    exact ⟨rfl, by simp, by simp, hfr, Nat.le_refl _, Nat.le_refl _, Nat.le_refl _, fun h => absurd rfl h⟩
  | f + 1, i, e, hf, hfi, hi, he => by
    unfold tokF
    by_cases hlt : i < t.length
    · rw [if_pos hlt]
      have hx := lex_bd H ht hlt
      generalize lexV next rule t i = x at *
      obtain ⟨r, to, ex⟩ := x
      simp only at hx ⊢
      obtain ⟨x1, x2, x3, x4, x5, x6, x7⟩ := hx
      by_cases hr : r < 0
      · rw [if_pos (.inl hr)]
        simp only [if_pos hr]
        exact ⟨trivial, by omega, by omega, by omega, by omega, by omega, by omega, fun _ => by omega⟩
      · have hrl : r.toNat < kind.length := by omega
        have hk := H.bk _ (getD_mem hrl)
        have hk16 := H.k16
        rw [if_neg hr]
        generalize kind.getD r.toNat 0 = k at *
        split
        · simp only
          exact ⟨trivial, by omega, by omega, by omega, by omega, by omega, by omega, fun _ => by omega⟩
        · have := tokF_bd H ht fr hfr f to (max e ex) (by omega) (by omega) (by omega) (by omega)
          exact ⟨this.1, this.2.1, this.2.2.1, this.2.2.2.1, this.2.2.2.2.1, this.2.2.2.2.2.1, this.2.2.2.2.2.2.1, fun h => by have := this.2.2.2.2.2.2.2 h; omega⟩
    · rw [if_neg hlt]
      exact ⟨rfl, by simp, by simp, hfr, Nat.le_refl _, Nat.le_refl _, Nat.le_refl _, fun h => absurd rfl h⟩
theorem tok_bd (H : Fits next rule kind kinds) (ht : ∀ b ∈ t, b < 256) {i : Nat} (hi : i ≤ t.length) :
    (tokV next rule kind t i).f = i ∧ -2 ≤ (tokV next rule kind t i).k ∧ (tokV next rule kind t i).k < 16 ∧ i ≤ (tokV next rule kind t i).a ∧ (tokV next rule kind t i).a ≤ (tokV next rule kind t i).t ∧ (tokV next rule kind t i).t ≤ t.length ∧
      (tokV next rule kind t i).e ≤ t.length + 1 ∧ ((tokV next rule kind t i).k ≠ -2 → i + 1 ≤ (tokV next rule kind t i).t) :=
  tokF_bd H ht i hi _ i 0 (Nat.le_refl _) (Nat.le_refl _) hi (Nat.zero_le _)
/-- One step of reading a token. -/
theorem tokF_more (f i e : Nat) (fr : Nat) (hi : i < t.length) : tokF next rule kind t fr (f + 1) i e = if (lexV next rule t i).1 < 0 ∨ 0 ≤ (if (lexV next rule t i).1 < 0 then -1 else kind.getD (lexV next rule t i).1.toNat 0) then
    ⟨if (lexV next rule t i).1 < 0 then -1 else kind.getD (lexV next rule t i).1.toNat 0, fr, i, (lexV next rule t i).2.1, max (max e (lexV next rule t i).2.2) ((lexV next rule t i).2.1 + 1)⟩
    else tokF next rule kind t fr f (lexV next rule t i).2.1 (max e (lexV next rule t i).2.2) := by
  rw [tokF, if_pos hi]
/-- More fuel does not matter. -/
theorem tokF_fuel (H : Fits next rule kind kinds) (ht : ∀ b ∈ t, b < 256) (fr : Nat) : ∀ (f g i e : Nat), t.length - i ≤ f → t.length - i ≤ g → i ≤ t.length → tokF next rule kind t fr f i e = tokF next rule kind t fr g i e
  | 0, 0, _, _, _, _, _ => rfl
  | 0, g + 1, i, e, hf, _, hi => by
    have hlt : ¬ i < t.length := by omega
    rw [tokF, tokF, if_neg hlt]
  | f + 1, 0, i, e, _, hg, hi => by
    have hlt : ¬ i < t.length := by omega
    rw [tokF, tokF, if_neg hlt]
  | f + 1, g + 1, i, e, hf, hg, hi => by
    by_cases hlt : i < t.length
    · have hx := lex_bd H ht hlt
      rw [tokF_more f i e fr hlt, tokF_more g i e fr hlt]
      rw [tokF_fuel H ht fr f g _ _ (by omega) (by omega) (by omega)]
    · rw [tokF, tokF, if_neg hlt, if_neg hlt]
theorem rowF_fuel (H : Fits next rule kind kinds) (ht : ∀ b ∈ t, b < 256) : ∀ (f g i : Nat), t.length - i ≤ f → t.length - i ≤ g → i ≤ t.length → rowF next rule kind t f i = rowF next rule kind t g i
  | 0, 0, _, _, _, _ => rfl
  | 0, g + 1, i, hf, _, hi => by
    have hk : (tokV next rule kind t i).k = -2 := by
      have : t.length - i = 0 := by omega
      unfold tokV
      rw [this, tokF]
    rw [rowF, rowF, if_pos hk]
  | f + 1, 0, i, _, hg, hi => by
    have hk : (tokV next rule kind t i).k = -2 := by
      have : t.length - i = 0 := by omega
      unfold tokV
      rw [this, tokF]
    rw [rowF, rowF, if_pos hk]
  | f + 1, g + 1, i, hf, hg, hi => by
    rw [rowF, rowF]
    split
    · rfl
    · rename_i hk
      have := tok_bd H ht hi
      have h8 := this.2.2.2.2.2.2.2 hk
      rw [rowF_fuel H ht f g _ (by omega) (by omega) this.2.2.2.2.2.1]
/-- The row from a place on: a token, and the row behind it. -/
theorem rowV_eq (H : Fits next rule kind kinds) (ht : ∀ b ∈ t, b < 256) {i : Nat} (hi : i ≤ t.length) : rowV next rule kind t i = if (tokV next rule kind t i).k = -2 then [tokV next rule kind t i] else tokV next rule kind t i :: rowV next rule kind t (tokV next rule kind t i).t := by
  have hb := tok_bd H ht hi
  by_cases hk : (tokV next rule kind t i).k = -2
  · rw [if_pos hk]
    unfold rowV
    cases h : t.length - i with
    | zero => rw [rowF]
    | succ f => rw [rowF, if_pos hk]
  · rw [if_neg hk]
    have h8 := hb.2.2.2.2.2.2.2 hk
    have h6 := hb.2.2.2.2.2.1
    unfold rowV
    obtain ⟨f, hf⟩ : ∃ f, t.length - i = f + 1 := ⟨t.length - i - 1, by omega⟩
    rw [hf, rowF, if_neg hk]
    congr 1
    exact rowF_fuel H ht _ _ _ (by omega) (Nat.le_refl _) h6
theorem rowV_len (H : Fits next rule kind kinds) (ht : ∀ b ∈ t, b < 256) : ∀ (n i : Nat), t.length - i ≤ n → i ≤ t.length → (rowV next rule kind t i).length ≤ t.length - i + 1
  | 0, i, hn, hi => by
    rw [rowV_eq H ht hi]
    have : (tokV next rule kind t i).k = -2 := by
      have : t.length - i = 0 := by omega
      unfold tokV
      rw [this, tokF]
    rw [if_pos this]
    simp
  | n + 1, i, hn, hi => by
    rw [rowV_eq H ht hi]
    have hb := tok_bd H ht hi
    split
    · simp
    · rename_i hk
      have h8 := hb.2.2.2.2.2.2.2 hk
      have h6 := hb.2.2.2.2.2.1
      have := rowV_len H ht n (tokV next rule kind t i).t (by omega) h6
      rw [List.length_cons]
      omega
end
end Go.Proofs.YtefjfbhffmkikaaGreatDoor

namespace Go.Proofs.YtefjfbhffmkikaaGreatDoor
open Go Go.Proofs Go.RowKit
attribute [local go_sem] Oper.semAt_some
/-- A row of ints, read. -/
def IRow (w : World) (a : Option Addr) (l : List Int) : Prop := l ≠ [] → ∃ b off, a = some ⟨b, off, none⟩ ∧ b < w.heap.size ∧ ∀ j (h : j < l.length), w.cell? ⟨b, off + j, none⟩ = some (.int .i64 l[j])
theorem IRow.below {n : Nat} {w w' : World} {a : Option Addr} {l : List Int} (h : IRow w a l) (hb : Below n w w') (hn : w.heap.size ≤ n) : IRow w' a l := fun h0 => by
  obtain ⟨b, off, rfl, h1, h2⟩ := h h0
  exact ⟨b, off, rfl, Nat.lt_of_lt_of_le h1 hb.size, fun j hj => (hb.cell (p := ⟨b, off + j, none⟩) (by simp only; omega)).trans (h2 j hj)⟩
theorem IRow.at {w : World} {a : Option Addr} {l : List Int} (h : IRow w a l) {j : Nat} (hj : j < l.length) : ∃ b off, a = some ⟨b, off, none⟩ ∧ b < w.heap.size ∧ w.cell? ⟨b, off + j, none⟩ = some (.int .i64 l[j]) := by
  obtain ⟨b, off, h0, h1, h2⟩ := h (by intro e; subst e; simp at hj)
  exact ⟨b, off, h0, h1, h2 j hj⟩
/-- A table's value: two rows. -/
def dV (an ar : Option Addr) (n r cn cr : Nat) : Value := .agg #[.slice an n cn, .slice ar r cr]
/-- Is a row within bounds? -/
def inR (lo hi : Int) (l : List Int) : Bool := l.all fun x => decide (lo ≤ x) && decide (x < hi)
/-- A table that may be. -/
def okT (next rule : List Int) : Bool := decide (1 ≤ rule.length) && (decide (rule.length ≤ 512) && (decide (next.length = 256 * rule.length) && (inR (-1) 16 rule && inR (-1) rule.length next)))

theorem foldl_min_ge (lo : Int) : ∀ (l : List Int) (z : Int), lo ≤ l.foldl min z ↔ lo ≤ z ∧ ∀ x ∈ l, lo ≤ x
  | [], z => by simp
  | x :: l, z => by
    rw [List.foldl_cons, foldl_min_ge lo l, Int.le_min]
    simp only [List.mem_cons, forall_eq_or_imp, and_assoc]
theorem foldl_max_lt (hi : Int) : ∀ (l : List Int) (z : Int), l.foldl max z < hi ↔ z < hi ∧ ∀ x ∈ l, x < hi
  | [], z => by simp
  | x :: l, z => by
    rw [List.foldl_cons, foldl_max_lt hi l, Int.max_lt]
    simp only [List.mem_cons, forall_eq_or_imp, and_assoc]
theorem min_ge (l : List Int) (h : l ≠ []) (lo : Int) : (lo ≤ Lib.minOf l) ↔ ∀ x ∈ l, lo ≤ x := by
  cases l with
  | nil => exact absurd rfl h
  | cons z l =>
    unfold Lib.minOf
    rw [foldl_min_ge]
    simp
theorem max_lt (l : List Int) (h : l ≠ []) (hi : Int) : (Lib.maxOf l < hi) ↔ ∀ x ∈ l, x < hi := by
  cases l with
  | nil => exact absurd rfl h
  | cons z l =>
    unfold Lib.maxOf
    rw [foldl_max_lt]
    simp
theorem inR_iff (l : List Int) (h : l ≠ []) (lo hi : Int) : inR lo hi l = true ↔ lo ≤ Lib.minOf l ∧ Lib.maxOf l < hi := by
  rw [min_ge l h, max_lt l h]
  unfold inR
  simp only [List.all_eq_true, Bool.and_eq_true, decide_eq_true_eq]
  exact ⟨fun k => ⟨fun x hx => (k x hx).1, fun x hx => (k x hx).2⟩, fun k x hx => ⟨k.1 x hx, k.2 x hx⟩⟩
theorem min_k (l : List Int) (h : 0 < l.length) (hl : l.length ≤ 1000000) (a : Option Addr) (c : Nat) (w : World) (hR : IRow w a l) :
    Calls Tryz.prog 44 #[.slice a l.length c] w fun e w' => e = .returned (.int .i64 (Lib.minOf l)) ∧ w = w' := by
  obtain ⟨b, off, rfl, _, h2⟩ := hR (by intro e; subst e; simp at h)
  refine (slices_Min_int b off l.length c l w h (Nat.le_refl _) (by omega) (fun j hj => by rw [h2 j hj]; simp [List.getD, hj])).mono ?_
  rintro e w' ⟨rfl, rfl⟩
  exact ⟨by rw [List.take_length], rfl⟩
theorem max_k (l : List Int) (h : 0 < l.length) (hl : l.length ≤ 1000000) (a : Option Addr) (c : Nat) (w : World) (hR : IRow w a l) :
    Calls Tryz.prog 28 #[.slice a l.length c] w fun e w' => e = .returned (.int .i64 (Lib.maxOf l)) ∧ w = w' := by
  obtain ⟨b, off, rfl, _, h2⟩ := hR (by intro e; subst e; simp at h)
  refine (slices_Max_int b off l.length c l w h (Nat.le_refl _) (by omega) (fun j hj => by rw [h2 j hj]; simp [List.getD, hj])).mono ?_
  rintro e w' ⟨rfl, rfl⟩
  exact ⟨by rw [List.take_length], rfl⟩
def checkV (next rule : List Int) : Int := if okT next rule = true then 0 else 2

set_option maxHeartbeats 4000000 in
theorem check_k (next rule : List Int) (hn : next.length ≤ 1000000) (hr : rule.length ≤ 1000000) (an ar : Option Addr) (cn cr : Nat) (w : World) (hN : IRow w an next) (hR : IRow w ar rule) :
    Calls Tryz.prog 27 #[.agg #[.slice an next.length cn, .slice ar rule.length cr]] w fun e w' => e = .returned (.int .i64 (checkV next rule)) ∧ Below w.heap.size w w' := by
  have hB := (Below.refl w.heap.size w).alloc (Nat.le_refl _) (.cells #[.slice an next.length cn, .slice ar rule.length cr] 24)
  by_cases h0 : 1 ≤ rule.length ∧ rule.length ≤ 512 ∧ next.length = 256 * rule.length
  · obtain ⟨h1, h2, h3⟩ := h0
    have k1 := fun W hW => min_k rule h1 hr ar cr W hW
    have k2 := fun W hW => max_k rule h1 hr ar cr W hW
    have k3 := fun W hW => min_k next (by omega) hn an cn W hW
    have k4 := fun W hW => max_k next (by omega) hn an cn W hW
    have HV : Hid (checkV next rule = if ((-1 ≤ Lib.minOf rule ∧ Lib.maxOf rule < 16) ∧ -1 ≤ Lib.minOf next ∧ Lib.maxOf next < rule.length) then 0 else 2) := Lib.hid <| by
      unfold checkV okT
      rw [decide_eq_true h1, decide_eq_true h2, decide_eq_true h3, Bool.true_and, Bool.true_and, Bool.true_and]
      simp only [Bool.and_eq_true, inR_iff rule (by intro e; subst e; simp at h1), inR_iff next (by intro e; subst e; simp at h3; omega)]
    have hN' := hN.below hB (Nat.le_refl _)
    have hR' := hR.below hB (Nat.le_refl _)
    generalize Lib.minOf rule = m1 at *
    generalize Lib.maxOf rule = m2 at *
    generalize Lib.minOf next = m3 at *
    generalize Lib.maxOf next = m4 at *
    generalize checkV next rule = cv at *
    have H3 : Hid (next.length = 256 * rule.length) := Lib.hid h3
    have h3a : (next.length : Int) - 256 * rule.length ≤ 0 := by omega
    have h3b : 0 ≤ (next.length : Int) - 256 * rule.length := by omega
    have hne : ((next.length : Int) == 256 * (rule.length : Int)) = true := by simp; omega
    have hne' : ((next.length : Int) != 256 * (rule.length : Int)) = false := by simp; omega
    clear h3
    generalize next.length = N at *
    generalize rule.length = R at *
    clear hN hR
    go_enter Tryz.func27, Tryz.ntmps27
    go_wp2_with (first
      | (go_at_call 44; ((with_reducible refine (k1 _ hR').mono ?_); rintro e Wd ⟨rfl, rfl⟩))
      | (go_at_call 44; ((with_reducible refine (k3 _ hN').mono ?_); rintro e Wd ⟨rfl, rfl⟩))
      | (go_at_call 28; ((with_reducible refine (k2 _ hR').mono ?_); rintro e Wd ⟨rfl, rfl⟩))
      | (go_at_call 28; ((with_reducible refine (k4 _ hN').mono ?_); rintro e Wd ⟨rfl, rfl⟩)))
    all_goals first
      | (have E : cv = 2 := by rw [HV.out, if_neg (by omega)]
         exact bodyPost_ret (v := .int .i64 cv) (by simp [results, Tryz.results27, go_sem, E]) rfl ⟨rfl, hB⟩)
      | (have E : cv = 0 := by rw [HV.out, if_pos (by omega)]
         exact bodyPost_ret (v := .int .i64 cv) (by simp [results, Tryz.results27, go_sem, E]) rfl ⟨rfl, hB⟩)
  · have HV : Hid (checkV next rule = 2) := Lib.hid <| if_neg fun h => h0 (by
      unfold okT at h
      simp only [Bool.and_eq_true, decide_eq_true_eq] at h
      exact ⟨h.1, h.2.1, h.2.2.1⟩)
    generalize checkV next rule = cv at *
    generalize next.length = N at *
    generalize rule.length = R at *
    go_enter Tryz.func27, Tryz.ntmps27
    go_wp2_with fail
    all_goals first
      | (exfalso; have q : ((1 : Int) ≤ (R : Int) ∧ (R : Int) ≤ 512) ∧ ((N : Int) != 256 * (R : Int)) = false := by assumption
         have q := q.2; simp at q; omega)
      | (have E : cv = 2 := HV.out
         exact bodyPost_ret (v := .int .i64 cv) (by simp [results, Tryz.results27, go_sem, E]) rfl ⟨rfl, hB⟩)
end Go.Proofs.YtefjfbhffmkikaaGreatDoor

namespace Go.Proofs.YtefjfbhffmkikaaGreatDoor
open Go Go.Proofs Go.RowKit
attribute [local go_sem] Oper.semAt_some
theorem IRow.get {w : World} {a : Option Addr} {l : List Int} (h : IRow w a l) {j : Nat} (hj : j < l.length) : ∃ b off, a = some ⟨b, off, none⟩ ∧ b < w.heap.size ∧ w.cell? ⟨b, off + j, none⟩ = some (.int .i64 (l.getD j 0)) := by
  obtain ⟨b, off, h0, h1, h2⟩ := h (by intro e; subst e; simp at hj)
  exact ⟨b, off, h0, h1, by rw [h2 j hj]; simp [hj]⟩
theorem inR_of {lo hi : Int} {l : List Int} (h : ∀ k, k < l.length → lo ≤ l.getD k 0 ∧ l.getD k 0 < hi) : inR lo hi l = true := by
  unfold inR
  simp only [List.all_eq_true, Bool.and_eq_true, decide_eq_true_eq]
  intro x hx
  obtain ⟨k, hk, rfl⟩ := List.getElem_of_mem hx
  have := h k hk
  rwa [show l.getD k 0 = l[k] by simp [hk]] at this
theorem inR_not {lo hi : Int} {l : List Int} {k : Nat} (hk : k < l.length) (h : ¬ (lo ≤ l.getD k 0 ∧ l.getD k 0 < hi)) : inR lo hi l = false := by
  rw [Bool.eq_false_iff]
  intro e
  unfold inR at e
  simp only [List.all_eq_true, Bool.and_eq_true, decide_eq_true_eq] at e
  apply h
  rw [show l.getD k 0 = l[k] by simp [hk]]
  exact e _ (List.getElem_mem hk)
set_option maxRecDepth 100000 in
set_option maxHeartbeats 4000000 in
theorem rcheck_k (next rule : List Int) (hn : next.length ≤ 1000000) (hr : rule.length ≤ 1000000) (an ar : Option Addr) (cn cr : Nat) (w : World) (hN : IRow w an next) (hR : IRow w ar rule) :
    Calls Tryz.prog 31 #[.agg #[.slice an next.length cn, .slice ar rule.length cr]] w fun e w' => e = .returned (.int .i64 (checkV next rule)) ∧ Below w.heap.size w w' := by
  have hB := (Below.refl w.heap.size w).alloc (Nat.le_refl _) (.cells #[.slice an next.length cn, .slice ar rule.length cr] 24)
  obtain ⟨cv, hcv⟩ : ∃ cv, cv = checkV next rule := ⟨_, rfl⟩
  rw [← hcv]
  by_cases h0 : 1 ≤ rule.length ∧ rule.length ≤ 512 ∧ next.length = 256 * rule.length
  · obtain ⟨h1, h2, h3⟩ := h0
    have hok : okT next rule = (inR (-1) 16 rule && inR (-1) rule.length next) := by
      unfold okT
      rw [decide_eq_true h1, decide_eq_true h2, decide_eq_true h3, Bool.true_and, Bool.true_and, Bool.true_and]
    have HF1 : Hid (∀ k, k < rule.length → ¬ (-1 ≤ rule.getD k 0 ∧ rule.getD k 0 < 16) → cv = 2) := Lib.hid fun k hk h => by
      rw [hcv, checkV, hok, inR_not hk h]; rfl
    have HF2 : Hid (∀ k, k < next.length → ¬ (-1 ≤ next.getD k 0 ∧ next.getD k 0 < rule.length) → cv = 2) := Lib.hid fun k hk h => by
      rw [hcv, checkV, hok, inR_not hk h, Bool.and_false]; rfl
    have HT : Hid ((∀ k, k < rule.length → -1 ≤ rule.getD k 0 ∧ rule.getD k 0 < 16) → (∀ k, k < next.length → -1 ≤ next.getD k 0 ∧ next.getD k 0 < rule.length) → cv = 0) := Lib.hid fun a b => by
      rw [hcv, checkV, hok, inR_of a, inR_of b]; rfl
    have hN' := hN.below hB (Nat.le_refl _)
    have hR' := hR.below hB (Nat.le_refl _)
    have HN := Lib.hid (fun j hj => hN'.get (j := j) hj)
    have HR := Lib.hid (fun j hj => hR'.get (j := j) hj)
    have hne : ((next.length : Int) == 256 * (rule.length : Int)) = true := by simp; omega
    have hne' : ((next.length : Int) != 256 * (rule.length : Int)) = false := by simp; omega
    have h3b : (next.length : Int) ≤ 256 * rule.length := by omega
    clear h3 hN' hR' hN hR hok hcv
    obtain ⟨rl, hrl⟩ : ∃ f : Nat → Int, f = fun k => rule.getD k 0 := ⟨_, rfl⟩
    obtain ⟨nx, hnx⟩ : ∃ f : Nat → Int, f = fun k => next.getD k 0 := ⟨_, rfl⟩
    have HF1 : Hid (∀ k, k < rule.length → ¬ (-1 ≤ rl k ∧ rl k < 16) → cv = 2) := Lib.hid (by rw [hrl]; exact HF1.out)
    have HF2 : Hid (∀ k, k < next.length → ¬ (-1 ≤ nx k ∧ nx k < rule.length) → cv = 2) := Lib.hid (by rw [hnx]; exact HF2.out)
    have HT : Hid ((∀ k, k < rule.length → -1 ≤ rl k ∧ rl k < 16) → (∀ k, k < next.length → -1 ≤ nx k ∧ nx k < rule.length) → cv = 0) := Lib.hid (by rw [hnx, hrl]; exact HT.out)
    have HN : Hid (∀ j, j < next.length → ∃ b off, an = some ⟨b, off, none⟩ ∧ b < (w.alloc (.cells #[.slice an next.length cn, .slice ar rule.length cr] 24)).heap.size ∧ (w.alloc (.cells #[.slice an next.length cn, .slice ar rule.length cr] 24)).cell? ⟨b, off + j, none⟩ = some (.int .i64 (nx j))) := Lib.hid (by rw [hnx]; exact HN.out)
    have HR : Hid (∀ j, j < rule.length → ∃ b off, ar = some ⟨b, off, none⟩ ∧ b < (w.alloc (.cells #[.slice an next.length cn, .slice ar rule.length cr] 24)).heap.size ∧ (w.alloc (.cells #[.slice an next.length cn, .slice ar rule.length cr] 24)).cell? ⟨b, off + j, none⟩ = some (.int .i64 (rl j))) := Lib.hid (by rw [hrl]; exact HR.out)
    clear hrl hnx
    generalize next.length = N at *
    generalize rule.length = R at *
    go_enter Tryz.func31, Tryz.ntmps31
    go_wp2
    have hw1 : (w.alloc (.cells #[.slice an N cn, .slice ar R cr] 24)).cell? ⟨w.heap.size, 0, none⟩ = some (.slice an N cn) := (World.cell?_alloc_at _ _ w.heap.size 0 rfl).trans rfl
    have hw2 : (w.alloc (.cells #[.slice an N cn, .slice ar R cr] 24)).cell? ⟨w.heap.size, 1, none⟩ = some (.slice ar R cr) := (World.cell?_alloc_at _ _ w.heap.size 1 rfl).trans rfl
    generalize w.alloc (.cells #[.slice an N cn, .slice ar R cr] 24) = W0 at *
    go_loop [4] (fun i => ∃ k : Nat, k ≤ R ∧ i = .int .i64 k ∧ Hid (∀ j, j < k → -1 ≤ rl j ∧ rl j < 16)) (fun i => R - (intOf i).toNat)
    case atStart => exact ⟨0, Nat.zero_le _, rfl, Lib.hid fun j hj => absurd hj (by omega)⟩
    case round =>
      obtain ⟨k, hk, rfl, hg⟩ := hrel
      rcases Nat.lt_or_ge k R with hlt | hge
      · obtain ⟨b, off, rfl, hb, hcell⟩ := HR.out k hlt
        have hk0 : (0 : Int) ≤ (k : Int) := by omega
        have hk1 : (k : Int) < (R : Int) := by omega
        have HF := Lib.hid (HF1.out k hlt)
        have HG : Hid ((-1 ≤ rl k ∧ rl k < 16) → ∀ j, j < k + 1 → -1 ≤ rl j ∧ rl j < 16) := Lib.hid fun h j hj => by
          rcases Nat.lt_or_ge j k with h1 | h1
          · exact hg.out j h1
          · obtain rfl : j = k := by omega
            exact h
        generalize rl k = x at *
        by_cases hx : -1 ≤ x ∧ x < 16
        · obtain ⟨hx1, hx2⟩ := hx
          go_wp2
          go_round
          case rel => exact ⟨k + 1, by omega, by simp, Lib.hid (HG.out ⟨hx1, hx2⟩)⟩
          case measure => simp [intOf]; omega
        · have HE := Lib.hid (HF.out hx)
          by_cases h5 : x < -1
          · clear hx
            go_wp2
            go_ret
            exact ⟨by rw [HE.out]; rfl, hB⟩
          · have h6 : 16 ≤ x := by omega
            clear hx
            go_wp2
            go_ret
            exact ⟨by rw [HE.out]; rfl, hB⟩
      · obtain rfl : k = R := by omega
        clear hge hk
        go_wp2
        go_loop [5] (fun i => ∃ q : Nat, q ≤ N ∧ i = .int .i64 q ∧ Hid (∀ j, j < q → -1 ≤ nx j ∧ nx j < k)) (fun i => N - (intOf i).toNat)
        case atStart => exact ⟨0, Nat.zero_le _, rfl, Lib.hid fun j hj => absurd hj (by omega)⟩
        case round =>
          obtain ⟨q, hq, rfl, hgq⟩ := hrel
          rcases Nat.lt_or_ge q N with hlt | hge
          · obtain ⟨b, off, rfl, hb, hcell⟩ := HN.out q hlt
            have hk0 : (0 : Int) ≤ (q : Int) := by omega
            have hk1 : (q : Int) < (N : Int) := by omega
            have HF := Lib.hid (HF2.out q hlt)
            have HG : Hid ((-1 ≤ nx q ∧ nx q < k) → ∀ j, j < q + 1 → -1 ≤ nx j ∧ nx j < k) := Lib.hid fun h j hj => by
              rcases Nat.lt_or_ge j q with h1 | h1
              · exact hgq.out j h1
              · obtain rfl : j = q := by omega
                exact h
            generalize nx q = x at *
            by_cases hx : -1 ≤ x ∧ x < k
            · obtain ⟨hx1, hx2⟩ := hx
              go_wp2
              go_round
              case rel => exact ⟨q + 1, by omega, by simp, Lib.hid (HG.out ⟨hx1, hx2⟩)⟩
              case measure => simp [intOf]; omega
            · have HE := Lib.hid (HF.out hx)
              by_cases h5 : x < -1
              · clear hx
                go_wp2
                go_ret
                exact ⟨by rw [HE.out]; rfl, hB⟩
              · have h6 : (k : Int) ≤ x := by omega
                clear hx
                go_wp2
                go_ret
                exact ⟨by rw [HE.out]; rfl, hB⟩
          · obtain rfl : q = N := by omega
            have HE := Lib.hid (HT.out hg.out hgq.out)
            go_wp2
            go_ret
            exact ⟨by rw [HE.out]; rfl, hB⟩
  · have HV : Hid (cv = 2) := Lib.hid <| by
      rw [hcv]
      exact if_neg fun h => h0 (by
        unfold okT at h
        simp only [Bool.and_eq_true, decide_eq_true_eq] at h
        exact ⟨h.1, h.2.1, h.2.2.1⟩)
    clear hcv
    generalize next.length = N at *
    generalize rule.length = R at *
    go_enter Tryz.func31, Tryz.ntmps31
    go_wp2_with fail
    all_goals first
      | (exfalso; have q : ((1 : Int) ≤ (R : Int) ∧ (R : Int) ≤ 512) ∧ ((N : Int) != 256 * (R : Int)) = false := by assumption
         have q := q.2; simp at q; omega)
      | (have E : cv = 2 := HV.out
         exact bodyPost_ret (v := .int .i64 cv) (by simp [results, Tryz.results31, go_sem, E]) rfl ⟨rfl, hB⟩)
end Go.Proofs.YtefjfbhffmkikaaGreatDoor

namespace Go.Proofs.YtefjfbhffmkikaaGreatDoor
open Go Go.Proofs Go.RowKit
attribute [local go_sem] Oper.semAt_some
/-- A lexer that may be. -/
def okL (next rule kind : List Int) (kinds : Int) : Bool := okT next rule && (decide (0 ≤ kinds) && (decide (kinds ≤ 16) && (inR (-1) kinds kind && rule.all fun x => decide (x < kind.length))))
def checkL (next rule kind : List Int) (kinds : Int) : Int := if okL next rule kind kinds = true then 0 else 2
set_option maxHeartbeats 4000000 in
theorem chk1_k {B : Nat} {kinds : Int} {w : World} (x : Int) (h : w.cell? ⟨B, 3, none⟩ = some (.int .i64 kinds)) : Calls Tryz.prog 30 #[.int .i64 x, .pointer (some ⟨B, 0, none⟩)] w fun e w' => e = .returned (.bool (decide (x < -1) || decide (kinds ≤ x))) ∧ w = w' := by
  by_cases h1 : x < -1
  · obtain ⟨b, hb⟩ : ∃ b, b = (decide (x < -1) || decide (kinds ≤ x)) := ⟨_, rfl⟩
    rw [← hb]
    have HB := Lib.hid (show b = true by rw [hb]; simp [h1])
    clear hb
    go_enter Tryz.func30, Tryz.ntmps30
    go_wp2
    go_ret
    exact ⟨by rw [HB.out]; rfl, rfl⟩
  · obtain ⟨b, hb⟩ : ∃ b, b = (decide (x < -1) || decide (kinds ≤ x)) := ⟨_, rfl⟩
    rw [← hb]
    have h2 : -1 ≤ x := by omega
    have HB := Lib.hid (show b = decide (kinds ≤ x) by rw [hb, decide_eq_false (by omega : ¬ x < -1), Bool.false_or])
    clear hb h1
    go_enter Tryz.func30, Tryz.ntmps30
    go_wp2
    exact bodyPost_ret (v := .bool b) (by simp [results, Tryz.results30, go_sem, HB.out]; omega) rfl ⟨rfl, rfl⟩
/-- Where one is out of bounds, or nowhere. -/
def Idx (bad : Bool) (w : World) (e : Ending) (w' : World) : Prop := ∃ i : Int, e = .returned (.int .i64 i) ∧ decide (0 ≤ i) = bad ∧ w = w'
set_option maxRecDepth 100000 in
set_option maxHeartbeats 4000000 in
theorem index_k (kind : List Int) (hl : kind.length ≤ 1000000) {B : Nat} {kinds : Int} (a : Option Addr) (c : Nat) (w : World) (h : w.cell? ⟨B, 3, none⟩ = some (.int .i64 kinds)) (hR : IRow w a kind) :
    Calls Tryz.prog 45 #[.slice a kind.length c, .func (.func 30) #[] #[.pointer (some ⟨B, 0, none⟩)]] w (Idx (!inR (-1) kinds kind) w) := by
  obtain ⟨bad, hbad⟩ : ∃ b, b = !inR (-1) kinds kind := ⟨_, rfl⟩
  rw [← hbad]
  obtain ⟨kd, hkd⟩ : ∃ f : Nat → Int, f = fun k => kind.getD k 0 := ⟨_, rfl⟩
  have HF : Hid (∀ k, k < kind.length → ¬ (-1 ≤ kd k ∧ kd k < kinds) → bad = true) := Lib.hid fun k hk h => by rw [hkd] at h; rw [hbad, inR_not hk h]; rfl
  have HT : Hid ((∀ k, k < kind.length → -1 ≤ kd k ∧ kd k < kinds) → bad = false) := Lib.hid fun a => by rw [hkd] at a; rw [hbad, inR_of a]; rfl
  have HR : Hid (∀ j, j < kind.length → ∃ b off, a = some ⟨b, off, none⟩ ∧ b < w.heap.size ∧ w.cell? ⟨b, off + j, none⟩ = some (.int .i64 (kd j))) := Lib.hid fun j hj => by rw [hkd]; exact hR.get hj
  have hc := fun x => chk1_k x h
  clear hbad hkd hR h
  generalize kind.length = N at *
  go_enter Tryz.func45, Tryz.ntmps45
  go_wp2
  go_loop [8] (fun i => ∃ k : Nat, k ≤ N ∧ i = .int .i64 k ∧ Hid (∀ j, j < k → -1 ≤ kd j ∧ kd j < kinds)) (fun i => N - (intOf i).toNat)
  case atStart => exact ⟨0, Nat.zero_le _, rfl, Lib.hid fun j hj => absurd hj (by omega)⟩
  case round =>
    obtain ⟨k, hk, rfl, hg⟩ := hrel
    rcases Nat.lt_or_ge k N with hlt | hge
    · obtain ⟨b, off, rfl, hb, hcell⟩ := HR.out k hlt
      have hk0 : (0 : Int) ≤ (k : Int) := by omega
      have hk1 : (k : Int) < (N : Int) := by omega
      have HE := Lib.hid (HF.out k hlt)
      have HG : Hid ((-1 ≤ kd k ∧ kd k < kinds) → ∀ j, j < k + 1 → -1 ≤ kd j ∧ kd j < kinds) := Lib.hid fun h j hj => by
        rcases Nat.lt_or_ge j k with h1 | h1
        · exact hg.out j h1
        · obtain rfl : j = k := by omega
          exact h
      generalize kd k = x at *
      obtain ⟨bx, hbx⟩ : ∃ b, b = (decide (x < -1) || decide (kinds ≤ x)) := ⟨_, rfl⟩
      have hcx := hc x
      rw [← hbx] at hcx
      have HX := Lib.hid hbx
      clear hbx hc
      cases bx with
      | false =>
        have HG' : Hid (∀ j, j < k + 1 → -1 ≤ kd j ∧ kd j < kinds) := Lib.hid (HG.out (by have := HX.out; simp at this; omega))
        go_wp2_with (go_at_call 30; ((with_reducible refine hcx.mono ?_); rintro e Wd ⟨rfl, rfl⟩))
        go_round
        case rel => exact ⟨k + 1, by omega, by simp, HG'⟩
        case measure => simp [intOf]; omega
      | true =>
        have HB := Lib.hid (HE.out (by have := HX.out; simp at this; omega))
        go_wp2_with (go_at_call 30; ((with_reducible refine hcx.mono ?_); rintro e Wd ⟨rfl, rfl⟩))
        go_ret
        exact ⟨_, rfl, by rw [HB.out]; simp, rfl⟩
    · obtain rfl : k = N := by omega
      have HB := Lib.hid (HT.out hg.out)
      go_wp2
      go_ret
      exact ⟨_, rfl, by rw [HB.out]; rfl, rfl⟩
set_option maxHeartbeats 4000000 in
theorem contains_k (kind : List Int) (hl : kind.length ≤ 1000000) {B : Nat} {kinds : Int} (a : Option Addr) (c : Nat) (w : World) (h : w.cell? ⟨B, 3, none⟩ = some (.int .i64 kinds)) (hR : IRow w a kind) :
    Calls Tryz.prog 29 #[.slice a kind.length c, .func (.func 30) #[] #[.pointer (some ⟨B, 0, none⟩)]] w fun e w' => e = .returned (.bool !inR (-1) kinds kind) ∧ w = w' := by
  have hk := index_k kind hl a c w h hR
  generalize (!inR (-1) kinds kind) = bad at *
  clear hR h
  go_enter Tryz.func29, Tryz.ntmps29
  go_wp2_with (go_at_call 45; ((with_reducible refine hk.mono ?_); rintro e Wd ⟨i, rfl, hi, rfl⟩))
  exact bodyPost_ret (v := .bool bad) (by simp [results, Tryz.results29, go_sem]) rfl ⟨rfl, rfl⟩
end Go.Proofs.YtefjfbhffmkikaaGreatDoor

namespace Go.Proofs.YtefjfbhffmkikaaGreatDoor
open Go Go.Proofs Go.RowKit
attribute [local go_sem] Oper.semAt_some
/-- A lexer's value. -/
def lV (an ar ak : Option Addr) (n r k cn cr ck : Nat) (kinds : Int) : Value := .agg #[.slice an n cn, .slice ar r cr, .slice ak k ck, .int .i64 kinds]
theorem box4 (w : World) (v0 v1 v2 v3 : Value) (t : TypeId) : (w.alloc (.cells #[v0, v1, v2, v3] t)).cell? ⟨w.heap.size, 0, none⟩ = some v0 ∧ (w.alloc (.cells #[v0, v1, v2, v3] t)).cell? ⟨w.heap.size, 1, none⟩ = some v1 ∧ (w.alloc (.cells #[v0, v1, v2, v3] t)).cell? ⟨w.heap.size, 2, none⟩ = some v2 ∧ (w.alloc (.cells #[v0, v1, v2, v3] t)).cell? ⟨w.heap.size, 3, none⟩ = some v3 :=
  ⟨(World.cell?_alloc_at _ _ w.heap.size 0 rfl).trans rfl, (World.cell?_alloc_at _ _ w.heap.size 1 rfl).trans rfl, (World.cell?_alloc_at _ _ w.heap.size 2 rfl).trans rfl, (World.cell?_alloc_at _ _ w.heap.size 3 rfl).trans rfl⟩
theorem okT_nonempty {next rule : List Int} (h : okT next rule = true) : 0 < rule.length := by
  unfold okT at h
  simp only [Bool.and_eq_true, decide_eq_true_eq] at h
  exact h.1
theorem max_all (l : List Int) (h : 0 < l.length) (n : Nat) : (l.all fun x => decide (x < (n : Int))) = true ↔ Lib.maxOf l < n := by
  rw [max_lt l (by intro e; subst e; simp at h)]
  simp
set_option maxRecDepth 100000 in
set_option maxHeartbeats 4000000 in
theorem lcheck_k (next rule kind : List Int) (kinds : Int) (hn : next.length ≤ 1000000) (hr : rule.length ≤ 1000000) (hk : kind.length ≤ 1000000) (an ar ak : Option Addr) (cn cr ck : Nat) (w : World) (hN : IRow w an next) (hR : IRow w ar rule) (hK : IRow w ak kind) :
    Calls Tryz.prog 15 #[.agg #[.slice an next.length cn, .slice ar rule.length cr, .slice ak kind.length ck, .int .i64 kinds]] w fun e w' => e = .returned (.int .i64 (checkL next rule kind kinds)) ∧ Below w.heap.size w w' := by
  have hB := (Below.refl w.heap.size w).alloc (Nat.le_refl _) (.cells #[.slice an next.length cn, .slice ar rule.length cr, .slice ak kind.length ck, .int .i64 kinds] 26)
  obtain ⟨x0, x1, x2, x3⟩ := box4 w (.slice an next.length cn) (.slice ar rule.length cr) (.slice ak kind.length ck) (.int .i64 kinds) 26
  have hN' := hN.below hB (Nat.le_refl _)
  have hR' := hR.below hB (Nat.le_refl _)
  have hK' := hK.below hB (Nat.le_refl _)
  have hs0 : w.heap.size < (w.alloc (.cells #[.slice an next.length cn, .slice ar rule.length cr, .slice ak kind.length ck, .int .i64 kinds] 26)).heap.size := by simp
  obtain ⟨cv, hcv⟩ : ∃ cv, cv = checkL next rule kind kinds := ⟨_, rfl⟩
  rw [← hcv]
  clear hN hR hK
  obtain ⟨ok, hok⟩ : ∃ b, b = okT next rule := ⟨_, rfl⟩
  have c27 := fun W hN hR => check_k next rule hn hr an ar cn cr W hN hR
  have e27 : checkV next rule = if ok = true then 0 else 2 := by rw [hok]; rfl
  rw [e27] at c27
  clear e27
  cases ok with
  | false =>
    have HV := Lib.hid (show cv = 2 by rw [hcv, checkL, okL, ← hok]; rfl)
    clear hcv hok
    simp only [Bool.false_eq_true, if_false] at c27
    go_enter Tryz.func15, Tryz.ntmps15
    go_wp2_with fail
    generalize w.alloc (.cells #[.slice an next.length cn, .slice ar rule.length cr, .slice ak kind.length ck, .int .i64 kinds] 26) = W0 at *
    have y0 := AX.cell_all x0 hs0; have y1 := AX.cell_all x1 hs0; have y2 := AX.cell_all x2 hs0; have y3 := AX.cell_all x3 hs0
    have q27 := fun p : AX.BW W0 => c27 p.W (hN'.below p.h (Nat.le_refl _)) (hR'.below p.h (Nat.le_refl _))
    clear x0 x1 x2 x3 c27 hN' hR' hK'
    refine AX.region_below (by kernel_rfl) (by kernel_rfl) ?_
    repeat (go_big_quiet_step (first | (go_at_call 27; with_reducible exact AX.below_of (q27 _))))
    refine wpQuiet_nil ?_
    rintro _ ⟨p, rfl⟩
    go_wp2
    go_ret
    exact ⟨by rw [HV.out]; rfl, hB.trans (p.h.mono (by omega))⟩
  | true =>
    simp only [if_true] at c27
    have hT := okT_nonempty hok.symm
    have c28 := fun W hR => max_k rule hT hr ar cr W hR
    have hall := max_all rule hT kind.length
    obtain ⟨m, hm⟩ : ∃ m, m = Lib.maxOf rule := ⟨_, rfl⟩
    rw [← hm] at c28 hall
    clear hm
    by_cases hk0 : kinds < 0
    · have HV := Lib.hid (show cv = 2 by rw [hcv, checkL, okL, ← hok, decide_eq_false (by omega : ¬ 0 ≤ kinds)]; rfl)
      clear hcv hok hall
      go_enter Tryz.func15, Tryz.ntmps15
      go_wp2_with fail
      generalize w.alloc (.cells #[.slice an next.length cn, .slice ar rule.length cr, .slice ak kind.length ck, .int .i64 kinds] 26) = W0 at *
      have y0 := AX.cell_all x0 hs0; have y1 := AX.cell_all x1 hs0; have y2 := AX.cell_all x2 hs0; have y3 := AX.cell_all x3 hs0
      have q27 := fun p : AX.BW W0 => c27 p.W (hN'.below p.h (Nat.le_refl _)) (hR'.below p.h (Nat.le_refl _))
      have q28 := fun p : AX.BW W0 => (c28 p.W (hR'.below p.h (Nat.le_refl _))).mono fun e w' (h : _ ∧ _) => (⟨h.1, h.2 ▸ Below.refl _ _⟩ : e = .returned (.int .i64 m) ∧ Below p.W.heap.size p.W w')
      clear x0 x1 x2 x3 c27 c28 hN' hR'
      refine AX.region_below (by kernel_rfl) (by kernel_rfl) ?_
      repeat (go_big_quiet_step (first | (go_at_call 27; with_reducible exact AX.below_of (q27 _)) | (go_at_call 28; with_reducible exact AX.below_of (q28 _))))
      refine wpQuiet_nil ?_
      rintro _ ⟨p, rfl⟩
      go_wp2
      go_ret
      exact ⟨by rw [HV.out]; rfl, hB.trans (p.h.mono (by omega))⟩
    by_cases hk16 : 16 < kinds
    · have HV := Lib.hid (show cv = 2 by rw [hcv, checkL, okL, ← hok, decide_eq_false (by omega : ¬ kinds ≤ 16), Bool.false_and, Bool.and_false, Bool.and_false]; rfl)
      have hk0 : 0 ≤ kinds := by omega
      have hd0 : decide (kinds < 0) = false := by simp; omega
      have hd1 : decide (16 < kinds) = true := by simp; omega
      clear hcv hok hall
      go_enter Tryz.func15, Tryz.ntmps15
      go_wp2_with fail
      generalize w.alloc (.cells #[.slice an next.length cn, .slice ar rule.length cr, .slice ak kind.length ck, .int .i64 kinds] 26) = W0 at *
      have y0 := AX.cell_all x0 hs0; have y1 := AX.cell_all x1 hs0; have y2 := AX.cell_all x2 hs0; have y3 := AX.cell_all x3 hs0
      have q27 := fun p : AX.BW W0 => c27 p.W (hN'.below p.h (Nat.le_refl _)) (hR'.below p.h (Nat.le_refl _))
      have q28 := fun p : AX.BW W0 => (c28 p.W (hR'.below p.h (Nat.le_refl _))).mono fun e w' (h : _ ∧ _) => (⟨h.1, h.2 ▸ Below.refl _ _⟩ : e = .returned (.int .i64 m) ∧ Below p.W.heap.size p.W w')
      clear x0 x1 x2 x3 c27 c28 hN' hR'
      refine AX.region_below (by kernel_rfl) (by kernel_rfl) ?_
      repeat (go_big_quiet_step (first | (go_at_call 27; with_reducible exact AX.below_of (q27 _)) | (go_at_call 28; with_reducible exact AX.below_of (q28 _))))
      refine wpQuiet_nil ?_
      rintro _ ⟨p, rfl⟩
      go_wp2
      go_ret
      exact ⟨by rw [HV.out]; rfl, hB.trans (p.h.mono (by omega))⟩
    have hk0 : 0 ≤ kinds := by omega
    have hk16 : kinds ≤ 16 := by omega
    have hd0 : decide (kinds < 0) = false := by simp; omega
    have hd1 : decide (16 < kinds) = false := by simp; omega
    by_cases hm : (kind.length : Int) ≤ m
    · have HV := Lib.hid (show cv = 2 by
        rw [hcv, checkL, okL, ← hok]
        rw [show (rule.all fun x => decide (x < (kind.length : Int))) = false by rw [Bool.eq_false_iff]; intro h; have := hall.1 h; omega]
        simp)
      clear hcv hok hall
      go_enter Tryz.func15, Tryz.ntmps15
      go_wp2_with fail
      generalize w.alloc (.cells #[.slice an next.length cn, .slice ar rule.length cr, .slice ak kind.length ck, .int .i64 kinds] 26) = W0 at *
      have y0 := AX.cell_all x0 hs0; have y1 := AX.cell_all x1 hs0; have y2 := AX.cell_all x2 hs0; have y3 := AX.cell_all x3 hs0
      have q27 := fun p : AX.BW W0 => c27 p.W (hN'.below p.h (Nat.le_refl _)) (hR'.below p.h (Nat.le_refl _))
      have q28 := fun p : AX.BW W0 => (c28 p.W (hR'.below p.h (Nat.le_refl _))).mono fun e w' (h : _ ∧ _) => (⟨h.1, h.2 ▸ Below.refl _ _⟩ : e = .returned (.int .i64 m) ∧ Below p.W.heap.size p.W w')
      clear x0 x1 x2 x3 c27 c28 hN' hR'
      refine AX.region_below (by kernel_rfl) (by kernel_rfl) ?_
      repeat (go_big_quiet_step (first | (go_at_call 27; with_reducible exact AX.below_of (q27 _)) | (go_at_call 28; with_reducible exact AX.below_of (q28 _))))
      refine wpQuiet_nil ?_
      rintro _ ⟨p, rfl⟩
      go_wp2
      go_ret
      exact ⟨by rw [HV.out]; rfl, hB.trans (p.h.mono (by omega))⟩
    have hm : m < (kind.length : Int) := by omega
    have HV := Lib.hid (show cv = if inR (-1) kinds kind then 0 else 2 by
      rw [hcv, checkL, okL, ← hok, decide_eq_true hk0, decide_eq_true hk16]
      rw [hall.2 hm, Bool.and_true, Bool.true_and, Bool.true_and, Bool.true_and])
    clear hcv hok hall
    go_enter Tryz.func15, Tryz.ntmps15
    go_wp2_with fail
    generalize w.alloc (.cells #[.slice an next.length cn, .slice ar rule.length cr, .slice ak kind.length ck, .int .i64 kinds] 26) = W0 at *
    have y0 := AX.cell_all x0 hs0; have y1 := AX.cell_all x1 hs0; have y2 := AX.cell_all x2 hs0; have y3 := AX.cell_all x3 hs0
    have q27 := fun p : AX.BW W0 => c27 p.W (hN'.below p.h (Nat.le_refl _)) (hR'.below p.h (Nat.le_refl _))
    have q28 := fun p : AX.BW W0 => (c28 p.W (hR'.below p.h (Nat.le_refl _))).mono fun e w' (h : _ ∧ _) => (⟨h.1, h.2 ▸ Below.refl _ _⟩ : e = .returned (.int .i64 m) ∧ Below p.W.heap.size p.W w')
    clear x0 x1 x2 x3 c27 c28 hN' hR'
    refine AX.region_below (by kernel_rfl) (by kernel_rfl) ?_
    repeat (go_big_quiet_step (first | (go_at_call 27; with_reducible exact AX.below_of (q27 _)) | (go_at_call 28; with_reducible exact AX.below_of (q28 _))))
    refine wpQuiet_nil ?_
    rintro _ ⟨p, rfl⟩
    have z3 := y3 p
    have cK := contains_k kind hk ak ck p.W z3 (hK'.below p.h (Nat.le_refl _))
    have z2 := y2 p
    generalize inR (-1) kinds kind = g at *
    cases g with
    | true =>
      have HV := Lib.hid (show cv = 0 from HV.out)
      go_wp2_with (go_at_call 29; ((with_reducible refine cK.mono ?_); rintro e Wd ⟨rfl, rfl⟩))
      go_ret
      exact ⟨by rw [HV.out]; rfl, hB.trans (p.h.mono (by omega))⟩
    | false =>
      have HV := Lib.hid (show cv = 2 from HV.out)
      go_wp2_with (go_at_call 29; ((with_reducible refine cK.mono ?_); rintro e Wd ⟨rfl, rfl⟩))
      go_ret
      exact ⟨by rw [HV.out]; rfl, hB.trans (p.h.mono (by omega))⟩
end Go.Proofs.YtefjfbhffmkikaaGreatDoor

namespace Go.Proofs.YtefjfbhffmkikaaGreatDoor
open Go Go.Proofs Go.RowKit
attribute [local go_sem] Oper.semAt_some
theorem AX.BW.trans' {w : World} (p : AX.BW w) (q : AX.BW p.W) : ∃ r : AX.BW w, q.W = r.W := ⟨⟨q.W, p.h.trans (q.h.mono p.h.size)⟩, rfl⟩
theorem all_not {l : List Int} {n : Nat} {k : Nat} (hk : k < l.length) (h : (n : Int) ≤ l.getD k 0) : (l.all fun x => decide (x < (n : Int))) = false := by
  rw [Bool.eq_false_iff]
  intro e
  have := List.all_eq_true.1 e _ (List.getElem_mem hk)
  simp only [decide_eq_true_eq] at this
  rw [show l.getD k 0 = l[k] by simp [hk]] at h
  omega
theorem all_of {l : List Int} {n : Nat} (h : ∀ k, k < l.length → l.getD k 0 < (n : Int)) : (l.all fun x => decide (x < (n : Int))) = true := by
  rw [List.all_eq_true]
  intro x hx
  obtain ⟨k, hk, rfl⟩ := List.getElem_of_mem hx
  have := h k hk
  rw [show l.getD k 0 = l[k] by simp [hk]] at this
  simpa using this
set_option maxRecDepth 100000 in
set_option maxHeartbeats 8000000 in
theorem rlcheck_k (next rule kind : List Int) (kinds : Int) (hn : next.length ≤ 1000000) (hr : rule.length ≤ 1000000) (hk : kind.length ≤ 1000000) (an ar ak : Option Addr) (cn cr ck : Nat) (w : World) (hN : IRow w an next) (hR : IRow w ar rule) (hK : IRow w ak kind) :
    Calls Tryz.prog 16 #[.agg #[.slice an next.length cn, .slice ar rule.length cr, .slice ak kind.length ck, .int .i64 kinds]] w fun e w' => e = .returned (.int .i64 (checkL next rule kind kinds)) ∧ Below w.heap.size w w' := by
  have hB := (Below.refl w.heap.size w).alloc (Nat.le_refl _) (.cells #[.slice an next.length cn, .slice ar rule.length cr, .slice ak kind.length ck, .int .i64 kinds] 26)
  obtain ⟨x0, x1, x2, x3⟩ := box4 w (.slice an next.length cn) (.slice ar rule.length cr) (.slice ak kind.length ck) (.int .i64 kinds) 26
  have hN' := hN.below hB (Nat.le_refl _)
  have hR' := hR.below hB (Nat.le_refl _)
  have hK' := hK.below hB (Nat.le_refl _)
  have hs0 : w.heap.size < (w.alloc (.cells #[.slice an next.length cn, .slice ar rule.length cr, .slice ak kind.length ck, .int .i64 kinds] 26)).heap.size := by simp
  obtain ⟨cv, hcv⟩ : ∃ cv, cv = checkL next rule kind kinds := ⟨_, rfl⟩
  rw [← hcv]
  clear hN hR hK
  obtain ⟨ok, hok⟩ : ∃ b, b = okT next rule := ⟨_, rfl⟩
  have c31 := rcheck_k next rule hn hr an ar cn cr _ hN' hR'
  have e27 : checkV next rule = if ok = true then 0 else 2 := by rw [hok]; rfl
  rw [e27] at c31
  clear e27
  by_cases hbad : ok = false ∨ kinds < 0 ∨ 16 < kinds
  · have HV := Lib.hid (show cv = 2 by
      rw [hcv, checkL]
      refine if_neg fun h => ?_
      unfold okL at h
      rw [← hok] at h
      simp only [Bool.and_eq_true, decide_eq_true_eq] at h
      rcases hbad with rfl | h1 | h1
      · exact absurd h.1 (by simp)
      · omega
      · omega)
    clear hcv hok
    rcases hbad with rfl | h1 | h1
    · simp only [Bool.false_eq_true, if_false] at c31
      go_enter Tryz.func16, Tryz.ntmps16
      go_wp2_with fail
      generalize w.alloc (.cells #[.slice an next.length cn, .slice ar rule.length cr, .slice ak kind.length ck, .int .i64 kinds] 26) = W0 at *
      go_wp2_with (go_at_call 31; ((with_reducible refine c31.mono ?_); rintro e Wd ⟨rfl, hBd⟩; obtain ⟨hc, hf⟩ := AX.bcell hBd))
      go_ret
      exact ⟨by rw [HV.out]; rfl, hB.trans (hBd.mono (by omega))⟩
    all_goals
      cases ok
      all_goals
        simp only [Bool.false_eq_true, if_false, if_true] at c31
        go_enter Tryz.func16, Tryz.ntmps16
        go_wp2_with fail
        generalize w.alloc (.cells #[.slice an next.length cn, .slice ar rule.length cr, .slice ak kind.length ck, .int .i64 kinds] 26) = W0 at *
        go_wp2_with (go_at_call 31; ((with_reducible refine c31.mono ?_); rintro e Wd ⟨rfl, hBd⟩; obtain ⟨hc, hf⟩ := AX.bcell hBd))
        all_goals
          go_ret
          exact ⟨by rw [HV.out]; rfl, hB.trans (hBd.mono (by omega))⟩
  · have hk0 : 0 ≤ kinds := by omega
    have hk16 : kinds ≤ 16 := by omega
    obtain rfl : ok = true := by cases ok <;> simp_all
    simp only [if_true] at c31
    have hcv : cv = if (inR (-1) kinds kind && rule.all fun x => decide (x < (kind.length : Int))) = true then 0 else 2 := by
      rw [hcv, checkL, okL, ← hok, decide_eq_true hk0, decide_eq_true hk16, Bool.true_and, Bool.true_and, Bool.true_and]
    obtain ⟨kd, hkd⟩ : ∃ f : Nat → Int, f = fun k => kind.getD k 0 := ⟨_, rfl⟩
    obtain ⟨rl, hrl⟩ : ∃ f : Nat → Int, f = fun k => rule.getD k 0 := ⟨_, rfl⟩
    have HF1 : Hid (∀ k, k < kind.length → ¬ (-1 ≤ kd k ∧ kd k < kinds) → cv = 2) := Lib.hid fun k hk h => by
      rw [hkd] at h; rw [hcv, inR_not hk h]; rfl
    have HF2 : Hid (∀ k, k < rule.length → (kind.length : Int) ≤ rl k → cv = 2) := Lib.hid fun k hk h => by
      rw [hrl] at h; rw [hcv, all_not hk h, Bool.and_false]; rfl
    have HT : Hid ((∀ k, k < kind.length → -1 ≤ kd k ∧ kd k < kinds) → (∀ k, k < rule.length → rl k < (kind.length : Int)) → cv = 0) := Lib.hid fun a b => by
      rw [hkd] at a; rw [hrl] at b; rw [hcv, inR_of a, all_of b]; rfl
    have HK : Hid (∀ W, IRow W ak kind → ∀ j, j < kind.length → ∃ b off, ak = some ⟨b, off, none⟩ ∧ b < W.heap.size ∧ W.cell? ⟨b, off + j, none⟩ = some (.int .i64 (kd j))) := Lib.hid fun W h j hj => by rw [hkd]; exact h.get hj
    have HR : Hid (∀ W, IRow W ar rule → ∀ j, j < rule.length → ∃ b off, ar = some ⟨b, off, none⟩ ∧ b < W.heap.size ∧ W.cell? ⟨b, off + j, none⟩ = some (.int .i64 (rl j))) := Lib.hid fun W h j hj => by rw [hrl]; exact h.get hj
    clear hcv hok hkd hrl hbad
    go_enter Tryz.func16, Tryz.ntmps16
    go_wp2_with fail
    generalize w.alloc (.cells #[.slice an next.length cn, .slice ar rule.length cr, .slice ak kind.length ck, .int .i64 kinds] 26) = W0 at *
    go_wp2_with (go_at_call 31; ((with_reducible refine c31.mono ?_); rintro e W1 ⟨rfl, hBd⟩; obtain ⟨hc, hf⟩ := AX.bcell hBd))
    have z0 := (hBd.cell (p := ⟨w.heap.size, 0, none⟩) hs0).trans x0
    have z1 := (hBd.cell (p := ⟨w.heap.size, 1, none⟩) hs0).trans x1
    have z2 := (hBd.cell (p := ⟨w.heap.size, 2, none⟩) hs0).trans x2
    have z3 := (hBd.cell (p := ⟨w.heap.size, 3, none⟩) hs0).trans x3
    have hs1 := Nat.lt_of_lt_of_le hs0 hBd.size
    have hR1 := hR'.below hBd (Nat.le_refl _)
    have hK1 := hK'.below hBd (Nat.le_refl _)
    have hB1 := hB.trans (hBd.mono (by omega))
    have y0 := AX.cell_all z0 hs1; have y1 := AX.cell_all z1 hs1; have y2 := AX.cell_all z2 hs1; have y3 := AX.cell_all z3 hs1
    have HKp : Hid (∀ p : AX.BW W1, ∀ j, j < kind.length → ∃ b off, ak = some ⟨b, off, none⟩ ∧ b < p.W.heap.size ∧ p.W.cell? ⟨b, off + j, none⟩ = some (.int .i64 (kd j))) := Lib.hid fun p => HK.out _ (hK1.below p.h (Nat.le_refl _))
    have HRp : Hid (∀ p : AX.BW W1, ∀ j, j < rule.length → ∃ b off, ar = some ⟨b, off, none⟩ ∧ b < p.W.heap.size ∧ p.W.cell? ⟨b, off + j, none⟩ = some (.int .i64 (rl j))) := Lib.hid fun p => HR.out _ (hR1.below p.h (Nat.le_refl _))
    clear hc hf x0 x1 x2 x3 z0 z1 z2 z3 HK HR hK' hR' hN' c31 hR1 hK1 hB hs0 hBd
    generalize next.length = N at *
    generalize rule.length = R at *
    generalize kind.length = K at *
    go_loopw [3] (fun i wr => ∃ k : Nat, k ≤ K ∧ i = .int .i64 k ∧ Hid (∀ j, j < k → -1 ≤ kd j ∧ kd j < kinds) ∧ ∃ p : AX.BW W1, wr = p.W) (fun i _ => K - (intOf i).toNat)
    case atStart => exact ⟨0, Nat.zero_le _, rfl, Lib.hid fun j hj => absurd hj (by omega), ⟨_, Below.refl _ _⟩, rfl⟩
    case round =>
      obtain ⟨k, hk, rfl, hg, p, rfl⟩ := hrel
      have u2 := y2 p
      have u1 := y1 p
      rcases Nat.lt_or_ge k K with hlt | hge
      · have hk0' : (0 : Int) ≤ (k : Int) := by omega
        have hk1 : (k : Int) < (K : Int) := by omega
        obtain ⟨b, off, rfl, hb, hcell⟩ := HKp.out p k hlt
        have HE := Lib.hid (HF1.out k hlt)
        have HG : Hid ((-1 ≤ kd k ∧ kd k < kinds) → ∀ j, j < k + 1 → -1 ≤ kd j ∧ kd j < kinds) := Lib.hid fun h j hj => by
          rcases Nat.lt_or_ge j k with h1 | h1
          · exact hg.out j h1
          · obtain rfl : j = k := by omega
            exact h
        have hsp := Nat.lt_of_lt_of_le hs1 p.h.size
        have v2 := AX.cell_all u2 hsp; have v3 := AX.cell_all (y3 p) hsp; have vc := AX.cell_all hcell hb
        generalize kd k = x at *
        by_cases hx : -1 ≤ x ∧ x < kinds
        · obtain ⟨hx1, hx2⟩ := hx
          have d1 : decide (x < -1) = false := by simp; omega
          have d2 : decide (kinds ≤ x) = false := by simp; omega
          go_wp2
          refine AX.region_below (by kernel_rfl) (by kernel_rfl) ?_
          repeat (go_big_quiet_step (fail))
          refine wpQuiet_nil ?_
          rintro _ ⟨q, rfl⟩
          go_wp2
          go_roundw
          case rel => exact ⟨k + 1, by omega, by simp, Lib.hid (HG.out ⟨hx1, hx2⟩), AX.BW.trans' p q⟩
          case measure => simp [intOf]; omega
        · have HE2 := Lib.hid (HE.out hx)
          by_cases h5 : x < -1
          · have d1 : decide (x < -1) = true := by simp; omega
            clear hx
            go_wp2
            refine AX.region_below (by kernel_rfl) (by kernel_rfl) ?_
            repeat (go_big_quiet_step (fail))
            refine wpQuiet_nil ?_
            rintro _ ⟨q, rfl⟩
            go_wp2
            go_ret
            exact ⟨by rw [HE2.out]; rfl, hB1.trans ((p.h.trans (q.h.mono p.h.size)).mono (Nat.le_of_lt hs1))⟩
          · have h6 : kinds ≤ x := by omega
            have h7 : -1 ≤ x := by omega
            have d1 : decide (x < -1) = false := by simp; omega
            have d2 : decide (kinds ≤ x) = true := by simp; omega
            clear hx h5
            go_wp2
            refine AX.region_below (by kernel_rfl) (by kernel_rfl) ?_
            repeat (go_big_quiet_step (fail))
            refine wpQuiet_nil ?_
            rintro _ ⟨q, rfl⟩
            go_wp2
            go_ret
            exact ⟨by rw [HE2.out]; rfl, hB1.trans ((p.h.trans (q.h.mono p.h.size)).mono (Nat.le_of_lt hs1))⟩
      · obtain rfl : k = K := by omega
        clear hge hk u2 u1
        go_wp2
        obtain ⟨Wp, hWp⟩ : ∃ Wp, Wp = p.W := ⟨_, rfl⟩
        go_loopw [4] (fun i wr => ∃ k2 : Nat, k2 ≤ R ∧ i = .int .i64 k2 ∧ Hid (∀ j, j < k2 → rl j < (k : Int)) ∧ ∃ p : AX.BW W1, wr = p.W) (fun i _ => R - (intOf i).toNat)
        case atStart => exact ⟨0, Nat.zero_le _, rfl, Lib.hid fun j hj => absurd hj (by omega), p, rfl⟩
        case round =>
          clear hWp
          clear p
          obtain ⟨k2, hk2, rfl, hg2, p, rfl⟩ := hrel
          have u1 := y1 p
          rcases Nat.lt_or_ge k2 R with hlt | hge
          · have hk0' : (0 : Int) ≤ (k2 : Int) := by omega
            have hk1 : (k2 : Int) < (R : Int) := by omega
            obtain ⟨b, off, rfl, hb, hcell⟩ := HRp.out p k2 hlt
            have HE := Lib.hid (HF2.out k2 hlt)
            have HG : Hid (rl k2 < (k : Int) → ∀ j, j < k2 + 1 → rl j < (k : Int)) := Lib.hid fun h j hj => by
              rcases Nat.lt_or_ge j k2 with h1 | h1
              · exact hg2.out j h1
              · obtain rfl : j = k2 := by omega
                exact h
            have hsp := Nat.lt_of_lt_of_le hs1 p.h.size
            have v1 := AX.cell_all u1 hsp; have v2 := AX.cell_all (y2 p) hsp; have vc := AX.cell_all hcell hb
            generalize rl k2 = x at *
            by_cases hx : x < (k : Int)
            · have d1 : decide ((k : Int) ≤ x) = false := by simp; omega
              go_wp2
              refine AX.region_below (by kernel_rfl) (by kernel_rfl) ?_
              repeat (go_big_quiet_step (fail))
              refine wpQuiet_nil ?_
              rintro _ ⟨q, rfl⟩
              go_wp2
              go_roundw
              case rel => exact ⟨k2 + 1, by omega, by simp, Lib.hid (HG.out hx), AX.BW.trans' p q⟩
              case measure => simp [intOf]; omega
            · have HE2 := Lib.hid (HE.out (by omega))
              have hx' : (k : Int) ≤ x := by omega
              clear hx
              go_wp2
              refine AX.region_below (by kernel_rfl) (by kernel_rfl) ?_
              repeat (go_big_quiet_step (fail))
              refine wpQuiet_nil ?_
              rintro _ ⟨q, rfl⟩
              go_wp2
              go_ret
              exact ⟨by rw [HE2.out]; rfl, hB1.trans ((p.h.trans (q.h.mono p.h.size)).mono (Nat.le_of_lt hs1))⟩
          · obtain rfl : k2 = R := by omega
            have HE2 := Lib.hid (HT.out hg.out hg2.out)
            go_wp2
            go_ret
            exact ⟨by rw [HE2.out]; rfl, hB1.trans (p.h.mono (Nat.le_of_lt hs1))⟩
end Go.Proofs.YtefjfbhffmkikaaGreatDoor

namespace Go.Proofs.YtefjfbhffmkikaaGreatDoor
open Go Go.Proofs Go.RowKit
attribute [local go_sem] Oper.semAt_some
/-- A block known whole. -/
def Bx (w : World) (g : Nat) (t : TypeId) (cs : Array Value) : Prop := w.heap[g]? = some (.cells cs t (0, 0))
theorem Bx.lt {w : World} {g : Nat} {t : TypeId} {cs : Array Value} (h : Bx w g t cs) : g < w.heap.size := (Array.getElem?_eq_some_iff.1 h).1
theorem Bx.cell {w : World} {g : Nat} {t : TypeId} {cs : Array Value} (h : Bx w g t cs) (i : Nat) : w.cell? ⟨g, i, none⟩ = cs[i]? := cell_of_row w g i cs t (0, 0) h
theorem Bx.frozen {w : World} {g : Nat} {t : TypeId} {cs : Array Value} (h : Bx w g t cs) (i : Nat) : w.frozen? ⟨g, i, none⟩ = false := by simp [World.frozen?, show w.heap[g]? = _ from h]
theorem Bx.new (w : World) (t : TypeId) (cs : Array Value) : Bx (w.alloc (.cells cs t)) w.heap.size t cs := World.alloc_heap_new w _
theorem Bx.below {n : Nat} {w w' : World} {g : Nat} {t : TypeId} {cs : Array Value} (h : Bx w g t cs) (hb : Below n w w') (hn : g < n) : Bx w' g t cs := (hb.block _ hn).trans h
theorem Bx.alloc {w : World} {g : Nat} {t : TypeId} {cs : Array Value} (h : Bx w g t cs) (o : Obj) : Bx (w.alloc o) g t cs := (Below.heap_alloc w o _ h.lt).trans h
theorem Bx.set {w : World} {g : Nat} {t : TypeId} {cs : Array Value} (h : Bx w g t cs) (i : Nat) (u : Value) : Bx (w.setCell ⟨g, i, none⟩ u) g t (cs.setIfInBounds i u) := heap_setCell_same w g i cs t u h
theorem Bx.other {w : World} {g g' i : Nat} {t : TypeId} {cs : Array Value} {u : Value} (h : Bx w g t cs) (hne : g ≠ g') : Bx (w.setCell ⟨g', i, none⟩ u) g t cs := (Below.heap_setCell _ _ _ _ hne).trans h
/-- The bytes of a text. -/
def sb (s : ByteArray) : List Nat := s.data.toList.map UInt8.toNat
theorem sb_len (s : ByteArray) : (sb s).length = s.size := by simp [sb]
theorem sb_lt (s : ByteArray) : ∀ b ∈ sb s, b < 256 := fun b hb => by
  obtain ⟨u, _, hu⟩ := List.mem_map.1 hb
  have := UInt8.toNat_lt u
  omega
theorem sb_get (s : ByteArray) (i : Nat) (h : i < s.size) : (sb s).getD i 0 = s[i].toNat := by
  have : i < s.data.size := h
  simp only [sb, List.getD, List.getElem?_map, Array.getElem?_toList]
  rw [Array.getElem?_eq_getElem this]
  rfl
/-- A scan. -/
def scV (a l s r f t e : Int) (b d : Bool) : Value := .agg #[.int .i64 a, .int .i64 l, .int .i64 s, .int .i64 r, .int .i64 f, .int .i64 t, .int .i64 e, .bool b, .bool d]
def scC (a l s r f t e : Int) (b d : Bool) : Array Value := #[.int .i64 a, .int .i64 l, .int .i64 s, .int .i64 r, .int .i64 f, .int .i64 t, .int .i64 e, .bool b, .bool d]
set_option maxHeartbeats 4000000 in
theorem begin_k (a : Nat) (ha : a ≤ 1000000) (w : World) : Calls Tryz.prog 87 #[.int .i64 a] w fun e w' => e = .returned (scV a 0 0 (-1) a (a + 1) 0 true false) ∧ Below w.heap.size w w' := by
  unfold scV
  go_enter Tryz.func87, Tryz.ntmps87
  go_wp2
  exact bodyPost_ret (v := .agg #[.int .i64 a, .int .i64 0, .int .i64 0, .int .i64 (-1), .int .i64 a, .int .i64 (a + 1), .int .i64 0, .bool true, .bool false]) (by simp [results, Tryz.results87, go_sem]) rfl ⟨rfl, (Below.refl _ w).alloc (Nat.le_refl _) _⟩
section
variable {next rule : List Int} {an ar : Option Addr} {cn cr : Nat} {w : World}
set_option maxRecDepth 100000 in
set_option maxHeartbeats 4000000 in
theorem look_end (s : ByteArray) (a l : Nat) (st : Int) (r f t e : Int) (hi : a + l = s.size) (hs : s.size ≤ 1000000) :
    Calls Tryz.prog 88 #[scV a l st r f t e true false, .agg #[.slice an next.length cn, .slice ar rule.length cr], .string s] w fun en w' => en = .returned (scV a (l + 1) st r f t (s.size + 1) true true) ∧ Below w.heap.size w w' := by
  unfold scV
  have hz : (a : Int) + (l : Int) = (s.size : Int) := by omega
  have hal : (a : Int) ≤ 1000000 := by omega
  have hll : (l : Int) ≤ 1000000 := by omega
  have ha0 : (0 : Int) ≤ (a : Int) := by omega
  have hl0 : (0 : Int) ≤ (l : Int) := by omega
  have hs1 : (s.size : Int) ≤ 1000000 := by omega
  generalize next.length = N at *
  generalize rule.length = R at *
  clear hi
  go_enter Tryz.func88, Tryz.ntmps88
  go_wp2
  exact bodyPost_ret (v := .agg #[.int .i64 a, .int .i64 (l + 1), .int .i64 st, .int .i64 r, .int .i64 f, .int .i64 t, .int .i64 (s.size + 1), .bool true, .bool true]) (by simp [results, Tryz.results88, go_sem]) rfl ⟨rfl, (((Below.refl _ w).alloc (Nat.le_refl _) _).alloc (by simp) _).alloc (by simp; omega) _⟩
set_option maxRecDepth 100000 in
set_option maxHeartbeats 8000000 in
/-- A byte is read. -/
theorem look_in (hN : IRow w an next) (hR : IRow w ar rule) (s : ByteArray) (a l st : Nat) (r f t e : Int) (hi : a + l < s.size) (hs : s.size ≤ 1000000) (hst : st < rule.length) (hr : rule.length ≤ 512) (hnl : next.length = 256 * rule.length)
    (x : Int) (hx : x = next.getD (256 * st + (sb s).getD (a + l) 0) 0) (hxr : x < rule.length) :
    Calls Tryz.prog 88 #[scV a l st r f t e true false, .agg #[.slice an next.length cn, .slice ar rule.length cr], .string s] w fun en w' =>
      en = .returned (if x < 0 then scV a (l + 1) x r f t (a + l + 1) true true else if 0 ≤ rule.getD x.toNat 0 then scV a (l + 1) x (rule.getD x.toNat 0) f (a + l + 1) (a + l + 1) true false else scV a (l + 1) x r f t (a + l + 1) true false) ∧ Below w.heap.size w w' := by
  have hb : (sb s).getD (a + l) 0 < 256 := by
    rw [sb_get s _ hi]; exact UInt8.toNat_lt _
  have hlt : 256 * st + (sb s).getD (a + l) 0 < next.length := by omega
  obtain ⟨b1, o1, rfl, hb1, hc1⟩ := hN.get hlt
  rw [← hx] at hc1
  rw [sb_get s _ hi] at hc1 hb hlt
  have hal : (a : Int) ≤ 1000000 := by omega
  have hll : (l : Int) ≤ 1000000 := by omega
  have ha0 : (0 : Int) ≤ (a : Int) := by omega
  have hl0 : (0 : Int) ≤ (l : Int) := by omega
  have hs1 : (s.size : Int) ≤ 1000000 := by omega
  have hlt1 : (a : Int) + (l : Int) < (s.size : Int) := by omega
  have hne : ((a : Int) + (l : Int) == (s.size : Int)) = false := by simp; omega
  have htn : ((a : Int) + (l : Int)).toNat = a + l := by omega
  obtain ⟨c, hc⟩ : ∃ c, s[a + l].toNat = c := ⟨_, rfl⟩
  rw [hc] at hc1 hb hlt
  have hp0 : (0 : Int) ≤ (a : Int) + (l : Int) := by omega
  have hc0 : (0 : Int) ≤ (c : Int) := by omega
  have hc2 : (c : Int) < 256 := by omega
  have hs0 : (0 : Int) ≤ (st : Int) := by omega
  have hs5 : (st : Int) < 512 := by omega
  have hq : 256 * (st : Int) + (c : Int) < (next.length : Int) := by omega
  have htq : (256 * (st : Int) + (c : Int)).toNat = 256 * st + c := by omega
  have hbw : b1 < w.heap.size := hb1
  clear hx hb1 hnl
  by_cases h1 : x < 0
  · rw [if_pos h1]
    unfold scV
    clear hR
    generalize next.length = N at *
    generalize rule.length = R at *
    go_enter Tryz.func88, Tryz.ntmps88
    go_wp2
    have w1 : IntKind.i64.wrap (256 * (st : Int)) = 256 * (st : Int) := by rw [IntKind.wrap_i64]; omega
    have w2 : IntKind.i64.wrap (c : Int) = (c : Int) := by rw [IntKind.wrap_i64]; omega
    have w3 : IntKind.i64.wrap (256 * (st : Int) + (c : Int)) = 256 * (st : Int) + (c : Int) := by rw [IntKind.wrap_i64]; omega
    have hp1 : (0 : Int) ≤ 256 * (st : Int) + (c : Int) := by omega
    have hb2 : b1 < w.heap.size + 1 := by omega
    have hb3 : b1 < w.heap.size + 1 + 1 := by omega
    go_region
    go_wp2
    exact bodyPost_ret (v := .agg #[.int .i64 a, .int .i64 (l + 1), .int .i64 x, .int .i64 r, .int .i64 f, .int .i64 t, .int .i64 (a + l + 1), .bool true, .bool true]) (by simp [results, Tryz.results88, go_sem]) rfl
      ⟨rfl, ((((Below.refl _ w).alloc (Nat.le_refl _) _).alloc (by simp) _).alloc (by simp; omega) _).drew⟩
  · rw [if_neg h1]
    obtain ⟨y, rfl⟩ : ∃ y : Nat, x = y := ⟨x.toNat, by omega⟩
    have hyl : y < rule.length := by omega
    obtain ⟨b2, o2, rfl, hb4, hc4⟩ := hR.get hyl
    rw [Int.toNat_natCast]
    have hy0 : (0 : Int) ≤ (y : Int) := by omega
    have hy1 : (y : Int) < (rule.length : Int) := by omega
    have hb5 : b2 < w.heap.size + 1 := by omega
    have hb6 : b2 < w.heap.size + 1 + 1 := by omega
    generalize rule.getD y 0 = u at *
    clear hR h1
    have hyn : ¬ ((y : Int) < 0) := by omega
    unfold scV
    generalize next.length = N at *
    generalize rule.length = R at *
    by_cases hu : 0 ≤ u
    · rw [if_pos hu]
      go_enter Tryz.func88, Tryz.ntmps88
      go_wp2
      have w1 : IntKind.i64.wrap (256 * (st : Int)) = 256 * (st : Int) := by rw [IntKind.wrap_i64]; omega
      have w2 : IntKind.i64.wrap (c : Int) = (c : Int) := by rw [IntKind.wrap_i64]; omega
      have w3 : IntKind.i64.wrap (256 * (st : Int) + (c : Int)) = 256 * (st : Int) + (c : Int) := by rw [IntKind.wrap_i64]; omega
      have hp1 : (0 : Int) ≤ 256 * (st : Int) + (c : Int) := by omega
      have hb2 : b1 < w.heap.size + 1 := by omega
      have hb3 : b1 < w.heap.size + 1 + 1 := by omega
      go_region
      go_wp2
      exact bodyPost_ret (v := .agg #[.int .i64 a, .int .i64 (l + 1), .int .i64 y, .int .i64 u, .int .i64 f, .int .i64 (a + l + 1), .int .i64 (a + l + 1), .bool true, .bool false]) (by simp [results, Tryz.results88, go_sem]) rfl
        ⟨rfl, ((((Below.refl _ w).alloc (Nat.le_refl _) _).alloc (by simp) _).alloc (by simp; omega) _).drew⟩
    · rw [if_neg hu]
      have hu' : u < 0 := by omega
      clear hu
      go_enter Tryz.func88, Tryz.ntmps88
      go_wp2
      have w1 : IntKind.i64.wrap (256 * (st : Int)) = 256 * (st : Int) := by rw [IntKind.wrap_i64]; omega
      have w2 : IntKind.i64.wrap (c : Int) = (c : Int) := by rw [IntKind.wrap_i64]; omega
      have w3 : IntKind.i64.wrap (256 * (st : Int) + (c : Int)) = 256 * (st : Int) + (c : Int) := by rw [IntKind.wrap_i64]; omega
      have hp1 : (0 : Int) ≤ 256 * (st : Int) + (c : Int) := by omega
      have hb2 : b1 < w.heap.size + 1 := by omega
      have hb3 : b1 < w.heap.size + 1 + 1 := by omega
      go_region
      go_wp2
      exact bodyPost_ret (v := .agg #[.int .i64 a, .int .i64 (l + 1), .int .i64 y, .int .i64 r, .int .i64 f, .int .i64 t, .int .i64 (a + l + 1), .bool true, .bool false]) (by simp [results, Tryz.results88, go_sem]) rfl
        ⟨rfl, ((((Below.refl _ w).alloc (Nat.le_refl _) _).alloc (by simp) _).alloc (by simp; omega) _).drew⟩
end
end Go.Proofs.YtefjfbhffmkikaaGreatDoor

namespace Go.Proofs.YtefjfbhffmkikaaGreatDoor
open Go Go.Proofs Go.RowKit
attribute [local go_sem] Oper.semAt_some
section
variable {next rule : List Int} {an ar : Option Addr} {cn cr : Nat} {w : World}
/-- What is kept over the looks. -/
structure Sc (w W : World) (next rule : List Int) (an ar : Option Addr) (cn cr : Nat) (B : Nat) : Prop where
  b : Below w.heap.size w W
  d : Bx W w.heap.size 24 #[.slice an next.length cn, .slice ar rule.length cr]
  z : Bx W (w.heap.size + 1) 82 #[.int .i64 0, .int .i64 0, .int .i64 0, .int .i64 0]
  lt : w.heap.size + 1 < B
theorem Sc.below {W W' : World} {B : Nat} (h : Sc w W next rule an ar cn cr B) (hb : Below B W W') : Sc w W' next rule an ar cn cr B := by
  have := h.lt
  exact ⟨h.b.trans (hb.mono (by omega)), h.d.below hb (by omega), h.z.below hb h.lt, h.lt⟩
/-- The looks that a scan's block tells. -/
def looksAt (w : World) (B : Nat) : Nat := match w.cell? ⟨B, 1, none⟩ with
  | some (.int _ q) => q.toNat
  | _ => 0
theorem looks_bx {w : World} {B : Nat} {a s r f t e : Int} {l : Nat} {b d : Bool} (h : Bx w B 162 (scC a l s r f t e b d)) : looksAt w B = l := by
  unfold looksAt
  rw [h.cell 1]
  rfl
theorem Bx.nine {w : World} {B : Nat} {t : TypeId} {v0 v1 v2 v3 v4 v5 v6 v7 v8 : Value} (h : Bx w B t #[v0, v1, v2, v3, v4, v5, v6, v7, v8]) : w.cell? ⟨B, 0, none⟩ = some v0 ∧ w.cell? ⟨B, 1, none⟩ = some v1 ∧ w.cell? ⟨B, 2, none⟩ = some v2 ∧ w.cell? ⟨B, 3, none⟩ = some v3 ∧ w.cell? ⟨B, 4, none⟩ = some v4 ∧ w.cell? ⟨B, 5, none⟩ = some v5 ∧ w.cell? ⟨B, 6, none⟩ = some v6 ∧ w.cell? ⟨B, 7, none⟩ = some v7 ∧ w.cell? ⟨B, 8, none⟩ = some v8 :=
  ⟨h.cell 0, h.cell 1, h.cell 2, h.cell 3, h.cell 4, h.cell 5, h.cell 6, h.cell 7, h.cell 8⟩
theorem munch_step {t : List Nat} {i st : Nat} {r : Int} {to : Nat} (hi : i < t.length) : munchF next rule t (t.length - i) i st r to = if next.getD (256 * st + t.getD i 0) 0 < 0 then (r, to, i + 1) else if 0 ≤ rule.getD (next.getD (256 * st + t.getD i 0) 0).toNat 0 then munchF next rule t (t.length - (i + 1)) (i + 1) (next.getD (256 * st + t.getD i 0) 0).toNat (rule.getD (next.getD (256 * st + t.getD i 0) 0).toNat 0) (i + 1) else munchF next rule t (t.length - (i + 1)) (i + 1) (next.getD (256 * st + t.getD i 0) 0).toNat r to := by
  rw [show t.length - i = (t.length - (i + 1)) + 1 from by omega, munchF, if_pos hi]
theorem Bx.four {w : World} {B : Nat} {t : TypeId} {v0 v1 v2 v3 : Value} (h : Bx w B t #[v0, v1, v2, v3]) : w.cell? ⟨B, 0, none⟩ = some v0 ∧ w.cell? ⟨B, 1, none⟩ = some v1 ∧ w.cell? ⟨B, 2, none⟩ = some v2 ∧ w.cell? ⟨B, 3, none⟩ = some v3 := ⟨h.cell 0, h.cell 1, h.cell 2, h.cell 3⟩
theorem sz82 : AX.sizeT Tryz.prog 82 = some 4 := by kernel_rfl
theorem sz162 : AX.sizeT Tryz.prog 162 = some 9 := by kernel_rfl
set_option maxRecDepth 100000 in
set_option maxHeartbeats 8000000 in
theorem mnext_k (hN : IRow w an next) (hR : IRow w ar rule) (s : ByteArray) (at_ : Nat) (hi : at_ < s.size) (hs : s.size ≤ 1000000) (hr0 : 1 ≤ rule.length) (hr : rule.length ≤ 512) (hnl : next.length = 256 * rule.length) (hbd : ∀ x ∈ next, -1 ≤ x ∧ x < rule.length) :
    Calls Tryz.prog 62 #[.agg #[.slice an next.length cn, .slice ar rule.length cr], .string s, .int .i64 at_] w fun e w' =>
      e = .returned (.agg #[.int .i64 (lexV next rule (sb s) at_).1, .int .i64 at_, .int .i64 (lexV next rule (sb s) at_).2.1, .int .i64 (lexV next rule (sb s) at_).2.2]) ∧ Below w.heap.size w w' := by
  have hB := ((Below.refl w.heap.size w).alloc (Nat.le_refl _) (.cells #[.slice an next.length cn, .slice ar rule.length cr] 24)).alloc (by simp) (.cells #[.int .i64 0, .int .i64 0, .int .i64 0, .int .i64 0] 82)
  have hD : Bx ((w.alloc (.cells #[.slice an next.length cn, .slice ar rule.length cr] 24)).alloc (.cells #[.int .i64 0, .int .i64 0, .int .i64 0, .int .i64 0] 82)) w.heap.size 24 #[.slice an next.length cn, .slice ar rule.length cr] := (Bx.new _ _ _).alloc _
  have hZ : Bx ((w.alloc (.cells #[.slice an next.length cn, .slice ar rule.length cr] 24)).alloc (.cells #[.int .i64 0, .int .i64 0, .int .i64 0, .int .i64 0] 82)) (w.heap.size + 1) 82 #[.int .i64 0, .int .i64 0, .int .i64 0, .int .i64 0] := by
    have := Bx.new (w.alloc (.cells #[.slice an next.length cn, .slice ar rule.length cr] 24)) 82 #[.int .i64 0, .int .i64 0, .int .i64 0, .int .i64 0]
    rwa [World.size_alloc] at this
  have hbg := fun W => begin_k at_ (by omega) W
  unfold scV at hbg
  have HNL := Lib.hid hnl
  clear hnl
  go_enter Tryz.func62, Tryz.ntmps62
  go_wp2_with fail
  generalize (w.alloc (.cells #[.slice an next.length cn, .slice ar rule.length cr] 24)).alloc (.cells #[.int .i64 0, .int .i64 0, .int .i64 0, .int .i64 0] 82) = W0 at *
  have hz1 := hZ.lt
  go_step3
  go_wp2_with (go_at_call 87; ((with_reducible refine (hbg _).mono ?_); rintro e W1 ⟨rfl, hBd⟩))
  go_step3
  go_wp2_with fail
  obtain ⟨B, hBe⟩ : ∃ B, W1.heap.size = B := ⟨_, rfl⟩
  have hS1 : Sc w (W1.alloc (.cells (scC at_ 0 0 (-1) at_ (at_ + 1) 0 true false) 162)) next rule an ar cn cr B := by
    have hlt : w.heap.size + 1 < W1.heap.size := Nat.lt_of_lt_of_le hz1 hBd.size
    have hB3 := hBd.alloc (Nat.le_refl _ |> fun h => Nat.le_trans h hBd.size) (.cells (scC at_ 0 0 (-1) at_ (at_ + 1) 0 true false) 162)
    exact ⟨hB.trans (hB3.mono (by omega)), hD.below hB3 (by omega), hZ.below hB3 hz1, hBe ▸ hlt⟩
  have hX1 : Bx (W1.alloc (.cells (scC at_ 0 0 (-1) at_ (at_ + 1) 0 true false) 162)) B 162 (scC at_ 0 0 (-1) at_ (at_ + 1) 0 true false) := hBe ▸ Bx.new _ _ _
  clear hBd hbg hz1 hD hZ hB
  rw [hBe]
  clear hBe
  unfold scC at hS1 hX1
  generalize (W1.alloc (.cells #[.int .i64 at_, .int .i64 0, .int .i64 0, .int .i64 (-1), .int .i64 at_, .int .i64 (at_ + 1), .int .i64 0, .bool true, .bool false] 162)) = W2 at *
  go_loopw [] (fun wr => ∃ (l st : Nat) (r : Int) (to : Nat) (e : Int), at_ + l ≤ s.size ∧ st < rule.length ∧ Bx wr B 162 (scC at_ l st r at_ to e true false) ∧ Sc w wr next rule an ar cn cr B ∧ Hid (munchF next rule (sb s) (s.size - (at_ + l)) (at_ + l) st r to = lexV next rule (sb s) at_)) (fun wr => s.size + 1 - looksAt wr B)
  case atStart => exact ⟨0, 0, -1, at_ + 1, 0, by omega, by omega, hX1, hS1, Lib.hid (by unfold lexV; rw [sb_len]; rfl)⟩
  case round =>
    obtain ⟨l, st, r, to, e, hle, hst, hBx, hS, hm⟩ := hrel
    rw [looks_bx hBx]
    obtain ⟨c0, c1, c2, c3, c4, c5, c6, c7, c8⟩ := Bx.nine hBx
    have d0 : wr.cell? ⟨w.heap.size, 0, none⟩ = some (.slice an next.length cn) := hS.d.cell 0
    have d1 : wr.cell? ⟨w.heap.size, 1, none⟩ = some (.slice ar rule.length cr) := hS.d.cell 1
    have hBl := hBx.lt
    rcases Nat.lt_or_eq_of_le hle with hlt | heq
    · have hnl := HNL.out
      obtain ⟨x, hx⟩ : ∃ x, x = next.getD (256 * st + (sb s).getD (at_ + l) 0) 0 := ⟨_, rfl⟩
      have hix : 256 * st + (sb s).getD (at_ + l) 0 < next.length := by
        have : (sb s).getD (at_ + l) 0 < 256 := by rw [sb_get s _ hlt]; exact UInt8.toNat_lt _
        omega
      have hxb := hbd _ (getD_mem hix)
      rw [← hx] at hxb
      have hlk := look_in (cn := cn) (cr := cr) (hN.below hS.b (Nat.le_refl _)) (hR.below hS.b (Nat.le_refl _)) s at_ l st r at_ to e hlt hs hst hr hnl x hx hxb.2
      have hm := hm.out
      rw [← sb_len, munch_step (by rw [sb_len]; exact hlt), ← hx] at hm
      clear hix hnl hx
      by_cases h1 : x < 0
      · rw [if_pos h1] at hlk hm
        have HM := Lib.hid hm
        clear hm
        unfold scV at hlk
        go_wp2_with (first
          | (go_at_call 88; (with_reducible refine hlk.mono ?_); rintro e3 W3 ⟨rfl, hB3⟩; have hB4 := hBx.below hB3 hBx.lt; clear hBx c0 c1 c2 c3 c4 c5 c6 c7 c8 d0 d1 hlk)
          | (refine AX.wpList_storeBox (vs := [.int .i64 at_, .int .i64 (l + 1), .int .i64 x, .int .i64 r, .int .i64 at_, .int .i64 to, .int .i64 (at_ + l + 1), .bool true, .bool true]) rfl rfl sz162 hB4 rfl rfl ?_; rintro W4 h4 h5 h6; have h4 : Bx W4 B 162 #[.int .i64 at_, .int .i64 (l + 1), .int .i64 x, .int .i64 r, .int .i64 at_, .int .i64 to, .int .i64 (at_ + l + 1), .bool true, .bool true] := h4; have hS4 := hS.below ((hB3.mono (Nat.le_of_lt hBl)).trans (AX.below_turn (Nat.le_refl _) (.inl h4.lt) h5 h6)); obtain ⟨c0, c1, c2, c3, c4, c5, c6, c7, c8⟩ := Bx.nine h4; clear h5 h6 hB3 hB4)
          | (refine AX.wpList_storeBox (vs := [.int .i64 r, .int .i64 at_, .int .i64 to, .int .i64 (at_ + l + 1)]) rfl rfl sz82 hS4.z rfl rfl ?_; rintro W5 h7 h8 h9; have h7 : Bx W5 (w.heap.size + 1) 82 #[.int .i64 r, .int .i64 at_, .int .i64 to, .int .i64 (at_ + l + 1)] := h7; have hb5 := hS4.b.trans (AX.below_turn (Nat.le_succ _) (.inl h7.lt) h8 h9); obtain ⟨z0, z1, z2, z3⟩ := Bx.four h7; clear h8 h9))
        rw [Exit.noGoto_ret]
        exact bodyPost_ret (v := .agg #[.int .i64 r, .int .i64 at_, .int .i64 to, .int .i64 (at_ + l + 1)]) (by simp [results, Tryz.results62, go_sem, z0, z1, z2, z3]) rfl ⟨by rw [← HM.out]; rfl, hb5⟩

      · rw [if_neg h1] at hlk hm
        obtain ⟨y, rfl⟩ : ∃ y : Nat, x = y := ⟨x.toNat, by omega⟩
        rw [Int.toNat_natCast] at hlk hm
        have hyl : y < rule.length := by omega
        obtain ⟨u, hu⟩ : ∃ u, u = rule.getD y 0 := ⟨_, rfl⟩
        rw [← hu] at hlk hm
        clear hu h1
        by_cases h2 : 0 ≤ u
        · rw [if_pos h2] at hlk hm
          have HM := Lib.hid hm
          clear hm
          unfold scV at hlk
          go_wp2_with (first
            | (go_at_call 88; (with_reducible refine hlk.mono ?_); rintro e3 W3 ⟨rfl, hB3⟩; have hB4 := hBx.below hB3 hBx.lt; clear hBx c0 c1 c2 c3 c4 c5 c6 c7 c8 d0 d1 hlk)
            | (refine AX.wpList_storeBox (vs := [.int .i64 at_, .int .i64 (l + 1), .int .i64 y, .int .i64 u, .int .i64 at_, .int .i64 (at_ + l + 1), .int .i64 (at_ + l + 1), .bool true, .bool false]) rfl rfl sz162 hB4 rfl rfl ?_; rintro W4 h4 h5 h6; have h4 : Bx W4 B 162 #[.int .i64 at_, .int .i64 (l + 1), .int .i64 y, .int .i64 u, .int .i64 at_, .int .i64 (at_ + l + 1), .int .i64 (at_ + l + 1), .bool true, .bool false] := h4; have hS4 := hS.below ((hB3.mono (Nat.le_of_lt hBl)).trans (AX.below_turn (Nat.le_refl _) (.inl h4.lt) h5 h6)); obtain ⟨c0, c1, c2, c3, c4, c5, c6, c7, c8⟩ := Bx.nine h4; clear h5 h6 hB3 hB4))

          go_roundw
          case rel => exact ⟨l + 1, y, u, at_ + l + 1, at_ + l + 1, by omega, hyl, h4, hS4, Lib.hid (by have := HM.out; rwa [sb_len] at this)⟩
          case measure => rw [looks_bx (l := l + 1) h4]; omega
        · rw [if_neg h2] at hlk hm
          have HM := Lib.hid hm
          clear hm
          unfold scV at hlk
          go_wp2_with (first
            | (go_at_call 88; (with_reducible refine hlk.mono ?_); rintro e3 W3 ⟨rfl, hB3⟩; have hB4 := hBx.below hB3 hBx.lt; clear hBx c0 c1 c2 c3 c4 c5 c6 c7 c8 d0 d1 hlk)
            | (refine AX.wpList_storeBox (vs := [.int .i64 at_, .int .i64 (l + 1), .int .i64 y, .int .i64 r, .int .i64 at_, .int .i64 to, .int .i64 (at_ + l + 1), .bool true, .bool false]) rfl rfl sz162 hB4 rfl rfl ?_; rintro W4 h4 h5 h6; have h4 : Bx W4 B 162 #[.int .i64 at_, .int .i64 (l + 1), .int .i64 y, .int .i64 r, .int .i64 at_, .int .i64 to, .int .i64 (at_ + l + 1), .bool true, .bool false] := h4; have hS4 := hS.below ((hB3.mono (Nat.le_of_lt hBl)).trans (AX.below_turn (Nat.le_refl _) (.inl h4.lt) h5 h6)); obtain ⟨c0, c1, c2, c3, c4, c5, c6, c7, c8⟩ := Bx.nine h4; clear h5 h6 hB3 hB4))

          go_roundw
          case rel => exact ⟨l + 1, y, r, to, at_ + l + 1, by omega, hyl, h4, hS4, Lib.hid (by have := HM.out; rwa [sb_len] at this)⟩
          case measure => rw [looks_bx (l := l + 1) h4]; omega
    · have hlk := look_end (next := next) (rule := rule) (an := an) (ar := ar) (cn := cn) (cr := cr) (w := wr) s at_ l st r at_ to e heq hs
      unfold scV at hlk
      have hm := hm.out
      rw [heq, Nat.sub_self, munchF] at hm
      have HM := Lib.hid hm
      clear hm
      go_wp2_with (first
        | (go_at_call 88; (with_reducible refine hlk.mono ?_); rintro e3 W3 ⟨rfl, hB3⟩; have hB4 := hBx.below hB3 hBx.lt; clear hBx c0 c1 c2 c3 c4 c5 c6 c7 c8 d0 d1 hlk)
        | (refine AX.wpList_storeBox (vs := [.int .i64 at_, .int .i64 (l + 1), .int .i64 st, .int .i64 r, .int .i64 at_, .int .i64 to, .int .i64 (s.size + 1), .bool true, .bool true]) rfl rfl sz162 hB4 rfl rfl ?_; rintro W4 h4 h5 h6; have h4 : Bx W4 B 162 #[.int .i64 at_, .int .i64 (l + 1), .int .i64 st, .int .i64 r, .int .i64 at_, .int .i64 to, .int .i64 (s.size + 1), .bool true, .bool true] := h4; have hS4 := hS.below ((hB3.mono (Nat.le_of_lt hBl)).trans (AX.below_turn (Nat.le_refl _) (.inl h4.lt) h5 h6)); obtain ⟨c0, c1, c2, c3, c4, c5, c6, c7, c8⟩ := Bx.nine h4; clear h5 h6 hB3 hB4)
        | (refine AX.wpList_storeBox (vs := [.int .i64 r, .int .i64 at_, .int .i64 to, .int .i64 (s.size + 1)]) rfl rfl sz82 hS4.z rfl rfl ?_; rintro W5 h7 h8 h9; have h7 : Bx W5 (w.heap.size + 1) 82 #[.int .i64 r, .int .i64 at_, .int .i64 to, .int .i64 (s.size + 1)] := h7; have hb5 := hS4.b.trans (AX.below_turn (Nat.le_succ _) (.inl h7.lt) h8 h9); obtain ⟨z0, z1, z2, z3⟩ := Bx.four h7; clear h8 h9))
      rw [Exit.noGoto_ret]
      exact bodyPost_ret (v := .agg #[.int .i64 r, .int .i64 at_, .int .i64 to, .int .i64 (s.size + 1)]) (by simp [results, Tryz.results62, go_sem, z0, z1, z2, z3]) rfl ⟨by rw [← HM.out]; rfl, hb5⟩
end
end Go.Proofs.YtefjfbhffmkikaaGreatDoor

namespace Go.Proofs.YtefjfbhffmkikaaGreatDoor
open Go Go.Proofs Go.RowKit
attribute [local go_sem] Oper.semAt_some
section
variable {next rule : List Int} {an ar : Option Addr} {cn cr : Nat} {w : World}
theorem okT_of {next rule : List Int} (h : okT next rule = true) : 1 ≤ rule.length ∧ rule.length ≤ 512 ∧ next.length = 256 * rule.length ∧ (∀ x ∈ rule, -1 ≤ x ∧ x < 16) ∧ (∀ x ∈ next, -1 ≤ x ∧ x < rule.length) := by
  unfold okT inR at h
  simp only [Bool.and_eq_true, decide_eq_true_eq, List.all_eq_true] at h
  exact ⟨h.1, h.2.1, h.2.2.1, h.2.2.2.1, h.2.2.2.2⟩
/-- A lexeme. -/
def lxV (x : Int × Nat × Nat) (at_ : Nat) : Value := .agg #[.int .i64 x.1, .int .i64 at_, .int .i64 x.2.1, .int .i64 x.2.2]
set_option maxRecDepth 100000 in
set_option maxHeartbeats 4000000 in
theorem mNext_out (s : ByteArray) (at_ : Nat) (hi : at_ = s.size) (hs : s.size ≤ 1000000) :
    Calls Tryz.prog 40 #[dV an ar next.length rule.length cn cr, .string s, .int .i64 at_] w fun e w' => e = .returned (.tuple #[lxV (0, 0, 0) 0, .bool false]) ∧ Below w.heap.size w w' := by
  unfold dV lxV
  subst hi
  have h0 : (0 : Int) ≤ (s.size : Int) := by omega
  go_enter Tryz.func40, Tryz.ntmps40
  go_wp2
  exact bodyPost_ret (v := .tuple #[.agg #[.int .i64 0, .int .i64 0, .int .i64 0, .int .i64 0], .bool false]) (by simp [results, Tryz.results40, go_sem]) rfl ⟨rfl, ((Below.refl _ w).alloc (Nat.le_refl _) _).alloc (by simp) _⟩
set_option maxRecDepth 100000 in
set_option maxHeartbeats 4000000 in
theorem mNext_in (hN : IRow w an next) (hR : IRow w ar rule) (hok : okT next rule = true) (s : ByteArray) (at_ : Nat) (hi : at_ < s.size) (hs : s.size ≤ 1000000) :
    Calls Tryz.prog 40 #[dV an ar next.length rule.length cn cr, .string s, .int .i64 at_] w fun e w' => e = .returned (.tuple #[lxV (lexV next rule (sb s) at_) at_, .bool true]) ∧ Below w.heap.size w w' := by
  obtain ⟨hr1, hr2, hnl, _, hbd⟩ := okT_of hok
  have hck := fun W (hb : Below w.heap.size w W) => check_k next rule (by omega) (by omega) an ar cn cr W (hN.below hb (Nat.le_refl _)) (hR.below hb (Nat.le_refl _))
  have hmn := fun W (hb : Below w.heap.size w W) => mnext_k (cn := cn) (cr := cr) (hN.below hb (Nat.le_refl _)) (hR.below hb (Nat.le_refl _)) s at_ hi hs hr1 hr2 hnl hbd
  unfold checkV at hck
  simp only [hok, if_true] at hck
  unfold dV lxV
  generalize lexV next rule (sb s) at_ = x at *
  generalize next.length = N at *
  generalize rule.length = R at *
  have h0 : (0 : Int) ≤ (at_ : Int) := by omega
  have h1 : (at_ : Int) < (s.size : Int) := by omega
  have hB := ((Below.refl w.heap.size w).alloc (Nat.le_refl _) (.cells #[.slice an N cn, .slice ar R cr] 24)).alloc (by simp) (.cells #[.int .i64 0, .int .i64 0, .int .i64 0, .int .i64 0] 82)
  have hD : Bx ((w.alloc (.cells #[.slice an N cn, .slice ar R cr] 24)).alloc (.cells #[.int .i64 0, .int .i64 0, .int .i64 0, .int .i64 0] 82)) w.heap.size 24 #[.slice an N cn, .slice ar R cr] := (Bx.new _ _ _).alloc _
  have hZ : Bx ((w.alloc (.cells #[.slice an N cn, .slice ar R cr] 24)).alloc (.cells #[.int .i64 0, .int .i64 0, .int .i64 0, .int .i64 0] 82)) (w.heap.size + 1) 82 #[.int .i64 0, .int .i64 0, .int .i64 0, .int .i64 0] := by
    have := Bx.new (w.alloc (.cells #[.slice an N cn, .slice ar R cr] 24)) 82 #[.int .i64 0, .int .i64 0, .int .i64 0, .int .i64 0]
    rwa [World.size_alloc] at this
  clear hN hR hok hr1 hr2 hnl hbd
  go_enter Tryz.func40, Tryz.ntmps40
  go_wp2_with fail
  generalize (w.alloc (.cells #[.slice an N cn, .slice ar R cr] 24)).alloc (.cells #[.int .i64 0, .int .i64 0, .int .i64 0, .int .i64 0] 82) = W0 at *
  have h27 := hck W0 hB
  have hz1 := hZ.lt
  have hlt : w.heap.size < W0.heap.size := Nat.lt_trans (Nat.lt_succ_self _) hz1
  have d0 := hD.cell 0
  have d1 := hD.cell 1
  simp only [List.getElem?_toArray, List.getElem?_cons_zero, List.getElem?_cons_succ] at d0 d1
  clear hck
  go_wp2_with (first
    | (go_at_call 27; ((with_reducible refine h27.mono ?_); rintro e W1 ⟨rfl, hb1⟩; have hD1 := hD.below hb1 hlt; have hZ1 := hZ.below hb1 hz1; have hB1 := hB.trans (hb1.mono (Nat.le_of_lt hlt)); have f0 : W1.cell? ⟨w.heap.size, 0, none⟩ = some (.slice an N cn) := hD1.cell 0; have f1 : W1.cell? ⟨w.heap.size, 1, none⟩ = some (.slice ar R cr) := hD1.cell 1; have h62 := hmn W1 hB1; clear h27))
    | (go_at_call 62; ((with_reducible refine h62.mono ?_); rintro e W2 ⟨rfl, hb2⟩; have hZ2 := hZ1.below hb2 hZ1.lt; have hB2 := hB1.trans (hb2.mono hB1.size)))
    | (refine AX.wpList_storeBox (vs := [.int .i64 x.1, .int .i64 at_, .int .i64 x.2.1, .int .i64 x.2.2]) rfl rfl sz82 hZ2 rfl rfl ?_; rintro W3 h3 h4 h5; have h3 : Bx W3 (w.heap.size + 1) 82 #[.int .i64 x.1, .int .i64 at_, .int .i64 x.2.1, .int .i64 x.2.2] := h3; have hB3 := hB2.trans (AX.below_turn (Nat.le_succ _) (.inl h3.lt) h4 h5); obtain ⟨z0, z1, z2, z3⟩ := Bx.four h3; clear h4 h5))
  exact bodyPost_ret (v := .tuple #[.agg #[.int .i64 x.1, .int .i64 at_, .int .i64 x.2.1, .int .i64 x.2.2], .bool true]) (by simp [results, Tryz.results40, go_sem, z0, z1, z2, z3]) rfl ⟨rfl, hB3⟩
end
end Go.Proofs.YtefjfbhffmkikaaGreatDoor

namespace Go.Proofs.YtefjfbhffmkikaaGreatDoor
open Go Go.Proofs Go.RowKit
attribute [local go_sem] Oper.semAt_some
section
variable {next rule kind : List Int} {kinds : Int} {an ar ak : Option Addr} {cn cr ck : Nat} {w : World}
/-- Nothing said of a store: a guard for the arms of a walk. -/
theorem st_id {P : Program} {ops : Array Oper} {Q : Exit → Act → World → Prop} {a : Act} {w : World} {rest : List Oper} {t : TypeId} {x y : Operand} {ty : TypeId} {pos : String} {after : Array Edge} (h : wpList P ops Q ({ dst := none, op := .store t x y, type := ty, pos := pos, after := after, guard := none } :: rest) a w) :
    wpList P ops Q ({ dst := none, op := .store t x y, type := ty, pos := pos, after := after, guard := none } :: rest) a w := h
theorem st_in {F : Fence} {m : Nat} {P : Program} {ops : Array Oper} {Q : Exit → Act → World → Prop} {a : Act} {w : World} {rest : List Oper} {t : TypeId} {x y : Operand} {ty : TypeId} {pos : String} {after : Array Edge} (h : wpListIn F m P ops Q ({ dst := none, op := .store t x y, type := ty, pos := pos, after := after, guard := none } :: rest) a w) :
    wpListIn F m P ops Q ({ dst := none, op := .store t x y, type := ty, pos := pos, after := after, guard := none } :: rest) a w := h
def tkV (t : Tk) : Value := .agg #[.int .i64 t.k, .int .i64 t.f, .int .i64 t.a, .int .i64 t.t, .int .i64 t.e]
/-- What is kept over the lexemes. -/
structure Nx (w W : World) (next rule kind : List Int) (kinds : Int) (an ar ak : Option Addr) (cn cr ck : Nat) : Prop where
  b : Below w.heap.size w W
  d : Bx W w.heap.size 26 #[.slice an next.length cn, .slice ar rule.length cr, .slice ak kind.length ck, .int .i64 kinds]
  z : Bx W (w.heap.size + 1) 30 #[.int .i64 0, .int .i64 0, .int .i64 0, .int .i64 0, .int .i64 0]
theorem Nx.below {W W' : World} (h : Nx w W next rule kind kinds an ar ak cn cr ck) (hb : Below (w.heap.size + 1 + 1) W W') : Nx w W' next rule kind kinds an ar ak cn cr ck :=
  ⟨h.b.trans (hb.mono (by omega)), h.d.below hb (by omega), h.z.below hb (by omega)⟩
theorem sz30 : AX.sizeT Tryz.prog 30 = some 5 := by kernel_rfl
theorem sz3 : AX.sizeT Tryz.prog 3 = some 1 := by kernel_rfl
theorem Bx.five {w : World} {B : Nat} {t : TypeId} {v0 v1 v2 v3 v4 : Value} (h : Bx w B t #[v0, v1, v2, v3, v4]) : w.cell? ⟨B, 0, none⟩ = some v0 ∧ w.cell? ⟨B, 1, none⟩ = some v1 ∧ w.cell? ⟨B, 2, none⟩ = some v2 ∧ w.cell? ⟨B, 3, none⟩ = some v3 ∧ w.cell? ⟨B, 4, none⟩ = some v4 := ⟨h.cell 0, h.cell 1, h.cell 2, h.cell 3, h.cell 4⟩
theorem Bx.tok3 {w : World} {T : Nat} {t : TypeId} {v0 v1 v2 v3 v4 : Value} (h : Bx w T t #[v0, v1, v2, v3, v4]) (a b c : Value) : Bx (((w.setCell ⟨T, 0, none⟩ a).setCell ⟨T, 2, none⟩ b).setCell ⟨T, 3, none⟩ c).drew T t #[a, v1, b, c, v4] := by
  have h := h.set 0 a
  rw [List.setIfInBounds_toArray] at h
  simp only [List.set_cons_zero] at h
  have h := h.set 2 b
  simp only [List.setIfInBounds_toArray, List.set_cons_zero, List.set_cons_succ] at h
  have h := h.set 3 c
  simp only [List.setIfInBounds_toArray, List.set_cons_zero, List.set_cons_succ] at h
  exact h
theorem Bx.tok3o {w : World} {T B : Nat} {t : TypeId} {cs : Array Value} (h : Bx w B t cs) (hne : B ≠ T) (a b c : Value) : Bx (((w.setCell ⟨T, 0, none⟩ a).setCell ⟨T, 2, none⟩ b).setCell ⟨T, 3, none⟩ c).drew B t cs :=
  ((h.other hne).other hne).other hne
theorem below_tok3 {n T : Nat} {v w : World} (h : Below n v w) (hn : n ≤ T) (a b c : Value) : Below n v (((w.setCell ⟨T, 0, none⟩ a).setCell ⟨T, 2, none⟩ b).setCell ⟨T, 3, none⟩ c).drew :=
  (((h.setCell (by exact hn) a).setCell (by exact hn) b).setCell (by exact hn) c).drew
theorem okL_T {next rule kind : List Int} {kinds : Int} (h : okL next rule kind kinds = true) : okT next rule = true := by
  unfold okL at h
  simp only [Bool.and_eq_true] at h
  exact h.1
theorem fits_of {next rule kind : List Int} {kinds : Int} (h : okL next rule kind kinds = true) : Fits next rule kind kinds := by
  obtain ⟨h1, h2, h3, h4, h5⟩ := okT_of (okL_T h)
  unfold okL inR at h
  simp only [Bool.and_eq_true, decide_eq_true_eq, List.all_eq_true] at h
  obtain ⟨_, h6, h7, h8, h9⟩ := h
  exact ⟨h1, h3, h5, fun x hx => ⟨(h4 x hx).1, (h4 x hx).2, h9 x hx⟩, h8, h6, h7⟩
end
end Go.Proofs.YtefjfbhffmkikaaGreatDoor
