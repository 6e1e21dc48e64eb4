/- AX, part 4: numbers, strings, constants: the short ways are the model's. -/
import Derived.Test.YtaadkdmbhckdeaaDoorAx3
import Derived.Laws.Sem
import Derived.Lib.Strings
namespace Go.Proofs.YtaadkdmbhckdeaaDoor.AX
open Go

theorem lim_nonneg (k : IntKind) (m : Nat) (h : m ≤ lim k) : k.wrap (Int.ofNat m) = Int.ofNat m := by
  cases k <;> simp only [lim] at h <;> simp [IntKind.wrap, IntKind.bits, IntKind.signed] <;> omega
theorem wrapA_eq (k : IntKind) (n : Int) : wrapA k n = k.wrap n := by
  cases n with
  | ofNat m =>
    simp only [wrapA]
    split
    · rename_i h; rw [lim_nonneg k m (Nat.le_of_ble_eq_true h)]
    · rfl
  | negSucc m => rfl
theorem addA_eq (a b : Int) : addA a b = a + b := by
  cases a <;> cases b <;> rfl
theorem mulA_eq (a b : Int) : mulA a b = a * b := by
  cases a <;> cases b <;> rfl
theorem subA_eq (a b : Int) : subA a b = a - b := by
  cases a with
  | ofNat m =>
    cases b with
    | ofNat n =>
      simp only [subA]
      split
      · rename_i h
        have h := Nat.le_of_ble_eq_true h
        show Int.ofNat (m - n) = Int.ofNat m - Int.ofNat n
        simp; omega
      · rfl
    | negSucc n => rfl
  | negSucc m => cases b <;> rfl
theorem eqI_eq (a b : Int) : eqI a b = (a == b) := by
  rw [Bool.eq_iff_iff, beq_iff_eq]
  cases a <;> cases b <;> simp [eqI] <;> omega
theorem leI_eq (a b : Int) : leI a b = decide (a ≤ b) := by
  rw [Bool.eq_iff_iff]
  cases a <;> cases b <;> simp [leI] <;> omega
theorem ltI_eq (a b : Int) : ltI a b = decide (a < b) := by
  rw [ltI, leI_eq, Bool.eq_iff_iff]; simp
theorem kindEq_eq {k k' : IntKind} (h : kindEq k k' = true) : k = k' := by
  cases k <;> cases k' <;> first | rfl | cases h

theorem ofInt_toNat (k : IntKind) (m : Nat) (h : m ≤ lim k) : (BitVec.ofInt k.bits (Int.ofNat m)).toNat = m := by
  cases k <;> simp only [lim] at h <;> simp [IntKind.bits] <;> omega
theorem lim_pow (k : IntKind) : ∃ e, lim k = 2 ^ e - 1 := by
  cases k
  · exact ⟨7, by decide⟩
  · exact ⟨15, by decide⟩
  · exact ⟨31, by decide⟩
  · exact ⟨63, by decide⟩
  · exact ⟨8, by decide⟩
  · exact ⟨16, by decide⟩
  · exact ⟨32, by decide⟩
  · exact ⟨64, by decide⟩
theorem le_lim {k : IntKind} {e m : Nat} (he : lim k = 2 ^ e - 1) : m ≤ lim k ↔ m < 2 ^ e := by
  have : 0 < 2 ^ e := Nat.two_pow_pos e
  omega
theorem bitsF_eq (op : BinOp) (k : IntKind) (x y : Int) : bitsF op k x y = bitsA op k x y := rfl
theorem shlA_eq (k : IntKind) (x : Int) (y : Nat) : shlA k x y = k.wrap (x * 2 ^ (min y k.bits)) := by
  cases x with
  | negSucc m => rfl
  | ofNat m =>
    simp only [shlA, wrapA_eq]
    congr 1
theorem shrA_eq (k : IntKind) (x : Int) (y : Nat) : shrA k x y = x.fdiv (2 ^ (min y k.bits)) := by
  cases x with
  | negSucc m => rfl
  | ofNat m =>
    show Int.ofNat (m / 2 ^ (min y k.bits)) = _
    have : (2 : Int) ^ (min y k.bits) = Int.ofNat (2 ^ (min y k.bits)) := by simp
    rw [this]
    have h0 : (0 : Int) ≤ Int.ofNat (2 ^ (min y k.bits)) := Int.natCast_nonneg _
    rw [Int.fdiv_eq_ediv_of_nonneg _ h0]; rfl
theorem quoA_eq (k : IntKind) (x y : Int) : quoA k x y = k.wrap (x.tdiv y) := by
  cases x <;> cases y <;> simp only [quoA, wrapA_eq] <;> rfl
theorem remA_eq (x y : Int) : remA x y = x.tmod y := by
  cases x <;> cases y <;> rfl
theorem natOf_eq (a : Int) : natOf a = a.toNat := by cases a <;> rfl

/- STRINGS -/
theorem toNat_inj {a b : UInt8} (h : a.toNat = b.toNat) : a = b := UInt8.toNat_inj.1 h
theorem eqB_eq : ∀ (x y : List UInt8), eqB (x.map UInt8.toNat) (y.map UInt8.toNat) = (x == y)
  | [], [] => rfl
  | [], _ :: _ => rfl
  | _ :: _, [] => rfl
  | a :: x, b :: y => by
    simp only [List.map_cons, eqB]
    by_cases h : a = b
    · subst h
      simp only [Nat.beq_refl, eqB_eq x y, List.cons_beq_cons, BEq.rfl, Bool.true_and]
    · have : Nat.beq a.toNat b.toNat = false := by
        cases hb : Nat.beq a.toNat b.toNat with
        | true => exact absurd (toNat_inj (Nat.eq_of_beq_eq_true hb)) h
        | false => rfl
      simp [this, h]
theorem lessB_eq : ∀ (x y : List UInt8), lessB (x.map UInt8.toNat) (y.map UInt8.toNat) = Op.bytesLess x y
  | [], [] => rfl
  | [], _ :: _ => rfl
  | _ :: _, [] => rfl
  | a :: x, b :: y => by
    simp only [List.map_cons, lessB, Op.bytesLess]
    by_cases h : a = b
    · subst h
      simp [Nat.beq_refl, lessB_eq x y]
    · have hne : a.toNat ≠ b.toNat := fun e => h (toNat_inj e)
      have : Nat.beq a.toNat b.toNat = false := by cases hb : Nat.beq a.toNat b.toNat with
        | true => exact absurd (Nat.eq_of_beq_eq_true hb) hne
        | false => rfl
      simp only [this]
      rw [Bool.eq_iff_iff]
      simp [h, UInt8.lt_iff_toNat_lt]
      omega
theorem toList_bytes (s : ByteArray) : s.toList.map UInt8.toNat = bytesOf s := by
  rw [bytesOf, Lib.toList_data]
end Go.Proofs.YtaadkdmbhckdeaaDoor.AX
