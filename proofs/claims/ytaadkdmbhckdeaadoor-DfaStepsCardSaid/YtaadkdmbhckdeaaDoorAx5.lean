/- AX, part 5: the operations that touch no memory do what the model does. -/
import Derived.Test.YtaadkdmbhckdeaaDoorAx4
namespace Go.Proofs.YtaadkdmbhckdeaaDoor.AX
open Go

variable {P : Program} {σ : Sig} {w : World}

theorem VRel.int_inv {k : IntKind} {n : Int} {x : Value} (h : VRel σ (.int k n) x) : x = .int k n := by cases h; rfl
theorem VRel.bool_inv {b : Bool} {x : Value} (h : VRel σ (.bool b) x) : x = .bool b := by cases h; rfl
theorem VRel.str_inv {l : List Nat} {x : Value} (h : VRel σ (.str l) x) : ∃ s, x = .string s ∧ bytesOf s = l := by cases h with | str s h => exact ⟨s, rfl, h⟩
theorem VRel.ptr_inv {id off : Nat} {x : Value} (h : VRel σ (.ptr id off) x) : ∃ i, σ id = some i ∧ x = .pointer (some ⟨i.blk, i.base + off, none⟩) := by cases h with | ptr h => exact ⟨_, h, rfl⟩
theorem VRel.slice_inv {id off len cap : Nat} {x : Value} (h : VRel σ (.slice id off len cap) x) :
    ∃ i o, σ id = some i ∧ len ≤ cap ∧ (o = i.base + off ∨ cap = 0) ∧ x = .slice (some ⟨i.blk, o, none⟩) len cap := by
  cases h with | slice h hl ho => exact ⟨_, _, h, hl, ho, rfl⟩
theorem VRel.opn_inv {id off len sz : Nat} {x : Value} (h : VRel σ (.opn id off len sz) x) :
    ∃ i o c, σ id = some i ∧ len ≤ c ∧ off + c * sz ≤ i.room ∧ (o = i.base + off ∨ c = 0) ∧ x = .slice (some ⟨i.blk, o, none⟩) len c := by
  cases h with | opn h hl hr ho => exact ⟨_, _, _, h, hl, hr, ho, rfl⟩
theorem VRel.gsl_inv {g off len cap : Nat} {x : Value} (h : VRel σ (.gsl g off len cap) x) : len ≤ cap ∧ x = .slice (some ⟨g, off, none⟩) len cap := by
  cases h with | gsl _ _ hl => exact ⟨hl, rfl⟩
theorem VRel.agg_inv {l : List AV} {x : Value} (h : VRel σ (.agg l) x) : ∃ vs, x = .agg vs ∧ VRels σ l vs.toList := by cases h with | agg h => exact ⟨_, rfl, h⟩
theorem VRel.tup_inv {l : List AV} {x : Value} (h : VRel σ (.tup l) x) : ∃ vs, x = .tuple vs ∧ VRels σ l vs.toList := by cases h with | tup h => exact ⟨_, rfl, h⟩
theorem VRel.fn_inv {f : Fn} {l m : List AV} {x : Value} (h : VRel σ (.fn f l m) x) : ∃ vs ws, x = .func f vs ws ∧ VRels σ l vs.toList ∧ VRels σ m ws.toList := by
  cases h with | fn f h h' => exact ⟨_, _, rfl, h, h'⟩
theorem VRel.yld_inv {id : Nat} {x : Value} (h : VRel σ (.yld id) x) : ∃ i, σ id = some i ∧ x = .func (.yield i.blk) #[] #[] := by cases h with | yld h => exact ⟨_, h, rfl⟩
theorem VRel.iface_inv {t : Nat} {v : AV} {x : Value} (h : VRel σ (.iface t v) x) : ∃ y, x = .iface t y ∧ VRel σ v y := by cases h with | iface t h => exact ⟨_, rfl, h⟩
theorem VRel.map_inv {id : Nat} {x : Value} (h : VRel σ (.map id) x) : ∃ i, σ id = some i ∧ x = .map (some i.blk) := by cases h with | map h => exact ⟨_, h, rfl⟩
theorem VRel.nils_inv {x : Value} (h : VRel σ .nils x) : x = .slice none 0 0 := by cases h; rfl
theorem VRel.nilm_inv {x : Value} (h : VRel σ .nilm x) : x = .map none := by cases h; rfl
theorem VRel.gptr_inv {g off : Nat} {x : Value} (h : VRel σ (.gptr g off) x) : x = .pointer (some ⟨g, off, none⟩) := by cases h; rfl

theorem VRels.length {l : List AV} {xs : List Value} (h : VRels σ l xs) : l.length = xs.length := by
  induction l generalizing xs with
  | nil => cases h; rfl
  | cons a l ih => cases h with | cons h t => simp [ih t]
theorem VRels.get {l : List AV} {xs : List Value} (h : VRels σ l xs) : ∀ {i : Nat} {v : AV}, l[i]? = some v → ∃ x, xs[i]? = some x ∧ VRel σ v x := by
  induction l generalizing xs with
  | nil => intro i v hi; simp at hi
  | cons a l ih =>
    cases h with
    | cons h t =>
      intro i v hi
      cases i with
      | zero => simp at hi; subst hi; exact ⟨_, rfl, h⟩
      | succ i => simp at hi; obtain ⟨x, hx, hr⟩ := ih t hi; exact ⟨x, by simpa using hx, hr⟩
theorem VRels.append {l m : List AV} {xs ys : List Value} (h : VRels σ l xs) (h' : VRels σ m ys) : VRels σ (l ++ m) (xs ++ ys) := by
  induction l generalizing xs with
  | nil => cases h; exact h'
  | cons a l ih => cases h with | cons h t => exact .cons h (ih t)
theorem VRels.take {l : List AV} {xs : List Value} (h : VRels σ l xs) (n : Nat) : VRels σ (l.take n) (xs.take n) := by
  induction l generalizing xs n with
  | nil => cases h; simp; exact .nil
  | cons a l ih =>
    cases h with
    | cons h t =>
      cases n with
      | zero => exact .nil
      | succ n => exact .cons h (ih t n)
theorem VRels.drop {l : List AV} {xs : List Value} (h : VRels σ l xs) (n : Nat) : VRels σ (l.drop n) (xs.drop n) := by
  induction l generalizing xs n with
  | nil => cases h; simp; exact .nil
  | cons a l ih =>
    cases n with
    | zero => exact h
    | succ n => cases h with | cons h t => exact ih t n
theorem VRels.map {α : Type} {f : α → AV} {g : α → Value} : ∀ {l : List α}, (∀ x ∈ l, VRel σ (f x) (g x)) → VRels σ (l.map f) (l.map g)
  | [], _ => .nil
  | x :: l, h => .cons (h x (by simp)) (VRels.map fun y hy => h y (by simp [hy]))

theorem atomOf_rel (v : Value) : VRel σ (atomOf v) v := by
  unfold atomOf
  split
  · exact .bool _
  · exact .int _ _
  · exact .str _ rfl
  · exact .nilp
  · exact .nils
  · exact .nilm
  · exact .nilf
  · exact .nili
  · exact .bad _
theorem ofVal_rel (v : Value) : VRel σ (ofVal v) v := by
  unfold ofVal
  split
  · rename_i cs
    refine .agg ?_
    have := VRels.map (σ := σ) (f := atomOf) (g := fun v => v) (l := cs.toList) (fun x _ => atomOf_rel x)
    simpa using this
  · split
    · exact .bad _
    · exact .fn _ .nil .nil
  · exact .tup .nil
  · exact atomOf_rel _

/- NUMBERS -/
theorem intBin_sound {op : BinOp} {k : IntKind} {a b : Int} {v : AV} {t : TypeId} (h : intBin op k a b = some v) :
    ∃ v', (binOp op t (.int k a) (.int k b)).run P w = .ok v' w ∧ VRel σ v v' := by
  cases op <;> simp only [intBin] at h
  case add => cases h; exact ⟨_, by simp [binOp, Op.intArith]; rfl, by rw [wrapA_eq, addA_eq]; exact .int _ _⟩
  case sub => cases h; exact ⟨_, by simp [binOp, Op.intArith]; rfl, by rw [wrapA_eq, subA_eq]; exact .int _ _⟩
  case mul => cases h; exact ⟨_, by simp [binOp, Op.intArith]; rfl, by rw [wrapA_eq, mulA_eq]; exact .int _ _⟩
  case quo =>
    split at h
    · cases h
    · rename_i hb
      rw [eqI_eq] at hb
      have hb : b ≠ 0 := by simpa using hb
      cases h; exact ⟨_, by simp [binOp, Op.intDiv, hb]; rfl, by rw [quoA_eq]; exact .int _ _⟩
  case rem =>
    split at h
    · cases h
    · rename_i hb
      rw [eqI_eq] at hb
      have hb : b ≠ 0 := by simpa using hb
      cases h; exact ⟨_, by simp [binOp, Op.intDiv, hb]; rfl, by rw [remA_eq]; exact .int _ _⟩
  case and =>
    rw [bitsF_eq] at h; simp only [bitsA, Option.map_some, Option.some.injEq] at h; subst h
    exact ⟨_, by simp [binOp, Op.intBits], .int _ _⟩
  case or =>
    rw [bitsF_eq] at h; simp only [bitsA, Option.map_some, Option.some.injEq] at h; subst h
    exact ⟨_, by simp [binOp, Op.intBits], .int _ _⟩
  case xor =>
    rw [bitsF_eq] at h; simp only [bitsA, Option.map_some, Option.some.injEq] at h; subst h
    exact ⟨_, by simp [binOp, Op.intBits], .int _ _⟩
  case andNot =>
    rw [bitsF_eq] at h; simp only [bitsA, Option.map_some, Option.some.injEq] at h; subst h
    exact ⟨_, by simp [binOp, Op.intBits], .int _ _⟩
  case shl => cases h
  case shr => cases h
  case eql => cases h; exact ⟨_, by simp [binOp, Op.intCmp]; rfl, by rw [eqI_eq]; exact .bool _⟩
  case neq => cases h; exact ⟨_, by simp [binOp, Op.intCmp]; rfl, by rw [eqI_eq]; exact .bool _⟩
  case lss => cases h; exact ⟨_, by simp [binOp, Op.intCmp]; rfl, by rw [ltI_eq]; exact .bool _⟩
  case leq => cases h; exact ⟨_, by simp [binOp, Op.intCmp]; rfl, by rw [leI_eq]; exact .bool _⟩
  case gtr => cases h; exact ⟨_, by simp [binOp, Op.intCmp]; rfl, by rw [ltI_eq]; exact .bool _⟩
  case geq => cases h; exact ⟨_, by simp [binOp, Op.intCmp]; rfl, by rw [leI_eq]; exact .bool _⟩
theorem intOp_sound {op : BinOp} {k k' : IntKind} {a b : Int} {v : AV} {t : TypeId} (h : intOp op k a k' b = some v) :
    ∃ v', (binOp op t (.int k a) (.int k' b)).run P w = .ok v' w ∧ VRel σ v v' := by
  unfold intOp at h
  split at h
  · split at h
    · rename_i hb; rw [leI_eq] at hb
      have hb : ¬ b < 0 := by simp at hb; omega
      cases h
      exact ⟨_, by simp [binOp, Op.shift, hb]; rfl, by rw [shlA_eq, natOf_eq]; exact .int _ _⟩
    · cases h
  · split at h
    · rename_i hb; rw [leI_eq] at hb
      have hb : ¬ b < 0 := by simp at hb; omega
      cases h
      exact ⟨_, by simp [binOp, Op.shift, hb]; rfl, by rw [shrA_eq, natOf_eq]; exact .int _ _⟩
    · cases h
  · split at h
    · rename_i hk
      have := kindEq_eq hk; subst this
      exact intBin_sound h
    · cases h
theorem strOp_sound {op : BinOp} {s u : ByteArray} {v : AV} {t : TypeId} (h : strOp op (bytesOf s) (bytesOf u) = some v) :
    ∃ v', (binOp op t (.string s) (.string u)).run P w = .ok v' w ∧ VRel σ v v' := by
  have e1 : eqB (bytesOf s) (bytesOf u) = (s.toList == u.toList) := by rw [← toList_bytes, ← toList_bytes]; exact eqB_eq _ _
  have e2 : lessB (bytesOf s) (bytesOf u) = Op.bytesLess s.toList u.toList := by rw [← toList_bytes, ← toList_bytes]; exact lessB_eq _ _
  cases op <;> simp only [strOp, e1, e2] at h
  case add =>
    split at h
    · rename_i hb
      have hb := Nat.le_of_ble_eq_true hb
      cases h
      have hl : ¬ (((s.size + u.size : Nat) : Int) > IntKind.i64.max) := by
        have : s.size + u.size ≤ 1000000000 := by simpa [bytesOf] using hb
        simp [IntKind.max, IntKind.signed, IntKind.bits]; omega
      refine ⟨.string (s ++ u), by simp only [binOp, Op.stringOp, hl, if_false]; rfl, .str _ ?_⟩
      simp [bytesOf]
    · cases h
  case eql => cases h; exact ⟨_, by simp [binOp, Op.stringOp], .bool _⟩
  case neq => cases h; exact ⟨_, by simp [binOp, Op.stringOp], .bool _⟩
  case lss => cases h; exact ⟨_, by simp [binOp, Op.stringOp], .bool _⟩
  case leq => cases h; exact ⟨_, by simp [binOp, Op.stringOp], .bool _⟩
  case gtr => cases h; exact ⟨_, by simp [binOp, Op.stringOp], .bool _⟩
  case geq => cases h; exact ⟨_, by simp [binOp, Op.stringOp], .bool _⟩
  all_goals cases h
end Go.Proofs.YtaadkdmbhckdeaaDoor.AX
