/- OX, part 7: known answers: (*strings.Builder).copyCheck, strings.Join, strings.IndexByte. -/
import Derived.Test.YtdjeokgkeejpcaaGreatDoorOx1
import Derived.Lib.Builder
import Derived.Lib.Join
import Derived.Lib.Bytealg
namespace Go.Proofs.YtdjeokgkeejpcaaGreatDoor.AX
open Go Go.RowKit
variable {P : Program} {σ : Sig} {w : World} {pr : Pr} {hp : Hp}

/-- strings.IndexByte. -/
def idxB (b : Nat) : List Nat → Int
  | [] => -1
  | a :: l => match Nat.beq a b with
    | true => 0
    | false => match idxB b l with
      | .negSucc _ => -1
      | .ofNat n => .ofNat (n + 1)
theorem idxB_eq (b : UInt8) : ∀ s : List UInt8, idxB b.toNat (s.map UInt8.toNat) = Lib.indexByte s b ∧ (-1 ≤ Lib.indexByte s b)
  | [] => ⟨rfl, by simp [Lib.indexByte]⟩
  | a :: l => by
    obtain ⟨ih, ih2⟩ := idxB_eq b l
    simp only [List.map_cons, idxB, Lib.indexByte]
    by_cases h : a = b
    · subst h
      simp [Nat.beq_refl]
    · have hb : Nat.beq a.toNat b.toNat = false := by
        cases hh : Nat.beq a.toNat b.toNat with
        | false => rfl
        | true => exact absurd (UInt8.toNat_inj.1 (Nat.eq_of_beq_eq_true hh)) h
      have he : (a == b) = false := by simpa using h
      simp only [hb, he, Bool.false_eq_true, if_false]
      rw [ih]
      cases hx : Lib.indexByte l b with
      | negSucc n =>
        rw [hx] at ih2
        have : n = 0 := by omega
        subst this
        exact ⟨rfl, by decide⟩
      | ofNat n =>
        have : ((Int.ofNat n == -1) = false) := by simp
        simp only [this, Bool.false_eq_true, if_false]
        exact ⟨rfl, by have : (0 : Int) ≤ Int.ofNat n := Int.natCast_nonneg n; omega⟩
noncomputable def indexByteA (args : List AV) (hp : Hp) (nx : Nat) : Option (AV × Hp × Nat) :=
  match args with
  | [.str s, .int .u8 (.ofNat b)] => match Nat.ble b 255 with
    | true => some (.int .i64 (idxB b s), hp, nx)
    | false => none
  | _ => none
theorem args_two {x y : AV} {args' : Array Value} (h : VRels σ [x, y] args'.toList) : ∃ v u, args' = #[v, u] ∧ VRel σ x v ∧ VRel σ y u := by
  obtain ⟨l⟩ := args'
  cases h with
  | cons p t => cases t with
    | cons q t => cases t with
      | nil => exact ⟨_, _, rfl, p, q⟩
theorem indexByteA_good {C : Ctx} {f : FuncId} (hb : ∃ (fn : Func) (c : Code), C.P.funcs[f]? = some fn ∧ fn.body = some c)
    (h : ∀ (s : ByteArray) (c : Int) (w : World), Calls C.P f #[.string s, .int .u8 c] w fun e w' => e = .returned (.int .i64 (Lib.indexByte s.data.toList c.toNat.toUInt8)) ∧ w' = w) : OrcGood C f indexByteA := by
  refine ⟨hb, fun args hp nx v hp' nx' ho => ?_⟩
  unfold indexByteA at ho
  split at ho
  · rename_i s b
    split at ho
    · rename_i hle
      have hle := Nat.le_of_ble_eq_true hle
      cases ho
      refine ⟨Nat.le_refl _, fun pr σ w args' r hg hf ha => ?_⟩
      obtain ⟨y, u, rfl, hy, hu⟩ := args_two ha
      obtain rfl := hu.int_inv
      cases hy with
      | str s' hs =>
      refine (callsIn_wide.2 (h s' (Int.ofNat b) w)).mono ?_
      rintro e w' ⟨rfl, rfl⟩
      refine ⟨σ, _, rfl, ?_, Ext.refl _ _, r⟩
      have hn : ((Int.ofNat b).toNat.toUInt8).toNat = b := by
        show (UInt8.ofNat b).toNat = b
        simp
        omega
      have := (idxB_eq ((Int.ofNat b).toNat.toUInt8) s'.data.toList).1
      rw [hn] at this
      have hs' : s'.data.toList.map UInt8.toNat = s := hs
      rw [hs'] at this
      rw [← this]
      exact .int _ _
    · cases ho
  · cases ho

end Go.Proofs.YtdjeokgkeejpcaaGreatDoor.AX
