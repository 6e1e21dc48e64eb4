/- AX: functions whose answer is known: the least, the greatest of a row of numbers; the keys of a map, sorted. -/
import Derived.Test.YtpbkgegkjglibaaDoorAx24
import Derived.Lib.Slices
import Derived.Lib.SlKeysI
import Derived.Laws.AppendOwn
import Derived.Maps.Own
namespace Go.Proofs.YtpbkgegkjglibaaDoor.AX
open Go
variable {P : Program} {σ : Sig} {w w' : World} {pr : Pr} {hp : Hp}

/- NUMBERS IN A ROW -/
def min2 (a b : Int) : Int := match leI a b with | true => a | false => b
def max2 (a b : Int) : Int := match leI a b with | true => b | false => a
/-- What a known answer is to be. -/
def OrcGood (C : Ctx) (f : FuncId) (o : List AV → Hp → Nat → Option (AV × Hp × Nat)) : Prop :=
  (∃ (fn : Func) (c : Code), C.P.funcs[f]? = some fn ∧ fn.body = some c) ∧
  ∀ args hp nx v hp' nx', o args hp nx = some (v, hp', nx') → nx ≤ nx' ∧ ∀ (pr : Pr) (σ : Sig) (w : World) (args' : Array Value), R pr σ hp w → GlOk C pr → Fresh σ nx nx' → VRels σ args args'.toList →
    CallsIn (FF none) 0 C.P f args' w (Post pr σ nx v hp' nx')
theorem OrcOk.of {P : Program} {gl : T Cells} {x : T Nat} {y z : T (List AV → Hp → Nat → Option (AV × Hp × Nat))} {b : Bool} (h : ∀ f o, y.get f = some o → OrcGood ⟨P, gl, x, y, z, b⟩ f o) : OrcOk ⟨P, gl, x, y, z, b⟩ := fun f o ho => h f o ho
theorem orc_set {y : T (List AV → Hp → Nat → Option (AV × Hp × Nat))} {g : Nat} {q : List AV → Hp → Nat → Option (AV × Hp × Nat)} {C : Ctx} (hq : OrcGood C g q) (h : ∀ f o, y.get f = some o → OrcGood C f o) : ∀ f o, (y.set g q).get f = some o → OrcGood C f o := by
  intro f o ho
  rw [T.get_set] at ho
  split at ho
  · rename_i e; subst e; cases ho; exact hq
  · exact h f o ho
theorem orc_leaf {C : Ctx} : ∀ f o, (T.leaf : T (List AV → Hp → Nat → Option (AV × Hp × Nat))).get f = some o → OrcGood C f o := fun f o h => by simp [T.get_leaf] at h
theorem args_one {x : AV} {args' : Array Value} (h : VRels σ [x] args'.toList) : ∃ v, args' = #[v] ∧ VRel σ x v := by
  obtain ⟨l⟩ := args'
  cases h with
  | cons p t => cases t with
    | nil => exact ⟨_, rfl, p⟩
end Go.Proofs.YtpbkgegkjglibaaDoor.AX
