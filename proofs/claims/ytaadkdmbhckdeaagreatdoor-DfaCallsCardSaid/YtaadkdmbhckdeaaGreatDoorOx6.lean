/- OX, part 6: a call told again: the theorem. -/
import Derived.Test.YtaadkdmbhckdeaaGreatDoorOx4
import Derived.Test.YtaadkdmbhckdeaaGreatDoorSx5
namespace Go.Proofs.YtaadkdmbhckdeaaGreatDoor.AX
open Go
variable {ρ : Nat → Option Nat} {σ τ : Sig}
variable {h : Array Obj} {i : Info} {m : MB} {b : Blk}
noncomputable def ctxOf (P : Program) (gl : T Cells) (d t : T (List AV → Hp → Nat → Option (AV × Hp × Nat))) : Ctx := ⟨P, gl, .leaf, t, d, false⟩
section
variable {P : Program} {gl : T Cells} {d t : T (List AV → Hp → Nat → Option (AV × Hp × Nat))}
def TabOk (P : Program) (gl : T Cells) (d t : T (List AV → Hp → Nat → Option (AV × Hp × Nat))) : Prop := ∀ s f o, t.get f = some o → OrcGood (ctxOf P gl d s) f o
theorem TabOk.orc (h : TabOk P gl d t) : OrcOk (ctxOf P gl d t) := OrcOk.of (h t)
theorem TabOk.run (hP : POk P) (hd : ∀ s, DfdOk (ctxOf P gl d s)) (h : TabOk P gl d t) {n f : Nat} {args : List AV} {args' : Array Value} {w : World} (hr : saysTrue (callS (ctxOf P gl d t) n (.fn f) args .leaf 0) = true) (hg : GlOk (ctxOf P gl d t) (prOf w)) (ha : VRels (fun _ => none) args args'.toList) :
  Calls P f args' w (fun e w' => e = .returned (.bool true) ∧ Kept w w') := by
 obtain ⟨hp', nx', hr⟩ := saysTrue_spec hr
 rw [callS_eq] at hr
 refine (calls_of (C := ctxOf P gl d t) hP ExtOk.leaf h.orc (hd t) hr hg ha).mono fun e w' hp => ?_
 obtain ⟨τ, v', rfl, h2, h3⟩ := hp
 obtain rfl := h2.bool_inv
 exact ⟨rfl, h3⟩
end
end Go.Proofs.YtaadkdmbhckdeaaGreatDoor.AX
