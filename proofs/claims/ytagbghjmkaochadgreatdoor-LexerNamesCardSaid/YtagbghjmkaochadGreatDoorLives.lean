/- lives() returns true: an abstract machine, proved sound over the model, runs it in the kernel. -/
import Derived.Test.YtagbghjmkaochadGreatDoorKn
import Derived.KernelRfl
namespace Go.Proofs.YtagbghjmkaochadGreatDoor
theorem lives_run : AX.saysTrue (AX.callS cx 80 (.fn 4) [] .leaf 0) = true := by kernel_rfl
theorem orcOk : AX.OrcOk cx := AX.OrcOk.of (tab_ok _ rfl)
theorem lives_true (W : World) (h : AX.GlOk cx (AX.prOf W)) : Calls Tryz.prog 4 #[] W (fun e w' => e = .returned (.bool true) ∧ AX.Kept W w') :=
  AX.closed_calls (C := cx) (n := 80) pOk AX.ExtOk.leaf orcOk AX.DfdOk.leaf (by rw [← AX.callS_eq]; exact lives_run) h
/-- lives(), its answer known. -/
noncomputable def livesA (args : List AX.AV) (hp : AX.Hp) (nx : Nat) : Option (AX.AV × AX.Hp × Nat) :=
  match args with
  | [] => some (.bool true, hp, nx)
  | _ => none
theorem livesA_good (C : AX.Ctx) (hC : C.P = Tryz.prog) (hG : C.gl = glob) : AX.OrcGood C 4 livesA := by
  obtain ⟨P, gl, x, y, z, b⟩ := C
  obtain rfl : P = Tryz.prog := hC
  obtain rfl : gl = glob := hG
  refine ⟨⟨_, _, Tryz.func4, rfl⟩, fun args hp nx v hp' nx' ho => ?_⟩
  unfold livesA at ho
  split at ho
  · cases ho
    refine ⟨Nat.le_refl _, fun pr σ w args' r hg hf ha => ?_⟩
    have : args' = #[] := by
      obtain ⟨l⟩ := args'
      cases ha
      rfl
    subst this
    have hgl : AX.GlOk cx (AX.prOf w) := fun g c hc => by
      obtain ⟨cs, e, fz, h1, h2⟩ := hg g c hc
      exact ⟨cs, e, fz, r.prot _ _ h1, h2⟩
    refine (callsIn_wide.2 (lives_true w hgl)).mono ?_
    rintro e w' ⟨rfl, hk⟩
    exact ⟨σ, _, rfl, .bool _, AX.Ext.refl _ _, r.kept hk⟩
  · cases ho
end Go.Proofs.YtagbghjmkaochadGreatDoor
