/- Regex: what the laws call, with their arguments. -/
import Derived.Test.YtpbkgegkjglibaaDoorW14
import Derived.Test.YtpbkgegkjglibaaDoorW15
import Derived.Test.YtpbkgegkjglibaaDoorW17
import Derived.Test.YtpbkgegkjglibaaDoorA8
namespace Go.Proofs.YtpbkgegkjglibaaDoor
open Go Go.Proofs Go.RowKit
attribute [local go_sem] Oper.semAt_some

theorem RRow.same' {w w' : World} {v : Value} {r : List Nd} (h : RRow w v r) (hb : Below w.heap.size w w') : RRow w' v r := h.below (Nat.le_refl _) hb
theorem RRow.form {w : World} {v : Value} {r : List Nd} (h : RRow w v r) : ∃ la n c, v = .slice la n c := by
  obtain ⟨la, c, e, _⟩ := h
  exact ⟨la, _, c, e⟩
theorem join2_k (kind : Int) {a b : List Nd} (ha : RxOk a) (hb : RxOk b) {av bv : Value} (w : World) (hRa : RRow w av a) (hRb : RRow w bv b) :
    Calls Tryd.prog 12 #[.int .i64 kind, .slice (some ⟨w.heap.size, 0, none⟩) 2 2] (w.alloc (.cells #[av, bv] 24)) fun e w' => JoinPost w' (joinV kind [a, b]) e ∧ Below w.heap.size w w' := by
  have hbw : Below w.heap.size w (w.alloc (.cells #[av, bv] 24)) := (Below.refl _ _).alloc (Nat.le_refl _) _
  have hB := Bx.new w 24 #[av, bv]
  have := joined_k kind [a, b] w.heap.size 2 (by simp) (fun p hp => by simp at hp; rcases hp with rfl | rfl; exact ha; exact hb) (w.alloc (.cells #[av, bv] 24)) hB.lt (fun i p hp => by
    match i, hp with
    | 0, hp => simp at hp; subst hp; exact ⟨av, hB.cell 0, hRa.same' hbw⟩
    | 1, hp => simp at hp; subst hp; exact ⟨bv, hB.cell 1, hRb.same' hbw⟩
    | i + 2, hp => simp at hp)
  exact this.mono fun e w' ⟨h1, h2⟩ => ⟨h1, hbw.trans (h2.mono hbw.size)⟩
end Go.Proofs.YtpbkgegkjglibaaDoor
