/- Regex: RegexReads. -/
import Derived.Test.YtpbkgegkjglibaaDoorS14
import Derived.Test.YtpbkgegkjglibaaDoorQ6
import Derived.Test.YtpbkgegkjglibaaDoorW18
namespace Go.Proofs.YtpbkgegkjglibaaDoor
open Go Go.Proofs Go.RowKit
attribute [local go_sem] Oper.semAt_some
theorem sames_k {a b : List Nd} (h : SameV a b) {va vb : Value} (w : World) (hRa : RRow w va a) (hRb : RRow w vb b) : Calls Tryd.prog 11 #[va, vb] w fun e w' => e = .returned (.bool true) ∧ Below w.heap.size w w' :=
  (same_k a b va vb (by have := h.1.most; omega) (by have := h.2.1.most; omega) w hRa hRb).mono fun e w' ⟨⟨q, he, hq⟩, hb⟩ => ⟨by rw [he, hq.2 h], hb⟩
end Go.Proofs.YtpbkgegkjglibaaDoor
