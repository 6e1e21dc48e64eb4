/- Regex: what the laws call, with their arguments. -/
import Derived.Test.YtpbkgegkjglibaaDoorW14
import Derived.Test.YtpbkgegkjglibaaDoorW15
import Derived.Test.YtpbkgegkjglibaaDoorW17
import Derived.Test.YtpbkgegkjglibaaDoorA8
namespace Go.Proofs.YtpbkgegkjglibaaDoor
open Go Go.Proofs Go.RowKit
attribute [local go_sem] Oper.semAt_some

theorem RRow.form {w : World} {v : Value} {r : List Nd} (h : RRow w v r) : ∃ la n c, v = .slice la n c := by
  obtain ⟨la, c, e, _⟩ := h
  exact ⟨la, _, c, e⟩
def AllWd (r : List Nd) : Prop := ∀ x ∈ r, x.Wd
end Go.Proofs.YtpbkgegkjglibaaDoor
