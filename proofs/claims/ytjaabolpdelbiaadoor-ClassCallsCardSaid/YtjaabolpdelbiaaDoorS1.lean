/- A class as an argument: opened, shut. -/
import Derived.Test.YtjaabolpdelbiaaDoorL1
import Derived.ProofKit
import Derived.OpenShut
import Derived.Laws.IdiomArrays
namespace Go.Proofs.YtjaabolpdelbiaaDoor
open Go Go.Proofs Go.ChangeShapes Go.WideShapes Go.ChangeAt Go.RowKit
section
variable {H : Type} {enc : TypeId × Value → H} {w : World} {base : Nat} {sp : Nat → Bool} {held : Bool}
def clsD (a0 a1 a2 a3 : Int) : DataW H := .agg [.lit (.int .u64 a0), .lit (.int .u64 a1), .lit (.int .u64 a2), .lit (.int .u64 a3)]
theorem nat_of_u64 {n : Int} (h : (Lit.int .u64 n).wf = true) : ∃ m : Nat, n = m ∧ m < 18446744073709551616 := by
  have := bounds_u64 h
  exact ⟨n.toNat, by omega, by omega⟩
theorem nat_of_u8 {n : Int} (h : (Lit.int .u8 n).wf = true) : ∃ m : Nat, n = m ∧ m < 256 := by
  have := bounds_u8 h
  exact ⟨n.toNat, by omega, by omega⟩
theorem wf_u64 {m : Nat} (h : m < 18446744073709551616) : (Lit.int .u64 (m : Int)).wf = true := by
  have e1 : IntKind.u64.min = 0 := by decide
  have e2 : IntKind.u64.max = 18446744073709551615 := by decide
  simp [Lit.wf, e1, e2]; omega
theorem wf_u8 {m : Nat} (h : m < 256) : (Lit.int .u8 (m : Int)).wf = true := by
  have e1 : IntKind.u8.min = 0 := by decide
  have e2 : IntKind.u8.max = 255 := by decide
  simp [Lit.wf, e1, e2]; omega
theorem arr4 {α : Type} {cs : Array α} (h : cs.size = 4) : ∃ c0 c1 c2 c3, cs = #[c0, c1, c2, c3] := by
  obtain ⟨l⟩ := cs
  match l, h with
  | [c0, c1, c2, c3], _ => exact ⟨c0, c1, c2, c3, rfl⟩
theorem one_int {n : Nat} {c : Value} {y : DataW H × List MemPlace} (h : DataW.trod enc Tryd.prog w base sp held n 25 [c] = some y) : ∃ m : Nat, m < 18446744073709551616 ∧ c = .int .u64 (m : Int) ∧ y = (.lit (.int .u64 (m : Int)), []) := by
  obtain ⟨k, h1, h2, h3⟩ := DataW.trod_int Tryd.underlying25 h
  obtain ⟨m, rfl, hm⟩ := nat_of_u64 h3
  exact ⟨m, hm, by simpa using h1, h2⟩
theorem open_cls {r : Reach} {b0 : Nat} {v : Value} {d : DataW H} {p : List MemPlace} (hv : Value.okWide Tryd.prog w r b0 27 v) (h : DataW.Trod enc Tryd.prog w base sp held 27 v d p) :
    ∃ a0 a1 a2 a3 : Nat, wlt a0 a1 a2 a3 ∧ v = cV a0 a1 a2 a3 ∧ d = clsD a0 a1 a2 a3 ∧ p = [] := by
  simp only [Value.okWide, Tryd.underlying27] at hv
  obtain ⟨cs, rfl, hsz, _⟩ := hv
  have hc : Tryd.prog.cellsOf 27 = 4 := by kernel_rfl
  obtain ⟨c0, c1, c2, c3, rfl⟩ := arr4 (hsz.trans hc)
  obtain ⟨fuel, hf⟩ := h
  obtain ⟨y0, y1, y2, y3, n, hx, h0, h1, h2, h3⟩ := trod_array4 (e := 25) Tryd.underlying27 (by kernel_rfl) (by simpa [Value.cells] using hf)
  obtain ⟨a0, l0, rfl, rfl⟩ := one_int h0
  obtain ⟨a1, l1, rfl, rfl⟩ := one_int h1
  obtain ⟨a2, l2, rfl, rfl⟩ := one_int h2
  obtain ⟨a3, l3, rfl, rfl⟩ := one_int h3
  simp only [Prod.mk.injEq, List.append_nil] at hx
  exact ⟨a0, a1, a2, a3, fun k => by unfold wd; split; exact l0; split; exact l1; split; exact l2; exact l3, rfl, hx.1, hx.2⟩
theorem shut_cls {a0 a1 a2 a3 : Nat} (hw : wlt a0 a1 a2 a3) : DataW.Trod enc Tryd.prog w base sp held 27 (cV a0 a1 a2 a3) (clsD a0 a1 a2 a3) [] := by
  refine ⟨2, ?_⟩
  have r4 : List.range 4 = [0, 1, 2, 3] := rfl
  have w0 := wf_u64 (show a0 < 18446744073709551616 from hw 0)
  have w1 := wf_u64 (show a1 < 18446744073709551616 from hw 1)
  have w2 := wf_u64 (show a2 < 18446744073709551616 from hw 2)
  have w3 := wf_u64 (show a3 < 18446744073709551616 from hw 3)
  have hc : Tryd.prog.cellsOf 27 = 4 := by kernel_rfl
  have hc5 : Tryd.prog.cellsOf 25 = 1 := by kernel_rfl
  simp [DataW.trod, Tryd.underlying27, Tryd.underlying25, Value.cells, cV, clsD, r4, w0, w1, w2, w3, hc, hc5]
end
end Go.Proofs.YtjaabolpdelbiaaDoor
