/- DirtyKeeps: the law, at every input, over lives(). -/
import Derived.Test.YtpplkjjfaibmmaaDoorM2
namespace Go.Proofs.YtpplkjjfaibmmaaDoor
open Go Go.Proofs Go.RowKit
theorem tab_of {nums : List Int} (hn : nums = (List.range 64).map fun j => ((Lib.deBruijn64tab.getD j 0 : Nat) : Int)) {W : World} (h : AX.numsAt W 0 .u8 nums) : TabAt W ∧ 0 < W.heap.size := by
  obtain ⟨cs, e, fz, h1, h2⟩ := h
  refine ⟨fun j hj => ?_, (Array.getElem?_eq_some_iff.1 h1).1⟩
  have hc : cs[j]? = some (.int .u8 (Lib.deBruijn64tab.getD j 0 : Nat)) := by
    rw [← Array.getElem?_toList, h2, hn]
    simp [hj]
  simp [World.cell?, h1, hc]
section
variable {l : List J} {a d i room : Int} {la : Option Addr} {c : Nat} {w : World}
theorem keeps_k (hl : l.length ≤ 9223372036854775807) (hR : HL w la l) (hw0 : 0 < w.heap.size) (hTab : TabAt w)
    (hL : ∀ W, Below w.heap.size w W → Calls Tryd.prog 6 #[] W fun e w' => e = .returned (.bool true) ∧ Below W.heap.size W w') :
    Calls Tryd.prog 4 #[.slice la l.length c, .agg #[.int .i64 a, .int .i64 d, .int .i64 i], .int .i64 room] w fun e w' => e = .returned (.bool true) ∧ Below w.heap.size w w' := by
  have h13 := fun W (hb : Below w.heap.size w W) => light_k l hl a d i la c W (hR.below hb)
  cases hq : (l.all ltJ && (decide (l.length ≤ 40) && ltE a d i)) with
  | false =>
    rw [hq] at h13
    exact keeps_a hL h13
  | true =>
    rw [hq] at h13
    simp only [Bool.and_eq_true, decide_eq_true_eq, List.all_eq_true] at hq
    obtain ⟨q1, q2, q3⟩ := hq
    cases hm : mayV (checkV l) a d i room l.length with
    | false => exact keeps_b hL h13 fun W hb => add_no l (by omega) a d i room la c W (hR.below hb) hm
    | true =>
      have hT : ∀ x ∈ l, x.t ≤ 1073741824 := fun x hx => by
        have := q1 x hx
        simp only [ltJ, Bool.and_eq_true, decide_eq_true_eq] at this
        omega
      have hm' := hm
      unfold mayV at hm'
      rw [decide_eq_true_eq] at hm'
      obtain ⟨hc, ha, hd, hi, hr1, hr2, hn⟩ := hm'
      obtain ⟨h32, hso, hg⟩ := (checkV_iff l).1 hc
      have hE' := ltE_iff q3
      refine keeps_c q2 q3 ⟨ha, hd, hi⟩ hr2 hR (fun x hx => (mv_rg (hg x hx).2 (hT x hx) ha hd hi (by omega) (by omega)).1) hL h13 fun W hb => add_law l q3 hT la c W (Nat.lt_of_lt_of_le hw0 hb.size) (hTab.below hb hw0) (hR.below hb) hm
end
end Go.Proofs.YtpplkjjfaibmmaaDoor
