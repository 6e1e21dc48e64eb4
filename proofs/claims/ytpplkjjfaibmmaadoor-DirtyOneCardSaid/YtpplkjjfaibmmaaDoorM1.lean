/- DirtyKeeps: Add by what its answer is good for; the law up to its loop. -/
import Derived.Test.YtpplkjjfaibmmaaDoorK4
import Derived.Test.YtpplkjjfaibmmaaDoorK5
import Derived.Test.YtpplkjjfaibmmaaDoorL2
import Derived.Test.YtpplkjjfaibmmaaDoorD14
namespace Go.Proofs.YtpplkjjfaibmmaaDoor
open Go Go.Proofs Go.RowKit
attribute [local go_sem] Oper.semAt_some
theorem RRow.hl {w : World} {la : Option Addr} {n c : Nat} {l : List J} (h : RRow w (.slice la n c) l) : l ≠ [] → ∃ B off, la = some ⟨B, off, none⟩ ∧ B < w.heap.size ∧ JRow w B off l := by
  obtain ⟨la', c', e, h1, h2⟩ := h
  intro hne
  have e1 := (Value.slice.inj e).1
  subst e1
  cases la with
  | none => exact absurd (h1 rfl) hne
  | some ad =>
    obtain ⟨B, off, rfl, h3, h4⟩ := h2 _ rfl
    exact ⟨B, off, rfl, h3, h4⟩
/-- A row of jobs that is read, if there are any. -/
def HL (w : World) (la : Option Addr) (l : List J) : Prop := l ≠ [] → ∃ B off, la = some ⟨B, off, none⟩ ∧ B < w.heap.size ∧ JRow w B off l
theorem HL.below {w w' : World} {la : Option Addr} {l : List J} (h : HL w la l) (hb : Below w.heap.size w w') : HL w' la l := fun hne => by
  obtain ⟨B, off, e, h1, h2⟩ := h hne
  exact ⟨B, off, e, Nat.lt_of_lt_of_le h1 hb.size, h2.below hb h1⟩
theorem ltE_iff {a d i : Int} (h : ltE a d i = true) : a ≤ 1048576 ∧ d ≤ 1048576 ∧ i ≤ 1048576 ∧ -1048576 ≤ a ∧ -1048576 ≤ d ∧ -1048576 ≤ i := by
  simp only [ltE, Bool.and_eq_true, decide_eq_true_eq] at h
  omega
theorem mv_rg {a d i : Int} {x : J} (hg : gd x) (ht : x.t ≤ 1073741824) (ha : 0 ≤ a) (hd : 0 ≤ d) (hi : 0 ≤ i) (hau : a ≤ 1048576) (hiu : i ≤ 1048576) : RgJ x ∧ RgJ (mvJ a d i x) := by
  obtain ⟨g1, g2, g3, g4, g5⟩ := hg
  have h1 := mv_ge (a := a) (d := d) (i := i) x ha hi g2
  have h2 := mv_le (a := a) (d := d) (i := i) x
  have h3 := mv_up (a := a) (d := d) (i := i) x 1073741824 hd hi (by omega) ht (by omega)
  unfold RgJ Rg
  omega
theorem add_law (l : List J) {a d i room : Int} (hE : ltE a d i = true) (hT : ∀ x ∈ l, x.t ≤ 1073741824) (la : Option Addr) (c : Nat) (w : World) (hw0 : 0 < w.heap.size) (hTab : TabAt w) (hR : HL w la l) (hmay : mayV (checkV l) a d i room l.length = true) :
    Calls Tryd.prog 8 #[.slice la l.length c, .agg #[.int .i64 a, .int .i64 d, .int .i64 i], .int .i64 room] w fun e w' => (∃ (v6 v8 : Value) (base : Nat) (out : List J) (slot : Int) (went : List (Int × Int)), e = .returned (.tuple #[v6, .int .i64 slot, v8, .int .i64 0]) ∧ RRow w' v6 out ∧ WRow w' base v8 went ∧ went.length ≤ 40 ∧ Hid (Holds1 a d i l out slot went ∧ (out.length : Int) ≤ room)) ∧ Below w.heap.size w w' := by
  have hm := hmay
  unfold mayV at hm
  rw [decide_eq_true_eq] at hm
  obtain ⟨hc, ha, hd, hi, hr1, hr2, hn⟩ := hm
  obtain ⟨h32, hso, hg⟩ := (checkV_iff l).1 hc
  have hE' := ltE_iff hE
  have hM : ∀ x ∈ l, RgJ x ∧ RgJ (mvJ a d i x) := fun x hx => mv_rg (hg x hx).2 (hT x hx) ha hd hi (by omega) (by omega)
  refine (add_k l h32 (by unfold Rg; omega) (by unfold Rg; omega) (by unfold Rg; omega) la c w hw0 hTab hR (fun x hx => ⟨(hg x hx).1, (hg x hx).2.1⟩) hso (free_ex h32 hso) hM (by unfold Rg; omega) hi ⟨hr1, hn⟩ hmay).mono ?_
  rintro e w' ⟨⟨r, v6, v8, out, slot, went, he, h6, ⟨base, h8⟩, hwl, hr, hA⟩, hb⟩
  have hrf : ∀ x ∈ l, x.s ≠ (r : Int) := fun x hx e => by
    have := hr.2.1
    unfold usedF at this
    rw [List.any_eq_false] at this
    exact this x hx (by simpa using e)
  have hH := hA.holds hso hg ha hi ⟨by omega, by have := hr.1; omega⟩ hrf
  exact ⟨⟨v6, v8, base, out, slot, went, he, h6, h8, hwl, Lib.hid ⟨hH.1, by omega⟩⟩, hb⟩
section
variable {l : List J} {a d i room : Int} {la : Option Addr} {c : Nat} {w : World}
set_option maxRecDepth 100000 in
set_option maxHeartbeats 4000000 in
theorem keeps_a (hL : ∀ W, Below w.heap.size w W → Calls Tryd.prog 6 #[] W fun e w' => e = .returned (.bool true) ∧ Below W.heap.size W w')
    (h13 : ∀ W, Below w.heap.size w W → Calls Tryd.prog 13 #[.slice la l.length c, .agg #[.int .i64 a, .int .i64 d, .int .i64 i]] W fun e w' => e = .returned (.bool false) ∧ Below W.heap.size W w') :
    Calls Tryd.prog 4 #[.slice la l.length c, .agg #[.int .i64 a, .int .i64 d, .int .i64 i], .int .i64 room] w fun e w' => e = .returned (.bool true) ∧ Below w.heap.size w w' := by
  have h3 := Box3.new w a d i
  have hB0 : Below w.heap.size w (w.alloc (.cells #[.int .i64 a, .int .i64 d, .int .i64 i] 27)) := (Below.refl _ w).alloc (Nat.le_refl _) _
  go_enter Tryd.func4, Tryd.ntmps4
  go_wp2_with fail
  generalize w.alloc (.cells #[.int .i64 a, .int .i64 d, .int .i64 i] 27) = W0 at *
  go_wp2_with (first
    | (go_at_call 6; ((with_reducible refine (hL _ hB0).mono ?_); rintro e W1 ⟨rfl, hb1⟩; have hB1 := hB0.trans (hb1.mono hB0.size); have h31 := h3.below hb1 h3.lt; obtain ⟨e0, e1, e2⟩ := h31.at))
    | (go_at_call 13; ((with_reducible refine (h13 _ hB1).mono ?_); rintro e W2 ⟨rfl, hb2⟩; have hB2 := hB1.trans (hb2.mono hB1.size))))
  go_ret
  exact ⟨rfl, hB2⟩
set_option maxRecDepth 100000 in
set_option maxHeartbeats 4000000 in
theorem keeps_b (hL : ∀ W, Below w.heap.size w W → Calls Tryd.prog 6 #[] W fun e w' => e = .returned (.bool true) ∧ Below W.heap.size W w')
    (h13 : ∀ W, Below w.heap.size w W → Calls Tryd.prog 13 #[.slice la l.length c, .agg #[.int .i64 a, .int .i64 d, .int .i64 i]] W fun e w' => e = .returned (.bool true) ∧ Below W.heap.size W w')
    (h8 : ∀ W, Below w.heap.size w W → Calls Tryd.prog 8 #[.slice la l.length c, .agg #[.int .i64 a, .int .i64 d, .int .i64 i], .int .i64 room] W fun e w' => e = .returned (.tuple #[.slice none 0 0, .int .i64 0, .slice none 0 0, .int .i64 2]) ∧ Below W.heap.size W w') :
    Calls Tryd.prog 4 #[.slice la l.length c, .agg #[.int .i64 a, .int .i64 d, .int .i64 i], .int .i64 room] w fun e w' => e = .returned (.bool true) ∧ Below w.heap.size w w' := by
  have h3 := Box3.new w a d i
  have hB0 : Below w.heap.size w (w.alloc (.cells #[.int .i64 a, .int .i64 d, .int .i64 i] 27)) := (Below.refl _ w).alloc (Nat.le_refl _) _
  go_enter Tryd.func4, Tryd.ntmps4
  go_wp2_with fail
  generalize w.alloc (.cells #[.int .i64 a, .int .i64 d, .int .i64 i] 27) = W0 at *
  go_wp2_with (first
    | (go_at_call 6; ((with_reducible refine (hL _ hB0).mono ?_); rintro e W1 ⟨rfl, hb1⟩; have hB1 := hB0.trans (hb1.mono hB0.size); have h31 := h3.below hb1 h3.lt; obtain ⟨e0, e1, e2⟩ := h31.at))
    | (go_at_call 13; ((with_reducible refine (h13 _ hB1).mono ?_); rintro e W2 ⟨rfl, hb2⟩; have hB2 := hB1.trans (hb2.mono hB1.size); have h32 := h31.below hb2 h31.lt; clear e0 e1 e2; obtain ⟨e0, e1, e2⟩ := h32.at))
    | (go_at_call 8; ((with_reducible refine (h8 _ hB2).mono ?_); rintro e W3 ⟨rfl, hb3⟩; have hB3 := hB2.trans (hb3.mono hB2.size))))
  go_ret
  exact ⟨rfl, hB3⟩
end
end Go.Proofs.YtpplkjjfaibmmaaDoor
