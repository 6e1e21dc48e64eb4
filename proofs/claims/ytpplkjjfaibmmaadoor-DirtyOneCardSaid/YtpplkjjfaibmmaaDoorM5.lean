/- DirtyOne: what its calls answer. -/
import Derived.Test.YtpplkjjfaibmmaaDoorM1
import Derived.Test.YtpplkjjfaibmmaaDoorK6
import Derived.Test.YtpplkjjfaibmmaaDoorD12
namespace Go.Proofs.YtpplkjjfaibmmaaDoor
open Go Go.Proofs Go.RowKit
attribute [local go_sem] Oper.semAt_some
theorem oneJ_v (f t : Int) : (oneJ f t).v = .agg #[.int .i64 0, .int .i64 f, .int .i64 t, .int .i64 0, .int .i64 0] := rfl
/-- An edit in memory. -/
structure EAt (W : World) (B o : Nat) (a d i : Int) : Prop where
  c0 : W.cell? ⟨B, o, none⟩ = some (.int .i64 a)
  c1 : W.cell? ⟨B, o + 1, none⟩ = some (.int .i64 d)
  c2 : W.cell? ⟨B, o + 2, none⟩ = some (.int .i64 i)
theorem EAt.below {n B o : Nat} {a d i : Int} {w w' : World} (h : EAt w B o a d i) (hb : Below n w w') (hn : B < n) : EAt w' B o a d i :=
  ⟨(hb.cell (p := ⟨B, o, none⟩) hn).trans h.c0, (hb.cell (p := ⟨B, o + 1, none⟩) hn).trans h.c1, (hb.cell (p := ⟨B, o + 2, none⟩) hn).trans h.c2⟩
/-- A row of edits that is read, if there are any. -/
def HE (w : World) (la : Option Addr) (l : List (Int × Int × Int)) : Prop := l ≠ [] → ∃ B off, la = some ⟨B, off, none⟩ ∧ B < w.heap.size ∧ ∀ (k : Nat) (h : k < l.length), EAt w B (off + k * 3) l[k].1 l[k].2.1 l[k].2.2
theorem add_first {a d i : Int} (hE : ltE a d i = true) (hp : 0 ≤ a ∧ 0 ≤ d ∧ 0 ≤ i) (w : World) (hw0 : 0 < w.heap.size) (hTab : TabAt w) :
    Calls Tryd.prog 8 #[.slice none 0 0, .agg #[.int .i64 a, .int .i64 d, .int .i64 i], .int .i64 1] w fun e w' => (∃ (la : Option Addr) (c : Nat) (v8 : Value), e = .returned (.tuple #[.slice la 1 c, .int .i64 0, v8, .int .i64 0]) ∧ RRow w' (.slice la 1 c) [oneJ a (a + i)]) ∧ Below w.heap.size w w' := by
  obtain ⟨ha, hd, hi⟩ := hp
  have hE' := ltE_iff hE
  refine (add_k (la := none) (c := 0) [] (by simp) (by unfold Rg; omega) (by unfold Rg; omega) (by unfold Rg; omega) w hw0 hTab (fun h => absurd rfl h) (fun x hx => by cases hx) .nil ⟨0, by decide, rfl⟩ (fun x hx => by cases hx) (by unfold Rg; omega) hi ⟨Int.le_refl _, by simp⟩ (by unfold mayV; rw [decide_eq_true_eq]; exact ⟨rfl, ha, hd, hi, Int.le_refl _, by decide, by simp⟩)).mono ?_
  rintro e w' ⟨⟨r, v6, v8, out, slot, went, he, h6, _, _, hr, hA⟩, hb⟩
  obtain ⟨rfl, rfl⟩ := one_none hA hr.2
  obtain ⟨la, c, rfl, h1, h2⟩ := h6
  exact ⟨⟨la, c, v8, he, la, c, rfl, h1, h2⟩, hb⟩
theorem add_next {a d i f t : Int} (hE : ltE a d i = true) (hp : 0 ≤ a ∧ 0 ≤ d ∧ 0 ≤ i) (hf : 0 ≤ f ∧ f ≤ t ∧ t ≤ 1073741824) (la : Option Addr) (c : Nat) (w : World) (hw0 : 0 < w.heap.size) (hTab : TabAt w) (hR : HL w la [oneJ f t]) :
    Calls Tryd.prog 8 #[.slice la 1 c, .agg #[.int .i64 a, .int .i64 d, .int .i64 i], .int .i64 1] w fun e w' => (∃ (la : Option Addr) (c : Nat) (v8 : Value), e = .returned (.tuple #[.slice la 1 c, .int .i64 0, v8, .int .i64 0]) ∧ RRow w' (.slice la 1 c) [oneJ (min (stt f a d i) a) (max (max (stt f a d i) (enn t a d i)) (a + i))]) ∧ Below w.heap.size w w' := by
  obtain ⟨ha, hd, hi⟩ := hp
  have hE' := ltE_iff hE
  have hg : gd (oneJ f t) := ⟨by show (0 : Int) < 64; decide, hf.1, hf.2.1, Int.le_refl _, Int.le_refl _⟩
  have hc : checkV [oneJ f t] = 0 := (checkV_iff _).2 ⟨by simp, List.pairwise_singleton _ _, fun x hx => by rw [List.mem_singleton.1 hx]; exact ⟨Int.le_refl _, hg⟩⟩
  refine (add_k (la := la) (c := c) [oneJ f t] (by simp) (by unfold Rg; omega) (by unfold Rg; omega) (by unfold Rg; omega) w hw0 hTab hR (fun x hx => by rw [List.mem_singleton.1 hx]; exact ⟨Int.le_refl _, hg.1⟩) (List.pairwise_singleton _ _) (free_ex (by simp) (List.pairwise_singleton _ _)) (fun x hx => by rw [List.mem_singleton.1 hx]; exact mv_rg hg hf.2.2 ha hd hi (by omega) (by omega)) (by unfold Rg; omega) hi ⟨Int.le_refl _, by simp⟩ (by unfold mayV; rw [decide_eq_true_eq]; exact ⟨hc, ha, hd, hi, Int.le_refl _, by decide, by simp⟩)).mono ?_
  rintro e w' ⟨⟨r, v6, v8, out, slot, went, he, h6, _, _, hr, hA⟩, hb⟩
  obtain ⟨rfl, rfl⟩ := one_some hA hr.2
  obtain ⟨la, c, rfl, h1, h2⟩ := h6
  exact ⟨⟨la, c, v8, he, la, c, rfl, h1, h2⟩, hb⟩
theorem add_neg {a d i : Int} (js : List J) (hj : js.length ≤ 1) (hp : ¬ (0 ≤ a ∧ 0 ≤ d ∧ 0 ≤ i)) (la : Option Addr) (c : Nat) (w : World) (hR : HL w la js) :
    Calls Tryd.prog 8 #[.slice la js.length c, .agg #[.int .i64 a, .int .i64 d, .int .i64 i], .int .i64 1] w fun e w' => e = .returned (.tuple #[.slice none 0 0, .int .i64 0, .slice none 0 0, .int .i64 2]) ∧ Below w.heap.size w w' :=
  add_no js (by omega) a d i 1 la c w hR (by unfold mayV; rw [decide_eq_false_iff_not]; intro h; exact hp ⟨h.2.1, h.2.2.1, h.2.2.2.1⟩)
end Go.Proofs.YtpplkjjfaibmmaaDoor
