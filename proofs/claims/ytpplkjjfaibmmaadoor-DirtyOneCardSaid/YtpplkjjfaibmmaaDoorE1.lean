/- Dirty: jobs in memory; Check. -/
import Derived.Test.YtpplkjjfaibmmaaDoorD14
namespace Go.Proofs.YtpplkjjfaibmmaaDoor
open Go Go.Proofs Go.RowKit
attribute [local go_sem] Oper.semAt_some
/-- A job. -/
structure J where
  s : Int
  f : Int
  t : Int
  a : Int
  l : Int
def J.v (x : J) : Value := .agg #[.int .i64 x.s, .int .i64 x.f, .int .i64 x.t, .int .i64 x.a, .int .i64 x.l]
/-- A job lies at place o of block B. -/
structure JAt (W : World) (B o : Nat) (x : J) : Prop where
  c0 : W.cell? ⟨B, o, none⟩ = some (.int .i64 x.s)
  c1 : W.cell? ⟨B, o + 1, none⟩ = some (.int .i64 x.f)
  c2 : W.cell? ⟨B, o + 2, none⟩ = some (.int .i64 x.t)
  c3 : W.cell? ⟨B, o + 3, none⟩ = some (.int .i64 x.a)
  c4 : W.cell? ⟨B, o + 4, none⟩ = some (.int .i64 x.l)
theorem JAt.below {n B o : Nat} {x : J} {w w' : World} (h : JAt w B o x) (hb : Below n w w') (hn : B < n) : JAt w' B o x :=
  ⟨(hb.cell (p := ⟨B, o, none⟩) hn).trans h.c0, (hb.cell (p := ⟨B, o + 1, none⟩) hn).trans h.c1, (hb.cell (p := ⟨B, o + 2, none⟩) hn).trans h.c2, (hb.cell (p := ⟨B, o + 3, none⟩) hn).trans h.c3, (hb.cell (p := ⟨B, o + 4, none⟩) hn).trans h.c4⟩
/-- A row of jobs. -/
def JRow (W : World) (B off : Nat) (l : List J) : Prop := ∀ i (h : i < l.length), JAt W B (off + i * 5) l[i]
theorem JRow.below {n B off : Nat} {l : List J} {w w' : World} (h : JRow w B off l) (hb : Below n w w') (hn : B < n) : JRow w' B off l := fun i hi => (h i hi).below hb hn
def okJ (last : Int) (x : J) : Bool := decide (last < x.s) && (decide (x.s < 64) && (decide (0 ≤ x.f) && (decide (x.f ≤ x.t) && decide (0 ≤ min x.a x.l))))
def okL : Int → List J → Bool
  | _, [] => true
  | last, x :: r => okJ last x && okL x.s r
def checkV (l : List J) : Int := if 32 < l.length then 2 else if okL (-1) l then 0 else 2

set_option maxHeartbeats 4000000 in
theorem check_k (l : List J) (hl : l.length ≤ 1000000) (la : Option Addr) (c : Nat) (w : World)
    (hL : l ≠ [] → ∃ B off, la = some ⟨B, off, none⟩ ∧ B < w.heap.size ∧ JRow w B off l) :
    Calls Tryd.prog 14 #[.slice la l.length c] w fun e w' => e = .returned (.int .i64 (checkV l)) ∧ Below w.heap.size w w' := by
  by_cases h32 : 32 < l.length
  · go_enter Tryd.func14, Tryd.ntmps14
    go_wp2
    exact bodyPost_ret (v := .int .i64 (checkV l)) (by simp [results, Tryd.results14, go_sem, checkV, h32]) rfl ⟨rfl, Below.refl _ _⟩
  have HCV := Lib.hid (show checkV l = if okL (-1) l then 0 else 2 from if_neg h32)
  generalize checkV l = cv at *
  go_enter Tryd.func14, Tryd.ntmps14
  go_wp2
  obtain ⟨wo, rfl⟩ : ∃ wo : World, wo = w := ⟨_, rfl⟩
  go_loopw [3, 11] (fun la i wr => ∃ (k : Nat) (z : Int), k ≤ l.length ∧ la = .int .i64 z ∧ i = .int .i64 k ∧ okL (-1) l = okL z (l.drop k) ∧ Below wo.heap.size wo wr)
    (fun _ i _ => l.length - (intOf i).toNat)
  case atStart => exact ⟨0, -1, Nat.zero_le _, rfl, rfl, rfl, Below.refl _ _⟩
  case round =>
    obtain ⟨k, z, hk, rfl, rfl, hok, hB⟩ := hrel
    by_cases hlt : k < l.length
    · obtain ⟨B, off, hla, hBl, hRow⟩ := hL (by intro e; subst e; cases hlt)
      subst hla
      have hx := (hRow.below hB hBl) k hlt
      rw [List.drop_eq_getElem_cons hlt, okL] at hok
      generalize l[k] = x at *
      have HF : Hid (okJ z x = false → cv = 2) := Lib.hid fun h => by rw [HCV.out, hok, h]; rfl
      have HT : Hid (okJ z x = true → okL (-1) l = okL x.s (l.drop (k + 1))) := Lib.hid fun h => by rw [hok, h]; rfl
      clear hok
      obtain ⟨c0, c1, c2, c3, c4⟩ := hx
      have hk0 : (0 : Int) ≤ (k : Int) := by omega
      have hk1 : (k : Int) < (l.length : Int) := by omega
      have hlw : B < wr.heap.size := by have := hB.size; omega
      go_wp2
      case' roundEnd =>
        go_roundw
        case rel =>
          refine ⟨k + 1, x.s, by omega, rfl, by simp, HT.out ?_, hB.alloc hB.size _⟩
          have hm : (if x.l < x.a then x.l else x.a) = min x.a x.l := by split <;> omega
          generalize (if x.l < x.a then x.l else x.a) = m at *
          simp [okJ]; omega
        case measure => simp [intOf]; omega
      all_goals
        have hm : (if x.l < x.a then x.l else x.a) = min x.a x.l := by split <;> omega
        generalize (if x.l < x.a then x.l else x.a) = m at *
        have HE := HF.out (by simp [okJ]; omega)
        exact bodyPost_ret (v := .int .i64 cv) (by simp [results, Tryd.results14, go_sem, HE]) rfl ⟨rfl, hB.alloc hB.size _⟩
    · obtain rfl : k = l.length := by omega
      rw [List.drop_length] at hok
      go_wp2
      exact bodyPost_ret (v := .int .i64 cv) (by simp [results, Tryd.results14, go_sem, HCV.out, hok, okL]) rfl ⟨rfl, hB⟩
end Go.Proofs.YtpplkjjfaibmmaaDoor
