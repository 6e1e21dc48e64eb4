/- Regex: what the laws call, with their arguments. -/
import Derived.Test.YtpbkgegkjglibaaDoorW14
import Derived.Test.YtpbkgegkjglibaaDoorW15
import Derived.Test.YtpbkgegkjglibaaDoorW17
import Derived.Test.YtpbkgegkjglibaaDoorA8
namespace Go.Proofs.YtpbkgegkjglibaaDoor
open Go Go.Proofs Go.RowKit
attribute [local go_sem] Oper.semAt_some

theorem RRow.same' {w w' : World} {v : Value} {r : List Nd} (h : RRow w v r) (hb : Below w.heap.size w w') : RRow w' v r := h.below (Nat.le_refl _) hb
theorem RRow.form {w : World} {v : Value} {r : List Nd} (h : RRow w v r) : ∃ la n c, v = .slice la n c := by
  obtain ⟨la, c, e, _⟩ := h
  exact ⟨la, _, c, e⟩
theorem shN_wd {d : Int} {x : Nd} (h : x.Wd) : (shN d x).Wd := ⟨h.a, h.b, h.c, h.d⟩
def AllWd (r : List Nd) : Prop := ∀ x ∈ r, x.Wd
theorem zero_wd (k : Int) (ks : List Int) : Nd.Wd ⟨k, 0, 0, 0, 0, ks⟩ := ⟨(by decide : (0 : Nat) < 18446744073709551616), (by decide : (0 : Nat) < 18446744073709551616), (by decide : (0 : Nat) < 18446744073709551616), (by decide : (0 : Nat) < 18446744073709551616)⟩
theorem one_wd {k : Int} {a : List Nd} (h : AllWd a) : AllWd (joinV k [a]) := by
  rw [join_one]
  intro x hx
  rcases List.mem_append.1 hx with hx | hx
  · exact h x hx
  · rw [List.mem_singleton.1 hx]; exact zero_wd _ _
theorem two_wd {k : Int} {a b : List Nd} (ha : AllWd a) (hb : AllWd b) : AllWd (joinV k [a, b]) := by
  rw [join_two]
  intro x hx
  rcases List.mem_append.1 hx with hx | hx
  · rcases List.mem_append.1 hx with hx | hx
    · exact ha x hx
    · obtain ⟨y, hy, rfl⟩ := List.mem_map.1 hx; exact shN_wd (hb y hy)
  · rw [List.mem_singleton.1 hx]; exact zero_wd _ _
theorem one_len (k : Int) (a : List Nd) : (joinV k [a]).length = a.length + 1 := by rw [join_one]; simp
theorem two_len (k : Int) (a b : List Nd) : (joinV k [a, b]).length = a.length + b.length + 1 := by rw [join_two]; simp; omega
/-- A row of one, joined. -/
theorem join1_k (kind : Int) {a : List Nd} (ha : RxOk a) {av : Value} (w : World) (hR : RRow w av a) :
    Calls Tryd.prog 12 #[.int .i64 kind, .slice (some ⟨w.heap.size, 0, none⟩) 1 1] (w.alloc (.cells #[av] 24)) fun e w' => JoinPost w' (joinV kind [a]) e ∧ Below w.heap.size w w' := by
  have hb : Below w.heap.size w (w.alloc (.cells #[av] 24)) := (Below.refl _ _).alloc (Nat.le_refl _) _
  have hB := Bx.new w 24 #[av]
  have := joined_k kind [a] w.heap.size 1 (by simp) (fun p hp => by rw [List.mem_singleton.1 hp]; exact ha) (w.alloc (.cells #[av] 24)) hB.lt (fun i p hp => by
    cases i with
    | zero => simp at hp; subst hp; exact ⟨av, hB.cell 0, hR.same' hb⟩
    | succ i => simp at hp)
  exact this.mono fun e w' ⟨h1, h2⟩ => ⟨h1, hb.trans (h2.mono hb.size)⟩
theorem join2_k (kind : Int) {a b : List Nd} (ha : RxOk a) (hb : RxOk b) {av bv : Value} (w : World) (hRa : RRow w av a) (hRb : RRow w bv b) :
    Calls Tryd.prog 12 #[.int .i64 kind, .slice (some ⟨w.heap.size, 0, none⟩) 2 2] (w.alloc (.cells #[av, bv] 24)) fun e w' => JoinPost w' (joinV kind [a, b]) e ∧ Below w.heap.size w w' := by
  have hbw : Below w.heap.size w (w.alloc (.cells #[av, bv] 24)) := (Below.refl _ _).alloc (Nat.le_refl _) _
  have hB := Bx.new w 24 #[av, bv]
  have := joined_k kind [a, b] w.heap.size 2 (by simp) (fun p hp => by simp at hp; rcases hp with rfl | rfl; exact ha; exact hb) (w.alloc (.cells #[av, bv] 24)) hB.lt (fun i p hp => by
    match i, hp with
    | 0, hp => simp at hp; subst hp; exact ⟨av, hB.cell 0, hRa.same' hbw⟩
    | 1, hp => simp at hp; subst hp; exact ⟨bv, hB.cell 1, hRb.same' hbw⟩
    | i + 2, hp => simp at hp)
  exact this.mono fun e w' ⟨h1, h2⟩ => ⟨h1, hbw.trans (h2.mono hbw.size)⟩
/-- Matches of a row that may be. -/
theorem match_k {r : List Nd} (ok : RxOk r) (hw : AllWd r) (s : ByteArray) (hs : s.size ≤ 1000) {v : Value} (w : World) (hR : RRow w v r) {b : Bool} (hb : matchV r (bytesOf s) = b) :
    Calls Tryd.prog 17 #[v, .string s] w fun e w' => e = .returned (.bool b) ∧ Below w.heap.size w w' := by
  have := matches_k r v s (by have := ok.most; omega) hw hs w hR
  rw [show mV r s = b by unfold mV; rw [if_pos ok, hb]] at this
  exact this
/-- A row of one node without parts, as a literal. -/
theorem lit_row (w : World) (k : Int) : RRow (w.alloc (.cells #[.int .i64 k, .int .u64 0, .int .u64 0, .int .u64 0, .int .u64 0, .slice none 0 0] 45)) (.slice (some ⟨w.heap.size, 0, none⟩) 1 1) [⟨k, 0, 0, 0, 0, []⟩] := by
  have hB := Bx.new w 45 #[.int .i64 k, .int .u64 0, .int .u64 0, .int .u64 0, .int .u64 0, .slice none 0 0]
  refine ⟨_, 1, rfl, (fun e => by cases e), fun a e _ => ?_⟩
  obtain rfl := Option.some.inj e
  refine ⟨w.heap.size, 0, rfl, hB.lt, fun i x hx => ?_⟩
  cases i with
  | zero =>
    simp at hx
    subst hx
    exact ⟨hB.cell 0, hB.cell 1, hB.cell 2, hB.cell 3, hB.cell 4, _, hB.cell 5, none, 0, rfl, fun _ => rfl, fun a e => by cases e⟩
  | succ i => simp at hx
end Go.Proofs.YtpbkgegkjglibaaDoor
