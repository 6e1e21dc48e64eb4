/- Regex: Check. -/
import Derived.Test.YtpbkgegkjglibaaDoorA8
import Derived.Test.YtpbkgegkjglibaaDoorRf1
import Derived.RangeFuncBox
import Derived.ProofKit
import Derived.Test.YtpbkgegkjglibaaDoorProg
import Derived.WalkKit
import Derived.BigQuiet
import Derived.RegionTactic
import Derived.Deep.RegionWith
import Derived.Deep.Cut
import Derived.Lib.Hide
import Derived.Laws.Cover1
import Derived.Maps.AppendAt
import Derived.OwnWalk
import Derived.Laws.Bits64b
import Derived.Lib.ConvBytes
namespace Go.Proofs.YtpbkgegkjglibaaDoor
open Go Go.Proofs Go.RowKit
attribute [local go_sem] Oper.semAt_some

/-- A set lies in block B. -/
def BRow (W : World) (B : Nat) (l : List Bool) : Prop := ∃ cs : Array Value, W.heap[B]? = some (.cells cs 4 (0, 0)) ∧ ∀ (i : Nat) (b : Bool), l[i]? = some b → cs[i]? = some (.bool b)
theorem BRow.lt {W : World} {B : Nat} {l : List Bool} (h : BRow W B l) : B < W.heap.size := by obtain ⟨cs, h, _⟩ := h; exact (Array.getElem?_eq_some_iff.1 h).1
theorem BRow.at {W : World} {B : Nat} {l : List Bool} (h : BRow W B l) (i : Nat) (b : Bool) (hb : l[i]? = some b) : W.cell? ⟨B, i, none⟩ = some (.bool b) := by
  obtain ⟨cs, h, hc⟩ := h
  simp [World.cell?, h, hc i b hb]
theorem BRow.frozen {W : World} {B : Nat} {l : List Bool} (h : BRow W B l) (j : Nat) : W.frozen? ⟨B, j, none⟩ = false := by
  obtain ⟨cs, h, _⟩ := h
  simp [World.frozen?, h]
theorem BRow.same {W W' : World} {B : Nat} {l : List Bool} (h : BRow W B l) (e : W'.heap[B]? = W.heap[B]?) : BRow W' B l := by
  obtain ⟨cs, h, hc⟩ := h
  exact ⟨cs, e.trans h, hc⟩
theorem BRow.below {n B : Nat} {l : List Bool} {w w' : World} (h : BRow w B l) (hb : Below n w w') (hn : B < n) : BRow w' B l := h.same (hb.block _ hn)
theorem BRow.but {A B : Nat} {l : List Bool} {w w' : World} (h : BRow w B l) (hb : AX.But A w w') (hn : B ≠ A) : BRow w' B l := h.same (hb.same _ h.lt hn)
theorem BRow.other {W : World} {B B' i : Nat} {l : List Bool} {v : Value} (h : BRow W B l) (hne : B ≠ B') : BRow (W.setCell ⟨B', i, none⟩ v) B l := h.same (Below.heap_setCell _ _ _ _ hne)
theorem BRow.set {W : World} {B : Nat} {l : List Bool} (h : BRow W B l) (i : Nat) (b : Bool) : BRow (W.setCell ⟨B, i, none⟩ (.bool b)) B (l.set i b) := by
  obtain ⟨cs, h, hc⟩ := h
  have hb := (Array.getElem?_eq_some_iff.1 h).1
  refine ⟨cs.setIfInBounds i (.bool b), by simp [World.setCell, Array.getElem?_modify, h], fun j c hj => ?_⟩
  rw [Array.getElem?_setIfInBounds]
  rw [List.getElem?_set] at hj
  by_cases e : i = j
  · subst e
    rw [if_pos rfl] at hj ⊢
    split at hj
    · rename_i hl
      have := hc i l[i] (List.getElem?_eq_getElem hl)
      rw [if_pos (Array.getElem?_eq_some_iff.1 this).1, Option.some.inj hj]
    · cases hj
  · rw [if_neg e] at hj ⊢
    exact hc j c hj
theorem but_set (w : World) (A i : Nat) (v : Value) : AX.But A w (w.setCell ⟨A, i, none⟩ v) :=
  ⟨(Below.refl 0 w).setCell (p := ⟨A, i, none⟩) (Nat.zero_le _) v, fun _ _ hk => Below.heap_setCell _ _ _ _ hk⟩
def sv (B n c : Nat) : Value := .slice (some ⟨B, 0, none⟩) n c

set_option maxHeartbeats 4000000 in
theorem or_k (A B ca cb n : Nat) (la lb : List Bool) (hAB : B ≠ A) (hla : la.length = n) (hlb : lb.length = n) (hn : n ≤ 1000000) (w : World) (hA : BRow w A la) (hB : BRow w B lb) :
    Calls Tryd.prog 38 #[.slice (some ⟨A, 0, none⟩) n ca, .slice (some ⟨B, 0, none⟩) n cb] w fun e w' => e = .returned (.tuple #[]) ∧ BRow w' A (orS la lb) ∧ AX.But A w w' := by
  go_enter Tryd.func38, Tryd.ntmps38
  go_wp2
  obtain ⟨wo, rfl⟩ : ∃ wo : World, wo = w := ⟨_, rfl⟩
  go_loopw [8] (fun i wr => ∃ (k : Nat) (m : List Bool), k ≤ n ∧ i = .int .i64 k ∧ BRow wr A m ∧ m.length = n ∧ (∀ j, j < k → m[j]? = (orS la lb)[j]?) ∧ (∀ j, k ≤ j → m[j]? = la[j]?) ∧ AX.But A wo wr)
    (fun i _ => n - (intOf i).toNat)
  case atStart => exact ⟨0, la, Nat.zero_le _, rfl, hA, hla, fun j h => by omega, fun j _ => rfl, AX.But.refl _ _⟩
  case round =>
    obtain ⟨k, m, hk, rfl, hm, hml, h1, h2, hbut⟩ := hrel
    by_cases hlt : k < n
    · have hB' := hB.but hbut hAB
      obtain ⟨x, hx⟩ : ∃ x, la[k]? = some x := ⟨_, List.getElem?_eq_getElem (by omega)⟩
      obtain ⟨y, hy⟩ : ∃ y, lb[k]? = some y := ⟨_, List.getElem?_eq_getElem (by omega)⟩
      have hmx := (h2 k (Nat.le_refl _)).trans hx
      have HO := Lib.hid (show (orS la lb)[k]? = some (x || y) by unfold orS; rw [List.getElem?_zipWith, hx, hy])
      have HM := Lib.hid hmx
      have c0 := hm.at k x hmx
      have c1 := hB'.at k y hy
      have f0 := hm.frozen k
      clear hmx hx hy
      have hk0 : (0 : Int) ≤ (k : Int) := by omega
      have hk1 : (k : Int) < (n : Int) := by omega
      have hkt : (k : Int).toNat = k := by omega
      have hme : ∀ b, b = (x || y) → BRow (wr.setCell ⟨A, k, none⟩ (.bool b)) A (m.set k b) ∧ (m.set k b).length = n ∧ (∀ j, j < k + 1 → (m.set k b)[j]? = (orS la lb)[j]?) ∧ (∀ j, k + 1 ≤ j → (m.set k b)[j]? = la[j]?) ∧ AX.But A wo (wr.setCell ⟨A, k, none⟩ (.bool b)) := by
        rintro b rfl
        refine ⟨hm.set k _, by simpa using hml, fun j hj => ?_, fun j hj => ?_, hbut.trans (but_set _ _ _ _)⟩
        · rw [List.getElem?_set]
          by_cases e : k = j
          · subst e; rw [if_pos rfl, if_pos (by omega), HO.out]
          · rw [if_neg e]; exact h1 j (by omega)
        · rw [List.getElem?_set, if_neg (by omega)]; exact h2 j (by omega)
      have HME := Lib.hid hme
      clear hme h1 h2
      cases x <;> cases y
      all_goals
        go_wp2
        go_roundw
        case rel =>
          obtain ⟨q1, q2, q3, q4, q5⟩ := HME.out _ rfl
          exact ⟨k + 1, _, by omega, by simp, q1, q2, q3, q4, q5⟩
        case measure => simp [intOf]; omega
    · obtain rfl : k = n := by omega
      have e : m = orS la lb := List.ext_getElem? fun j => by
        by_cases hj : j < k
        · exact h1 j hj
        · rw [List.getElem?_eq_none (by omega), List.getElem?_eq_none (by simp [orS]; omega)]
      subst e
      go_wp2
      exact bodyPost_end (v := .tuple #[]) (by simp [results, Tryd.results38, go_sem]) rfl ⟨rfl, hm, hbut⟩
end Go.Proofs.YtpbkgegkjglibaaDoor

namespace Go.Proofs.YtpbkgegkjglibaaDoor
open Go Go.Proofs Go.RowKit
attribute [local go_sem] Oper.semAt_some

/-- All that lay lies as it lay, but for the blocks of S. -/
structure ButS (S : Nat → Prop) (X Y : World) : Prop where
  low : Below 0 X Y
  same : ∀ k, k < X.heap.size → ¬ S k → Y.heap[k]? = X.heap[k]?
theorem ButS.refl (S : Nat → Prop) (X : World) : ButS S X X := ⟨Below.refl _ _, fun _ _ _ => rfl⟩
theorem ButS.trans {S : Nat → Prop} {X Y Z : World} (h : ButS S X Y) (k : ButS S Y Z) : ButS S X Z := ⟨h.low.trans k.low, fun i hi hA => (k.same i (Nat.lt_of_lt_of_le hi h.low.size) hA).trans (h.same i hi hA)⟩
theorem ButS.of_below {S : Nat → Prop} {X Y : World} (h : Below X.heap.size X Y) : ButS S X Y := ⟨h.mono (Nat.zero_le _), fun k hk _ => h.block k hk⟩
theorem ButS.of_but {S : Nat → Prop} {A : Nat} {X Y : World} (h : AX.But A X Y) (hA : S A) : ButS S X Y := ⟨h.low, fun k hk hn => h.same k hk (fun e => hn (e ▸ hA))⟩
theorem ButS.mono {S S' : Nat → Prop} {X Y : World} (h : ButS S X Y) (hS : ∀ k, k < X.heap.size → S k → S' k) : ButS S' X Y := ⟨h.low, fun k hk hn => h.same k hk (fun e => hn (hS k hk e))⟩
theorem ButS.below {S : Nat → Prop} {n : Nat} {X Y : World} (h : ButS S X Y) (hn : n ≤ X.heap.size) (hA : ∀ k, S k → n ≤ k) : Below n X Y := ⟨h.low.os, h.low.tape, h.low.output, h.low.size, fun k hk => h.same k (by omega) (fun e => by have := hA k e; omega)⟩
theorem BRow.buts {S : Nat → Prop} {B : Nat} {l : List Bool} {w w' : World} (h : BRow w B l) (hb : ButS S w w') (hn : ¬ S B) : BRow w' B l := h.same (hb.same _ h.lt hn)

/-- The rows of what may come next: M of n are made, each in a block of its own. -/
structure NAt (W : World) (NB n M : Nat) (bs : Nat → Nat) (nx : List (List Bool)) : Prop where
  len : nx.length = n
  cells : ∃ cs : Array Value, W.heap[NB]? = some (.cells cs 77 (0, 0)) ∧ cs.size = n ∧ ∀ i, i < M → cs[i]? = some (.slice (some ⟨bs i, 0, none⟩) n n)
  row : ∀ i row, i < M → nx[i]? = some row → BRow W (bs i) row ∧ row.length = n
  inj : ∀ i j, i < M → j < M → bs i = bs j → i = j
  nb : ∀ i, i < M → bs i ≠ NB
theorem NAt.cell {W : World} {NB n M : Nat} {bs : Nat → Nat} {nx : List (List Bool)} (h : NAt W NB n M bs nx) {i : Nat} (hi : i < M) : W.cell? ⟨NB, i, none⟩ = some (.slice (some ⟨bs i, 0, none⟩) n n) := by
  obtain ⟨cs, h1, _, h2⟩ := h.cells
  simp [World.cell?, h1, h2 i hi]
theorem NAt.lt {W : World} {NB n M : Nat} {bs : Nat → Nat} {nx : List (List Bool)} (h : NAt W NB n M bs nx) : NB < W.heap.size := by
  obtain ⟨cs, h1, _⟩ := h.cells
  exact (Array.getElem?_eq_some_iff.1 h1).1
theorem NAt.same {W W' : World} {NB n M : Nat} {bs : Nat → Nat} {nx : List (List Bool)} (h : NAt W NB n M bs nx) (h1 : W'.heap[NB]? = W.heap[NB]?) (h2 : ∀ i, i < M → W'.heap[bs i]? = W.heap[bs i]?) : NAt W' NB n M bs nx := by
  obtain ⟨cs, a, b, c⟩ := h.cells
  exact ⟨h.len, ⟨cs, h1.trans a, b, c⟩, fun i row hi hr => ⟨(h.row i row hi hr).1.same (h2 i hi), (h.row i row hi hr).2⟩, h.inj, h.nb⟩
theorem NAt.below {W W' : World} {m NB n M : Nat} {bs : Nat → Nat} {nx : List (List Bool)} (h : NAt W NB n M bs nx) (hb : Below m W W') (h1 : NB < m) (h2 : ∀ i, i < M → bs i < m) : NAt W' NB n M bs nx :=
  h.same (hb.block _ h1) (fun i hi => hb.block _ (h2 i hi))
theorem NAt.blt {W : World} {NB n M : Nat} {bs : Nat → Nat} {nx : List (List Bool)} (h : NAt W NB n M bs nx) (hM : M ≤ n) {i : Nat} (hi : i < M) : bs i < W.heap.size :=
  (h.row i _ hi (List.getElem?_eq_getElem (by rw [h.len]; omega))).1.lt
/-- One row is turned. -/
theorem NAt.turn {W W' : World} {NB n M : Nat} {bs : Nat → Nat} {nx : List (List Bool)} (h : NAt W NB n M bs nx) (hM : M ≤ n) {k : Nat} (hk : k < M) {row : List Bool} (hr : BRow W' (bs k) row) (hl : row.length = n) (hb : AX.But (bs k) W W') : NAt W' NB n M bs (nx.set k row) := by
  obtain ⟨cs, a, b, c⟩ := h.cells
  refine ⟨by rw [List.length_set, h.len], ⟨cs, (hb.same _ h.lt (fun e => h.nb k hk e.symm)).trans a, b, c⟩, fun i r hi hr' => ?_, h.inj, h.nb⟩
  rw [List.getElem?_set] at hr'
  by_cases e : k = i
  · subst e
    rw [if_pos rfl, if_pos (by rw [h.len]; omega)] at hr'
    rw [← Option.some.inj hr']
    exact ⟨hr, hl⟩
  · rw [if_neg e] at hr'
    exact ⟨(h.row i r hi hr').1.but hb (fun e' => e (h.inj _ _ hi hk e').symm), (h.row i r hi hr').2⟩

set_option maxHeartbeats 4000000 in
theorem follow_k (NB L F n M c cl cf : Nat) (bs : Nat → Nat) (rv ev : Value) (nx : List (List Bool)) (l f : List Bool) (hM : M ≤ n) (hn : n ≤ 1000000) (hl : l.length = n) (hf : f.length = n) (hlM : ∀ p, mem l p → p < M)
    (hbl : ∀ i, i < M → bs i ≠ L) (hbf : ∀ i, i < M → bs i ≠ F) (w : World) (hN : NAt w NB n M bs nx) (hL : BRow w L l) (hF : BRow w F f) :
    Calls Tryd.prog 57 #[.agg #[rv, ev, .slice (some ⟨NB, 0, none⟩) n c], .slice (some ⟨L, 0, none⟩) n cl, .slice (some ⟨F, 0, none⟩) n cf] w fun e w' =>
      e = .returned (.tuple #[]) ∧ NAt w' NB n M bs (folS nx l f) ∧ ButS (fun k => ∃ i, i < M ∧ k = bs i) w w' := by
  have hNl := hN.lt
  have hbb := fun i (hi : i < M) => hN.blt hM hi
  have hLl := hL.lt
  have hFl := hF.lt
  go_enter Tryd.func57, Tryd.ntmps57
  go_wp2
  generalize hW0 : w.alloc _ = W0
  have hX0 : W0.heap[w.heap.size]? = some (.cells #[rv, ev, .slice (some ⟨NB, 0, none⟩) n c] 75 (0, 0)) := by rw [← hW0]; exact World.alloc_heap_new w _
  have hB0 : Below w.heap.size w W0 := by rw [← hW0]; exact (Below.refl _ w).alloc (Nat.le_refl _) _
  have hN0 : NAt W0 NB n M bs nx := hN.below hB0 hNl hbb
  have hL0 := hL.below hB0 hLl
  have hF0 := hF.below hB0 hFl
  clear hW0
  obtain ⟨ns, hns⟩ : ∃ ns, ns = w.heap.size := ⟨_, rfl⟩
  rw [← hns] at hX0 hB0 hNl hbb hLl hFl ⊢
  have HNS := Lib.hid hns
  clear hns
  go_loopw [10] (fun i wr => ∃ (k : Nat) (m : List (List Bool)), k ≤ n ∧ i = .int .i64 k ∧ NAt wr NB n M bs m ∧ (∀ j, j < k → m[j]? = (folS nx l f)[j]?) ∧ (∀ j, k ≤ j → m[j]? = nx[j]?) ∧ ButS (fun k => ∃ i, i < M ∧ k = bs i) W0 wr)
    (fun i _ => n - (intOf i).toNat)
  case atStart => exact ⟨0, nx, Nat.zero_le _, rfl, hN0, fun j h => by omega, fun j _ => rfl, ButS.refl _ _⟩
  case round =>
    obtain ⟨k, m, hk, rfl, hm, h1, h2, hbut⟩ := hrel
    have hX : wr.cell? ⟨ns, 2, none⟩ = some (.slice (some ⟨NB, 0, none⟩) n c) := by
      have := (hbut.same ns (by rw [Array.getElem?_eq_some_iff] at hX0; exact hX0.1) (by rintro ⟨i, hi, e⟩; have := hbb i hi; omega)).trans hX0
      simp [World.cell?, this]
    by_cases hlt : k < n
    · obtain ⟨x, hx⟩ : ∃ x, l[k]? = some x := ⟨_, List.getElem?_eq_getElem (by omega)⟩
      have c0 := (hL0.buts hbut (by rintro ⟨i, hi, e⟩; exact hbl i hi e.symm)).at k x hx
      have hk0 : (0 : Int) ≤ (k : Int) := by omega
      have hk1 : (k : Int) < (n : Int) := by omega
      have hkt : (k : Int).toNat = k := by omega
      obtain ⟨row, hrow⟩ : ∃ row, nx[k]? = some row := ⟨_, List.getElem?_eq_getElem (by rw [hN.len]; exact hlt)⟩
      have hfol := row_folS (f := f) (by rw [hN.len, hl] : nx.length = l.length) k row hrow
      have hmk := (h2 k (Nat.le_refl _)).trans hrow
      have hld : l.getD k false = x := by rw [List.getD_eq_getElem?_getD, hx]; rfl
      rw [hld] at hfol
      cases x with
      | false =>
        have HR := Lib.hid (show m[k]? = (folS nx l f)[k]? by rw [hmk, hfol]; rfl)
        clear hx hrow hfol hmk hld
        go_wp2
        go_roundw
        case rel => exact ⟨k + 1, m, by omega, by simp, hm, fun j hj => by
          by_cases e : j = k
          · subst e; exact HR.out
          · exact h1 j (by omega), fun j hj => h2 j (by omega), hbut⟩
        case measure => simp [intOf]; omega
      | true =>
        have hkM := hlM k hx
        have hc := hm.cell hkM
        obtain ⟨hr1, hr2⟩ := hm.row k row hkM hmk
        have hF1 := hF0.buts hbut (by rintro ⟨i, hi, e⟩; exact hbf i hi e.symm)
        have hor := or_k (bs k) F n cf n row f (fun e => hbf k hkM e.symm) hr2 hf hn wr hr1 hF1
        have HR := Lib.hid (show (folS nx l f)[k]? = some (orS row f) by rw [hfol]; rfl)
        have HL := Lib.hid (show (orS row f).length = n by rw [len_orS (by rw [hr2, hf]), hr2])
        clear hx hrow hfol hmk hld hr1 hr2
        generalize orS row f = row' at *
        have hbk := hm.blt hM hkM
        go_wp2_with (go_at_call 38; refine hor.mono ?_; rintro e Wd ⟨rfl, hrd, hbd⟩)
        go_roundw
        case rel => exact ⟨k + 1, m.set k row', by omega, by simp, hm.turn hM hkM hrd HL.out hbd, fun j hj => by
          rw [List.getElem?_set]
          by_cases e : k = j
          · subst e; rw [if_pos rfl, if_pos (by rw [hm.len]; omega), HR.out]
          · rw [if_neg e]; exact h1 j (by omega), fun j hj => by
          rw [List.getElem?_set, if_neg (by omega)]; exact h2 j (by omega), hbut.trans (.of_but hbd ⟨k, hkM, rfl⟩)⟩
        case measure => simp [intOf]; omega
    · obtain rfl : k = n := by omega
      have e : m = folS nx l f := List.ext_getElem? fun j => by
        by_cases hj : j < k
        · exact h1 j hj
        · rw [List.getElem?_eq_none (by rw [hm.len]; omega), List.getElem?_eq_none (by rw [len_folS (by rw [hN.len, hl]), hN.len]; omega)]
      subst e
      go_wp2
      refine bodyPost_end (v := .tuple #[]) (by simp [results, Tryd.results57, go_sem]) rfl ⟨rfl, hm, ?_⟩
      exact (ButS.of_below (HNS.out ▸ hB0)).trans hbut
end Go.Proofs.YtpbkgegkjglibaaDoor

namespace Go.Proofs.YtpbkgegkjglibaaDoor
open Go Go.Proofs Go.RowKit
attribute [local go_sem] Oper.semAt_some

theorem addr_add (B o j : Nat) : (⟨B, o, none⟩ : Addr).add j = ⟨B, o + j, none⟩ := by unfold Addr.add; split <;> simp_all
theorem info4' : (Tryd.prog.info? 4).map (fun i => (i.zero, i.size, i.bytes)) = some (some (.bool false), 1, 1) := by kernel_rfl
theorem eql_some (W : World) (B off n c : Nat) : (binOp .eql 77 (.slice (some ⟨B, off, none⟩) n c) (.slice none 0 0)).run Tryd.prog W = .ok (.bool false) W := by kernel_rfl
set_option maxRecDepth 100000 in
set_option maxHeartbeats 2000000 in
theorem clone_k (B n c : Nat) (l : List Bool) (hl : l.length = n) (h1n : 1 ≤ n) (hn : n ≤ 1000000) (w : World) (hB : BRow w B l) :
    Calls Tryd.prog 67 #[.slice (some ⟨B, 0, none⟩) n c] w fun e w' => (∃ B' c', e = .returned (.slice (some ⟨B', 0, none⟩) n c') ∧ w.heap.size ≤ B' ∧ BRow w' B' l) ∧ Below w.heap.size w w' := by
  have hq := eql_some
  obtain ⟨ti, hi, hz0, hz1, hz2⟩ := info_parts info4'
  have hown : (w.alloc (.cells #[] 4)).ownsRow w.heap.size 4 1 (.slice (some ⟨w.heap.size, 0, none⟩) 0 0) 0 [] := ⟨rfl, .inr ⟨w.heap.size, 0, #[], rfl, Nat.le_refl _, World.alloc_heap_new w _, Nat.le_refl _, by unfold maxLen; omega, rfl, rfl⟩⟩
  have hB0 : Below w.heap.size w (w.alloc (.cells #[] 4)) := (Below.refl _ w).alloc (Nat.le_refl _) _
  have hrow1 := hB.below hB0 hB.lt
  have hnews : ∀ j u, (l.map Value.bool)[j]? = some u → (w.alloc (.cells #[] 4)).cell? ((⟨B, 0, none⟩ : Addr).add j) = some u := fun j u hj => by
    rw [addr_add, Nat.zero_add]
    rw [List.getElem?_map] at hj
    cases e : l[j]? with
    | none => rw [e] at hj; cases hj
    | some b => rw [e] at hj; cases hj; exact hrow1.at j b e
  have hone : ∀ v ∈ l.map Value.bool, v.oneCell' = true := fun v hv => by
    obtain ⟨b, _, rfl⟩ := List.mem_map.1 hv; rfl
  go_enter Tryd.func67, Tryd.ntmps67
  go_wp2_with (at_builtin; refine wpList_append_own _ rfl _ _ 77 rfl w.heap.size 4 ti (.bool false) 1 1 Tryd.underlying77 hi hz0 hz1 hz2 rfl (by decide) _ 0 [] rfl hown ⟨B, 0, none⟩ n c (l.map Value.bool) rfl (by simp [hl]) hnews hone (by unfold maxLen; omega) (by omega) (by simp) ?_; intro v' w1 hown' hgrow _)
  have hBl : Below w.heap.size w w1 := hB0.grown hgrow (by simp) fun k hk => (hown.lt k hk).1
  rw [Nat.zero_add, List.nil_append] at hown'
  rcases hown'.2 with ⟨rfl, h0⟩ | ⟨g, cap, cur, rfl, hg, hh, h1, h2, h3, h4⟩
  · omega
  · refine bodyPost_ret (v := .slice (some ⟨g, 0, none⟩) n cap) (by simp [results, Tryd.results67, go_sem]) rfl ⟨⟨g, cap, rfl, hg, cur, hh, fun i b hb => ?_⟩, hBl⟩
    have hj : (cur.toList.take (n * 1))[i]? = some (.bool b) := by rw [h4, List.getElem?_map, hb]; rfl
    rw [List.getElem?_take] at hj
    split at hj
    · simpa using hj
    · cases hj

theorem wrap_two_pow (r : Nat) (hr : r < 64) : IntKind.u64.wrap ((2 : Int) ^ r) = ((2 ^ r : Nat) : Int) := by
  have h : 2 ^ r < 2 ^ 64 := Nat.pow_lt_pow_right (by decide) hr
  have h : 2 ^ r < 18446744073709551616 := by simpa using h
  have e : ((2 : Int) ^ r) = ((2 ^ r : Nat) : Int) := by simp
  rw [e]
  generalize 2 ^ r = m at *
  rw [IntKind.wrap_u64]
  omega
theorem land_two_pow (a r : Nat) : a &&& 2 ^ r = if a.testBit r then 2 ^ r else 0 := by
  apply Nat.eq_of_testBit_eq
  intro j
  rw [Nat.testBit_and, Nat.testBit_two_pow]
  by_cases h : r = j
  · subst h
    cases a.testBit r <;> simp
  · cases a.testBit r <;> simp [h]
theorem and_bit (a r : Nat) (ha : a < 18446744073709551616) (hr : r < 64) : (bits .and .u64 (a : Int) (IntKind.u64.wrap ((2 : Int) ^ r)) != 0) = a.testBit r := by
  have h : 2 ^ r < 2 ^ 64 := Nat.pow_lt_pow_right (by decide) hr
  rw [wrap_two_pow r hr, bits_and_u64_nat a _ ha (by simpa using h), land_two_pow]
  have hp : 0 < 2 ^ r := Nat.two_pow_pos r
  generalize 2 ^ r = m at hp
  cases hb : a.testBit r with
  | true => simp; omega
  | false => simp
/-- The words are words. -/
structure Nd.Wd (x : Nd) : Prop where
  a : x.a < 18446744073709551616
  b : x.b < 18446744073709551616
  c : x.c < 18446744073709551616
  d : x.d < 18446744073709551616
set_option maxHeartbeats 2000000 in
theorem has_k (x : Nd) (hx : x.Wd) (b : Nat) (hb : b < 256) (w : World) :
    Calls Tryd.prog 37 #[.agg #[.int .u64 x.a, .int .u64 x.b, .int .u64 x.c, .int .u64 x.d], .int .u8 b] w fun e w' => e = .returned (.bool (x.has (b : Nat))) ∧ Below w.heap.size w w' := by
  obtain ⟨k, a0, a1, a2, a3, kids⟩ := x
  obtain ⟨l0, l1, l2, l3⟩ := hx
  simp only at l0 l1 l2 l3
  obtain ⟨r, hr⟩ : ∃ r : Nat, r = b % 64 := ⟨_, rfl⟩
  have hr64 : r < 64 := by omega
  have hrm : (b : Int) % 64 = (r : Nat) := by omega
  have h4 : b / 64 = 0 ∨ b / 64 = 1 ∨ b / 64 = 2 ∨ b / 64 = 3 := by omega
  have hB : Below w.heap.size w (w.alloc (.cells #[.int .u64 a0, .int .u64 a1, .int .u64 a2, .int .u64 a3] 38)) := (Below.refl _ w).alloc (Nat.le_refl _) _
  have HH : Hid (Nd.has ⟨k, a0, a1, a2, a3, kids⟩ (b : Nat) = (if b / 64 = 0 then a0 else if b / 64 = 1 then a1 else if b / 64 = 2 then a2 else a3).testBit r) := Lib.hid (by subst hr; simp [Nd.has, Nd.wd])
  clear hr
  obtain hq | hq | hq | hq := h4
  all_goals
    simp only [hq] at HH
  · have hqi : (b : Int) / 64 = 0 := by omega
    have ho := and_bit _ r l0 hr64
    clear hq
    go_enter Tryd.func37, Tryd.ntmps37
    go_wp2
    go_ret
    exact ⟨by rw [HH.out]; rfl, hB⟩
  · have hqi : (b : Int) / 64 = 1 := by omega
    have ho := and_bit _ r l1 hr64
    clear hq
    go_enter Tryd.func37, Tryd.ntmps37
    go_wp2
    go_ret
    exact ⟨by rw [HH.out]; rfl, hB⟩
  · have hqi : (b : Int) / 64 = 2 := by omega
    have ho := and_bit _ r l2 hr64
    clear hq
    go_enter Tryd.func37, Tryd.ntmps37
    go_wp2
    go_ret
    exact ⟨by rw [HH.out]; rfl, hB⟩
  · have hqi : (b : Int) / 64 = 3 := by omega
    have ho := and_bit _ r l3 hr64
    clear hq
    go_enter Tryd.func37, Tryd.ntmps37
    go_wp2
    go_ret
    exact ⟨by rw [HH.out]; rfl, hB⟩

set_option maxHeartbeats 2000000 in
theorem arity_k (k : Int) (w : World) : Calls Tryd.prog 27 #[.int .i64 k] w fun e w' => e = .returned (.tuple #[.int .i64 (lowV k), .int .i64 (highV k), .bool (kindV k)]) ∧ w' = w := by
  have h8 : k = 1 ∨ k = 2 ∨ k = 3 ∨ k = 4 ∨ k = 5 ∨ k = 6 ∨ k = 7 ∨ (k ≠ 1 ∧ k ≠ 2 ∧ k ≠ 3 ∧ k ≠ 4 ∧ k ≠ 5 ∧ k ≠ 6 ∧ k ≠ 7) := by omega
  rcases h8 with rfl | rfl | rfl | rfl | rfl | rfl | rfl | ⟨h1, h2, h3, h4, h5, h6, h7⟩
  all_goals
    first
      | (have e : lowV k = 0 ∧ highV k = 0 ∧ kindV k = false := ⟨by simp [lowV, h1, h2, h3, h4, h5, h6, h7], by simp [highV, h1, h2, h3, h4, h5, h6, h7], by simp [kindV]; omega⟩
         rw [e.1, e.2.1, e.2.2]
         clear e)
      | skip
    go_enter Tryd.func27, Tryd.ntmps27
    go_wp2
    refine bodyPost_ret (v := .tuple #[.int .i64 _, .int .i64 _, .bool _]) (by first | (simp [results, Tryd.results27, go_sem]; done) | (simp [results, Tryd.results27, go_sem]; decide)) rfl ⟨rfl, rfl⟩
end Go.Proofs.YtpbkgegkjglibaaDoor

namespace Go.Proofs.YtpbkgegkjglibaaDoor
open Go Go.Proofs Go.RowKit
attribute [local go_sem] Oper.semAt_some

/-- Numbers that are read. -/
def IRd (W : World) (v : Value) (l : List Int) : Prop := ∃ (la : Option Addr) (c : Nat), v = .slice la l.length c ∧ (la = none → l = []) ∧ ∀ a, la = some a → l ≠ [] → ∃ B off, a = ⟨B, off, none⟩ ∧ B < W.heap.size ∧ ∀ i x, l[i]? = some x → W.cell? ⟨B, off + i, none⟩ = some (.int .i64 x)
theorem IRd.below {n : Nat} {w w' : World} {v : Value} {l : List Int} (h : IRd w v l) (hn : w.heap.size ≤ n) (hb : Below n w w') : IRd w' v l := by
  obtain ⟨la, c, rfl, h1, h2⟩ := h
  exact ⟨la, c, rfl, h1, fun a e ne => by obtain ⟨B, off, e1, e2, e3⟩ := h2 a e ne; exact ⟨B, off, e1, Nat.lt_of_lt_of_le e2 hb.size, fun i x hx => (hb.cell (p := ⟨B, off + i, none⟩) (Nat.lt_of_lt_of_le e2 hn)).trans (e3 i x hx)⟩⟩
/-- A node lies at place o of block B. -/
structure XAt (W : World) (B o : Nat) (x : Nd) : Prop where
  c0 : W.cell? ⟨B, o, none⟩ = some (.int .i64 x.k)
  c1 : W.cell? ⟨B, o + 1, none⟩ = some (.int .u64 (x.a : Nat))
  c2 : W.cell? ⟨B, o + 2, none⟩ = some (.int .u64 (x.b : Nat))
  c3 : W.cell? ⟨B, o + 3, none⟩ = some (.int .u64 (x.c : Nat))
  c4 : W.cell? ⟨B, o + 4, none⟩ = some (.int .u64 (x.d : Nat))
  c5 : ∃ v, W.cell? ⟨B, o + 5, none⟩ = some v ∧ IRd W v x.kids
theorem XAt.below {n B o : Nat} {x : Nd} {w w' : World} (h : XAt w B o x) (hn : w.heap.size ≤ n) (hb : Below n w w') (hB : B < n) : XAt w' B o x :=
  ⟨(hb.cell (p := ⟨B, o, none⟩) hB).trans h.c0, (hb.cell (p := ⟨B, o + 1, none⟩) hB).trans h.c1, (hb.cell (p := ⟨B, o + 2, none⟩) hB).trans h.c2, (hb.cell (p := ⟨B, o + 3, none⟩) hB).trans h.c3, (hb.cell (p := ⟨B, o + 4, none⟩) hB).trans h.c4, by
    obtain ⟨v, h1, h2⟩ := h.c5
    exact ⟨v, (hb.cell (p := ⟨B, o + 5, none⟩) hB).trans h1, h2.below hn hb⟩⟩
/-- Nodes that are read. -/
def RRow (W : World) (v : Value) (r : List Nd) : Prop := ∃ (la : Option Addr) (c : Nat), v = .slice la r.length c ∧ (la = none → r = []) ∧ ∀ a, la = some a → r ≠ [] → ∃ B off, a = ⟨B, off, none⟩ ∧ B < W.heap.size ∧ ∀ i x, r[i]? = some x → XAt W B (off + i * 6) x
theorem RRow.below {n : Nat} {w w' : World} {v : Value} {r : List Nd} (h : RRow w v r) (hn : w.heap.size ≤ n) (hb : Below n w w') : RRow w' v r := by
  obtain ⟨la, c, rfl, h1, h2⟩ := h
  exact ⟨la, c, rfl, h1, fun a e ne => by obtain ⟨B, off, e1, e2, e3⟩ := h2 a e ne; exact ⟨B, off, e1, Nat.lt_of_lt_of_le e2 hb.size, fun i x hx => (e3 i x hx).below hn hb (Nat.lt_of_lt_of_le e2 hn)⟩⟩

/-- Numbers of one's own lie in block B. -/
def IRow (W : World) (B : Nat) (l : List Int) : Prop := ∃ cs : Array Value, W.heap[B]? = some (.cells cs 3 (0, 0)) ∧ ∀ (i : Nat) (b : Int), l[i]? = some b → cs[i]? = some (.int .i64 b)
theorem IRow.lt {W : World} {B : Nat} {l : List Int} (h : IRow W B l) : B < W.heap.size := by obtain ⟨cs, h, _⟩ := h; exact (Array.getElem?_eq_some_iff.1 h).1
theorem IRow.at {W : World} {B : Nat} {l : List Int} (h : IRow W B l) (i : Nat) (b : Int) (hb : l[i]? = some b) : W.cell? ⟨B, i, none⟩ = some (.int .i64 b) := by
  obtain ⟨cs, h, hc⟩ := h
  simp [World.cell?, h, hc i b hb]
theorem IRow.frozen {W : World} {B : Nat} {l : List Int} (h : IRow W B l) (j : Nat) : W.frozen? ⟨B, j, none⟩ = false := by
  obtain ⟨cs, h, _⟩ := h
  simp [World.frozen?, h]
theorem IRow.same {W W' : World} {B : Nat} {l : List Int} (h : IRow W B l) (e : W'.heap[B]? = W.heap[B]?) : IRow W' B l := by
  obtain ⟨cs, h, hc⟩ := h
  exact ⟨cs, e.trans h, hc⟩
theorem IRow.below {n B : Nat} {l : List Int} {w w' : World} (h : IRow w B l) (hb : Below n w w') (hn : B < n) : IRow w' B l := h.same (hb.block _ hn)
theorem IRow.other {W : World} {B B' i : Nat} {l : List Int} {v : Value} (h : IRow W B l) (hne : B ≠ B') : IRow (W.setCell ⟨B', i, none⟩ v) B l := h.same (Below.heap_setCell _ _ _ _ hne)
theorem IRow.set {W : World} {B : Nat} {l : List Int} (h : IRow W B l) (i : Nat) (b : Int) : IRow (W.setCell ⟨B, i, none⟩ (.int .i64 b)) B (l.set i b) := by
  obtain ⟨cs, h, hc⟩ := h
  have hb := (Array.getElem?_eq_some_iff.1 h).1
  refine ⟨cs.setIfInBounds i (.int .i64 b), by simp [World.setCell, Array.getElem?_modify, h], fun j c hj => ?_⟩
  rw [Array.getElem?_setIfInBounds]
  rw [List.getElem?_set] at hj
  by_cases e : i = j
  · subst e
    rw [if_pos rfl] at hj ⊢
    split at hj
    · rename_i hl
      have := hc i l[i] (List.getElem?_eq_getElem hl)
      rw [if_pos (Array.getElem?_eq_some_iff.1 this).1, Option.some.inj hj]
    · cases hj
  · rw [if_neg e] at hj ⊢
    exact hc j c hj

theorem not1_k (x : Int) (w : World) : Calls Tryd.prog 29 #[.int .i64 x] w fun e w' => e = .returned (.bool (x != 1)) ∧ w' = w := by
  go_enter Tryd.func29, Tryd.ntmps29
  go_wp2
  exact bodyPost_ret (v := .bool (x != 1)) (by simp [results, Tryd.results29, go_sem]) rfl ⟨rfl, rfl⟩
set_option maxHeartbeats 4000000 in
theorem index_k (B n c : Nat) (l : List Int) (hn : n ≤ l.length) (hl : l.length ≤ 1000000) (w : World) (hB : IRow w B l) :
    Calls Tryd.prog 47 #[.slice (some ⟨B, 0, none⟩) n c, .func (.func 29) #[] #[]] w fun e w' => (∃ z : Int, e = .returned (.int .i64 z) ∧ ((0 ≤ z ∧ ∃ x ∈ l.take n, x ≠ 1) ∨ (z = -1 ∧ ∀ x ∈ l.take n, x = 1))) ∧ w' = w := by
  go_enter Tryd.func47, Tryd.ntmps47
  go_wp2
  obtain ⟨wo, rfl⟩ : ∃ wo : World, wo = w := ⟨_, rfl⟩
  go_loopw [8] (fun i wr => ∃ k : Nat, k ≤ n ∧ i = .int .i64 k ∧ Hid (∀ x ∈ l.take k, x = 1) ∧ wr = wo) (fun i _ => n - (intOf i).toNat)
  case atStart => exact ⟨0, Nat.zero_le _, rfl, Lib.hid (by simp), rfl⟩
  case round =>
    obtain ⟨k, hk, rfl, hH, rfl⟩ := hrel
    by_cases hlt : k < n
    · obtain ⟨x, hx⟩ : ∃ x, l[k]? = some x := ⟨_, List.getElem?_eq_getElem (by omega)⟩
      have c0 := hB.at k x hx
      have hn1 := not1_k x wr
      have hk0 : (0 : Int) ≤ (k : Int) := by omega
      have hk1 : (k : Int) < (n : Int) := by omega
      have HT : Hid (l.take (k + 1) = l.take k ++ [x]) := Lib.hid (by rw [List.take_add_one, hx]; rfl)
      have HM : Hid (x ∈ l.take n) := Lib.hid (by rw [List.mem_take_iff_getElem]; exact ⟨k, by omega, by rw [List.getElem?_eq_getElem (by omega)] at hx; exact Option.some.inj hx⟩)
      clear hx
      by_cases h1 : x = 1
      · subst h1
        rw [show ((1 : Int) != 1) = false from rfl] at hn1
        go_wp2_with (go_at_call 29; refine hn1.mono ?_; rintro e Wd ⟨rfl, rfl⟩)
        go_roundw
        case rel => exact ⟨k + 1, by omega, by simp, Lib.hid (by rw [HT.out]; intro y hy; rcases List.mem_append.1 hy with hy | hy; exact hH.out y hy; simpa using hy), by trivial⟩
        case measure => simp [intOf]; omega
      · have hb : (x != 1) = true := by simpa using h1
        rw [hb] at hn1
        have H1 := Lib.hid h1
        clear h1 hb
        go_wp2_with (go_at_call 29; refine hn1.mono ?_; rintro e Wd ⟨rfl, rfl⟩)
        exact bodyPost_ret (v := .int .i64 k) (by simp [results, Tryd.results47, go_sem]) rfl ⟨⟨k, rfl, .inl ⟨by omega, x, HM.out, H1.out⟩⟩, rfl⟩
    · obtain rfl : k = n := by omega
      go_wp2
      exact bodyPost_ret (v := .int .i64 (-1)) (by simp [results, Tryd.results47, go_sem]) rfl ⟨⟨-1, rfl, .inr ⟨rfl, hH.out⟩⟩, rfl⟩
open Classical in
theorem contains_k (B n c : Nat) (l : List Int) (hn : n ≤ l.length) (hl : l.length ≤ 1000000) (w : World) (hB : IRow w B l) :
    Calls Tryd.prog 28 #[.slice (some ⟨B, 0, none⟩) n c, .func (.func 29) #[] #[]] w fun e w' => e = .returned (.bool (decide (∃ x ∈ l.take n, x ≠ 1))) ∧ w' = w := by
  have h := index_k B n c l hn hl w hB
  go_enter Tryd.func28, Tryd.ntmps28
  go_wp2_with (go_at_call 47; refine h.mono ?_; rintro e Wd ⟨⟨z, rfl, hz⟩, rfl⟩)
  have e : decide (∃ x ∈ l.take n, x ≠ 1) = decide (z ≥ 0) := by
    rcases hz with ⟨h1, h2⟩ | ⟨h1, h2⟩
    · rw [decide_eq_true h2, decide_eq_true h1]
    · rw [decide_eq_false (by rintro ⟨x, hx, h3⟩; exact h3 (h2 x hx)), decide_eq_false (by omega)]
  rw [e]
  exact bodyPost_ret (v := .bool (decide (z ≥ 0))) (by simp [results, Tryd.results28, go_sem]) rfl ⟨rfl, rfl⟩
end Go.Proofs.YtpbkgegkjglibaaDoor

namespace Go.Proofs.YtpbkgegkjglibaaDoor
open Go Go.Proofs Go.RowKit
attribute [local go_sem] Oper.semAt_some

open Classical in
noncomputable def checkV (r : List Nd) : Int := if RxOk r then 0 else 2
/-- How often each place is used: by all parts of the first nodes, and by some more. -/
def usedL (n : Nat) (ks : List Int) : List Int := (List.range n).map fun j : Nat => ((ks.count (j : Int) : Nat) : Int)
theorem usedL_len (n : Nat) (ks : List Int) : (usedL n ks).length = n := by simp [usedL]
theorem usedL_get (n : Nat) (ks : List Int) (j : Nat) (hj : j < n) : (usedL n ks)[j]? = some ((ks.count (j : Int) : Nat) : Int) := by simp [usedL, hj]
theorem usedL_put (n : Nat) (ks : List Int) (j : Nat) (hj : j < n) : (usedL n ks).set j (((ks.count (j : Int) : Nat) : Int) + 1) = usedL n (ks ++ [(j : Int)]) := by
  apply List.ext_getElem?
  intro i
  rw [List.getElem?_set]
  by_cases hi : i < n
  · rw [usedL_get n (ks ++ [(j : Int)]) i hi, usedL_get n ks i hi, List.count_append, List.count_singleton]
    by_cases e : j = i
    · subst e; rw [if_pos rfl, if_pos (by rw [usedL_len]; exact hj), if_pos (by simp)]; simp
    · rw [if_neg e, if_neg (by simp; omega)]; simp
  · rw [List.getElem?_eq_none (by rw [usedL_len]; omega : (usedL n (ks ++ [(j : Int)])).length ≤ i), List.getElem?_eq_none (by rw [usedL_len]; omega : (usedL n ks).length ≤ i)]
    rw [if_neg (by omega)]
theorem kidsOf_take (r : List Nd) (k : Nat) (x : Nd) (h : r[k]? = some x) : kidsOf (r.take (k + 1)) = kidsOf (r.take k) ++ x.kids := by
  rw [List.take_add_one, h, kidsOf, List.flatMap_append]; simp [kidsOf]
def clsZ (x : Nd) : Bool := decide (x.a = 0 ∧ x.b = 0 ∧ x.c = 0 ∧ x.d = 0)
/-- What Check asks of a node itself. -/
def headOk (x : Nd) : Prop := (1 ≤ x.k ∧ x.k ≤ 7) ∧ lowV x.k ≤ x.kids.length ∧ (x.kids.length : Int) ≤ highV x.k ∧ (x.k ≠ 2 → x.a = 0 ∧ x.b = 0 ∧ x.c = 0 ∧ x.d = 0)
theorem neq_cls (a b c d : Nat) (W : World) : (binOp .neq 38 (.agg #[.int .u64 a, .int .u64 b, .int .u64 c, .int .u64 d]) (.agg #[.int .u64 0, .int .u64 0, .int .u64 0, .int .u64 0])).run Tryd.prog W = .ok (.bool (!decide (a = 0 ∧ b = 0 ∧ c = 0 ∧ d = 0))) W := by
  cases a <;> cases b <;> cases c <;> cases d <;> kernel_rfl
theorem info3' : (Tryd.prog.info? 3).map (fun i => (i.zero, i.size, i.bytes)) = some (some (.int .i64 0), 1, 8) := by kernel_rfl
theorem made_get (z : Value) (k i : Nat) (h : i < k) : (madeCells #[z] k)[i]? = some z := by
  simp [madeCells, h, Nat.mod_one]
theorem mk_ints (n : Nat) (hn : n ≤ 1000) (w : World) : ∃ W0, (Instr.makeSlice 43 (.int .i64 n) (.int .i64 n)).run Tryd.prog w = .ok (.slice (some ⟨w.heap.size, 0, none⟩) n n) W0 ∧ IRow W0 w.heap.size (usedL n []) ∧ Below w.heap.size w W0 ∧ W0.heap.size = w.heap.size + 1 := by
  obtain ⟨ti, hi, hz0, hz1, hz2⟩ := info_parts info3'
  have h := run_makeSlice (P := Tryd.prog) (w := w) 43 3 ti (.int .i64 0) Tryd.underlying43 hi hz0 .i64 .i64 (n : Int) (n : Int) (by omega) (Int.le_refl _) (by rw [hz1]; simp; omega) (by rw [hz2]; omega) (by omega)
  refine ⟨_, by rw [Int.toNat_natCast] at h; exact h, ⟨_, World.alloc_heap_new w _, fun i b hb => ?_⟩, (Below.refl _ w).alloc (Nat.le_refl _) _, by simp⟩
  have hi' := lt_of_some hb
  rw [usedL_len] at hi'
  rw [usedL_get n [] i hi'] at hb
  show (madeCells #[Value.int .i64 0] (n * ti.size))[i]? = _
  rw [hz1, Nat.mul_one]
  have := made_get (.int .i64 0) n i hi'
  simp at hb
  subst hb
  exact this
end Go.Proofs.YtpbkgegkjglibaaDoor
