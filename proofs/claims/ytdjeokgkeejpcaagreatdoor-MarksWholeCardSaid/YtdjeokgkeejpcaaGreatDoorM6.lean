/- Marks: slices.IndexFunc 73 and ContainsFunc 38 with Check's literal. -/
import Derived.Test.YtdjeokgkeejpcaaGreatDoorM2
import Derived.Deep.Cut
namespace Go.Proofs.YtdjeokgkeejpcaaGreatDoor
open Go Go.Proofs Go.RowKit
attribute [local go_sem] Oper.semAt_some
/-- A world that is w below w's end. -/
structure BW (w : World) where
  W : World
  h : Below w.heap.size w W
instance (w : World) : Inhabited (BW w) := ⟨⟨w, Below.refl _ w⟩⟩
theorem region_below {P : Program} {id : Nat} {Q : Exit → Act → World → Prop} {a : Act} {w : World} {l : List Oper} (hm : P.follows .mixedOrders = true) (hB : Region.lexB .any l.toArray = true)
    (h : wpQuiet P l.toArray (fun w' => ∃ p : BW w, w' = p.W) (fun a' => ∀ w', (∃ p : BW w, w' = p.W) → Q .normal a' w') l a) : (Code.region id l.toArray true).wp P Q a w :=
  wp_region_quiet (C := fun w' => ∃ p : BW w, w' = p.W) hm hB ⟨⟨w.drew, (Below.refl _ w).drew⟩, rfl⟩ (by simpa using h)
theorem BW.cell {w : World} {b o : Nat} {u : Value} (h : w.cell? ⟨b, o, none⟩ = some u) (hb : b < w.heap.size) : ∀ p : BW w, p.W.cell? ⟨b, o, none⟩ = some u := fun p => (p.h.cell (p := ⟨b, o, none⟩) hb).trans h
def endV : Option Nat → Value
  | none => .int .i64 (-1)
  | some n => .int .i64 n
def EndRel (l : List Pt) (f i : Nat) (kids : List Int) (w0 : World) (nv av kv : Value) (wr : World) : Prop :=
  ∃ (n : Nat) (a : Int) (k : Nat), nv = .int .i64 n ∧ av = .int .i64 a ∧ kv = .int .i64 k ∧ i < n ∧ n ≤ l.length ∧ k ≤ kids.length ∧ Hid (kidsF l (endF l f) (i + 1) (pt l i).frm kids = kidsF l (endF l f) n a (kids.drop k)) ∧ Below w0.heap.size w0 wr
theorem pt_get {l : List Pt} {i : Nat} (h : i < l.length) : pt l i = l[i] := by simp [pt, h]
set_option maxRecDepth 100000 in
set_option maxHeartbeats 16000000 in
theorem end17_k (l : List Pt) (hl : l.length ≤ 1000000) (la : Option Addr) (c : Nat) : ∀ (f i : Nat), i < l.length → l.length - i ≤ f → ∀ w, PRow w la l →
    Calls Tryz.prog 17 #[.slice la l.length c, .int .i64 i] w fun e w' => e = .returned (endV (endF l f i)) ∧ Below w.heap.size w w' := by
  intro f
  induction f with
  | zero => intro i hi hf; omega
  | succ f ih =>
    intro i hi hf w hR
    have hih : ∀ n, i < n → n < l.length → ∀ W, Below w.heap.size w W → Calls Tryz.prog 17 #[.slice la l.length c, .int .i64 n] W fun e w' => e = .returned (endV (endF l f n)) ∧ Below W.heap.size W w' := fun n h1 h2 W hW => ih n h2 (by omega) W (hR.below hW (Nat.le_refl _))
    clear ih
    have hend : Hid (endF l (f + 1) i = (kidsF l (endF l f) (i + 1) (pt l i).frm (pt l i).kids).bind fun x => if x.2 ≤ (pt l i).too then some x.1 else none) := Lib.hid rfl
    have hfin : Hid (∀ n a, kidsF l (endF l f) (i + 1) (pt l i).frm (pt l i).kids = some (n, a) → a ≤ (pt l i).too → endF l (f + 1) i = some n) := Lib.hid fun n a h1 h2 => by rw [hend.out, h1]; exact if_pos h2
    have hbad : Hid (∀ n a, kidsF l (endF l f) (i + 1) (pt l i).frm (pt l i).kids = some (n, a) → ¬ a ≤ (pt l i).too → endF l (f + 1) i = none) := Lib.hid fun n a h1 h2 => by rw [hend.out, h1]; exact if_neg h2
    have hnone : Hid (kidsF l (endF l f) (i + 1) (pt l i).frm (pt l i).kids = none → endF l (f + 1) i = none) := Lib.hid fun h1 => by rw [hend.out, h1]; rfl
    clear hend
    obtain ⟨r, hr⟩ : ∃ r, r = endF l (f + 1) i := ⟨_, rfl⟩
    rw [← hr]
    rw [← hr] at hfin hbad hnone
    have HR := Lib.hid hr
    clear hr
    have hi0 : (0 : Int) ≤ (i : Int) := by omega
    have hi1 : (i : Int) < (l.length : Int) := by omega
    obtain ⟨b, off, ka, kc, rfl, hbl, y, hK, hkl⟩ := hR.at hi
    rw [← pt_get hi] at y hK hkl
    obtain ⟨p, hp⟩ : ∃ p, p = pt l i := ⟨_, rfl⟩
    rw [← hp] at y hK hkl hfin hbad hnone
    have HP := Lib.hid hp
    clear hp
    have y2 := BW.cell y.c2 hbl
    go_enter Tryz.func17, Tryz.ntmps17
    go_upto_region 1 with (fail)
    refine region_below (by kernel_rfl) (by kernel_rfl) ?_
    repeat (go_big_quiet_step (fail))
    refine wpQuiet_nil ?_
    rintro W1 ⟨p1, rfl⟩
    obtain ⟨W1, hb1⟩ := p1
    change Below _ _ _ at hb1
    clear y2
    go_wp2_with fail
    go_loopw [5, 6, 7] (fun n a k wr => EndRel l f i p.kids w n a k wr) (fun _ _ k _ => p.kids.length - (intOf k).toNat)
    case atStart => exact ⟨i + 1, p.frm, 0, by simp, rfl, rfl, by omega, by omega, Nat.zero_le _, Lib.hid (by rw [List.drop_zero, ← HP.out]), hb1⟩
    case round =>
      obtain ⟨n, a, k, rfl, rfl, rfl, hin, hnl, hk, hH, hB⟩ := hrel
      have hR' := hR.below hB (Nat.le_refl _)
      have y' := y.below hB hbl
      have hK' := hK.below hB (Nat.le_refl _)
      clear hR y hK hb1
      have q1 := y'.c4
      have q2 := y'.c6
      clear y'
      have hk0 : (0 : Int) ≤ (k : Int) := by omega
      have hn0 : (0 : Int) ≤ (n : Int) := by omega
      by_cases hlt : k < p.kids.length
      · have hk1 : (k : Int) < (p.kids.length : Int) := by omega
        obtain ⟨kb, ko, rfl, hkb, q3⟩ := hK'.at hlt
        have hdr : Hid (p.kids.drop k = p.kids[k] :: p.kids.drop (k + 1)) := Lib.hid (List.drop_eq_getElem_cons hlt)
        obtain ⟨x, hx⟩ : ∃ x, x = p.kids[k] := ⟨_, rfl⟩
        rw [← hx] at q3 hdr
        clear hx hK'
        by_cases h1 : x = (n : Int)
        · subst h1
          by_cases h2 : (n : Int) < (l.length : Int)
          · have h2' : ¬ (l.length : Int) ≤ (n : Int) := by omega
            obtain ⟨b', off', ka', kc', e', _, z, _, _⟩ := hR'.at (show n < l.length by omega)
            cases e'
            rw [← pt_get (show n < l.length by omega)] at z
            obtain ⟨q, hq⟩ : ∃ q, q = pt l n := ⟨_, rfl⟩
            rw [← hq] at z
            have HQ := Lib.hid hq
            clear hq hR'
            have z2 := z.c2
            have z4 := z.c4
            clear z
            by_cases h3 : q.frm < a
            · have hN : Hid (r = none) := Lib.hid (by
                refine hnone.out ?_
                have e := hH.out
                rw [← HP.out] at e
                rw [e, hdr.out, kidsF, if_neg (by rw [← HQ.out]; omega)])
              go_wp2_with fail
              exact bodyPost_ret (v := .int .i64 (-1)) (by simp [results, Tryz.results17, go_sem]) rfl ⟨by rw [hN.out]; rfl, hB⟩
            · have hstep : Hid (kidsF l (endF l f) n a (p.kids.drop k) = (endF l f n).bind fun m => kidsF l (endF l f) m q.too (p.kids.drop (k + 1))) := Lib.hid (by
                rw [hdr.out, kidsF, if_pos ⟨rfl, by omega, by rw [← HQ.out]; omega⟩, HQ.out])
              have hcall := hih n hin (by omega) wr hB
              clear hih hdr
              cases hE : endF l f n with
              | none =>
                rw [hE] at hcall hstep
                have hN : Hid (r = none) := Lib.hid (by
                  refine hnone.out ?_
                  have e := hH.out
                  rw [← HP.out] at e
                  rw [e, hstep.out]; rfl)
                unfold endV at hcall
                clear hE
                go_wp2_with (go_at_call 17; ((with_reducible refine hcall.mono ?_); rintro e W2 ⟨rfl, hb2⟩))
                exact bodyPost_ret (v := .int .i64 (-1)) (by simp [results, Tryz.results17, go_sem]) rfl ⟨by rw [hN.out]; rfl, hB.trans (hb2.mono hB.size)⟩
              | some m =>
                have hm := end_lt f n m (by omega) hE
                rw [hE] at hcall hstep
                have hN : Hid (kidsF l (endF l f) (i + 1) p.frm p.kids = kidsF l (endF l f) m q.too (p.kids.drop (k + 1))) := Lib.hid (by
                  have e := hH.out
                  rw [← HP.out] at e
                  rw [e, hstep.out]; rfl)
                unfold endV at hcall
                have hm0 : ¬ (m : Int) < 0 := by omega
                clear hE
                go_wp2_with (go_at_call 17; ((with_reducible refine hcall.mono ?_); rintro e W2 ⟨rfl, hb2⟩))
                go_roundw
                case rel => exact ⟨m, q.too, k + 1, rfl, rfl, by simp, by omega, hm.2.1, by omega, Lib.hid (by rw [← HP.out]; exact hN.out), hB.trans (hb2.mono hB.size)⟩
                case measure => simp [intOf]; omega
          · have h2' : (l.length : Int) ≤ (n : Int) := by omega
            have hN : Hid (r = none) := Lib.hid (by
              refine hnone.out ?_
              have e := hH.out
              rw [← HP.out] at e
              rw [e, hdr.out, kidsF, if_neg (by omega)])
            go_wp2_with fail
            exact bodyPost_ret (v := .int .i64 (-1)) (by simp [results, Tryz.results17, go_sem]) rfl ⟨by rw [hN.out]; rfl, hB⟩
        · have hN : Hid (r = none) := Lib.hid (by
            refine hnone.out ?_
            have e := hH.out
            rw [← HP.out] at e
            rw [e, hdr.out, kidsF, if_neg (by omega)])
          go_wp2_with fail
          exact bodyPost_ret (v := .int .i64 (-1)) (by simp [results, Tryz.results17, go_sem]) rfl ⟨by rw [hN.out]; rfl, hB⟩
      · have hk1 : ¬ (k : Int) < (p.kids.length : Int) := by omega
        have hfe : Hid (kidsF l (endF l f) (i + 1) p.frm p.kids = some (n, a)) := Lib.hid (by
          have e := hH.out
          rw [← HP.out] at e
          rw [e, List.drop_eq_nil_of_le (by omega)]; rfl)
        by_cases h3 : p.too < a
        · have hN : Hid (r = none) := Lib.hid (hbad.out n a hfe.out (by omega))
          go_wp2_with fail
          exact bodyPost_ret (v := .int .i64 (-1)) (by simp [results, Tryz.results17, go_sem]) rfl ⟨by rw [hN.out]; rfl, hB⟩
        · have hN : Hid (r = some n) := Lib.hid (hfin.out n a hfe.out (by omega))
          go_wp2_with fail
          exact bodyPost_ret (v := .int .i64 n) (by simp [results, Tryz.results17, go_sem]) rfl ⟨by rw [hN.out]; rfl, hB⟩
end Go.Proofs.YtdjeokgkeejpcaaGreatDoor

namespace Go.Proofs.YtdjeokgkeejpcaaGreatDoor
open Go Go.Proofs Go.RowKit
attribute [local go_sem] Oper.semAt_some
/-- A tree that may be. -/
structure TrOk (l : List Pt) : Prop where
  tr : Tr l
  bare : ∀ j, j < l.length → BareOk (pt l j)
  root : ∀ j, j < l.length → 0 < j → (pt l j).kind ≠ 1
def CkPost (l : List Pt) (e : Ending) : Prop := ∃ z : Int, e = .returned (.int .i64 z) ∧ (z = 0 → TrOk l)
set_option maxRecDepth 100000 in
set_option maxHeartbeats 16000000 in
theorem check7_k (l : List Pt) (hl : l.length ≤ 120) (la : Option Addr) (c : Nat) (w : World) (hR : PRow w la l) :
    Calls Tryz.prog 7 #[.slice la l.length c] w fun e w' => CkPost l e ∧ Below w.heap.size w w' := by
  have hl1 : ¬ (524288 : Int) < (l.length : Int) := by omega
  go_enter Tryz.func7, Tryz.ntmps7
  go_wp2
  obtain ⟨wo, rfl⟩ : ∃ wo : World, wo = w := ⟨_, rfl⟩
  go_loopw [3] (fun i wr => ∃ k : Nat, k ≤ l.length ∧ i = .int .i64 k ∧ Hid (∀ j, j < k → BareOk (pt l j) ∧ (0 < j → (pt l j).kind ≠ 1)) ∧ Below wo.heap.size wo wr) (fun i _ => l.length - (intOf i).toNat)
  case atStart => exact ⟨0, Nat.zero_le _, rfl, Lib.hid (fun j hj => by omega), Below.refl _ _⟩
  case round =>
    obtain ⟨k, hk, rfl, hH, hB⟩ := hrel
    have hk0 : (0 : Int) ≤ (k : Int) := by omega
    by_cases hlt : k < l.length
    · have hk1 : (k : Int) < (l.length : Int) := by omega
      obtain ⟨b, off, ka, kc, rfl, hbl, y, _, _⟩ := (hR.below hB (Nat.le_refl _)).at hlt
      have hbw : b < wr.heap.size := hbl
      rw [← pt_get hlt] at y
      have hH1 : Hid (BareOk (pt l k) → (0 < k → (pt l k).kind ≠ 1) → ∀ j, j < k + 1 → BareOk (pt l j) ∧ (0 < j → (pt l j).kind ≠ 1)) := Lib.hid (fun h1 h2 j hj => by
        rcases Nat.lt_or_ge j k with h | h
        · exact hH.out j h
        · obtain rfl : j = k := by omega
          exact ⟨h1, h2⟩)
      obtain ⟨p, hp⟩ : ∃ p, p = pt l k := ⟨_, rfl⟩
      rw [← hp] at y hH1
      clear hp
      have h16 := bare16_k p ka kc wr
      unfold ptV at h16
      obtain ⟨y0, y1, y2, y3, y4, y5, y6, y7⟩ := y
      by_cases hbo : BareOk p
      · rw [bareB_true.2 hbo] at h16
        have HBO := Lib.hid hbo
        clear hbo
        by_cases hz : (0 : Int) < (k : Int)
        · by_cases hkd : p.kind = 1
          · rw [hkd] at h16
            go_wp2_with (go_at_call 16; ((with_reducible refine h16.mono ?_); rintro e W2 ⟨rfl, hb2⟩; (have y1' := (hb2.cell (p := ⟨b, off + k * 8 + 1, none⟩) hbw).trans y1)))
            exact bodyPost_ret (v := .int .i64 2) (by simp [results, Tryz.results7, go_sem]) rfl ⟨⟨2, rfl, fun h => by omega⟩, hB.trans (hb2.mono hB.size)⟩
          · go_wp2_with (go_at_call 16; ((with_reducible refine h16.mono ?_); rintro e W2 ⟨rfl, hb2⟩; (have y1' := (hb2.cell (p := ⟨b, off + k * 8 + 1, none⟩) hbw).trans y1)))
            go_roundw
            case rel => exact ⟨k + 1, by omega, by simp, Lib.hid (hH1.out HBO.out (fun _ => hkd)), hB.trans (hb2.mono hB.size)⟩
            case measure => simp [intOf]; omega
        · go_wp2_with (go_at_call 16; ((with_reducible refine h16.mono ?_); rintro e W2 ⟨rfl, hb2⟩))
          go_roundw
          case rel => exact ⟨k + 1, by omega, by simp, Lib.hid (hH1.out HBO.out (fun h => by omega)), hB.trans (hb2.mono hB.size)⟩
          case measure => simp [intOf]; omega
      · rw [bareB_false hbo] at h16
        clear hbo
        go_wp2_with (go_at_call 16; ((with_reducible refine h16.mono ?_); rintro e W2 ⟨rfl, hb2⟩))
        exact bodyPost_ret (v := .int .i64 2) (by simp [results, Tryz.results7, go_sem]) rfl ⟨⟨2, rfl, fun h => by omega⟩, hB.trans (hb2.mono hB.size)⟩
    · have hk1 : ¬ (k : Int) < (l.length : Int) := by omega
      have hall : Hid (∀ j, j < l.length → BareOk (pt l j) ∧ (0 < j → (pt l j).kind ≠ 1)) := Lib.hid (fun j hj => hH.out j (by omega))
      by_cases h0 : (l.length : Int) = 0
      · go_wp2_with fail
        exact bodyPost_ret (v := .int .i64 2) (by simp [results, Tryz.results7, go_sem]) rfl ⟨⟨2, rfl, fun h => by omega⟩, hB⟩
      · have h17 : Calls Tryz.prog 17 #[.slice la l.length c, .int .i64 0] wr fun e w' => e = .returned (endV (endF l l.length 0)) ∧ Below wr.heap.size wr w' := end17_k l (by omega) la c l.length 0 (by omega) (by omega) wr (hR.below hB (Nat.le_refl _))
        cases hE : endF l l.length 0 with
        | none =>
          rw [hE] at h17
          unfold endV at h17
          have hb0 : ((l.length : Int) == 0) = false := by simpa using h0
          have hb1 : ((-1 : Int) != (l.length : Int)) = true := bne_iff_ne.2 (by omega)
          clear hE h0
          go_wp2_with (go_at_call 17; ((with_reducible refine h17.mono ?_); rintro e W2 ⟨rfl, hb2⟩))
          exact bodyPost_ret (v := .int .i64 2) (by simp [results, Tryz.results7, go_sem]) rfl ⟨⟨2, rfl, fun h => by omega⟩, hB.trans (hb2.mono hB.size)⟩
        | some m =>
          rw [hE] at h17
          unfold endV at h17
          by_cases hm : (m : Int) = (l.length : Int)
          · have hT : Hid (TrOk l) := Lib.hid (by
              obtain rfl : m = l.length := by omega
              exact ⟨⟨fun e => by rw [e] at h0; exact h0 rfl, hE⟩, fun j hj => (hall.out j hj).1, fun j hj h => (hall.out j hj).2 h⟩)
            have h17 : Calls Tryz.prog 17 #[.slice la l.length c, .int .i64 0] wr fun e w' => e = .returned (.int .i64 (l.length : Nat)) ∧ Below wr.heap.size wr w' := by (rw [← hm]; exact h17)
            have hb0 : ((l.length : Int) == 0) = false := by simpa using h0
            clear hE hall hH h0
            go_wp2_with (go_at_call 17; ((with_reducible refine h17.mono ?_); rintro e W2 ⟨rfl, hb2⟩))
            exact bodyPost_ret (v := .int .i64 0) (by simp [results, Tryz.results7, go_sem]) rfl ⟨⟨0, rfl, fun _ => hT.out⟩, hB.trans (hb2.mono hB.size)⟩
          · have hb0 : ((l.length : Int) == 0) = false := by simpa using h0
            have hb1 : ((m : Int) != (l.length : Int)) = true := by simpa using hm
            have h17 : Calls Tryz.prog 17 #[.slice la l.length c, .int .i64 0] wr fun e w' => e = .returned (.int .i64 (m : Nat)) ∧ Below wr.heap.size wr w' := h17
            clear hE h0 hm
            go_wp2_with (go_at_call 17; ((with_reducible refine h17.mono ?_); rintro e W2 ⟨rfl, hb2⟩))
            exact bodyPost_ret (v := .int .i64 2) (by simp [results, Tryz.results7, go_sem]) rfl ⟨⟨2, rfl, fun h => by omega⟩, hB.trans (hb2.mono hB.size)⟩
end Go.Proofs.YtdjeokgkeejpcaaGreatDoor

namespace Go.Proofs.YtdjeokgkeejpcaaGreatDoor
open Go Go.Proofs Go.RowKit
attribute [local go_sem] Oper.semAt_some
theorem liesF_cons {l : List Pt} {a : Int} {k : Int} {ks : List Int} {b : Int} (h : liesF l a (k :: ks) = some b) : ¬ (pt l k.toNat).frm < a ∧ liesF l (pt l k.toNat).too ks = some b := by
  simp only [liesF] at h
  split at h
  · cases h
  · exact ⟨by assumption, h⟩
set_option maxRecDepth 100000 in
set_option maxHeartbeats 8000000 in
theorem lies40_k (l : List Pt) (hl : l.length ≤ 120) (hT : TrOk l) (la : Option Addr) (c : Nat) (j : Nat) (hj : j < l.length) (ka : Option Addr) (kc : Nat) (w : World) (hR : PRow w la l) (hK : IRow w ka (pt l j).kids) (hkl : (pt l j).kids.length ≤ 9223372036854775807) :
    Calls Tryz.prog 40 #[.slice la l.length c, ptV (pt l j) ka kc] w fun e w' => e = .returned (.bool true) ∧ Below w.heap.size w w' := by
  have hkid := Lib.hid (fun k => hT.tr.kid hj (k := k))
  obtain ⟨bb, hlie, hle⟩ := hT.tr.lies hj
  have HL := Lib.hid hlie
  have HLE := Lib.hid hle
  clear hlie hle hT
  obtain ⟨p, hp⟩ : ∃ p, p = pt l j := ⟨_, rfl⟩
  rw [← hp] at hK hkl HL HLE hkid ⊢
  clear hp
  have hA := (Below.refl _ w).alloc (Nat.le_refl _) (.cells #[.int .i64 p.sym, .int .i64 p.kind, .int .i64 p.frm, .int .i64 p.inn, .int .i64 p.too, .int .i64 p.look, .slice ka p.kids.length kc, .int .u64 (p.met : Nat)] 36)
  have hX := Bx.new w 36 #[.int .i64 p.sym, .int .i64 p.kind, .int .i64 p.frm, .int .i64 p.inn, .int .i64 p.too, .int .i64 p.look, .slice ka p.kids.length kc, .int .u64 (p.met : Nat)]
  obtain ⟨x0, x1, x2, x3, x4, x5, x6, x7⟩ := hX.eight
  unfold ptV
  go_enter Tryz.func40, Tryz.ntmps40
  go_wp2
  obtain ⟨wo, hwo⟩ : ∃ wo, wo = w.alloc (.cells #[.int .i64 p.sym, .int .i64 p.kind, .int .i64 p.frm, .int .i64 p.inn, .int .i64 p.too, .int .i64 p.look, .slice ka p.kids.length kc, .int .u64 (p.met : Nat)] 36) := ⟨_, rfl⟩
  rw [← hwo] at hA hX x4 ⊢
  have hR1 := hR.below hA (Nat.le_refl _)
  have hK1 := hK.below hA (Nat.le_refl _)
  clear x0 x1 x2 x3 x5 x6 x7 hR hK hwo
  have HA := Lib.hid hA
  clear hA hX
  go_loopw [5, 13] (fun a i wr => ∃ (z : Int) (k : Nat), a = .int .i64 z ∧ i = .int .i64 k ∧ k ≤ p.kids.length ∧ Hid (liesF l z (p.kids.drop k) = some bb) ∧ wr = wo) (fun _ i _ => p.kids.length - (intOf i).toNat)
  case atStart => exact ⟨p.frm, 0, rfl, rfl, Nat.zero_le _, Lib.hid (by rw [List.drop_zero]; exact HL.out), rfl⟩
  case round =>
    obtain ⟨z, k, rfl, rfl, hk, hH, rfl⟩ := hrel
    have hk0 : (0 : Int) ≤ (k : Int) := by omega
    by_cases hlt : k < p.kids.length
    · have hk1 : (k : Int) < (p.kids.length : Int) := by omega
      obtain ⟨kb, ko, rfl, hkb, q3⟩ := hK1.at hlt
      obtain ⟨m, hm, _, hml⟩ := hkid.out _ (List.getElem_mem hlt)
      have hst := hH.out
      rw [List.drop_eq_getElem_cons hlt, hm] at hst
      obtain ⟨s1, s2⟩ := liesF_cons hst
      rw [Int.toNat_natCast] at s1 s2
      have HS := Lib.hid s2
      rw [hm] at q3
      obtain ⟨b', off', ka', kc', rfl, _, y, _, _⟩ := hR1.at hml
      rw [← pt_get hml] at y
      obtain ⟨q, hq⟩ : ∃ q, q = pt l m := ⟨_, rfl⟩
      rw [← hq] at y s1 HS
      clear hq
      have y2 := y.c2
      have y4 := y.c4
      have hm0 : (0 : Int) ≤ (m : Int) := by omega
      have hm1 : (m : Int) < (l.length : Int) := by omega
      clear y hst s2 hm hK1 hR1
      go_wp2_with fail
      go_roundw
      case rel => exact ⟨_, k + 1, rfl, by simp, by omega, HS, trivial⟩
      case measure => simp [intOf]; omega
    · have hk1 : ¬ (k : Int) < (p.kids.length : Int) := by omega
      have hz : z ≤ p.too := by
        have := hH.out
        rw [List.drop_eq_nil_of_le (by omega)] at this
        cases this
        exact HLE.out
      go_wp2_with fail
      go_ret
      exact ⟨by simp [hz], HA.out⟩
theorem ck39_k (l : List Pt) (hl : l.length ≤ 120) (hT : TrOk l) (la : Option Addr) (c : Nat) (j : Nat) (hj : j < l.length) (ka : Option Addr) (kc : Nat) (L : Nat) (w : World) (hR : PRow w la l) (hK : IRow w ka (pt l j).kids) (hkl : (pt l j).kids.length ≤ 9223372036854775807) (hL : Bx w L 22 #[.slice la l.length c]) :
    Calls Tryz.prog 39 #[ptV (pt l j) ka kc, .pointer (some ⟨L, 0, none⟩)] w fun e w' => e = .returned (.bool false) ∧ Below w.heap.size w w' := by
  have hA := (Below.refl _ w).alloc (Nat.le_refl _) (.cells (ptC (pt l j) ka kc) 36)
  have h40 := lies40_k l hl hT la c j hj ka kc _ (hR.below hA (Nat.le_refl _)) (hK.below hA (Nat.le_refl _)) hkl
  obtain ⟨p, hp⟩ : ∃ p, p = pt l j := ⟨_, rfl⟩
  rw [← hp] at hA h40 ⊢
  clear hp
  unfold ptC at hA h40
  have hX := Bx.new w 36 #[.int .i64 p.sym, .int .i64 p.kind, .int .i64 p.frm, .int .i64 p.inn, .int .i64 p.too, .int .i64 p.look, .slice ka p.kids.length kc, .int .u64 (p.met : Nat)]
  obtain ⟨x0, x1, x2, x3, x4, x5, x6, x7⟩ := hX.eight
  have hLc : (w.alloc (.cells #[.int .i64 p.sym, .int .i64 p.kind, .int .i64 p.frm, .int .i64 p.inn, .int .i64 p.too, .int .i64 p.look, .slice ka p.kids.length kc, .int .u64 (p.met : Nat)] 36)).cell? ⟨L, 0, none⟩ = some (.slice la l.length c) := ((hL.below hA hL.lt).cell 0)
  unfold ptV at h40 ⊢
  go_enter Tryz.func39, Tryz.ntmps39
  go_wp2_with (go_at_call 40; ((with_reducible refine h40.mono ?_); rintro e W1 ⟨rfl, hb1⟩))
  go_ret
  exact ⟨rfl, hA.trans (hb1.mono (by simp))⟩
end Go.Proofs.YtdjeokgkeejpcaaGreatDoor

namespace Go.Proofs.YtdjeokgkeejpcaaGreatDoor
open Go Go.Proofs Go.RowKit
attribute [local go_sem] Oper.semAt_some
set_option maxRecDepth 100000 in
set_option maxHeartbeats 8000000 in
theorem index73_k (l : List Pt) (hl : l.length ≤ 120) (hT : TrOk l) (la : Option Addr) (c : Nat) (L : Nat) (w : World) (hR : PRow w la l) (hL : Bx w L 22 #[.slice la l.length c]) :
    Calls Tryz.prog 73 #[.slice la l.length c, .func (.func 39) #[] #[.pointer (some ⟨L, 0, none⟩)]] w fun e w' => e = .returned (.int .i64 (-1)) ∧ Below w.heap.size w w' := by
  go_enter Tryz.func73, Tryz.ntmps73
  go_wp2
  obtain ⟨wo, rfl⟩ : ∃ wo : World, wo = w := ⟨_, rfl⟩
  go_loopw [8] (fun i wr => ∃ k : Nat, k ≤ l.length ∧ i = .int .i64 k ∧ Below wo.heap.size wo wr) (fun i _ => l.length - (intOf i).toNat)
  case atStart => exact ⟨0, Nat.zero_le _, rfl, Below.refl _ _⟩
  case round =>
    obtain ⟨k, hk, rfl, hB⟩ := hrel
    have hk0 : (0 : Int) ≤ (k : Int) := by omega
    by_cases hlt : k < l.length
    · have hk1 : (k : Int) < (l.length : Int) := by omega
      have hRr := hR.below hB (Nat.le_refl _)
      obtain ⟨b, off, ka, kc, rfl, hbl, y, hK, hkl⟩ := hRr.at hlt
      rw [← pt_get hlt] at y hK hkl
      have h39 := ck39_k l hl hT (some ⟨b, off, none⟩) c k hlt ka kc L wr hRr hK hkl (hL.below hB hL.lt)
      obtain ⟨p, hp⟩ : ∃ p, p = pt l k := ⟨_, rfl⟩
      rw [← hp] at y h39
      clear hp hK hkl hRr
      obtain ⟨y0, y1, y2, y3, y4, y5, y6, y7⟩ := y
      unfold ptV at h39
      go_wp2_with (go_at_call 39; ((with_reducible refine h39.mono ?_); rintro e W1 ⟨rfl, hb1⟩))
      go_roundw
      case rel => exact ⟨k + 1, by omega, by simp, hB.trans (hb1.mono hB.size)⟩
      case measure => simp [intOf]; omega
    · have hk1 : ¬ (k : Int) < (l.length : Int) := by omega
      go_wp2_with fail
      exact bodyPost_ret (v := .int .i64 (-1)) (by simp [results, Tryz.results73, go_sem]) rfl ⟨rfl, hB⟩
theorem contains38_k (l : List Pt) (hl : l.length ≤ 120) (hT : TrOk l) (la : Option Addr) (c : Nat) (L : Nat) (w : World) (hR : PRow w la l) (hL : Bx w L 22 #[.slice la l.length c]) :
    Calls Tryz.prog 38 #[.slice la l.length c, .func (.func 39) #[] #[.pointer (some ⟨L, 0, none⟩)]] w fun e w' => e = .returned (.bool false) ∧ Below w.heap.size w w' := by
  have h73 := index73_k l hl hT la c L w hR hL
  go_enter Tryz.func38, Tryz.ntmps38
  go_wp2_with (go_at_call 73; ((with_reducible refine h73.mono ?_); rintro e W1 ⟨rfl, hb1⟩))
  go_ret
  exact ⟨rfl, hb1⟩
end Go.Proofs.YtdjeokgkeejpcaaGreatDoor
