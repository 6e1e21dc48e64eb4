/- class.Split. -/
import Derived.Test.YtaadkdmbhckdeaaGreatDoorN16
namespace Go.Proofs.YtaadkdmbhckdeaaGreatDoor
open Go Go.Proofs Go.RowKit Go.Shelf
attribute [local go_sem] Oper.semAt_some
theorem row_new (w : World) (base : Nat) (x : Kl) (hb : base ≤ w.heap.size) : (w.alloc (.cells (encC x).toArray 55)).ownsRow base 55 4 (.slice (some ⟨w.heap.size, 0, none⟩) 1 1) 1 (encC x) :=
 ⟨rfl, .inr ⟨w.heap.size, 1, (encC x).toArray, rfl, hb, World.alloc_heap_new w _, Nat.le_refl _, by decide, by simp [encC], by simp [encC]⟩⟩
set_option maxRecDepth 100000 in
set_option maxHeartbeats 4000000 in
theorem split_calls (l : List Kl) (hl : l.length ≤ 12) (la : Option Addr) (c : Nat) (w : World) (hp : 0 < w.heap.size) (hT : TabAt w)
  (hL : l ≠ [] → ∃ B off, la = some ⟨B, off, none⟩ ∧ B < w.heap.size ∧ RowAt w B off l) :
  Calls Tryz.prog 25 #[.slice la l.length c] w fun e w' => ∃ g cap, ∃ d : List Kl, e = .returned (.slice (some ⟨g, 0, none⟩) d.length cap) ∧ w.heap.size ≤ g ∧ g < w'.heap.size ∧ d.Perm (parts l) ∧ d.Pairwise (fun x y => x.low ≤ y.low) ∧ RowAt w' g 0 d ∧ Below w.heap.size w w' := by
 have hr := Lib.hid (fun W => range_calls 0 255 (by decide) (by decide) W)
 go_enter Tryz.func25, Tryz.ntmps25
 go_wp2_with fail
 refine (hr.out w).mono ?_
 rintro e W0 ⟨rfl, hB0⟩
 go_wp2_with fail
 have hR1 := row_new W0 w.heap.size Kl.full hB0.size
 have hB1 : Below w.heap.size w (W0.alloc (.cells (encC Kl.full).toArray 55)) := hB0.alloc hB0.size _
 have hsg : w.heap.size ≤ W0.heap.size := hB0.size
 change Below w.heap.size w (W0.alloc (.cells #[.int .u64 (cw (rng 0 255) 0 : Nat), .int .u64 (cw (rng 0 255) 1 : Nat), .int .u64 (cw (rng 0 255) 2 : Nat), .int .u64 (cw (rng 0 255) 3 : Nat)] 55)) at hB1
 change World.ownsRow (W0.alloc (.cells #[.int .u64 (cw (rng 0 255) 0 : Nat), .int .u64 (cw (rng 0 255) 1 : Nat), .int .u64 (cw (rng 0 255) 2 : Nat), .int .u64 (cw (rng 0 255) 3 : Nat)] 55)) _ _ _ _ _ _ at hR1
 generalize (W0.alloc (.cells #[.int .u64 (cw (rng 0 255) 0 : Nat), .int .u64 (cw (rng 0 255) 1 : Nat), .int .u64 (cw (rng 0 255) 2 : Nat), .int .u64 (cw (rng 0 255) 3 : Nat)] 55)) = W1 at *
 go_loopw [3, 15] (fun vo vi wr => ∃ k : Nat, k ≤ l.length ∧ vi = .int .i64 k ∧ wr.ownsRow w.heap.size 55 4 vo (parts (l.take k)).length ((parts (l.take k)).flatMap encC) ∧ Below w.heap.size w wr)
  (fun _ vi _ => l.length - (intOf vi).toNat)
 case atStart => exact ⟨0, Nat.zero_le _, rfl, hR1, hB1⟩
 case round =>
  obtain ⟨k, hk, rfl, hro, hB⟩ := hrel
  by_cases hlt : k < l.length
  · obtain ⟨B, off, rfl, hBl, hRow⟩ := hL (by intro e; subst e; cases hlt)
    have hst : parts (l.take (k + 1)) = stp (parts (l.take k)) l[k] := by rw [List.take_succ_eq_append_getElem hlt, parts_snoc]
    have hlen : (parts (l.take k)).length ≤ 4096 := Nat.le_trans (parts_len _) (by
     have : (l.take k).length ≤ 12 := by rw [List.length_take]; omega
     exact Nat.le_trans (Nat.pow_le_pow_right (by decide) this) (by decide))
    have hka := (hRow.below hB hBl).c4 hlt
    have HST := Lib.hid hst
    clear hst
    generalize parts (l.take k) = out at *
    generalize l[k] = ck at *
    obtain ⟨ca, cb, cc, cd, ch⟩ := ck
    obtain ⟨k0, k1, k2, k3⟩ := id hka
    simp only at k0 k1 k2 k3
    have hk0 : (0 : Int) ≤ (k : Int) := by omega
    have hk1 : (k : Int) < (l.length : Int) := by omega
    obtain ⟨oa, oc, rfl⟩ := row_shape hro
    go_wp2_with fail
    have hC := kat_new wr ⟨ca, cb, cc, cd, ch⟩
    simp only at hC
    have hro2 := hro.alloc (.cells #[.int .u64 (ca : Nat), .int .u64 (cb : Nat), .int .u64 (cc : Nat), .int .u64 (cd : Nat)] 55)
    have hB2 : Below w.heap.size w (wr.alloc (.cells #[.int .u64 (ca : Nat), .int .u64 (cb : Nat), .int .u64 (cc : Nat), .int .u64 (cd : Nat)] 55)) := hB.alloc hB.size _
    have hN2 : (wr.alloc (.cells #[.int .u64 (ca : Nat), .int .u64 (cb : Nat), .int .u64 (cc : Nat), .int .u64 (cd : Nat)] 55)).heap.size = wr.heap.size + 1 := by simp
    have hog := fun g (e : (Value.slice oa out.length oc).ownBlock = some g) => hro.lt g e
    have hwN := hB.size
    clear hRow hka k0 k1 k2 k3
    obtain ⟨cK, hcK⟩ : ∃ cK : Kl, cK = ⟨ca, cb, cc, cd, ch⟩ := ⟨_, rfl⟩
    rw [← hcK] at hC HST
    obtain ⟨b5, hb5⟩ : ∃ b5, b5 = wr.heap.size := ⟨_, rfl⟩
    rw [← hb5] at hC hN2 hog hwN
    generalize (wr.alloc (.cells #[.int .u64 (ca : Nat), .int .u64 (cb : Nat), .int .u64 (cc : Nat), .int .u64 (cd : Nat)] 55)) = W2 at *
    rw [← hb5]
    have HB5 := Lib.hid hb5
    clear hb5 hro hB
    go_loopw [6, 21] (fun vn vm wr => ∃ m : Nat, m ≤ out.length ∧ vm = .int .i64 m ∧ wr.ownsRow (b5 + 1) 55 4 vn ((out.take m).flatMap (halves cK)).length (((out.take m).flatMap (halves cK)).flatMap encC) ∧ Below (b5 + 1) W2 wr)
     (fun _ vm _ => out.length - (intOf vm).toNat)
    case atStart => exact ⟨0, Nat.zero_le _, rfl, World.ownsRow_nil _ _ _ _, Below.refl _ _⟩
    case round =>
     obtain ⟨m, hm, rfl, hrn, hBn⟩ := hrel
     by_cases hlm : m < out.length
     · have hst2 : (out.take (m + 1)).flatMap (halves cK) = (out.take m).flatMap (halves cK) ++ halves cK out[m] := by rw [List.take_succ_eq_append_getElem hlm, List.flatMap_append]; simp
       have hpl : ((out.take m).flatMap (halves cK)).length ≤ 2 * m := by
        have h1 : (stp (out.take m) cK).length ≤ 2 * (out.take m).length := stp_len _ _
        have h2 : (out.take m).length ≤ m := by rw [List.length_take]; omega
        unfold stp at h1
        omega
       obtain ⟨og, rfl⟩ := row_addr4 hro2 (by omega)
       have hgl : og < b5 := (hog og rfl).2
       have hka := (row_cells (row_below4 hro2 hBn (fun g e => by have := (hog g e).2; omega))).c4 hlm
       rw [Nat.zero_add] at hka
       have HST2 := Lib.hid hst2
       clear hst2
       generalize (out.take m).flatMap (halves cK) = pre at *
       generalize out[m] = xk at *
       obtain ⟨xa, xb, xc, xd, xh⟩ := xk
       obtain ⟨k0, k1, k2, k3⟩ := id hka
       simp only at k0 k1 k2 k3
       have hm0 : (0 : Int) ≤ (m : Int) := by omega
       have hm1 : (m : Int) < (out.length : Int) := by omega
       go_wp2_with fail
       obtain ⟨xK, hxK⟩ : ∃ xK : Kl, xK = ⟨xa, xb, xc, xd, xh⟩ := ⟨_, rfl⟩
       have hX := kat_new wr xK
       rw [hxK] at hX
       simp only at hX
       rw [← hxK] at hX
       have hrn3 := hrn.alloc (.cells #[.int .u64 (xa : Nat), .int .u64 (xb : Nat), .int .u64 (xc : Nat), .int .u64 (xd : Nat)] 55)
       have hBn3 : Below (b5 + 1) W2 (wr.alloc (.cells #[.int .u64 (xa : Nat), .int .u64 (xb : Nat), .int .u64 (xc : Nat), .int .u64 (xd : Nat)] 55)) := hBn.alloc (by have := hBn.size; omega) _
       have hs3 : (wr.alloc (.cells #[.int .u64 (xa : Nat), .int .u64 (xb : Nat), .int .u64 (xc : Nat), .int .u64 (xd : Nat)] 55)).heap.size = wr.heap.size + 1 := by simp
       have hwb : b5 + 1 ≤ wr.heap.size := by have := hBn.size; omega
       clear k0 k1 k2 k3 hka hrn
       obtain ⟨bx, hbx⟩ : ∃ bx, bx = wr.heap.size := ⟨_, rfl⟩
       rw [← hbx] at hX hs3 hwb
       generalize (wr.alloc (.cells #[.int .u64 (xa : Nat), .int .u64 (xb : Nat), .int .u64 (xc : Nat), .int .u64 (xd : Nat)] 55)) = W3 at *
       rw [← hbx]
       have HBX := Lib.hid hbx
       clear hbx
       have hC3 := KAt.below (n := b5 + 1) hC hBn3 (Nat.lt_succ_self _)
       obtain ⟨c0, c1, c2, c3⟩ := hC3
       obtain ⟨x0, x1, x2, x3⟩ := hX
       have hm1 := meetK xK cK
       have hnk := notK cK
       have hm2 := meetK xK cK.not
       obtain ⟨y, hy⟩ : ∃ y, y = xK.and cK := ⟨_, rfl⟩
       obtain ⟨nk, hnkE⟩ : ∃ nk, nk = cK.not := ⟨_, rfl⟩
       rw [← hnkE] at hm2 hnk
       obtain ⟨z, hz⟩ : ∃ z, z = xK.and nk := ⟨_, rfl⟩
       rw [← hy] at hm1
       rw [← hz] at hm2
       have hhv : halves cK xK = pre2 y z 2 := by rw [hy, hz, hnkE]; rfl
       have hzy := neq_zero y
       have hzz := neq_zero z
       have HHV := Lib.hid hhv
       have HYE := Lib.hid hy
       have HZE := Lib.hid hz
       have HNE := Lib.hid hnkE
       clear hhv hy hz hnkE
       rw [hcK] at c0 c1 c2 c3 hm1 hnk
       rw [hxK] at x0 x1 x2 x3 hm1 hm2
       obtain ⟨ya, yb, yc, yd, yh⟩ := y
       obtain ⟨za, zb, zc, zd, zh⟩ := z
       obtain ⟨na, nb, nc, nd, nh⟩ := nk
       simp only at c0 c1 c2 c3 x0 x1 x2 x3 hm1 hm2 hnk hzy hzz
       have d0 : ∀ p : BQ W3, p.W.cell? ⟨b5, 0, none⟩ = some (.int .u64 (ca : Nat)) := fun p => (p.h.cell (p := ⟨b5, 0, none⟩) (by show b5 < _; omega)).trans c0
       have d1 : ∀ p : BQ W3, p.W.cell? ⟨b5, 1, none⟩ = some (.int .u64 (cb : Nat)) := fun p => (p.h.cell (p := ⟨b5, 1, none⟩) (by show b5 < _; omega)).trans c1
       have d2 : ∀ p : BQ W3, p.W.cell? ⟨b5, 2, none⟩ = some (.int .u64 (cc : Nat)) := fun p => (p.h.cell (p := ⟨b5, 2, none⟩) (by show b5 < _; omega)).trans c2
       have d3 : ∀ p : BQ W3, p.W.cell? ⟨b5, 3, none⟩ = some (.int .u64 (cd : Nat)) := fun p => (p.h.cell (p := ⟨b5, 3, none⟩) (by show b5 < _; omega)).trans c3
       have e0 : ∀ p : BQ W3, p.W.cell? ⟨bx, 0, none⟩ = some (.int .u64 (xa : Nat)) := fun p => (p.h.cell (p := ⟨bx, 0, none⟩) (by show bx < _; omega)).trans x0
       have e1 : ∀ p : BQ W3, p.W.cell? ⟨bx, 1, none⟩ = some (.int .u64 (xb : Nat)) := fun p => (p.h.cell (p := ⟨bx, 1, none⟩) (by show bx < _; omega)).trans x1
       have e2 : ∀ p : BQ W3, p.W.cell? ⟨bx, 2, none⟩ = some (.int .u64 (xc : Nat)) := fun p => (p.h.cell (p := ⟨bx, 2, none⟩) (by show bx < _; omega)).trans x2
       have e3 : ∀ p : BQ W3, p.W.cell? ⟨bx, 3, none⟩ = some (.int .u64 (xd : Nat)) := fun p => (p.h.cell (p := ⟨bx, 3, none⟩) (by show bx < _; omega)).trans x3
       refine region_belowQ (by kernel_rfl) (by kernel_rfl) ?_
       repeat (go_big_quiet_step (first | (go_at_call 42; with_reducible exact Calls.below_ofQ (hnk _)) | (go_at_call 41; first | with_reducible exact Calls.below_ofQ (hm1 _) | with_reducible exact Calls.below_ofQ (hm2 _))))
       refine wpQuiet_nil ?_
       rintro _ ⟨p, rfl⟩
       go_wp2_with fail
       have hBp : Below (b5 + 1) W2 p.W := hBn3.trans (p.h.mono (by omega))
       have hrp := row_below4 hrn3 p.h (fun g e => (hrn3.lt g e).2)
       clear d0 d1 d2 d3 e0 e1 e2 e3 c0 c1 c2 c3 x0 x1 x2 x3 hrn3 hBn3 hBn hm1 hm2 hnk
       generalize p.W = Wp at *
       have i0 := idx79_0
       have i1 := idx79_1
       obtain ⟨ti, hi, hz0, hz1, hz2⟩ := info_parts info50
       go_loopw [6, 33] (fun vn vq wr => ∃ (q : Nat) (qi : Int), qi = q ∧ q ≤ 2 ∧ vq = .int .i64 qi ∧ wr.ownsRow (b5 + 1) 55 4 vn (pre ++ pre2 ⟨ya, yb, yc, yd, yh⟩ ⟨za, zb, zc, zd, zh⟩ q).length ((pre ++ pre2 ⟨ya, yb, yc, yd, yh⟩ ⟨za, zb, zc, zd, zh⟩ q).flatMap encC) ∧ Below (b5 + 1) W2 wr)
        (fun _ vq _ => 2 - (intOf vq).toNat)
       case atStart => exact ⟨0, 0, rfl, by decide, rfl, by simpa [pre2] using hrp, hBp⟩
       case round =>
        obtain ⟨q, qi, hqi, hq, rfl, hrq, hBq⟩ := hrel
        have hsq : b5 + 1 ≤ wr.heap.size := by have := hBq.size; omega
        have hpq := pre2_len ⟨ya, yb, yc, yd, yh⟩ ⟨za, zb, zc, zd, zh⟩ q
        obtain rfl | rfl | rfl : q = 0 ∨ q = 1 ∨ q = 2 := by omega
        · obtain rfl : qi = 0 := by omega
          clear hqi hrp hBp
          cases hyz : Kl.isZ ⟨ya, yb, yc, yd, yh⟩ with
          | true =>
           rw [hyz] at hzy
           go_wp2_with fail
           go_roundw
           case rel => exact ⟨0 + 1, _, rfl, by decide, rfl, by simpa [pre2, hyz] using hrq.alloc _, hBq.alloc hsq _⟩
           case measure => simp [intOf]
          | false =>
           rw [hyz] at hzy
           have hra := (hrq.alloc (.cells #[.int .u64 (ya : Nat), .int .u64 (yb : Nat), .int .u64 (yc : Nat), .int .u64 (yd : Nat)] 55)).alloc (.cells #[.int .u64 (ya : Nat), .int .u64 (yb : Nat), .int .u64 (yc : Nat), .int .u64 (yd : Nat)] 55)
           have hBa := (hBq.alloc hsq (.cells #[.int .u64 (ya : Nat), .int .u64 (yb : Nat), .int .u64 (yc : Nat), .int .u64 (yd : Nat)] 55)).alloc (by simp; omega) (.cells #[.int .u64 (ya : Nat), .int .u64 (yb : Nat), .int .u64 (yc : Nat), .int .u64 (yd : Nat)] 55)
           have hca := cells_new (wr.alloc (.cells #[.int .u64 (ya : Nat), .int .u64 (yb : Nat), .int .u64 (yc : Nat), .int .u64 (yd : Nat)] 55)) ⟨ya, yb, yc, yd, yh⟩
           simp only [World.size_alloc] at hca
           go_wp2_with (at_builtin; refine append_k _ (b5 + 1) _ _ ⟨ya, yb, yc, yd, yh⟩ rfl _ _ rfl rfl hra _ rfl hca (by rw [List.length_append]; omega) (by simp; omega) ?_; intro v' w1 hown' hgrow)
           go_roundw
           case rel => exact ⟨0 + 1, _, rfl, by decide, rfl, by simpa [pre2, hyz] using hown', hBa.trans hgrow⟩
           case measure => simp [intOf]
        · obtain rfl : qi = 1 := by omega
          clear hqi hrp hBp
          cases hzz0 : Kl.isZ ⟨za, zb, zc, zd, zh⟩ with
          | true =>
           rw [hzz0] at hzz
           go_wp2_with fail
           go_roundw
           case rel => exact ⟨1 + 1, _, rfl, by decide, rfl, by simpa [pre2, hzz0] using hrq.alloc _, hBq.alloc hsq _⟩
           case measure => simp [intOf]
          | false =>
           rw [hzz0] at hzz
           have hra := (hrq.alloc (.cells #[.int .u64 (za : Nat), .int .u64 (zb : Nat), .int .u64 (zc : Nat), .int .u64 (zd : Nat)] 55)).alloc (.cells #[.int .u64 (za : Nat), .int .u64 (zb : Nat), .int .u64 (zc : Nat), .int .u64 (zd : Nat)] 55)
           have hBa := (hBq.alloc hsq (.cells #[.int .u64 (za : Nat), .int .u64 (zb : Nat), .int .u64 (zc : Nat), .int .u64 (zd : Nat)] 55)).alloc (by simp; omega) (.cells #[.int .u64 (za : Nat), .int .u64 (zb : Nat), .int .u64 (zc : Nat), .int .u64 (zd : Nat)] 55)
           have hca := cells_new (wr.alloc (.cells #[.int .u64 (za : Nat), .int .u64 (zb : Nat), .int .u64 (zc : Nat), .int .u64 (zd : Nat)] 55)) ⟨za, zb, zc, zd, zh⟩
           simp only [World.size_alloc] at hca
           go_wp2_with (at_builtin; refine append_k _ (b5 + 1) _ _ ⟨za, zb, zc, zd, zh⟩ rfl _ _ rfl rfl hra _ rfl hca (by rw [List.length_append]; omega) (by simp; omega) ?_; intro v' w1 hown' hgrow)
           go_roundw
           case rel => exact ⟨1 + 1, _, rfl, by decide, rfl, by simpa [pre2, hzz0] using hown', hBa.trans hgrow⟩
           case measure => simp [intOf]
        · obtain rfl : qi = 2 := by omega
          clear hqi hrp hBp
          go_wp2_with fail
          go_roundw
          case rel =>
           refine ⟨m + 1, by omega, rfl, ?_, hBq⟩
           have e : (out.take (m + 1)).flatMap (halves cK) = pre ++ pre2 ⟨ya, yb, yc, yd, yh⟩ ⟨za, zb, zc, zd, zh⟩ 2 := by rw [HST2.out, ← hxK, HHV.out]
           rw [e]
           exact hrq
          case measure => simp [intOf]; omega
     · obtain rfl : m = out.length := by omega
       rw [List.take_length] at hrn
       go_wp2_with fail
       go_roundw
       case rel =>
        refine ⟨k + 1, by omega, rfl, ?_, hB2.trans (hBn.mono (by omega))⟩
        rw [HST.out]
        exact row_base hrn (by omega)
       case measure => simp [intOf]; omega
  · obtain rfl : k = l.length := by omega
    rw [List.take_length] at hro
    have hlen : (parts l).length ≤ 4096 := Nat.le_trans (parts_len _) (Nat.le_trans (Nat.pow_le_pow_right (by decide) hl) (by decide))
    have hok := parts_ok l
    have hpos : 0 < (parts l).length := by
     obtain ⟨p, hp, _⟩ := hok.all 0 (by decide)
     exact List.length_pos_of_mem hp
    obtain ⟨oa, oc, rfl⟩ := row_shape hro
    obtain ⟨g, rfl⟩ := row_addr4 hro hpos
    have hg := hro.lt g rfl
    have hso := sort_calls (hT.below hB hp) (by omega) (blk := g) (by omega) 0 oc (parts l).toArray (holds_of_row hro) hg.2 (by simp; omega)
    simp only [List.size_toArray] at hso
    have HSO := Lib.hid hso
    clear hso
    go_wp2_with fail
    refine HSO.out.mono ?_
    rintro e w' ⟨rfl, d, h1, h2, h3, h4⟩
    have hB' := hB.trans (h4 _ hg.1)
    have hs' := (h4 _ hg.1).size
    clear hL hR1 hro
    have hsz : d.size = (parts l).length := by have := h1.1; simpa using this
    have HF : Hid (d.toList.Perm (parts l) ∧ d.toList.Pairwise (fun x y => x.low ≤ y.low) ∧ RowAt w' g 0 d.toList) := by
     refine ⟨?_, ?_, rowAt_of_holds h3⟩
     · have := h1.2.2
       have e1 : d.extract 0 (parts l).length = d := by rw [← hsz]; exact Array.extract_size
       rw [e1] at this
       simpa using this
     · rw [List.pairwise_iff_getElem]
       intro i j hi hj hij
       have hi' : i < d.size := by simpa using hi
       have hj' : j < d.size := by simpa using hj
       have := h2 i j (Nat.zero_le _) hij (by simpa [hsz] using hj')
       rw [ltK, getElem!_pos d j hj', getElem!_pos d i hi'] at this
       simpa using this
    clear h1 h2 h3 h4
    go_wp2_with fail
    go_ret
    exact ⟨g, oc, d.toList, by simp [hsz], hg.1, by omega, HF.out.1, HF.out.2.1, HF.out.2.2, hB'⟩
end Go.Proofs.YtaadkdmbhckdeaaGreatDoor
