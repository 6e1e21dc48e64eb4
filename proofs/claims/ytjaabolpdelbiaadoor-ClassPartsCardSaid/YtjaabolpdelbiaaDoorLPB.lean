/- ClassParts returns true at every input: class.Split is told by a contract (parted classes, sorted by their least bytes), the law's loops are stepped by invariants over it, lives() is run by an abstract machine, proved sound over the model. Condition: the table math bits.deBruijn64tab lies as the program lays it (the card ties it). -/
import Derived.Test.YtjaabolpdelbiaaDoorLPA
import Derived.Deep.RegionWith
import Derived.Deep.CutRange
import Derived.BigQuiet
import Derived.Test.YtjaabolpdelbiaaDoorS1
import Derived.Carry
import Derived.Deep.Slices
import Derived.Test.YtjaabolpdelbiaaDoorRows
import Derived.Test.YtjaabolpdelbiaaDoorTie
import Derived.Test.YtjaabolpdelbiaaDoorCards
import Derived.LaidMore
import Derived.Stop.Joined
namespace Go.Proofs.YtjaabolpdelbiaaDoor
open Go Go.Proofs Go.RowKit Go.Shelf
attribute [local go_sem] Oper.semAt_some

set_option maxRecDepth 1000000 in
set_option maxHeartbeats 8000000 in
theorem parts_law (l : List Kl) (la : Option Addr) (c : Nat) (w : World) (hp : 0 < w.heap.size) (hT : TabAt w)
    (hL : l ≠ [] → ∃ B off, la = some ⟨B, off, none⟩ ∧ B < w.heap.size ∧ RowAt w B off l)
    (hlives : Calls Tryd.prog 9 #[] w fun e w' => e = .returned (.bool true) ∧ Below w.heap.size w w') :
    Calls Tryd.prog 3 #[.slice la l.length c] w fun e w' => e = .returned (.bool true) ∧ Below w.heap.size w w' := by
  have HL := Lib.hid hlives
  clear hlives
  go_enter Tryd.func3, Tryd.ntmps3
  go_wp2_with fail
  refine HL.out.mono ?_
  rintro e W1 ⟨rfl, hB1⟩
  by_cases h8 : 8 < l.length
  · have d8 : decide ((8 : Int) < (l.length : Int)) = true := by simp; omega
    go_wp2_with fail
    go_ret
    exact ⟨rfl, hB1⟩
  · have d8 : decide ((8 : Int) < (l.length : Int)) = false := by simp; omega
    have hs1 := hB1.size
    have hsp := Lib.hid (split_calls l (by omega) la c W1 (by omega) (hT.below hB1 hp) (fun h => by
      obtain ⟨B, off, e, h1, h2⟩ := hL h
      exact ⟨B, off, e, by omega, h2.below hB1 h1⟩))
    go_wp2_with fail
    refine hsp.out.mono ?_
    rintro e W2 ⟨g, cap, d, rfl, hg1, hg2, hdp, hds, hdr, hB2⟩
    have HLaw := Lib.hid (lawful ((parts_ok l).perm hdp) hds)
    have hdl : d.length ≤ 256 := by
      rw [hdp.length_eq]
      exact Nat.le_trans (parts_len _) (Nat.le_trans (Nat.pow_le_pow_right (by decide) (show l.length ≤ 8 by omega)) (by decide))
    have hB2' : Below w.heap.size w W2 := hB1.trans (hB2.mono hs1)
    have hs2 := hB2.size
    have hT2 := Lib.hid (hT.below hB2' hp)
    have hL2 : Hid (l ≠ [] → ∃ B off, la = some ⟨B, off, none⟩ ∧ B < W2.heap.size ∧ RowAt W2 B off l) := fun h => by
      obtain ⟨B, off, e, h1, h2⟩ := hL h
      exact ⟨B, off, e, by omega, h2.below hB2' h1⟩
    have hdr2 := Lib.hid hdr
    have hlE : l = [] → la = la := fun _ => rfl
    clear hdp hds hdr hL hT hsp hB1 hB2
    go_wp2_with fail
    have hS0 : KBox (W2.alloc (.cells #[.int .u64 0, .int .u64 0, .int .u64 0, .int .u64 0] 27)) W2.heap.size (orAll (d.take 0)) := KBox.new W2 Kl.zero
    have hBb : Below W2.heap.size W2 (W2.alloc (.cells #[.int .u64 0, .int .u64 0, .int .u64 0, .int .u64 0] 27)) := (Below.refl _ W2).alloc (Nat.le_refl _) _
    generalize W2.alloc (.cells #[.int .u64 0, .int .u64 0, .int .u64 0, .int .u64 0] 27) = W3 at *
    obtain ⟨bs, hbs⟩ : ∃ bs, bs = W2.heap.size := ⟨_, rfl⟩
    rw [← hbs] at hS0 hBb hs2 hg2 hL2 ⊢
    have HBS := Lib.hid hbs
    clear hbs hlE
    go_loopw [5, 6, 7] (fun vl vn vi wr => ∃ i : Nat, i ≤ d.length ∧ vi = .int .i64 i ∧ vn = .int .i64 ((orAll (d.take i)).by_.length : Nat) ∧
        (∃ t : Int, vl = .int .i64 t ∧ t < 256 ∧ -1 ≤ t ∧ ∀ j (hj : j < d.length), i ≤ j → t < (d[j].low : Nat)) ∧ KBox wr bs (orAll (d.take i)) ∧ Below bs W2 wr)
      (fun _ _ vi _ => d.length - (intOf vi).toNat)
    case atStart => exact ⟨0, Nat.zero_le _, rfl, by simp [orAll, by_zero], ⟨-1, rfl, by decide, by decide, fun j hj _ => by omega⟩, hS0, hBb⟩
    case round =>
      obtain ⟨i, hi, rfl, rfl, ⟨t, rfl, ht1, ht2, hlow⟩, hS, hB⟩ := hrel
      by_cases hid : i < d.length
      · have hx := (hdr2.out.below hB hg2).c4 hid
        rw [Nat.zero_add] at hx
        have hne := HLaw.out.ne i hid
        have hfree := HLaw.out.free i hid
        have hcnt := HLaw.out.count hid
        have hor := orAll_take hid
        have hbt := hlow i hid (Nat.le_refl _)
        have hn1 := by_le (orAll (d.take i))
        have hx1 := by_le d[i]
        have hxl := Kl.low_lt d[i]
        have HOR := Lib.hid hor
        have HCNT := Lib.hid hcnt
        clear hor hcnt hlow
        obtain ⟨x, hxE⟩ : ∃ x, x = d[i] := ⟨_, rfl⟩
        obtain ⟨s, hsE⟩ : ∃ s, s = orAll (d.take i) := ⟨_, rfl⟩
        rw [← hxE] at hx hne hfree hx1 hxl hbt HOR HCNT
        rw [← hsE] at hfree hn1 hS HOR HCNT ⊢
        have HX := Lib.hid hxE
        have HCUT : Hid (∀ c ∈ l, c.and x = Kl.zero ∨ c.and x = x) := by rw [hxE]; exact HLaw.out.cut i hid
        have HAP : Hid (∀ k (hk : k < i), ∃ j, ∃ hj : j < l.length, l[j].has x.low ≠ l[j].has (d[k]'(by omega)).low) := by rw [hxE]; exact fun k hk => HLaw.out.apart k i hid hk
        have HNE : Hid (∀ k (hk : k < d.length), d[k].by_.isEmpty = false) := HLaw.out.ne
        have HS := Lib.hid hsE
        clear hxE hsE
        have hlk := fun W (h1 : 0 < W.heap.size) (h2 : TabAt W) => least_k x W h1 h2
        rw [hne] at hlk
        have hmk := meet_k s x
        rw [hfree] at hmk
        change ∀ W, Calls Tryd.prog 12 _ W fun e w' => e = .returned (.agg #[.int .u64 0, .int .u64 0, .int .u64 0, .int .u64 0]) ∧ Below W.heap.size W w' at hmk
        have hln := len_k x
        have hun := union_k s x
        have hLE := Lib.hid hlk
        have hxx : Hid (x = x) := rfl
        have hss : Hid (s = s) := rfl
        clear hlk hne hfree
        obtain ⟨y, hy⟩ : ∃ y, y = s.or x := ⟨_, rfl⟩
        rw [← hy] at hun HOR
        generalize hbE : x.low = b at *
        generalize hnE : s.by_.length = n at *
        generalize hqE : x.by_.length = q at *
        obtain ⟨xa, xb, xc, xd, xh⟩ := x
        obtain ⟨sa, sb, sc, sd, sh⟩ := s
        obtain ⟨ya, yb, yc, yd, yh⟩ := y
        obtain ⟨x0, x1, x2, x3⟩ := id hx
        simp only at x0 x1 x2 x3 hmk hln hun
        have hi0 : (0 : Int) ≤ (i : Int) := by omega
        have hi1 : (i : Int) < (d.length : Int) := by omega
        have hw3 : bs < wr.heap.size := hS.lt
        go_wp2_with fail
        refine (hLE.out _ (by omega) (hT2.out.below hB (by omega))).mono ?_
        rintro e Wa ⟨rfl, hBa⟩
        replace hBa := hBa.1
        have hBA : Below bs W2 Wa := hB.trans (hBa.mono (by omega))
        have hSA : KBox Wa bs ⟨sa, sb, sc, sd, sh⟩ := hS.below hBa hw3
        have hwa := hBa.size
        clear x0 x1 x2 x3
        have hxA := hx.below hBa (by omega)
        go_wp2_with fail
        obtain ⟨d0, d1, d2, d3⟩ := hSA.at.all (by omega)
        obtain ⟨e0, e1, e2, e3⟩ := hxA.all (by omega)
        simp only [Nat.zero_add] at d0 d1 d2 d3 e0 e1 e2 e3
        have hwr : IntKind.i64.wrap (b : Int) = b := by rw [IntKind.wrap_i64]; omega
        have hle : decide (IntKind.i64.wrap (b : Int) ≤ t) = false := by rw [hwr]; simp; omega
        have hle2 : decide ((b : Int) ≤ t) = false := by simp; omega
        have hz0 := neq_zero Kl.zero
        rw [(Kl.isZ_iff Kl.zero).2 rfl] at hz0
        change ∀ W, (Op.equalIn 10000 27 (.agg #[.int .u64 0, .int .u64 0, .int .u64 0, .int .u64 0]) (.agg #[.int .u64 0, .int .u64 0, .int .u64 0, .int .u64 0])).run Tryd.prog W = .ok true W at hz0
        refine region_below (by kernel_rfl) (by kernel_rfl) ?_
        repeat (go_big_quiet_step (first | (go_at_call 12; with_reducible exact Calls.below_of (hmk _))))
        refine wpQuiet_nil ?_
        rintro _ ⟨p, rfl⟩
        have hBp := hBA.trans (p.h.mono (by omega))
        have hSp := hSA.below p.h (by omega)
        have hxp := hxA.below p.h (by omega)
        have hwp := p.h.size
        clear d0 d1 d2 d3 e0 e1 e2 e3 hmk hle hwr
        generalize p.W = Wb at *
        clear hSA hxA hBA hBa hB hS hx
        obtain ⟨x0, x1, x2, x3⟩ := id hxp
        simp only at x0 x1 x2 x3
        go_wp2_with (go_at_call 13; refine (hln _).mono ?_; rintro e Wc ⟨rfl, hBc⟩)
        have hBC : Below bs W2 Wc := hBp.trans (hBc.mono (by omega))
        have hSC := hSp.below hBc (by omega)
        have hxC := hxp.below hBc (by omega)
        have hwc := hBc.size
        clear x0 x1 x2 x3 hln
        clear hSp hxp hBp hBc
        obtain ⟨s0, s1, s2, s3⟩ := hSC.at
        obtain ⟨x0, x1, x2, x3⟩ := id hxC
        simp only [Nat.zero_add] at x0 x1 x2 x3 s0 s1 s2 s3
        go_cut [71] from 71 to 71 (fun _ wc => KBox wc bs ⟨ya, yb, yc, yd, yh⟩ ∧ Below bs W2 wc)
        case first =>
          have hltC : bs < Wc.heap.size := hSC.lt
          go_region_with (go_at_call 14; refine (hun _).mono ?_; rintro e Wd ⟨rfl, hBd⟩; have hSd : KBox Wd bs _ := (hBd.block bs hltC).trans hSC; have f0 := hSd.frozen 0; have f1 := hSd.frozen 1; have f2 := hSd.frozen 2; have f3 := hSd.frozen 3; obtain ⟨q0, q1, q2, q3⟩ := hSd.at; simp only [Nat.zero_add] at q0 q1 q2 q3)
          all_goals
            go_wp2_with fail
            go_meet
            case rel => exact ⟨hSd.set ⟨ya, yb, yc, yd, yh⟩, (((((hBC.drew.trans (hBd.mono (Nat.le_of_lt hltC))).setCell (p := ⟨bs, 0, none⟩) (Nat.le_refl _) _).setCell (p := ⟨bs, 1, none⟩) (Nat.le_refl _) _).setCell (p := ⟨bs, 2, none⟩) (Nat.le_refl _) _).setCell (p := ⟨bs, 3, none⟩) (Nat.le_refl _) _)⟩
        case rest =>
          obtain ⟨hSd, hBd⟩ := hcut
          clear s0 s1 s2 s3 x0 x1 x2 x3 hSC hxC hBC hun hwc hwp hwa
          generalize hyE : (⟨ya, yb, yc, yd, yh⟩ : Kl) = y at *
          generalize hxE : (⟨xa, xb, xc, xd, xh⟩ : Kl) = x at *
          generalize hsE : (⟨sa, sb, sc, sd, sh⟩ : Kl) = s at *
          clear hyE hsE
          have HXE := Lib.hid hxE
          clear hxE
          obtain ⟨wo, rfl⟩ : ∃ wo : World, wo = wc := ⟨_, rfl⟩
          go_wp2_with fail
          have hbp : 0 < W2.heap.size := by have := HBS.out; omega
          refine wp_qx' 2 (loopK l la c g cap bs i b d x y W2 wo _ _ _ _ _ _ _ _ _ _ _ _ _ _ _ _ _ _ _ _ _ _ _ _ _ _ _ _ _ _ _ _ _ _ _ _ _ _ _ _ _ _ _ _ _ _ _ _ _ _ _ _ _ _ _ _ _ _ _ _ _ _ _ _ _ _ _ _ _ _ _ _ _ _ _ _ _ _ _ _ _ _ _ _ _ _ _ _ _ _ _ _ _ _ _ _ _ _ _ _ _ _ _ _ _ _ _ _ _ _ _ undef _ _ _ _ _ _ _ _ _ _ _ _ _ _ _ _ _ _ _ _ _ _ _ _ _ _ _ h8 hdl hid HX hg2 hL2 hdr2 HCUT HBS hSd hBd ?_)
          intro u2 u10 u11 u72 u73 u74 u75 u76 u77 u78 u79 u80 u81 u82 u83 u84 u85 u86 u87 u88 u89 u90 u91 u92 u93 u94 u95 u96 u97 wr1 hS1 hB1
          go_wp2_with fail
          refine wp_qx' 4 (loopA l la c g cap bs i b d x y W2 wr1 _ _ _ _ _ _ _ _ _ _ _ _ _ _ _ _ _ _ _ _ _ _ _ _ _ _ _ _ _ _ _ _ _ _ _ _ _ _ _ _ _ _ _ _ _ _ _ _ _ _ _ _ _ _ _ _ _ _ _ _ _ _ _ _ _ _ _ _ _ _ _ _ _ _ _ _ _ _ _ _ _ _ _ _ _ _ _ _ _ _ _ _ _ _ _ _ _ undef _ _ _ _ _ _ _ _ _ _ _ _ _ _ _ _ _ _ _ _ _ _ _ _ _ _ _ _ _ _ _ _ _ _ _ _ _ _ _ _ _ h8 hdl hid hxl hg2 hL2 hdr2 HAP HNE hbp hT2 HBS hS1 hB1 ?_)
          intro w2 w12 w13 w14 w15 w16 w98 w99 w100 w101 w102 w103 w104 w105 w106 w107 w108 w109 w110 w111 w112 w113 w114 w115 w116 w117 w118 w119 w120 w121 w122 w123 w124 w125 w126 w127 w128 w129 w130 w131 w132 w133 w134 wr2 hS2 hB2
          go_wp2_with fail
          go_roundw
          case rel =>
            refine ⟨i + 1, by omega, by simp, by rw [HCNT.out]; simp, ⟨(b : Int), rfl, by omega, by omega, fun j hj hij => ?_⟩, by rw [HOR.out]; exact hS2, hB2⟩
            have h1 := HLaw.out.low i j hj (by omega)
            rw [← HX.out, hbE] at h1
            omega
          case measure => simp [intOf]; omega
      · obtain rfl : i = d.length := by omega
        rw [List.take_length] at hS ⊢
        have hall : orAll d = Kl.full := by rw [HLaw.out.all, Kl.not_zero]
        rw [hall] at hS ⊢
        rw [by_full]
        have hnk := not_k Kl.zero
        rw [Kl.not_zero] at hnk
        change ∀ W, Calls Tryd.prog 16 #[.agg #[.int .u64 0, .int .u64 0, .int .u64 0, .int .u64 0]] W fun e w' => e = .returned (.agg #[.int .u64 (Kl.full.a : Nat), .int .u64 (Kl.full.b : Nat), .int .u64 (Kl.full.c : Nat), .int .u64 (Kl.full.d : Nat)]) ∧ Below W.heap.size W w' at hnk
        have he := eq27 Kl.full Kl.full
        rw [decide_eq_true rfl] at he
        generalize Kl.full = fl at hS hnk he
        have hltS : bs < wr.heap.size := hS.lt
        obtain ⟨d0, d1, d2, d3⟩ := hS.at.all hltS
        simp only [Nat.zero_add] at d0 d1 d2 d3
        clear hlow hall hS0 hBb
        go_wp2_with fail
        refine region_below (by kernel_rfl) (by kernel_rfl) ?_
        repeat (go_big_quiet_step (first | (go_at_call 16; with_reducible exact Calls.below_of (hnk _))))
        refine wpQuiet_nil ?_
        rintro _ ⟨p, rfl⟩
        have hBp := hB.trans (p.h.mono (by omega))
        go_wp2_with fail
        go_ret
        refine ⟨rfl, hB2'.trans (hBp.mono (by omega))⟩
end Go.Proofs.YtjaabolpdelbiaaDoor

namespace Go.Proofs.YtjaabolpdelbiaaDoor
open Go Go.Proofs Go.ChangeShapes Go.WideShapes Go.ChangeAt Go.RowKit

theorem choose_list {α : Type} {p : Nat → α → Prop} : ∀ n, (∀ i, i < n → ∃ x, p i x) → ∃ l : List α, l.length = n ∧ ∀ i (h : i < l.length), p i l[i]
  | 0, _ => ⟨[], rfl, fun i h => by cases h⟩
  | n + 1, h => by
    obtain ⟨l, hl, hp⟩ := choose_list n fun i hi => h i (by omega)
    obtain ⟨x, hx⟩ := h n (Nat.lt_succ_self n)
    refine ⟨l ++ [x], by simp [hl], fun i hi => ?_⟩
    by_cases e : i < l.length
    · rw [List.getElem_append_left e]; exact hp i e
    · have e2 : i = l.length := by simp at hi; omega
      subst e2
      rw [List.getElem_append_right (Nat.le_refl _)]
      simpa [hl] using hx
section
variable {H : Type} {enc : TypeId × Value → H} {w : World} {base : Nat} {sp : Nat → Bool} {held : Bool}
theorem open_rows {r : Reach} {b0 : Nat} {v : Value} {d : DataW H} {p : List MemPlace} (hv : Value.okWide Tryd.prog w r b0 22 v) (h : DataW.Trod enc Tryd.prog w base sp held 22 v d p) :
    ∃ (l : List Kl) (la : Option Addr) (c : Nat), v = .slice la l.length c ∧ (l ≠ [] → ∃ B off, la = some ⟨B, off, none⟩ ∧ B < w.heap.size ∧ RowAt w B off l) := by
  simp only [Value.okWide, Tryd.underlying22] at hv
  obtain ⟨sa, sn, sc, rfl⟩ : ∃ a n c, v = .slice a n c := by cases v <;> first | exact ⟨_, _, _, rfl⟩ | exact hv.elim
  obtain ⟨fuel, hf⟩ := h
  have hc : Tryd.prog.cellsOf 27 = 4 := by kernel_rfl
  rcases Deep.open_slice Tryd.underlying22 hf with ⟨h1, _⟩ | ⟨a, len, cap, m, n, D, Pl, h1, _, hl, _, hm, _, hx⟩
  · simp [Value.cells] at h1
    obtain ⟨rfl, rfl, rfl⟩ := h1
    exact ⟨[], none, 0, rfl, fun h => (h rfl).elim⟩
  · simp [Value.cells] at h1
    obtain ⟨rfl, rfl, rfl⟩ := h1
    have hle : sn ≤ m := by rw [hm]; split <;> omega
    obtain ⟨l, hlen, hk⟩ := choose_list (p := fun i (x : Kl) => ∀ j u, (encC x)[j]? = some u → w.cell? ((a.add (i * 4)).add j) = some u) sn fun i hi => by
      obtain ⟨cs', h2, h3⟩ := hx i (by omega)
      rw [hc] at h2
      obtain ⟨_, hlen, hcell⟩ := World.cells?_some h2
      obtain ⟨c0, c1, c2, c3, rfl⟩ : ∃ c0 c1 c2 c3, cs' = [c0, c1, c2, c3] := by
        match cs', hlen with
        | [c0, c1, c2, c3], _ => exact ⟨c0, c1, c2, c3, rfl⟩
      obtain ⟨y0, y1, y2, y3, n', _, g0, g1, g2, g3⟩ := trod_array4 (e := 25) Tryd.underlying27 (by kernel_rfl) h3
      obtain ⟨a0, l0, rfl, _⟩ := one_int g0
      obtain ⟨a1, l1, rfl, _⟩ := one_int g1
      obtain ⟨a2, l2, rfl, _⟩ := one_int g2
      obtain ⟨a3, l3, rfl, _⟩ := one_int g3
      refine ⟨⟨a0, a1, a2, a3, fun k => by unfold wd; split; exact l0; split; exact l1; split; exact l2; exact l3⟩, fun j u hu => ?_⟩
      have hj : j < 4 := by have := (List.getElem?_eq_some_iff.1 hu).1; rwa [encC_len] at this
      rw [hcell j hj]
      exact hu
    subst hlen
    refine ⟨l, some a, sc, rfl, fun hne => ?_⟩
    have h0 : 0 < l.length := List.length_pos_iff.2 hne
    have hc0 := hk 0 h0 0 _ rfl
    have e0 : (a.add (0 * 4)).add 0 = a := by simp [Addr.add]
    rw [e0] at hc0
    have hsp := World.cell?_spot hc0
    have hlt : a.block < w.heap.size := by
      unfold World.cell? at hc0
      cases hh : w.heap[a.block]? with
      | none => rw [hh] at hc0; cases hc0
      | some o => exact (Array.getElem?_eq_some_iff.1 hh).1
    obtain ⟨B, off, spot⟩ := a
    simp only at hsp hlt
    subst hsp
    refine ⟨B, off, rfl, hlt, fun i hi j u hu => ?_⟩
    have := hk i hi j u hu
    rwa [addr_add, addr_add] at this
end
theorem own : ownKnob Tryd.prog.godebug = none := by kernel_rfl
def laid1 : List (String × DataW Unit) := [("math/bits.deBruijn64tab", Rows.laid_math_bits_deBruijn64tab)]
theorem numsAt {W : World} (h : laidMetH Tryd.prog laid1 W) : AX.numsAt W 0 .u8 nums := by
  rw [MakeChecks.laidMetH_plain _ _ _ (by kernel_rfl)] at h
  obtain ⟨ps, h, _⟩ := h
  exact AX.numsAt_of_laid (n := 64) (e := 5) (t := 63) (by kernel_rfl) (by kernel_rfl) Tryd.underlying63 Tryd.underlying5 (by kernel_rfl) (by kernel_rfl) h
theorem door_met (os : Os) (args : Array Value) : laidMetH Tryd.prog laid1 ((World.doorLaid Tryd.prog 14 os).forCall (fun _ _ => 0) ⟨#[], args, []⟩).memory :=
  laidMetH_of_parts3 (fuel := 8) (laidMet_of_run' 8 (by kernel_rfl) (by kernel_rfl)) (by kernel_rfl) (by kernel_rfl)
theorem lives_calls {w : World} (hg : AX.GlOk cx (AX.prOf w)) (W : World) (hB : Below w.heap.size w W) : Calls Tryd.prog 9 #[] W fun e w' => e = .returned (.bool true) ∧ Below W.heap.size W w' := by
  have hgW : AX.GlOk cx (AX.prOf W) := hg.of_prot fun k ob hk => (hB.block k (Array.getElem?_eq_some_iff.1 hk).1).trans hk
  refine (callsIn_wide.1 (ans_lives.2 (fun _ => none) W #[] hgW .nil)).mono ?_
  rintro e w' ⟨v', rfl, hv, hk⟩
  obtain rfl := hv.bool_inv
  exact ⟨rfl, hk.below⟩

theorem classParts_run (l : List Kl) (la : Option Addr) (c : Nat) (w : World) (hg : AX.GlOk cx (AX.prOf w)) (hL : l ≠ [] → ∃ B off, la = some ⟨B, off, none⟩ ∧ B < w.heap.size ∧ RowAt w B off l) :
    Calls Tryd.prog 3 #[.slice la l.length c] w fun e w' => e = .returned (.bool true) ∧ Below w.heap.size w w' := by
  obtain ⟨hT, h0⟩ := tab_of hg
  exact parts_law l la c w h0 hT hL (lives_calls hg w (Below.refl _ _))
theorem laidOut : laidOutB Tryd.prog = true := by kernel_rfl
set_option maxRecDepth 100000 in
theorem classParts_lifted (os : Os) (started : os.Started) (H : Type) (enc : TypeId × Value → H) :
    ReturnsInHanded {} Tryd.checked os 3 .any (fun w args => (Rows.classPartsSpec.pre enc Tryd.prog Tryd.f3 [] false w args ∧ laidMetH Tryd.prog laid1 w) ∧ sizedMet enc Tryd.prog Tryd.f3 (OpenSpec.ofChange Rows.classPartsSpec) false w args)
      (Rows.classPartsSpec.post enc Tryd.prog Tryd.f3 false true false false) := by
  refine returnsInHanded_of_change_and (C := Tryd.checked) (X := fun w _ => laidMetH Tryd.prog laid1 w) (fun _ _ _ hh h => h.of_heap hh) own started (by kernel_rfl) Tryd.func3
    (ChangeSpec.witness_shaped (enc := enc) (C := Tryd.checked) (os := os) (X := fun w _ => laidMetH Tryd.prog laid1 w) false (World.doorLaid Tryd.prog 14 os) #[.slice none 0 0] 8 rfl (World.shaped_of_RefB (by kernel_rfl) (by kernel_rfl)) (by kernel_rfl) (by kernel_rfl) (by kernel_rfl) (door_met os _)) ?_
  intro W base args ds gs before hval0 hW _ _ hL _
  have hval : ∀ (j : Nat) t v, Tryd.f3.params[j]? = some t → args[j]? = some v → Value.okWide Tryd.prog W .any base t v := hval0
  have hW' := hW
  obtain ⟨p, q, hA0, hV, rfl, hfz, hnd⟩ := hW
  have hA : DataW.TrodAll enc Tryd.prog W 0 (fun _ => true) true Tryd.f3.params.toList args.toList ds p := hA0
  rw [Tryd.params3] at hA hval
  obtain ⟨v0, d0, rfl, rfl, h0⟩ := trodAll_one hA
  obtain ⟨rfl, rfl⟩ := trodVars_none hV
  obtain ⟨l, la, c, rfl, hrow⟩ := open_rows (hval 0 22 v0 rfl rfl) h0
  clear hA0 hval0
  simp only [List.append_nil] at hW'
  have hlt := hW'.lt
  refine (classParts_run l la c W (AX.glOk_nums (numsAt hL)) hrow).mono fun e W' ⟨he, hb⟩ => ?_
  subst he
  have hk := AX.Kept.of_below hb (Nat.le_refl _)
  exact ⟨_, rfl, AX.post_of_kept (pa := p ++ []) (pv := []) hW' (fun _ _ _ => (trodAll_cons_mk (shut_bool Tryd.underlying4 _) trodAll_mk0))
    (fun sp hsp => (trodAll_cons_mk (p' := []) (WideElems.Trod_stays laidOut (by kernel_rfl) (of_decide_eq_true (by kernel_rfl)) h0 (fun x hx => hb.same (hlt x hx)) (fun x hx => hsp x hx)) trodAll_mk0)) (fun _ _ => rfl) (by simp)
    hk (ok_one (by kernel_rfl) rfl (okWide_bool_mk Tryd.underlying4 _))⟩

theorem classParts_holds : Rows.ClassPartsSaid :=
  OpenClaim.holds_of_wide 3 Tryd.f3 rfl rfl rfl rfl rfl rfl rfl ⟨rfl, rfl, rfl, rfl, rfl⟩ rfl rfl rfl rfl rfl (by kernel_rfl) Tryd.func3 (by kernel_rfl)
    (of_decide_eq_true (by kernel_rfl)) (by unfold Func.isWrapper; first | (rw [if_pos (by decide +kernel)]; kernel_rfl) | (rw [if_neg (by decide +kernel)]; exact ⟨rfl, rfl⟩))
    (fun os started H enc _ => classParts_lifted os started H enc)

theorem classParts_card : Rows.ClassPartsCardSaid :=
  Claim7.holds_tied_plain_at .later [] [.data] true (true, "5e29bf0000f66c8b99edb4d8382e1973713f85f0888d6d4c4ad9ad69016ea8ce") false
    classParts_holds (fun _ h => by cases h) (by kernel_rfl) (fun _ h => by cases h) classParts_row_tie rfl ⟨rfl, rfl⟩ (by kernel_rfl) rfl
    (fun f fn hf hfn => by
      obtain rfl : f = 3 := Option.some.inj ((show Tryd.prog.funcNamed "viewport/viewportlaw01.ClassParts" = some 3 by kernel_rfl).symm.trans hf) |>.symm
      obtain rfl : fn = Tryd.f3 := (Option.some.inj (Tryd.func3.symm.trans hfn)).symm
      exact ⟨by kernel_rfl, fun j t ht => by
        rw [Tryd.params3] at ht
        match j, ht with
        | 0, ht => cases ht; exact (show Tryd.prog.wantsStandIn 22 = false by kernel_rfl)⟩)
    (by kernel_rfl)
#print axioms classParts_card
end Go.Proofs.YtjaabolpdelbiaaDoor
