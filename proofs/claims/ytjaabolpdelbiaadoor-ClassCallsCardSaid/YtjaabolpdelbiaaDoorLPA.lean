/- ClassParts: the loop over the parts before. -/
import Derived.Test.YtjaabolpdelbiaaDoorSP5
import Derived.Test.YtjaabolpdelbiaaDoorM6
import Derived.Deep.RegionWith
import Derived.Deep.CutRange
namespace Go.Proofs.YtjaabolpdelbiaaDoor
open Go Go.Proofs Go.RowKit Go.Shelf
attribute [local go_sem] Oper.semAt_some

/-- A class in a block of its own, which may be written. -/
def KBox (W : World) (B : Nat) (x : Kl) : Prop := W.heap[B]? = some (.cells (encC x).toArray 27 (0, 0))
theorem KBox.lt {W : World} {B : Nat} {x : Kl} (h : KBox W B x) : B < W.heap.size := (Array.getElem?_eq_some_iff.1 h).1
theorem KBox.at {W : World} {B : Nat} {x : Kl} (h : KBox W B x) : KAt W B 0 x :=
  ⟨by simp [World.cell?, show W.heap[B]? = _ from h, encC], by simp [World.cell?, show W.heap[B]? = _ from h, encC], by simp [World.cell?, show W.heap[B]? = _ from h, encC], by simp [World.cell?, show W.heap[B]? = _ from h, encC]⟩
theorem KBox.frozen {W : World} {B : Nat} {x : Kl} (h : KBox W B x) (j : Nat) : W.frozen? ⟨B, j, none⟩ = false := by
  simp [World.frozen?, show W.heap[B]? = _ from h]
theorem KBox.below {n B : Nat} {x : Kl} {w w' : World} (h : KBox w B x) (hb : Below n w w') (hn : B < n) : KBox w' B x := (hb.block _ hn).trans h
theorem KBox.new (w : World) (x : Kl) : KBox (w.alloc (.cells (encC x).toArray 27)) w.heap.size x := World.alloc_heap_new w _
theorem KBox.set {W : World} {B : Nat} {x : Kl} (h : KBox W B x) (y : Kl) :
    KBox ((((W.setCell ⟨B, 0, none⟩ (.int .u64 (y.a : Nat))).setCell ⟨B, 1, none⟩ (.int .u64 (y.b : Nat))).setCell ⟨B, 2, none⟩ (.int .u64 (y.c : Nat))).setCell ⟨B, 3, none⟩ (.int .u64 (y.d : Nat))) B y := by
  have h1 := heap_setCell_same W B 0 _ 27 (.int .u64 (y.a : Nat)) h
  have h2 := heap_setCell_same _ B 1 _ 27 (.int .u64 (y.b : Nat)) h1
  have h3 := heap_setCell_same _ B 2 _ 27 (.int .u64 (y.c : Nat)) h2
  have h4 := heap_setCell_same _ B 3 _ 27 (.int .u64 (y.d : Nat)) h3
  exact h4
theorem KBox.other {W : World} {B B' i : Nat} {x : Kl} {v : Value} (h : KBox W B x) (hne : B ≠ B') : KBox (W.setCell ⟨B', i, none⟩ v) B x := (Below.heap_setCell _ _ _ _ hne).trans h
theorem len_k (x : Kl) (w : World) : Calls Tryd.prog 13 #[.agg #[.int .u64 (x.a : Nat), .int .u64 (x.b : Nat), .int .u64 (x.c : Nat), .int .u64 (x.d : Nat)]] w fun e w' => e = .returned (.int .i64 (x.by_.length : Nat)) ∧ Below w.heap.size w w' := len_calls x.a x.b x.c x.d x.h w
theorem has_k (x : Kl) (b : Nat) (hb : b < 256) (w : World) : Calls Tryd.prog 15 #[.agg #[.int .u64 (x.a : Nat), .int .u64 (x.b : Nat), .int .u64 (x.c : Nat), .int .u64 (x.d : Nat)], .int .u8 b] w fun e w' => e = .returned (.bool (x.has b)) ∧ Below w.heap.size w w' := has_calls x.a x.b x.c x.d b x.h hb w


/-- Left by one way alone. -/
def Qx (n : Nat) (K : Act → World → Prop) : Exit → Act → World → Prop
  | .exit id, a, w => id = n ∧ K a w
  | _, _, _ => False
theorem wp_qx {P : Program} {n : Nat} {c : Code} {K : Act → World → Prop} {Q : Exit → Act → World → Prop} {a : Act} {w : World} (hq : ∀ a w, K a w → Q (.exit n) a w) (h : c.wp P (Qx n K) a w) : c.wp P Q a w :=
  Code.wp_mono (fun e a w hh => by
    cases e
    case exit id => obtain ⟨h1, h2⟩ := hh; subst h1; exact hq _ _ h2
    all_goals exact hh.elim) h
theorem wp_qx' {P : Program} {c : Code} {Q : Exit → Act → World → Prop} {a : Act} {w : World} (n : Nat) (h : c.wp P (Qx n (Q (.exit n))) a w) : c.wp P Q a w := wp_qx (fun _ _ h => h) h

def seqL' (c : Code) : Code := match c with | .seq a _ => a | c => c
def seqR' (c : Code) : Code := match c with | .seq _ b => b | c => c
def blk' (c : Code) : Code := match c with | .block _ b => b | c => c
def lp' (c : Code) : Code := match c with | .loop b => b | c => c
def bodyOf' (f : Func) : Code := match f.body with | some c => c | none => .skip
/-- The outer loop's body; what is done with a part; the inner loops' bodies. -/
noncomputable def pB0 : Code := lp' (blk' (seqR' (seqL' (seqR' (seqR' (seqR' (seqR' (seqR' (seqR' (bodyOf' Tryd.f3))))))))))
noncomputable def pBody1 : Code := blk' (seqL' (seqR' pB0))
noncomputable def pK1 : Code := lp' (blk' (seqR' (seqL' (seqR' (seqR' (seqR' (seqR' pBody1)))))))
noncomputable def pK2 : Code := lp' (blk' (seqR' (seqR' (seqR' (seqR' (seqR' (seqR' pBody1)))))))
end Go.Proofs.YtjaabolpdelbiaaDoor

namespace Go.Proofs.YtjaabolpdelbiaaDoor
open Go Go.Proofs Go.RowKit Go.Shelf
attribute [local go_sem] Oper.semAt_some

set_option maxRecDepth 1000000 in
set_option maxHeartbeats 8000000 in
theorem loopK (l : List Kl) (la : Option Addr) (c g cap bs i b : Nat) (d : List Kl) (x y : Kl) (W2 wr : World) (K : Act → World → Prop) (v1 v5 v6 v9 v12 v13 v14 v15 v16 v17 v18 v19 v20 v21 v22 v23 v24 v25 v26 v27 v28 v29 v30 v31 v32 v33 v34 v35 v36 v37 v38 v39 v40 v41 v42 v43 v44 v45 v46 v47 v48 v49 v50 v51 v52 v53 v54 v55 v56 v57 v58 v59 v60 v61 v62 v63 v64 v65 v66 v67 v68 v69 v70 v71 v98 v99 v100 v101 v102 v103 v104 v105 v106 v107 v108 v109 v110 v111 v112 v113 v114 v115 v116 v117 v118 v119 v120 v121 v122 v123 v124 v125 v126 v127 v128 v129 v130 v131 v132 v133 v134 v135 v136 v137 v138 v139 v140 v141 v142 : Value) (u2 u10 u11 u72 u73 u74 u75 u76 u77 u78 u79 u80 u81 u82 u83 u84 u85 u86 u87 u88 u89 u90 u91 u92 u93 u94 u95 u96 u97 : Value)
    (h8 : ¬ 8 < l.length) (hdl : d.length ≤ 256) (hid : i < d.length) (hX : Hid (x = d[i])) (hg2 : g < bs) (hL2 : Hid (l ≠ [] → ∃ B off, la = some ⟨B, off, none⟩ ∧ B < bs ∧ RowAt W2 B off l)) (hdr2 : Hid (RowAt W2 g 0 d))
    (hcl : Hid (∀ c ∈ l, c.and x = Kl.zero ∨ c.and x = x)) (hbs : Hid (bs = W2.heap.size)) (hSd : KBox wr bs y) (hBd : Below bs W2 wr)
    (hQ : ∀ (u2 u10 u11 u72 u73 u74 u75 u76 u77 u78 u79 u80 u81 u82 u83 u84 u85 u86 u87 u88 u89 u90 u91 u92 u93 u94 u95 u96 u97 : Value) (wr : World), KBox wr bs y → Below bs W2 wr → K ⟨#[.slice la l.length c, v1, u2, .slice (some ⟨g, 0, none⟩) d.length cap, .pointer (some ⟨bs, 0, none⟩), v5, v6, .int .i64 i, .int .u8 b, v9, u10, u11, v12, v13, v14, v15, v16, v17, v18, v19, v20, v21, v22, v23, v24, v25, v26, v27, v28, v29, v30, v31, v32, v33, v34, v35, v36, v37, v38, v39, v40, v41, v42, v43, v44, v45, v46, v47, v48, v49, v50, v51, v52, v53, v54, v55, v56, v57, v58, v59, v60, v61, v62, v63, v64, v65, v66, v67, v68, v69, v70, v71, u72, u73, u74, u75, u76, u77, u78, u79, u80, u81, u82, u83, u84, u85, u86, u87, u88, u89, u90, u91, u92, u93, u94, u95, u96, u97, v98, v99, v100, v101, v102, v103, v104, v105, v106, v107, v108, v109, v110, v111, v112, v113, v114, v115, v116, v117, v118, v119, v120, v121, v122, v123, v124, v125, v126, v127, v128, v129, v130, v131, v132, v133, v134, v135, v136, v137, v138, v139, v140, v141, v142], []⟩ wr) :
    (Code.loop pK1).wp Tryd.prog (Qx 2 K) ⟨#[.slice la l.length c, v1, u2, .slice (some ⟨g, 0, none⟩) d.length cap, .pointer (some ⟨bs, 0, none⟩), v5, v6, .int .i64 i, .int .u8 b, v9, .int .i64 0, u11, v12, v13, v14, v15, v16, v17, v18, v19, v20, v21, v22, v23, v24, v25, v26, v27, v28, v29, v30, v31, v32, v33, v34, v35, v36, v37, v38, v39, v40, v41, v42, v43, v44, v45, v46, v47, v48, v49, v50, v51, v52, v53, v54, v55, v56, v57, v58, v59, v60, v61, v62, v63, v64, v65, v66, v67, v68, v69, v70, v71, u72, u73, u74, u75, u76, u77, u78, u79, u80, u81, u82, u83, u84, u85, u86, u87, u88, u89, u90, u91, u92, u93, u94, u95, u96, u97, v98, v99, v100, v101, v102, v103, v104, v105, v106, v107, v108, v109, v110, v111, v112, v113, v114, v115, v116, v117, v118, v119, v120, v121, v122, v123, v124, v125, v126, v127, v128, v129, v130, v131, v132, v133, v134, v135, v136, v137, v138, v139, v140, v141, v142], []⟩ wr := by
  dsimp only at hQ ⊢
  conv => arg 2; arg 1; whnf
  obtain ⟨wo, rfl⟩ : ∃ wo : World, wo = wr := ⟨_, rfl⟩
  go_loopw [10] (fun vk wr => ∃ k : Nat, k ≤ l.length ∧ vk = .int .i64 k ∧ KBox wr bs y ∧ Below bs W2 wr) (fun vk _ => l.length - (intOf vk).toNat)
  case atStart => exact ⟨0, Nat.zero_le _, rfl, hSd, hBd⟩
  case round =>
    obtain ⟨k, hk, rfl, hS, hB⟩ := hrel
    by_cases hkl : k < l.length
    · obtain ⟨B, off, hla, hBl, hRow⟩ := hL2.out (by intro e; subst e; cases hkl)
      subst hla
      have hcx := (hRow.below hB hBl).c4 hkl
      have hdisj := hcl.out l[k] (List.getElem_mem hkl)
      have hx := (hdr2.out.below hB hg2).c4 hid
      rw [Nat.zero_add, ← hX.out] at hx
      generalize l[k] = ck at *
      have hmk := meet_k ck x
      obtain ⟨m, hm⟩ : ∃ m, m = ck.and x := ⟨_, rfl⟩
      rw [← hm] at hmk hdisj
      clear hm
      obtain ⟨c0, c1, c2, c3⟩ := id hcx
      obtain ⟨x0, x1, x2, x3⟩ := id hx
      have hk0 : (0 : Int) ≤ (k : Int) := by omega
      have hk1 : (k : Int) < (l.length : Int) := by omega
      have hltS : bs < wr.heap.size := hS.lt
      have hlt1 : g < wr.heap.size := by omega
      have hlt2 : B < wr.heap.size := by have := hB.size; omega
      have hne1 : ¬ g = wr.heap.size := by omega
      have hne2 : ¬ B = wr.heap.size := by omega
      go_wp2_with fail
      go_cut [11] from 78 to 86 (fun v11 wc => ∃ nb, v11 = .pointer (some ⟨nb, 0, none⟩) ∧ KBox wc nb m ∧ bs < nb ∧ KBox wc bs y ∧ Below bs W2 wc)
      case first =>
        go_region_with (go_at_call 12; refine (hmk _).mono ?_; rintro e Wd ⟨rfl, hBd⟩; try (have hN : KBox Wd wr.heap.size Kl.zero := (hBd.block wr.heap.size (by simp)).trans (World.alloc_heap_new _ _); have f0 := hN.frozen 0; have f1 := hN.frozen 1; have f2 := hN.frozen 2; have f3 := hN.frozen 3; obtain ⟨q0, q1, q2, q3⟩ := hN.at; simp only [Nat.zero_add] at q0 q1 q2 q3))
        all_goals
          have hXB : Below bs W2 Wd := by
            first
              | exact hB.drew.trans (hBd.mono (Nat.le_of_lt hltS))
              | exact (hB.alloc (Nat.le_of_lt hltS) _).drew.trans (hBd.mono (by simp; omega))
              | exact (hB.drew.alloc (Nat.le_of_lt hltS) _).trans (hBd.mono (by simp; omega))
          have hYB : KBox Wd bs y := by
            first
              | exact (hBd.block bs hltS).trans hS
              | exact (hBd.block bs (by simp; omega)).trans (hS.below ((Below.refl wr.heap.size wr).alloc (Nat.le_refl _) _).drew hltS)
          go_wp2_with fail
          go_meet
          case rel =>
            first
              | exact ⟨Wd.heap.size, rfl, KBox.new Wd m, hYB.lt, hYB.below ((Below.refl _ Wd).alloc (Nat.le_refl _) _) hYB.lt, hXB.alloc (Nat.le_of_lt hYB.lt) _⟩
              | exact ⟨wr.heap.size, rfl, hN.set m, hltS, (((hYB.other (by omega)).other (by omega)).other (by omega)).other (by omega), ((((hXB.setCell (p := ⟨wr.heap.size, 0, none⟩) (Nat.le_of_lt hltS) _).setCell (p := ⟨wr.heap.size, 1, none⟩) (Nat.le_of_lt hltS) _).setCell (p := ⟨wr.heap.size, 2, none⟩) (Nat.le_of_lt hltS) _).setCell (p := ⟨wr.heap.size, 3, none⟩) (Nat.le_of_lt hltS) _)⟩
      case rest =>
        obtain ⟨nb, rfl, hN, hltN, hSr, hBr⟩ := hcut
        have hxr := (hdr2.out.below hBr hg2).c4 hid
        rw [Nat.zero_add, ← hX.out] at hxr
        have hlr : bs < wc.heap.size := hSr.lt
        obtain ⟨d0, d1, d2, d3⟩ := hN.at.all hN.lt
        obtain ⟨e0, e1, e2, e3⟩ := hxr.all (by omega)
        simp only [Nat.zero_add] at d0 d1 d2 d3 e0 e1 e2 e3
        have hz := neq_zero m
        clear c0 c1 c2 c3 x0 x1 x2 x3 hmk
        cases hmz : m.isZ with
        | true =>
          rw [hmz] at hz
          go_wp2_with fail
          refine region_below (by kernel_rfl) (by kernel_rfl) ?_
          repeat (go_big_quiet_step (fail))
          refine wpQuiet_nil ?_
          rintro _ ⟨p, rfl⟩
          have hSp := hSr.below p.h hlr
          have hBp := hBr.trans (p.h.mono (by omega))
          go_wp2_with fail
          go_roundw
          case rel => exact ⟨k + 1, by omega, by simp, hSp, hBp⟩
          case measure => simp [intOf]; omega
        | false =>
          rw [hmz] at hz
          have hmx : m = x := hdisj.resolve_left fun h => by rw [(Kl.isZ_iff m).2 h] at hmz; cases hmz
          have he := eq27 m x
          rw [decide_eq_true hmx] at he
          clear hmx hdisj
          go_wp2_with fail
          refine region_below (by kernel_rfl) (by kernel_rfl) ?_
          repeat (go_big_quiet_step (fail))
          refine wpQuiet_nil ?_
          rintro _ ⟨p, rfl⟩
          have hSp := hSr.below p.h hlr
          have hBp := hBr.trans (p.h.mono (by omega))
          go_wp2_with fail
          go_roundw
          case rel => exact ⟨k + 1, by omega, by simp, hSp, hBp⟩
          case measure => simp [intOf]; omega
    · obtain rfl : k = l.length := by omega
      go_wp2_with fail
      exact ⟨rfl, hQ _ _ _ _ _ _ _ _ _ _ _ _ _ _ _ _ _ _ _ _ _ _ _ _ _ _ _ _ _ _ hS hB⟩
end Go.Proofs.YtjaabolpdelbiaaDoor

namespace Go.Proofs.YtjaabolpdelbiaaDoor
open Go Go.Proofs Go.RowKit Go.Shelf
attribute [local go_sem] Oper.semAt_some

set_option maxRecDepth 1000000 in
set_option maxHeartbeats 8000000 in
theorem loopA (l : List Kl) (la : Option Addr) (c g cap bs i b : Nat) (d : List Kl) (x y : Kl) (W2 wr : World) (K : Act → World → Prop) (v1 v5 v6 v9 v10 v11 v17 v18 v19 v20 v21 v22 v23 v24 v25 v26 v27 v28 v29 v30 v31 v32 v33 v34 v35 v36 v37 v38 v39 v40 v41 v42 v43 v44 v45 v46 v47 v48 v49 v50 v51 v52 v53 v54 v55 v56 v57 v58 v59 v60 v61 v62 v63 v64 v65 v66 v67 v68 v69 v70 v71 v72 v73 v74 v75 v76 v77 v78 v79 v80 v81 v82 v83 v84 v85 v86 v87 v88 v89 v90 v91 v92 v93 v94 v95 v96 v97 v135 v136 v137 v138 v139 v140 v141 v142 : Value) (u2 u12 u13 u14 u15 u16 u98 u99 u100 u101 u102 u103 u104 u105 u106 u107 u108 u109 u110 u111 u112 u113 u114 u115 u116 u117 u118 u119 u120 u121 u122 u123 u124 u125 u126 u127 u128 u129 u130 u131 u132 u133 u134 : Value)
    (h8 : ¬ 8 < l.length) (hdl : d.length ≤ 256) (hid : i < d.length) (hb : b < 256) (hg2 : g < bs) (hL2 : Hid (l ≠ [] → ∃ B off, la = some ⟨B, off, none⟩ ∧ B < bs ∧ RowAt W2 B off l)) (hdr2 : Hid (RowAt W2 g 0 d))
    (hap : Hid (∀ k (hk : k < i), ∃ j, ∃ hj : j < l.length, l[j].has b ≠ l[j].has (d[k]'(by omega)).low)) (hne : Hid (∀ k (hk : k < d.length), d[k].by_.isEmpty = false)) (hp2 : 0 < W2.heap.size) (hT2 : Hid (TabAt W2)) (hbs : Hid (bs = W2.heap.size)) (hSd : KBox wr bs y) (hBd : Below bs W2 wr)
    (hQ : ∀ (u2 u12 u13 u14 u15 u16 u98 u99 u100 u101 u102 u103 u104 u105 u106 u107 u108 u109 u110 u111 u112 u113 u114 u115 u116 u117 u118 u119 u120 u121 u122 u123 u124 u125 u126 u127 u128 u129 u130 u131 u132 u133 u134 : Value) (wr : World), KBox wr bs y → Below bs W2 wr → K ⟨#[.slice la l.length c, v1, u2, .slice (some ⟨g, 0, none⟩) d.length cap, .pointer (some ⟨bs, 0, none⟩), v5, v6, .int .i64 i, .int .u8 b, v9, v10, v11, u12, u13, u14, u15, u16, v17, v18, v19, v20, v21, v22, v23, v24, v25, v26, v27, v28, v29, v30, v31, v32, v33, v34, v35, v36, v37, v38, v39, v40, v41, v42, v43, v44, v45, v46, v47, v48, v49, v50, v51, v52, v53, v54, v55, v56, v57, v58, v59, v60, v61, v62, v63, v64, v65, v66, v67, v68, v69, v70, v71, v72, v73, v74, v75, v76, v77, v78, v79, v80, v81, v82, v83, v84, v85, v86, v87, v88, v89, v90, v91, v92, v93, v94, v95, v96, v97, u98, u99, u100, u101, u102, u103, u104, u105, u106, u107, u108, u109, u110, u111, u112, u113, u114, u115, u116, u117, u118, u119, u120, u121, u122, u123, u124, u125, u126, u127, u128, u129, u130, u131, u132, u133, u134, v135, v136, v137, v138, v139, v140, v141, v142], []⟩ wr) :
    (Code.loop pK2).wp Tryd.prog (Qx 4 K) ⟨#[.slice la l.length c, v1, u2, .slice (some ⟨g, 0, none⟩) d.length cap, .pointer (some ⟨bs, 0, none⟩), v5, v6, .int .i64 i, .int .u8 b, v9, v10, v11, .int .i64 0, u13, u14, u15, u16, v17, v18, v19, v20, v21, v22, v23, v24, v25, v26, v27, v28, v29, v30, v31, v32, v33, v34, v35, v36, v37, v38, v39, v40, v41, v42, v43, v44, v45, v46, v47, v48, v49, v50, v51, v52, v53, v54, v55, v56, v57, v58, v59, v60, v61, v62, v63, v64, v65, v66, v67, v68, v69, v70, v71, v72, v73, v74, v75, v76, v77, v78, v79, v80, v81, v82, v83, v84, v85, v86, v87, v88, v89, v90, v91, v92, v93, v94, v95, v96, v97, u98, u99, u100, u101, u102, u103, u104, u105, u106, u107, u108, u109, u110, u111, u112, u113, u114, u115, u116, u117, u118, u119, u120, u121, u122, u123, u124, u125, u126, u127, u128, u129, u130, u131, u132, u133, u134, v135, v136, v137, v138, v139, v140, v141, v142], []⟩ wr := by
  dsimp only at hQ ⊢
  conv => arg 2; arg 1; whnf
  obtain ⟨wo, rfl⟩ : ∃ wo : World, wo = wr := ⟨_, rfl⟩
  go_loopw [12] (fun vk wr => ∃ k : Nat, k ≤ i ∧ vk = .int .i64 k ∧ KBox wr bs y ∧ Below bs W2 wr) (fun vk _ => i - (intOf vk).toNat)
  case atStart => exact ⟨0, Nat.zero_le _, rfl, hSd, hBd⟩
  case round =>
    obtain ⟨k, hk, rfl, hS, hB⟩ := hrel
    by_cases hki : k < i
    · have hkd : k < d.length := by omega
      have HRK : Hid (∀ W, Below bs W2 W → KAt W g (k * 4) d[k]) := fun W hW => by
        have := (hdr2.out.below hW hg2).c4 hkd
        rwa [Nat.zero_add] at this
      have HAK : Hid (∃ m, ∃ hm : m < l.length, l[m].has b ≠ l[m].has (d[k]'hkd).low) := hap.out k hki
      have HNK := Lib.hid (hne.out k hkd)
      generalize d[k] = z at HRK HAK HNK
      have hk0 : (0 : Int) ≤ (k : Int) := by omega
      have hk1 : (k : Int) < (d.length : Int) := by omega
      have hki1 : (k : Int) < (i : Int) := by omega
      have hlk := Lib.hid (fun W (h1 : 0 < W.heap.size) (h2 : TabAt W) => least_k z W h1 h2)
      have hzl := z.low_lt
      go_wp2_with fail
      obtain ⟨wp, rfl⟩ : ∃ wp : World, wp = wr := ⟨_, rfl⟩
      go_loopw [13, 14] (fun va vj wr => ∃ j : Nat, j ≤ l.length ∧ vj = .int .i64 j ∧ va = .bool ((l.take j).any fun c => c.has b != c.has z.low) ∧ KBox wr bs y ∧ Below bs W2 wr)
        (fun _ vj _ => l.length - (intOf vj).toNat)
      case atStart => exact ⟨0, Nat.zero_le _, rfl, by simp, hS, hB⟩
      case round =>
        obtain ⟨j, hj, rfl, rfl, hS, hB⟩ := hrel
        by_cases hjl : j < l.length
        · obtain ⟨B, off, hla, hBl, hRow⟩ := hL2.out (by intro e; subst e; cases hjl)
          subst hla
          have hany : (l.take (j + 1)).any (fun c => c.has b != c.has z.low) = ((l.take j).any (fun c => c.has b != c.has z.low) || (l[j].has b != l[j].has z.low)) := by
            rw [List.take_succ_eq_append_getElem hjl, List.any_append]; simp
          have HANY := Lib.hid hany
          clear hany
          have HRC : Hid (∀ W, Below bs W2 W → KAt W B (off + j * 4) l[j]) := fun W hW => (hRow.below hW hBl).c4 hjl
          generalize l[j] = cj at HANY HRC
          generalize (l.take j).any (fun c => c.has b != c.has z.low) = ap at *
          have hx := HRK.out wr hB
          obtain ⟨x0, x1, x2, x3⟩ := id hx
          have hltS : bs < wr.heap.size := hS.lt
          have hj0 : (0 : Int) ≤ (j : Int) := by omega
          have hj1 : (j : Int) < (l.length : Int) := by omega
          have hjn : (j : Int) < ((l.length : Nat) : Int) := by omega
          go_wp2_with fail
          refine (hlk.out _ (by omega) (hT2.out.below (hbs.out ▸ hB) (by omega))).mono ?_
          rintro e Wa ⟨rfl, hBa⟩
          replace hBa := hBa.1
          have hBA : Below bs W2 Wa := hB.trans (hBa.mono (by omega))
          have hSA := hS.below hBa hltS
          have hltA : bs < Wa.heap.size := hSA.lt
          have hcA := HRC.out Wa hBA
          clear x0 x1 x2 x3 hx
          cases ap with
          | true =>
            go_wp2_with fail
            refine region_below (by kernel_rfl) (by kernel_rfl) ?_
            repeat (go_big_quiet_step (fail))
            refine wpQuiet_nil ?_
            rintro _ ⟨p, rfl⟩
            have hSp := hSA.below p.h hltA
            have hBp := hBA.trans (p.h.mono (by omega))
            go_wp2_with fail
            go_roundw
            case rel => exact ⟨j + 1, by omega, by simp, by rw [HANY.out]; rfl, hSp, hBp⟩
            case measure => simp [intOf]; omega
          | false =>
            obtain ⟨c0, c1, c2, c3⟩ := hcA.all (by omega)
            have hh1 := has_k cj b hb
            have hh2 := has_k cj z.low hzl
            go_wp2_with fail
            refine region_below (by kernel_rfl) (by kernel_rfl) ?_
            repeat (go_big_quiet_step (first | (go_at_call 15; first | with_reducible exact Calls.below_of (hh1 _) | with_reducible exact Calls.below_of (hh2 _))))
            refine wpQuiet_nil ?_
            rintro _ ⟨p, rfl⟩
            have hSp := hSA.below p.h hltA
            have hBp := hBA.trans (p.h.mono (by omega))
            go_wp2_with fail
            go_roundw
            case rel => exact ⟨j + 1, by omega, by simp, by rw [HANY.out]; rfl, hSp, hBp⟩
            case measure => simp [intOf]; omega
        · obtain rfl : j = l.length := by omega
          have hall : (l.take l.length).any (fun c => c.has b != c.has z.low) = true := by
            obtain ⟨m, hm, hne⟩ := HAK.out
            rw [List.take_length]
            exact List.any_eq_true.2 ⟨l[m], List.getElem_mem hm, by simpa using hne⟩
          rw [hall]
          clear hall
          go_wp2_with fail
          go_roundw
          case rel => exact ⟨k + 1, by omega, by simp, hS, hB⟩
          case measure => simp [intOf]; omega
    · obtain rfl : k = i := by omega
      go_wp2_with fail
      exact ⟨rfl, hQ _ _ _ _ _ _ _ _ _ _ _ _ _ _ _ _ _ _ _ _ _ _ _ _ _ _ _ _ _ _ _ _ _ _ _ _ _ _ _ _ _ _ _ _ hS hB⟩
end Go.Proofs.YtjaabolpdelbiaaDoor
