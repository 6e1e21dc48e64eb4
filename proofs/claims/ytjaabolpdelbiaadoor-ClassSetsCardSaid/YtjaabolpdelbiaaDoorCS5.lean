/- ClassSets: its loops. -/
import Derived.Test.YtjaabolpdelbiaaDoorCS4
namespace Go.Proofs.YtjaabolpdelbiaaDoor
open Go Go.Proofs Go.RowKit
/-- A piece, by its run. -/
theorem pcPiece {L : List (Option AX.Ans)} {asm : AX.T AX.AV} {c : Code} {slots : List Nat} {fr : AX.Fr} {hp : AX.Hp} {nx : Nat} {tag : Nat} {vs : List AX.AV} {nx' : Nat} {hp' : AX.Hp} {pr : AX.Pr} {σ : AX.Sig} {a : Act} {w : World}
    (h1 : AX.gVal (pc L asm c slots fr hp nx) = some (.tup (.gptr tag 0 :: vs))) (h2 : AX.gNx (pc L asm c slots fr hp nx) = some nx') (h3 : AX.gCalls (pc L asm c slots fr hp nx) = AX.gWant (pc L asm c slots fr hp nx)) (h4 : AX.gVals (pc L asm c slots fr hp nx) = AX.gAsm (pc L asm c slots fr hp nx))
    (h5 : AX.gHp (pc L asm c slots fr hp nx) = hp') (hL : ∀ x, some x ∈ L → AX.AnsOk cx x) (hg : AX.GlOk cx pr) (hsl : ∀ t ∈ slots, t < 133) (m : AX.Mid pr σ 133 fr hp nx a w) :
    c.wpIn (AX.FF none) 0 Tryd.prog (fun e a' w' => e = AX.exitOf tag ∧ ∃ τ, AX.Ext σ τ nx nx' ∧ AX.Mid pr τ 133 (AX.frOf slots vs) hp' nx' a' w') a w := by
  subst h5
  exact AX.piece (C := cx) pOk extOk hL hg (r := pc L asm c slots fr hp nx) rfl h1 h2 h3 h4 hsl m
theorem wadd1 (i : Nat) (hi : i ≤ 1000000) : AX.wrapA .i64 (AX.addA (i : Nat) 1) = ((i + 1 : Nat) : Int) := by
  rw [AX.wrapA_eq, AX.addA_eq, IntKind.wrap_i64]; omega
theorem wu8 (i : Nat) (hi : i < 256) : AX.wrapA .u8 (i : Nat) = ((i : Nat) : Int) := by
  rw [AX.wrapA_eq]; simp [IntKind.wrap, IntKind.signed, IntKind.bits]; omega
theorem wquo (i q : Nat) (hi : i < 256) (hq : i / 64 = q) : AX.quoA .i64 (i : Nat) 64 = ((q : Nat) : Int) := by
  rw [AX.quoA_eq, Int.tdiv_eq_ediv_of_nonneg (by omega), IntKind.wrap_i64]; omega
theorem wrem (i r : Nat) (hi : i < 256) (hr : i % 64 = r) : AX.wrapA .u64 (AX.remA (i : Nat) 64) = ((r : Nat) : Int) := by
  rw [AX.wrapA_eq, AX.remA_eq, Int.tmod_eq_emod_of_nonneg (by omega), IntKind.wrap_u64]; omega
theorem wlt256 (i : Nat) (hi : i < 256) : AX.ltI (i : Nat) 256 = true := by rw [AX.ltI_eq]; simp; omega
theorem wbit (a r : Nat) (ha : a < 18446744073709551616) (hr : r < 64) : AX.eqI (bits .and .u64 (AX.shrA .u64 (a : Nat) r) 1) 1 = a.testBit r := by
  have e : AX.shrA .u64 (a : Nat) r = ((a / 2 ^ r : Nat) : Int) := by
    show Int.ofNat (Nat.div a (Nat.pow 2 (Nat.min r 64))) = _
    have : Nat.min r 64 = r := Nat.min_eq_left (by omega)
    rw [this]
    rfl
  have hl : a / 2 ^ r < 18446744073709551616 := Nat.lt_of_le_of_lt (Nat.div_le_self _ _) ha
  have e2 : (a / 2 ^ r) &&& 1 = a / 2 ^ r % 2 := Nat.and_one_is_mod _
  rw [e, show ((1 : Int)) = ((1 : Nat) : Int) from rfl, bits_and_u64_nat _ 1 hl (by decide), AX.eqI_eq, e2, Nat.testBit_eq_decide_div_mod_eq]
  generalize a / 2 ^ r = k at *
  rw [Bool.eq_iff_iff]
  simp
  omega
section
variable {a0 a1 a2 a3 b0 b1 b2 b3 : Nat}
theorem cnt_succ (i : Nat) : (upB a0 a1 a2 a3 (i + 1)).length = if hasB a0 a1 a2 a3 i then (upB a0 a1 a2 a3 i).length + 1 else (upB a0 a1 a2 a3 i).length := by
  rw [upB_succ, List.length_append]
  split <;> rfl
variable {w : World} {σ : AX.Sig} {pr : AX.Pr} {a : Act}
theorem hasN (i : Nat) (hi : i < 256) : hasB (nw a0) (nw a1) (nw a2) (nw a3) i = !hasB a0 a1 a2 a3 i := by
  unfold hasB
  have e : wd (nw a0) (nw a1) (nw a2) (nw a3) (i / 64) = nw (wd a0 a1 a2 a3 (i / 64)) := by unfold wd; split; rfl; split; rfl; split <;> rfl
  rw [e, nw_bit _ _ (by omega)]
/-- The five answers of a round. -/
theorem rnd_L (ha : wlt a0 a1 a2 a3) (hb : wlt b0 b1 b2 b3) (i : Nat) (hi : i < 256) {x y : Bool} (hx : hasB a0 a1 a2 a3 i = x) (hy : hasB b0 b1 b2 b3 i = y) {u m n : Bool} (hu : (x || y) = u) (hm : (x && y) = m) (hn : (!x) = n) :
    ∀ z, some z ∈ pad 9 [some (15, [cA a0 a1 a2 a3, .int .u8 (i : Nat)], .bool x), some (15, [cA b0 b1 b2 b3, .int .u8 (i : Nat)], .bool y), some (15, [cU a0 a1 a2 a3 b0 b1 b2 b3, .int .u8 (i : Nat)], .bool u), some (15, [cM a0 a1 a2 a3 b0 b1 b2 b3, .int .u8 (i : Nat)], .bool m), some (15, [cN a0 a1 a2 a3, .int .u8 (i : Nat)], .bool n)] → AX.AnsOk cx z := by
  intro z hz
  simp only [pad, List.mem_cons, reduceCtorEq, false_or, Option.some.injEq, List.not_mem_nil, or_false] at hz
  rcases hz with rfl | rfl | rfl | rfl | rfl
  · exact ans_has _ _ _ _ ha hi hx
  · exact ans_has _ _ _ _ hb hi hy
  · exact ans_has _ _ _ _ (wlt_or ha hb) hi (by rw [hasB_or, hx, hy, hu])
  · exact ans_has _ _ _ _ (wlt_and hb) hi (by rw [hasB_and, hx, hy, hm])
  · exact ans_has _ _ _ _ (wlt_nw ha) hi (by rw [hasN i hi, hx, hn])
theorem sl1 : ∀ t ∈ s1, t < 133 := by
  intro t ht
  simp only [s1, List.mem_cons, List.not_mem_nil, or_false] at ht
  omega
/-- A round of the first loop. -/
theorem round1 (ha : wlt a0 a1 a2 a3) (hb : wlt b0 b1 b2 b3) (hg : AX.GlOk cx pr) (i : Nat) (hi : i < 256) (m : AX.Mid pr σ 133 (AX.frOf s1 (v1 ((upB a0 a1 a2 a3 i).length : Nat) i)) (hp3 a0 a1 a2 a3 b0 b1 b2 b3) 9 a w) :
    pB1.wpIn (AX.FF none) 0 Tryd.prog (fun e a' w' => e = .normal ∧ ∃ τ, AX.Ext σ τ 9 14 ∧ AX.Mid pr τ 133 (AX.frOf s1 (v1 ((upB a0 a1 a2 a3 (i + 1)).length : Nat) (i + 1 : Nat))) (hp3 a0 a1 a2 a3 b0 b1 b2 b3) 14 a' w') a w := by
  have hn := upB_len a0 a1 a2 a3 i
  have hs := cnt_succ (a0 := a0) (a1 := a1) (a2 := a2) (a3 := a3) i
  generalize (upB a0 a1 a2 a3 i).length = n at m hn hs
  obtain ⟨r, hr⟩ : ∃ r, i % 64 = r := ⟨_, rfl⟩
  have hr64 : r < 64 := by omega
  have e1 := wadd1 i (by omega)
  have e2 := wadd1 n (by omega)
  have e3 := wu8 i hi
  have e4 := wrem i r hi hr
  have e5 := wlt256 i hi
  have hq : i / 64 = 0 ∨ i / 64 = 1 ∨ i / 64 = 2 ∨ i / 64 = 3 := by omega
  cases hx : hasB a0 a1 a2 a3 i <;> cases hy : hasB b0 b1 b2 b3 i
  · rcases hq with hq | hq | hq | hq
    · have e6 := wquo i 0 hi hq
      have e7 := wbit a0 r (ha 0) hr64
      have e8 : a0.testBit r = false := by rw [← hx]; unfold hasB; rw [hq, hr]; rfl
      rw [e8] at e7
      refine wpIn_mono (pcPiece (it000_val a0 a1 a2 a3 b0 b1 b2 b3 n i r) (it000_nx ..) (it000_calls ..) ((it000_vals ..).trans (Eq.trans ?_ (it000_asm ..).symm)) (it000_hp ..) (rnd_L ha hb i hi hx hy (u := false) (m := false) (n := true) rfl rfl rfl) hg sl1 m) ?_
      · rw [e1, e7, e4, e6, e3, e5]
        rfl
      · rintro e a' w' ⟨rfl, τ, h1, h2⟩
        rw [hs, hx]
        exact ⟨rfl, τ, h1, h2⟩
    · have e6 := wquo i 1 hi hq
      have e7 := wbit a1 r (ha 1) hr64
      have e8 : a1.testBit r = false := by rw [← hx]; unfold hasB; rw [hq, hr]; rfl
      rw [e8] at e7
      refine wpIn_mono (pcPiece (it100_val a0 a1 a2 a3 b0 b1 b2 b3 n i r) (it100_nx ..) (it100_calls ..) ((it100_vals ..).trans (Eq.trans ?_ (it100_asm ..).symm)) (it100_hp ..) (rnd_L ha hb i hi hx hy (u := false) (m := false) (n := true) rfl rfl rfl) hg sl1 m) ?_
      · rw [e1, e7, e4, e6, e3, e5]
        rfl
      · rintro e a' w' ⟨rfl, τ, h1, h2⟩
        rw [hs, hx]
        exact ⟨rfl, τ, h1, h2⟩
    · have e6 := wquo i 2 hi hq
      have e7 := wbit a2 r (ha 2) hr64
      have e8 : a2.testBit r = false := by rw [← hx]; unfold hasB; rw [hq, hr]; rfl
      rw [e8] at e7
      refine wpIn_mono (pcPiece (it200_val a0 a1 a2 a3 b0 b1 b2 b3 n i r) (it200_nx ..) (it200_calls ..) ((it200_vals ..).trans (Eq.trans ?_ (it200_asm ..).symm)) (it200_hp ..) (rnd_L ha hb i hi hx hy (u := false) (m := false) (n := true) rfl rfl rfl) hg sl1 m) ?_
      · rw [e1, e7, e4, e6, e3, e5]
        rfl
      · rintro e a' w' ⟨rfl, τ, h1, h2⟩
        rw [hs, hx]
        exact ⟨rfl, τ, h1, h2⟩
    · have e6 := wquo i 3 hi hq
      have e7 := wbit a3 r (ha 3) hr64
      have e8 : a3.testBit r = false := by rw [← hx]; unfold hasB; rw [hq, hr]; rfl
      rw [e8] at e7
      refine wpIn_mono (pcPiece (it300_val a0 a1 a2 a3 b0 b1 b2 b3 n i r) (it300_nx ..) (it300_calls ..) ((it300_vals ..).trans (Eq.trans ?_ (it300_asm ..).symm)) (it300_hp ..) (rnd_L ha hb i hi hx hy (u := false) (m := false) (n := true) rfl rfl rfl) hg sl1 m) ?_
      · rw [e1, e7, e4, e6, e3, e5]
        rfl
      · rintro e a' w' ⟨rfl, τ, h1, h2⟩
        rw [hs, hx]
        exact ⟨rfl, τ, h1, h2⟩
  · rcases hq with hq | hq | hq | hq
    · have e6 := wquo i 0 hi hq
      have e7 := wbit a0 r (ha 0) hr64
      have e8 : a0.testBit r = false := by rw [← hx]; unfold hasB; rw [hq, hr]; rfl
      rw [e8] at e7
      refine wpIn_mono (pcPiece (it001_val a0 a1 a2 a3 b0 b1 b2 b3 n i r) (it001_nx ..) (it001_calls ..) ((it001_vals ..).trans (Eq.trans ?_ (it001_asm ..).symm)) (it001_hp ..) (rnd_L ha hb i hi hx hy (u := true) (m := false) (n := true) rfl rfl rfl) hg sl1 m) ?_
      · rw [e1, e7, e4, e6, e3, e5]
        rfl
      · rintro e a' w' ⟨rfl, τ, h1, h2⟩
        rw [hs, hx]
        exact ⟨rfl, τ, h1, h2⟩
    · have e6 := wquo i 1 hi hq
      have e7 := wbit a1 r (ha 1) hr64
      have e8 : a1.testBit r = false := by rw [← hx]; unfold hasB; rw [hq, hr]; rfl
      rw [e8] at e7
      refine wpIn_mono (pcPiece (it101_val a0 a1 a2 a3 b0 b1 b2 b3 n i r) (it101_nx ..) (it101_calls ..) ((it101_vals ..).trans (Eq.trans ?_ (it101_asm ..).symm)) (it101_hp ..) (rnd_L ha hb i hi hx hy (u := true) (m := false) (n := true) rfl rfl rfl) hg sl1 m) ?_
      · rw [e1, e7, e4, e6, e3, e5]
        rfl
      · rintro e a' w' ⟨rfl, τ, h1, h2⟩
        rw [hs, hx]
        exact ⟨rfl, τ, h1, h2⟩
    · have e6 := wquo i 2 hi hq
      have e7 := wbit a2 r (ha 2) hr64
      have e8 : a2.testBit r = false := by rw [← hx]; unfold hasB; rw [hq, hr]; rfl
      rw [e8] at e7
      refine wpIn_mono (pcPiece (it201_val a0 a1 a2 a3 b0 b1 b2 b3 n i r) (it201_nx ..) (it201_calls ..) ((it201_vals ..).trans (Eq.trans ?_ (it201_asm ..).symm)) (it201_hp ..) (rnd_L ha hb i hi hx hy (u := true) (m := false) (n := true) rfl rfl rfl) hg sl1 m) ?_
      · rw [e1, e7, e4, e6, e3, e5]
        rfl
      · rintro e a' w' ⟨rfl, τ, h1, h2⟩
        rw [hs, hx]
        exact ⟨rfl, τ, h1, h2⟩
    · have e6 := wquo i 3 hi hq
      have e7 := wbit a3 r (ha 3) hr64
      have e8 : a3.testBit r = false := by rw [← hx]; unfold hasB; rw [hq, hr]; rfl
      rw [e8] at e7
      refine wpIn_mono (pcPiece (it301_val a0 a1 a2 a3 b0 b1 b2 b3 n i r) (it301_nx ..) (it301_calls ..) ((it301_vals ..).trans (Eq.trans ?_ (it301_asm ..).symm)) (it301_hp ..) (rnd_L ha hb i hi hx hy (u := true) (m := false) (n := true) rfl rfl rfl) hg sl1 m) ?_
      · rw [e1, e7, e4, e6, e3, e5]
        rfl
      · rintro e a' w' ⟨rfl, τ, h1, h2⟩
        rw [hs, hx]
        exact ⟨rfl, τ, h1, h2⟩
  · rcases hq with hq | hq | hq | hq
    · have e6 := wquo i 0 hi hq
      have e7 := wbit a0 r (ha 0) hr64
      have e8 : a0.testBit r = true := by rw [← hx]; unfold hasB; rw [hq, hr]; rfl
      rw [e8] at e7
      refine wpIn_mono (pcPiece (it010_val a0 a1 a2 a3 b0 b1 b2 b3 n i r) (it010_nx ..) (it010_calls ..) ((it010_vals ..).trans (Eq.trans ?_ (it010_asm ..).symm)) (it010_hp ..) (rnd_L ha hb i hi hx hy (u := true) (m := false) (n := false) rfl rfl rfl) hg sl1 m) ?_
      · rw [e1, e7, e4, e6, e3, e2, e5]
        rfl
      · rintro e a' w' ⟨rfl, τ, h1, h2⟩
        rw [hs, hx]
        exact ⟨rfl, τ, h1, h2⟩
    · have e6 := wquo i 1 hi hq
      have e7 := wbit a1 r (ha 1) hr64
      have e8 : a1.testBit r = true := by rw [← hx]; unfold hasB; rw [hq, hr]; rfl
      rw [e8] at e7
      refine wpIn_mono (pcPiece (it110_val a0 a1 a2 a3 b0 b1 b2 b3 n i r) (it110_nx ..) (it110_calls ..) ((it110_vals ..).trans (Eq.trans ?_ (it110_asm ..).symm)) (it110_hp ..) (rnd_L ha hb i hi hx hy (u := true) (m := false) (n := false) rfl rfl rfl) hg sl1 m) ?_
      · rw [e1, e7, e4, e6, e3, e2, e5]
        rfl
      · rintro e a' w' ⟨rfl, τ, h1, h2⟩
        rw [hs, hx]
        exact ⟨rfl, τ, h1, h2⟩
    · have e6 := wquo i 2 hi hq
      have e7 := wbit a2 r (ha 2) hr64
      have e8 : a2.testBit r = true := by rw [← hx]; unfold hasB; rw [hq, hr]; rfl
      rw [e8] at e7
      refine wpIn_mono (pcPiece (it210_val a0 a1 a2 a3 b0 b1 b2 b3 n i r) (it210_nx ..) (it210_calls ..) ((it210_vals ..).trans (Eq.trans ?_ (it210_asm ..).symm)) (it210_hp ..) (rnd_L ha hb i hi hx hy (u := true) (m := false) (n := false) rfl rfl rfl) hg sl1 m) ?_
      · rw [e1, e7, e4, e6, e3, e2, e5]
        rfl
      · rintro e a' w' ⟨rfl, τ, h1, h2⟩
        rw [hs, hx]
        exact ⟨rfl, τ, h1, h2⟩
    · have e6 := wquo i 3 hi hq
      have e7 := wbit a3 r (ha 3) hr64
      have e8 : a3.testBit r = true := by rw [← hx]; unfold hasB; rw [hq, hr]; rfl
      rw [e8] at e7
      refine wpIn_mono (pcPiece (it310_val a0 a1 a2 a3 b0 b1 b2 b3 n i r) (it310_nx ..) (it310_calls ..) ((it310_vals ..).trans (Eq.trans ?_ (it310_asm ..).symm)) (it310_hp ..) (rnd_L ha hb i hi hx hy (u := true) (m := false) (n := false) rfl rfl rfl) hg sl1 m) ?_
      · rw [e1, e7, e4, e6, e3, e2, e5]
        rfl
      · rintro e a' w' ⟨rfl, τ, h1, h2⟩
        rw [hs, hx]
        exact ⟨rfl, τ, h1, h2⟩
  · rcases hq with hq | hq | hq | hq
    · have e6 := wquo i 0 hi hq
      have e7 := wbit a0 r (ha 0) hr64
      have e8 : a0.testBit r = true := by rw [← hx]; unfold hasB; rw [hq, hr]; rfl
      rw [e8] at e7
      refine wpIn_mono (pcPiece (it011_val a0 a1 a2 a3 b0 b1 b2 b3 n i r) (it011_nx ..) (it011_calls ..) ((it011_vals ..).trans (Eq.trans ?_ (it011_asm ..).symm)) (it011_hp ..) (rnd_L ha hb i hi hx hy (u := true) (m := true) (n := false) rfl rfl rfl) hg sl1 m) ?_
      · rw [e1, e7, e4, e6, e3, e2, e5]
        rfl
      · rintro e a' w' ⟨rfl, τ, h1, h2⟩
        rw [hs, hx]
        exact ⟨rfl, τ, h1, h2⟩
    · have e6 := wquo i 1 hi hq
      have e7 := wbit a1 r (ha 1) hr64
      have e8 : a1.testBit r = true := by rw [← hx]; unfold hasB; rw [hq, hr]; rfl
      rw [e8] at e7
      refine wpIn_mono (pcPiece (it111_val a0 a1 a2 a3 b0 b1 b2 b3 n i r) (it111_nx ..) (it111_calls ..) ((it111_vals ..).trans (Eq.trans ?_ (it111_asm ..).symm)) (it111_hp ..) (rnd_L ha hb i hi hx hy (u := true) (m := true) (n := false) rfl rfl rfl) hg sl1 m) ?_
      · rw [e1, e7, e4, e6, e3, e2, e5]
        rfl
      · rintro e a' w' ⟨rfl, τ, h1, h2⟩
        rw [hs, hx]
        exact ⟨rfl, τ, h1, h2⟩
    · have e6 := wquo i 2 hi hq
      have e7 := wbit a2 r (ha 2) hr64
      have e8 : a2.testBit r = true := by rw [← hx]; unfold hasB; rw [hq, hr]; rfl
      rw [e8] at e7
      refine wpIn_mono (pcPiece (it211_val a0 a1 a2 a3 b0 b1 b2 b3 n i r) (it211_nx ..) (it211_calls ..) ((it211_vals ..).trans (Eq.trans ?_ (it211_asm ..).symm)) (it211_hp ..) (rnd_L ha hb i hi hx hy (u := true) (m := true) (n := false) rfl rfl rfl) hg sl1 m) ?_
      · rw [e1, e7, e4, e6, e3, e2, e5]
        rfl
      · rintro e a' w' ⟨rfl, τ, h1, h2⟩
        rw [hs, hx]
        exact ⟨rfl, τ, h1, h2⟩
    · have e6 := wquo i 3 hi hq
      have e7 := wbit a3 r (ha 3) hr64
      have e8 : a3.testBit r = true := by rw [← hx]; unfold hasB; rw [hq, hr]; rfl
      rw [e8] at e7
      refine wpIn_mono (pcPiece (it311_val a0 a1 a2 a3 b0 b1 b2 b3 n i r) (it311_nx ..) (it311_calls ..) ((it311_vals ..).trans (Eq.trans ?_ (it311_asm ..).symm)) (it311_hp ..) (rnd_L ha hb i hi hx hy (u := true) (m := true) (n := false) rfl rfl rfl) hg sl1 m) ?_
      · rw [e1, e7, e4, e6, e3, e2, e5]
        rfl
      · rintro e a' w' ⟨rfl, τ, h1, h2⟩
        rw [hs, hx]
        exact ⟨rfl, τ, h1, h2⟩
end
end Go.Proofs.YtjaabolpdelbiaaDoor
