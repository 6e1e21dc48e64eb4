/- Regex: RegexLaws. -/
import Derived.Test.YtpbkgegkjglibaaDoorW18
namespace Go.Proofs.YtpbkgegkjglibaaDoor
open Go Go.Proofs Go.RowKit
attribute [local go_sem] Oper.semAt_some

set_option maxRecDepth 100000 in
set_option maxHeartbeats 8000000 in
theorem laws_k {a b : List Nd} {av bv : Value} (s : ByteArray) (w : World) (hla : a.length ≤ 9223372036854775807) (hlb : b.length ≤ 9223372036854775807) (hwa : AllWd a) (hwb : AllWd b) (hRa : RRow w av a) (hRb : RRow w bv b)
    (hliv : ∀ W, Below w.heap.size w W → Calls Tryd.prog 8 #[] W fun e w' => e = .returned (.bool true) ∧ Below W.heap.size W w') :
    Calls Tryd.prog 5 #[av, bv, .string s] w fun e w' => e = .returned (.bool true) ∧ Below w.heap.size w w' := by
  have hlia := fun W (hb : Below w.heap.size w W) => light_k 25 (by decide) a av hla W (hRa.below (Nat.le_refl _) hb)
  have hlib := fun W (hb : Below w.heap.size w W) => light_k 25 (by decide) b bv hlb W (hRb.below (Nat.le_refl _) hb)
  have hca := fun W (hb : Below w.heap.size w W) (h : a.length ≤ 25) => check_k a av (by omega) W (hRa.below (Nat.le_refl _) hb)
  have hcb := fun W (hb : Below w.heap.size w W) (h : b.length ≤ 25) => check_k b bv (by omega) W (hRb.below (Nat.le_refl _) hb)
  have hb0 := Below.refl w.heap.size w
  obtain ⟨laa, na, ca, rfl⟩ := hRa.form
  obtain ⟨lab, nb, cb, rfl⟩ := hRb.form
  rw [show ((25 : Nat) : Int) = 25 from rfl] at hlia hlib
  by_cases hs : s.size ≤ 8
  case neg =>
    have hs8 : (8 : Int) < (s.size : Int) := by omega
    clear hca hcb hs
    go_enter Tryd.func5, Tryd.ntmps5
    go_wp2_with (first
      | (go_at_call 8; (with_reducible refine (hliv _ hb0).mono ?_); rintro e W1 ⟨rfl, hb1⟩)
      | (go_at_call 13; (with_reducible refine (hlia _ hb1).mono ?_); rintro e W2 ⟨⟨q, rfl, hq⟩, rfl⟩; clear hq; cases q)
      | (go_at_call 13; (with_reducible refine (hlib _ hb1).mono ?_); rintro e W2 ⟨⟨q, rfl, hq⟩, rfl⟩; clear hq; cases q))
    all_goals exact bodyPost_ret (v := .bool true) (by simp [results, Tryd.results5, go_sem]) rfl ⟨rfl, hb1⟩
  have hs8 : ¬ (8 : Int) < (s.size : Int) := by omega
  have HS8 := Lib.hid hs
  clear hs
  by_cases hoa : RxOk a
  case neg =>
    have HO : Hid (checkV a = 2) := Lib.hid (if_neg hoa)
    rw [HO.out] at hca
    clear hcb hoa
    go_enter Tryd.func5, Tryd.ntmps5
    go_wp2_with (first
      | (go_at_call 8; (with_reducible refine (hliv _ hb0).mono ?_); rintro e W1 ⟨rfl, hb1⟩)
      | (go_at_call 13; (with_reducible refine (hlia _ hb1).mono ?_); rintro e W2 ⟨⟨q, rfl, hq⟩, rfl⟩; cases q)
      | (go_at_call 13; (with_reducible refine (hlib _ hb1).mono ?_); rintro e W2 ⟨⟨q2, rfl, hq2⟩, rfl⟩; clear hq2; cases q2)
      | (go_at_call 10; (with_reducible refine (hca _ hb1 (by first | exact hq rfl | exact hq trivial | exact hq)).mono ?_); rintro e W3 ⟨rfl, hb3⟩))
    all_goals first
      | exact bodyPost_ret (v := .bool true) (by simp [results, Tryd.results5, go_sem]) rfl ⟨rfl, hb1.trans (hb3.mono hb1.size)⟩
      | exact bodyPost_ret (v := .bool true) (by simp [results, Tryd.results5, go_sem]) rfl ⟨rfl, hb1⟩
  have HOA : Hid (checkV a = 0) := Lib.hid (if_pos hoa)
  rw [HOA.out] at hca
  by_cases hob : RxOk b
  case neg =>
    have HO : Hid (checkV b = 2) := Lib.hid (if_neg hob)
    rw [HO.out] at hcb
    clear hoa hob
    go_enter Tryd.func5, Tryd.ntmps5
    go_wp2_with (first
      | (go_at_call 8; (with_reducible refine (hliv _ hb0).mono ?_); rintro e W1 ⟨rfl, hb1⟩)
      | (go_at_call 13; (with_reducible refine (hlia _ hb1).mono ?_); rintro e W2 ⟨⟨q, rfl, hq⟩, rfl⟩; cases q)
      | (go_at_call 13; (with_reducible refine (hlib _ hb1).mono ?_); rintro e W2 ⟨⟨q2, rfl, hq2⟩, rfl⟩; cases q2)
      | (go_at_call 10; (with_reducible refine (hca _ hb1 (by first | exact hq rfl | exact hq trivial | exact hq)).mono ?_); rintro e W3 ⟨rfl, hb3⟩; have hb3' := hb1.trans (hb3.mono hb1.size))
      | (go_at_call 10; (with_reducible refine (hcb _ hb3' (by first | exact hq2 rfl | exact hq2 trivial | exact hq2)).mono ?_); rintro e W4 ⟨rfl, hb4⟩))
    all_goals first
      | exact bodyPost_ret (v := .bool true) (by simp [results, Tryd.results5, go_sem]) rfl ⟨rfl, hb3'.trans (hb4.mono hb3'.size)⟩
      | exact bodyPost_ret (v := .bool true) (by simp [results, Tryd.results5, go_sem]) rfl ⟨rfl, hb1⟩
  have HOB : Hid (checkV b = 0) := Lib.hid (if_pos hob)
  rw [HOB.out] at hcb
  have HKA := Lib.hid hoa
  have HKB := Lib.hid hob
  clear hoa hob
  go_enter Tryd.func5, Tryd.ntmps5
  go_wp2_with (first
    | (go_at_call 8; (with_reducible refine (hliv _ hb0).mono ?_); rintro e W1 ⟨rfl, hb1⟩)
    | (go_at_call 13; (with_reducible refine (hlia _ hb1).mono ?_); rintro e W2 ⟨⟨q, rfl, hq⟩, rfl⟩; cases q)
    | (go_at_call 13; (with_reducible refine (hlib _ hb1).mono ?_); rintro e W2 ⟨⟨q2, rfl, hq2⟩, rfl⟩; cases q2)
    | (go_at_call 10; (with_reducible refine (hca _ hb1 (by first | exact hq rfl | exact hq trivial | exact hq)).mono ?_); rintro e W3 ⟨rfl, hb3⟩; have hb3' := hb1.trans (hb3.mono hb1.size))
    | (go_at_call 10; (with_reducible refine (hcb _ hb3' (by first | exact hq2 rfl | exact hq2 trivial | exact hq2)).mono ?_); rintro e W4 ⟨rfl, hb4'⟩; have hb4 := hb3'.trans (hb4'.mono hb3'.size); clear hb4'))
  all_goals first
    | exact bodyPost_ret (v := .bool true) (by simp [results, Tryd.results5, go_sem]) rfl ⟨rfl, hb1⟩
    | skip
  have hA : RRow W4 (.slice laa na ca) a := hRa.below (Nat.le_refl _) hb4
  have hB : RRow W4 (.slice lab nb cb) b := hRb.below (Nat.le_refl _) hb4
  have HLA := Lib.hid (show a.length ≤ 25 by first | exact hq rfl | exact hq trivial | exact hq)
  have HLB := Lib.hid (show b.length ≤ 25 by first | exact hq2 rfl | exact hq2 trivial | exact hq2)
  have hs1000 : s.size ≤ 1000 := by have := HS8.out; omega
  have hoa := HKA.out
  have hob := HKB.out
  clear hlia hlib hca hcb hliv hRa hRb hq hq2 hb3 hb3' hb1 HOA HOB
  have hw4 := Below.refl W4.heap.size W4
  go_wp2_with (go_at_call 12; (with_reducible refine (join1_k 5 hoa _ hA).mono ?_); rintro e W5 ⟨⟨vS, rfl, hS⟩, hc5⟩; obtain ⟨laS, nS, cS, rfl⟩ := hS.form)
  have hw5 := hw4.trans (hc5.mono hw4.size)
  replace hA := hA.below (Nat.le_refl _) hc5
  replace hB := hB.below (Nat.le_refl _) hc5
  have oS : RxOk (joinV 5 [a]) := ok_one hoa (by have := HLA.out; have := HLB.out; omega) (by decide)
  have dS : AllWd (joinV 5 [a]) := one_wd hwa
  obtain ⟨B1, hB1⟩ : ∃ x, matchV (joinV 5 [a]) (bytesOf s) = x := ⟨_, rfl⟩
  obtain ⟨B2, hB2⟩ : ∃ x, matchV (joinV 6 [a]) (bytesOf s) = x := ⟨_, rfl⟩
  obtain ⟨B3, hB3⟩ : ∃ x, matchV (joinV 4 [b, a]) (bytesOf s) = x := ⟨_, rfl⟩
  obtain ⟨B4, hB4⟩ : ∃ x, matchV a (bytesOf s) = x := ⟨_, rfl⟩
  have HB1 := Lib.hid hB1
  clear hB1
  have HB2 := Lib.hid hB2
  clear hB2
  have HB3 := Lib.hid hB3
  clear hB3
  have HB4 := Lib.hid hB4
  clear hB4
  go_wp2_with (go_at_call 17; (with_reducible refine (match_k oS dS s hs1000 _ hS HB1.out).mono ?_); rintro e W6 ⟨rfl, hc6⟩)
  have hw6 := hw5.trans (hc6.mono hw5.size)
  replace hA := hA.below (Nat.le_refl _) hc6
  replace hB := hB.below (Nat.le_refl _) hc6
  replace hS := hS.below (Nat.le_refl _) hc6
  go_wp2_with (go_at_call 12; (with_reducible refine (join1_k 5 oS _ hS).mono ?_); rintro e W7 ⟨⟨vT, rfl, hT⟩, hc7⟩; obtain ⟨laT, nT, cT, rfl⟩ := hT.form)
  have hw7 := hw6.trans (hc7.mono hw6.size)
  replace hA := hA.below (Nat.le_refl _) hc7
  replace hB := hB.below (Nat.le_refl _) hc7
  replace hS := hS.below (Nat.le_refl _) hc7
  have oT : RxOk (joinV 5 [(joinV 5 [a])]) := ok_one oS (by have := HLA.out; have := HLB.out; simp only [one_len]; omega) (by decide)
  have dT : AllWd (joinV 5 [(joinV 5 [a])]) := one_wd dS
  go_wp2_with (go_at_call 17; (with_reducible refine (match_k oT dT s hs1000 _ hT ((law_star hoa (by have := HLA.out; have := HLB.out; omega)).trans HB1.out)).mono ?_); rintro e W8 ⟨rfl, hc8⟩)
  have hw8 := hw7.trans (hc8.mono hw7.size)
  replace hA := hA.below (Nat.le_refl _) hc8
  replace hB := hB.below (Nat.le_refl _) hc8
  replace hS := hS.below (Nat.le_refl _) hc8
  replace hT := hT.below (Nat.le_refl _) hc8
  clear hT
  go_wp2_with (go_at_call 12; (with_reducible refine (join2_k 3 hoa oS _ hA hS).mono ?_); rintro e W9 ⟨⟨vU, rfl, hU⟩, hc9⟩; obtain ⟨laU, nU, cU, rfl⟩ := hU.form)
  have hw9 := hw8.trans (hc9.mono hw8.size)
  replace hA := hA.below (Nat.le_refl _) hc9
  replace hB := hB.below (Nat.le_refl _) hc9
  replace hS := hS.below (Nat.le_refl _) hc9
  have oU : RxOk (joinV 3 [a, (joinV 5 [a])]) := ok_two hoa oS (by have := HLA.out; have := HLB.out; simp only [one_len]; omega) (by decide)
  have dU : AllWd (joinV 3 [a, (joinV 5 [a])]) := two_wd hwa dS
  go_wp2_with (go_at_call 17; (with_reducible refine (match_k oU dU s hs1000 _ hU ((law_plus hoa (by have := HLA.out; have := HLB.out; omega)).trans HB2.out)).mono ?_); rintro e W10 ⟨rfl, hc10⟩)
  have hw10 := hw9.trans (hc10.mono hw9.size)
  replace hA := hA.below (Nat.le_refl _) hc10
  replace hB := hB.below (Nat.le_refl _) hc10
  replace hS := hS.below (Nat.le_refl _) hc10
  replace hU := hU.below (Nat.le_refl _) hc10
  clear hU
  go_wp2_with (go_at_call 12; (with_reducible refine (join1_k 6 hoa _ hA).mono ?_); rintro e W11 ⟨⟨vP, rfl, hP⟩, hc11⟩; obtain ⟨laP, nP, cP, rfl⟩ := hP.form)
  have hw11 := hw10.trans (hc11.mono hw10.size)
  replace hA := hA.below (Nat.le_refl _) hc11
  replace hB := hB.below (Nat.le_refl _) hc11
  replace hS := hS.below (Nat.le_refl _) hc11
  have oP : RxOk (joinV 6 [a]) := ok_one hoa (by have := HLA.out; have := HLB.out; omega) (by decide)
  have dP : AllWd (joinV 6 [a]) := one_wd hwa
  go_wp2_with (go_at_call 17; (with_reducible refine (match_k oP dP s hs1000 _ hP HB2.out).mono ?_); rintro e W12 ⟨rfl, hc12⟩)
  have hw12 := hw11.trans (hc12.mono hw11.size)
  replace hA := hA.below (Nat.le_refl _) hc12
  replace hB := hB.below (Nat.le_refl _) hc12
  replace hS := hS.below (Nat.le_refl _) hc12
  replace hP := hP.below (Nat.le_refl _) hc12
  clear hP
  go_wp2_with (go_at_call 12; (with_reducible refine (join1_k 6 hoa _ hA).mono ?_); rintro e W13 ⟨⟨vQ, rfl, hQ⟩, hc13⟩; obtain ⟨laQ, nQ, cQ, rfl⟩ := hQ.form)
  have hw13 := hw12.trans (hc13.mono hw12.size)
  replace hA := hA.below (Nat.le_refl _) hc13
  replace hB := hB.below (Nat.le_refl _) hc13
  replace hS := hS.below (Nat.le_refl _) hc13
  have oQ : RxOk (joinV 6 [a]) := ok_one hoa (by have := HLA.out; have := HLB.out; omega) (by decide)
  have dQ : AllWd (joinV 6 [a]) := one_wd hwa
  go_wp2_with (go_at_call 12; (with_reducible refine (join1_k 7 oQ _ hQ).mono ?_); rintro e W14 ⟨⟨vM, rfl, hM⟩, hc14⟩; obtain ⟨laM, nM, cM, rfl⟩ := hM.form)
  have hw14 := hw13.trans (hc14.mono hw13.size)
  replace hA := hA.below (Nat.le_refl _) hc14
  replace hB := hB.below (Nat.le_refl _) hc14
  replace hS := hS.below (Nat.le_refl _) hc14
  replace hQ := hQ.below (Nat.le_refl _) hc14
  have oM : RxOk (joinV 7 [(joinV 6 [a])]) := ok_one oQ (by have := HLA.out; have := HLB.out; simp only [one_len]; omega) (by decide)
  have dM : AllWd (joinV 7 [(joinV 6 [a])]) := one_wd dQ
  go_wp2_with (go_at_call 17; (with_reducible refine (match_k oM dM s hs1000 _ hM ((law_maybe hoa (by have := HLA.out; have := HLB.out; omega)).trans HB1.out)).mono ?_); rintro e W15 ⟨rfl, hc15⟩)
  have hw15 := hw14.trans (hc15.mono hw14.size)
  replace hA := hA.below (Nat.le_refl _) hc15
  replace hB := hB.below (Nat.le_refl _) hc15
  replace hS := hS.below (Nat.le_refl _) hc15
  replace hQ := hQ.below (Nat.le_refl _) hc15
  replace hM := hM.below (Nat.le_refl _) hc15
  clear hQ
  clear hM
  clear hS
  go_wp2_with (go_at_call 12; (with_reducible refine (join2_k 4 hoa hob _ hA hB).mono ?_); rintro e W16 ⟨⟨vX, rfl, hX⟩, hc16⟩; obtain ⟨laX, nX, cX, rfl⟩ := hX.form)
  have hw16 := hw15.trans (hc16.mono hw15.size)
  replace hA := hA.below (Nat.le_refl _) hc16
  replace hB := hB.below (Nat.le_refl _) hc16
  have oX : RxOk (joinV 4 [a, b]) := ok_two hoa hob (by have := HLA.out; have := HLB.out; omega) (by decide)
  have dX : AllWd (joinV 4 [a, b]) := two_wd hwa hwb
  go_wp2_with (go_at_call 17; (with_reducible refine (match_k oX dX s hs1000 _ hX ((law_alt hoa hob (by have := HLA.out; have := HLB.out; omega)).trans HB3.out)).mono ?_); rintro e W17 ⟨rfl, hc17⟩)
  have hw17 := hw16.trans (hc17.mono hw16.size)
  replace hA := hA.below (Nat.le_refl _) hc17
  replace hB := hB.below (Nat.le_refl _) hc17
  replace hX := hX.below (Nat.le_refl _) hc17
  clear hX
  go_wp2_with (go_at_call 12; (with_reducible refine (join2_k 4 hob hoa _ hB hA).mono ?_); rintro e W18 ⟨⟨vY, rfl, hY⟩, hc18⟩; obtain ⟨laY, nY, cY, rfl⟩ := hY.form)
  have hw18 := hw17.trans (hc18.mono hw17.size)
  replace hA := hA.below (Nat.le_refl _) hc18
  replace hB := hB.below (Nat.le_refl _) hc18
  have oY : RxOk (joinV 4 [b, a]) := ok_two hob hoa (by have := HLA.out; have := HLB.out; omega) (by decide)
  have dY : AllWd (joinV 4 [b, a]) := two_wd hwb hwa
  go_wp2_with (go_at_call 17; (with_reducible refine (match_k oY dY s hs1000 _ hY HB3.out).mono ?_); rintro e W19 ⟨rfl, hc19⟩)
  have hw19 := hw18.trans (hc19.mono hw18.size)
  replace hA := hA.below (Nat.le_refl _) hc19
  replace hB := hB.below (Nat.le_refl _) hc19
  replace hY := hY.below (Nat.le_refl _) hc19
  clear hY
  have hE : RRow _ _ emptyR := lit_row W19 1
  have hc19l : Below W19.heap.size W19 (W19.alloc (.cells #[.int .i64 1, .int .u64 0, .int .u64 0, .int .u64 0, .int .u64 0, .slice none 0 0] 45)) := (Below.refl _ _).alloc (Nat.le_refl _) _
  have hw19l := hw19.trans (hc19l.mono hw19.size)
  have hA19 := hA.below (Nat.le_refl _) hc19l
  have dE : AllWd emptyR := fun x hx => by rw [List.mem_singleton.1 hx]; exact zero_wd _ _
  have hj20 := join2_k 3 ok_empty hoa _ hE hA19
  simp only [World.size_alloc] at hj20
  go_wp2_with (go_at_call 12; (with_reducible refine hj20.mono ?_); rintro e W20 ⟨⟨vZE, rfl, hZE⟩, hc20'⟩; obtain ⟨laZE, nZE, cZE, rfl⟩ := hZE.form)
  have hc20 : Below (W19.alloc (.cells #[.int .i64 1, .int .u64 0, .int .u64 0, .int .u64 0, .int .u64 0, .slice none 0 0] 45)).heap.size (W19.alloc (.cells #[.int .i64 1, .int .u64 0, .int .u64 0, .int .u64 0, .int .u64 0, .slice none 0 0] 45)) W20 := by rw [World.size_alloc]; exact hc20'
  have hw20 := hw19l.trans (hc20.mono hw19l.size)
  replace hA := hA19.below (Nat.le_refl _) hc20
  clear hE hA19 hj20 hc20'
  have oZE : RxOk (joinV 3 [emptyR, a]) := ok_two ok_empty hoa (by have := HLA.out; simp only [emptyR, List.length_singleton]; omega) (by decide)
  have dZE : AllWd (joinV 3 [emptyR, a]) := two_wd dE hwa
  clear hB
  go_wp2_with (go_at_call 17; (with_reducible refine (match_k oZE dZE s hs1000 _ hZE ((law_empty hoa (by have := HLA.out; have := HLB.out; omega)).trans HB4.out)).mono ?_); rintro e W21 ⟨rfl, hc21⟩)
  have hw21 := hw20.trans (hc21.mono hw20.size)
  replace hA := hA.below (Nat.le_refl _) hc21
  replace hZE := hZE.below (Nat.le_refl _) hc21
  clear hZE
  go_wp2_with (go_at_call 17; (with_reducible refine (match_k hoa hwa s hs1000 _ hA HB4.out).mono ?_); rintro e W22 ⟨rfl, hc22⟩)
  have hw22 := hw21.trans (hc22.mono hw21.size)
  replace hA := hA.below (Nat.le_refl _) hc22
  have hL : RRow _ _ leafR := lit_row W22 2
  have hc22l : Below W22.heap.size W22 (W22.alloc (.cells #[.int .i64 2, .int .u64 0, .int .u64 0, .int .u64 0, .int .u64 0, .slice none 0 0] 45)) := (Below.refl _ _).alloc (Nat.le_refl _) _
  have hw22l := hw22.trans (hc22l.mono hw22.size)
  have hA22 := hA.below (Nat.le_refl _) hc22l
  have dL : AllWd leafR := fun x hx => by rw [List.mem_singleton.1 hx]; exact zero_wd _ _
  have hj23 := join2_k 3 ok_leaf hoa _ hL hA22
  simp only [World.size_alloc] at hj23
  go_wp2_with (go_at_call 12; (with_reducible refine hj23.mono ?_); rintro e W23 ⟨⟨vZL, rfl, hZL⟩, hc23'⟩; obtain ⟨laZL, nZL, cZL, rfl⟩ := hZL.form)
  have hc23 : Below (W22.alloc (.cells #[.int .i64 2, .int .u64 0, .int .u64 0, .int .u64 0, .int .u64 0, .slice none 0 0] 45)).heap.size (W22.alloc (.cells #[.int .i64 2, .int .u64 0, .int .u64 0, .int .u64 0, .int .u64 0, .slice none 0 0] 45)) W23 := by rw [World.size_alloc]; exact hc23'
  have hw23 := hw22l.trans (hc23.mono hw22l.size)
  replace hA := hA22.below (Nat.le_refl _) hc23
  clear hL hA22 hj23 hc23'
  have oZL : RxOk (joinV 3 [leafR, a]) := ok_two ok_leaf hoa (by have := HLA.out; simp only [leafR, List.length_singleton]; omega) (by decide)
  have dZL : AllWd (joinV 3 [leafR, a]) := two_wd dL hwa
  go_wp2_with (go_at_call 17; (with_reducible refine (match_k oZL dZL s hs1000 _ hZL (law_leaf hoa (by have := HLA.out; have := HLB.out; omega))).mono ?_); rintro e W24 ⟨rfl, hc24⟩)
  have hw24 := hw23.trans (hc24.mono hw23.size)
  replace hA := hA.below (Nat.le_refl _) hc24
  replace hZL := hZL.below (Nat.le_refl _) hc24
  exact bodyPost_ret (v := .bool true) (by simp [results, Tryd.results5, go_sem]) rfl ⟨rfl, hb4.trans (hw24.mono hb4.size)⟩
end Go.Proofs.YtpbkgegkjglibaaDoor
