/- Regex: RegexKinds. -/
import Derived.Test.YtpbkgegkjglibaaDoorW18
import Derived.Test.YtpbkgegkjglibaaDoorRg7
namespace Go.Proofs.YtpbkgegkjglibaaDoor
open Go Go.Proofs Go.RowKit
attribute [local go_sem] Oper.semAt_some
def row6_11 : List (Nat × Bool) := [(0, false), (1, false), (2, false), (3, false), (4, false), (5, false), (6, false), (7, false), (8, false), (9, true), (10, false), (11, false), (12, false), (15, false), (16, false), (17, false), (13, true), (14, true), (18, true), (19, false), (20, false), (21, false)]
def inf6_11 : List AX.Inf := [⟨0, 73786976294838206464, 1024, true⟩, ⟨1, 147573952589676412928, 73786976294838206464, true⟩, ⟨2, 295147905179352825856, 147573952589676414976, true⟩, ⟨6, 590295810358705651712, 442721857769029238784, true⟩, ⟨10, 1180591620717411303424, 737869762948382064640, true⟩, ⟨16, 2361183241434822606848, 1180591620717411303425, true⟩, ⟨16, 4722366482869645213696, 1180591620717411303428, true⟩, ⟨16, 9444732965739290427392, 1180591620717411305472, true⟩, ⟨208, 18889465931478580854784, 15347691069326346944512, true⟩, ⟨304, 37778931862957161709568, 22431240793630814765056, false⟩, ⟨530, 75557863725914323419136, 39107097436264249425920, true⟩, ⟨1538, 151115727451828646838272, 75705437678503999832064, true⟩, ⟨2048, 302231454903657293676544, 151115727451828646838273, true⟩, ⟨6144, 604462909807314587353088, 453347182355485940514816, false⟩, ⟨10240, 1208925819614629174706176, 755578637259143234191360, false⟩, ⟨2048, 2417851639229258349412352, 151115727451828646838276, true⟩, ⟨2048, 4835703278458516698824704, 151115727451828646840320, true⟩, ⟨100352, 9671406556917033397649408, 7404670645139603695075328, true⟩, ⟨149504, 19342813113834066795298816, 11031448103983491219193856, false⟩, ⟨264194, 38685626227668133590597632, 19494076415238485118550016, true⟩, ⟨524290, 77371252455336267181195264, 38685773801620723267010560, true⟩, ⟨2097151, 1024, 77371252455336267181195264, true⟩]
theorem fit6_11 : AX.mixF inf6_11 row6_11 0 = true := by kernel_rfl
theorem nullable_k {a : List Nd} (ha : RxOk a) (hw : AllWd a) {v : Value} (w : World) (hR : RRow w v a) {b : Bool} (hb : matchV a [] = b) :
    Calls Tryd.prog 18 #[v] w fun e w' => e = .returned (.bool b) ∧ Below w.heap.size w w' := by
  have hm := match_k ha hw { data := #[] } (by decide) w hR hb
  go_enter Tryd.func18, Tryd.ntmps18
  go_wp2_with (go_at_call 17; (with_reducible refine hm.mono ?_); rintro e W1 ⟨rfl, hb1⟩)
  exact bodyPost_ret (v := .bool b) (by simp [results, Tryd.results18, go_sem]) rfl ⟨rfl, hb1⟩
theorem undef_no (b : Bool) (h : some undef = some (Value.bool b)) : False := by cases h
theorem mix_skip {P : Program} {C : World → Prop} {Q : Exit → Act → World → Prop} {l : List Oper} {i : Nat} {r : List (Nat × Bool)} {a : Act} {w : World} (o : Oper) (ho : l[i]? = some o) (hw : Region.wanted o (yielded l.toArray a.tmps) = false) (h : C w ∧ AX.wpMix P l C Q r (a.put o.dst undef) w) : AX.wpMix P l C Q ((i, true) :: r) a w := by
  unfold AX.wpMix wpOp
  have ho' : l.toArray[i]? = some o := by simpa using ho
  simp only [ho', hw]
  exact h
theorem bytes_take (s : ByteArray) (i : Nat) : bytesOf (s.extract 0 i) = (bytesOf s).take i := by
  unfold bytesOf
  rw [ByteArray.data_extract, Array.toList_extract, List.map_take]
  simp
theorem bytes_drop (s : ByteArray) (i : Nat) : bytesOf (s.extract i s.size) = (bytesOf s).drop i := by
  unfold bytesOf
  rw [ByteArray.data_extract, Array.toList_extract, ← List.map_drop]
  congr 1
  rw [List.extract_eq_take_drop]
  exact List.take_of_length_le (by rw [List.length_drop, Array.length_toList]; exact Nat.le_refl _)
theorem size_ext (s : ByteArray) (i j : Nat) (h : s.size ≤ 1000) : (s.extract i j).size ≤ 1000 := by
  rw [ByteArray.size_extract]; omega

set_option maxRecDepth 100000 in
set_option maxHeartbeats 40000000 in
theorem kinds_k {a b : List Nd} {av bv : Value} (s : ByteArray) (w : World) (hla : a.length ≤ 9223372036854775807) (hlb : b.length ≤ 9223372036854775807) (hwa : AllWd a) (hwb : AllWd b) (hRa : RRow w av a) (hRb : RRow w bv b)
    (hliv : ∀ W, Below w.heap.size w W → Calls Tryd.prog 8 #[] W fun e w' => e = .returned (.bool true) ∧ Below W.heap.size W w') :
    Calls Tryd.prog 6 #[av, bv, .string s] w fun e w' => e = .returned (.bool true) ∧ Below w.heap.size w w' := by
  have hlia := fun W (hb : Below w.heap.size w W) => light_k 25 (by decide) a av hla W (hRa.below (Nat.le_refl _) hb)
  have hlib := fun W (hb : Below w.heap.size w W) => light_k 25 (by decide) b bv hlb W (hRb.below (Nat.le_refl _) hb)
  have hca := fun W (hb : Below w.heap.size w W) (h : a.length ≤ 25) => check_k a av (by omega) W (hRa.below (Nat.le_refl _) hb)
  have hcb := fun W (hb : Below w.heap.size w W) (h : b.length ≤ 25) => check_k b bv (by omega) W (hRb.below (Nat.le_refl _) hb)
  have hb0 := Below.refl w.heap.size w
  obtain ⟨laa, na, ca, rfl⟩ := hRa.form
  obtain ⟨lab, nb, cb, rfl⟩ := hRb.form
  rw [show ((25 : Nat) : Int) = 25 from rfl] at hlia hlib
  by_cases hs : s.size ≤ 8
  case neg =>
    have hs8 : (8 : Int) < (s.size : Int) := by omega
    clear hca hcb hs
    go_enter Tryd.func6, Tryd.ntmps6
    go_wp2_with (first
      | (go_at_call 8; (with_reducible refine (hliv _ hb0).mono ?_); rintro e W1 ⟨rfl, hb1⟩)
      | (go_at_call 13; (with_reducible refine (hlia _ hb1).mono ?_); rintro e W2 ⟨⟨q, rfl, hq⟩, rfl⟩; clear hq; cases q)
      | (go_at_call 13; (with_reducible refine (hlib _ hb1).mono ?_); rintro e W2 ⟨⟨q, rfl, hq⟩, rfl⟩; clear hq; cases q))
    all_goals exact bodyPost_ret (v := .bool true) (by simp [results, Tryd.results6, go_sem]) rfl ⟨rfl, hb1⟩
  have hs8 : ¬ (8 : Int) < (s.size : Int) := by omega
  have HS8 := Lib.hid hs
  clear hs
  by_cases hoa : RxOk a
  case neg =>
    have HO : Hid (checkV a = 2) := Lib.hid (if_neg hoa)
    rw [HO.out] at hca
    clear hcb hoa
    go_enter Tryd.func6, Tryd.ntmps6
    go_wp2_with (first
      | (go_at_call 8; (with_reducible refine (hliv _ hb0).mono ?_); rintro e W1 ⟨rfl, hb1⟩)
      | (go_at_call 13; (with_reducible refine (hlia _ hb1).mono ?_); rintro e W2 ⟨⟨q, rfl, hq⟩, rfl⟩; cases q)
      | (go_at_call 13; (with_reducible refine (hlib _ hb1).mono ?_); rintro e W2 ⟨⟨q2, rfl, hq2⟩, rfl⟩; clear hq2; cases q2)
      | (go_at_call 10; (with_reducible refine (hca _ hb1 (by first | exact hq rfl | exact hq trivial | exact hq)).mono ?_); rintro e W3 ⟨rfl, hb3⟩))
    all_goals first
      | exact bodyPost_ret (v := .bool true) (by simp [results, Tryd.results6, go_sem]) rfl ⟨rfl, hb1.trans (hb3.mono hb1.size)⟩
      | exact bodyPost_ret (v := .bool true) (by simp [results, Tryd.results6, go_sem]) rfl ⟨rfl, hb1⟩
  have HOA : Hid (checkV a = 0) := Lib.hid (if_pos hoa)
  rw [HOA.out] at hca
  by_cases hob : RxOk b
  case neg =>
    have HO : Hid (checkV b = 2) := Lib.hid (if_neg hob)
    rw [HO.out] at hcb
    clear hoa hob
    go_enter Tryd.func6, Tryd.ntmps6
    go_wp2_with (first
      | (go_at_call 8; (with_reducible refine (hliv _ hb0).mono ?_); rintro e W1 ⟨rfl, hb1⟩)
      | (go_at_call 13; (with_reducible refine (hlia _ hb1).mono ?_); rintro e W2 ⟨⟨q, rfl, hq⟩, rfl⟩; cases q)
      | (go_at_call 13; (with_reducible refine (hlib _ hb1).mono ?_); rintro e W2 ⟨⟨q2, rfl, hq2⟩, rfl⟩; cases q2)
      | (go_at_call 10; (with_reducible refine (hca _ hb1 (by first | exact hq rfl | exact hq trivial | exact hq)).mono ?_); rintro e W3 ⟨rfl, hb3⟩; have hb3' := hb1.trans (hb3.mono hb1.size))
      | (go_at_call 10; (with_reducible refine (hcb _ hb3' (by first | exact hq2 rfl | exact hq2 trivial | exact hq2)).mono ?_); rintro e W4 ⟨rfl, hb4⟩))
    all_goals first
      | exact bodyPost_ret (v := .bool true) (by simp [results, Tryd.results6, go_sem]) rfl ⟨rfl, hb3'.trans (hb4.mono hb3'.size)⟩
      | exact bodyPost_ret (v := .bool true) (by simp [results, Tryd.results6, go_sem]) rfl ⟨rfl, hb1⟩
  have HOB : Hid (checkV b = 0) := Lib.hid (if_pos hob)
  rw [HOB.out] at hcb
  have HKA := Lib.hid hoa
  have HKB := Lib.hid hob
  clear hoa hob
  go_enter Tryd.func6, Tryd.ntmps6
  go_wp2_with (first
    | (go_at_call 8; (with_reducible refine (hliv _ hb0).mono ?_); rintro e W1 ⟨rfl, hb1⟩)
    | (go_at_call 13; (with_reducible refine (hlia _ hb1).mono ?_); rintro e W2 ⟨⟨q, rfl, hq⟩, rfl⟩; cases q)
    | (go_at_call 13; (with_reducible refine (hlib _ hb1).mono ?_); rintro e W2 ⟨⟨q2, rfl, hq2⟩, rfl⟩; cases q2)
    | (go_at_call 10; (with_reducible refine (hca _ hb1 (by first | exact hq rfl | exact hq trivial | exact hq)).mono ?_); rintro e W3 ⟨rfl, hb3⟩; have hb3' := hb1.trans (hb3.mono hb1.size))
    | (go_at_call 10; (with_reducible refine (hcb _ hb3' (by first | exact hq2 rfl | exact hq2 trivial | exact hq2)).mono ?_); rintro e W4 ⟨rfl, hb4'⟩; have hb4 := hb3'.trans (hb4'.mono hb3'.size); clear hb4'))
  all_goals first
    | exact bodyPost_ret (v := .bool true) (by simp [results, Tryd.results6, go_sem]) rfl ⟨rfl, hb1⟩
    | skip
  have hA : RRow W4 (.slice laa na ca) a := hRa.below (Nat.le_refl _) hb4
  have hB : RRow W4 (.slice lab nb cb) b := hRb.below (Nat.le_refl _) hb4
  have HLA := Lib.hid (show a.length ≤ 25 by first | exact hq rfl | exact hq trivial | exact hq)
  have HLB := Lib.hid (show b.length ≤ 25 by first | exact hq2 rfl | exact hq2 trivial | exact hq2)
  have hs1000 : s.size ≤ 1000 := by have := HS8.out; omega
  have hoa := HKA.out
  have hob := HKB.out
  clear hlia hlib hca hcb hliv hRa hRb hq hq2 hb3 hb3' hb1 HOA HOB
  have hw4 := Below.refl W4.heap.size W4
  obtain ⟨B1, hB1⟩ : ∃ x, matchV a (bytesOf s) = x := ⟨_, rfl⟩
  obtain ⟨B2, hB2⟩ : ∃ x, matchV b (bytesOf s) = x := ⟨_, rfl⟩
  have HB1 := Lib.hid hB1
  have HB2 := Lib.hid hB2
  clear hB1 hB2
  have hMA := fun W (h : Below W4.heap.size W4 W) => match_k hoa hwa s hs1000 W (hA.below (Nat.le_refl _) h) HB1.out
  have hMB := fun W (h : Below W4.heap.size W4 W) => match_k hob hwb s hs1000 W (hB.below (Nat.le_refl _) h) HB2.out
  go_wp2_with (first
    | (go_at_call 17; (with_reducible refine (hMA _ hw4).mono ?_); rintro e W5 ⟨rfl, hc5⟩)
    | (go_at_call 17; (with_reducible refine (hMB _ hc5).mono ?_); rintro e W6 ⟨rfl, hc6⟩))
  have hw6 := hc5.trans (hc6.mono hc5.size)
  clear hMA hMB
  have HEM : Hid (s.toList.isEmpty = decide (bytesOf s = [])) := Lib.hid (by
    rw [ByteArray.toList_eq]
    unfold bytesOf
    cases s.data.toList <;> simp)
  have hsl : (bytesOf s).length = s.size := by simp [bytesOf]
  have HSL := Lib.hid hsl
  clear hsl
  generalize hem : s.toList.isEmpty = emp at *
  have HEQ := Lib.hid hem
  clear hem
  have hs8' : (s.size : Int) ≤ 8 := by omega
  go_loopw [9, 10, 11] (fun t9 t10 t11 wr => ∃ (i : Nat) (cat star : Bool), i ≤ s.size + 1 ∧ t11 = .int .i64 i ∧ t9 = .bool cat ∧ t10 = .bool star ∧
      Hid (cat = (List.range i).any fun j => matchV a ((bytesOf s).take j) && matchV b ((bytesOf s).drop j)) ∧
      Hid (star = (emp || (List.range i).any fun j => decide (0 < j) && (matchV a ((bytesOf s).take j) && matchV (joinV 5 [a]) ((bytesOf s).drop j)))) ∧ Below W6.heap.size W6 wr)
    (fun _ _ t11 _ => s.size + 1 - (intOf t11).toNat)
  case atStart => exact ⟨0, false, emp, Nat.zero_le _, rfl, rfl, rfl, Lib.hid rfl, Lib.hid (by simp), Below.refl _ _⟩
  case round =>
    obtain ⟨i, cat, star, hi, rfl, rfl, rfl, HC, HS, hbr⟩ := hrel
    have hw := hw6.trans (hbr.mono hw6.size)
    by_cases hlt : i ≤ s.size
    · have hi0 : (0 : Int) ≤ (i : Int) := by omega
      have hi1 : (i : Int) ≤ (s.size : Int) := by omega
      have hit : (i : Int).toNat = i := by omega
      obtain ⟨P, hP⟩ : ∃ x, matchV a ((bytesOf s).take i) = x := ⟨_, rfl⟩
      obtain ⟨Q, hQ⟩ : ∃ x, matchV b ((bytesOf s).drop i) = x := ⟨_, rfl⟩
      obtain ⟨R, hR⟩ : ∃ x, matchV (joinV 5 [a]) ((bytesOf s).drop i) = x := ⟨_, rfl⟩
      have HP := Lib.hid hP
      have HQ := Lib.hid hQ
      have HR := Lib.hid hR
      clear hP hQ hR
      have hmA := fun W (h : Below W4.heap.size W4 W) => match_k hoa hwa (s.extract 0 i) (size_ext s _ _ hs1000) W (hA.below (Nat.le_refl _) h) ((congrArg (matchV a) (bytes_take s i)).trans HP.out)
      have hmB := fun W (h : Below W4.heap.size W4 W) => match_k hob hwb (s.extract i s.size) (size_ext s _ _ hs1000) W (hB.below (Nat.le_refl _) h) ((congrArg (matchV b) (bytes_drop s i)).trans HQ.out)
      have oS : RxOk (joinV 5 [a]) := ok_one hoa (by have := HLA.out; omega) (by decide)
      have hmS := fun W v (h : RRow W v (joinV 5 [a])) => match_k oS (one_wd hwa) (s.extract i s.size) (size_ext s _ _ hs1000) W h ((congrArg (matchV (joinV 5 [a])) (bytes_drop s i)).trans HR.out)
      have hJS := fun W (h : Below W4.heap.size W4 W) => join1_k 5 hoa W (hA.below (Nat.le_refl _) h)
      go_upto_region 10 with fail
      go_cut [9] from 51 to 86 (fun t9 wz => t9 = .bool (cat || (P && Q)) ∧ Below wr.heap.size wr wz)
      case first =>
        clear hmS hJS
        have hr0 := Below.refl wr.heap.size wr
        cases cat <;> cases P <;> cases Q
        all_goals
          go_wp2_with (first
            | (go_at_call 17; (with_reducible refine (hmA _ hw).mono ?_); rintro e W7 ⟨rfl, hc7⟩; have hw7 := hw.trans (hc7.mono hw.size); clear hr0; have hr0 := hc7)
            | (go_at_call 17; (with_reducible refine (hmB _ hw7).mono ?_); rintro e W8 ⟨rfl, hc8⟩; have hr8 := hr0.trans (hc8.mono hr0.size); clear hr0; have hr0 := hr8))
          go_meet
          case rel => exact ⟨rfl, hr0⟩
      case rest =>
        obtain ⟨rfl, hbc⟩ := hcut
        go_wp2_with fail
        have hW : Below wc.heap.size wc wc.drew := (Below.refl _ wc).drew
        have hwc := (hw.trans (hbc.mono hw.size))
        have hwd : Below W4.heap.size W4 wc.drew := hwc.drew
        clear hmB
        have HCC : Hid (Hid ((cat || (P && Q)) = (List.range (i + 1)).any fun j => matchV a ((bytesOf s).take j) && matchV b ((bytesOf s).drop j))) := Lib.hid (Lib.hid (by rw [List.range_succ, List.any_append, ← HC.out]; simp [HP.out, HQ.out]))
        have HSS : Hid (Hid ((star || (decide (0 < i) && (P && R))) = (emp || (List.range (i + 1)).any fun j => decide (0 < j) && (matchV a ((bytesOf s).take j) && matchV (joinV 5 [a]) ((bytesOf s).drop j))))) := Lib.hid (Lib.hid (by rw [List.range_succ, List.any_append, ← Bool.or_assoc, ← HS.out]; simp [HP.out, HR.out]))
        cases star
        · by_cases h0 : 0 < i
          · have hz0 : (0 : Int) < (i : Int) := by omega
            rw [decide_eq_true h0] at HSS
            cases P
            · refine AX.region_mixF (C := fun W => ∃ p : AX.BW wc, W = p.W) row6_11 inf6_11 (by kernel_rfl) (by kernel_rfl) (by kernel_rfl) (by kernel_rfl) fit6_11 (by intro c a d v w h; cases d <;> exact h) ⟨⟨wc.drew, hW⟩, rfl⟩ ?_
              unfold row6_11
              generalize wc.drew = Wd at *
              repeat (refine AX.mix_plain _ (by rfl) ?_; go_big_quiet_step (fail); refine wpQuiet_nil ?_)
              refine AX.mix_call2 (hmA _ hwd) (by rfl) (by rfl) (by rfl) Tryd.func17 (by kernel_rfl) (by rfl) (by simp only [List.map_toArray, List.map_cons, List.map_nil]; rfl) ?_
              rintro e W9 ⟨rfl, hc9⟩
              have hW9 := hW.trans (hc9.mono hW.size)
              refine ⟨_, rfl, ⟨⟨W9, hW9⟩, rfl⟩, ?_⟩
              simp only [Act.put, List.setIfInBounds_toArray, List.set_cons_succ, List.set_cons_zero]
              repeat (refine AX.mix_plain _ (by rfl) ?_; go_big_quiet_step (fail); refine wpQuiet_nil ?_)
              refine mix_skip _ (by rfl) (by rfl) ⟨⟨⟨_, hW9⟩, rfl⟩, ?_⟩
              simp only [Act.put, List.setIfInBounds_toArray, List.set_cons_succ, List.set_cons_zero]
              refine mix_skip _ (by rfl) (by rfl) ⟨⟨⟨_, hW9⟩, rfl⟩, ?_⟩
              simp only [Act.put, List.setIfInBounds_toArray, List.set_cons_succ, List.set_cons_zero]
              refine mix_skip _ (by rfl) (by rfl) ⟨⟨⟨_, hW9⟩, rfl⟩, ?_⟩
              simp only [Act.put, List.setIfInBounds_toArray, List.set_cons_succ, List.set_cons_zero]
              repeat (refine AX.mix_plain _ (by rfl) ?_; go_big_quiet_step (fail); refine wpQuiet_nil ?_)
              unfold AX.wpMix
              go_wp2_with fail
              exact ⟨⟨i + 1, _, (false || (true && (false && R))), by omega, by simp, rfl, rfl, HCC.out, HSS.out, hbr.trans ((hbc.trans (hW9.mono hbc.size)).mono hbr.size)⟩, by simp [intOf]; omega⟩
            · refine AX.region_mixF (C := fun W => ∃ p : AX.BW wc, W = p.W) row6_11 inf6_11 (by kernel_rfl) (by kernel_rfl) (by kernel_rfl) (by kernel_rfl) fit6_11 (by intro c a d v w h; cases d <;> exact h) ⟨⟨wc.drew, hW⟩, rfl⟩ ?_
              unfold row6_11
              generalize wc.drew = Wd at *
              repeat (refine AX.mix_plain _ (by rfl) ?_; go_big_quiet_step (fail); refine wpQuiet_nil ?_)
              refine AX.mix_call2 (hmA _ hwd) (by rfl) (by rfl) (by rfl) Tryd.func17 (by kernel_rfl) (by rfl) (by simp only [List.map_toArray, List.map_cons, List.map_nil]; rfl) ?_
              rintro e W9 ⟨rfl, hc9⟩
              have hW9 := hW.trans (hc9.mono hW.size)
              refine ⟨_, rfl, ⟨⟨W9, hW9⟩, rfl⟩, ?_⟩
              simp only [Act.put, List.setIfInBounds_toArray, List.set_cons_succ, List.set_cons_zero]
              repeat (refine AX.mix_plain _ (by rfl) ?_; go_big_quiet_step (fail); refine wpQuiet_nil ?_)
              refine AX.mix_op _ (by rfl) (by rfl) ?_
              unfold Oper.wp
              go_simp
              have hw9 := hwd.trans (hc9.mono hwd.size)
              have hj9 := hJS _ hw9
              have hba : Below W9.heap.size W9 (W9.alloc (.cells #[.slice laa na ca] 24)) := (Below.refl _ _).alloc (Nat.le_refl _) _
              have hWa := hW9.trans (hba.mono hW9.size)
              generalize W9.alloc (.cells #[.slice laa na ca] 24) = Wa at *
              refine ⟨⟨⟨Wa, hWa⟩, rfl⟩, ?_⟩
              refine AX.mix_call2 hj9 (by rfl) (by rfl) (by rfl) Tryd.func12 (by kernel_rfl) (by rfl) (by simp only [List.map_toArray, List.map_cons, List.map_nil]; rfl) ?_
              rintro e Wb ⟨⟨v, rfl, hv⟩, hcb⟩
              have hWb : Below wc.heap.size wc Wb := hW9.trans (hcb.mono hW9.size)
              refine ⟨_, rfl, ⟨⟨Wb, hWb⟩, rfl⟩, ?_⟩
              simp only [Act.put, List.setIfInBounds_toArray, List.set_cons_succ, List.set_cons_zero]
              refine AX.mix_call2 (hmS _ _ hv) (by rfl) (by rfl) (by rfl) Tryd.func17 (by kernel_rfl) (by rfl) (by simp only [List.map_toArray, List.map_cons, List.map_nil]; rfl) ?_
              rintro e Wc ⟨rfl, hcc⟩
              have hWc := hWb.trans (hcc.mono hWb.size)
              refine ⟨_, rfl, ⟨⟨Wc, hWc⟩, rfl⟩, ?_⟩
              simp only [Act.put, List.setIfInBounds_toArray, List.set_cons_succ, List.set_cons_zero]
              repeat (refine AX.mix_plain _ (by rfl) ?_; go_big_quiet_step (fail); refine wpQuiet_nil ?_)
              unfold AX.wpMix
              go_wp2_with fail
              exact ⟨⟨i + 1, _, (false || (true && (true && R))), by omega, by simp, rfl, rfl, HCC.out, HSS.out, hbr.trans ((hbc.trans (hWc.mono hbc.size)).mono hbr.size)⟩, by simp [intOf]; omega⟩
          · have hz0 : ¬ (0 : Int) < (i : Int) := by omega
            rw [decide_eq_false h0] at HSS
            refine AX.region_mixF (C := fun W => ∃ p : AX.BW wc, W = p.W) row6_11 inf6_11 (by kernel_rfl) (by kernel_rfl) (by kernel_rfl) (by kernel_rfl) fit6_11 (by intro c a d v w h; cases d <;> exact h) ⟨⟨wc.drew, hW⟩, rfl⟩ ?_
            unfold row6_11
            generalize wc.drew = Wd at *
            repeat (refine AX.mix_plain _ (by rfl) ?_; go_big_quiet_step (fail); refine wpQuiet_nil ?_)
            refine mix_skip _ (by rfl) (by rfl) ⟨⟨⟨_, hW⟩, rfl⟩, ?_⟩
            simp only [Act.put, List.setIfInBounds_toArray, List.set_cons_succ, List.set_cons_zero]
            repeat (refine AX.mix_plain _ (by rfl) ?_; go_big_quiet_step (fail); refine wpQuiet_nil ?_)
            refine mix_skip _ (by rfl) (by rfl) ⟨⟨⟨_, hW⟩, rfl⟩, ?_⟩
            simp only [Act.put, List.setIfInBounds_toArray, List.set_cons_succ, List.set_cons_zero]
            refine mix_skip _ (by rfl) (by rfl) ⟨⟨⟨_, hW⟩, rfl⟩, ?_⟩
            simp only [Act.put, List.setIfInBounds_toArray, List.set_cons_succ, List.set_cons_zero]
            refine mix_skip _ (by rfl) (by rfl) ⟨⟨⟨_, hW⟩, rfl⟩, ?_⟩
            simp only [Act.put, List.setIfInBounds_toArray, List.set_cons_succ, List.set_cons_zero]
            repeat (refine AX.mix_plain _ (by rfl) ?_; go_big_quiet_step (fail); refine wpQuiet_nil ?_)
            unfold AX.wpMix
            go_wp2_with fail
            exact ⟨⟨i + 1, _, (false || (false && (P && R))), by omega, by simp, rfl, rfl, HCC.out, HSS.out, hbr.trans ((hbc.trans (hW.mono hbc.size)).mono hbr.size)⟩, by simp [intOf]; omega⟩
        · refine AX.region_mixF (C := fun W => ∃ p : AX.BW wc, W = p.W) row6_11 inf6_11 (by kernel_rfl) (by kernel_rfl) (by kernel_rfl) (by kernel_rfl) fit6_11 (by intro c a d v w h; cases d <;> exact h) ⟨⟨wc.drew, hW⟩, rfl⟩ ?_
          unfold row6_11
          generalize wc.drew = Wd at *
          repeat (refine AX.mix_plain _ (by rfl) ?_; go_big_quiet_step (fail); refine wpQuiet_nil ?_)
          refine mix_skip _ (by rfl) (by rfl) ⟨⟨⟨_, hW⟩, rfl⟩, ?_⟩
          simp only [Act.put, List.setIfInBounds_toArray, List.set_cons_succ, List.set_cons_zero]
          repeat (refine AX.mix_plain _ (by rfl) ?_; go_big_quiet_step (fail); refine wpQuiet_nil ?_)
          refine mix_skip _ (by rfl) (by rfl) ⟨⟨⟨_, hW⟩, rfl⟩, ?_⟩
          simp only [Act.put, List.setIfInBounds_toArray, List.set_cons_succ, List.set_cons_zero]
          refine mix_skip _ (by rfl) (by rfl) ⟨⟨⟨_, hW⟩, rfl⟩, ?_⟩
          simp only [Act.put, List.setIfInBounds_toArray, List.set_cons_succ, List.set_cons_zero]
          refine mix_skip _ (by rfl) (by rfl) ⟨⟨⟨_, hW⟩, rfl⟩, ?_⟩
          simp only [Act.put, List.setIfInBounds_toArray, List.set_cons_succ, List.set_cons_zero]
          repeat (refine AX.mix_plain _ (by rfl) ?_; go_big_quiet_step (fail); refine wpQuiet_nil ?_)
          unfold AX.wpMix
          go_wp2_with fail
          exact ⟨⟨i + 1, _, (true || (decide (0 < i) && (P && R))), by omega, by simp, rfl, rfl, HCC.out, HSS.out, hbr.trans ((hbc.trans (hW.mono hbc.size)).mono hbr.size)⟩, by simp [intOf]; omega⟩
    · obtain rfl : i = s.size + 1 := by omega
      have hls : (bytesOf s).length = s.size := HSL.out
      have HCF : Hid (matchV (joinV 3 [a, b]) (bytesOf s) = cat) := Lib.hid (by rw [kind_cat hoa hob (by have := HLA.out; have := HLB.out; omega), hls, HC.out])
      have HSF : Hid (matchV (joinV 5 [a]) (bytesOf s) = star) := Lib.hid (by rw [kind_star hoa (by have := HLA.out; omega), hls, HS.out, ← HEM.out])
      have HAF : Hid (matchV (joinV 4 [a, b]) (bytesOf s) = (B1 || B2)) := Lib.hid (by rw [kind_alt hoa hob (by have := HLA.out; have := HLB.out; omega), HB1.out, HB2.out])
      have HMF : Hid (matchV (joinV 7 [a]) (bytesOf s) = (B1 || emp)) := Lib.hid (by rw [kind_maybe hoa (by have := HLA.out; omega), HB1.out, ← HEM.out])
      have HPF : Hid (matchV (joinV 6 [a]) (bytesOf s) = (star && !emp || emp && B1)) := Lib.hid (by rw [kind_plus hoa (by have := HLA.out; omega), HB1.out, HSF.out, ← HEM.out])
      have HST : Hid (emp = true → star = true) := Lib.hid (fun h => by rw [HS.out, h]; rfl)
      obtain ⟨B0, hB0⟩ : ∃ x, matchV a [] = x := ⟨_, rfl⟩
      have HB0 := Lib.hid hB0
      replace hA := hA.below (Nat.le_refl _) hw
      replace hB := hB.below (Nat.le_refl _) hw
      have HB0b : Hid (matchV a (bytesOf { data := #[] }) = B0) := Lib.hid HB0.out
      clear hB0 HC HS hbr hi hlt hls
      have hk6 : (B1 = true ∨ B1 = false) ∧ ((star = false ∧ emp = false) ∨ (star = true ∧ emp = false) ∨ (star = true ∧ emp = true)) := by
        have := HST.out
        cases B1 <;> cases star <;> cases emp <;> simp_all
      obtain ⟨k1, k2⟩ := hk6
      rcases k1 with rfl | rfl <;> rcases k2 with ⟨rfl, rfl⟩ | ⟨rfl, rfl⟩ | ⟨rfl, rfl⟩
      all_goals
        have heq9 := HEQ.out
        simp only [Bool.not_false, Bool.not_true, Bool.and_true, Bool.and_false, Bool.or_true, Bool.or_false, Bool.true_or, Bool.false_or, Bool.or_self, Bool.and_self] at HAF HMF HPF
        go_wp2_with (go_at_call 12; (with_reducible refine (join2_k 4 hoa hob _ hA hB).mono ?_); rintro e W21 ⟨⟨vX, rfl, hX⟩, hc21⟩; obtain ⟨laX, nX, cX, rfl⟩ := hX.form)
        have hw21 := hw.trans (hc21.mono hw.size)
        replace hA := hA.below (Nat.le_refl _) hc21
        replace hB := hB.below (Nat.le_refl _) hc21
        have oX : RxOk (joinV 4 [a, b]) := ok_two hoa hob (by have := HLA.out; have := HLB.out; omega) (by decide)
        have dX : AllWd (joinV 4 [a, b]) := two_wd hwa hwb
        go_wp2_with (go_at_call 17; (with_reducible refine (match_k oX dX s hs1000 _ hX HAF.out).mono ?_); rintro e W22 ⟨rfl, hc22⟩)
        have hw22 := hw21.trans (hc22.mono hw21.size)
        replace hA := hA.below (Nat.le_refl _) hc22
        replace hB := hB.below (Nat.le_refl _) hc22
        replace hX := hX.below (Nat.le_refl _) hc22
        clear hX
        go_wp2_with (go_at_call 12; (with_reducible refine (join2_k 3 hoa hob _ hA hB).mono ?_); rintro e W23 ⟨⟨vY, rfl, hY⟩, hc23⟩; obtain ⟨laY, nY, cY, rfl⟩ := hY.form)
        have hw23 := hw22.trans (hc23.mono hw22.size)
        replace hA := hA.below (Nat.le_refl _) hc23
        replace hB := hB.below (Nat.le_refl _) hc23
        have oY : RxOk (joinV 3 [a, b]) := ok_two hoa hob (by have := HLA.out; have := HLB.out; omega) (by decide)
        have dY : AllWd (joinV 3 [a, b]) := two_wd hwa hwb
        go_wp2_with (go_at_call 17; (with_reducible refine (match_k oY dY s hs1000 _ hY HCF.out).mono ?_); rintro e W24 ⟨rfl, hc24⟩)
        have hw24 := hw23.trans (hc24.mono hw23.size)
        replace hA := hA.below (Nat.le_refl _) hc24
        replace hB := hB.below (Nat.le_refl _) hc24
        replace hY := hY.below (Nat.le_refl _) hc24
        clear hY
        clear hB
        go_wp2_with (go_at_call 12; (with_reducible refine (join1_k 7 hoa _ hA).mono ?_); rintro e W25 ⟨⟨vM, rfl, hM⟩, hc25⟩; obtain ⟨laM, nM, cM, rfl⟩ := hM.form)
        have hw25 := hw24.trans (hc25.mono hw24.size)
        replace hA := hA.below (Nat.le_refl _) hc25
        have oM : RxOk (joinV 7 [a]) := ok_one hoa (by have := HLA.out; omega) (by decide)
        have dM : AllWd (joinV 7 [a]) := one_wd hwa
        go_wp2_with (go_at_call 17; (with_reducible refine (match_k oM dM s hs1000 _ hM HMF.out).mono ?_); rintro e W26 ⟨rfl, hc26⟩)
        have hw26 := hw25.trans (hc26.mono hw25.size)
        replace hA := hA.below (Nat.le_refl _) hc26
        replace hM := hM.below (Nat.le_refl _) hc26
        clear hM
        go_wp2_with (go_at_call 12; (with_reducible refine (join1_k 5 hoa _ hA).mono ?_); rintro e W27 ⟨⟨vS, rfl, hS⟩, hc27⟩; obtain ⟨laS, nS, cS, rfl⟩ := hS.form)
        have hw27 := hw26.trans (hc27.mono hw26.size)
        replace hA := hA.below (Nat.le_refl _) hc27
        have oS : RxOk (joinV 5 [a]) := ok_one hoa (by have := HLA.out; omega) (by decide)
        have dS : AllWd (joinV 5 [a]) := one_wd hwa
        go_wp2_with (go_at_call 17; (with_reducible refine (match_k oS dS s hs1000 _ hS HSF.out).mono ?_); rintro e W28 ⟨rfl, hc28⟩)
        have hw28 := hw27.trans (hc28.mono hw27.size)
        replace hA := hA.below (Nat.le_refl _) hc28
        replace hS := hS.below (Nat.le_refl _) hc28
        clear hS
        go_wp2_with (go_at_call 12; (with_reducible refine (join1_k 6 hoa _ hA).mono ?_); rintro e W29 ⟨⟨vP, rfl, hP⟩, hc29⟩; obtain ⟨laP, nP, cP, rfl⟩ := hP.form)
        have hw29 := hw28.trans (hc29.mono hw28.size)
        replace hA := hA.below (Nat.le_refl _) hc29
        have oP : RxOk (joinV 6 [a]) := ok_one hoa (by have := HLA.out; omega) (by decide)
        have dP : AllWd (joinV 6 [a]) := one_wd hwa
        go_wp2_with (go_at_call 17; (with_reducible refine (match_k oP dP s hs1000 _ hP HPF.out).mono ?_); rintro e W30 ⟨rfl, hc30⟩)
        all_goals try exact (undef_no _ (by assumption)).elim
        have hw30 := hw29.trans (hc30.mono hw29.size)
        replace hA := hA.below (Nat.le_refl _) hc30
        replace hP := hP.below (Nat.le_refl _) hc30
        clear hP
        go_wp2_with (go_at_call 18; (with_reducible refine (nullable_k hoa hwa _ hA HB0.out).mono ?_); rintro e W31 ⟨rfl, hc31⟩)
        have hw31 := hw30.trans (hc31.mono hw30.size)
        replace hA := hA.below (Nat.le_refl _) hc31
        go_wp2_with (go_at_call 17; (with_reducible refine (match_k hoa hwa { data := #[] } (by decide) _ hA HB0b.out).mono ?_); rintro e W32 ⟨rfl, hc32⟩)
        have hw32 := hw31.trans (hc32.mono hw31.size)
        replace hA := hA.below (Nat.le_refl _) hc32
        exact bodyPost_ret (v := .bool true) (by simp [results, Tryd.results6, go_sem]) rfl ⟨rfl, hb4.trans (hw32.mono hb4.size)⟩

end Go.Proofs.YtpbkgegkjglibaaDoor
