/- Dfa: maker.state 21. -/
import Derived.Test.YtaadkdmbhckdeaaGreatDoorN19
import Derived.Test.YtaadkdmbhckdeaaGreatDoorRg8
namespace Go.Proofs.YtaadkdmbhckdeaaGreatDoor
open Go Go.Proofs Go.RowKit
attribute [local go_sem] Oper.semAt_some
def row21_9 : List (Nat × Bool) := [(0, false), (1, false), (2, false), (3, false), (4, false), (6, false), (5, true), (7, true)]
def inf21_9 : List AX.Inf := [⟨0, 17592186044416, 1, true⟩, ⟨1, 35184372088832, 17592186044416, true⟩, ⟨2, 70368744177664, 35184372088832, true⟩, ⟨4, 140737488355328, 70368744177664, true⟩, ⟨0, 281474976710656, 2, true⟩, ⟨16, 562949953421312, 281474976710656, false⟩, ⟨0, 1125899906842624, 64, true⟩, ⟨127, 0, 1829587348619264, false⟩]
theorem fit21_9 : AX.mixF inf21_9 row21_9 0 = true := by kernel_rfl
theorem own_ch {bad : List Nat} {base : Nat} {e : TypeId} {k : Nat} {v : Value} {n : Nat} {xs : List Value} {w w' : World} (h : w.ownsRow base e k v n xs) (hc : Ch bad w w') (hb : ∀ g, v.ownBlock = some g → g ∉ bad) : w'.ownsRow base e k v n xs := by
 refine ⟨h.1, ?_⟩
 rcases h.2 with hn | ⟨g, cap, cur, rfl, hg, hh, rest⟩
 · exact .inl hn
 · exact .inr ⟨g, cap, cur, rfl, hg, (hc.same g (Array.getElem?_eq_some_iff.1 hh).1 (hb g rfl)).trans hh, rest⟩
theorem Mkr.ch {W W' : World} {base : Nat} {oth bad : List Nat} {M r : Nat} {x0 x1 x2 : Value} {most : Nat} {sv : Value} {vals : List Value} {T : Sets} (h : Mkr W base oth M r x0 x1 x2 most sv vals T) (hc : Ch bad W W') (hb : ∀ b ∈ bad, b ∈ oth) (hM : M ∉ bad) (hr : r ∉ bad) (hg : ∀ g, sv.ownBlock = some g → g ∉ bad) : Mkr W' base oth M r x0 x1 x2 most sv vals T where
 box := hc.bx h.box hM
 own := own_ch h.own hc hg
 vl := h.vl
 row i v S hv hS := (h.row i v S hv hS).ch (hc.mono fun b hm _ => by unfold bads; simp [hb b hm])
 map := (hc.same r (Array.getElem?_eq_some_iff.1 h.map).1 hr).trans h.map
 bM := h.bM
 br := h.br
 small := h.small
theorem Mkr.below {W W' : World} {base : Nat} {oth : List Nat} {M r : Nat} {x0 x1 x2 : Value} {most : Nat} {sv : Value} {vals : List Value} {T : Sets} (h : Mkr W base oth M r x0 x1 x2 most sv vals T) (hb : Below W.heap.size W W') : Mkr W' base oth M r x0 x1 x2 most sv vals T :=
 h.ch (Ch.of_below hb []) (fun _ h => by simp at h) (by simp) (by simp) (fun _ _ => by simp)
theorem SAt.step {M r : Nat} {sv sv' : Value} {oth : List Nat} {X Y : World} {v : Value} {l : List Int} (h : SAt X (bads M r sv oth) v l) (hc : Ch (bads M r sv []) X Y) (hs : sv'.ownBlock = sv.ownBlock ∨ ∃ g, sv'.ownBlock = some g ∧ X.heap.size ≤ g) : SAt Y (bads M r sv' oth) v l := by
 have h1 : SAt X (bads M r sv (sv'.ownBlock.toList ++ oth)) v l := h.more fun k hk hlt => by
  unfold bads at hk ⊢
  simp only [List.mem_cons, List.mem_append, Option.mem_toList] at hk ⊢
  rcases hk with hk | hk | hk | hk | hk
  · exact .inl hk
  · exact .inr (.inl hk)
  · exact .inr (.inr (.inl hk))
  · rcases hs with hs | ⟨g, hg, hge⟩
    · rw [hs] at hk; exact .inr (.inr (.inl hk))
    · rw [hg] at hk; cases hk; omega
  · exact .inr (.inr (.inr hk))
 refine (h1.ch (hc.mono fun k hk _ => ?_)).more fun k hk _ => ?_
 · unfold bads at hk ⊢
   simp only [List.mem_cons, List.mem_append, Option.mem_toList, List.not_mem_nil, or_false] at hk ⊢
   rcases hk with hk | hk | hk
   · exact .inl hk
   · exact .inr (.inl hk)
   · exact .inr (.inr (.inl hk))
 · unfold bads at hk ⊢
   simp only [List.mem_cons, List.mem_append, Option.mem_toList] at hk ⊢
   rcases hk with hk | hk | hk | hk
   · exact .inl hk
   · exact .inr (.inl hk)
   · exact .inr (.inr (.inr (.inl hk)))
   · exact .inr (.inr (.inr (.inr hk)))
theorem Mkr.push {X W5 W6 W8 : World} {base : Nat} {oth : List Nat} {M r : Nat} {x0 x1 x2 : Value} {most : Nat} {sv : Value} {vals : List Value} {T : Sets} (h : Mkr X base oth M r x0 x1 x2 most sv vals T) {S : List Int} {vS v' : Value} (hS : SAt X (bads M r sv oth) vS S) (hSm : Small S)
  (h6 : W5.ownsRow base 24 1 v' (T.length + 1) (vals ++ [vS])) (h7 : X.grownBy W5 sv.ownBlock) (h8 : v'.ownBlock = sv.ownBlock ∨ v'.ownBlock = some X.heap.size) (g3 : Bx W6 M 48 #[x0, x1, x2, .int .i64 most, v', .map (some r)]) (g4 : ∀ k, k ≠ M → W6.heap[k]? = W5.heap[k]?) (hl : Below 0 W5 W6) (hc : Ch [r] W6 W8)
  (hm8 : W8.heap[r]? = some (.map (entsF 0 (T ++ [S])).toArray (T ++ [S]).length)) : Mkr W8 base oth M r x0 x1 x2 most v' (vals ++ [vS]) (T ++ [S]) ∧ Ch (bads M r sv []) X W8 := by
 have c1 : Ch (bads M r sv []) X W5 := Ch.of_grown h7 fun g hg => by unfold bads; simp [hg]
 have c2 : Ch (bads M r sv []) X W6 := c1.trans (Ch.of_turn (A := M) hl g4 (by unfold bads; simp))
 have c3 : Ch (bads M r sv []) X W8 := c2.trans (hc.mono fun b hb _ => by unfold bads; simp at hb; simp [hb])
 have h8' : v'.ownBlock = sv.ownBlock ∨ ∃ g, v'.ownBlock = some g ∧ X.heap.size ≤ g := h8.imp id fun e => ⟨_, e, Nat.le_refl _⟩
 have hne : M ∉ [r] := by simpa using h.ne
 have x5 : Bx W5 M 48 _ := (h7.block M h.box.lt (fun e => h.neM e.symm)).trans h.box
 have o6 : W6.ownsRow base 24 1 v' (T.length + 1) (vals ++ [vS]) := own_ch h6 (Ch.of_turn (A := M) (bad := [M]) hl g4 (by simp)) fun g hg => by
  obtain ⟨cs, hcs⟩ := own_cells h6 g hg
  intro hm
  rw [List.mem_singleton.1 hm, show W5.heap[M]? = _ from x5] at hcs
  cases hcs
 have r5 : W5.heap[r]? = some (.map (entsF 0 T).toArray T.length) := (h7.block r (Array.getElem?_eq_some_iff.1 h.map).1 (fun e => h.ner e.symm)).trans h.map
 have r6 : W6.heap[r]? = some (.map (entsF 0 T).toArray T.length) := (g4 r (fun e => h.ne e.symm)).trans r5
 refine ⟨⟨hc.bx g3 hne, ?_, ?_, ?_, hm8, h.bM, h.br, ?_⟩, c3⟩
 · rw [List.length_append]
   refine own_ch o6 hc fun g hg hm => ?_
   obtain ⟨cs, hcs⟩ := own_cells o6 g hg
   rw [List.mem_singleton.1 hm, r6] at hcs
   cases hcs
 · simp [h.vl]
 · intro i v U hv hU
   by_cases hi : i < T.length
   · rw [List.getElem?_append_left (by rw [h.vl]; exact hi)] at hv
     rw [List.getElem?_append_left hi] at hU
     exact (h.row i v U hv hU).step c3 h8'
   · rw [List.getElem?_append_right (by rw [h.vl]; omega), h.vl] at hv
     rw [List.getElem?_append_right (by omega)] at hU
     have e : i - T.length = 0 := by
      have := (List.getElem?_eq_some_iff.1 hU).1
      simp at this
      omega
     rw [e] at hv hU
     simp at hv hU
     subst hv
     subst hU
     exact hS.step c3 h8'
 · intro U hU
   rcases List.mem_append.1 hU with hU | hU
   · exact h.small U hU
   · rw [List.mem_singleton.1 hU]; exact hSm
set_option maxRecDepth 100000 in
theorem oper_upd52 {a : Act} {K : Act → World → Prop} {Q : Exit → Act → World → Prop} {m kx v : Operand} {ty : TypeId} {pos : String} {after : Array Edge} {W : World} {r : Nat} {T : Sets} {S : List Int} {n : Nat} {ks : ByteArray} (hn : n = T.length) (hks : ks = ⟨(keyL S).toArray⟩)
  (hm : a.eval m = .map (some r)) (hk : a.eval kx = .string ks) (hv : a.eval v = .int .i64 n) (hb : W.heap[r]? = some (.map (entsF 0 T).toArray T.length)) (hS : Small S) (hT : ∀ U ∈ T, Small U) (hf : ¬ fi T S < T.length)
  (h : ∀ W', W'.heap[r]? = some (.map (entsF 0 (T ++ [S])).toArray (T ++ [S]).length) → AX.But r W W' → K a W') :
  Oper.wp Tryz.prog { dst := none, op := .mapUpdate 46 m kx v, type := ty, pos := pos, after := after, guard := none } a W K Q := by
 obtain ⟨W', hr, h1, h2⟩ := upd52 hb hS hT hf
 have hx : (execOp a.eval { dst := none, op := .mapUpdate 46 m kx v, type := ty, pos := pos, after := after, guard := none }).run Tryz.prog W = .ok .skip W' := by
  have hr' : (Instr.mapUpdate 46 (.map (some r)) (.string ks) (.int .i64 n)).run Tryz.prog W = .ok () W' := by rw [hks, hn]; exact hr
  simp only [execOp, hm, hk, hv, Sem.run_bind, hr']
  rfl
 unfold Oper.wp
 rw [hx]
 exact h _ h1 h2
def StPost (W : World) (base : Nat) (oth : List Nat) (M r : Nat) (x0 x1 x2 : Value) (most : Nat) (sv : Value) (T : Sets) (S : List Int) (e : Ending) (W' : World) : Prop :=
 (addS most T S = none ∧ e = .returned (.tuple #[.int .i64 0, .bool false]) ∧ Ch (bads M r sv []) W W') ∨
 ∃ t T1 sv' vals', addS most T S = some (t, T1) ∧ e = .returned (.tuple #[.int .i64 t, .bool true]) ∧ Mkr W' base oth M r x0 x1 x2 most sv' vals' T1 ∧ Ch (bads M r sv []) W W' ∧ (sv'.ownBlock = sv.ownBlock ∨ ∃ g, sv'.ownBlock = some g ∧ W.heap.size ≤ g)
theorem st21_id {P : Program} {ops : Array Oper} {Q : Exit → Act → World → Prop} {a : Act} {w : World} {rest : List Oper} {t : TypeId} {x y : Operand} {ty : TypeId} {pos : String} {after : Array Edge} (h : wpList P ops Q ({ dst := none, op := .store t x y, type := ty, pos := pos, after := after, guard := none } :: rest) a w) :
 wpList P ops Q ({ dst := none, op := .store t x y, type := ty, pos := pos, after := after, guard := none } :: rest) a w := h
theorem addS_fi (most : Nat) (T : Sets) (S : List Int) : addS most T S = if S = [] then some (-1, T) else if fi T S < T.length then some ((fi T S : Int), T) else if T.length = most then none else some ((T.length : Int), T ++ [S]) := rfl
theorem sz23 : AX.sizeT Tryz.prog 23 = some 1 := by kernel_rfl
set_option maxRecDepth 100000 in
set_option maxHeartbeats 4000000 in
theorem state21_k {W : World} {base : Nat} {oth : List Nat} {M r : Nat} {x0 x1 x2 : Value} {most : Nat} {sv : Value} {vals : List Value} {T : Sets} (h : Mkr W base oth M r x0 x1 x2 most sv vals T) {S : List Int} {vS : Value} (hS : SAt W (bads M r sv oth) vS S) (hSm : Small S) (hSl : S.length ≤ 1000000) (hb : base ≤ W.heap.size) (hT : T.length ≤ 1000) :
  Calls Tryz.prog 24 #[.pointer (some ⟨M, 0, none⟩), vS] W (StPost W base oth M r x0 x1 x2 most sv T S) := by
 have HM := Lib.hid h
 have HS := Lib.hid hS
 obtain ⟨aS, cS, rfl, hSI⟩ := hS.irow
 obtain ⟨n, hn⟩ : ∃ n, n = S.length := ⟨_, rfl⟩
 have HN := Lib.hid hn
 by_cases hS0 : S = []
 · have ha : addS most T S = some (-1, T) := by unfold addS; rw [if_pos hS0]
   have hn0 : n = 0 := by rw [hn, hS0]; rfl
   have HA := Lib.hid ha
   rw [← hn]
   subst hn0
   clear hn ha hS0 hSI hS h
   go_enter Tryz.func24, Tryz.ntmps24
   go_wp2_with fail
   exact bodyPost_ret (v := .tuple #[.int .i64 (-1), .bool true]) (by simp [results, Tryz.results24, go_sem]) rfl (.inr ⟨-1, T, sv, vals, HA.out, rfl, HM.out, Ch.refl _ _, .inl rfl⟩)
 · have hn1 : 0 < n := by rw [hn]; exact List.length_pos_iff.2 hS0
   have hk : ∀ p : AX.BW W, Calls Tryz.prog 39 #[.slice aS n cS] p.W fun e w' => e = .returned (.string ⟨(keyL S).toArray⟩) ∧ Below p.W.heap.size p.W w' := fun p => by
    rw [hn]
    exact key_k S hSl hSm aS cS p.W (hSI.below p.h (Nat.le_refl _))
   have hm5 : ∀ p : AX.BW W, p.W.cell? ⟨M, 5, none⟩ = some (.map (some r)) := fun p => (h.box.below p.h h.box.lt).cell 5
   have hrl := (Array.getElem?_eq_some_iff.1 h.map).1
   have hlk : ∀ p : AX.BW W, (Instr.lookup 46 (.map (some r)) (.string ⟨(keyL S).toArray⟩) true).run Tryz.prog p.W = .ok (.tuple #[.int .i64 (if fi T S < T.length then (fi T S : Int) else 0), .bool (decide (fi T S < T.length))]) p.W := fun p =>
    look52 ((p.h.block r hrl).trans h.map) hSm h.small
   obtain ⟨m, hm⟩ : ∃ m, m = T.length := ⟨_, rfl⟩
   obtain ⟨f, hf⟩ : ∃ f, f = fi T S := ⟨_, rfl⟩
   obtain ⟨ks, hks⟩ : ∃ ks : ByteArray, ks = ⟨(keyL S).toArray⟩ := ⟨_, rfl⟩
   rw [← hf, ← hm, ← hks] at hlk
   rw [← hks] at hk
   have HMm := Lib.hid hm
   have HF := Lib.hid hf
   have HKS := Lib.hid hks
   have HSI := Lib.hid hSI
   have hMl := h.box.lt
   rw [← hn]
   have hnz : ((n : Int) == 0) = false := by simp; omega
   by_cases hfm : f < m
   · have ha : addS most T S = some ((f : Int), T) := by
      rw [addS_fi, ← hf, ← hm, if_neg hS0, if_pos hfm]
     have HA := Lib.hid ha
     rw [if_pos hfm, decide_eq_true hfm] at hlk
     clear hm hf hks hSI hS h ha hS0 hn hrl
     go_enter Tryz.func24, Tryz.ntmps24
     go_upto_region 3 with (fail)
     refine AX.region_below (by kernel_rfl) (by kernel_rfl) ?_
     repeat (go_big_quiet_step (first | (go_at_call 39; with_reducible exact AX.below_of (hk _))))
     refine wpQuiet_nil ?_
     rintro W2 ⟨p, rfl⟩
     obtain ⟨W2, hb2⟩ := p
     change Below _ _ _ at hb2
     clear hk hm5 hlk
     go_wp2_with fail
     exact bodyPost_ret (v := .tuple #[.int .i64 f, .bool true]) (by simp [results, Tryz.results24, go_sem]) rfl (.inr ⟨f, T, sv, vals, HA.out, rfl, HM.out.below hb2, Ch.of_below hb2 _, .inl rfl⟩)
   · rw [if_neg hfm, decide_eq_false hfm] at hlk
     obtain ⟨sa, sc, hsv⟩ := row_shape h.own
     rw [← hm] at hsv
     subst hsv
     have hm4 : ∀ X, Below W.heap.size W X → X.cell? ⟨M, 4, none⟩ = some (.slice sa m sc) := fun X hX => (h.box.below hX h.box.lt).cell 4
     have hm3 : ∀ X, Below W.heap.size W X → X.cell? ⟨M, 3, none⟩ = some (.int .i64 most) := fun X hX => (h.box.below hX h.box.lt).cell 3
     by_cases hmm : m = most
     · have ha : addS most T S = none := by
        rw [addS_fi, ← hf, ← hm, if_neg hS0, if_neg hfm, if_pos hmm]
       have HA := Lib.hid ha
       subst hmm
       clear hm hf hks hSI hS h ha hS0 hn hrl hfm
       go_enter Tryz.func24, Tryz.ntmps24
       go_upto_region 3 with (fail)
       refine AX.region_below (by kernel_rfl) (by kernel_rfl) ?_
       repeat (go_big_quiet_step (first | (go_at_call 39; with_reducible exact AX.below_of (hk _))))
       refine wpQuiet_nil ?_
       rintro W2 ⟨p, rfl⟩
       obtain ⟨W2, hb2⟩ := p
       change Below _ _ _ at hb2
       have g4 := hm4 _ hb2
       have g3 := hm3 _ hb2
       clear hk hm5 hlk hm4 hm3
       go_wp2_with fail
       exact bodyPost_ret (v := .tuple #[.int .i64 0, .bool false]) (by simp [results, Tryz.results24, go_sem]) rfl (.inl ⟨HA.out, rfl, Ch.of_below hb2 _⟩)
     · have ha : addS most T S = some ((m : Int), T ++ [S]) := by
        rw [addS_fi, ← hf, ← hm, if_neg hS0, if_neg hfm, if_neg hmm]
       have HA := Lib.hid ha
       have HFM := Lib.hid hfm
       have hne : ((m : Int) == (most : Int)) = false := by simp; omega
       rw [← hm] at hT
       have hvl : vals.length = m := by rw [hm]; exact h.vl
       clear hm hf hks hSI hS h ha hS0 hn hrl hfm hmm
       go_enter Tryz.func24, Tryz.ntmps24
       go_upto_region 3 with (fail)
       refine AX.region_below (by kernel_rfl) (by kernel_rfl) ?_
       repeat (go_big_quiet_step (first | (go_at_call 39; with_reducible exact AX.below_of (hk _))))
       refine wpQuiet_nil ?_
       rintro W2 ⟨p, rfl⟩
       obtain ⟨W2, hb2⟩ := p
       change Below _ _ _ at hb2
       have g4 := hm4 _ hb2
       have g3 := hm3 _ hb2
       clear hk hm5 hlk hm4 hm3
       have HM2 := HM.out.below hb2
       have hb9 : base ≤ W2.heap.size := Nat.le_trans hb hb2.size
       have cB := (Bx.new W2 24 #[.slice aS n cS]).cell 0
       have hWa := (Below.refl W2.heap.size W2).alloc (Nat.le_refl _) (.cells #[.slice aS n cS] 24)
       have HMa := HM2.below hWa
       have hm0 : HMa.own = HMa.own := rfl
       have hown := HMa.own
       rw [← HMm.out] at hown
       have hba : base ≤ (W2.alloc (.cells #[.slice aS n cS] 24)).heap.size := Nat.le_trans hb9 hWa.size
       have hxb := HMa.box
       have hnoM := HMa.neM
       clear hm0
       go_wp2_with (first
        | (at_builtin; refine append_s _ base (.slice sa m sc) vals (.slice aS n cS) rfl _ _ rfl rfl m hvl hown W2.heap.size 1 rfl cB rfl (by omega) hba ?_; intro v' W5 h6 h7 h8; have hx5 : Bx W5 M 48 #[x0, x1, x2, .int .i64 most, .slice sa m sc, .map (some r)] := (h7.block M hxb.lt (fun e => hnoM e.symm)).trans hxb; obtain ⟨lv, cv, rfl⟩ := row_shape h6)
        | ((with_reducible refine st21_id ?_); refine AX.wpList_storeCell (o := 4) (v := .slice lv (m + 1) cv) rfl rfl rfl sz23 hx5 (show 4 < 6 by decide) ?_; rintro W6 g3' g4' g5'))
       have hx6 : Bx W6 M 48 #[x0, x1, x2, .int .i64 most, .slice lv (m + 1) cv, .map (some r)] := g3'
       have hl6 : Below 0 W5 W6 := AX.below_turn (Nat.zero_le _) (.inl hx6.lt) g4' g5'
       have r5 : W5.heap[r]? = some (.map (entsF 0 T).toArray T.length) := (h7.block r (Array.getElem?_eq_some_iff.1 HMa.map).1 (fun e => HMa.ner e.symm)).trans HMa.map
       have r6 : W6.heap[r]? = some (.map (entsF 0 T).toArray T.length) := (g4' r (fun e => HMa.ne e.symm)).trans r5
       have hSa : SAt (W2.alloc (.cells #[.slice aS n cS] 24)) (bads M r (.slice sa m sc) oth) (.slice aS n cS) S := by
        have := HS.out.ch (Ch.of_below (hb2.trans (hWa.mono hb2.size)) _)
        rw [← HN.out] at this
        exact this
       have c6 : Ch (bads M r (.slice sa m sc) oth) (W2.alloc (.cells #[.slice aS n cS] 24)) W6 := (Ch.of_grown h7 fun g hg => by unfold bads; simp [hg]).trans (Ch.of_turn (A := M) hl6 g4' (by unfold bads; simp))
       have hS6 := hSa.ch c6
       have hMr := HMa.ne
       have hk6 : ∀ X, Ch [r] W6 X → Calls Tryz.prog 39 #[.slice aS n cS] X fun e w' => e = .returned (.string ks) ∧ Below X.heap.size X w' := fun X hX => by
        obtain ⟨a', c', he, hI⟩ := (hS6.ch (hX.mono fun b hb _ => by unfold bads; simp at hb; simp [hb])).irow
        cases he
        rw [HKS.out]
        have := key_k S hSl hSm aS cS X hI
        rw [← HN.out] at this
        exact this
       obtain ⟨C, hCi, hCo⟩ : ∃ C : World → Prop, (∀ X, C X → Ch [r] W6 X) ∧ ∀ X, Ch [r] W6 X → C X := ⟨fun X => Ch [r] W6 X, fun _ h => h, fun _ h => h⟩
       have hC0 : C W6.drew := hCo _ (Ch.of_below (Below.refl _ W6).drew _)
       haveI : Inhabited (AX.CW C) := ⟨⟨_, hC0⟩⟩
       have hc5 : ∀ p : AX.CW C, p.W.cell? ⟨M, 5, none⟩ = some (.map (some r)) := fun p => ((hCi _ p.h).bx hx6 (by simpa using hMr)).cell 5
       have HCi := Lib.hid hCi
       have HCo := Lib.hid hCo
       have HMa' := Lib.hid HMa
       have H6 := Lib.hid h6
       have H8 := Lib.hid h8
       have HSa := Lib.hid hSa
       clear h6 h8 g3' hx5 hxb hown hnoM hSa c6 hS6 HMa HM2 cB hCi hCo g3 g4 r5
       refine AX.region_mixF (C := fun W => ∃ p : AX.CW C, W = p.W) row21_9 inf21_9 (by kernel_rfl) (by kernel_rfl) (by kernel_rfl) (by kernel_rfl) fit21_9 (by intro c a d v w h; cases d <;> exact h) ⟨⟨_, hC0⟩, rfl⟩ ?_
       unfold row21_9
       repeat (refine AX.mix_plain _ (by rfl) ?_; go_big_quiet_step (fail); refine wpQuiet_nil ?_)
       refine AX.mix_call2 (hk6 _ (HCi.out _ hC0)) (by rfl) (by rfl) (by rfl) Tryz.func39 (by kernel_rfl) (by rfl) (by simp only [List.map_toArray, List.map_cons, List.map_nil]; rfl) ?_
       rintro e W7 ⟨rfl, hb7⟩
       have c7 : Ch [r] W6 W7 := (HCi.out _ hC0).trans (Ch.of_below hb7 _)
       have r7 : W7.heap[r]? = some (.map (entsF 0 T).toArray T.length) := (hb7.block r (Array.getElem?_eq_some_iff.1 r6).1).trans r6
       refine ⟨_, rfl, ⟨⟨_, HCo.out _ c7⟩, rfl⟩, ?_⟩
       simp only [Act.put, List.setIfInBounds_toArray, List.set_cons_succ, List.set_cons_zero]
       refine AX.mix_op _ (by rfl) (by rfl) ?_
       refine oper_upd52 HMm.out HKS.out (by rfl) (by rfl) (by rfl) r7 hSm HMa'.out.small (by rw [← HMm.out, ← HF.out]; exact HFM.out) ?_
       intro W8 hm8 hb8
       have c8 : Ch [r] W6 W8 := c7.trans (Ch.of_but hb8 (by simp))
       refine ⟨⟨⟨_, HCo.out _ c8⟩, rfl⟩, ?_⟩
       have hp := HMa'.out.push HSa.out hSm (v' := .slice lv (m + 1) cv) (by rw [← HMm.out]; exact H6.out) h7 H8.out hx6 g4' hl6 c8 hm8
       have hWa' : Ch (bads M r (.slice sa m sc) []) W (W2.alloc (.cells #[.slice aS n cS] 24)) := Ch.of_below (hb2.trans (hWa.mono hb2.size)) _
       have HP := Lib.hid hp
       have hzz : W.heap.size ≤ (W2.alloc (.cells #[.slice aS n cS] 24)).heap.size := Nat.le_trans hb2.size hWa.size
       have HWa := Lib.hid hWa'
       have HZ := Lib.hid hzz
       clear hp hWa' hzz hk6 hc5
       unfold AX.wpMix
       go_wp2_with fail
       exact bodyPost_ret (v := .tuple #[.int .i64 m, .bool true]) (by simp [results, Tryz.results24, go_sem]) rfl (.inr ⟨m, T ++ [S], _, _, HA.out, rfl, HP.out.1, HWa.out.trans HP.out.2, H8.out.imp id fun e => ⟨_, e, HZ.out⟩⟩)
end Go.Proofs.YtaadkdmbhckdeaaGreatDoor
