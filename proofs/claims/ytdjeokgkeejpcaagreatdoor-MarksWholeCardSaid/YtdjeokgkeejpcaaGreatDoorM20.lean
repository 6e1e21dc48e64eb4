/- Marks: marks.Marks 8. -/
import Derived.Test.YtdjeokgkeejpcaaGreatDoorM19
namespace Go.Proofs.YtdjeokgkeejpcaaGreatDoor
open Go Go.Proofs Go.RowKit
attribute [local go_sem] Oper.semAt_some
theorem oper_make {a : Act} {K : Act → World → Prop} {Q : Exit → Act → World → Prop} {d : Option Tmp} {t : TypeId} {x y : Operand} {ty : TypeId} {pos : String} {after : Array Edge} {w w' : World} {v1 v2 v : Value}
    (h1 : a.eval x = v1) (h2 : a.eval y = v2) (h : (Instr.makeSlice t v1 v2).run Tryz.prog w = .ok v w') (hK : K (a.put d v) w') :
    Oper.wp Tryz.prog { dst := d, op := .makeSlice t x y, type := ty, pos := pos, after := after, guard := none } a w K Q := by
  unfold Oper.wp
  simp only [execOp, h1, h2]
  rw [show (do let x ← Instr.makeSlice t v1 v2; pure (Next.value x) : Sem Next).run Tryz.prog w = .ok (.value v) w' by simp [h]]
  exact hK
structure MarksFrom (l : List Pt) (X : List Bool) (R : List Int) (first : Int) (M : List Int) (m : Nat) : Prop where
  len : M.length = l.length
  is : ∀ j, m ≤ j → j < l.length → it M j = markF l X R M first j
theorem foldl_same {α : Type} {p q : α → Bool} : ∀ (ks : List α) (b : Bool), (∀ k, k ∈ ks → p k = q k) → ks.foldl (fun b k => b && p k) b = ks.foldl (fun b k => b && q k) b
  | [], _, _ => rfl
  | k :: ks, b, h => by rw [List.foldl_cons, List.foldl_cons, h k (List.mem_cons_self ..), foldl_same ks _ fun k hk => h k (List.mem_cons_of_mem _ hk)]
theorem MarksFrom.step {l : List Pt} (hT : Tr l) {X : List Bool} {R M : List Int} {first : Int} {i : Nat} (hi : i < l.length) (h : MarksFrom l X R first M (i + 1)) : MarksFrom l X R first (M.set i (markF l X R M first i)) i := by
  refine ⟨by simp [h.len], fun j h1 h2 => ?_⟩
  have hs : ∀ v, sureF l R (M.set i v) first j = sureF l R M first j := fun v => by
    unfold sureF
    split
    · rfl
    · refine foldl_same (p := fun k : Int => decide (it (M.set i v) k.toNat = 3)) (q := fun k : Int => decide (it M k.toNat = 3)) _ _ fun k hk => ?_
      obtain ⟨c, rfl, h3, _⟩ := hT.kid h2 hk
      rw [Int.toNat_natCast, it_set_ne v (by omega)]
  have hm : ∀ v, markF l X R (M.set i v) first j = markF l X R M first j := fun v => by unfold markF; rw [hs]
  rw [hm]
  by_cases e : j = i
  · subst e; rw [it_set_self _ (by rw [h.len]; exact hi)]
  · rw [it_set_ne _ (Ne.symm e)]; exact h.is j (by omega) h2
theorem MarksFrom.ok {l : List Pt} {X : List Bool} {R M : List Int} {first : Int} (h : MarksFrom l X R first M 0) : MarksOk l X R first M := ⟨h.len, fun j hj => h.is j (Nat.zero_le _) hj⟩
/-- The marker and its rows in memory. -/
structure Mi (w : World) (hdr : Value) (n : Nat) (first : Int) (gs gr gm ta bm : Nat) (X : List Bool) (R M : List Int) (W : World) : Prop where
  b : Below w.heap.size w W
  s : Bx W gs 4 (bools X)
  r : Bx W gr 3 (intsA R)
  m : Bx W gm 3 (intsA M)
  a : Bx W ta 53 #[.pointer (some ⟨bm, 0, none⟩)]
  x : Bx W bm 58 #[hdr, .slice (some ⟨gs, 0, none⟩) n n, .slice (some ⟨gr, 0, none⟩) n n, .slice (some ⟨gm, 0, none⟩) n n, .int .i64 first]
theorem Mi.below {w : World} {hdr : Value} {n : Nat} {first : Int} {gs gr gm ta bm : Nat} {X : List Bool} {R M : List Int} {W Y : World} {q : Nat} (h : Mi w hdr n first gs gr gm ta bm X R M W) (hb : Below q W Y) (h0 : w.heap.size ≤ q) (h1 : gs < q) (h2 : gr < q) (h3 : gm < q) (h4 : ta < q) (h5 : bm < q) : Mi w hdr n first gs gr gm ta bm X R M Y :=
  ⟨h.b.trans (hb.mono h0), h.s.below hb h1, h.r.below hb h2, h.m.below hb h3, h.a.below hb h4, h.x.below hb h5⟩
structure Apart (w gs gr gm ta bm : Nat) : Prop where
  gm0 : w ≤ gm
  ms : gm ≠ gs
  mr : gm ≠ gr
  ma : gm ≠ ta
  mb : gm ≠ bm
def MkPost (l : List Pt) (k first : Int) (e : Ending) (W : World) : Prop := ∃ gm X M, e = .returned (.slice (some ⟨gm, 0, none⟩) l.length l.length) ∧ Bx W gm 3 (intsA M) ∧ StaleOk l X ∧ MarksOk l X (reachF l k) first M
def inf8_3 : List AX.Inf := [⟨0, 4096, 1, true⟩, ⟨0, 8192, 1, true⟩, ⟨2, 16384, 8192, false⟩, ⟨0, 32768, 1, true⟩, ⟨0, 65536, 2, true⟩, ⟨28, 131072, 98304, false⟩, ⟨0, 262144, 1, true⟩, ⟨64, 524288, 262144, true⟩, ⟨128, 1048576, 524288, false⟩, ⟨0, 2097152, 4, true⟩, ⟨805, 4194304, 3297280, true⟩, ⟨1024, 8388608, 4194304, false⟩, ⟨0, 128, 0, false⟩, ⟨8191, 0, 8388736, false⟩]
def plan8_3 : AX.Plan := .plain 0 (.plain 1 (.plain 3 (.plain 4 (.plain 6 (.plain 7 (.plain 9 (.three 2 (.three 5 (.two 8 (.plain 10 (.two 11 (.one 12 (.one 13 (.nil))) 12 (.one 11 (.one 13 (.nil))))) 12 (.one 8 (.plain 10 (.one 11 (.one 13 (.nil)))))) 8 (.two 5 (.plain 10 (.two 11 (.one 12 (.one 13 (.nil))) 12 (.one 11 (.one 13 (.nil))))) 12 (.one 5 (.plain 10 (.one 11 (.one 13 (.nil)))))) 12 (.two 5 (.one 8 (.plain 10 (.one 11 (.one 13 (.nil))))) 8 (.one 5 (.plain 10 (.one 11 (.one 13 (.nil))))))) 8 (.two 2 (.two 5 (.plain 10 (.two 11 (.one 12 (.one 13 (.nil))) 12 (.one 11 (.one 13 (.nil))))) 12 (.one 5 (.plain 10 (.one 11 (.one 13 (.nil)))))) 12 (.one 2 (.one 5 (.plain 10 (.one 11 (.one 13 (.nil))))))) 12 (.two 2 (.two 5 (.one 8 (.plain 10 (.one 11 (.one 13 (.nil))))) 8 (.one 5 (.plain 10 (.one 11 (.one 13 (.nil)))))) 8 (.one 2 (.one 5 (.plain 10 (.one 11 (.one 13 (.nil))))))))))))))
theorem fit8_3 : AX.planF inf8_3 plan8_3 0 14 = true := by kernel_rfl
def rowL8_6 : List (Nat × Nat) := [(0, 0), (1, 0), (2, 0), (3, 0), (4, 0), (5, 0), (6, 0), (7, 2), (8, 0), (9, 2)]
def inf8_6 : List AX.Inf := [⟨0, 268435456, 128, true⟩, ⟨1, 536870912, 268435456, true⟩, ⟨2, 1073741824, 536870912, true⟩, ⟨4, 2147483648, 1073741824, true⟩, ⟨0, 4294967296, 256, true⟩, ⟨0, 8589934592, 128, true⟩, ⟨0, 17179869184, 256, true⟩, ⟨96, 34359738368, 25769803776, false⟩, ⟨255, 68719476736, 6442450944, true⟩, ⟨511, 0, 103079215104, false⟩]
theorem fit8_6 : AX.mixF inf8_6 (AX.asF rowL8_6) 0 = true := by kernel_rfl
theorem fitl8_6 : AX.fitL inf8_6 9 rowL8_6 = true := by kernel_rfl
set_option maxRecDepth 100000 in
set_option maxHeartbeats 16000000 in
theorem marks8_k (l : List Pt) (hl : l.length ≤ 120) (hT : TrOk l) (la : Option Addr) (c : Nat) (k first : Int) (hk0 : 0 ≤ k) (hk1 : k ≤ 9223372036854775807) (w0 : World) (hR0 : PRow w0 la l) :
    Calls Tryz.prog 8 #[.slice la l.length c, .int .i64 k, .int .i64 first] w0 fun e w' => MkPost l k first e w' ∧ Below w0.heap.size w0 w' := by
  have h18 := fun n => (callsIn_wide (n := n)).2 (ck18_k l hl hT la c w0 hR0)
  have h19' := fun (W : World) (hb : Below w0.heap.size w0 W) => stale19_k l hl hT la c W (hR0.below hb (Nat.le_refl _))
  have h20' := fun (W : World) (hb : Below w0.heap.size w0 W) => reach20_k l hl hT la c k hk0 hk1 W (hR0.below hb (Nat.le_refl _))
  have h21 := fun n W => (callsIn_wide (n := n)).2 (back21_k l la c W)
  have hmk := fun W => makeI l.length (by omega) W
  have hTr := hT.tr
  have hf18 : Fence.wide.fn 18 := trivial
  have hf21 : Fence.wide.fn 21 := trivial
  refine (callsIn_wide (n := 9)).1 (callsIn_of_wp_marks Tryz.func8 rfl trivial ?_ rfl)
  simp only [Tryz.ntmps8, List.size_toArray, List.length_cons, List.length_nil, Nat.reduceAdd, Nat.reduceSub, Array.replicate_succ, Array.replicate_zero, List.push_toArray, List.append_toArray, List.nil_append, List.cons_append]
  gi_upto_region 3 with (gi_at_call 18; ((with_reducible refine (h18 _).mono ?_); rintro e W1 ⟨rfl, hb1⟩))
  have hR := hR0.below hb1 (Nat.le_refl _)
  obtain ⟨w, hw⟩ : ∃ w, w = W1 := ⟨_, rfl⟩
  rw [← hw] at hb1 hR ⊢
  have h19 := fun (W : World) (hb : Below w.heap.size w W) => h19' W (hb1.trans (hb.mono hb1.size))
  have h20 := fun (W : World) (hb : Below w.heap.size w W) => h20' W (hb1.trans (hb.mono hb1.size))
  clear h18 h19' h20' hw
  obtain ⟨Rl, hRi, hRo⟩ : ∃ R : Act → World → Prop, (∀ a' W', R a' W' → ∃ gs X gr gm ta bm, a' = { tmps := #[.slice la l.length c, .int .i64 k, .int .i64 first, undef, undef, undef, .slice none 0 0, .pointer (some ⟨ta, 0, none⟩), undef, .slice la l.length c, .int .i64 0, .bool false, .slice la l.length c, .slice la l.length c, .slice (some ⟨gs, 0, none⟩) l.length l.length, .slice la l.length c, .int .i64 k, .slice (some ⟨gr, 0, none⟩) l.length l.length, .slice la l.length c, .int .i64 (l.length : Nat), .slice (some ⟨gm, 0, none⟩) l.length l.length, .int .i64 first, .agg #[.slice la l.length c, .slice (some ⟨gs, 0, none⟩) l.length l.length, .slice (some ⟨gr, 0, none⟩) l.length l.length, .slice (some ⟨gm, 0, none⟩) l.length l.length, .int .i64 first], .pointer (some ⟨bm, 0, none⟩), undef, undef, undef, undef, undef, undef, undef, undef, undef, undef, undef, undef, undef, undef, undef, undef, undef], defers := [] } ∧ StaleOk l X ∧ (reachF l k).length = l.length ∧ Mi w (.slice la l.length c) l.length first gs gr gm ta bm X (reachF l k) (List.replicate l.length 0) W' ∧ Apart w.heap.size gs gr gm ta bm) ∧
      (∀ a' W', (∃ gs X gr gm ta bm, a' = { tmps := #[.slice la l.length c, .int .i64 k, .int .i64 first, undef, undef, undef, .slice none 0 0, .pointer (some ⟨ta, 0, none⟩), undef, .slice la l.length c, .int .i64 0, .bool false, .slice la l.length c, .slice la l.length c, .slice (some ⟨gs, 0, none⟩) l.length l.length, .slice la l.length c, .int .i64 k, .slice (some ⟨gr, 0, none⟩) l.length l.length, .slice la l.length c, .int .i64 (l.length : Nat), .slice (some ⟨gm, 0, none⟩) l.length l.length, .int .i64 first, .agg #[.slice la l.length c, .slice (some ⟨gs, 0, none⟩) l.length l.length, .slice (some ⟨gr, 0, none⟩) l.length l.length, .slice (some ⟨gm, 0, none⟩) l.length l.length, .int .i64 first], .pointer (some ⟨bm, 0, none⟩), undef, undef, undef, undef, undef, undef, undef, undef, undef, undef, undef, undef, undef, undef, undef, undef, undef], defers := [] } ∧ StaleOk l X ∧ (reachF l k).length = l.length ∧ Mi w (.slice la l.length c) l.length first gs gr gm ta bm X (reachF l k) (List.replicate l.length 0) W' ∧ Apart w.heap.size gs gr gm ta bm) → R a' W') := ⟨_, fun _ _ h => h, fun _ _ h => h⟩
  have HRi := Lib.hid hRi
  have HRo := Lib.hid hRo
  clear hRi hRo
  refine AX.wpIn_meet Rl ?first ?rest
  case first =>
    obtain ⟨V0, hV0⟩ : ∃ V0, V0 = w.drew := ⟨_, rfl⟩
    have lo0 : Below w.heap.size w V0 := by rw [hV0]; exact (Below.refl _ w).drew
    refine AX.region_treeN (C := fun W' => ∃ p : BW w, W' = p.W) (ro := none) plan8_3 inf8_3 (by kernel_rfl) (by kernel_rfl) (by kernel_rfl) (by kernel_rfl) fit8_3 rfl ⟨⟨w.drew, (Below.refl _ w).drew⟩, rfl⟩ ?_
    rw [← hV0]
    clear hV0
    unfold plan8_3
    · skip
      refine AX.tree_plain _ (by rfl) ?_; go_big_quiet_step (fail); refine wpQuiet_nil ?_
      refine AX.tree_plain _ (by rfl) ?_; go_big_quiet_step (fail); refine wpQuiet_nil ?_
      refine AX.tree_plain _ (by rfl) ?_; go_big_quiet_step (fail); refine wpQuiet_nil ?_
      refine AX.tree_plain _ (by rfl) ?_; go_big_quiet_step (fail); refine wpQuiet_nil ?_
      refine AX.tree_plain _ (by rfl) ?_; go_big_quiet_step (fail); refine wpQuiet_nil ?_
      refine AX.tree_plain _ (by rfl) ?_; go_big_quiet_step (fail); refine wpQuiet_nil ?_
      refine AX.tree_plain _ (by rfl) ?_; go_big_quiet_step (fail); refine wpQuiet_nil ?_
      refine ⟨?_, ?_, ?_⟩
      · skip
        refine AX.tree_call (h19 V0 lo0) (by rfl) (by rfl) (by rfl) Tryz.func19 (by kernel_rfl) (by rfl) (by simp only [List.map_toArray, List.map_cons, List.map_nil]; rfl) ?_
        rintro e V1 ⟨⟨gs, X, rfl, hgs, hs1, hsx⟩, hbl1⟩
        have lo1 := lo0.trans (hbl1.mono lo0.size)
        refine ⟨_, rfl, ⟨⟨V1, lo1⟩, rfl⟩, ?_⟩
        (try simp only [Act.put, List.setIfInBounds_toArray, List.set_cons_succ, List.set_cons_zero])
        refine ⟨?_, ?_, ?_⟩
        · skip
          refine AX.tree_call (h20 V1 lo1) (by rfl) (by rfl) (by rfl) Tryz.func20 (by kernel_rfl) (by rfl) (by simp only [List.map_toArray, List.map_cons, List.map_nil]; rfl) ?_
          rintro e V2 ⟨⟨gr, rfl, hgr, hr2, hrl⟩, hbl2⟩
          have lo2 := lo1.trans (hbl2.mono lo1.size)
          have hs2 := hs1.below hbl2 hs1.lt
          refine ⟨_, rfl, ⟨⟨V2, lo2⟩, rfl⟩, ?_⟩
          (try simp only [Act.put, List.setIfInBounds_toArray, List.set_cons_succ, List.set_cons_zero])
          refine ⟨?_, ?_⟩
          · skip
            refine AX.tree_op _ (by rfl) (by rfl) ?_
            refine oper_make rfl rfl (hmk V2) ?_
            have hm3 := Bx.new V2 3 (intsA (List.replicate l.length 0))
            have hbl3 := (Below.refl _ V2).alloc (Nat.le_refl _) (.cells (intsA (List.replicate l.length 0)) 3)
            obtain ⟨gm, hgmd⟩ : ∃ q, q = V2.heap.size := ⟨_, rfl⟩
            rw [← hgmd] at hm3 ⊢
            generalize V2.alloc (.cells (intsA (List.replicate l.length 0)) 3) = V3 at *
            have lo3 := lo2.trans (hbl3.mono lo2.size)
            have hg0 : w.heap.size ≤ gm := by rw [hgmd]; exact lo2.size
            have hs3 := hs2.below hbl3 hs2.lt
            have hr3 := hr2.below hbl3 hr2.lt
            have ne_s : gm ≠ gs := by have := hs2.lt; omega
            have ne_r : gm ≠ gr := by have := hr2.lt; omega
            have HI2 := Lib.hid hgmd
            clear hgmd
            refine ⟨⟨⟨V3, lo3⟩, rfl⟩, ?_⟩
            (try simp only [Act.put, List.setIfInBounds_toArray, List.set_cons_succ, List.set_cons_zero])
            refine AX.tree_plain _ (by rfl) ?_; go_big_quiet_step (fail); refine wpQuiet_nil ?_
            refine ⟨?_, ?_⟩
            · skip
              refine AX.tree_op _ (by rfl) (by rfl) ?_
              unfold Oper.wp
              go_simp
              have hb4 := Bx.new V3 58 #[.slice la l.length c, .slice (some ⟨gs, 0, none⟩) l.length l.length, .slice (some ⟨gr, 0, none⟩) l.length l.length, .slice (some ⟨gm, 0, none⟩) l.length l.length, .int .i64 first]
              have hbl4 := (Below.refl _ V3).alloc (Nat.le_refl _) (.cells #[.slice la l.length c, .slice (some ⟨gs, 0, none⟩) l.length l.length, .slice (some ⟨gr, 0, none⟩) l.length l.length, .slice (some ⟨gm, 0, none⟩) l.length l.length, .int .i64 first] 58)
              obtain ⟨bm, hbmd⟩ : ∃ q, q = V3.heap.size := ⟨_, rfl⟩
              rw [← hbmd] at hb4 ⊢
              generalize V3.alloc (.cells #[.slice la l.length c, .slice (some ⟨gs, 0, none⟩) l.length l.length, .slice (some ⟨gr, 0, none⟩) l.length l.length, .slice (some ⟨gm, 0, none⟩) l.length l.length, .int .i64 first] 58) = V4 at *
              have lo4 := lo3.trans (hbl4.mono lo3.size)
              have hs4 := hs3.below hbl4 hs3.lt
              have hr4 := hr3.below hbl4 hr3.lt
              have hm4 := hm3.below hbl4 hm3.lt
              have ne_b : gm ≠ bm := by have := hm3.lt; omega
              have HI3 := Lib.hid hbmd
              clear hbmd
              refine ⟨⟨⟨V4, lo4⟩, rfl⟩, ?_⟩
              (try simp only [Act.put, List.setIfInBounds_toArray, List.set_cons_succ, List.set_cons_zero])
              refine AX.tree_op _ (by rfl) (by rfl) ?_
              unfold Oper.wp
              go_simp
              have ha5 := Bx.new V4 53 #[.pointer none]
              have hbl5 := (Below.refl _ V4).alloc (Nat.le_refl _) (.cells #[.pointer none] 53)
              obtain ⟨ta, htad⟩ : ∃ q, q = V4.heap.size := ⟨_, rfl⟩
              rw [← htad] at ha5 ⊢
              generalize V4.alloc (.cells #[.pointer none] 53) = V5 at *
              have lo5 := lo4.trans (hbl5.mono lo4.size)
              have hs5 := hs4.below hbl5 hs4.lt
              have hr5 := hr4.below hbl5 hr4.lt
              have hm5 := hm4.below hbl5 hm4.lt
              have hb5 := hb4.below hbl5 hb4.lt
              have ne_a : gm ≠ ta := by have := hm4.lt; omega
              have hta : w.heap.size ≤ ta := by rw [htad]; exact lo4.size
              have HI4 := Lib.hid htad
              clear htad
              refine ⟨⟨⟨V5, lo5⟩, rfl⟩, ?_⟩
              (try simp only [Act.put, List.setIfInBounds_toArray, List.set_cons_succ, List.set_cons_zero])
              refine AX.tree_op _ (by rfl) (by rfl) ?_
              refine AX.oper_storeCell (o := 0) (v := .pointer (some ⟨bm, 0, none⟩)) rfl rfl rfl sz53 ha5 (show 0 < 1 by decide) ?_
              rintro V6 i3 i4 i5
              have ha6 : Bx V6 ta 53 #[.pointer (some ⟨bm, 0, none⟩)] := i3
              have hba : bm ≠ ta := by have := ha5; intro e; rw [e] at hb5; have h9 := hb5.symm.trans ha5; simp at h9
              have hn_s : gs ≠ ta := by intro e; have h9 := ha5; rw [← e] at h9; have h8 := (show V5.heap[gs]? = _ from hs5).symm.trans h9; simp at h8
              have hs6 := hs5.same (i4 _ hn_s)
              have hn_r : gr ≠ ta := by intro e; have h9 := ha5; rw [← e] at h9; have h8 := (show V5.heap[gr]? = _ from hr5).symm.trans h9; simp at h8
              have hr6 := hr5.same (i4 _ hn_r)
              have hn_b : bm ≠ ta := hba
              have hb6 := hb5.same (i4 _ hn_b)
              have hm6 := hm5.same (i4 _ ne_a)
              have lo6 := lo5.trans (AX.below_turn (n := w.heap.size) hta (.inl ha6.lt) i4 i5)
              refine ⟨⟨⟨V6, lo6⟩, rfl⟩, ?_⟩
              (try simp only [Act.put, List.setIfInBounds_toArray, List.set_cons_succ, List.set_cons_zero])
              unfold AX.wpTree
              exact ⟨rfl, HRo.out _ _ ⟨gs, X, gr, gm, ta, bm, rfl, hsx, hrl, ⟨lo6, hs6, hr6, hm6, ha6, hb6⟩, ⟨hg0, ne_s, ne_r, ne_a, ne_b⟩⟩⟩
            · skip
              refine AX.tree_op _ (by rfl) (by rfl) ?_
              unfold Oper.wp
              go_simp
              have ha4 := Bx.new V3 53 #[.pointer none]
              have hbl4 := (Below.refl _ V3).alloc (Nat.le_refl _) (.cells #[.pointer none] 53)
              obtain ⟨ta, htad⟩ : ∃ q, q = V3.heap.size := ⟨_, rfl⟩
              rw [← htad] at ha4 ⊢
              generalize V3.alloc (.cells #[.pointer none] 53) = V4 at *
              have lo4 := lo3.trans (hbl4.mono lo3.size)
              have hs4 := hs3.below hbl4 hs3.lt
              have hr4 := hr3.below hbl4 hr3.lt
              have hm4 := hm3.below hbl4 hm3.lt
              have ne_a : gm ≠ ta := by have := hm3.lt; omega
              have hta : w.heap.size ≤ ta := by rw [htad]; exact lo3.size
              have HI3 := Lib.hid htad
              clear htad
              refine ⟨⟨⟨V4, lo4⟩, rfl⟩, ?_⟩
              (try simp only [Act.put, List.setIfInBounds_toArray, List.set_cons_succ, List.set_cons_zero])
              refine AX.tree_op _ (by rfl) (by rfl) ?_
              unfold Oper.wp
              go_simp
              have hb5 := Bx.new V4 58 #[.slice la l.length c, .slice (some ⟨gs, 0, none⟩) l.length l.length, .slice (some ⟨gr, 0, none⟩) l.length l.length, .slice (some ⟨gm, 0, none⟩) l.length l.length, .int .i64 first]
              have hbl5 := (Below.refl _ V4).alloc (Nat.le_refl _) (.cells #[.slice la l.length c, .slice (some ⟨gs, 0, none⟩) l.length l.length, .slice (some ⟨gr, 0, none⟩) l.length l.length, .slice (some ⟨gm, 0, none⟩) l.length l.length, .int .i64 first] 58)
              obtain ⟨bm, hbmd⟩ : ∃ q, q = V4.heap.size := ⟨_, rfl⟩
              rw [← hbmd] at hb5 ⊢
              generalize V4.alloc (.cells #[.slice la l.length c, .slice (some ⟨gs, 0, none⟩) l.length l.length, .slice (some ⟨gr, 0, none⟩) l.length l.length, .slice (some ⟨gm, 0, none⟩) l.length l.length, .int .i64 first] 58) = V5 at *
              have lo5 := lo4.trans (hbl5.mono lo4.size)
              have hs5 := hs4.below hbl5 hs4.lt
              have hr5 := hr4.below hbl5 hr4.lt
              have hm5 := hm4.below hbl5 hm4.lt
              have ha5 := ha4.below hbl5 ha4.lt
              have ne_b : gm ≠ bm := by have := hm4.lt; omega
              have HI4 := Lib.hid hbmd
              clear hbmd
              refine ⟨⟨⟨V5, lo5⟩, rfl⟩, ?_⟩
              (try simp only [Act.put, List.setIfInBounds_toArray, List.set_cons_succ, List.set_cons_zero])
              refine AX.tree_op _ (by rfl) (by rfl) ?_
              refine AX.oper_storeCell (o := 0) (v := .pointer (some ⟨bm, 0, none⟩)) rfl rfl rfl sz53 ha5 (show 0 < 1 by decide) ?_
              rintro V6 i3 i4 i5
              have ha6 : Bx V6 ta 53 #[.pointer (some ⟨bm, 0, none⟩)] := i3
              have hba : bm ≠ ta := by have := ha5; intro e; rw [e] at hb5; have h9 := hb5.symm.trans ha5; simp at h9
              have hn_s : gs ≠ ta := by intro e; have h9 := ha5; rw [← e] at h9; have h8 := (show V5.heap[gs]? = _ from hs5).symm.trans h9; simp at h8
              have hs6 := hs5.same (i4 _ hn_s)
              have hn_r : gr ≠ ta := by intro e; have h9 := ha5; rw [← e] at h9; have h8 := (show V5.heap[gr]? = _ from hr5).symm.trans h9; simp at h8
              have hr6 := hr5.same (i4 _ hn_r)
              have hn_b : bm ≠ ta := hba
              have hb6 := hb5.same (i4 _ hn_b)
              have hm6 := hm5.same (i4 _ ne_a)
              have lo6 := lo5.trans (AX.below_turn (n := w.heap.size) hta (.inl ha6.lt) i4 i5)
              refine ⟨⟨⟨V6, lo6⟩, rfl⟩, ?_⟩
              (try simp only [Act.put, List.setIfInBounds_toArray, List.set_cons_succ, List.set_cons_zero])
              unfold AX.wpTree
              exact ⟨rfl, HRo.out _ _ ⟨gs, X, gr, gm, ta, bm, rfl, hsx, hrl, ⟨lo6, hs6, hr6, hm6, ha6, hb6⟩, ⟨hg0, ne_s, ne_r, ne_a, ne_b⟩⟩⟩
          · skip
            refine AX.tree_op _ (by rfl) (by rfl) ?_
            unfold Oper.wp
            go_simp
            have ha3 := Bx.new V2 53 #[.pointer none]
            have hbl3 := (Below.refl _ V2).alloc (Nat.le_refl _) (.cells #[.pointer none] 53)
            obtain ⟨ta, htad⟩ : ∃ q, q = V2.heap.size := ⟨_, rfl⟩
            rw [← htad] at ha3 ⊢
            generalize V2.alloc (.cells #[.pointer none] 53) = V3 at *
            have lo3 := lo2.trans (hbl3.mono lo2.size)
            have hs3 := hs2.below hbl3 hs2.lt
            have hr3 := hr2.below hbl3 hr2.lt
            have hta : w.heap.size ≤ ta := by rw [htad]; exact lo2.size
            have HI2 := Lib.hid htad
            clear htad
            refine ⟨⟨⟨V3, lo3⟩, rfl⟩, ?_⟩
            (try simp only [Act.put, List.setIfInBounds_toArray, List.set_cons_succ, List.set_cons_zero])
            refine AX.tree_op _ (by rfl) (by rfl) ?_
            refine oper_make rfl rfl (hmk V3) ?_
            have hm4 := Bx.new V3 3 (intsA (List.replicate l.length 0))
            have hbl4 := (Below.refl _ V3).alloc (Nat.le_refl _) (.cells (intsA (List.replicate l.length 0)) 3)
            obtain ⟨gm, hgmd⟩ : ∃ q, q = V3.heap.size := ⟨_, rfl⟩
            rw [← hgmd] at hm4 ⊢
            generalize V3.alloc (.cells (intsA (List.replicate l.length 0)) 3) = V4 at *
            have lo4 := lo3.trans (hbl4.mono lo3.size)
            have hg0 : w.heap.size ≤ gm := by rw [hgmd]; exact lo3.size
            have hs4 := hs3.below hbl4 hs3.lt
            have hr4 := hr3.below hbl4 hr3.lt
            have ha4 := ha3.below hbl4 ha3.lt
            have ne_s : gm ≠ gs := by have := hs3.lt; omega
            have ne_r : gm ≠ gr := by have := hr3.lt; omega
            have ne_a : gm ≠ ta := by have := ha3.lt; omega
            have HI3 := Lib.hid hgmd
            clear hgmd
            refine ⟨⟨⟨V4, lo4⟩, rfl⟩, ?_⟩
            (try simp only [Act.put, List.setIfInBounds_toArray, List.set_cons_succ, List.set_cons_zero])
            refine AX.tree_plain _ (by rfl) ?_; go_big_quiet_step (fail); refine wpQuiet_nil ?_
            refine AX.tree_op _ (by rfl) (by rfl) ?_
            unfold Oper.wp
            go_simp
            have hb5 := Bx.new V4 58 #[.slice la l.length c, .slice (some ⟨gs, 0, none⟩) l.length l.length, .slice (some ⟨gr, 0, none⟩) l.length l.length, .slice (some ⟨gm, 0, none⟩) l.length l.length, .int .i64 first]
            have hbl5 := (Below.refl _ V4).alloc (Nat.le_refl _) (.cells #[.slice la l.length c, .slice (some ⟨gs, 0, none⟩) l.length l.length, .slice (some ⟨gr, 0, none⟩) l.length l.length, .slice (some ⟨gm, 0, none⟩) l.length l.length, .int .i64 first] 58)
            obtain ⟨bm, hbmd⟩ : ∃ q, q = V4.heap.size := ⟨_, rfl⟩
            rw [← hbmd] at hb5 ⊢
            generalize V4.alloc (.cells #[.slice la l.length c, .slice (some ⟨gs, 0, none⟩) l.length l.length, .slice (some ⟨gr, 0, none⟩) l.length l.length, .slice (some ⟨gm, 0, none⟩) l.length l.length, .int .i64 first] 58) = V5 at *
            have lo5 := lo4.trans (hbl5.mono lo4.size)
            have hs5 := hs4.below hbl5 hs4.lt
            have hr5 := hr4.below hbl5 hr4.lt
            have ha5 := ha4.below hbl5 ha4.lt
            have hm5 := hm4.below hbl5 hm4.lt
            have ne_b : gm ≠ bm := by have := hm4.lt; omega
            have HI4 := Lib.hid hbmd
            clear hbmd
            refine ⟨⟨⟨V5, lo5⟩, rfl⟩, ?_⟩
            (try simp only [Act.put, List.setIfInBounds_toArray, List.set_cons_succ, List.set_cons_zero])
            refine AX.tree_op _ (by rfl) (by rfl) ?_
            refine AX.oper_storeCell (o := 0) (v := .pointer (some ⟨bm, 0, none⟩)) rfl rfl rfl sz53 ha5 (show 0 < 1 by decide) ?_
            rintro V6 i3 i4 i5
            have ha6 : Bx V6 ta 53 #[.pointer (some ⟨bm, 0, none⟩)] := i3
            have hba : bm ≠ ta := by have := ha5; intro e; rw [e] at hb5; have h9 := hb5.symm.trans ha5; simp at h9
            have hn_s : gs ≠ ta := by intro e; have h9 := ha5; rw [← e] at h9; have h8 := (show V5.heap[gs]? = _ from hs5).symm.trans h9; simp at h8
            have hs6 := hs5.same (i4 _ hn_s)
            have hn_r : gr ≠ ta := by intro e; have h9 := ha5; rw [← e] at h9; have h8 := (show V5.heap[gr]? = _ from hr5).symm.trans h9; simp at h8
            have hr6 := hr5.same (i4 _ hn_r)
            have hn_b : bm ≠ ta := hba
            have hb6 := hb5.same (i4 _ hn_b)
            have hm6 := hm5.same (i4 _ ne_a)
            have lo6 := lo5.trans (AX.below_turn (n := w.heap.size) hta (.inl ha6.lt) i4 i5)
            refine ⟨⟨⟨V6, lo6⟩, rfl⟩, ?_⟩
            (try simp only [Act.put, List.setIfInBounds_toArray, List.set_cons_succ, List.set_cons_zero])
            unfold AX.wpTree
            exact ⟨rfl, HRo.out _ _ ⟨gs, X, gr, gm, ta, bm, rfl, hsx, hrl, ⟨lo6, hs6, hr6, hm6, ha6, hb6⟩, ⟨hg0, ne_s, ne_r, ne_a, ne_b⟩⟩⟩
        · skip
          refine AX.tree_op _ (by rfl) (by rfl) ?_
          refine oper_make rfl rfl (hmk V1) ?_
          have hm2 := Bx.new V1 3 (intsA (List.replicate l.length 0))
          have hbl2 := (Below.refl _ V1).alloc (Nat.le_refl _) (.cells (intsA (List.replicate l.length 0)) 3)
          obtain ⟨gm, hgmd⟩ : ∃ q, q = V1.heap.size := ⟨_, rfl⟩
          rw [← hgmd] at hm2 ⊢
          generalize V1.alloc (.cells (intsA (List.replicate l.length 0)) 3) = V2 at *
          have lo2 := lo1.trans (hbl2.mono lo1.size)
          have hg0 : w.heap.size ≤ gm := by rw [hgmd]; exact lo1.size
          have hs2 := hs1.below hbl2 hs1.lt
          have ne_s : gm ≠ gs := by have := hs1.lt; omega
          have HI1 := Lib.hid hgmd
          clear hgmd
          refine ⟨⟨⟨V2, lo2⟩, rfl⟩, ?_⟩
          (try simp only [Act.put, List.setIfInBounds_toArray, List.set_cons_succ, List.set_cons_zero])
          refine ⟨?_, ?_⟩
          · skip
            refine AX.tree_call (h20 V2 lo2) (by rfl) (by rfl) (by rfl) Tryz.func20 (by kernel_rfl) (by rfl) (by simp only [List.map_toArray, List.map_cons, List.map_nil]; rfl) ?_
            rintro e V3 ⟨⟨gr, rfl, hgr, hr3, hrl⟩, hbl3⟩
            have lo3 := lo2.trans (hbl3.mono lo2.size)
            have hs3 := hs2.below hbl3 hs2.lt
            have hm3 := hm2.below hbl3 hm2.lt
            have ne_r : gm ≠ gr := by have := hm2.lt; omega
            refine ⟨_, rfl, ⟨⟨V3, lo3⟩, rfl⟩, ?_⟩
            (try simp only [Act.put, List.setIfInBounds_toArray, List.set_cons_succ, List.set_cons_zero])
            refine AX.tree_plain _ (by rfl) ?_; go_big_quiet_step (fail); refine wpQuiet_nil ?_
            refine ⟨?_, ?_⟩
            · skip
              refine AX.tree_op _ (by rfl) (by rfl) ?_
              unfold Oper.wp
              go_simp
              have hb4 := Bx.new V3 58 #[.slice la l.length c, .slice (some ⟨gs, 0, none⟩) l.length l.length, .slice (some ⟨gr, 0, none⟩) l.length l.length, .slice (some ⟨gm, 0, none⟩) l.length l.length, .int .i64 first]
              have hbl4 := (Below.refl _ V3).alloc (Nat.le_refl _) (.cells #[.slice la l.length c, .slice (some ⟨gs, 0, none⟩) l.length l.length, .slice (some ⟨gr, 0, none⟩) l.length l.length, .slice (some ⟨gm, 0, none⟩) l.length l.length, .int .i64 first] 58)
              obtain ⟨bm, hbmd⟩ : ∃ q, q = V3.heap.size := ⟨_, rfl⟩
              rw [← hbmd] at hb4 ⊢
              generalize V3.alloc (.cells #[.slice la l.length c, .slice (some ⟨gs, 0, none⟩) l.length l.length, .slice (some ⟨gr, 0, none⟩) l.length l.length, .slice (some ⟨gm, 0, none⟩) l.length l.length, .int .i64 first] 58) = V4 at *
              have lo4 := lo3.trans (hbl4.mono lo3.size)
              have hs4 := hs3.below hbl4 hs3.lt
              have hm4 := hm3.below hbl4 hm3.lt
              have hr4 := hr3.below hbl4 hr3.lt
              have ne_b : gm ≠ bm := by have := hm3.lt; omega
              have HI3 := Lib.hid hbmd
              clear hbmd
              refine ⟨⟨⟨V4, lo4⟩, rfl⟩, ?_⟩
              (try simp only [Act.put, List.setIfInBounds_toArray, List.set_cons_succ, List.set_cons_zero])
              refine AX.tree_op _ (by rfl) (by rfl) ?_
              unfold Oper.wp
              go_simp
              have ha5 := Bx.new V4 53 #[.pointer none]
              have hbl5 := (Below.refl _ V4).alloc (Nat.le_refl _) (.cells #[.pointer none] 53)
              obtain ⟨ta, htad⟩ : ∃ q, q = V4.heap.size := ⟨_, rfl⟩
              rw [← htad] at ha5 ⊢
              generalize V4.alloc (.cells #[.pointer none] 53) = V5 at *
              have lo5 := lo4.trans (hbl5.mono lo4.size)
              have hs5 := hs4.below hbl5 hs4.lt
              have hm5 := hm4.below hbl5 hm4.lt
              have hr5 := hr4.below hbl5 hr4.lt
              have hb5 := hb4.below hbl5 hb4.lt
              have ne_a : gm ≠ ta := by have := hm4.lt; omega
              have hta : w.heap.size ≤ ta := by rw [htad]; exact lo4.size
              have HI4 := Lib.hid htad
              clear htad
              refine ⟨⟨⟨V5, lo5⟩, rfl⟩, ?_⟩
              (try simp only [Act.put, List.setIfInBounds_toArray, List.set_cons_succ, List.set_cons_zero])
              refine AX.tree_op _ (by rfl) (by rfl) ?_
              refine AX.oper_storeCell (o := 0) (v := .pointer (some ⟨bm, 0, none⟩)) rfl rfl rfl sz53 ha5 (show 0 < 1 by decide) ?_
              rintro V6 i3 i4 i5
              have ha6 : Bx V6 ta 53 #[.pointer (some ⟨bm, 0, none⟩)] := i3
              have hba : bm ≠ ta := by have := ha5; intro e; rw [e] at hb5; have h9 := hb5.symm.trans ha5; simp at h9
              have hn_s : gs ≠ ta := by intro e; have h9 := ha5; rw [← e] at h9; have h8 := (show V5.heap[gs]? = _ from hs5).symm.trans h9; simp at h8
              have hs6 := hs5.same (i4 _ hn_s)
              have hn_r : gr ≠ ta := by intro e; have h9 := ha5; rw [← e] at h9; have h8 := (show V5.heap[gr]? = _ from hr5).symm.trans h9; simp at h8
              have hr6 := hr5.same (i4 _ hn_r)
              have hn_b : bm ≠ ta := hba
              have hb6 := hb5.same (i4 _ hn_b)
              have hm6 := hm5.same (i4 _ ne_a)
              have lo6 := lo5.trans (AX.below_turn (n := w.heap.size) hta (.inl ha6.lt) i4 i5)
              refine ⟨⟨⟨V6, lo6⟩, rfl⟩, ?_⟩
              (try simp only [Act.put, List.setIfInBounds_toArray, List.set_cons_succ, List.set_cons_zero])
              unfold AX.wpTree
              exact ⟨rfl, HRo.out _ _ ⟨gs, X, gr, gm, ta, bm, rfl, hsx, hrl, ⟨lo6, hs6, hr6, hm6, ha6, hb6⟩, ⟨hg0, ne_s, ne_r, ne_a, ne_b⟩⟩⟩
            · skip
              refine AX.tree_op _ (by rfl) (by rfl) ?_
              unfold Oper.wp
              go_simp
              have ha4 := Bx.new V3 53 #[.pointer none]
              have hbl4 := (Below.refl _ V3).alloc (Nat.le_refl _) (.cells #[.pointer none] 53)
              obtain ⟨ta, htad⟩ : ∃ q, q = V3.heap.size := ⟨_, rfl⟩
              rw [← htad] at ha4 ⊢
              generalize V3.alloc (.cells #[.pointer none] 53) = V4 at *
              have lo4 := lo3.trans (hbl4.mono lo3.size)
              have hs4 := hs3.below hbl4 hs3.lt
              have hm4 := hm3.below hbl4 hm3.lt
              have hr4 := hr3.below hbl4 hr3.lt
              have ne_a : gm ≠ ta := by have := hm3.lt; omega
              have hta : w.heap.size ≤ ta := by rw [htad]; exact lo3.size
              have HI3 := Lib.hid htad
              clear htad
              refine ⟨⟨⟨V4, lo4⟩, rfl⟩, ?_⟩
              (try simp only [Act.put, List.setIfInBounds_toArray, List.set_cons_succ, List.set_cons_zero])
              refine AX.tree_op _ (by rfl) (by rfl) ?_
              unfold Oper.wp
              go_simp
              have hb5 := Bx.new V4 58 #[.slice la l.length c, .slice (some ⟨gs, 0, none⟩) l.length l.length, .slice (some ⟨gr, 0, none⟩) l.length l.length, .slice (some ⟨gm, 0, none⟩) l.length l.length, .int .i64 first]
              have hbl5 := (Below.refl _ V4).alloc (Nat.le_refl _) (.cells #[.slice la l.length c, .slice (some ⟨gs, 0, none⟩) l.length l.length, .slice (some ⟨gr, 0, none⟩) l.length l.length, .slice (some ⟨gm, 0, none⟩) l.length l.length, .int .i64 first] 58)
              obtain ⟨bm, hbmd⟩ : ∃ q, q = V4.heap.size := ⟨_, rfl⟩
              rw [← hbmd] at hb5 ⊢
              generalize V4.alloc (.cells #[.slice la l.length c, .slice (some ⟨gs, 0, none⟩) l.length l.length, .slice (some ⟨gr, 0, none⟩) l.length l.length, .slice (some ⟨gm, 0, none⟩) l.length l.length, .int .i64 first] 58) = V5 at *
              have lo5 := lo4.trans (hbl5.mono lo4.size)
              have hs5 := hs4.below hbl5 hs4.lt
              have hm5 := hm4.below hbl5 hm4.lt
              have hr5 := hr4.below hbl5 hr4.lt
              have ha5 := ha4.below hbl5 ha4.lt
              have ne_b : gm ≠ bm := by have := hm4.lt; omega
              have HI4 := Lib.hid hbmd
              clear hbmd
              refine ⟨⟨⟨V5, lo5⟩, rfl⟩, ?_⟩
              (try simp only [Act.put, List.setIfInBounds_toArray, List.set_cons_succ, List.set_cons_zero])
              refine AX.tree_op _ (by rfl) (by rfl) ?_
              refine AX.oper_storeCell (o := 0) (v := .pointer (some ⟨bm, 0, none⟩)) rfl rfl rfl sz53 ha5 (show 0 < 1 by decide) ?_
              rintro V6 i3 i4 i5
              have ha6 : Bx V6 ta 53 #[.pointer (some ⟨bm, 0, none⟩)] := i3
              have hba : bm ≠ ta := by have := ha5; intro e; rw [e] at hb5; have h9 := hb5.symm.trans ha5; simp at h9
              have hn_s : gs ≠ ta := by intro e; have h9 := ha5; rw [← e] at h9; have h8 := (show V5.heap[gs]? = _ from hs5).symm.trans h9; simp at h8
              have hs6 := hs5.same (i4 _ hn_s)
              have hn_r : gr ≠ ta := by intro e; have h9 := ha5; rw [← e] at h9; have h8 := (show V5.heap[gr]? = _ from hr5).symm.trans h9; simp at h8
              have hr6 := hr5.same (i4 _ hn_r)
              have hn_b : bm ≠ ta := hba
              have hb6 := hb5.same (i4 _ hn_b)
              have hm6 := hm5.same (i4 _ ne_a)
              have lo6 := lo5.trans (AX.below_turn (n := w.heap.size) hta (.inl ha6.lt) i4 i5)
              refine ⟨⟨⟨V6, lo6⟩, rfl⟩, ?_⟩
              (try simp only [Act.put, List.setIfInBounds_toArray, List.set_cons_succ, List.set_cons_zero])
              unfold AX.wpTree
              exact ⟨rfl, HRo.out _ _ ⟨gs, X, gr, gm, ta, bm, rfl, hsx, hrl, ⟨lo6, hs6, hr6, hm6, ha6, hb6⟩, ⟨hg0, ne_s, ne_r, ne_a, ne_b⟩⟩⟩
          · skip
            refine AX.tree_op _ (by rfl) (by rfl) ?_
            unfold Oper.wp
            go_simp
            have ha3 := Bx.new V2 53 #[.pointer none]
            have hbl3 := (Below.refl _ V2).alloc (Nat.le_refl _) (.cells #[.pointer none] 53)
            obtain ⟨ta, htad⟩ : ∃ q, q = V2.heap.size := ⟨_, rfl⟩
            rw [← htad] at ha3 ⊢
            generalize V2.alloc (.cells #[.pointer none] 53) = V3 at *
            have lo3 := lo2.trans (hbl3.mono lo2.size)
            have hs3 := hs2.below hbl3 hs2.lt
            have hm3 := hm2.below hbl3 hm2.lt
            have ne_a : gm ≠ ta := by have := hm2.lt; omega
            have hta : w.heap.size ≤ ta := by rw [htad]; exact lo2.size
            have HI2 := Lib.hid htad
            clear htad
            refine ⟨⟨⟨V3, lo3⟩, rfl⟩, ?_⟩
            (try simp only [Act.put, List.setIfInBounds_toArray, List.set_cons_succ, List.set_cons_zero])
            refine AX.tree_call (h20 V3 lo3) (by rfl) (by rfl) (by rfl) Tryz.func20 (by kernel_rfl) (by rfl) (by simp only [List.map_toArray, List.map_cons, List.map_nil]; rfl) ?_
            rintro e V4 ⟨⟨gr, rfl, hgr, hr4, hrl⟩, hbl4⟩
            have lo4 := lo3.trans (hbl4.mono lo3.size)
            have hs4 := hs3.below hbl4 hs3.lt
            have hm4 := hm3.below hbl4 hm3.lt
            have ha4 := ha3.below hbl4 ha3.lt
            have ne_r : gm ≠ gr := by have := hm3.lt; omega
            refine ⟨_, rfl, ⟨⟨V4, lo4⟩, rfl⟩, ?_⟩
            (try simp only [Act.put, List.setIfInBounds_toArray, List.set_cons_succ, List.set_cons_zero])
            refine AX.tree_plain _ (by rfl) ?_; go_big_quiet_step (fail); refine wpQuiet_nil ?_
            refine AX.tree_op _ (by rfl) (by rfl) ?_
            unfold Oper.wp
            go_simp
            have hb5 := Bx.new V4 58 #[.slice la l.length c, .slice (some ⟨gs, 0, none⟩) l.length l.length, .slice (some ⟨gr, 0, none⟩) l.length l.length, .slice (some ⟨gm, 0, none⟩) l.length l.length, .int .i64 first]
            have hbl5 := (Below.refl _ V4).alloc (Nat.le_refl _) (.cells #[.slice la l.length c, .slice (some ⟨gs, 0, none⟩) l.length l.length, .slice (some ⟨gr, 0, none⟩) l.length l.length, .slice (some ⟨gm, 0, none⟩) l.length l.length, .int .i64 first] 58)
            obtain ⟨bm, hbmd⟩ : ∃ q, q = V4.heap.size := ⟨_, rfl⟩
            rw [← hbmd] at hb5 ⊢
            generalize V4.alloc (.cells #[.slice la l.length c, .slice (some ⟨gs, 0, none⟩) l.length l.length, .slice (some ⟨gr, 0, none⟩) l.length l.length, .slice (some ⟨gm, 0, none⟩) l.length l.length, .int .i64 first] 58) = V5 at *
            have lo5 := lo4.trans (hbl5.mono lo4.size)
            have hs5 := hs4.below hbl5 hs4.lt
            have hm5 := hm4.below hbl5 hm4.lt
            have ha5 := ha4.below hbl5 ha4.lt
            have hr5 := hr4.below hbl5 hr4.lt
            have ne_b : gm ≠ bm := by have := hm4.lt; omega
            have HI4 := Lib.hid hbmd
            clear hbmd
            refine ⟨⟨⟨V5, lo5⟩, rfl⟩, ?_⟩
            (try simp only [Act.put, List.setIfInBounds_toArray, List.set_cons_succ, List.set_cons_zero])
            refine AX.tree_op _ (by rfl) (by rfl) ?_
            refine AX.oper_storeCell (o := 0) (v := .pointer (some ⟨bm, 0, none⟩)) rfl rfl rfl sz53 ha5 (show 0 < 1 by decide) ?_
            rintro V6 i3 i4 i5
            have ha6 : Bx V6 ta 53 #[.pointer (some ⟨bm, 0, none⟩)] := i3
            have hba : bm ≠ ta := by have := ha5; intro e; rw [e] at hb5; have h9 := hb5.symm.trans ha5; simp at h9
            have hn_s : gs ≠ ta := by intro e; have h9 := ha5; rw [← e] at h9; have h8 := (show V5.heap[gs]? = _ from hs5).symm.trans h9; simp at h8
            have hs6 := hs5.same (i4 _ hn_s)
            have hn_r : gr ≠ ta := by intro e; have h9 := ha5; rw [← e] at h9; have h8 := (show V5.heap[gr]? = _ from hr5).symm.trans h9; simp at h8
            have hr6 := hr5.same (i4 _ hn_r)
            have hn_b : bm ≠ ta := hba
            have hb6 := hb5.same (i4 _ hn_b)
            have hm6 := hm5.same (i4 _ ne_a)
            have lo6 := lo5.trans (AX.below_turn (n := w.heap.size) hta (.inl ha6.lt) i4 i5)
            refine ⟨⟨⟨V6, lo6⟩, rfl⟩, ?_⟩
            (try simp only [Act.put, List.setIfInBounds_toArray, List.set_cons_succ, List.set_cons_zero])
            unfold AX.wpTree
            exact ⟨rfl, HRo.out _ _ ⟨gs, X, gr, gm, ta, bm, rfl, hsx, hrl, ⟨lo6, hs6, hr6, hm6, ha6, hb6⟩, ⟨hg0, ne_s, ne_r, ne_a, ne_b⟩⟩⟩
        · skip
          refine AX.tree_op _ (by rfl) (by rfl) ?_
          unfold Oper.wp
          go_simp
          have ha2 := Bx.new V1 53 #[.pointer none]
          have hbl2 := (Below.refl _ V1).alloc (Nat.le_refl _) (.cells #[.pointer none] 53)
          obtain ⟨ta, htad⟩ : ∃ q, q = V1.heap.size := ⟨_, rfl⟩
          rw [← htad] at ha2 ⊢
          generalize V1.alloc (.cells #[.pointer none] 53) = V2 at *
          have lo2 := lo1.trans (hbl2.mono lo1.size)
          have hs2 := hs1.below hbl2 hs1.lt
          have hta : w.heap.size ≤ ta := by rw [htad]; exact lo1.size
          have HI1 := Lib.hid htad
          clear htad
          refine ⟨⟨⟨V2, lo2⟩, rfl⟩, ?_⟩
          (try simp only [Act.put, List.setIfInBounds_toArray, List.set_cons_succ, List.set_cons_zero])
          refine ⟨?_, ?_⟩
          · skip
            refine AX.tree_call (h20 V2 lo2) (by rfl) (by rfl) (by rfl) Tryz.func20 (by kernel_rfl) (by rfl) (by simp only [List.map_toArray, List.map_cons, List.map_nil]; rfl) ?_
            rintro e V3 ⟨⟨gr, rfl, hgr, hr3, hrl⟩, hbl3⟩
            have lo3 := lo2.trans (hbl3.mono lo2.size)
            have hs3 := hs2.below hbl3 hs2.lt
            have ha3 := ha2.below hbl3 ha2.lt
            refine ⟨_, rfl, ⟨⟨V3, lo3⟩, rfl⟩, ?_⟩
            (try simp only [Act.put, List.setIfInBounds_toArray, List.set_cons_succ, List.set_cons_zero])
            refine AX.tree_op _ (by rfl) (by rfl) ?_
            refine oper_make rfl rfl (hmk V3) ?_
            have hm4 := Bx.new V3 3 (intsA (List.replicate l.length 0))
            have hbl4 := (Below.refl _ V3).alloc (Nat.le_refl _) (.cells (intsA (List.replicate l.length 0)) 3)
            obtain ⟨gm, hgmd⟩ : ∃ q, q = V3.heap.size := ⟨_, rfl⟩
            rw [← hgmd] at hm4 ⊢
            generalize V3.alloc (.cells (intsA (List.replicate l.length 0)) 3) = V4 at *
            have lo4 := lo3.trans (hbl4.mono lo3.size)
            have hg0 : w.heap.size ≤ gm := by rw [hgmd]; exact lo3.size
            have hs4 := hs3.below hbl4 hs3.lt
            have ha4 := ha3.below hbl4 ha3.lt
            have hr4 := hr3.below hbl4 hr3.lt
            have ne_s : gm ≠ gs := by have := hs3.lt; omega
            have ne_a : gm ≠ ta := by have := ha3.lt; omega
            have ne_r : gm ≠ gr := by have := hr3.lt; omega
            have HI3 := Lib.hid hgmd
            clear hgmd
            refine ⟨⟨⟨V4, lo4⟩, rfl⟩, ?_⟩
            (try simp only [Act.put, List.setIfInBounds_toArray, List.set_cons_succ, List.set_cons_zero])
            refine AX.tree_plain _ (by rfl) ?_; go_big_quiet_step (fail); refine wpQuiet_nil ?_
            refine AX.tree_op _ (by rfl) (by rfl) ?_
            unfold Oper.wp
            go_simp
            have hb5 := Bx.new V4 58 #[.slice la l.length c, .slice (some ⟨gs, 0, none⟩) l.length l.length, .slice (some ⟨gr, 0, none⟩) l.length l.length, .slice (some ⟨gm, 0, none⟩) l.length l.length, .int .i64 first]
            have hbl5 := (Below.refl _ V4).alloc (Nat.le_refl _) (.cells #[.slice la l.length c, .slice (some ⟨gs, 0, none⟩) l.length l.length, .slice (some ⟨gr, 0, none⟩) l.length l.length, .slice (some ⟨gm, 0, none⟩) l.length l.length, .int .i64 first] 58)
            obtain ⟨bm, hbmd⟩ : ∃ q, q = V4.heap.size := ⟨_, rfl⟩
            rw [← hbmd] at hb5 ⊢
            generalize V4.alloc (.cells #[.slice la l.length c, .slice (some ⟨gs, 0, none⟩) l.length l.length, .slice (some ⟨gr, 0, none⟩) l.length l.length, .slice (some ⟨gm, 0, none⟩) l.length l.length, .int .i64 first] 58) = V5 at *
            have lo5 := lo4.trans (hbl5.mono lo4.size)
            have hs5 := hs4.below hbl5 hs4.lt
            have ha5 := ha4.below hbl5 ha4.lt
            have hr5 := hr4.below hbl5 hr4.lt
            have hm5 := hm4.below hbl5 hm4.lt
            have ne_b : gm ≠ bm := by have := hm4.lt; omega
            have HI4 := Lib.hid hbmd
            clear hbmd
            refine ⟨⟨⟨V5, lo5⟩, rfl⟩, ?_⟩
            (try simp only [Act.put, List.setIfInBounds_toArray, List.set_cons_succ, List.set_cons_zero])
            refine AX.tree_op _ (by rfl) (by rfl) ?_
            refine AX.oper_storeCell (o := 0) (v := .pointer (some ⟨bm, 0, none⟩)) rfl rfl rfl sz53 ha5 (show 0 < 1 by decide) ?_
            rintro V6 i3 i4 i5
            have ha6 : Bx V6 ta 53 #[.pointer (some ⟨bm, 0, none⟩)] := i3
            have hba : bm ≠ ta := by have := ha5; intro e; rw [e] at hb5; have h9 := hb5.symm.trans ha5; simp at h9
            have hn_s : gs ≠ ta := by intro e; have h9 := ha5; rw [← e] at h9; have h8 := (show V5.heap[gs]? = _ from hs5).symm.trans h9; simp at h8
            have hs6 := hs5.same (i4 _ hn_s)
            have hn_r : gr ≠ ta := by intro e; have h9 := ha5; rw [← e] at h9; have h8 := (show V5.heap[gr]? = _ from hr5).symm.trans h9; simp at h8
            have hr6 := hr5.same (i4 _ hn_r)
            have hn_b : bm ≠ ta := hba
            have hb6 := hb5.same (i4 _ hn_b)
            have hm6 := hm5.same (i4 _ ne_a)
            have lo6 := lo5.trans (AX.below_turn (n := w.heap.size) hta (.inl ha6.lt) i4 i5)
            refine ⟨⟨⟨V6, lo6⟩, rfl⟩, ?_⟩
            (try simp only [Act.put, List.setIfInBounds_toArray, List.set_cons_succ, List.set_cons_zero])
            unfold AX.wpTree
            exact ⟨rfl, HRo.out _ _ ⟨gs, X, gr, gm, ta, bm, rfl, hsx, hrl, ⟨lo6, hs6, hr6, hm6, ha6, hb6⟩, ⟨hg0, ne_s, ne_r, ne_a, ne_b⟩⟩⟩
          · skip
            refine AX.tree_op _ (by rfl) (by rfl) ?_
            refine oper_make rfl rfl (hmk V2) ?_
            have hm3 := Bx.new V2 3 (intsA (List.replicate l.length 0))
            have hbl3 := (Below.refl _ V2).alloc (Nat.le_refl _) (.cells (intsA (List.replicate l.length 0)) 3)
            obtain ⟨gm, hgmd⟩ : ∃ q, q = V2.heap.size := ⟨_, rfl⟩
            rw [← hgmd] at hm3 ⊢
            generalize V2.alloc (.cells (intsA (List.replicate l.length 0)) 3) = V3 at *
            have lo3 := lo2.trans (hbl3.mono lo2.size)
            have hg0 : w.heap.size ≤ gm := by rw [hgmd]; exact lo2.size
            have hs3 := hs2.below hbl3 hs2.lt
            have ha3 := ha2.below hbl3 ha2.lt
            have ne_s : gm ≠ gs := by have := hs2.lt; omega
            have ne_a : gm ≠ ta := by have := ha2.lt; omega
            have HI2 := Lib.hid hgmd
            clear hgmd
            refine ⟨⟨⟨V3, lo3⟩, rfl⟩, ?_⟩
            (try simp only [Act.put, List.setIfInBounds_toArray, List.set_cons_succ, List.set_cons_zero])
            refine AX.tree_call (h20 V3 lo3) (by rfl) (by rfl) (by rfl) Tryz.func20 (by kernel_rfl) (by rfl) (by simp only [List.map_toArray, List.map_cons, List.map_nil]; rfl) ?_
            rintro e V4 ⟨⟨gr, rfl, hgr, hr4, hrl⟩, hbl4⟩
            have lo4 := lo3.trans (hbl4.mono lo3.size)
            have hs4 := hs3.below hbl4 hs3.lt
            have ha4 := ha3.below hbl4 ha3.lt
            have hm4 := hm3.below hbl4 hm3.lt
            have ne_r : gm ≠ gr := by have := hm3.lt; omega
            refine ⟨_, rfl, ⟨⟨V4, lo4⟩, rfl⟩, ?_⟩
            (try simp only [Act.put, List.setIfInBounds_toArray, List.set_cons_succ, List.set_cons_zero])
            refine AX.tree_plain _ (by rfl) ?_; go_big_quiet_step (fail); refine wpQuiet_nil ?_
            refine AX.tree_op _ (by rfl) (by rfl) ?_
            unfold Oper.wp
            go_simp
            have hb5 := Bx.new V4 58 #[.slice la l.length c, .slice (some ⟨gs, 0, none⟩) l.length l.length, .slice (some ⟨gr, 0, none⟩) l.length l.length, .slice (some ⟨gm, 0, none⟩) l.length l.length, .int .i64 first]
            have hbl5 := (Below.refl _ V4).alloc (Nat.le_refl _) (.cells #[.slice la l.length c, .slice (some ⟨gs, 0, none⟩) l.length l.length, .slice (some ⟨gr, 0, none⟩) l.length l.length, .slice (some ⟨gm, 0, none⟩) l.length l.length, .int .i64 first] 58)
            obtain ⟨bm, hbmd⟩ : ∃ q, q = V4.heap.size := ⟨_, rfl⟩
            rw [← hbmd] at hb5 ⊢
            generalize V4.alloc (.cells #[.slice la l.length c, .slice (some ⟨gs, 0, none⟩) l.length l.length, .slice (some ⟨gr, 0, none⟩) l.length l.length, .slice (some ⟨gm, 0, none⟩) l.length l.length, .int .i64 first] 58) = V5 at *
            have lo5 := lo4.trans (hbl5.mono lo4.size)
            have hs5 := hs4.below hbl5 hs4.lt
            have ha5 := ha4.below hbl5 ha4.lt
            have hm5 := hm4.below hbl5 hm4.lt
            have hr5 := hr4.below hbl5 hr4.lt
            have ne_b : gm ≠ bm := by have := hm4.lt; omega
            have HI4 := Lib.hid hbmd
            clear hbmd
            refine ⟨⟨⟨V5, lo5⟩, rfl⟩, ?_⟩
            (try simp only [Act.put, List.setIfInBounds_toArray, List.set_cons_succ, List.set_cons_zero])
            refine AX.tree_op _ (by rfl) (by rfl) ?_
            refine AX.oper_storeCell (o := 0) (v := .pointer (some ⟨bm, 0, none⟩)) rfl rfl rfl sz53 ha5 (show 0 < 1 by decide) ?_
            rintro V6 i3 i4 i5
            have ha6 : Bx V6 ta 53 #[.pointer (some ⟨bm, 0, none⟩)] := i3
            have hba : bm ≠ ta := by have := ha5; intro e; rw [e] at hb5; have h9 := hb5.symm.trans ha5; simp at h9
            have hn_s : gs ≠ ta := by intro e; have h9 := ha5; rw [← e] at h9; have h8 := (show V5.heap[gs]? = _ from hs5).symm.trans h9; simp at h8
            have hs6 := hs5.same (i4 _ hn_s)
            have hn_r : gr ≠ ta := by intro e; have h9 := ha5; rw [← e] at h9; have h8 := (show V5.heap[gr]? = _ from hr5).symm.trans h9; simp at h8
            have hr6 := hr5.same (i4 _ hn_r)
            have hn_b : bm ≠ ta := hba
            have hb6 := hb5.same (i4 _ hn_b)
            have hm6 := hm5.same (i4 _ ne_a)
            have lo6 := lo5.trans (AX.below_turn (n := w.heap.size) hta (.inl ha6.lt) i4 i5)
            refine ⟨⟨⟨V6, lo6⟩, rfl⟩, ?_⟩
            (try simp only [Act.put, List.setIfInBounds_toArray, List.set_cons_succ, List.set_cons_zero])
            unfold AX.wpTree
            exact ⟨rfl, HRo.out _ _ ⟨gs, X, gr, gm, ta, bm, rfl, hsx, hrl, ⟨lo6, hs6, hr6, hm6, ha6, hb6⟩, ⟨hg0, ne_s, ne_r, ne_a, ne_b⟩⟩⟩
      · skip
        refine AX.tree_op _ (by rfl) (by rfl) ?_
        refine oper_make rfl rfl (hmk V0) ?_
        have hm1 := Bx.new V0 3 (intsA (List.replicate l.length 0))
        have hbl1 := (Below.refl _ V0).alloc (Nat.le_refl _) (.cells (intsA (List.replicate l.length 0)) 3)
        obtain ⟨gm, hgmd⟩ : ∃ q, q = V0.heap.size := ⟨_, rfl⟩
        rw [← hgmd] at hm1 ⊢
        generalize V0.alloc (.cells (intsA (List.replicate l.length 0)) 3) = V1 at *
        have lo1 := lo0.trans (hbl1.mono lo0.size)
        have hg0 : w.heap.size ≤ gm := by rw [hgmd]; exact lo0.size
        have HI0 := Lib.hid hgmd
        clear hgmd
        refine ⟨⟨⟨V1, lo1⟩, rfl⟩, ?_⟩
        (try simp only [Act.put, List.setIfInBounds_toArray, List.set_cons_succ, List.set_cons_zero])
        refine ⟨?_, ?_⟩
        · skip
          refine AX.tree_call (h19 V1 lo1) (by rfl) (by rfl) (by rfl) Tryz.func19 (by kernel_rfl) (by rfl) (by simp only [List.map_toArray, List.map_cons, List.map_nil]; rfl) ?_
          rintro e V2 ⟨⟨gs, X, rfl, hgs, hs2, hsx⟩, hbl2⟩
          have lo2 := lo1.trans (hbl2.mono lo1.size)
          have hm2 := hm1.below hbl2 hm1.lt
          have ne_s : gm ≠ gs := by have := hm1.lt; omega
          refine ⟨_, rfl, ⟨⟨V2, lo2⟩, rfl⟩, ?_⟩
          (try simp only [Act.put, List.setIfInBounds_toArray, List.set_cons_succ, List.set_cons_zero])
          refine ⟨?_, ?_⟩
          · skip
            refine AX.tree_call (h20 V2 lo2) (by rfl) (by rfl) (by rfl) Tryz.func20 (by kernel_rfl) (by rfl) (by simp only [List.map_toArray, List.map_cons, List.map_nil]; rfl) ?_
            rintro e V3 ⟨⟨gr, rfl, hgr, hr3, hrl⟩, hbl3⟩
            have lo3 := lo2.trans (hbl3.mono lo2.size)
            have hm3 := hm2.below hbl3 hm2.lt
            have hs3 := hs2.below hbl3 hs2.lt
            have ne_r : gm ≠ gr := by have := hm2.lt; omega
            refine ⟨_, rfl, ⟨⟨V3, lo3⟩, rfl⟩, ?_⟩
            (try simp only [Act.put, List.setIfInBounds_toArray, List.set_cons_succ, List.set_cons_zero])
            refine AX.tree_plain _ (by rfl) ?_; go_big_quiet_step (fail); refine wpQuiet_nil ?_
            refine ⟨?_, ?_⟩
            · skip
              refine AX.tree_op _ (by rfl) (by rfl) ?_
              unfold Oper.wp
              go_simp
              have hb4 := Bx.new V3 58 #[.slice la l.length c, .slice (some ⟨gs, 0, none⟩) l.length l.length, .slice (some ⟨gr, 0, none⟩) l.length l.length, .slice (some ⟨gm, 0, none⟩) l.length l.length, .int .i64 first]
              have hbl4 := (Below.refl _ V3).alloc (Nat.le_refl _) (.cells #[.slice la l.length c, .slice (some ⟨gs, 0, none⟩) l.length l.length, .slice (some ⟨gr, 0, none⟩) l.length l.length, .slice (some ⟨gm, 0, none⟩) l.length l.length, .int .i64 first] 58)
              obtain ⟨bm, hbmd⟩ : ∃ q, q = V3.heap.size := ⟨_, rfl⟩
              rw [← hbmd] at hb4 ⊢
              generalize V3.alloc (.cells #[.slice la l.length c, .slice (some ⟨gs, 0, none⟩) l.length l.length, .slice (some ⟨gr, 0, none⟩) l.length l.length, .slice (some ⟨gm, 0, none⟩) l.length l.length, .int .i64 first] 58) = V4 at *
              have lo4 := lo3.trans (hbl4.mono lo3.size)
              have hm4 := hm3.below hbl4 hm3.lt
              have hs4 := hs3.below hbl4 hs3.lt
              have hr4 := hr3.below hbl4 hr3.lt
              have ne_b : gm ≠ bm := by have := hm3.lt; omega
              have HI3 := Lib.hid hbmd
              clear hbmd
              refine ⟨⟨⟨V4, lo4⟩, rfl⟩, ?_⟩
              (try simp only [Act.put, List.setIfInBounds_toArray, List.set_cons_succ, List.set_cons_zero])
              refine AX.tree_op _ (by rfl) (by rfl) ?_
              unfold Oper.wp
              go_simp
              have ha5 := Bx.new V4 53 #[.pointer none]
              have hbl5 := (Below.refl _ V4).alloc (Nat.le_refl _) (.cells #[.pointer none] 53)
              obtain ⟨ta, htad⟩ : ∃ q, q = V4.heap.size := ⟨_, rfl⟩
              rw [← htad] at ha5 ⊢
              generalize V4.alloc (.cells #[.pointer none] 53) = V5 at *
              have lo5 := lo4.trans (hbl5.mono lo4.size)
              have hm5 := hm4.below hbl5 hm4.lt
              have hs5 := hs4.below hbl5 hs4.lt
              have hr5 := hr4.below hbl5 hr4.lt
              have hb5 := hb4.below hbl5 hb4.lt
              have ne_a : gm ≠ ta := by have := hm4.lt; omega
              have hta : w.heap.size ≤ ta := by rw [htad]; exact lo4.size
              have HI4 := Lib.hid htad
              clear htad
              refine ⟨⟨⟨V5, lo5⟩, rfl⟩, ?_⟩
              (try simp only [Act.put, List.setIfInBounds_toArray, List.set_cons_succ, List.set_cons_zero])
              refine AX.tree_op _ (by rfl) (by rfl) ?_
              refine AX.oper_storeCell (o := 0) (v := .pointer (some ⟨bm, 0, none⟩)) rfl rfl rfl sz53 ha5 (show 0 < 1 by decide) ?_
              rintro V6 i3 i4 i5
              have ha6 : Bx V6 ta 53 #[.pointer (some ⟨bm, 0, none⟩)] := i3
              have hba : bm ≠ ta := by have := ha5; intro e; rw [e] at hb5; have h9 := hb5.symm.trans ha5; simp at h9
              have hn_s : gs ≠ ta := by intro e; have h9 := ha5; rw [← e] at h9; have h8 := (show V5.heap[gs]? = _ from hs5).symm.trans h9; simp at h8
              have hs6 := hs5.same (i4 _ hn_s)
              have hn_r : gr ≠ ta := by intro e; have h9 := ha5; rw [← e] at h9; have h8 := (show V5.heap[gr]? = _ from hr5).symm.trans h9; simp at h8
              have hr6 := hr5.same (i4 _ hn_r)
              have hn_b : bm ≠ ta := hba
              have hb6 := hb5.same (i4 _ hn_b)
              have hm6 := hm5.same (i4 _ ne_a)
              have lo6 := lo5.trans (AX.below_turn (n := w.heap.size) hta (.inl ha6.lt) i4 i5)
              refine ⟨⟨⟨V6, lo6⟩, rfl⟩, ?_⟩
              (try simp only [Act.put, List.setIfInBounds_toArray, List.set_cons_succ, List.set_cons_zero])
              unfold AX.wpTree
              exact ⟨rfl, HRo.out _ _ ⟨gs, X, gr, gm, ta, bm, rfl, hsx, hrl, ⟨lo6, hs6, hr6, hm6, ha6, hb6⟩, ⟨hg0, ne_s, ne_r, ne_a, ne_b⟩⟩⟩
            · skip
              refine AX.tree_op _ (by rfl) (by rfl) ?_
              unfold Oper.wp
              go_simp
              have ha4 := Bx.new V3 53 #[.pointer none]
              have hbl4 := (Below.refl _ V3).alloc (Nat.le_refl _) (.cells #[.pointer none] 53)
              obtain ⟨ta, htad⟩ : ∃ q, q = V3.heap.size := ⟨_, rfl⟩
              rw [← htad] at ha4 ⊢
              generalize V3.alloc (.cells #[.pointer none] 53) = V4 at *
              have lo4 := lo3.trans (hbl4.mono lo3.size)
              have hm4 := hm3.below hbl4 hm3.lt
              have hs4 := hs3.below hbl4 hs3.lt
              have hr4 := hr3.below hbl4 hr3.lt
              have ne_a : gm ≠ ta := by have := hm3.lt; omega
              have hta : w.heap.size ≤ ta := by rw [htad]; exact lo3.size
              have HI3 := Lib.hid htad
              clear htad
              refine ⟨⟨⟨V4, lo4⟩, rfl⟩, ?_⟩
              (try simp only [Act.put, List.setIfInBounds_toArray, List.set_cons_succ, List.set_cons_zero])
              refine AX.tree_op _ (by rfl) (by rfl) ?_
              unfold Oper.wp
              go_simp
              have hb5 := Bx.new V4 58 #[.slice la l.length c, .slice (some ⟨gs, 0, none⟩) l.length l.length, .slice (some ⟨gr, 0, none⟩) l.length l.length, .slice (some ⟨gm, 0, none⟩) l.length l.length, .int .i64 first]
              have hbl5 := (Below.refl _ V4).alloc (Nat.le_refl _) (.cells #[.slice la l.length c, .slice (some ⟨gs, 0, none⟩) l.length l.length, .slice (some ⟨gr, 0, none⟩) l.length l.length, .slice (some ⟨gm, 0, none⟩) l.length l.length, .int .i64 first] 58)
              obtain ⟨bm, hbmd⟩ : ∃ q, q = V4.heap.size := ⟨_, rfl⟩
              rw [← hbmd] at hb5 ⊢
              generalize V4.alloc (.cells #[.slice la l.length c, .slice (some ⟨gs, 0, none⟩) l.length l.length, .slice (some ⟨gr, 0, none⟩) l.length l.length, .slice (some ⟨gm, 0, none⟩) l.length l.length, .int .i64 first] 58) = V5 at *
              have lo5 := lo4.trans (hbl5.mono lo4.size)
              have hm5 := hm4.below hbl5 hm4.lt
              have hs5 := hs4.below hbl5 hs4.lt
              have hr5 := hr4.below hbl5 hr4.lt
              have ha5 := ha4.below hbl5 ha4.lt
              have ne_b : gm ≠ bm := by have := hm4.lt; omega
              have HI4 := Lib.hid hbmd
              clear hbmd
              refine ⟨⟨⟨V5, lo5⟩, rfl⟩, ?_⟩
              (try simp only [Act.put, List.setIfInBounds_toArray, List.set_cons_succ, List.set_cons_zero])
              refine AX.tree_op _ (by rfl) (by rfl) ?_
              refine AX.oper_storeCell (o := 0) (v := .pointer (some ⟨bm, 0, none⟩)) rfl rfl rfl sz53 ha5 (show 0 < 1 by decide) ?_
              rintro V6 i3 i4 i5
              have ha6 : Bx V6 ta 53 #[.pointer (some ⟨bm, 0, none⟩)] := i3
              have hba : bm ≠ ta := by have := ha5; intro e; rw [e] at hb5; have h9 := hb5.symm.trans ha5; simp at h9
              have hn_s : gs ≠ ta := by intro e; have h9 := ha5; rw [← e] at h9; have h8 := (show V5.heap[gs]? = _ from hs5).symm.trans h9; simp at h8
              have hs6 := hs5.same (i4 _ hn_s)
              have hn_r : gr ≠ ta := by intro e; have h9 := ha5; rw [← e] at h9; have h8 := (show V5.heap[gr]? = _ from hr5).symm.trans h9; simp at h8
              have hr6 := hr5.same (i4 _ hn_r)
              have hn_b : bm ≠ ta := hba
              have hb6 := hb5.same (i4 _ hn_b)
              have hm6 := hm5.same (i4 _ ne_a)
              have lo6 := lo5.trans (AX.below_turn (n := w.heap.size) hta (.inl ha6.lt) i4 i5)
              refine ⟨⟨⟨V6, lo6⟩, rfl⟩, ?_⟩
              (try simp only [Act.put, List.setIfInBounds_toArray, List.set_cons_succ, List.set_cons_zero])
              unfold AX.wpTree
              exact ⟨rfl, HRo.out _ _ ⟨gs, X, gr, gm, ta, bm, rfl, hsx, hrl, ⟨lo6, hs6, hr6, hm6, ha6, hb6⟩, ⟨hg0, ne_s, ne_r, ne_a, ne_b⟩⟩⟩
          · skip
            refine AX.tree_op _ (by rfl) (by rfl) ?_
            unfold Oper.wp
            go_simp
            have ha3 := Bx.new V2 53 #[.pointer none]
            have hbl3 := (Below.refl _ V2).alloc (Nat.le_refl _) (.cells #[.pointer none] 53)
            obtain ⟨ta, htad⟩ : ∃ q, q = V2.heap.size := ⟨_, rfl⟩
            rw [← htad] at ha3 ⊢
            generalize V2.alloc (.cells #[.pointer none] 53) = V3 at *
            have lo3 := lo2.trans (hbl3.mono lo2.size)
            have hm3 := hm2.below hbl3 hm2.lt
            have hs3 := hs2.below hbl3 hs2.lt
            have ne_a : gm ≠ ta := by have := hm2.lt; omega
            have hta : w.heap.size ≤ ta := by rw [htad]; exact lo2.size
            have HI2 := Lib.hid htad
            clear htad
            refine ⟨⟨⟨V3, lo3⟩, rfl⟩, ?_⟩
            (try simp only [Act.put, List.setIfInBounds_toArray, List.set_cons_succ, List.set_cons_zero])
            refine AX.tree_call (h20 V3 lo3) (by rfl) (by rfl) (by rfl) Tryz.func20 (by kernel_rfl) (by rfl) (by simp only [List.map_toArray, List.map_cons, List.map_nil]; rfl) ?_
            rintro e V4 ⟨⟨gr, rfl, hgr, hr4, hrl⟩, hbl4⟩
            have lo4 := lo3.trans (hbl4.mono lo3.size)
            have hm4 := hm3.below hbl4 hm3.lt
            have hs4 := hs3.below hbl4 hs3.lt
            have ha4 := ha3.below hbl4 ha3.lt
            have ne_r : gm ≠ gr := by have := hm3.lt; omega
            refine ⟨_, rfl, ⟨⟨V4, lo4⟩, rfl⟩, ?_⟩
            (try simp only [Act.put, List.setIfInBounds_toArray, List.set_cons_succ, List.set_cons_zero])
            refine AX.tree_plain _ (by rfl) ?_; go_big_quiet_step (fail); refine wpQuiet_nil ?_
            refine AX.tree_op _ (by rfl) (by rfl) ?_
            unfold Oper.wp
            go_simp
            have hb5 := Bx.new V4 58 #[.slice la l.length c, .slice (some ⟨gs, 0, none⟩) l.length l.length, .slice (some ⟨gr, 0, none⟩) l.length l.length, .slice (some ⟨gm, 0, none⟩) l.length l.length, .int .i64 first]
            have hbl5 := (Below.refl _ V4).alloc (Nat.le_refl _) (.cells #[.slice la l.length c, .slice (some ⟨gs, 0, none⟩) l.length l.length, .slice (some ⟨gr, 0, none⟩) l.length l.length, .slice (some ⟨gm, 0, none⟩) l.length l.length, .int .i64 first] 58)
            obtain ⟨bm, hbmd⟩ : ∃ q, q = V4.heap.size := ⟨_, rfl⟩
            rw [← hbmd] at hb5 ⊢
            generalize V4.alloc (.cells #[.slice la l.length c, .slice (some ⟨gs, 0, none⟩) l.length l.length, .slice (some ⟨gr, 0, none⟩) l.length l.length, .slice (some ⟨gm, 0, none⟩) l.length l.length, .int .i64 first] 58) = V5 at *
            have lo5 := lo4.trans (hbl5.mono lo4.size)
            have hm5 := hm4.below hbl5 hm4.lt
            have hs5 := hs4.below hbl5 hs4.lt
            have ha5 := ha4.below hbl5 ha4.lt
            have hr5 := hr4.below hbl5 hr4.lt
            have ne_b : gm ≠ bm := by have := hm4.lt; omega
            have HI4 := Lib.hid hbmd
            clear hbmd
            refine ⟨⟨⟨V5, lo5⟩, rfl⟩, ?_⟩
            (try simp only [Act.put, List.setIfInBounds_toArray, List.set_cons_succ, List.set_cons_zero])
            refine AX.tree_op _ (by rfl) (by rfl) ?_
            refine AX.oper_storeCell (o := 0) (v := .pointer (some ⟨bm, 0, none⟩)) rfl rfl rfl sz53 ha5 (show 0 < 1 by decide) ?_
            rintro V6 i3 i4 i5
            have ha6 : Bx V6 ta 53 #[.pointer (some ⟨bm, 0, none⟩)] := i3
            have hba : bm ≠ ta := by have := ha5; intro e; rw [e] at hb5; have h9 := hb5.symm.trans ha5; simp at h9
            have hn_s : gs ≠ ta := by intro e; have h9 := ha5; rw [← e] at h9; have h8 := (show V5.heap[gs]? = _ from hs5).symm.trans h9; simp at h8
            have hs6 := hs5.same (i4 _ hn_s)
            have hn_r : gr ≠ ta := by intro e; have h9 := ha5; rw [← e] at h9; have h8 := (show V5.heap[gr]? = _ from hr5).symm.trans h9; simp at h8
            have hr6 := hr5.same (i4 _ hn_r)
            have hn_b : bm ≠ ta := hba
            have hb6 := hb5.same (i4 _ hn_b)
            have hm6 := hm5.same (i4 _ ne_a)
            have lo6 := lo5.trans (AX.below_turn (n := w.heap.size) hta (.inl ha6.lt) i4 i5)
            refine ⟨⟨⟨V6, lo6⟩, rfl⟩, ?_⟩
            (try simp only [Act.put, List.setIfInBounds_toArray, List.set_cons_succ, List.set_cons_zero])
            unfold AX.wpTree
            exact ⟨rfl, HRo.out _ _ ⟨gs, X, gr, gm, ta, bm, rfl, hsx, hrl, ⟨lo6, hs6, hr6, hm6, ha6, hb6⟩, ⟨hg0, ne_s, ne_r, ne_a, ne_b⟩⟩⟩
        · skip
          refine AX.tree_op _ (by rfl) (by rfl) ?_
          unfold Oper.wp
          go_simp
          have ha2 := Bx.new V1 53 #[.pointer none]
          have hbl2 := (Below.refl _ V1).alloc (Nat.le_refl _) (.cells #[.pointer none] 53)
          obtain ⟨ta, htad⟩ : ∃ q, q = V1.heap.size := ⟨_, rfl⟩
          rw [← htad] at ha2 ⊢
          generalize V1.alloc (.cells #[.pointer none] 53) = V2 at *
          have lo2 := lo1.trans (hbl2.mono lo1.size)
          have hm2 := hm1.below hbl2 hm1.lt
          have ne_a : gm ≠ ta := by have := hm1.lt; omega
          have hta : w.heap.size ≤ ta := by rw [htad]; exact lo1.size
          have HI1 := Lib.hid htad
          clear htad
          refine ⟨⟨⟨V2, lo2⟩, rfl⟩, ?_⟩
          (try simp only [Act.put, List.setIfInBounds_toArray, List.set_cons_succ, List.set_cons_zero])
          refine AX.tree_call (h19 V2 lo2) (by rfl) (by rfl) (by rfl) Tryz.func19 (by kernel_rfl) (by rfl) (by simp only [List.map_toArray, List.map_cons, List.map_nil]; rfl) ?_
          rintro e V3 ⟨⟨gs, X, rfl, hgs, hs3, hsx⟩, hbl3⟩
          have lo3 := lo2.trans (hbl3.mono lo2.size)
          have hm3 := hm2.below hbl3 hm2.lt
          have ha3 := ha2.below hbl3 ha2.lt
          have ne_s : gm ≠ gs := by have := hm2.lt; omega
          refine ⟨_, rfl, ⟨⟨V3, lo3⟩, rfl⟩, ?_⟩
          (try simp only [Act.put, List.setIfInBounds_toArray, List.set_cons_succ, List.set_cons_zero])
          refine AX.tree_call (h20 V3 lo3) (by rfl) (by rfl) (by rfl) Tryz.func20 (by kernel_rfl) (by rfl) (by simp only [List.map_toArray, List.map_cons, List.map_nil]; rfl) ?_
          rintro e V4 ⟨⟨gr, rfl, hgr, hr4, hrl⟩, hbl4⟩
          have lo4 := lo3.trans (hbl4.mono lo3.size)
          have hm4 := hm3.below hbl4 hm3.lt
          have ha4 := ha3.below hbl4 ha3.lt
          have hs4 := hs3.below hbl4 hs3.lt
          have ne_r : gm ≠ gr := by have := hm3.lt; omega
          refine ⟨_, rfl, ⟨⟨V4, lo4⟩, rfl⟩, ?_⟩
          (try simp only [Act.put, List.setIfInBounds_toArray, List.set_cons_succ, List.set_cons_zero])
          refine AX.tree_plain _ (by rfl) ?_; go_big_quiet_step (fail); refine wpQuiet_nil ?_
          refine AX.tree_op _ (by rfl) (by rfl) ?_
          unfold Oper.wp
          go_simp
          have hb5 := Bx.new V4 58 #[.slice la l.length c, .slice (some ⟨gs, 0, none⟩) l.length l.length, .slice (some ⟨gr, 0, none⟩) l.length l.length, .slice (some ⟨gm, 0, none⟩) l.length l.length, .int .i64 first]
          have hbl5 := (Below.refl _ V4).alloc (Nat.le_refl _) (.cells #[.slice la l.length c, .slice (some ⟨gs, 0, none⟩) l.length l.length, .slice (some ⟨gr, 0, none⟩) l.length l.length, .slice (some ⟨gm, 0, none⟩) l.length l.length, .int .i64 first] 58)
          obtain ⟨bm, hbmd⟩ : ∃ q, q = V4.heap.size := ⟨_, rfl⟩
          rw [← hbmd] at hb5 ⊢
          generalize V4.alloc (.cells #[.slice la l.length c, .slice (some ⟨gs, 0, none⟩) l.length l.length, .slice (some ⟨gr, 0, none⟩) l.length l.length, .slice (some ⟨gm, 0, none⟩) l.length l.length, .int .i64 first] 58) = V5 at *
          have lo5 := lo4.trans (hbl5.mono lo4.size)
          have hm5 := hm4.below hbl5 hm4.lt
          have ha5 := ha4.below hbl5 ha4.lt
          have hs5 := hs4.below hbl5 hs4.lt
          have hr5 := hr4.below hbl5 hr4.lt
          have ne_b : gm ≠ bm := by have := hm4.lt; omega
          have HI4 := Lib.hid hbmd
          clear hbmd
          refine ⟨⟨⟨V5, lo5⟩, rfl⟩, ?_⟩
          (try simp only [Act.put, List.setIfInBounds_toArray, List.set_cons_succ, List.set_cons_zero])
          refine AX.tree_op _ (by rfl) (by rfl) ?_
          refine AX.oper_storeCell (o := 0) (v := .pointer (some ⟨bm, 0, none⟩)) rfl rfl rfl sz53 ha5 (show 0 < 1 by decide) ?_
          rintro V6 i3 i4 i5
          have ha6 : Bx V6 ta 53 #[.pointer (some ⟨bm, 0, none⟩)] := i3
          have hba : bm ≠ ta := by have := ha5; intro e; rw [e] at hb5; have h9 := hb5.symm.trans ha5; simp at h9
          have hn_s : gs ≠ ta := by intro e; have h9 := ha5; rw [← e] at h9; have h8 := (show V5.heap[gs]? = _ from hs5).symm.trans h9; simp at h8
          have hs6 := hs5.same (i4 _ hn_s)
          have hn_r : gr ≠ ta := by intro e; have h9 := ha5; rw [← e] at h9; have h8 := (show V5.heap[gr]? = _ from hr5).symm.trans h9; simp at h8
          have hr6 := hr5.same (i4 _ hn_r)
          have hn_b : bm ≠ ta := hba
          have hb6 := hb5.same (i4 _ hn_b)
          have hm6 := hm5.same (i4 _ ne_a)
          have lo6 := lo5.trans (AX.below_turn (n := w.heap.size) hta (.inl ha6.lt) i4 i5)
          refine ⟨⟨⟨V6, lo6⟩, rfl⟩, ?_⟩
          (try simp only [Act.put, List.setIfInBounds_toArray, List.set_cons_succ, List.set_cons_zero])
          unfold AX.wpTree
          exact ⟨rfl, HRo.out _ _ ⟨gs, X, gr, gm, ta, bm, rfl, hsx, hrl, ⟨lo6, hs6, hr6, hm6, ha6, hb6⟩, ⟨hg0, ne_s, ne_r, ne_a, ne_b⟩⟩⟩
      · skip
        refine AX.tree_op _ (by rfl) (by rfl) ?_
        unfold Oper.wp
        go_simp
        have ha1 := Bx.new V0 53 #[.pointer none]
        have hbl1 := (Below.refl _ V0).alloc (Nat.le_refl _) (.cells #[.pointer none] 53)
        obtain ⟨ta, htad⟩ : ∃ q, q = V0.heap.size := ⟨_, rfl⟩
        rw [← htad] at ha1 ⊢
        generalize V0.alloc (.cells #[.pointer none] 53) = V1 at *
        have lo1 := lo0.trans (hbl1.mono lo0.size)
        have hta : w.heap.size ≤ ta := by rw [htad]; exact lo0.size
        have HI0 := Lib.hid htad
        clear htad
        refine ⟨⟨⟨V1, lo1⟩, rfl⟩, ?_⟩
        (try simp only [Act.put, List.setIfInBounds_toArray, List.set_cons_succ, List.set_cons_zero])
        refine ⟨?_, ?_⟩
        · skip
          refine AX.tree_call (h19 V1 lo1) (by rfl) (by rfl) (by rfl) Tryz.func19 (by kernel_rfl) (by rfl) (by simp only [List.map_toArray, List.map_cons, List.map_nil]; rfl) ?_
          rintro e V2 ⟨⟨gs, X, rfl, hgs, hs2, hsx⟩, hbl2⟩
          have lo2 := lo1.trans (hbl2.mono lo1.size)
          have ha2 := ha1.below hbl2 ha1.lt
          refine ⟨_, rfl, ⟨⟨V2, lo2⟩, rfl⟩, ?_⟩
          (try simp only [Act.put, List.setIfInBounds_toArray, List.set_cons_succ, List.set_cons_zero])
          refine ⟨?_, ?_⟩
          · skip
            refine AX.tree_call (h20 V2 lo2) (by rfl) (by rfl) (by rfl) Tryz.func20 (by kernel_rfl) (by rfl) (by simp only [List.map_toArray, List.map_cons, List.map_nil]; rfl) ?_
            rintro e V3 ⟨⟨gr, rfl, hgr, hr3, hrl⟩, hbl3⟩
            have lo3 := lo2.trans (hbl3.mono lo2.size)
            have ha3 := ha2.below hbl3 ha2.lt
            have hs3 := hs2.below hbl3 hs2.lt
            refine ⟨_, rfl, ⟨⟨V3, lo3⟩, rfl⟩, ?_⟩
            (try simp only [Act.put, List.setIfInBounds_toArray, List.set_cons_succ, List.set_cons_zero])
            refine AX.tree_op _ (by rfl) (by rfl) ?_
            refine oper_make rfl rfl (hmk V3) ?_
            have hm4 := Bx.new V3 3 (intsA (List.replicate l.length 0))
            have hbl4 := (Below.refl _ V3).alloc (Nat.le_refl _) (.cells (intsA (List.replicate l.length 0)) 3)
            obtain ⟨gm, hgmd⟩ : ∃ q, q = V3.heap.size := ⟨_, rfl⟩
            rw [← hgmd] at hm4 ⊢
            generalize V3.alloc (.cells (intsA (List.replicate l.length 0)) 3) = V4 at *
            have lo4 := lo3.trans (hbl4.mono lo3.size)
            have hg0 : w.heap.size ≤ gm := by rw [hgmd]; exact lo3.size
            have ha4 := ha3.below hbl4 ha3.lt
            have hs4 := hs3.below hbl4 hs3.lt
            have hr4 := hr3.below hbl4 hr3.lt
            have ne_a : gm ≠ ta := by have := ha3.lt; omega
            have ne_s : gm ≠ gs := by have := hs3.lt; omega
            have ne_r : gm ≠ gr := by have := hr3.lt; omega
            have HI3 := Lib.hid hgmd
            clear hgmd
            refine ⟨⟨⟨V4, lo4⟩, rfl⟩, ?_⟩
            (try simp only [Act.put, List.setIfInBounds_toArray, List.set_cons_succ, List.set_cons_zero])
            refine AX.tree_plain _ (by rfl) ?_; go_big_quiet_step (fail); refine wpQuiet_nil ?_
            refine AX.tree_op _ (by rfl) (by rfl) ?_
            unfold Oper.wp
            go_simp
            have hb5 := Bx.new V4 58 #[.slice la l.length c, .slice (some ⟨gs, 0, none⟩) l.length l.length, .slice (some ⟨gr, 0, none⟩) l.length l.length, .slice (some ⟨gm, 0, none⟩) l.length l.length, .int .i64 first]
            have hbl5 := (Below.refl _ V4).alloc (Nat.le_refl _) (.cells #[.slice la l.length c, .slice (some ⟨gs, 0, none⟩) l.length l.length, .slice (some ⟨gr, 0, none⟩) l.length l.length, .slice (some ⟨gm, 0, none⟩) l.length l.length, .int .i64 first] 58)
            obtain ⟨bm, hbmd⟩ : ∃ q, q = V4.heap.size := ⟨_, rfl⟩
            rw [← hbmd] at hb5 ⊢
            generalize V4.alloc (.cells #[.slice la l.length c, .slice (some ⟨gs, 0, none⟩) l.length l.length, .slice (some ⟨gr, 0, none⟩) l.length l.length, .slice (some ⟨gm, 0, none⟩) l.length l.length, .int .i64 first] 58) = V5 at *
            have lo5 := lo4.trans (hbl5.mono lo4.size)
            have ha5 := ha4.below hbl5 ha4.lt
            have hs5 := hs4.below hbl5 hs4.lt
            have hr5 := hr4.below hbl5 hr4.lt
            have hm5 := hm4.below hbl5 hm4.lt
            have ne_b : gm ≠ bm := by have := hm4.lt; omega
            have HI4 := Lib.hid hbmd
            clear hbmd
            refine ⟨⟨⟨V5, lo5⟩, rfl⟩, ?_⟩
            (try simp only [Act.put, List.setIfInBounds_toArray, List.set_cons_succ, List.set_cons_zero])
            refine AX.tree_op _ (by rfl) (by rfl) ?_
            refine AX.oper_storeCell (o := 0) (v := .pointer (some ⟨bm, 0, none⟩)) rfl rfl rfl sz53 ha5 (show 0 < 1 by decide) ?_
            rintro V6 i3 i4 i5
            have ha6 : Bx V6 ta 53 #[.pointer (some ⟨bm, 0, none⟩)] := i3
            have hba : bm ≠ ta := by have := ha5; intro e; rw [e] at hb5; have h9 := hb5.symm.trans ha5; simp at h9
            have hn_s : gs ≠ ta := by intro e; have h9 := ha5; rw [← e] at h9; have h8 := (show V5.heap[gs]? = _ from hs5).symm.trans h9; simp at h8
            have hs6 := hs5.same (i4 _ hn_s)
            have hn_r : gr ≠ ta := by intro e; have h9 := ha5; rw [← e] at h9; have h8 := (show V5.heap[gr]? = _ from hr5).symm.trans h9; simp at h8
            have hr6 := hr5.same (i4 _ hn_r)
            have hn_b : bm ≠ ta := hba
            have hb6 := hb5.same (i4 _ hn_b)
            have hm6 := hm5.same (i4 _ ne_a)
            have lo6 := lo5.trans (AX.below_turn (n := w.heap.size) hta (.inl ha6.lt) i4 i5)
            refine ⟨⟨⟨V6, lo6⟩, rfl⟩, ?_⟩
            (try simp only [Act.put, List.setIfInBounds_toArray, List.set_cons_succ, List.set_cons_zero])
            unfold AX.wpTree
            exact ⟨rfl, HRo.out _ _ ⟨gs, X, gr, gm, ta, bm, rfl, hsx, hrl, ⟨lo6, hs6, hr6, hm6, ha6, hb6⟩, ⟨hg0, ne_s, ne_r, ne_a, ne_b⟩⟩⟩
          · skip
            refine AX.tree_op _ (by rfl) (by rfl) ?_
            refine oper_make rfl rfl (hmk V2) ?_
            have hm3 := Bx.new V2 3 (intsA (List.replicate l.length 0))
            have hbl3 := (Below.refl _ V2).alloc (Nat.le_refl _) (.cells (intsA (List.replicate l.length 0)) 3)
            obtain ⟨gm, hgmd⟩ : ∃ q, q = V2.heap.size := ⟨_, rfl⟩
            rw [← hgmd] at hm3 ⊢
            generalize V2.alloc (.cells (intsA (List.replicate l.length 0)) 3) = V3 at *
            have lo3 := lo2.trans (hbl3.mono lo2.size)
            have hg0 : w.heap.size ≤ gm := by rw [hgmd]; exact lo2.size
            have ha3 := ha2.below hbl3 ha2.lt
            have hs3 := hs2.below hbl3 hs2.lt
            have ne_a : gm ≠ ta := by have := ha2.lt; omega
            have ne_s : gm ≠ gs := by have := hs2.lt; omega
            have HI2 := Lib.hid hgmd
            clear hgmd
            refine ⟨⟨⟨V3, lo3⟩, rfl⟩, ?_⟩
            (try simp only [Act.put, List.setIfInBounds_toArray, List.set_cons_succ, List.set_cons_zero])
            refine AX.tree_call (h20 V3 lo3) (by rfl) (by rfl) (by rfl) Tryz.func20 (by kernel_rfl) (by rfl) (by simp only [List.map_toArray, List.map_cons, List.map_nil]; rfl) ?_
            rintro e V4 ⟨⟨gr, rfl, hgr, hr4, hrl⟩, hbl4⟩
            have lo4 := lo3.trans (hbl4.mono lo3.size)
            have ha4 := ha3.below hbl4 ha3.lt
            have hs4 := hs3.below hbl4 hs3.lt
            have hm4 := hm3.below hbl4 hm3.lt
            have ne_r : gm ≠ gr := by have := hm3.lt; omega
            refine ⟨_, rfl, ⟨⟨V4, lo4⟩, rfl⟩, ?_⟩
            (try simp only [Act.put, List.setIfInBounds_toArray, List.set_cons_succ, List.set_cons_zero])
            refine AX.tree_plain _ (by rfl) ?_; go_big_quiet_step (fail); refine wpQuiet_nil ?_
            refine AX.tree_op _ (by rfl) (by rfl) ?_
            unfold Oper.wp
            go_simp
            have hb5 := Bx.new V4 58 #[.slice la l.length c, .slice (some ⟨gs, 0, none⟩) l.length l.length, .slice (some ⟨gr, 0, none⟩) l.length l.length, .slice (some ⟨gm, 0, none⟩) l.length l.length, .int .i64 first]
            have hbl5 := (Below.refl _ V4).alloc (Nat.le_refl _) (.cells #[.slice la l.length c, .slice (some ⟨gs, 0, none⟩) l.length l.length, .slice (some ⟨gr, 0, none⟩) l.length l.length, .slice (some ⟨gm, 0, none⟩) l.length l.length, .int .i64 first] 58)
            obtain ⟨bm, hbmd⟩ : ∃ q, q = V4.heap.size := ⟨_, rfl⟩
            rw [← hbmd] at hb5 ⊢
            generalize V4.alloc (.cells #[.slice la l.length c, .slice (some ⟨gs, 0, none⟩) l.length l.length, .slice (some ⟨gr, 0, none⟩) l.length l.length, .slice (some ⟨gm, 0, none⟩) l.length l.length, .int .i64 first] 58) = V5 at *
            have lo5 := lo4.trans (hbl5.mono lo4.size)
            have ha5 := ha4.below hbl5 ha4.lt
            have hs5 := hs4.below hbl5 hs4.lt
            have hm5 := hm4.below hbl5 hm4.lt
            have hr5 := hr4.below hbl5 hr4.lt
            have ne_b : gm ≠ bm := by have := hm4.lt; omega
            have HI4 := Lib.hid hbmd
            clear hbmd
            refine ⟨⟨⟨V5, lo5⟩, rfl⟩, ?_⟩
            (try simp only [Act.put, List.setIfInBounds_toArray, List.set_cons_succ, List.set_cons_zero])
            refine AX.tree_op _ (by rfl) (by rfl) ?_
            refine AX.oper_storeCell (o := 0) (v := .pointer (some ⟨bm, 0, none⟩)) rfl rfl rfl sz53 ha5 (show 0 < 1 by decide) ?_
            rintro V6 i3 i4 i5
            have ha6 : Bx V6 ta 53 #[.pointer (some ⟨bm, 0, none⟩)] := i3
            have hba : bm ≠ ta := by have := ha5; intro e; rw [e] at hb5; have h9 := hb5.symm.trans ha5; simp at h9
            have hn_s : gs ≠ ta := by intro e; have h9 := ha5; rw [← e] at h9; have h8 := (show V5.heap[gs]? = _ from hs5).symm.trans h9; simp at h8
            have hs6 := hs5.same (i4 _ hn_s)
            have hn_r : gr ≠ ta := by intro e; have h9 := ha5; rw [← e] at h9; have h8 := (show V5.heap[gr]? = _ from hr5).symm.trans h9; simp at h8
            have hr6 := hr5.same (i4 _ hn_r)
            have hn_b : bm ≠ ta := hba
            have hb6 := hb5.same (i4 _ hn_b)
            have hm6 := hm5.same (i4 _ ne_a)
            have lo6 := lo5.trans (AX.below_turn (n := w.heap.size) hta (.inl ha6.lt) i4 i5)
            refine ⟨⟨⟨V6, lo6⟩, rfl⟩, ?_⟩
            (try simp only [Act.put, List.setIfInBounds_toArray, List.set_cons_succ, List.set_cons_zero])
            unfold AX.wpTree
            exact ⟨rfl, HRo.out _ _ ⟨gs, X, gr, gm, ta, bm, rfl, hsx, hrl, ⟨lo6, hs6, hr6, hm6, ha6, hb6⟩, ⟨hg0, ne_s, ne_r, ne_a, ne_b⟩⟩⟩
        · skip
          refine AX.tree_op _ (by rfl) (by rfl) ?_
          refine oper_make rfl rfl (hmk V1) ?_
          have hm2 := Bx.new V1 3 (intsA (List.replicate l.length 0))
          have hbl2 := (Below.refl _ V1).alloc (Nat.le_refl _) (.cells (intsA (List.replicate l.length 0)) 3)
          obtain ⟨gm, hgmd⟩ : ∃ q, q = V1.heap.size := ⟨_, rfl⟩
          rw [← hgmd] at hm2 ⊢
          generalize V1.alloc (.cells (intsA (List.replicate l.length 0)) 3) = V2 at *
          have lo2 := lo1.trans (hbl2.mono lo1.size)
          have hg0 : w.heap.size ≤ gm := by rw [hgmd]; exact lo1.size
          have ha2 := ha1.below hbl2 ha1.lt
          have ne_a : gm ≠ ta := by have := ha1.lt; omega
          have HI1 := Lib.hid hgmd
          clear hgmd
          refine ⟨⟨⟨V2, lo2⟩, rfl⟩, ?_⟩
          (try simp only [Act.put, List.setIfInBounds_toArray, List.set_cons_succ, List.set_cons_zero])
          refine AX.tree_call (h19 V2 lo2) (by rfl) (by rfl) (by rfl) Tryz.func19 (by kernel_rfl) (by rfl) (by simp only [List.map_toArray, List.map_cons, List.map_nil]; rfl) ?_
          rintro e V3 ⟨⟨gs, X, rfl, hgs, hs3, hsx⟩, hbl3⟩
          have lo3 := lo2.trans (hbl3.mono lo2.size)
          have ha3 := ha2.below hbl3 ha2.lt
          have hm3 := hm2.below hbl3 hm2.lt
          have ne_s : gm ≠ gs := by have := hm2.lt; omega
          refine ⟨_, rfl, ⟨⟨V3, lo3⟩, rfl⟩, ?_⟩
          (try simp only [Act.put, List.setIfInBounds_toArray, List.set_cons_succ, List.set_cons_zero])
          refine AX.tree_call (h20 V3 lo3) (by rfl) (by rfl) (by rfl) Tryz.func20 (by kernel_rfl) (by rfl) (by simp only [List.map_toArray, List.map_cons, List.map_nil]; rfl) ?_
          rintro e V4 ⟨⟨gr, rfl, hgr, hr4, hrl⟩, hbl4⟩
          have lo4 := lo3.trans (hbl4.mono lo3.size)
          have ha4 := ha3.below hbl4 ha3.lt
          have hm4 := hm3.below hbl4 hm3.lt
          have hs4 := hs3.below hbl4 hs3.lt
          have ne_r : gm ≠ gr := by have := hm3.lt; omega
          refine ⟨_, rfl, ⟨⟨V4, lo4⟩, rfl⟩, ?_⟩
          (try simp only [Act.put, List.setIfInBounds_toArray, List.set_cons_succ, List.set_cons_zero])
          refine AX.tree_plain _ (by rfl) ?_; go_big_quiet_step (fail); refine wpQuiet_nil ?_
          refine AX.tree_op _ (by rfl) (by rfl) ?_
          unfold Oper.wp
          go_simp
          have hb5 := Bx.new V4 58 #[.slice la l.length c, .slice (some ⟨gs, 0, none⟩) l.length l.length, .slice (some ⟨gr, 0, none⟩) l.length l.length, .slice (some ⟨gm, 0, none⟩) l.length l.length, .int .i64 first]
          have hbl5 := (Below.refl _ V4).alloc (Nat.le_refl _) (.cells #[.slice la l.length c, .slice (some ⟨gs, 0, none⟩) l.length l.length, .slice (some ⟨gr, 0, none⟩) l.length l.length, .slice (some ⟨gm, 0, none⟩) l.length l.length, .int .i64 first] 58)
          obtain ⟨bm, hbmd⟩ : ∃ q, q = V4.heap.size := ⟨_, rfl⟩
          rw [← hbmd] at hb5 ⊢
          generalize V4.alloc (.cells #[.slice la l.length c, .slice (some ⟨gs, 0, none⟩) l.length l.length, .slice (some ⟨gr, 0, none⟩) l.length l.length, .slice (some ⟨gm, 0, none⟩) l.length l.length, .int .i64 first] 58) = V5 at *
          have lo5 := lo4.trans (hbl5.mono lo4.size)
          have ha5 := ha4.below hbl5 ha4.lt
          have hm5 := hm4.below hbl5 hm4.lt
          have hs5 := hs4.below hbl5 hs4.lt
          have hr5 := hr4.below hbl5 hr4.lt
          have ne_b : gm ≠ bm := by have := hm4.lt; omega
          have HI4 := Lib.hid hbmd
          clear hbmd
          refine ⟨⟨⟨V5, lo5⟩, rfl⟩, ?_⟩
          (try simp only [Act.put, List.setIfInBounds_toArray, List.set_cons_succ, List.set_cons_zero])
          refine AX.tree_op _ (by rfl) (by rfl) ?_
          refine AX.oper_storeCell (o := 0) (v := .pointer (some ⟨bm, 0, none⟩)) rfl rfl rfl sz53 ha5 (show 0 < 1 by decide) ?_
          rintro V6 i3 i4 i5
          have ha6 : Bx V6 ta 53 #[.pointer (some ⟨bm, 0, none⟩)] := i3
          have hba : bm ≠ ta := by have := ha5; intro e; rw [e] at hb5; have h9 := hb5.symm.trans ha5; simp at h9
          have hn_s : gs ≠ ta := by intro e; have h9 := ha5; rw [← e] at h9; have h8 := (show V5.heap[gs]? = _ from hs5).symm.trans h9; simp at h8
          have hs6 := hs5.same (i4 _ hn_s)
          have hn_r : gr ≠ ta := by intro e; have h9 := ha5; rw [← e] at h9; have h8 := (show V5.heap[gr]? = _ from hr5).symm.trans h9; simp at h8
          have hr6 := hr5.same (i4 _ hn_r)
          have hn_b : bm ≠ ta := hba
          have hb6 := hb5.same (i4 _ hn_b)
          have hm6 := hm5.same (i4 _ ne_a)
          have lo6 := lo5.trans (AX.below_turn (n := w.heap.size) hta (.inl ha6.lt) i4 i5)
          refine ⟨⟨⟨V6, lo6⟩, rfl⟩, ?_⟩
          (try simp only [Act.put, List.setIfInBounds_toArray, List.set_cons_succ, List.set_cons_zero])
          unfold AX.wpTree
          exact ⟨rfl, HRo.out _ _ ⟨gs, X, gr, gm, ta, bm, rfl, hsx, hrl, ⟨lo6, hs6, hr6, hm6, ha6, hb6⟩, ⟨hg0, ne_s, ne_r, ne_a, ne_b⟩⟩⟩
  case rest =>
    intro a' W0 hrl0
    obtain ⟨gs, X, gr, gm, ta, bm, rfl, hsx, hrl, hM, hap⟩ := HRi.out _ _ hrl0
    obtain ⟨ka, kc, hP⟩ := hR.pr
    obtain ⟨R, hRd⟩ : ∃ R, R = reachF l k := ⟨_, rfl⟩
    rw [← hRd] at hrl hM
    have HRD := Lib.hid hRd
    clear hRd HRi HRo hrl0 h19 h20 hmk hT
    gi_wp2_with (gi_at_call 21; ((with_reducible refine (h21 _ _).mono ?_); rintro e V ⟨rfl, hb5, hz5, L5⟩))
    have hMV := hM.below hb5 hM.b.size hM.s.lt hM.r.lt hM.m.lt hM.a.lt hM.x.lt
    have l1 := hM.s.lt
    have l2 := hM.r.lt
    have l3 := hM.m.lt
    have l4 := hM.a.lt
    have l5 := hM.x.lt
    obtain ⟨L, hLd⟩ : ∃ L, L = W0.heap.size := ⟨_, rfl⟩
    rw [← hLd] at L5 hz5 hb5 l1 l2 l3 l4 l5 ⊢
    have hwL : w.heap.size ≤ L := by rw [hLd]; exact hM.b.size
    obtain ⟨hgm0, hms, hmr, hma, hmb⟩ := hap
    have hLV := L5.lt
    clear hM hb5 hLd h21 hz5
    refine AX.range_lowN (B := Wb w.heap.size L) (Pp := fun pre x => pre.length + x + 1 = l.length) (encs := fun x : Nat => #[.int .i64 (x : Nat), ptV (pt l x) (ka x) (kc x)]) (S := fun xs => xs.length = l.length) rfl (by omega) (gf := 47) (lb := #[.pointer (some ⟨L, 0, none⟩)]) rfl trivial (enters_of Tryz.func47 (by kernel_rfl) rfl) (fun _ => rfl) (fun k h => by rcases h with h | h <;> omega) ?seq
      (fun pre W => ∃ M, Mi w (.slice la l.length c) l.length first gs gr gm ta bm X R M W ∧ MarksFrom l X R first M (l.length - pre.length)) (fun s U Y ⟨M, h1, h2⟩ hb => ⟨M, h1.below hb (by omega) (by omega) (by omega) (by omega) (by omega) (by omega), h2⟩) ⟨_, hMV, ⟨by simp, fun j h1 h2 => by simp at h1; omega⟩⟩
      (fun x a' W => a' = { tmps := #[.slice la l.length c, .int .i64 k, .int .i64 first, undef, undef, undef, .slice none 0 0, .pointer (some ⟨ta, 0, none⟩), .int .i64 (x : Nat), .slice la l.length c, .int .i64 0, .bool false, .slice la l.length c, .slice la l.length c, .slice (some ⟨gs, 0, none⟩) l.length l.length, .slice la l.length c, .int .i64 k, .slice (some ⟨gr, 0, none⟩) l.length l.length, .slice la l.length c, .int .i64 (l.length : Nat), .slice (some ⟨gm, 0, none⟩) l.length l.length, .int .i64 first, .agg #[.slice la l.length c, .slice (some ⟨gs, 0, none⟩) l.length l.length, .slice (some ⟨gr, 0, none⟩) l.length l.length, .slice (some ⟨gm, 0, none⟩) l.length l.length, .int .i64 first], .pointer (some ⟨bm, 0, none⟩), .slice la l.length c, .func (.func 47) #[] #[.pointer (some ⟨L, 0, none⟩)], .int .i64 (x : Nat), ptV (pt l x) (ka x) (kc x), undef, undef, undef, undef, undef, undef, undef, undef, undef, undef, undef, undef, undef], defers := [] }) (fun _ _ _ _ h _ => h) ?assign ?body ?done
    case seq =>
      intro y J W hW hsz hJ hY h0
      exact back1_in 8 (by omega) l hl la c ka kc hP y V.heap.size W ⟨hMV.b.trans (hW.mono (by omega)), L5.below hW L5.lt⟩ J hY h0
    case assign =>
      rintro y pre x W K hC hW hK
      obtain ⟨pv, hpv⟩ : ∃ pv, pv = ptV (pt l x) (ka x) (kc x) := ⟨_, rfl⟩
      rw [← hpv] at hK ⊢
      clear hpv
      gi_wp2_with fail
      exact hK _ W (KeepsFrom.refl _ _) (AX.Keep.refl _ _ _) hC rfl
    case body =>
      rintro y pre x a' W ⟨M, hMW, hMF⟩ hW ha' hPp
      dsimp only at ha'
      subst ha'
      obtain ⟨pv, hpv⟩ : ∃ pv, pv = ptV (pt l x) (ka x) (kc x) := ⟨_, rfl⟩
      rw [← hpv]
      clear hpv
      have hx : x < l.length := by omega
      have hMF : MarksFrom l X R first M (x + 1) := by rw [show x + 1 = l.length - pre.length by omega]; exact hMF
      have hstep := Lib.hid (hMF.step hTr hx)
      have hMl := hMF.len
      have h22 := fun (W' : World) (hW' : Below W.heap.size W W') => mark22_k l hl hTr la c X R M hsx.len hrl hMl first bm gs gr gm l.length x hx W' (hR.below (hMW.b.trans (hW'.mono hMW.b.size)) (Nat.le_refl _)) (hMW.x.below hW' hMW.x.lt) (hMW.s.below hW' hMW.s.lt) (hMW.r.below hW' hMW.r.lt) (hMW.m.below hW' hMW.m.lt)
      obtain ⟨mv, hmv⟩ : ∃ mv, mv = markF l X R M first x := ⟨_, rfl⟩
      rw [← hmv] at hstep h22
      clear hmv hMF hMV L5
      have hx0 : (0 : Int) ≤ (x : Int) := by omega
      have hx1 : (x : Int) < (l.length : Int) := by omega
      have ea : ∀ q : BW W, q.W.cell? ⟨ta, 0, none⟩ = some (.pointer (some ⟨bm, 0, none⟩)) := BW.cell (hMW.a.cell 0) hMW.a.lt
      have ex : ∀ q : BW W, q.W.cell? ⟨bm, 3, none⟩ = some (.slice (some ⟨gm, 0, none⟩) l.length l.length) := BW.cell (hMW.x.cell 3) hMW.x.lt
      gi_upto_region 6 with fail
      refine AX.region_mixLN (C := fun W' => ∃ p : BW W, W' = p.W) (CT := fun _ => True) (ro := some y) 9 rowL8_6 inf8_6 (by kernel_rfl) (by kernel_rfl) (by kernel_rfl) (by kernel_rfl) (by kernel_rfl) (by decide) fit8_6 fitl8_6 rfl ⟨trivial, ⟨W.drew, (Below.refl _ W).drew⟩, rfl⟩ ?_
      unfold rowL8_6
      repeat (refine AX.mixL_own _ (by rfl) ?_; go_big_quiet_step (fail); refine wpQuiet_nil ?_)
      refine AX.mixL_call (h22 W.drew (Below.refl _ W).drew) (by rfl) (by rfl) (by rfl) Tryz.func22 (by kernel_rfl) (by rfl) (by simp only [List.map_toArray, List.map_cons, List.map_nil]; rfl) ?_
      rintro e V1 ⟨rfl, hv1⟩
      have hb1' : Below W.heap.size W V1 := (Below.refl _ W).drew.trans (hv1.mono (Nat.le_refl _))
      refine ⟨_, rfl, ⟨trivial, fun _ => ⟨⟨V1, hb1'⟩, rfl⟩⟩, ?_⟩
      (try simp only [Act.put, List.setIfInBounds_toArray, List.set_cons_succ, List.set_cons_zero])
      repeat (refine AX.mixL_own _ (by rfl) ?_; go_big_quiet_step (fail); refine wpQuiet_nil ?_)
      refine AX.mixL_op _ (by rfl) (by rfl) ?_
      refine AX.oper_storeCell (o := x) (v := .int .i64 mv) rfl rfl rfl sz3 (hMW.m.below hb1' hMW.m.lt) (by rw [intsA_size]; omega) ?_
      rintro W3 i3 i4 i5
      refine ⟨⟨trivial, fun h => by cases h⟩, ?_⟩
      unfold AX.wpMixL
      have hlt3 := (Array.getElem?_eq_some_iff.1 i3).1
      obtain ⟨k1, k2⟩ := kept_turn (base := V.heap.size) (H := V.heap.size) (B := Wb w.heap.size L) hb1' i4 i5 hlt3 (by omega) (fun h => by rcases h with h | h <;> omega) (by omega)
      refine ⟨rfl, k1, k2, M.set x mv, ⟨(hMW.b.trans (hb1'.mono hMW.b.size)).trans (AX.below_turn (n := w.heap.size) hgm0 (.inl hlt3) i4 i5), (hMW.s.below hb1' hMW.s.lt).same (i4 _ (Ne.symm hms)), (hMW.r.below hb1' hMW.r.lt).same (i4 _ (Ne.symm hmr)), by rw [← intsA_set]; exact i3, (hMW.a.below hb1' hMW.a.lt).same (i4 _ (Ne.symm hma)), (hMW.x.below hb1' hMW.x.lt).same (i4 _ (Ne.symm hmb))⟩, ?_⟩
      rw [show l.length - (pre ++ [x]).length = x by rw [List.length_append, List.length_singleton]; omega]
      exact hstep.out
    case done =>
      rintro D xs W hD hxs ⟨M, hMW, hMF⟩ hK
      have ca := hMW.a.cell 0
      have cx := hMW.x.cell 3
      gi_wp2_with fail
      refine ⟨by simp, .inl ⟨_, _, rfl, run_takeDeferred hK, ?_⟩⟩
      rw [hxs, Nat.sub_self] at hMF
      exact ⟨_, results_tmp rfl _ _ _, ⟨gm, X, M, rfl, hMW.m.putObj _ (by omega), hsx, by rw [← HRD.out]; exact hMF.ok⟩, hb1.trans (Below.putObj (hMW.b.mono hb1.size) (.deferred none) (Nat.le_trans hb1.size hMW.b.size) (by have := hb1.size; omega))⟩
end Go.Proofs.YtdjeokgkeejpcaaGreatDoor
