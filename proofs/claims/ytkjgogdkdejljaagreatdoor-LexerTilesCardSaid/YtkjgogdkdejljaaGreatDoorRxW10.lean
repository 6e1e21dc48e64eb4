import Derived.Test.YtkjgogdkdejljaaGreatDoorRxW9
namespace Go.Proofs.YtkjgogdkdejljaaGreatDoor.Rx
open Go.Lib (hid)
open Go Go.Proofs Go.RowKit
attribute [local go_sem] Oper.semAt_some
set_option maxRecDepth 100000 in
set_option maxHeartbeats 4000000 in
theorem K9(NB n i c cr:Nat)(bs:Nat→Nat)(B off:Nat)(ev:Value)(nx:List (List Bool))(es:List En)(x:Nd)(hn:n≤1000)(hi:i<n)(hx:gH i x)(hk2:x.k=3)(hes:es.length=i)(hwf:∀ (j:Nat) y,es[j]?=some y→nZ n (i+1) y)(w0 w:World)(hN:NAt w NB n (i+1) bs nx)(hE:EAt w ev n (i+1) bs es)
  (hB:B<w0.heap.size) (hX:XAt w0 B (off+i*6) x) (hlow:Below w0.heap.size w0 w) (hbs:∀ j,j<i+1→w0.heap.size≤bs j) :
  Calls Tryz.prog 124 #[.agg #[.slice (some ⟨B,off,none⟩) n cr,ev, .slice (some ⟨NB,0,none⟩) n c], .int .i64 i] w fun e w' =>
   CY w w' n (bT n es nx i x).2 e∧NAt w' NB n (i+1) bs (bT n es nx i x).1∧eH (fun k=>∃ j,j<i+1∧k=bs j) w w':=by
 have HK:=hid hk2
 clear hk2
 have HX:=hid hx
 clear hx
 obtain⟨s,hs⟩:∃ s,s=w.heap.size:=⟨_,rfl⟩
 have hNl:=hN.lt
 have hbb:=fun j (hj:j<i+1)=>hN.blt hi hj
 have hi0:(0:Int)≤(i:Int):=by omega
 have hi1:(i:Int)<(n:Int):=by omega
 have hB0:Below w.heap.size w (((w.alloc (.cells #[.slice (some ⟨B,off,none⟩) n cr,ev, .slice (some ⟨NB,0,none⟩) n c] 202)).alloc (.cells #[.bool false, .slice none 0 0, .slice none 0 0] 205)).alloc (.cells #[.int .i64 0, .int .u64 0, .int .u64 0, .int .u64 0, .int .u64 0, .slice none 0 0] 153)):=(((Below.refl _ w).alloc Nat.le.refl _).alloc (by simp) _).alloc (by simp<;>omega) _
 have x2:=((Bx.new w 202 #[.slice (some ⟨B,off,none⟩) n cr,ev, .slice (some ⟨NB,0,none⟩) n c]).alloc (.cells #[.bool false, .slice none 0 0, .slice none 0 0] 205)).alloc (.cells #[.int .i64 0, .int .u64 0, .int .u64 0, .int .u64 0, .int .u64 0, .slice none 0 0] 153)
 have x4:=(Bx.new (w.alloc (.cells #[.slice (some ⟨B,off,none⟩) n cr,ev, .slice (some ⟨NB,0,none⟩) n c] 202)) 205 #[.bool false, .slice none 0 0, .slice none 0 0]).alloc (.cells #[.int .i64 0, .int .u64 0, .int .u64 0, .int .u64 0, .int .u64 0, .slice none 0 0] 153)
 have x5:=Bx.new ((w.alloc (.cells #[.slice (some ⟨B,off,none⟩) n cr,ev, .slice (some ⟨NB,0,none⟩) n c] 202)).alloc (.cells #[.bool false, .slice none 0 0, .slice none 0 0] 205)) 153 #[.int .i64 0, .int .u64 0, .int .u64 0, .int .u64 0, .int .u64 0, .slice none 0 0]
 simp only[World.size_alloc] at x4 x5
 obtain⟨k0,k1,k2,k3,k4,kv,k5,hIR⟩:=hX
 have hIR:=hIR.old
 obtain⟨lk,ck,rfl,hK1,hK2⟩:=hIR
 have hBw:B<w.heap.size:=Nat.lt_of_lt_of_le hB hlow.size
 replace k0:=(hlow.cell (p:=⟨B,off+i*6,none⟩) hB).trans k0
 replace k1:=(hlow.cell (p:=⟨B,off+i*6+1,none⟩) hB).trans k1
 replace k2:=(hlow.cell (p:=⟨B,off+i*6+2,none⟩) hB).trans k2
 replace k3:=(hlow.cell (p:=⟨B,off+i*6+3,none⟩) hB).trans k3
 replace k4:=(hlow.cell (p:=⟨B,off+i*6+4,none⟩) hB).trans k4
 replace k5:=(hlow.cell (p:=⟨B,off+i*6+5,none⟩) hB).trans k5
 have hs5:=x5.lt
 go_enter Tryz.func124,Tryz.ntmps124
 go_wp2_with ((with_reducible refine bC ?_);refine AX.au (vs:=[.int .i64 x.k, .int .u64 x.a, .int .u64 x.b, .int .u64 x.c, .int .u64 x.d, .slice lk x.kids.length ck]) rfl rfl RJ x5 rfl rfl ?_;rintro W1 h3 h4 h5)
 have y5:Bx W1 (w.heap.size+1+1) 153 #[.int .i64 x.k, .int .u64 x.a, .int .u64 x.b, .int .u64 x.c, .int .u64 x.d, .slice lk x.kids.length ck]:=h3
 have y2:Bx W1 w.heap.size 202 #[.slice (some ⟨B,off,none⟩) n cr,ev, .slice (some ⟨NB,0,none⟩) n c]:=(h4 _ (by omega)).trans x2
 have y4:Bx W1 (w.heap.size+1) 205 #[.bool false, .slice none 0 0, .slice none 0 0]:=(h4 _ (by omega)).trans x4
 have hb2:Below w.heap.size w W1:=hB0.trans (AX.aj (by omega) (.inl (Array.getElem?_eq_some_iff.1 h3).1) h4 h5)
 clear h3 h4 h5 x2 x4 x5 hB0 hs5
 have hN1:=hN.below hb2 (hs ▸ hNl) (fun j hj=>hbb j hj)
 have hEw:=hE
 have hws:=hlow.size
 clear hBw
 have hs1:w.heap.size+3≤W1.heap.size:=by have:=y5.lt;omega
 rw[←hs] at hNl hbb y2 y4 y5 hb2 hs1 hws ⊢
 have jU:∀ m q,x.kids[m]?=some q→∃ B2 off2,lk=some ⟨B2,off2,none⟩∧B2<w0.heap.size∧w0.cell? ⟨B2,off2+m,none⟩=some (.int .i64 q):=by
  intro m q hq
  cases lk with
  | none=>have:=hK1 rfl;rw[this] at hq;simp at hq
  | some ad =>
   obtain⟨B2,off2,rfl,hB2,hKc⟩:=hK2 _ rfl (by intro e;rw[e] at hq;simp at hq)
   exact⟨B2,off2,rfl,hB2,hKc m q hq⟩
 have HS:=hid hs
 clear hs hN hE k0 k1 k2 k3 k4 k5 hK1 hK2
 obtain⟨e0,he0⟩:∃ e0,e0=(decide (x.k=1) || decide (x.k=3)):=⟨_,rfl⟩
 have HE0:=hid he0
 clear he0
 go_cut [6] from 16 to 32 (fun t6 wz=>∃ X F L:Nat,t6 = .pointer (some ⟨X,0,none⟩)∧Bx wz X 205 #[.bool e0, .slice (some ⟨F,0,none⟩) n n, .slice (some ⟨L,0,none⟩) n n]∧aH wz F (zeros n)∧aH wz L (zeros n)∧W1.heap.size≤F∧W1.heap.size≤L∧W1.heap.size≤X∧F≠L∧X≠F∧X≠L∧Below W1.heap.size W1 wz)
 case first =>
  have c5:=fun p=>AX.aD (show W1.cell? ⟨s+1+1,0,none⟩=some (.int .i64 x.k) from y5.cell 0) y5.lt p
  have c2:=fun p=>AX.aD (show W1.cell? ⟨s,0,none⟩=some (.slice (some ⟨B,off,none⟩) n cr) from y2.cell 0) y2.lt p
  have hW:Below W1.heap.size W1 W1.drew:=(Below.refl _ W1).drew
  clear y2 y4 y5 hN1 hEw hb2 hbb jU HX hwf
  have HKf:=HK
  clear HK
  have hk2:=HKf.out
  have he0:=HE0.out
  rw[hk2] at he0
  clear HE0 HKf
  generalize x.k=kk at *
  obtain rfl:=hk2
  obtain rfl:e0=true:=he0.trans rfl
  clear he0
  all_goals
   refine AX.fK (C:=fun W=>∃ p:AX.BW W1,W=p.W) kC _ (by kernel_rfl) (by kernel_rfl) rfl (by kernel_rfl) (by intro c a d v w h;cases d<;>exact h) ⟨⟨W1.drew,hW⟩,rfl⟩ ?_
   unfold kC
   generalize W1.drew=Wd at *
   repeat (refine AX.aA _ (by rfl) ?_;go_big_quiet_step (fail);refine wpQuiet_nil ?_)
   refine⟨?_,?_,?_⟩
   ·obtain⟨W2,hm2,rF,hb2,hz2⟩:=aZ n hn Wd
    refine AX.ay _ (by rfl) (by rfl) ?_
    refine aL rfl rfl hm2 ?_
    have sF:=hW.size
    obtain⟨F,hF⟩:∃ F,F=Wd.heap.size:=⟨_,rfl⟩
    have hW2:Below W1.heap.size W1 W2:=hW.trans (hb2.mono hW.size)
    rw[←hF] at rF ⊢
    have hF1:=Nat.le_of_eq hF
    have hF2:=Nat.le_of_eq hF.symm
    clear hF hz2 hm2
    refine⟨⟨⟨W2,hW2⟩,rfl⟩,?_⟩
    simp only[Act.put,List.setIfInBounds_toArray,List.set_cons_succ,List.set_cons_zero]
    refine⟨?_,?_⟩
    ·obtain⟨W3,hm3,rL,hb3,hz3⟩:=aZ n hn W2
     refine AX.ay _ (by rfl) (by rfl) ?_
     refine aL rfl rfl hm3 ?_
     have sL:=hW2.size
     have qF3:=rF.lt
     replace rF:=rF.below hb3 rF.lt
     obtain⟨L,hL⟩:∃ L,L=W2.heap.size:=⟨_,rfl⟩
     have hW3:Below W1.heap.size W1 W3:=hW2.trans (hb3.mono hW2.size)
     rw[←hL] at rL ⊢
     have hL1:=Nat.le_of_eq hL
     have hL2:=Nat.le_of_eq hL.symm
     clear hL hz3 hm3
     refine⟨⟨⟨W3,hW3⟩,rfl⟩,?_⟩
     simp only[Act.put,List.setIfInBounds_toArray,List.set_cons_succ,List.set_cons_zero]
     refine AX.aA _ (by rfl) ?_;go_big_quiet_step (fail);refine wpQuiet_nil ?_
     refine AX.ay _ (by rfl) (by rfl) ?_
     unfold Oper.wp
     go_simp
     have rX:=Bx.new W3 205 #[.bool false, .slice none 0 0, .slice none 0 0]
     have hb4:Below W3.heap.size W3 (W3.alloc (.cells #[.bool false, .slice none 0 0, .slice none 0 0] 205)):=(Below.refl _ _).alloc Nat.le.refl _
     have sX:=hW3.size
     have qF4:=rF.lt
     replace rF:=rF.below hb4 rF.lt
     have qL4:=rL.lt
     replace rL:=rL.below hb4 rL.lt
     obtain⟨X,hX⟩:∃ X,X=W3.heap.size:=⟨_,rfl⟩
     generalize W3.alloc (.cells #[.bool false, .slice none 0 0, .slice none 0 0] 205)=W4 at *
     have hW4:Below W1.heap.size W1 W4:=hW3.trans (hb4.mono hW3.size)
     rw[←hX] at rX ⊢
     have hX1:=Nat.le_of_eq hX
     have hX2:=Nat.le_of_eq hX.symm
     clear hX
     refine⟨⟨⟨W4,hW4⟩,rfl⟩,?_⟩
     refine AX.ay _ (by rfl) (by rfl) ?_
     refine AX.aF (vs:=[.bool _, .slice (some ⟨F,0,none⟩) n n, .slice (some ⟨L,0,none⟩) n n]) rfl rfl gI rX rfl rfl ?_
     rintro W9 h3 h4 h5
     have qF:=rF.lt
     have qL:=rL.lt
     have qX:=rX.lt
     have hW9:Below W1.heap.size W1 W9:=hW4.trans (AX.aj (show W1.heap.size≤X by omega) (.inl (Array.getElem?_eq_some_iff.1 h3).1) h4 h5)
     refine⟨⟨⟨W9,hW9⟩,rfl⟩,?_⟩
     unfold AX.aQ
     go_wp2_with fail
     go_meet
     case rel=>exact⟨X,F,L,rfl,(by first | exact h3 | (rw[beq_eq_false_iff_ne.2 hk3] at h3;exact h3)),rF.same (h4 _ (by omega)),rL.same (h4 _ (by omega)),by omega,by omega,by omega,by omega,by omega,by omega,hW9⟩
    ·refine AX.ay _ (by rfl) (by rfl) ?_
     unfold Oper.wp
     go_simp
     have rX:=Bx.new W2 205 #[.bool false, .slice none 0 0, .slice none 0 0]
     have hb3:Below W2.heap.size W2 (W2.alloc (.cells #[.bool false, .slice none 0 0, .slice none 0 0] 205)):=(Below.refl _ _).alloc Nat.le.refl _
     have sX:=hW2.size
     have qF3:=rF.lt
     replace rF:=rF.below hb3 rF.lt
     obtain⟨X,hX⟩:∃ X,X=W2.heap.size:=⟨_,rfl⟩
     generalize W2.alloc (.cells #[.bool false, .slice none 0 0, .slice none 0 0] 205)=W3 at *
     have hW3:Below W1.heap.size W1 W3:=hW2.trans (hb3.mono hW2.size)
     rw[←hX] at rX ⊢
     have hX1:=Nat.le_of_eq hX
     have hX2:=Nat.le_of_eq hX.symm
     clear hX
     refine⟨⟨⟨W3,hW3⟩,rfl⟩,?_⟩
     obtain⟨W4,hm4,rL,hb4,hz4⟩:=aZ n hn W3
     refine AX.ay _ (by rfl) (by rfl) ?_
     refine aL rfl rfl hm4 ?_
     have sL:=hW3.size
     have qF4:=rF.lt
     replace rF:=rF.below hb4 rF.lt
     have qX4:=rX.lt
     replace rX:=rX.below hb4 rX.lt
     obtain⟨L,hL⟩:∃ L,L=W3.heap.size:=⟨_,rfl⟩
     have hW4:Below W1.heap.size W1 W4:=hW3.trans (hb4.mono hW3.size)
     rw[←hL] at rL ⊢
     have hL1:=Nat.le_of_eq hL
     have hL2:=Nat.le_of_eq hL.symm
     clear hL hz4 hm4
     refine⟨⟨⟨W4,hW4⟩,rfl⟩,?_⟩
     simp only[Act.put,List.setIfInBounds_toArray,List.set_cons_succ,List.set_cons_zero]
     refine AX.aA _ (by rfl) ?_;go_big_quiet_step (fail);refine wpQuiet_nil ?_
     refine AX.ay _ (by rfl) (by rfl) ?_
     refine AX.aF (vs:=[.bool _, .slice (some ⟨F,0,none⟩) n n, .slice (some ⟨L,0,none⟩) n n]) rfl rfl gI rX rfl rfl ?_
     rintro W9 h3 h4 h5
     have qF:=rF.lt
     have qL:=rL.lt
     have qX:=rX.lt
     have hW9:Below W1.heap.size W1 W9:=hW4.trans (AX.aj (show W1.heap.size≤X by omega) (.inl (Array.getElem?_eq_some_iff.1 h3).1) h4 h5)
     refine⟨⟨⟨W9,hW9⟩,rfl⟩,?_⟩
     unfold AX.aQ
     go_wp2_with fail
     go_meet
     case rel=>exact⟨X,F,L,rfl,(by first | exact h3 | (rw[beq_eq_false_iff_ne.2 hk3] at h3;exact h3)),rF.same (h4 _ (by omega)),rL.same (h4 _ (by omega)),by omega,by omega,by omega,by omega,by omega,by omega,hW9⟩
   ·obtain⟨W2,hm2,rL,hb2,hz2⟩:=aZ n hn Wd
    refine AX.ay _ (by rfl) (by rfl) ?_
    refine aL rfl rfl hm2 ?_
    have sL:=hW.size
    obtain⟨L,hL⟩:∃ L,L=Wd.heap.size:=⟨_,rfl⟩
    have hW2:Below W1.heap.size W1 W2:=hW.trans (hb2.mono hW.size)
    rw[←hL] at rL ⊢
    have hL1:=Nat.le_of_eq hL
    have hL2:=Nat.le_of_eq hL.symm
    clear hL hz2 hm2
    refine⟨⟨⟨W2,hW2⟩,rfl⟩,?_⟩
    simp only[Act.put,List.setIfInBounds_toArray,List.set_cons_succ,List.set_cons_zero]
    refine⟨?_,?_⟩
    ·obtain⟨W3,hm3,rF,hb3,hz3⟩:=aZ n hn W2
     refine AX.ay _ (by rfl) (by rfl) ?_
     refine aL rfl rfl hm3 ?_
     have sF:=hW2.size
     have qL3:=rL.lt
     replace rL:=rL.below hb3 rL.lt
     obtain⟨F,hF⟩:∃ F,F=W2.heap.size:=⟨_,rfl⟩
     have hW3:Below W1.heap.size W1 W3:=hW2.trans (hb3.mono hW2.size)
     rw[←hF] at rF ⊢
     have hF1:=Nat.le_of_eq hF
     have hF2:=Nat.le_of_eq hF.symm
     clear hF hz3 hm3
     refine⟨⟨⟨W3,hW3⟩,rfl⟩,?_⟩
     simp only[Act.put,List.setIfInBounds_toArray,List.set_cons_succ,List.set_cons_zero]
     refine AX.aA _ (by rfl) ?_;go_big_quiet_step (fail);refine wpQuiet_nil ?_
     refine AX.ay _ (by rfl) (by rfl) ?_
     unfold Oper.wp
     go_simp
     have rX:=Bx.new W3 205 #[.bool false, .slice none 0 0, .slice none 0 0]
     have hb4:Below W3.heap.size W3 (W3.alloc (.cells #[.bool false, .slice none 0 0, .slice none 0 0] 205)):=(Below.refl _ _).alloc Nat.le.refl _
     have sX:=hW3.size
     have qL4:=rL.lt
     replace rL:=rL.below hb4 rL.lt
     have qF4:=rF.lt
     replace rF:=rF.below hb4 rF.lt
     obtain⟨X,hX⟩:∃ X,X=W3.heap.size:=⟨_,rfl⟩
     generalize W3.alloc (.cells #[.bool false, .slice none 0 0, .slice none 0 0] 205)=W4 at *
     have hW4:Below W1.heap.size W1 W4:=hW3.trans (hb4.mono hW3.size)
     rw[←hX] at rX ⊢
     have hX1:=Nat.le_of_eq hX
     have hX2:=Nat.le_of_eq hX.symm
     clear hX
     refine⟨⟨⟨W4,hW4⟩,rfl⟩,?_⟩
     refine AX.ay _ (by rfl) (by rfl) ?_
     refine AX.aF (vs:=[.bool _, .slice (some ⟨F,0,none⟩) n n, .slice (some ⟨L,0,none⟩) n n]) rfl rfl gI rX rfl rfl ?_
     rintro W9 h3 h4 h5
     have qF:=rF.lt
     have qL:=rL.lt
     have qX:=rX.lt
     have hW9:Below W1.heap.size W1 W9:=hW4.trans (AX.aj (show W1.heap.size≤X by omega) (.inl (Array.getElem?_eq_some_iff.1 h3).1) h4 h5)
     refine⟨⟨⟨W9,hW9⟩,rfl⟩,?_⟩
     unfold AX.aQ
     go_wp2_with fail
     go_meet
     case rel=>exact⟨X,F,L,rfl,(by first | exact h3 | (rw[beq_eq_false_iff_ne.2 hk3] at h3;exact h3)),rF.same (h4 _ (by omega)),rL.same (h4 _ (by omega)),by omega,by omega,by omega,by omega,by omega,by omega,hW9⟩
    ·refine AX.ay _ (by rfl) (by rfl) ?_
     unfold Oper.wp
     go_simp
     have rX:=Bx.new W2 205 #[.bool false, .slice none 0 0, .slice none 0 0]
     have hb3:Below W2.heap.size W2 (W2.alloc (.cells #[.bool false, .slice none 0 0, .slice none 0 0] 205)):=(Below.refl _ _).alloc Nat.le.refl _
     have sX:=hW2.size
     have qL3:=rL.lt
     replace rL:=rL.below hb3 rL.lt
     obtain⟨X,hX⟩:∃ X,X=W2.heap.size:=⟨_,rfl⟩
     generalize W2.alloc (.cells #[.bool false, .slice none 0 0, .slice none 0 0] 205)=W3 at *
     have hW3:Below W1.heap.size W1 W3:=hW2.trans (hb3.mono hW2.size)
     rw[←hX] at rX ⊢
     have hX1:=Nat.le_of_eq hX
     have hX2:=Nat.le_of_eq hX.symm
     clear hX
     refine⟨⟨⟨W3,hW3⟩,rfl⟩,?_⟩
     obtain⟨W4,hm4,rF,hb4,hz4⟩:=aZ n hn W3
     refine AX.ay _ (by rfl) (by rfl) ?_
     refine aL rfl rfl hm4 ?_
     have sF:=hW3.size
     have qL4:=rL.lt
     replace rL:=rL.below hb4 rL.lt
     have qX4:=rX.lt
     replace rX:=rX.below hb4 rX.lt
     obtain⟨F,hF⟩:∃ F,F=W3.heap.size:=⟨_,rfl⟩
     have hW4:Below W1.heap.size W1 W4:=hW3.trans (hb4.mono hW3.size)
     rw[←hF] at rF ⊢
     have hF1:=Nat.le_of_eq hF
     have hF2:=Nat.le_of_eq hF.symm
     clear hF hz4 hm4
     refine⟨⟨⟨W4,hW4⟩,rfl⟩,?_⟩
     simp only[Act.put,List.setIfInBounds_toArray,List.set_cons_succ,List.set_cons_zero]
     refine AX.aA _ (by rfl) ?_;go_big_quiet_step (fail);refine wpQuiet_nil ?_
     refine AX.ay _ (by rfl) (by rfl) ?_
     refine AX.aF (vs:=[.bool _, .slice (some ⟨F,0,none⟩) n n, .slice (some ⟨L,0,none⟩) n n]) rfl rfl gI rX rfl rfl ?_
     rintro W9 h3 h4 h5
     have qF:=rF.lt
     have qL:=rL.lt
     have qX:=rX.lt
     have hW9:Below W1.heap.size W1 W9:=hW4.trans (AX.aj (show W1.heap.size≤X by omega) (.inl (Array.getElem?_eq_some_iff.1 h3).1) h4 h5)
     refine⟨⟨⟨W9,hW9⟩,rfl⟩,?_⟩
     unfold AX.aQ
     go_wp2_with fail
     go_meet
     case rel=>exact⟨X,F,L,rfl,(by first | exact h3 | (rw[beq_eq_false_iff_ne.2 hk3] at h3;exact h3)),rF.same (h4 _ (by omega)),rL.same (h4 _ (by omega)),by omega,by omega,by omega,by omega,by omega,by omega,hW9⟩
   ·refine AX.ay _ (by rfl) (by rfl) ?_
    unfold Oper.wp
    go_simp
    have rX:=Bx.new Wd 205 #[.bool false, .slice none 0 0, .slice none 0 0]
    have hb2:Below Wd.heap.size Wd (Wd.alloc (.cells #[.bool false, .slice none 0 0, .slice none 0 0] 205)):=(Below.refl _ _).alloc Nat.le.refl _
    have sX:=hW.size
    obtain⟨X,hX⟩:∃ X,X=Wd.heap.size:=⟨_,rfl⟩
    generalize Wd.alloc (.cells #[.bool false, .slice none 0 0, .slice none 0 0] 205)=W2 at *
    have hW2:Below W1.heap.size W1 W2:=hW.trans (hb2.mono hW.size)
    rw[←hX] at rX ⊢
    have hX1:=Nat.le_of_eq hX
    have hX2:=Nat.le_of_eq hX.symm
    clear hX
    refine⟨⟨⟨W2,hW2⟩,rfl⟩,?_⟩
    refine⟨?_,?_⟩
    ·obtain⟨W3,hm3,rF,hb3,hz3⟩:=aZ n hn W2
     refine AX.ay _ (by rfl) (by rfl) ?_
     refine aL rfl rfl hm3 ?_
     have sF:=hW2.size
     have qX3:=rX.lt
     replace rX:=rX.below hb3 rX.lt
     obtain⟨F,hF⟩:∃ F,F=W2.heap.size:=⟨_,rfl⟩
     have hW3:Below W1.heap.size W1 W3:=hW2.trans (hb3.mono hW2.size)
     rw[←hF] at rF ⊢
     have hF1:=Nat.le_of_eq hF
     have hF2:=Nat.le_of_eq hF.symm
     clear hF hz3 hm3
     refine⟨⟨⟨W3,hW3⟩,rfl⟩,?_⟩
     simp only[Act.put,List.setIfInBounds_toArray,List.set_cons_succ,List.set_cons_zero]
     obtain⟨W4,hm4,rL,hb4,hz4⟩:=aZ n hn W3
     refine AX.ay _ (by rfl) (by rfl) ?_
     refine aL rfl rfl hm4 ?_
     have sL:=hW3.size
     have qX4:=rX.lt
     replace rX:=rX.below hb4 rX.lt
     have qF4:=rF.lt
     replace rF:=rF.below hb4 rF.lt
     obtain⟨L,hL⟩:∃ L,L=W3.heap.size:=⟨_,rfl⟩
     have hW4:Below W1.heap.size W1 W4:=hW3.trans (hb4.mono hW3.size)
     rw[←hL] at rL ⊢
     have hL1:=Nat.le_of_eq hL
     have hL2:=Nat.le_of_eq hL.symm
     clear hL hz4 hm4
     refine⟨⟨⟨W4,hW4⟩,rfl⟩,?_⟩
     simp only[Act.put,List.setIfInBounds_toArray,List.set_cons_succ,List.set_cons_zero]
     refine AX.aA _ (by rfl) ?_;go_big_quiet_step (fail);refine wpQuiet_nil ?_
     refine AX.ay _ (by rfl) (by rfl) ?_
     refine AX.aF (vs:=[.bool _, .slice (some ⟨F,0,none⟩) n n, .slice (some ⟨L,0,none⟩) n n]) rfl rfl gI rX rfl rfl ?_
     rintro W9 h3 h4 h5
     have qF:=rF.lt
     have qL:=rL.lt
     have qX:=rX.lt
     have hW9:Below W1.heap.size W1 W9:=hW4.trans (AX.aj (show W1.heap.size≤X by omega) (.inl (Array.getElem?_eq_some_iff.1 h3).1) h4 h5)
     refine⟨⟨⟨W9,hW9⟩,rfl⟩,?_⟩
     unfold AX.aQ
     go_wp2_with fail
     go_meet
     case rel=>exact⟨X,F,L,rfl,(by first | exact h3 | (rw[beq_eq_false_iff_ne.2 hk3] at h3;exact h3)),rF.same (h4 _ (by omega)),rL.same (h4 _ (by omega)),by omega,by omega,by omega,by omega,by omega,by omega,hW9⟩
    ·obtain⟨W3,hm3,rL,hb3,hz3⟩:=aZ n hn W2
     refine AX.ay _ (by rfl) (by rfl) ?_
     refine aL rfl rfl hm3 ?_
     have sL:=hW2.size
     have qX3:=rX.lt
     replace rX:=rX.below hb3 rX.lt
     obtain⟨L,hL⟩:∃ L,L=W2.heap.size:=⟨_,rfl⟩
     have hW3:Below W1.heap.size W1 W3:=hW2.trans (hb3.mono hW2.size)
     rw[←hL] at rL ⊢
     have hL1:=Nat.le_of_eq hL
     have hL2:=Nat.le_of_eq hL.symm
     clear hL hz3 hm3
     refine⟨⟨⟨W3,hW3⟩,rfl⟩,?_⟩
     simp only[Act.put,List.setIfInBounds_toArray,List.set_cons_succ,List.set_cons_zero]
     obtain⟨W4,hm4,rF,hb4,hz4⟩:=aZ n hn W3
     refine AX.ay _ (by rfl) (by rfl) ?_
     refine aL rfl rfl hm4 ?_
     have sF:=hW3.size
     have qX4:=rX.lt
     replace rX:=rX.below hb4 rX.lt
     have qL4:=rL.lt
     replace rL:=rL.below hb4 rL.lt
     obtain⟨F,hF⟩:∃ F,F=W3.heap.size:=⟨_,rfl⟩
     have hW4:Below W1.heap.size W1 W4:=hW3.trans (hb4.mono hW3.size)
     rw[←hF] at rF ⊢
     have hF1:=Nat.le_of_eq hF
     have hF2:=Nat.le_of_eq hF.symm
     clear hF hz4 hm4
     refine⟨⟨⟨W4,hW4⟩,rfl⟩,?_⟩
     simp only[Act.put,List.setIfInBounds_toArray,List.set_cons_succ,List.set_cons_zero]
     refine AX.aA _ (by rfl) ?_;go_big_quiet_step (fail);refine wpQuiet_nil ?_
     refine AX.ay _ (by rfl) (by rfl) ?_
     refine AX.aF (vs:=[.bool _, .slice (some ⟨F,0,none⟩) n n, .slice (some ⟨L,0,none⟩) n n]) rfl rfl gI rX rfl rfl ?_
     rintro W9 h3 h4 h5
     have qF:=rF.lt
     have qL:=rL.lt
     have qX:=rX.lt
     have hW9:Below W1.heap.size W1 W9:=hW4.trans (AX.aj (show W1.heap.size≤X by omega) (.inl (Array.getElem?_eq_some_iff.1 h3).1) h4 h5)
     refine⟨⟨⟨W9,hW9⟩,rfl⟩,?_⟩
     unfold AX.aQ
     go_wp2_with fail
     go_meet
     case rel=>exact⟨X,F,L,rfl,(by first | exact h3 | (rw[beq_eq_false_iff_ne.2 hk3] at h3;exact h3)),rF.same (h4 _ (by omega)),rL.same (h4 _ (by omega)),by omega,by omega,by omega,by omega,by omega,by omega,hW9⟩
 case rest =>
  obtain⟨X,F,L,rfl,hX,hF,hL,hgF,hgL,hgX,hFL,hXF,hXL,hz⟩:=hcut
  have hk2:=HK.out
  rw[HE0.out,hk2] at hX
  replace hX:Bx wc X 205 #[.bool true, .slice (some ⟨F,0,none⟩) n n, .slice (some ⟨L,0,none⟩) n n]:=hX
  have HV:Hid (bT n es nx i x=x.kids.foldl (jf es) (nx,⟨true,zeros n,zeros n⟩)):=hid (by unfold bT;rw[if_neg (by omega),if_pos hk2])
  have hS:Nst w0 w wc s NB n i c cr B off bs ev (.slice lk x.kids.length ck) x nx:=⟨y2.below hz y2.lt,y4.below hz y4.lt,y5.below hz y5.lt,hN1.below hz hN1.lt (fun j hj=>hN1.blt hi hj),(eH.of_below (S:=fun k=>∃ j,j<i+1∧k=bs j) (HS.out ▸ hb2)).trans (.of_below hz),hlow.trans ((HS.out ▸ hb2:Below w.heap.size w W1).mono (by have:=HS.out;omega) |>.trans (hz.mono (by omega)))⟩
  have kc:wc.cell? ⟨s+1+1,0,none⟩=some (.int .i64 3):=by rw[←hk2];exact hS.b5.cell 0
  have kk:wc.cell? ⟨s+1+1,5,none⟩=some (.slice lk x.kids.length ck):=hS.b5.cell 5
  have hkl:x.kids.length≤512:=by have:=HX.out.high;have:=ug x.k;omega
  have Lc:∀ q∈x.kids,0≤q∧q<(i:Int):=HX.out.kids
  have HKS:=hid Lc
  have hsw:=HS.out
  have hX2:s+1+1<X:=by omega
  have hFs:s+3≤F:=by omega
  have hLs:s+3≤L:=by omega
  clear hk2 Lc y2 y4 y5 hN1 HE0 HX hb2 hz hlow hsw hgF hgL hgX
  generalize x.k=xk at kc
  go_wp2_with fail
  go_loopw [51] (fun ix wr=>∃(m:Nat)(y:En)(nx':List (List Bool)) (F cf L cl:Nat),m≤x.kids.length∧ix = .int .i64 m∧Nst w0 w wr s NB n i c cr B off bs ev (.slice lk x.kids.length ck) x nx'∧Bx wr X 205 #[.bool y.e, .slice (some ⟨F,0,none⟩) n cf, .slice (some ⟨L,0,none⟩) n cl]∧aH wr F y.f∧aH wr L y.l∧s+3≤F∧s+3≤L∧F≠L∧X≠F∧X≠L∧nZ n (i+1) y∧Hid ((nx',y)=(x.kids.take m).foldl (jf es) (nx,⟨true,zeros n,zeros n⟩)))
   (fun ix _=>x.kids.length-(intOf ix).toNat)
  case atStart=>exact⟨0,_,nx,F,n,L,n,Nat.zero_le _,rfl,hS,hX,hF,hL,hFs,hLs,hFL,hXF,hXL,FR n (i+1) true,hid rfl⟩
  case round =>
   clear hS hX hF hL hFs hLs hFL hXF hXL kc kk
   obtain⟨m,y,nx',F,cf,L,cl,hm,rfl,hS,hX,hF,hL,hFs,hLs,hFL,hXF,hXL,hy,HY⟩:=hrel
   by_cases hml:m<x.kids.length
   ·obtain⟨q,hq⟩:∃ q,x.kids[m]?=some q:=⟨_,List.getElem?_eq_getElem hml⟩
    obtain⟨B2,off2,hlk,hB2,hKc⟩:=jU m q hq
    have hqi:=HKS.out q (List.mem_of_getElem? hq)
    have d0:=(hS.low.cell (p:=⟨B2,off2+m,none⟩) hB2).trans hKc
    have Ya:B2<wr.heap.size:=Nat.lt_of_lt_of_le hB2 hS.low.size
    have hm0:(0:Int)≤(m:Int):=by omega
    have hm1:(m:Int)<(x.kids.length:Int):=by omega
    have HTM:Hid (x.kids.take (m+1)=x.kids.take m++[q]):=hid (by rw[List.take_add_one,hq];rfl)
    subst hlk
    obtain⟨j,rfl⟩:∃ j:Nat,q=(j:Int):=⟨q.toNat,by omega⟩
    have hj:j<es.length:=by omega
    obtain⟨z,hzj⟩:∃ z,es[j]?=some z:=⟨_,List.getElem?_eq_getElem hj⟩
    have hzw:=hwf j z hzj
    obtain⟨la3,c3,hev,hEs⟩:=hEw.gJ hS.but
    obtain⟨B3,iq,F3,cf3,L3,cl3,RL,hB3,Ld,⟨e0,e1,e2⟩,hF3,hL3,h3s⟩:=hEs j z hzj
    subst RL
    have hen:Hid (en es (j:Int)=z):=hid (by unfold en;rw[List.getD_eq_getElem?_getD,Int.toNat_natCast,hzj];rfl)
    clear hq hKc hzj hEs
    rw[hes] at hev
    subst hev
    have hj0:(j:Int).toNat=j:=by omega
    have hj1:(0:Int)≤(j:Int):=by omega
    have hj2:(j:Int)<(i:Int):=by omega
    have Vy:=fun W (hN:NAt W NB n (i+1) bs nx') (h1:aH W F y.f) (h2:aH W L y.l) (h3:aH W F3 z.f) (h4:aH W L3 z.l)=>Vz NB n (i+1) c bs (.slice (some ⟨B,off,none⟩) n cr) (.slice (some ⟨B3,iq,none⟩) i c3) nx' y z F cf L cl F3 cf3 L3 cl3 (by omega) (by omega) hi hy.lf hy.ll hzw.lf hzw.ll hy.lm (fun k hk=>⟨by have:=hbb k hk;omega,by have:=hbb k hk;omega,(h3s k hk).1,(h3s k hk).2⟩) W hN h1 h2 h3 h4
    go_wp2_with fail
    obtain⟨C,hCi,hCo⟩:∃ C:World→Prop,(∀ W,C W→Bx W X 205 #[.bool y.e, .slice (some ⟨F,0,none⟩) n cf, .slice (some ⟨L,0,none⟩) n cl]∧Bx W s 202 #[.slice (some ⟨B,off,none⟩) n cr, .slice (some ⟨B3,iq,none⟩) i c3, .slice (some ⟨NB,0,none⟩) n c]∧W.cell? ⟨B3,iq+j*3,none⟩=some (.bool z.e)∧W.cell? ⟨B3,iq+j*3+1,none⟩=some (.slice (some ⟨F3,0,none⟩) n cf3)∧W.cell? ⟨B3,iq+j*3+2,none⟩=some (.slice (some ⟨L3,0,none⟩) n cl3)) ∧
     (∀ W,(Bx W X 205 #[.bool y.e, .slice (some ⟨F,0,none⟩) n cf, .slice (some ⟨L,0,none⟩) n cl]∧Bx W s 202 #[.slice (some ⟨B,off,none⟩) n cr, .slice (some ⟨B3,iq,none⟩) i c3, .slice (some ⟨NB,0,none⟩) n c]∧W.cell? ⟨B3,iq+j*3,none⟩=some (.bool z.e)∧W.cell? ⟨B3,iq+j*3+1,none⟩=some (.slice (some ⟨F3,0,none⟩) n cf3)∧W.cell? ⟨B3,iq+j*3+2,none⟩=some (.slice (some ⟨L3,0,none⟩) n cl3))→C W):=⟨_,fun _ h=>h,fun _ h=>h⟩
    have hW0:C wr.drew:=hCo _ ⟨hX,hS.b2,e0,e1,e2⟩
    haveI:Inhabited (AX.CW C):=⟨⟨_,hW0⟩⟩
    haveI:Inhabited (AX.CW fun _=>True):=⟨⟨wr,trivial⟩⟩
    have a0:=fun p:AX.CW C=>(hCi _ p.h).1.three.1
    have a1:=fun p:AX.CW C=>(hCi _ p.h).1.three.2.1
    have a2:=fun p:AX.CW C=>(hCi _ p.h).1.three.2.2
    have b0:=fun p:AX.CW C=>(hCi _ p.h).2.1.three.1
    have b1:=fun p:AX.CW C=>(hCi _ p.h).2.1.three.2.1
    have b2:=fun p:AX.CW C=>(hCi _ p.h).2.1.three.2.2
    have g0:=fun p:AX.CW C=>(hCi _ p.h).2.2.1
    have g1:=fun p:AX.CW C=>(hCi _ p.h).2.2.2.1
    have g2:=fun p:AX.CW C=>(hCi _ p.h).2.2.2.2
    have HC:=hid hCo
    clear hCo hCi
    refine AX.bX (C:=fun W=>∃ p:AX.CW C,W=p.W) (CT:=fun W=>∃ p:AX.CW fun _=>True,W=p.W) 8 [(0,0),(1,0),(2,0),(3,0),(4,0),(5,0),(6,0),(7,2),(8,2)] _ (by kernel_rfl) (by kernel_rfl) rfl (by kernel_rfl) (by decide) (by kernel_rfl) (by kernel_rfl) (by intro c a d v w h;cases d<;>exact h) ⟨⟨⟨wr.drew,trivial⟩,rfl⟩,⟨⟨_,hW0⟩,rfl⟩⟩ ?_
    have hSd:Nst w0 w wr.drew s NB n i c cr B off bs (.slice (some ⟨B3,iq,none⟩) i c3) (.slice (some ⟨B2,off2,none⟩) x.kids.length ck) x nx':=⟨hS.b2,hS.b4,hS.b5,hS.nat.same rfl (fun _ _=>rfl),hS.but.trans (.of_below (Below.refl _ wr).drew),hS.low.drew⟩
    have hXd:Bx wr.drew X 205 #[.bool y.e, .slice (some ⟨F,0,none⟩) n cf, .slice (some ⟨L,0,none⟩) n cl]:=hX
    have hFd:aH wr.drew F y.f:=hF
    have hLd:aH wr.drew L y.l:=hL
    have Ic:aH wr.drew F3 z.f:=hF3
    have Ie:aH wr.drew L3 z.l:=hL3
    have e0d:wr.drew.cell? ⟨B3,iq+j*3,none⟩=some (.bool z.e):=e0
    have e1d:wr.drew.cell? ⟨B3,iq+j*3+1,none⟩=some (.slice (some ⟨F3,0,none⟩) n cf3):=e1
    have e2d:wr.drew.cell? ⟨B3,iq+j*3+2,none⟩=some (.slice (some ⟨L3,0,none⟩) n cl3):=e2
    have Yb:B3<wr.drew.heap.size:=hB3
    clear hS hX hF hL hF3 hL3 e0 e1 e2 hB3
    generalize wr.drew=wr' at *
    repeat (refine AX.bG _ (by rfl) ?_;go_big_quiet_step (fail);refine wpQuiet_nil ?_)
    refine AX.dB (Vy _ hSd.nat hFd hLd Ic Ie) (by rfl) (by rfl) (by rfl) Tryz.func140 (by kernel_rfl) (by rfl) (by simp only[List.map_toArray,List.map_cons,List.map_nil];rfl) ?_
    rintro e W4 ⟨⟨F4,cf4,L4,cl4,rfl,VA,VB,VD,hF4,hL4⟩,hN4,CZ⟩
    have hS4:=hSd.step hbb hbs CZ hN4
    have hX4:=hXd.gJ CZ (by rintro⟨k,hk,e⟩;have:=hbb k hk;omega)
    have eq4:=CZ.same B3 Yb (by rintro⟨k,hk,e⟩;exact Ld k hk e.symm)
    refine⟨_,rfl,⟨⟨⟨W4,trivial⟩,rfl⟩,fun _=>⟨⟨W4,HC.out _ ⟨hX4,hS4.b2,(bI eq4).trans e0d,(bI eq4).trans e1d,(bI eq4).trans e2d⟩⟩,rfl⟩⟩,?_⟩
    simp only[Act.put,List.setIfInBounds_toArray,List.set_cons_succ,List.set_cons_zero]
    refine AX.aV _ (by rfl) (by rfl) ?_
    refine AX.aF (vs:=[.bool (wD y z).e, .slice (some ⟨F4,0,none⟩) n cf4, .slice (some ⟨L4,0,none⟩) n cl4]) rfl rfl gI hX4 rfl rfl ?_
    rintro W5 h3 h4 h5
    have hXl:=hXd.lt
    have hS5:=hS4.turn hbb hNl (Nat.le_of_eq HS.out.symm) hws hX2 (Array.getElem?_eq_some_iff.1 h3).1 h4 h5
    have hF5:=hF4.same (h4 _ (by omega))
    have hL5:=hL4.same (h4 _ (by omega))
    have hX5:Bx W5 X 205 #[.bool (wD y z).e, .slice (some ⟨F4,0,none⟩) n cf4, .slice (some ⟨L4,0,none⟩) n cl4]:=h3
    refine⟨⟨⟨⟨W5,trivial⟩,rfl⟩,fun h=>by cases h⟩,?_⟩
    clear a0 a1 a2 b0 b1 b2 g0 g1 g2 e0d e1d e2d Vy h3 h4 h5 HC
    unfold AX.aY
    go_wp2_with fail
    go_roundw
    case rel =>
     refine⟨m+1,wD y z,_,F4,cf4,L4,cl4,by omega,by simp,hS5,hX5,hF5,hL5,by omega,by omega,VD,by omega,by omega,N8 hy hzw,hid ?_⟩
     rw[HTM.out,List.foldl_append,←HY.out]
     simp only[List.foldl_cons,List.foldl_nil,jf,hen.out]
    case measure=>simp[intOf];omega
   ·obtain rfl:m=x.kids.length:=by omega
    obtain⟨x0,x1,x2⟩:=hX.three
    have hXl:=hX.lt
    have h4b:=hS.b4
    have HVY:Hid (bT n es nx i x=(nx',y)):=hid (by rw[HV.out,HY.out,List.take_length])
    have Ig:=hS.nat
    have jV:=hS.but
    clear hS
    go_wp2_with ((with_reducible refine bC ?_);refine AX.au (vs:=[.bool y.e, .slice (some ⟨F,0,none⟩) n cf, .slice (some ⟨L,0,none⟩) n cl]) rfl rfl gI h4b rfl rfl ?_;rintro W9 h3 h4 h5;have hF9:=hF.same (h4 _ (by omega));have hL9:=hL.same (h4 _ (by omega));have hN9:NAt W9 NB n (i+1) bs nx':=Ig.same (h4 _ (by omega)) (fun j hj=>h4 _ (by have:=hbb j hj;omega));have hb9:Below s wr W9:=AX.aj (by omega) (.inl (Array.getElem?_eq_some_iff.1 h3).1) h4 h5;obtain⟨d0,d1,d2⟩:=Bx.three h3)
    have HSO:=HS.out
    refine bodyPost_ret (v := .agg #[.bool y.e, .slice (some ⟨F,0,none⟩) n cf, .slice (some ⟨L,0,none⟩) n cl]) (by simp[results,Tryz.results124,go_sem,d0,d1,d2]) rfl (by rw[HVY.out];exact⟨⟨F,cf,L,cl,rfl,by omega,by omega,hFL,hF9,hL9⟩,hN9,⟨jV.low.trans (hb9.mono (Nat.zero_le _)),fun k hk hn=>(hb9.block k (by omega)).trans (jV.same k hk hn)⟩⟩)
end Go.Proofs.YtkjgogdkdejljaaGreatDoor.Rx
