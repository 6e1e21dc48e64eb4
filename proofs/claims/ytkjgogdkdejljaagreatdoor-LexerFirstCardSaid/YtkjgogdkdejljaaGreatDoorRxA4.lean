import Derived.Test.YtkjgogdkdejljaaGreatDoorRxW8
set_option maxRecDepth 100000
set_option maxHeartbeats 40000000
namespace Go.Proofs.YtkjgogdkdejljaaGreatDoor.Rx
section
open Go.Lib (hid)
open Go Go.Proofs Go.RowKit
attribute [local go_sem] Oper.semAt_some
def IU:List (Nat×Bool):=[(0,false),(1,false),(2,false),(3,false),(4,false),(5,false),(6,false),(7,false),(8,true)]
def IV:List (Nat×Bool):=[(0,false),(1,false),(2,false),(3,false),(4,false),(5,false),(6,false),(7,false),(8,true)]
theorem Ue(NB n i c cr:Nat)(bs:Nat->Nat)(B off:Nat)(ev:Value)(nx:List (List Bool))(es:List En)(x:Nd)(hn:n<=1000)(hi:i<n)(hx:iM i x)(hk2:¬x.k=2/\¬x.k=3)(hes:es.length=i)(hwf:∀(j:Nat) y,es[j]?=some y->rY n (i+1) y)(w0 w:World)(hN:NAt w NB n (i+1) bs nx)(hE:EAt w ev n (i+1) bs es)
  (hB:B<w0.heap.size) (hX:XAt w0 B (off+i*6) x) (hlow:Below w0.heap.size w0 w) (hbs:∀j,j<i+1->w0.heap.size<=bs j):
  Calls Tryz.prog 124 #[.agg #[.slice (some ⟨B,off,none⟩) n cr,ev,.slice (some ⟨NB,0,none⟩) n c],.int .i64 i] w fun e w' =>
   IL w w' n (cO n es nx i x).2 e/\NAt w' NB n (i+1) bs (cO n es nx i x).1/\fM (fun k=>∃j,j<i+1/\k=bs j) w w':=by
 have HK:=hid hk2;clear hk2;have HX:=hid hx;clear hx;obtain⟨s,hs⟩:=afC w.heap.size;have hNl:=hN.lt;have hbb:=fun j (hj:j<i+1)=>hN.blt hi hj;have hi0:(0:Int)<=(i:Int):=by omega
 have hi1:(i:Int)<(n:Int):=by omega
 have hB0:Below w.heap.size w (((w.alloc (.cells #[.slice (some ⟨B,off,none⟩) n cr,ev,.slice (some ⟨NB,0,none⟩) n c] 202)).alloc (.cells #[.bool false,.slice none 0 0,.slice none 0 0] 205)).alloc (.cells #[.int .i64 0,.int .u64 0,.int .u64 0,.int .u64 0,.int .u64 0,.slice none 0 0] 153)):=(((afI _ w).alloc afD _).alloc (by simp) _).alloc (by simp<;>omega) _;have x2:=((Bx.new w 202 #[.slice (some ⟨B,off,none⟩) n cr,ev,.slice (some ⟨NB,0,none⟩) n c]).alloc (.cells #[.bool false,.slice none 0 0,.slice none 0 0] 205)).alloc (.cells #[.int .i64 0,.int .u64 0,.int .u64 0,.int .u64 0,.int .u64 0,.slice none 0 0] 153);have x4:=(Bx.new (w.alloc (.cells #[.slice (some ⟨B,off,none⟩) n cr,ev,.slice (some ⟨NB,0,none⟩) n c] 202)) 205 #[.bool false,.slice none 0 0,.slice none 0 0]).alloc (.cells #[.int .i64 0,.int .u64 0,.int .u64 0,.int .u64 0,.int .u64 0,.slice none 0 0] 153);have x5:=Bx.new ((w.alloc (.cells #[.slice (some ⟨B,off,none⟩) n cr,ev,.slice (some ⟨NB,0,none⟩) n c] 202)).alloc (.cells #[.bool false,.slice none 0 0,.slice none 0 0] 205)) 153 #[.int .i64 0,.int .u64 0,.int .u64 0,.int .u64 0,.int .u64 0,.slice none 0 0];simp only[World.size_alloc]at x4 x5;obtain⟨k0,k1,k2,k3,k4,kv,k5,hIR⟩:=hX;have hIR:=hIR.old;obtain⟨lk,ck,rfl,hK1,hK2⟩:=hIR;have hBw:B<w.heap.size:=afN hB hlow.size;replace k0:=(hlow.cell (p:=⟨B,off+i*6,none⟩) hB).trans k0;replace k1:=(hlow.cell (p:=⟨B,off+i*6+1,none⟩) hB).trans k1;replace k2:=(hlow.cell (p:=⟨B,off+i*6+2,none⟩) hB).trans k2;replace k3:=(hlow.cell (p:=⟨B,off+i*6+3,none⟩) hB).trans k3;replace k4:=(hlow.cell (p:=⟨B,off+i*6+4,none⟩) hB).trans k4;replace k5:=(hlow.cell (p:=⟨B,off+i*6+5,none⟩) hB).trans k5;have hs5:=x5.lt;go_enter Tryz.func124,Tryz.ntmps124
 go_wp2_with ((with_reducible refine bK ?_);refine AX.aj (vs:=[.int .i64 x.k,.int .u64 x.a,.int .u64 x.b,.int .u64 x.c,.int .u64 x.d,.slice lk x.kids.length ck]) rfl rfl ZE x5 rfl rfl ?_;rintro W1 h3 h4 h5)
 have y5:Bx W1 (w.heap.size+1+1) 153 #[.int .i64 x.k,.int .u64 x.a,.int .u64 x.b,.int .u64 x.c,.int .u64 x.d,.slice lk x.kids.length ck]:=h3;have y2:Bx W1 w.heap.size 202 #[.slice (some ⟨B,off,none⟩) n cr,ev,.slice (some ⟨NB,0,none⟩) n c]:=(h4 _ (by omega)).trans x2;have y4:Bx W1 (w.heap.size+1) 205 #[.bool false,.slice none 0 0,.slice none 0 0]:=(h4 _ (by omega)).trans x4;have hb2:Below w.heap.size w W1:=hB0.trans (AX.ah (by omega) (.inl (afF.1 h3).1) h4 h5);clear h3 h4 h5 x2 x4 x5 hB0 hs5;have hN1:=hN.below hb2 (hs▸ hNl) (fun j hj=>hbb j hj);have hEw:=hE;have hws:=hlow.size;clear hBw;have hs1:w.heap.size+3<=W1.heap.size:=by have:=y5.lt;omega
 rw[<-hs]at hNl hbb y2 y4 y5 hb2 hs1 hws⊢;have jl:∀m q,x.kids[m]?=some q->∃B2 off2,lk=some ⟨B2,off2,none⟩/\B2<w0.heap.size/\w0.cell? ⟨B2,off2+m,none⟩=some (.int .i64 q):=by
  intro m q hq
  cases lk with
  | none=>have:=hK1 rfl;rw[this]at hq;simp at hq
  | some ad =>
   obtain⟨B2,off2,rfl,hB2,hKc⟩:=hK2 _ rfl (by intro e;rw[e]at hq;simp at hq);exact⟨B2,off2,rfl,hB2,hKc m q hq⟩
 have HS:=hid hs;clear hs hN hE k0 k1 k2 k3 k4 k5 hK1 hK2;obtain⟨e0,he0⟩:=afC ((decide (x.k=1) || decide (x.k=3)));have HE0:=hid he0;clear he0;go_cut [6]from 16 to 32 (fun t6 wz=>∃X F L:Nat,t6=.pointer (some ⟨X,0,none⟩)/\Bx wz X 205 #[.bool e0,.slice (some ⟨F,0,none⟩) n n,.slice (some ⟨L,0,none⟩) n n]/\aJ wz F (zeros n)/\aJ wz L (zeros n)/\W1.heap.size<=F/\W1.heap.size<=L/\W1.heap.size<=X/\F≠L/\X≠F/\X≠L/\Below W1.heap.size W1 wz)
 case first =>
  have c5:=fun p=>AX.aA (show W1.cell? ⟨s+1+1,0,none⟩=some (.int .i64 x.k)from y5.cell 0) y5.lt p;have c2:=fun p=>AX.aA (show W1.cell? ⟨s,0,none⟩=some (.slice (some ⟨B,off,none⟩) n cr)from y2.cell 0) y2.lt p;have hW:Below W1.heap.size W1 W1.drew:=(afI _ W1).drew;clear y2 y4 y5 hN1 hEw hb2 hbb jl HX hwf;have HKf:=HK;clear HK;have hk3:(x.k=1/\e0=true)\/(¬x.k=1/\¬x.k=3/\e0=false):=by
   rw[HE0.out]
   by_cases h1:x.k=1
   ·exact .inl ⟨h1,by simp[h1]⟩
   ·exact .inr ⟨h1,HKf.out.2,by simp[h1,HKf.out.2]⟩
  clear HE0 HKf;generalize x.k=kk at *;rcases hk3 with ⟨rfl,rfl⟩|⟨hk1,hk3,rfl⟩
  all_goals
   refine AX.gI (C:=fun W=>∃p:AX.BW W1,W=p.W) mO _ (by kernel_rfl) (by kernel_rfl) rfl (by kernel_rfl) (by intro c a d v w h;cases d<;>exact h) ⟨⟨W1.drew,hW⟩,rfl⟩ ?_;unfold mO;generalize W1.drew=Wd at *
   repeat (refine AX.ay _ (by rfl) ?_;go_big_quiet_step (fail);refine afQ ?_)
   first
    | (simp only[agn.2 hk1];repeat (refine AX.ay _ (by rfl) ?_;go_big_quiet_step (fail);refine afQ ?_))
    | skip
   refine⟨?_,?_,?_⟩
   ·obtain⟨W2,hm2,rF,hb2,hz2⟩:=bH n hn Wd
    refine AX.au _ (by rfl) (by rfl) ?_;refine aK rfl rfl hm2 ?_;have sF:=hW.size;obtain⟨F,hF⟩:=afC Wd.heap.size;have hW2:Below W1.heap.size W1 W2:=hW.trans (hb2.mono hW.size);rw[<-hF]at rF⊢;have hF1:=afT hF;have hF2:=afT hF.symm;clear hF hz2 hm2;refine⟨⟨⟨W2,hW2⟩,rfl⟩,?_⟩;simp only[Act.put,afH,afL,afM];refine⟨?_,?_⟩
    ·obtain⟨W3,hm3,rL,hb3,hz3⟩:=bH n hn W2
     refine AX.au _ (by rfl) (by rfl) ?_;refine aK rfl rfl hm3 ?_;have sL:=hW2.size;have qF3:=rF.lt;replace rF:=rF.below hb3 rF.lt;obtain⟨L,hL⟩:=afC W2.heap.size;have hW3:Below W1.heap.size W1 W3:=hW2.trans (hb3.mono hW2.size);rw[<-hL]at rL⊢;have hL1:=afT hL;have hL2:=afT hL.symm;clear hL hz3 hm3;refine⟨⟨⟨W3,hW3⟩,rfl⟩,?_⟩;simp only[Act.put,afH,afL,afM];refine AX.ay _ (by rfl) ?_;go_big_quiet_step (fail);refine afQ ?_;refine AX.au _ (by rfl) (by rfl) ?_;unfold Oper.wp;go_simp
     have rX:=Bx.new W3 205 #[.bool false,.slice none 0 0,.slice none 0 0];have hb4:Below W3.heap.size W3 (W3.alloc (.cells #[.bool false,.slice none 0 0,.slice none 0 0] 205)):=(afI _ _).alloc afD _;have sX:=hW3.size;have qF4:=rF.lt;replace rF:=rF.below hb4 rF.lt;have qL4:=rL.lt;replace rL:=rL.below hb4 rL.lt;obtain⟨X,hX⟩:=afC W3.heap.size;generalize W3.alloc (.cells #[.bool false,.slice none 0 0,.slice none 0 0] 205)=W4 at *;have hW4:Below W1.heap.size W1 W4:=hW3.trans (hb4.mono hW3.size);rw[<-hX]at rX⊢;have hX1:=afT hX;have hX2:=afT hX.symm;clear hX;refine⟨⟨⟨W4,hW4⟩,rfl⟩,?_⟩;refine AX.au _ (by rfl) (by rfl) ?_;refine AX.aG (vs:=[.bool _,.slice (some ⟨F,0,none⟩) n n,.slice (some ⟨L,0,none⟩) n n]) rfl rfl je rX rfl rfl ?_;rintro W9 h3 h4 h5;have qF:=rF.lt;have qL:=rL.lt;have qX:=rX.lt;have hW9:Below W1.heap.size W1 W9:=hW4.trans (AX.ah (show W1.heap.size<=X by omega) (.inl (afF.1 h3).1) h4 h5);refine⟨⟨⟨W9,hW9⟩,rfl⟩,?_⟩;unfold AX.aQ;go_wp2_with fail
     go_meet
     case rel=>exact⟨X,F,L,rfl,(by first|exact h3|(rw[agn.2 hk3]at h3;exact h3)),rF.same (h4 _ (by omega)),rL.same (h4 _ (by omega)),by omega,by omega,by omega,by omega,by omega,by omega,hW9⟩
    ·refine AX.au _ (by rfl) (by rfl) ?_
     unfold Oper.wp;go_simp
     have rX:=Bx.new W2 205 #[.bool false,.slice none 0 0,.slice none 0 0];have hb3:Below W2.heap.size W2 (W2.alloc (.cells #[.bool false,.slice none 0 0,.slice none 0 0] 205)):=(afI _ _).alloc afD _;have sX:=hW2.size;have qF3:=rF.lt;replace rF:=rF.below hb3 rF.lt;obtain⟨X,hX⟩:=afC W2.heap.size;generalize W2.alloc (.cells #[.bool false,.slice none 0 0,.slice none 0 0] 205)=W3 at *;have hW3:Below W1.heap.size W1 W3:=hW2.trans (hb3.mono hW2.size);rw[<-hX]at rX⊢;have hX1:=afT hX;have hX2:=afT hX.symm;clear hX;refine⟨⟨⟨W3,hW3⟩,rfl⟩,?_⟩;obtain⟨W4,hm4,rL,hb4,hz4⟩:=bH n hn W3;refine AX.au _ (by rfl) (by rfl) ?_;refine aK rfl rfl hm4 ?_;have sL:=hW3.size;have qF4:=rF.lt;replace rF:=rF.below hb4 rF.lt;have qX4:=rX.lt;replace rX:=rX.below hb4 rX.lt;obtain⟨L,hL⟩:=afC W3.heap.size;have hW4:Below W1.heap.size W1 W4:=hW3.trans (hb4.mono hW3.size);rw[<-hL]at rL⊢;have hL1:=afT hL;have hL2:=afT hL.symm;clear hL hz4 hm4;refine⟨⟨⟨W4,hW4⟩,rfl⟩,?_⟩;simp only[Act.put,afH,afL,afM];refine AX.ay _ (by rfl) ?_;go_big_quiet_step (fail);refine afQ ?_;refine AX.au _ (by rfl) (by rfl) ?_;refine AX.aG (vs:=[.bool _,.slice (some ⟨F,0,none⟩) n n,.slice (some ⟨L,0,none⟩) n n]) rfl rfl je rX rfl rfl ?_;rintro W9 h3 h4 h5;have qF:=rF.lt;have qL:=rL.lt;have qX:=rX.lt;have hW9:Below W1.heap.size W1 W9:=hW4.trans (AX.ah (show W1.heap.size<=X by omega) (.inl (afF.1 h3).1) h4 h5);refine⟨⟨⟨W9,hW9⟩,rfl⟩,?_⟩;unfold AX.aQ;go_wp2_with fail
     go_meet
     case rel=>exact⟨X,F,L,rfl,(by first|exact h3|(rw[agn.2 hk3]at h3;exact h3)),rF.same (h4 _ (by omega)),rL.same (h4 _ (by omega)),by omega,by omega,by omega,by omega,by omega,by omega,hW9⟩
   ·obtain⟨W2,hm2,rL,hb2,hz2⟩:=bH n hn Wd
    refine AX.au _ (by rfl) (by rfl) ?_;refine aK rfl rfl hm2 ?_;have sL:=hW.size;obtain⟨L,hL⟩:=afC Wd.heap.size;have hW2:Below W1.heap.size W1 W2:=hW.trans (hb2.mono hW.size);rw[<-hL]at rL⊢;have hL1:=afT hL;have hL2:=afT hL.symm;clear hL hz2 hm2;refine⟨⟨⟨W2,hW2⟩,rfl⟩,?_⟩;simp only[Act.put,afH,afL,afM];refine⟨?_,?_⟩
    ·obtain⟨W3,hm3,rF,hb3,hz3⟩:=bH n hn W2
     refine AX.au _ (by rfl) (by rfl) ?_;refine aK rfl rfl hm3 ?_;have sF:=hW2.size;have qL3:=rL.lt;replace rL:=rL.below hb3 rL.lt;obtain⟨F,hF⟩:=afC W2.heap.size;have hW3:Below W1.heap.size W1 W3:=hW2.trans (hb3.mono hW2.size);rw[<-hF]at rF⊢;have hF1:=afT hF;have hF2:=afT hF.symm;clear hF hz3 hm3;refine⟨⟨⟨W3,hW3⟩,rfl⟩,?_⟩;simp only[Act.put,afH,afL,afM];refine AX.ay _ (by rfl) ?_;go_big_quiet_step (fail);refine afQ ?_;refine AX.au _ (by rfl) (by rfl) ?_;unfold Oper.wp;go_simp
     have rX:=Bx.new W3 205 #[.bool false,.slice none 0 0,.slice none 0 0];have hb4:Below W3.heap.size W3 (W3.alloc (.cells #[.bool false,.slice none 0 0,.slice none 0 0] 205)):=(afI _ _).alloc afD _;have sX:=hW3.size;have qL4:=rL.lt;replace rL:=rL.below hb4 rL.lt;have qF4:=rF.lt;replace rF:=rF.below hb4 rF.lt;obtain⟨X,hX⟩:=afC W3.heap.size;generalize W3.alloc (.cells #[.bool false,.slice none 0 0,.slice none 0 0] 205)=W4 at *;have hW4:Below W1.heap.size W1 W4:=hW3.trans (hb4.mono hW3.size);rw[<-hX]at rX⊢;have hX1:=afT hX;have hX2:=afT hX.symm;clear hX;refine⟨⟨⟨W4,hW4⟩,rfl⟩,?_⟩;refine AX.au _ (by rfl) (by rfl) ?_;refine AX.aG (vs:=[.bool _,.slice (some ⟨F,0,none⟩) n n,.slice (some ⟨L,0,none⟩) n n]) rfl rfl je rX rfl rfl ?_;rintro W9 h3 h4 h5;have qF:=rF.lt;have qL:=rL.lt;have qX:=rX.lt;have hW9:Below W1.heap.size W1 W9:=hW4.trans (AX.ah (show W1.heap.size<=X by omega) (.inl (afF.1 h3).1) h4 h5);refine⟨⟨⟨W9,hW9⟩,rfl⟩,?_⟩;unfold AX.aQ;go_wp2_with fail
     go_meet
     case rel=>exact⟨X,F,L,rfl,(by first|exact h3|(rw[agn.2 hk3]at h3;exact h3)),rF.same (h4 _ (by omega)),rL.same (h4 _ (by omega)),by omega,by omega,by omega,by omega,by omega,by omega,hW9⟩
    ·refine AX.au _ (by rfl) (by rfl) ?_
     unfold Oper.wp;go_simp
     have rX:=Bx.new W2 205 #[.bool false,.slice none 0 0,.slice none 0 0];have hb3:Below W2.heap.size W2 (W2.alloc (.cells #[.bool false,.slice none 0 0,.slice none 0 0] 205)):=(afI _ _).alloc afD _;have sX:=hW2.size;have qL3:=rL.lt;replace rL:=rL.below hb3 rL.lt;obtain⟨X,hX⟩:=afC W2.heap.size;generalize W2.alloc (.cells #[.bool false,.slice none 0 0,.slice none 0 0] 205)=W3 at *;have hW3:Below W1.heap.size W1 W3:=hW2.trans (hb3.mono hW2.size);rw[<-hX]at rX⊢;have hX1:=afT hX;have hX2:=afT hX.symm;clear hX;refine⟨⟨⟨W3,hW3⟩,rfl⟩,?_⟩;obtain⟨W4,hm4,rF,hb4,hz4⟩:=bH n hn W3;refine AX.au _ (by rfl) (by rfl) ?_;refine aK rfl rfl hm4 ?_;have sF:=hW3.size;have qL4:=rL.lt;replace rL:=rL.below hb4 rL.lt;have qX4:=rX.lt;replace rX:=rX.below hb4 rX.lt;obtain⟨F,hF⟩:=afC W3.heap.size;have hW4:Below W1.heap.size W1 W4:=hW3.trans (hb4.mono hW3.size);rw[<-hF]at rF⊢;have hF1:=afT hF;have hF2:=afT hF.symm;clear hF hz4 hm4;refine⟨⟨⟨W4,hW4⟩,rfl⟩,?_⟩;simp only[Act.put,afH,afL,afM];refine AX.ay _ (by rfl) ?_;go_big_quiet_step (fail);refine afQ ?_;refine AX.au _ (by rfl) (by rfl) ?_;refine AX.aG (vs:=[.bool _,.slice (some ⟨F,0,none⟩) n n,.slice (some ⟨L,0,none⟩) n n]) rfl rfl je rX rfl rfl ?_;rintro W9 h3 h4 h5;have qF:=rF.lt;have qL:=rL.lt;have qX:=rX.lt;have hW9:Below W1.heap.size W1 W9:=hW4.trans (AX.ah (show W1.heap.size<=X by omega) (.inl (afF.1 h3).1) h4 h5);refine⟨⟨⟨W9,hW9⟩,rfl⟩,?_⟩;unfold AX.aQ;go_wp2_with fail
     go_meet
     case rel=>exact⟨X,F,L,rfl,(by first|exact h3|(rw[agn.2 hk3]at h3;exact h3)),rF.same (h4 _ (by omega)),rL.same (h4 _ (by omega)),by omega,by omega,by omega,by omega,by omega,by omega,hW9⟩
   ·refine AX.au _ (by rfl) (by rfl) ?_
    unfold Oper.wp;go_simp
    have rX:=Bx.new Wd 205 #[.bool false,.slice none 0 0,.slice none 0 0];have hb2:Below Wd.heap.size Wd (Wd.alloc (.cells #[.bool false,.slice none 0 0,.slice none 0 0] 205)):=(afI _ _).alloc afD _;have sX:=hW.size;obtain⟨X,hX⟩:=afC Wd.heap.size;generalize Wd.alloc (.cells #[.bool false,.slice none 0 0,.slice none 0 0] 205)=W2 at *;have hW2:Below W1.heap.size W1 W2:=hW.trans (hb2.mono hW.size);rw[<-hX]at rX⊢;have hX1:=afT hX;have hX2:=afT hX.symm;clear hX;refine⟨⟨⟨W2,hW2⟩,rfl⟩,?_⟩;refine⟨?_,?_⟩
    ·obtain⟨W3,hm3,rF,hb3,hz3⟩:=bH n hn W2
     refine AX.au _ (by rfl) (by rfl) ?_;refine aK rfl rfl hm3 ?_;have sF:=hW2.size;have qX3:=rX.lt;replace rX:=rX.below hb3 rX.lt;obtain⟨F,hF⟩:=afC W2.heap.size;have hW3:Below W1.heap.size W1 W3:=hW2.trans (hb3.mono hW2.size);rw[<-hF]at rF⊢;have hF1:=afT hF;have hF2:=afT hF.symm;clear hF hz3 hm3;refine⟨⟨⟨W3,hW3⟩,rfl⟩,?_⟩;simp only[Act.put,afH,afL,afM];obtain⟨W4,hm4,rL,hb4,hz4⟩:=bH n hn W3;refine AX.au _ (by rfl) (by rfl) ?_;refine aK rfl rfl hm4 ?_;have sL:=hW3.size;have qX4:=rX.lt;replace rX:=rX.below hb4 rX.lt;have qF4:=rF.lt;replace rF:=rF.below hb4 rF.lt;obtain⟨L,hL⟩:=afC W3.heap.size;have hW4:Below W1.heap.size W1 W4:=hW3.trans (hb4.mono hW3.size);rw[<-hL]at rL⊢;have hL1:=afT hL;have hL2:=afT hL.symm;clear hL hz4 hm4;refine⟨⟨⟨W4,hW4⟩,rfl⟩,?_⟩;simp only[Act.put,afH,afL,afM];refine AX.ay _ (by rfl) ?_;go_big_quiet_step (fail);refine afQ ?_;refine AX.au _ (by rfl) (by rfl) ?_;refine AX.aG (vs:=[.bool _,.slice (some ⟨F,0,none⟩) n n,.slice (some ⟨L,0,none⟩) n n]) rfl rfl je rX rfl rfl ?_;rintro W9 h3 h4 h5;have qF:=rF.lt;have qL:=rL.lt;have qX:=rX.lt;have hW9:Below W1.heap.size W1 W9:=hW4.trans (AX.ah (show W1.heap.size<=X by omega) (.inl (afF.1 h3).1) h4 h5);refine⟨⟨⟨W9,hW9⟩,rfl⟩,?_⟩;unfold AX.aQ;go_wp2_with fail
     go_meet
     case rel=>exact⟨X,F,L,rfl,(by first|exact h3|(rw[agn.2 hk3]at h3;exact h3)),rF.same (h4 _ (by omega)),rL.same (h4 _ (by omega)),by omega,by omega,by omega,by omega,by omega,by omega,hW9⟩
    ·obtain⟨W3,hm3,rL,hb3,hz3⟩:=bH n hn W2
     refine AX.au _ (by rfl) (by rfl) ?_;refine aK rfl rfl hm3 ?_;have sL:=hW2.size;have qX3:=rX.lt;replace rX:=rX.below hb3 rX.lt;obtain⟨L,hL⟩:=afC W2.heap.size;have hW3:Below W1.heap.size W1 W3:=hW2.trans (hb3.mono hW2.size);rw[<-hL]at rL⊢;have hL1:=afT hL;have hL2:=afT hL.symm;clear hL hz3 hm3;refine⟨⟨⟨W3,hW3⟩,rfl⟩,?_⟩;simp only[Act.put,afH,afL,afM];obtain⟨W4,hm4,rF,hb4,hz4⟩:=bH n hn W3;refine AX.au _ (by rfl) (by rfl) ?_;refine aK rfl rfl hm4 ?_;have sF:=hW3.size;have qX4:=rX.lt;replace rX:=rX.below hb4 rX.lt;have qL4:=rL.lt;replace rL:=rL.below hb4 rL.lt;obtain⟨F,hF⟩:=afC W3.heap.size;have hW4:Below W1.heap.size W1 W4:=hW3.trans (hb4.mono hW3.size);rw[<-hF]at rF⊢;have hF1:=afT hF;have hF2:=afT hF.symm;clear hF hz4 hm4;refine⟨⟨⟨W4,hW4⟩,rfl⟩,?_⟩;simp only[Act.put,afH,afL,afM];refine AX.ay _ (by rfl) ?_;go_big_quiet_step (fail);refine afQ ?_;refine AX.au _ (by rfl) (by rfl) ?_;refine AX.aG (vs:=[.bool _,.slice (some ⟨F,0,none⟩) n n,.slice (some ⟨L,0,none⟩) n n]) rfl rfl je rX rfl rfl ?_;rintro W9 h3 h4 h5;have qF:=rF.lt;have qL:=rL.lt;have qX:=rX.lt;have hW9:Below W1.heap.size W1 W9:=hW4.trans (AX.ah (show W1.heap.size<=X by omega) (.inl (afF.1 h3).1) h4 h5);refine⟨⟨⟨W9,hW9⟩,rfl⟩,?_⟩;unfold AX.aQ;go_wp2_with fail
     go_meet
     case rel=>exact⟨X,F,L,rfl,(by first|exact h3|(rw[agn.2 hk3]at h3;exact h3)),rF.same (h4 _ (by omega)),rL.same (h4 _ (by omega)),by omega,by omega,by omega,by omega,by omega,by omega,hW9⟩
 case rest =>
  obtain⟨X,F,L,rfl,hX,hF,hL,hgF,hgL,hgX,hFL,hXF,hXL,hz⟩:=hcut;have hk2:=HK.out;rw[HE0.out]at hX;have hX0:Bx wc X 205 #[.bool (decide (x.k=1)),.slice (some ⟨F,0,none⟩) n n,.slice (some ⟨L,0,none⟩) n n]:=by
   rw[agC hk2.2,Bool.or_false]at hX;exact hX
  have HV:Hid (cO n es nx i x=(if x.k=5\/x.k=6 then kS nx (x.kids.foldl (iF es) ⟨decide (x.k=1),zeros n,zeros n⟩).l (x.kids.foldl (iF es) ⟨decide (x.k=1),zeros n,zeros n⟩).f else nx,⟨if x.k=5\/x.k=7 then true else (x.kids.foldl (iF es) ⟨decide (x.k=1),zeros n,zeros n⟩).e,(x.kids.foldl (iF es) ⟨decide (x.k=1),zeros n,zeros n⟩).f,(x.kids.foldl (iF es) ⟨decide (x.k=1),zeros n,zeros n⟩).l⟩)):=hid (by unfold cO;rw[afO hk2.1,afO hk2.2]);have hS:Nst w0 w wc s NB n i c cr B off bs ev (.slice lk x.kids.length ck) x nx:=⟨y2.below hz y2.lt,y4.below hz y4.lt,y5.below hz y5.lt,hN1.below hz hN1.lt (fun j hj=>hN1.blt hi hj),(fM.of_below (S:=fun k=>∃j,j<i+1/\k=bs j) (HS.out▸ hb2)).trans (.of_below hz),hlow.trans ((HS.out▸ hb2:Below w.heap.size w W1).mono (by have:=HS.out;omega) |>.trans (hz.mono (by omega)))⟩;have kc:wc.cell? ⟨s+1+1,0,none⟩=some (.int .i64 x.k):=hS.b5.cell 0;have kk:wc.cell? ⟨s+1+1,5,none⟩=some (.slice lk x.kids.length ck):=hS.b5.cell 5;have hkl:x.kids.length<=512:=by have:=HX.out.high;have:=yA x.k;omega
  have Uc:∀q∈x.kids,0<=q/\q<(i:Int):=HX.out.kids;have HKS:=hid Uc;have HKR:=hid HX.out.k;have hsw:=HS.out;have hX2:s+3<=X:=by omega
  have hFs:s+3<=F:=by omega
  have hLs:s+3<=L:=by omega
  have hsz:w.heap.size<=s:=by omega
  obtain⟨k2,k3⟩:=hk2;clear Uc y2 y4 y5 hN1 HE0 HX hb2 hz hlow hsw hgF hgL hgX hX;go_wp2_with fail
  go_loopw [68] (fun ix wr=>∃(m:Nat)(y:En)(cf cl:Nat),m<=x.kids.length/\ix=.int .i64 m/\Nst w0 w wr s NB n i c cr B off bs ev (.slice lk x.kids.length ck) x nx/\Bx wr X 205 #[.bool y.e,.slice (some ⟨F,0,none⟩) n cf,.slice (some ⟨L,0,none⟩) n cl]/\aJ wr F y.f/\aJ wr L y.l/\rY n (i+1) y/\Hid (y=(x.kids.take m).foldl (iF es) ⟨decide (x.k=1),zeros n,zeros n⟩))
   (fun ix _=>x.kids.length-(RowKit.intOf ix).toNat)
  case atStart=>exact⟨0,_,n,n,af0 _,rfl,hS,hX0,hF,hL,MJ n (i+1) _,hid rfl⟩
  case round =>
   clear hS hX0 hF hL kc kk;obtain⟨m,y,cf,cl,hm,rfl,hS,hX,hF,hL,hy,HY⟩:=hrel
   by_cases hml:m<x.kids.length
   ·obtain⟨q,hq⟩:∃q,x.kids[m]?=some q:=⟨_,afE hml⟩
    obtain⟨B2,off2,hlk,hB2,hKc⟩:=jl m q hq;have hqi:=HKS.out q (af7 hq);have d0:=(hS.low.cell (p:=⟨B2,off2+m,none⟩) hB2).trans hKc;have aev:B2<wr.heap.size:=afN hB2 hS.low.size;have hm0:(0:Int)<=(m:Int):=(by omega);have hm1:(m:Int)<(x.kids.length:Int):=(by omega);have HTM:Hid (x.kids.take (m+1)=x.kids.take m++[q]):=hid (by rw[ahm,hq];rfl);subst hlk;obtain⟨j,rfl⟩:∃j:Nat,q=(j:Int):=⟨q.toNat,by omega⟩;have hj:j<es.length:=(by omega);obtain⟨z,hzj⟩:∃z,es[j]?=some z:=⟨_,afE hj⟩;have hzw:=hwf j z hzj;obtain⟨la3,c3,hev,hEs⟩:=hEw;obtain⟨B3,jd,F3,cf3,L3,cl3,ZF,hB3,Ud,⟨e0,e1,e2⟩,hF3,hL3,h3s⟩:=hEs j z hzj;subst ZF;have hen:Hid (en es (j:Int)=z):=hid (by unfold en;rw[afG,afY,hzj];rfl);clear hq hKc hzj hEs;rw[hes]at hev;subst hev;have afu:=hF3.lt;have afv:=hL3.lt;have hj0:(j:Int).toNat=j:=(by omega);have hj1:(0:Int)<=(j:Int):=(by omega);have hj2:(j:Int)<(i:Int):=(by omega);have IW:Hid (∀W,Nst w0 w W s NB n i c cr B off bs (.slice (some ⟨B3,jd,none⟩) i c3) (.slice (some ⟨B2,off2,none⟩) x.kids.length ck) x nx->W.cell? ⟨B3,jd+j*3,none⟩=some (.bool z.e)/\W.cell? ⟨B3,jd+j*3+1,none⟩=some (.slice (some ⟨F3,0,none⟩) n cf3)/\W.cell? ⟨B3,jd+j*3+2,none⟩=some (.slice (some ⟨L3,0,none⟩) n cl3)/\aJ W F3 z.f/\aJ W L3 z.l):=hid fun W h=>by
     have e:=h.but.same B3 hB3 (by rintro⟨k,hk,e⟩;exact Ud k hk e.symm);exact⟨(bZ e).trans e0,(bZ e).trans e1,(bZ e).trans e2,hF3.jf h.but (by rintro⟨k,hk,e⟩;exact(h3s k hk).1 e.symm),hL3.jf h.but (by rintro⟨k,hk,e⟩;exact(h3s k hk).2 e.symm)⟩
    clear e0 e1 e2 hF3 hL3;obtain⟨e0,e1,e2,hF3,hL3⟩:=IW.out _ hS;obtain⟨x0,x1,x2⟩:=hX.three;obtain⟨t0,t1,t2⟩:=hS.b2.three;have afw:B3<wr.heap.size:=afN hB3 hS.but.low.size;have hXlt:=hX.lt;clear hF3 hL3;obtain⟨ye,yf,yl⟩:=y;obtain⟨ze,zf,zl⟩:=z;dsimp only at *;have ZG:=fun W (h1:aJ W F yf) (h2:aJ W F3 zf)=>OY F F3 cf cf3 n yf zf (by omega) hy.lf hzw.lf (by omega) W h1 h2;have hor2:=fun W (h1:aJ W L yl) (h2:aJ W L3 zl)=>OY L L3 cl cl3 n yl zl (by omega) hy.ll hzw.ll (by omega) W h1 h2
    cases ye
    all_goals
     go_wp2_with ((with_reducible refine bK ?_);refine AX.aB (o:=0) (v:=.bool _) rfl rfl rfl sz4 hX (show 0<3 by decide) ?_;rintro W4 h3 h4 h5)
     have hS4:=hS.lift hbb hNl hsz hws (AX.ah hX2 (.inl (afF.1 h3).1) h4 h5)
     first
      | (have hX4:Bx W4 X 205 #[.bool (false || ze),.slice (some ⟨F,0,none⟩) n cf,.slice (some ⟨L,0,none⟩) n cl]:=h3)
      | (have hX4:Bx W4 X 205 #[.bool (true || ze),.slice (some ⟨F,0,none⟩) n cf,.slice (some ⟨L,0,none⟩) n cl]:=h3)
     have hF4:=hF.same (h4 _ (by omega));have hL4:=hL.same (h4 _ (by omega));clear h3 h4 h5 hS hX hF hL x0 x1 x2 t0 t1 t2 e0 e1 e2;have aex:X≠F:=(by omega);obtain⟨C,hCi,hCo⟩:∃C:World->Prop,(∀W,C W->W.cell? ⟨X,1,none⟩=some (.slice (some ⟨F,0,none⟩) n cf)/\W.cell? ⟨s,1,none⟩=some (.slice (some ⟨B3,jd,none⟩) i c3)/\W.cell? ⟨B3,jd+j*3+1,none⟩=some (.slice (some ⟨F3,0,none⟩) n cf3)) /\
      (∀W,(W.cell? ⟨X,1,none⟩=some (.slice (some ⟨F,0,none⟩) n cf)/\W.cell? ⟨s,1,none⟩=some (.slice (some ⟨B3,jd,none⟩) i c3)/\W.cell? ⟨B3,jd+j*3+1,none⟩=some (.slice (some ⟨F3,0,none⟩) n cf3))->C W):=⟨_,fun _ h=>h,fun _ h=>h⟩
     obtain⟨e0,e1,e2,hF3,hL3⟩:=IW.out _ hS4;have hW0:C W4.drew:=hCo _ ⟨hX4.cell 1,hS4.b2.cell 1,e1⟩;haveI:Inhabited (AX.CW C):=⟨⟨_,hW0⟩⟩;have a0:=fun p:AX.CW C=>(hCi _ p.h).1;have a1:=fun p:AX.CW C=>(hCi _ p.h).2.1;have a2:=fun p:AX.CW C=>(hCi _ p.h).2.2;have HC:=hid hCo;clear hCo hCi;refine AX.gJ (C:=fun W=>∃p:AX.CW C,W=p.W) IU _ (by kernel_rfl) (by kernel_rfl) rfl (by kernel_rfl) (by kernel_rfl) (by intro c a d v w h;cases d<;>exact h) ⟨⟨_,hW0⟩,rfl⟩ ?_;unfold IU;have hSd:=hS4.lift hbb hNl hsz hws (afI (s+3) W4).drew;have hXd:Bx W4.drew X 205 _:=hX4;have hFd:aJ W4.drew F _:=hF4;have hLd:aJ W4.drew L _:=hL4;have OZ:aJ W4.drew F3 zf:=hF3;have O1:aJ W4.drew L3 zl:=hL3;have Uf:s+3<=W4.drew.heap.size:=(by have:=hS4.b5.lt;show s+3<=W4.heap.size;omega);clear hS4 hX4 hF4 hL4 hF3 hL3 e0 e1 e2 hW0;generalize W4.drew=W4d at *
     repeat (refine AX.dD _ (by rfl) ?_;go_big_quiet_step (fail);refine afQ ?_)
     refine AX.pY (ZG _ hFd OZ) (by rfl) (by rfl) (by rfl) Tryz.func126 (by kernel_rfl) (by rfl) (by simp only[agh,agd,agm];rfl) ?_;rintro e W5 ⟨rfl,acC,WL⟩;have KO:=hSd.lift hbb hNl hsz hws (qm WL (by omega) Uf);have WM:=hXd.but WL (by omega);have acD:=hLd.but WL (by omega);obtain⟨e0,e1,e2,_,_⟩:=IW.out _ KO;refine⟨_,rfl,⟨⟨_,HC.out _ ⟨WM.cell 1,KO.b2.cell 1,e1⟩⟩,rfl⟩,?_⟩;clear a0 a1 a2 HC hSd hXd hFd hLd OZ O1 Uf WL e0 e1 e2;simp only[Act.put,afH,afL,afM];unfold AX.fP;go_wp2_with fail
     have aex:X≠L:=(by omega);obtain⟨C,hCi,hCo⟩:∃C:World->Prop,(∀W,C W->W.cell? ⟨X,2,none⟩=some (.slice (some ⟨L,0,none⟩) n cl)/\W.cell? ⟨s,1,none⟩=some (.slice (some ⟨B3,jd,none⟩) i c3)/\W.cell? ⟨B3,jd+j*3+2,none⟩=some (.slice (some ⟨L3,0,none⟩) n cl3)) /\
      (∀W,(W.cell? ⟨X,2,none⟩=some (.slice (some ⟨L,0,none⟩) n cl)/\W.cell? ⟨s,1,none⟩=some (.slice (some ⟨B3,jd,none⟩) i c3)/\W.cell? ⟨B3,jd+j*3+2,none⟩=some (.slice (some ⟨L3,0,none⟩) n cl3))->C W):=⟨_,fun _ h=>h,fun _ h=>h⟩
     obtain⟨e0,e1,e2,hF3,hL3⟩:=IW.out _ KO;have hW0:C W5.drew:=hCo _ ⟨WM.cell 2,KO.b2.cell 1,e2⟩;haveI:Inhabited (AX.CW C):=⟨⟨_,hW0⟩⟩;have a0:=fun p:AX.CW C=>(hCi _ p.h).1;have a1:=fun p:AX.CW C=>(hCi _ p.h).2.1;have a2:=fun p:AX.CW C=>(hCi _ p.h).2.2;have HC:=hid hCo;clear hCo hCi;refine AX.gJ (C:=fun W=>∃p:AX.CW C,W=p.W) IV _ (by kernel_rfl) (by kernel_rfl) rfl (by kernel_rfl) (by kernel_rfl) (by intro c a d v w h;cases d<;>exact h) ⟨⟨_,hW0⟩,rfl⟩ ?_;unfold IV;have hSd:=KO.lift hbb hNl hsz hws (afI (s+3) W5).drew;have hXd:Bx W5.drew X 205 _:=WM;have hFd:aJ W5.drew F _:=acC;have hLd:aJ W5.drew L _:=acD;have OZ:aJ W5.drew F3 zf:=hF3;have O1:aJ W5.drew L3 zl:=hL3;have Uf:s+3<=W5.drew.heap.size:=(by have:=KO.b5.lt;show s+3<=W5.heap.size;omega);clear KO WM acC acD hF3 hL3 e0 e1 e2 hW0;generalize W5.drew=W5d at *
     repeat (refine AX.dD _ (by rfl) ?_;go_big_quiet_step (fail);refine afQ ?_)
     refine AX.pY (hor2 _ hLd O1) (by rfl) (by rfl) (by rfl) Tryz.func126 (by kernel_rfl) (by rfl) (by simp only[agh,agd,agm];rfl) ?_;rintro e W6 ⟨rfl,acE,WO⟩;have WQ:=hSd.lift hbb hNl hsz hws (qm WO (by omega) Uf);have ZH:=hXd.but WO (by omega);have acF:=hFd.but WO (by omega);obtain⟨e0,e1,e2,_,_⟩:=IW.out _ WQ;refine⟨_,rfl,⟨⟨_,HC.out _ ⟨ZH.cell 2,WQ.b2.cell 1,e2⟩⟩,rfl⟩,?_⟩;clear a0 a1 a2 HC hSd hXd hFd hLd OZ O1 Uf WO e0 e1 e2;simp only[Act.put,afH,afL,afM];unfold AX.fP;go_wp2_with fail
     go_roundw
     case rel =>
      first
       | refine⟨m+1,Kz ⟨false,yf,yl⟩ ⟨ze,zf,zl⟩,cf,cl,by omega,by simp,WQ,ZH,acF,acE,MK hy hzw,hid ?_⟩
       | refine⟨m+1,Kz ⟨true,yf,yl⟩ ⟨ze,zf,zl⟩,cf,cl,by omega,by simp,WQ,ZH,acF,acE,MK hy hzw,hid ?_⟩
      rw[HTM.out,agI,<-HY.out];simp only[agw,aio,iF,hen.out]
     case measure=>simp[RowKit.intOf];omega
   ·obtain rfl:m=x.kids.length:=by omega
    have hyf:Hid (y=x.kids.foldl (iF es) ⟨decide (x.k=1),zeros n,zeros n⟩):=hid (by rw[HY.out,agK]);have hfo:=fun W (hN:NAt W NB n (i+1) bs nx) (h1:aJ W L y.l) (h2:aJ W F y.f)=>IX NB L F n (i+1) c cl cf bs (.slice (some ⟨B,off,none⟩) n cr) ev nx y.l y.f hi (by omega) hy.ll hy.lf hy.lm (fun k hk=>by have:=hbb k hk;omega) (fun k hk=>by have:=hbb k hk;omega) W hN h1 h2;have hkr:=HKR.out;have k5:x.k=1\/x.k=4\/x.k=5\/x.k=6\/x.k=7:=(by omega);have HVY:Hid (cO n es nx i x=(if x.k=5\/x.k=6 then kS nx y.l y.f else nx,⟨if x.k=5\/x.k=7 then true else y.e,y.f,y.l⟩)):=hid (by rw[HV.out,hyf.out]);obtain⟨x0,x1,x2⟩:=hX.three;obtain⟨t0,t1,t2⟩:=hS.b2.three;have q0:wr.cell? ⟨s+1+1,0,none⟩=some (.int .i64 x.k):=hS.b5.cell 0;have hXlt:=hX.lt;obtain⟨ye,yf,yl⟩:=y;dsimp only at *;clear hkr HV HK k2 k3 jl HKS;generalize hkk:x.k=kk at *;have HKK:=hid hkk;clear hkk;rcases k5 with rfl|rfl|rfl|rfl|rfl
    all_goals
     go_wp2_with (first
      | (go_at_call 141;(with_reducible refine(hfo _ hS.nat hL hF).mono ?_);rintro e W4 ⟨rfl,hN4,IQ⟩;have hS4:=hS.step hbb hbs IQ hN4;have hX4:=hX.jf IQ (by rintro⟨k,hk,e⟩;have:=hbb k hk;omega);have hF4:=hF.jf IQ (by rintro⟨k,hk,e⟩;have:=hbb k hk;omega);have hL4:=hL.jf IQ (by rintro⟨k,hk,e⟩;have:=hbb k hk;omega);clear hS hX hF hL;have hS:=hS4;have hX:=hX4;have hF:=hF4;have hL:=hL4;obtain⟨x0,x1,x2⟩:=hX.three;have q0:=hS.b5.cell 0;simp only[List.getElem?_toArray,List.getElem?_cons_zero,HKK.out]at q0)
      | ((with_reducible refine bK ?_);refine AX.aB (o:=0) (v:=.bool true) rfl rfl rfl sz4 hX (show 0<3 by decide) ?_;rintro W5 h3 h4 h5;have hS5:=hS.lift hbb hNl hsz hws (AX.ah hX2 (.inl (afF.1 h3).1) h4 h5);have hX5:Bx W5 X 205 #[.bool true,.slice (some ⟨F,0,none⟩) n cf,.slice (some ⟨L,0,none⟩) n cl]:=h3;have hF5:=hF.same (h4 _ (by omega));have hL5:=hL.same (h4 _ (by omega));clear h3 h4 h5 hS hX hF hL;have hS:=hS5;have hX:=hX5;have hF:=hF5;have hL:=hL5;obtain⟨x0,x1,x2⟩:=hX.three)
      | ((with_reducible refine bK ?_);refine AX.aj (vs:=[.bool _,.slice (some ⟨F,0,none⟩) n cf,.slice (some ⟨L,0,none⟩) n cl]) rfl rfl je hS.b4 rfl rfl ?_;rintro W9 h3 h4 h5;have hF9:=hF.same (h4 _ (by omega));have hL9:=hL.same (h4 _ (by omega));have hN9:=hS.nat.same (h4 _ (by omega)) (fun j hj=>h4 _ (by have:=hbb j hj;omega));have hb9:Below s _ W9:=AX.ah (by omega) (.inl (afF.1 h3).1) h4 h5;obtain⟨d0,d1,d2⟩:=Bx.three h3))
     have HSO:=HS.out;refine afJ (v:=.agg #[.bool _,.slice (some ⟨F,0,none⟩) n cf,.slice (some ⟨L,0,none⟩) n cl]) (by simp[results,Tryz.results124,go_sem,d0,d1,d2];rfl) rfl (by
      rw[HVY.out];exact⟨⟨F,cf,L,cl,rfl,by omega,by omega,hFL,hF9,hL9⟩,hN9,⟨hS.but.low.trans (hb9.mono (af0 _)),fun k hk hn=>(hb9.block k (by omega)).trans (hS.but.same k hk hn)⟩⟩)
end
section
variable {r : List Nd}
def uG(acc:List Lg)(x:Nd):Lg:=
 if x.k=2 then fun s=>∃c,s=[c]/\x.has c=true
 else if x.k=3 then x.kids.foldl (fun A k=>Fv A (acc.getD k.toNat gu)) qy
 else
  let A:=x.kids.foldl (fun A k=>lor A (acc.getD k.toNat gu)) (if x.k=1 then qy else gu)
  if x.k=5 then qJ A else if x.k=6 then Fv A (qJ A)else if x.k=7 then lor A qy else A
def allL(r:List Nd):Nat->List Lg
 | 0=>[]
 | m+1=>allL r m++[uG (allL r m) (r.getD m default)]
theorem uH(r:List Nd):∀m,(allL r m).length=m
 | 0=>rfl
 | m+1=>by simp[allL,uH r m]
structure Rows(n M:Nat)(nx:List (List Bool)):Prop where
 len:nx.length=n
 row:∀p row,nx[p]?=some row->row.length=if p<M then n else 0
theorem Rows.get{n M:Nat}{nx:List (List Bool)}(h:Rows n M nx){p:Nat}(hp:p<M)(hM:M<=n):∃row,nx[p]?=some row/\row.length=n:=by
 have h1:p<nx.length:=by have:=h.len;omega
 refine⟨_,afE h1,?_⟩;rw[h.row p _ (afE h1),afR hp]
theorem Rows.fol{n M:Nat}{nx:List (List Bool)}(h:Rows n M nx)(hM:M<=n){l f:List Bool}(hl:l.length=n)(hf:f.length=n)(hb:∀p,mem l p->p<M):
  Rows n M (kS nx l f)/\∀p q,rM (kS nx l f) p q↔rM nx p q\/(mem l p/\mem f q):=by
 have e:nx.length=l.length:=by rw[h.len,hl]
 refine⟨⟨by rw[uF e,h.len],?_⟩,?_⟩
 ·intro p row hr
  have hp:p<nx.length:=by have:=lt_of_some hr;rwa [uF e]at this
  have h3:=pz (f:=f) e p _ (afE hp);rw[hr]at h3;have h4:=agc h3;have h5:=h.row p _ (afE hp)
  by_cases hm:l.getD p false=true
  ·have hb':=hb p ((getD_mem l p).1 hm)
   rw[afR hb']at h5;rw[afR hm]at h4;rw[h4,iY (by rw[h5,hf]),h5,afR hb']
  ·rw[afO hm]at h4
   rw[h4,h5]
 ·exact Tn e fun p hp=>by
   obtain⟨row,e1,e2⟩:=h.get (hb p hp) hM;exact⟨row,e1,by rw[e2,hf]⟩
structure qA(H:Nat->Int->Prop)(n:Nat)(P:Nat->Prop)(G:Nat->Nat->Prop)(A:Lg)(x:En):Prop where
 lf:x.f.length=n
 ll:x.l.length=n
 good:Good H P (x.e=true) (mem x.f) (mem x.l) G A
variable {H : Nat -> Int -> Prop} {n M : Nat} {ends : List En} {Pk : Int -> Nat -> Prop} {Gk : Int -> Nat -> Nat -> Prop} {Lk : Int -> Lg}
theorem Il(hM:M<=n):∀(ks:List Int)(nx:List (List Bool)) (y:En) (A:Lg) (P0:Nat->Prop) (G0:Nat->Nat->Prop),Rows n M nx->qA H n P0 G0 A y ->
  (∀k∈ks,qA H n (Pk k) (Gk k) (Lk k) (en ends k))->(∀k∈ks,∀p,P0 p->Pk k p->False)->ks.Pairwise (fun k k'=>∀p,Pk k p->Pk k' p->False) ->
  (∀p,P0 p->p<M)->(∀k∈ks,∀p,Pk k p->p<M) ->
  ∃D:Nat->Nat->Prop,Rows n M (ks.foldl (jA ends) (nx,y)).1/\(∀p q,rM (ks.foldl (jA ends) (nx,y)).1 p q↔rM nx p q\/D p q) /\
   qA H n (fun p=>P0 p\/∃k∈ks,Pk k p) (fun p q=>G0 p q\/(∃k∈ks,Gk k p q)\/D p q) (ks.foldl (fun A k=>Fv A (Lk k)) A) (ks.foldl (jA ends) (nx,y)).2
 | [],nx,y,A,P0,G0,hR,hy,_,_,_,_,_ =>
  ⟨fun _ _=>False,hR,fun p q=>by simp,hy.lf,hy.ll,hy.good.of (fun p hp =>.inl hp) agO (fun _=>agO) (fun _=>agO) (fun p q=>by simp) (fun _=>agO)⟩
 | k::ks,nx,y,A,P0,G0,hR,hy,hk,hd,hpw,hb,hbk=>by
  have hx:=hk k (afS ..);rw[agF]at hpw;obtain⟨hR',hm'⟩:=hR.fol hM hy.ll hx.lf (fun p hp=>hb p (hy.good.l p hp));have hz:qA H n (fun p=>P0 p\/Pk k p) (fun p q=>G0 p q\/Gk k p q\/(mem y.l p/\mem (en ends k).f q)) (Fv A (Lk k)) (AA y (en ends k)):=by
   refine⟨?_,?_,(Td hy.good hx.good (hd k (afS ..))).of (fun p hp=>hp) ?_ ?_ ?_ (fun _ _=>agO) (fun _=>agO)⟩
   ·show(if y.e=true then orS y.f (en ends k).f else y.f).length=n
    split
    ·rw[iY (by rw[hy.lf,hx.lf]),hy.lf]
    ·exact hy.lf
   ·show(if (en ends k).e=true then orS (en ends k).l y.l else (en ends k).l).length=n
    split
    ·rw[iY (by rw[hy.ll,hx.ll]),hx.ll]
    ·exact hx.ll
   ·simp[AA]
   ·intro p
    show mem (if y.e=true then orS y.f (en ends k).f else y.f) p↔_
    split
    ·rename_i he
     rw[jZ (by rw[hy.lf,hx.lf])];simp[he]
    ·rename_i he
     simp[he]
   ·intro p
    show mem (if (en ends k).e=true then orS (en ends k).l y.l else (en ends k).l) p↔_
    split
    ·rename_i he
     rw[jZ (by rw[hy.ll,hx.ll])];simp[he]
    ·rename_i he
     simp[he]
  obtain⟨D,h1,h2,h3⟩:=Il hM ks (kS nx y.l (en ends k).f) (AA y (en ends k)) (Fv A (Lk k)) _ _ hR' hz (fun k' hk'=>hk k' (afV _ hk'))
   (fun k' hk' p hp hp'=>hp.elim (fun a=>hd k' (afV _ hk') p a hp') (fun a=>hpw.1 k' hk' p a hp')) hpw.2
   (fun p hp=>hp.elim (hb p) (hbk k (afS ..) p)) (fun k' hk'=>hbk k' (afV _ hk'))
  refine⟨fun p q=>(mem y.l p/\mem (en ends k).f q)\/D p q,h1,fun p q=>?_,h3.lf,h3.ll,h3.good.of ?_ agO (fun _=>agO) (fun _=>agO) ?_ (fun _=>agO)⟩
  ·show rM (ks.foldl (jA ends) (kS nx y.l (en ends k).f,AA y (en ends k))).1 p q↔_
   rw[h2,hm',or_assoc]
  ·rintro p ((a|a)|⟨k',hk',a⟩)
   ·exact .inl a
   ·exact .inr ⟨k,afS ..,a⟩
   ·exact .inr ⟨k',afV _ hk',a⟩
  ·intro p q
   constructor
   ·rintro (a|⟨k',hk',a⟩|a|a)
    ·exact .inl (.inl a)
    ·rcases afX.1 hk' with rfl|hk'
     ·exact .inl (.inr (.inl a))
     ·exact .inr (.inl ⟨k',hk',a⟩)
    ·exact .inl (.inr (.inr a))
    ·exact .inr (.inr a)
   ·rintro ((a|a|a)|⟨k',hk',a⟩|a)
    ·exact .inl a
    ·exact .inr (.inl ⟨k,afS ..,a⟩)
    ·exact .inr (.inr (.inl a))
    ·exact .inr (.inl ⟨k',afV _ hk',a⟩)
    ·exact .inr (.inr (.inr a))
theorem Io:∀(ks:List Int)(y:En)(A:Lg)(P0:Nat->Prop)(G0:Nat->Nat->Prop),qA H n P0 G0 A y ->
  (∀k∈ks,qA H n (Pk k) (Gk k) (Lk k) (en ends k))->(∀k∈ks,∀p,P0 p->Pk k p->False)->ks.Pairwise (fun k k'=>∀p,Pk k p->Pk k' p->False) ->
   qA H n (fun p=>P0 p\/∃k∈ks,Pk k p) (fun p q=>G0 p q\/∃k∈ks,Gk k p q) (ks.foldl (fun A k=>lor A (Lk k)) A) (ks.foldl (iF ends) y)
 | [],y,A,P0,G0,hy,_,_,_ =>
  ⟨hy.lf,hy.ll,hy.good.of (fun p hp =>.inl hp) agO (fun _=>agO) (fun _=>agO) (fun p q=>by simp) (fun _=>agO)⟩
 | k::ks,y,A,P0,G0,hy,hk,hd,hpw=>by
  have hx:=hk k (afS ..);rw[agF]at hpw;have hz:qA H n (fun p=>P0 p\/Pk k p) (fun p q=>G0 p q\/Gk k p q) (lor A (Lk k)) (Kz y (en ends k)):=by
   refine⟨?_,?_,(Tf hy.good hx.good (hd k (afS ..))).of (fun p hp=>hp) ?_ ?_ ?_ (fun _ _=>agO) (fun _=>agO)⟩
   ·show(orS y.f (en ends k).f).length=n
    rw[iY (by rw[hy.lf,hx.lf]),hy.lf]
   ·show(orS y.l (en ends k).l).length=n
    rw[iY (by rw[hy.ll,hx.ll]),hy.ll]
   ·simp[Kz]
   ·intro p
    show mem (orS y.f (en ends k).f) p↔_
    rw[jZ (by rw[hy.lf,hx.lf])]
   ·intro p
    show mem (orS y.l (en ends k).l) p↔_
    rw[jZ (by rw[hy.ll,hx.ll])]
  have h3:=Io ks (Kz y (en ends k)) (lor A (Lk k)) _ _ hz (fun k' hk'=>hk k' (afV _ hk'))
   (fun k' hk' p hp hp'=>hp.elim (fun a=>hd k' (afV _ hk') p a hp') (fun a=>hpw.1 k' hk' p a hp')) hpw.2
  refine⟨h3.lf,h3.ll,h3.good.of ?_ agO (fun _=>agO) (fun _=>agO) ?_ (fun _=>agO)⟩
  ·rintro p ((a|a)|⟨k',hk',a⟩)
   ·exact .inl a
   ·exact .inr ⟨k,afS ..,a⟩
   ·exact .inr ⟨k',afV _ hk',a⟩
  ·intro p q
   constructor
   ·rintro (a|⟨k',hk',a⟩)
    ·exact .inl (.inl a)
    ·rcases afX.1 hk' with rfl|hk'
     ·exact .inl (.inr a)
     ·exact .inr ⟨k',hk',a⟩
   ·rintro ((a|a)|⟨k',hk',a⟩)
    ·exact .inl a
    ·exact .inr ⟨k,afS ..,a⟩
    ·exact .inr ⟨k',afV _ hk',a⟩
end
end Go.Proofs.YtkjgogdkdejljaaGreatDoor.Rx
