import Derived.Test.YtkjgogdkdejljaaGreatDoorDfD5
set_option maxRecDepth 100000
set_option maxHeartbeats 40000000
namespace Go.Proofs.YtkjgogdkdejljaaGreatDoor.Df
open Go.Lib (hid)
open Go Go.Proofs Go.RowKit Go.Shelf
attribute [local go_sem] Oper.semAt_some
theorem QB(N:Nf)(o:yN N)(hlen:N.cl.length<=1024)(ac an ar:Option Addr)(cc cn cr most:Nat)(hm1:1<=most)(hm2:most<=512)(w:World)(hp:0<w.heap.size)(hT:TabAt w)(h:uZ w N ac an ar):
  Calls Tryz.prog 31 #[.agg #[.slice ac N.cl.length cc,.slice an N.nx.length cn,.slice ar N.ru.length cr],.int .i64 most] w (Xm w N most):=by
 obtain⟨x0,hx0⟩:∃v,v=Value.slice ac N.cl.length cc:=⟨_,rfl⟩;obtain⟨x1,hx1⟩:∃v,v=Value.slice an N.nx.length cn:=⟨_,rfl⟩;obtain⟨x2,hx2⟩:∃v,v=Value.slice ar N.ru.length cr:=⟨_,rfl⟩;rw[<-hx0,<-hx1,<-hx2];obtain⟨U,hU⟩:=afC w.heap.size;obtain⟨W1,hW1⟩:=afC ((w.alloc (.cells #[x0,x1,x2] 74)).alloc (.cells #[.slice none 0 0,.slice none 0 0] 27));have hB1:Below w.heap.size w W1:=by rw[hW1];exact ((afI _ w).alloc afD _).alloc (by simp) _
 have hz1:W1.heap.size=U+2:=by rw[hW1,hU];simp
 have u1:Bx W1 U 74 #[x0,x1,x2]:=by rw[hW1,hU];exact (Bx.new w 74 _).alloc _
 have r1:Bx W1 (U+1) 27 #[.slice none 0 0,.slice none 0 0]:=by
  have:=Bx.new (w.alloc (.cells #[x0,x1,x2] 74)) 27 #[.slice none 0 0,.slice none 0 0];rw[World.size_alloc]at this;rw[hW1,hU];exact this
 have hck:=(callsIn_wide (n:=8)).2 (rD o (cc:=cc) (cn:=cn) (cr:=cr) (h.below hB1 afD));rw[<-hx0,<-hx1,<-hx2]at hck;have hmk:=adI;have HW1:=hid hW1;have HU:=hid hU;have HZ1:=hid hz1;clear hW1 hz1 hU;have c0:∀X,Below W1.heap.size W1 X->X.cell? ⟨U,0,none⟩=some x0:=fun X hX=>(u1.below hX u1.lt).cell 0;have c1:∀X,Below W1.heap.size W1 X->X.cell? ⟨U,1,none⟩=some x1:=fun X hX=>(u1.below hX u1.lt).cell 1;have c2:∀X,Below W1.heap.size W1 X->X.cell? ⟨U,2,none⟩=some x2:=fun X hX=>(u1.below hX u1.lt).cell 2;have d0:=c0 _ (afI _ _);have d1:=c1 _ (afI _ _);have d2:=c2 _ (afI _ _);have nm1:¬(most:Int)<1:=by omega
 have nm2:¬(512:Int)<(most:Int):=by omega
 have o0:x0.oneCell'=true:=by rw[hx0];rfl
 have o1:x1.oneCell'=true:=by rw[hx1];rfl
 have o2:x2.oneCell'=true:=by rw[hx2];rfl
 have HX0:=hid hx0;have HX1:=hid hx1;have HX2:=hid hx2;clear hx0 hx1 hx2;have h19:1<=9:=by decide
 have f20:Fence.wide.fn 61:=trivial;have f21:Fence.wide.fn 62:=trivial;have f22:Fence.wide.fn 63:=trivial;have f24:Fence.wide.fn 65:=trivial;have f26:Fence.wide.fn 67:=trivial;refine(callsIn_wide (n:=9)).1 (callsIn_of_wp_marks Tryz.func31 rfl trivial ?_ rfl);simp only[Tryz.ntmps31,ahG,agl,ahJ,Nat.reduceAdd,Nat.reduceSub,ahA,ahB,ahU,ahK,ahq,ahs];gi_upto_region 1 with (fail)
 rw[<-HW1.out,<-HU.out];gi_upto_region 7 with (first
  | (gi_at_call 61;(with_reducible refine hck.mono ?_);rintro e W2 ⟨rfl,hb2⟩;have e0:=c0 _ hb2;have e1:=c1 _ hb2;have e2:=c2 _ hb2))
 clear d0 d1 d2 hck e0 e1 e2;obtain⟨r,hr⟩:=afC W2.heap.size;obtain⟨W4,hW4⟩:=afC (((W2.alloc (.map #[] 0)).alloc (.cells #[x0,x1,x2,.int .i64 most,.slice none 0 0,.map (some r)] 130)).alloc (.cells #[.int .i64 0] 3));have hb4:Below W2.heap.size W2 W4:=by rw[hW4];exact (((afI _ W2).alloc afD _).alloc (by simp) _).alloc (by simp;omega) _
 have hz4:W4.heap.size=r+3:=by rw[hW4,hr];simp
 have m4:W4.heap[r]?=some (.map #[] 0):=by
  rw[hW4,hr];exact (Below.heap_alloc _ _ _ (by simp;omega)).trans ((Below.heap_alloc _ _ _ (by simp)).trans (World.alloc_heap_new W2 _))
 have b4:Bx W4 (r+1) 130 #[x0,x1,x2,.int .i64 most,.slice none 0 0,.map (some r)]:=by
  have:=Bx.new (W2.alloc (.map #[] 0)) 130 #[x0,x1,x2,.int .i64 most,.slice none 0 0,.map (some r)];rw[World.size_alloc,<-hr]at this;rw[hW4];exact this.alloc _
 have s4:Bx W4 (r+2) 3 #[.int .i64 0]:=by
  have:=Bx.new ((W2.alloc (.map #[] 0)).alloc (.cells #[x0,x1,x2,.int .i64 most,.slice none 0 0,.map (some r)] 130)) 3 #[.int .i64 0];rw[World.size_alloc,World.size_alloc,<-hr]at this;rw[hW4];exact this
 have hzz:W1.heap.size<=r:=by rw[hr];exact hb2.size
 have hB4:Below w.heap.size w W4:=hB1.trans ((hb2.trans (hb4.mono hb2.size)).mono hB1.size);have VL:Below W1.heap.size W1 W4:=hb2.trans (hb4.mono hb2.size);have abo:Mkr W4 w.heap.size [] (r+1) r x0 x1 x2 most (.slice none 0 0) [] []:=.new b4 m4 (by have:=hB1.size;omega) (by have:=hB1.size;omega);have hS4:SAt W4 (aT (r+1) r (.slice none 0 0) []) (.slice (some ⟨r+2,0,none⟩) 1 1) [0]:=⟨some ⟨r+2,0,none⟩,1,rfl,fun _=>⟨r+2,0,rfl,by omega,by simp[aT,Value.ownBlock],fun j hj=>by
  have:j=0:=by simp at hj;exact hj
  subst this;exact s4.cell 0⟩⟩
 have ha:mF most [] [0]=some (0,[[0]]):=by
  rw[yg];rw[afO (by decide),afO (by simp),afO (by show ¬(0:Nat)=most;omega)];rfl
 have hst:=(callsIn_wide (n:=8)).2 (Dv abo hS4 (by intro k hk;simp at hk;omega) (by decide) hB4.size (by decide));have hnU:U∉aT (r+1) r (.slice none 0 0) []:=by simp[aT,Value.ownBlock];have:=HZ1.out;omega
 have hnR:U+1∉aT (r+1) r (.slice none 0 0) []:=by simp[aT,Value.ownBlock];have:=HZ1.out;omega
 replace hst:=hst.mono (R':=fun e W5=>∃sv vals,e=.returned (.tuple #[.int .i64 0,.bool true])/\Mkr W5 w.heap.size [] (r+1) r x0 x1 x2 most sv vals [[0]]/\Ch (aT (r+1) r (.slice none 0 0) []) W4 W5/\∀g,sv.ownBlock=some g->r+3<=g) (by
  rintro e W5 (⟨h1,_⟩|⟨t,T1,sv,vals,h1,rfl,h3,h4,h5⟩)
  ·rw[ha]at h1;cases h1
  ·rw[ha]at h1
   cases h1
   refine⟨sv,vals,rfl,h3,h4,fun g hg=>?_⟩;rcases h5 with h5|⟨g',h5,h6⟩
   ·rw[h5]at hg;cases hg
   ·rw[h5]at hg;cases hg;omega)
 have Y3:=fun(W:World)(hb:Below w.heap.size w W)=>(callsIn_wide (n:=8)).2 (VJ N.cl hlen ac cc W (afN hp hb.size) (hT.below hb hp) (h.c.below hb afD));rw[<-HX0.out]at Y3;have HR:=hid hr;have HW4:=hid hW4;rw[<-hr];clear hr hW4 ha hS4 abo hmk c0 c1 c2 nm1 nm2;gi_upto_region 10 with (first
  | (gi_at_call 62;(try rw[<-HR.out,<-HW4.out]);(with_reducible refine hst.mono ?_);rintro e W5 ⟨sv,vals,rfl,hmk5,hc5,hsv⟩;have q0:=(hc5.bx (u1.below VL u1.lt) hnU).cell 0;have hB5:Below w.heap.size w W5:=hB4.trans (hc5.below hB4.size (fun b hb=>(by simp[aT,Value.ownBlock]at hb;have:=hB1.size;omega))))
  | (gi_at_call 63;(with_reducible refine (Y3 _ hB5).mono ?_);rintro e W6 ⟨ga,gc,rfl,hg1,hg2,hal,hb6⟩))
 obtain⟨D,hD⟩:=afC W6.heap.size;have hb7:Below W6.heap.size W6 (W6.alloc (.cells #[.slice none 0 0,.slice none 0 0] 27)):=(afI _ W6).alloc afD _;have hBs:Bs w (W6.alloc (.cells #[.slice none 0 0,.slice none 0 0] 27)) x0 x1 x2 U (U+1) D (r+1) r ga (spl N.cl) most [D] sv (.slice none 0 0) (.slice none 0 0) vals [[0]] [] []:=by
  have Y4:=hb6.trans (hb7.mono hb6.size);have hz5:=hc5.low.size;have mem:∀k,k∈aT (r+1) r sv [D]->k=r+1\/k=r\/r+3<=k:=fun k hk=>by
   unfold aT at hk;simp only[afX,af2,agz,agx,ahd]at hk;rcases hk with hk|hk|hk|hk
   ·exact .inl hk
   ·exact .inr (.inl hk)
   ·exact .inr (.inr (hsv k hk))
   ·have:=hb6.size;omega
  have hU':=HZ1.out;refine⟨hB5.trans (Y4.mono hB5.size),((hmk5.below hb6).more D (by omega)).below hb7,(hc5.bx (u1.below VL u1.lt) hnU).below Y4 (by omega),(hc5.bx (r1.below VL r1.lt) hnR).below Y4 (by omega),?_,hal.below hb7 (by omega),?_,World.ownsRow_nil _ _ _ _,World.ownsRow_nil _ _ _ _,fun g hg=>(by cases hg),fun hm=>?_,fun hm=>?_,fun hm=>?_,afK.2 rfl,fun g hg=>(by cases hg),fun g hg=>(by cases hg),fun k hk=>?_⟩
  ·rw[hD];exact Bx.new W6 27 _
  ·have:=hb7.size;omega
  ·rcases mem _ hm with e|e|e<;>omega
  ·rcases mem _ hm with e|e|e<;>omega
  ·unfold aT at hm
   simp only[afX,af2,agz,agx,ahd]at hm;rcases hm with e|e|e|e
   ·omega
   ·omega
   ·have:=(hmk5.own.lt ga e).2;omega
   ·omega
  ·rw[afK.1 hk,hD];exact agb hB5.size hb6.size
 have hOI:OI w (W6.alloc (.cells #[.slice none 0 0,.slice none 0 0] 27)) N x0 x1 x2 U D r ga most 0 []:=⟨_,_,_,_,_,_,[],hBs,trivial,rG.start _ _ _ _,rfl,by simp,by simpa using hm1,fun S hS=>(by
  rw[afK.1 hS];refine⟨by simp,fun q hq=>?_⟩;have:=o.one;simp at hq;omega),fun k hk=>by rw[afK.1 hk,hD];simp⟩
 have HO:=hid o;have HH:=hid h;clear hBs hal hg1 hg2 hb6 hb7 hmk5 hc5 hsv q0 hB5 hst Y3 m4 b4 s4 hz4 hb4 VL hB4 hzz hnU hnR u1 r1 hB1 hb2 o h;rw[<-hD];clear hD;gi_wp2_with fail
 obtain⟨RO,abp,abq⟩:∃R:Act->World->Prop,(∀a' W',R a' W'->∃(i:Nat)(ds:List Deferred),a'=(fun u:Nat->Value=>{tmps:=#[u 0,u 1,.pointer (some ⟨U,0,none⟩),u 3,.pointer (some ⟨U+1,0,none⟩),u 5,u 6,.pointer (some ⟨r+1,0,none⟩),.slice (some ⟨ga,0,none⟩) (spl N.cl).length gc,.pointer (some ⟨D,0,none⟩),.int .i64 i,u 11,u 12,u 13,u 14,u 15,u 16,u 17,u 18,u 19,u 20,u 21,u 22,u 23,u 24,u 25,u 26,u 27,u 28,u 29,u 30,u 31,u 32,u 33,u 34,u 35,u 36,u 37,u 38,u 39,u 40,u 41,u 42,u 43,u 44,u 45,u 46,u 47,u 48,u 49,u 50,u 51,u 52,u 53,u 54,u 55,u 56,u 57,u 58,u 59,u 60,u 61,u 62,u 63,u 64,u 65,u 66,u 67,u 68,u 69,u 70,u 71,u 72,u 73,u 74,u 75,u 76,u 77,u 78,u 79,u 80,u 81,u 82,u 83,u 84,u 85,u 86,u 87,u 88,u 89,u 90,u 91,u 92,u 93,u 94,u 95,u 96,u 97,u 98,u 99,u 100,u 101,u 102,u 103,u 104,u 105,u 106,u 107,u 108,u 109],defers:=ds}) (slots a'.tmps)/\OI w W' N x0 x1 x2 U D r ga most i ds)/\∀a' W',(∃(i:Nat)(ds:List Deferred),a'=(fun u:Nat->Value=>{tmps:=#[u 0,u 1,.pointer (some ⟨U,0,none⟩),u 3,.pointer (some ⟨U+1,0,none⟩),u 5,u 6,.pointer (some ⟨r+1,0,none⟩),.slice (some ⟨ga,0,none⟩) (spl N.cl).length gc,.pointer (some ⟨D,0,none⟩),.int .i64 i,u 11,u 12,u 13,u 14,u 15,u 16,u 17,u 18,u 19,u 20,u 21,u 22,u 23,u 24,u 25,u 26,u 27,u 28,u 29,u 30,u 31,u 32,u 33,u 34,u 35,u 36,u 37,u 38,u 39,u 40,u 41,u 42,u 43,u 44,u 45,u 46,u 47,u 48,u 49,u 50,u 51,u 52,u 53,u 54,u 55,u 56,u 57,u 58,u 59,u 60,u 61,u 62,u 63,u 64,u 65,u 66,u 67,u 68,u 69,u 70,u 71,u 72,u 73,u 74,u 75,u 76,u 77,u 78,u 79,u 80,u 81,u 82,u 83,u 84,u 85,u 86,u 87,u 88,u 89,u 90,u 91,u 92,u 93,u 94,u 95,u 96,u 97,u 98,u 99,u 100,u 101,u 102,u 103,u 104,u 105,u 106,u 107,u 108,u 109],defers:=ds}) (slots a'.tmps)/\OI w W' N x0 x1 x2 U D r ga most i ds)->R a' W':=⟨fun a' W'=>∃(i:Nat)(ds:List Deferred),a'=(fun u:Nat->Value=>{tmps:=#[u 0,u 1,.pointer (some ⟨U,0,none⟩),u 3,.pointer (some ⟨U+1,0,none⟩),u 5,u 6,.pointer (some ⟨r+1,0,none⟩),.slice (some ⟨ga,0,none⟩) (spl N.cl).length gc,.pointer (some ⟨D,0,none⟩),.int .i64 i,u 11,u 12,u 13,u 14,u 15,u 16,u 17,u 18,u 19,u 20,u 21,u 22,u 23,u 24,u 25,u 26,u 27,u 28,u 29,u 30,u 31,u 32,u 33,u 34,u 35,u 36,u 37,u 38,u 39,u 40,u 41,u 42,u 43,u 44,u 45,u 46,u 47,u 48,u 49,u 50,u 51,u 52,u 53,u 54,u 55,u 56,u 57,u 58,u 59,u 60,u 61,u 62,u 63,u 64,u 65,u 66,u 67,u 68,u 69,u 70,u 71,u 72,u 73,u 74,u 75,u 76,u 77,u 78,u 79,u 80,u 81,u 82,u 83,u 84,u 85,u 86,u 87,u 88,u 89,u 90,u 91,u 92,u 93,u 94,u 95,u 96,u 97,u 98,u 99,u 100,u 101,u 102,u 103,u 104,u 105,u 106,u 107,u 108,u 109],defers:=ds}) (slots a'.tmps)/\OI w W' N x0 x1 x2 U D r ga most i ds,fun _ _ h=>h,fun _ _ h=>h⟩;have adJ:=hid abp;have abr:=hid abq;clear abp abq;refine wpIn_loop RO (fun a' _=>most+1-(RowKit.intOf (a'.tmps.getD 10 undef)).toNat) ?start ?round
 case start=>exact abr.out _ _ ⟨0,[],rfl,hOI⟩
 case round =>
  clear hOI;rintro a' wr hRO;obtain⟨i,ds,ha',hOI⟩:=adJ.out _ _ hRO;clear hRO;obtain⟨u,hu⟩:=afC (slots a'.tmps);rw[<-hu]at ha';dsimp only at ha';clear hu;subst ha';obtain⟨oth,sv,nv,rv,vals,T,tss,hBs,hM,hBl,htl,hiT,hTm,EN,hLt⟩:=hOI
  by_cases hlt:i<T.length
  ·obtain⟨gs,c,v,rfl,hgs,hgb,hcs,hSA⟩:=hBs.set hlt
   obtain⟨sA,sC,rfl,hSI⟩:=hSA.VE;obtain⟨Si,hSi⟩:=afC (T.getD i []);rw[<-hSi]at hSI hSA hcs;have abt:Si.length<=1024/\∀q∈Si,0<=q/\q<(N.cl.length:Int):=EN Si (by rw[hSi,afG,afE hlt];exact agu hlt);obtain⟨next,hnext⟩:=afC (dB (eX (spl N.cl)) tss)
   obtain⟨rule,lW⟩:=afC ((T.take i).map (lX N.ru));rw[<-hnext,<-lW]at hBs;obtain⟨ra,rc,rfl⟩:=aU hBs.ro;obtain⟨na,nc,rfl⟩:=aU hBs.no;obtain⟨rl,hrl⟩:=afC rule.length;obtain⟨nl,hnl⟩:=afC next.length
   obtain⟨sl,hsl⟩:=afC Si.length;obtain⟨tl,VN⟩:=afC T.length;obtain⟨rf,hrf⟩:=afC (lX N.ru Si);have m4:wr.cell? ⟨r+1,4,none⟩=some (.slice (some ⟨gs,0,none⟩) tl c):=(by rw[VN];exact hBs.mkr.box.cell 4);have LQ:∀X,Below w.heap.size w X->aH X sA Si->Calls Tryz.prog 64 #[.agg #[x0,x1,x2],.slice sA sl sC] X fun e w'=>e=.returned (.int .i64 rf)/\Below X.heap.size X w':=fun X hX hI=>by
    rw[HX0.out,HX1.out,HX2.out,hsl,hrf];exact RS N HO.out ac an ar cc cn cr Si (by omega) sA sC X (HH.out.below hX afD) hI
   obtain⟨bad,hbad⟩:=afC ((Value.slice ra rl rc).ownBlock.toList);have hbg:∀g∈bad,(Value.slice ra rule.length rc).ownBlock=some g:=fun g hg=>by rw[hbad,agz]at hg;rw[<-hrl];exact hg
   have hbo:∀g∈bad,g∈oth/\(∃cs,wr.heap[g]?=some (.cells cs 3 (0,0)))/\w.heap.size<=g:=fun g hg=>⟨hBs.oR g (hbg g hg),bU hBs.ro g (hbg g hg),(hBs.ro.lt g (hbg g hg)).1⟩;have typ:∀(k:Nat)(cs:Array Value)(t:TypeId),wr.heap[k]?=some (.cells cs t (0,0))->t≠3->k∉bad:=fun k cs t hk ht hm=>by
    obtain⟨cs',h'⟩:=(hbo k hm).2.1;rw[hk]at h';cases h';exact ht rfl
   obtain⟨C,hCi,hCo⟩:∃C:World->Prop,(∀X,C X->Ch bad wr X)/\∀X,Ch bad wr X->C X:=⟨fun X=>Ch bad wr X,fun _ h=>h,fun _ h=>h⟩;have hC0:C wr.drew:=hCo _ (Ch.of_below (afI _ wr).drew _);haveI:Inhabited (AX.CW C):=⟨⟨_,hC0⟩⟩;obtain⟨gcs,hgc⟩:=bU hBs.mkr.own gs rfl;have pD:∀p:AX.CW C,p.W.cell? ⟨D,1,none⟩=some (.slice ra rl rc):=fun p=>by rw[hrl];exact ((hCi _ p.h).bx hBs.db (typ _ _ _ hBs.db (by decide))).cell 1
   have pU0:∀p:AX.CW C,p.W.cell? ⟨U,0,none⟩=some x0:=fun p=>((hCi _ p.h).bx hBs.ub (typ _ _ _ hBs.ub (by decide))).cell 0;have pU1:∀p:AX.CW C,p.W.cell? ⟨U,1,none⟩=some x1:=fun p=>((hCi _ p.h).bx hBs.ub (typ _ _ _ hBs.ub (by decide))).cell 1;have pU2:∀p:AX.CW C,p.W.cell? ⟨U,2,none⟩=some x2:=fun p=>((hCi _ p.h).bx hBs.ub (typ _ _ _ hBs.ub (by decide))).cell 2;have pM:∀p:AX.CW C,p.W.cell? ⟨r+1,4,none⟩=some (.slice (some ⟨gs,0,none⟩) tl c):=fun p=>by rw[VN];exact ((hCi _ p.h).bx hBs.mkr.box (typ _ _ _ hBs.mkr.box (by decide))).cell 4
   have pS:∀p:AX.CW C,p.W.cell? ⟨gs,i,none⟩=some (.slice sA sl sC):=fun p=>((hCi _ p.h).cell hgs (typ _ _ _ hgc (by decide)) i).trans (by rw[hsl];exact hcs);have hi0:(0:Int)<=(i:Int):=(by omega);have hi1:(i:Int)<(tl:Int):=(by omega);have HBs:=hid hBs;have HBL:=hid hBl;have HTL:=hid htl;have adK:=hid EN;have HLt:=hid hLt;have HTm:=hid hTm;have HN1:=hid hnext;have HR1:=hid lW;have HNL:=hid hnl;have HRL:=hid hrl;have HSL:=hid hsl;have afa:=hid VN;have HRF:=hid hrf;have HSi:=hid hSi;have adL:=hid abt;have HSI:=hid hSI;have Hty:=hid typ;have adM:=hid hbad;have HCi:=hid hCi;have HCo:=hid hCo;have Hlt:=hid hlt;clear hSA hgb hcs hSi abt hnext lW hrl hnl hsl VN hrf hbg hbo typ hbad hCi hCo hBs hBl htl EN hLt hTm hgc hlt hiT hSI hgs;gi_upto_region 13 with (fail)
   refine AX.EO (C:=fun W=>∃p:AX.CW C,W=p.W) (CT:=fun _=>True) (ro:=none) 14 Ht _ (by kernel_rfl) (by kernel_rfl) (by kernel_rfl) rfl (by kernel_rfl) (by decide) (by kernel_rfl) (by kernel_rfl) rfl ⟨trivial,⟨_,hC0⟩,rfl⟩ ?_;unfold Ht
   repeat (refine AX.bQ _ (by rfl) ?_;go_big_quiet_step (fail);refine afQ ?_)
   have hBd:=HBs.out.below (afI _ wr).drew;refine AX.dW (LQ _ hBd.low (HSI.out.below (afI _ wr).drew afD)) (by rfl) (by rfl) (by rfl) Tryz.func64 (by kernel_rfl) (by rfl) (by simp only[agh,agd,agm];rfl) ?_;rintro e V1 ⟨rfl,hv1⟩;have abu:=hBd.below hv1;refine⟨_,rfl,⟨trivial,fun _=>⟨⟨_,HCo.out _ ((Ch.of_below (afI _ wr).drew _).trans (Ch.of_below hv1 _))⟩,rfl⟩⟩,?_⟩
   (try simp only[Act.put,afH,afL,afM])
   refine AX.aV _ (by rfl) (by rfl) ?_;unfold Oper.wp;go_simp
   have hv2:Below V1.heap.size V1 (V1.alloc (.cells #[.int .i64 rf] 3)):=(afI _ V1).alloc afD _;have hB2':=abu.below hv2;have c2':=(Bx.new V1 3 #[.int .i64 rf]).cell 0;have Y5:Ch bad wr (V1.alloc (.cells #[.int .i64 rf] 3)):=((Ch.of_below (afI _ wr).drew _).trans (Ch.of_below hv1 _)).trans (Ch.of_below hv2 _);have abv:Dk wr (V1.alloc (.cells #[.int .i64 rf] 3)):=(Dk.of_below (afI _ wr).drew).trans ((Dk.of_below hv1).trans (Dk.of_below hv2));generalize hV2:V1.alloc (.cells #[.int .i64 rf] 3)=V2 at *;refine⟨fun _ _=>⟨⟨_,HCo.out _ Y5⟩,rfl⟩,?_⟩
   (try simp only[Act.put,afH,afL,afM])
   refine AX.aV _ (by rfl) (by rfl) ?_;have hro:=hB2'.ro;have RV:rule.length<=1000000:=by
    have h1:=ag3 List.length HR1.out;rw[agf,agZ]at h1;have:=HTm.out;omega
   rw[<-HRL.out]at hro;refine BJ w.heap.size (.slice ra rl rc) rule [rf] _ _ rfl rfl (by rw[<-HRL.out];exact hro) V1.heap.size 1 1 rfl rfl (fun j hj=>by
    have:j=0:=(by simp at hj;exact hj);subst this;exact c2') RV (by simp) hB2'.low.size ?_
   intro rv' V3 h6 h7 h8;have hc03:Ch bad wr V3:=Y5.trans (Ch.tX h7 fun g hg=>by rw[adM.out,hg];simp);refine⟨⟨trivial,fun _=>⟨⟨_,HCo.out _ hc03⟩,rfl⟩⟩,?_⟩
   (try simp only[Act.put,afH,afL,afM])
   repeat (refine AX.bQ _ (by rfl) ?_;go_big_quiet_step (fail);refine afQ ?_)
   refine AX.aV _ (by rfl) (by rfl) ?_;obtain⟨ra',rc',rfl⟩:=aU h6;have hx3:Bx V3 D 27 #[.slice na next.length nc,.slice ra rule.length rc]:=(h7.block D hB2'.db.lt (fun e=>by
    obtain⟨cs,hc⟩:=bU hB2'.ro D (by rw[<-HRL.out];exact e.symm);rw[show V2.heap[D]?=_ from hB2'.db]at hc
    cases hc)).trans hB2'.db
   refine AX.aI (o:=1) rfl rfl rfl abw hx3 (show 1<2 by decide) ?_;rintro V4 g3 g4 g5;have Y6:Below 0 V3 V4:=AX.ah (af0 _) (.inl (afF.1 g3).1) g4 g5;obtain⟨abx,hd24⟩:=hB2'.push true (l:=[rf]) h6 (by rw[HRL.out]at h7;exact h7) (by rw[HRL.out]at h8;exact h8) g3 g4 Y6;refine⟨⟨trivial,fun h=>by cases h⟩,?_⟩
   (try simp only[Act.put,afH,afL,afM])
   unfold AX.bC;refine⟨rfl,?_⟩;obtain⟨nv',Y7⟩:∃v,v=Value.slice na next.length nc:=⟨_,rfl⟩
   obtain⟨rv',VO⟩:∃v,v=Value.slice ra' (rule.length + [rf].length) rc':=⟨_,rfl⟩;obtain⟨Y8,RX⟩:∃o,o=(Value.slice ra' (rule.length + [rf].length) rc').ownBlock.toList++oth:=⟨_,rfl⟩;have hB4:Bs w V4 x0 x1 x2 U (U+1) D (r+1) r ga (spl N.cl) most Y8 (.slice (some ⟨gs,0,none⟩) T.length c) nv' rv' vals T next (rule++[rf]):=(by rw[Y7,VO,RX];exact abx)
   have hM4:Mk w.heap.size V4 ds:=hM.dk (abv.trans hd24);have Y9:∀k∈Y8,k<V4.heap.size:=fun k hk=>by
    rw[RX]at hk;rcases af2.1 hk with hk|hk
    ·have:=(hB4.ro.lt k (by rw[VO];exact agz.1 hk)).2
     exact this
    ·exact afN (HLt.out k hk) (by have h1:=hc03.low.size;have h2:=Y6.size;omega)
   have HNV:=hid Y7;have HRV:=hid VO;clear Y7 VO RX abx hd24 Y6 g3 g4 g5 hx3 h6 h7 h8 hc03 RV hro abv Y5 c2' hB2' hv2 hV2 abu hv1 hBd pD pU0 pU1 pU2 pM pS hC0 LQ m4 hM hi0 hi1;obtain⟨g,hg⟩:=afC V4.heap.size;obtain⟨V6,hV6⟩:=afC ((V4.alloc (.cells (ci (RY)) 3)).alloc (.cells #[.slice (some ⟨g,0,none⟩) 256 256] 25));have Bj:Below V4.heap.size V4 V6:=(by rw[hV6];exact ((afI _ V4).alloc afD _).alloc (by simp) _);have hz6:V6.heap.size=g+2:=(by rw[hV6,hg];simp);have hg6:Bx V6 g 3 (ci (RY)):=(by rw[hV6,hg];exact (Bx.new V4 3 _).alloc _);have hR6:Bx V6 (g+1) 25 #[.slice (some ⟨g,0,none⟩) 256 256]:=by
    have:=Bx.new (V4.alloc (.cells (ci (RY)) 3)) 25 #[.slice (some ⟨g,0,none⟩) 256 256];rw[World.size_alloc,<-hg]at this;rw[hV6];exact this
   have hB6:=(hB4.more (g::Y8) (fun k hk hlt=>by
    rcases afX.1 hk with e|hk
    ·omega
    ·exact hk) (fun k hk=>afV _ hk) (fun k hk=>by
    rcases afX.1 hk with e|hk
    ·have:=hB4.low.size;omega
    ·exact hB4.lo k hk)).below Bj
   have hII:II w V6 N x0 x1 x2 U D r ga most (g+1) g 0 ds nv' rv' next (rule++[rf]) T Si:=by
    refine⟨_,_,_,T,[],_,hB6,hM4.dk (Dk.of_below Bj),⟨hg6,hR6,fun hm=>?_,afS ..,fun e=>?_,fun e=>?_⟩,rfl,Rw.Za _,rfl,HTm.out,adK.out,⟨[],by simp⟩,fun k hk=>?_⟩
    ·unfold aT at hm
     simp only[afX,af2,agz]at hm;have h1:=hB4.mkr.box.lt;have h2:=(afF.1 hB4.mkr.map).1;rcases hm with e|e|e|e|e
     ·omega
     ·omega
     ·have:=(hB4.mkr.own.lt _ e).2;omega
     ·omega
     ·have:=Y9 _ e;omega
    ·have:=(hB4.no.lt _ e).2;omega
    ·have:=(hB4.ro.lt _ e).2;omega
    ·rcases afX.1 hk with e|hk
     ·omega
     ·have:=Y9 k hk;omega
   have HG:=hid hg;have HV6:=hid hV6;have Zb:=RZ V4;clear hg hV6 Bj hz6 hg6 hR6 hB6 Y9 hM4 hB4;gi_wp2_with (first
    | ((with_reducible refine aby ?_);refine BI rfl rfl Zb ?_))
   rw[<-HG.out,<-HV6.out];refine wpIn_loop (fun a' W'=>∃(j:Nat)(ds:List Deferred),a'=(fun v:Nat->Value=>{tmps:=#[v 0,v 1,.pointer (some ⟨U,0,none⟩),v 3,.pointer (some ⟨U+1,0,none⟩),v 5,v 6,.pointer (some ⟨r+1,0,none⟩),.slice (some ⟨ga,0,none⟩) (spl N.cl).length gc,.pointer (some ⟨D,0,none⟩),.int .i64 i,.pointer (some ⟨g+1,0,none⟩),v 12,v 13,v 14,v 15,v 16,v 17,v 18,v 19,v 20,v 21,v 22,v 23,v 24,v 25,v 26,v 27,v 28,v 29,v 30,v 31,v 32,v 33,v 34,v 35,v 36,v 37,v 38,v 39,v 40,v 41,v 42,v 43,v 44,v 45,v 46,v 47,v 48,v 49,v 50,v 51,v 52,v 53,v 54,v 55,v 56,v 57,v 58,v 59,v 60,v 61,v 62,v 63,v 64,v 65,v 66,.slice (some ⟨ga,0,none⟩) (spl N.cl).length gc,.int .i64 (spl N.cl).length,.int .i64 j,v 70,v 71,v 72,v 73,v 74,v 75,v 76,v 77,v 78,v 79,v 80,v 81,v 82,v 83,v 84,v 85,v 86,v 87,v 88,v 89,v 90,v 91,v 92,v 93,v 94,v 95,v 96,v 97,v 98,v 99,v 100,v 101,v 102,v 103,v 104,v 105,v 106,v 107,v 108,v 109],defers:=ds}) (slots a'.tmps)/\II w W' N x0 x1 x2 U D r ga most (g+1) g j ds nv' rv' next (rule++[rf]) T Si) (fun a' _=>(spl N.cl).length-(RowKit.intOf (a'.tmps.getD 69 undef)).toNat) ?start2 ?round2
   case start2=>exact⟨0,ds,rfl,hII⟩
   case round2 =>
    clear hII;rintro a' Wj ⟨j,ds2,ha',hII⟩;obtain⟨v,hv⟩:=afC (slots a'.tmps);rw[<-hv]at ha';dsimp only at ha';clear hv;subst ha';obtain⟨nC,sv,vals,T1,ts,rw',hBs,hM,⟨hg,hRB,VP,hgo,abz,abA⟩,hrow,hRw,VQ,hTm,EN,⟨R,hTR⟩,hLt⟩:=hII
    by_cases hj:j<(spl N.cl).length
    ·obtain⟨x,hx⟩:∃x,(spl N.cl)[j]?=some x:=⟨_,afE hj⟩
     have hxe:(spl N.cl)[j]=x:=(by obtain⟨_,e⟩:=afW.1 hx;exact e);have hka:=hBs.al.c4 hj;rw[hxe,af9]at hka;clear hxe;obtain⟨k0,k1,k2,k3⟩:=hka;obtain⟨CB,hCB⟩:=afC Wj.heap.size;obtain⟨V0,hV0⟩:=afC (Wj.alloc (.cells #[.int .u64 (x.a:Nat),.int .u64 (x.b:Nat),.int .u64 (x.c:Nat),.int .u64 (x.d:Nat)] 116));have hb0:Below Wj.heap.size Wj V0:=(by rw[hV0];exact (afI _ Wj).alloc afD _);have hcb:Bx V0 CB 116 #[.int .u64 (x.a:Nat),.int .u64 (x.b:Nat),.int .u64 (x.c:Nat),.int .u64 (x.d:Nat)]:=(by rw[hV0,hCB];exact Bx.new Wj 116 _);have hT0:=hT.below (hBs.low.trans (hb0.mono hBs.low.size)) hp;have hle:=(callsIn_wide (n:=8)).2 (EI x V0 (by have:=hcb.lt;omega) hT0);simp only[bI]at hle;have hj0:(0:Int)<=(j:Int):=(by omega);have hj1:(j:Int)<((spl N.cl).length:Int):=(by omega);have HCB:=hid hCB;have HV0:=hid hV0;have HBs:=hid hBs;have HM:=hid hM;have VR:=hid hrow;have HRw:=hid hRw;have HX:=hid hx;have abB:=hid EN;have adN:=hid hLt;have HTR:=hid hTR;have abC:=hid hTm;have Hts:=hid VQ;have Hj:=hid hj;have q0:=hcb.cell 0;have q1:=hcb.cell 1;have q2:=hcb.cell 2;have q3:=hcb.cell 3;clear hCB hV0 hBs hM hrow hRw hx EN hLt hTR hTm VQ hj;gi_upto_region 18 with (fail)
     rw[<-HCB.out,<-HV0.out];gi_upto_region 19 with (first
      | (gi_at_call 65;(with_reducible refine hle.mono ?_);rintro e V1 ⟨rfl,hbd1⟩))
     obtain⟨V0',adO⟩:∃V,V=V1.drew:=⟨_,rfl⟩;have hbj:Below Wj.heap.size Wj V1.drew:=(hb0.trans (hbd1.1.mono hb0.size)).drew;have Sj:Bx V1.drew CB 116 #[.int .u64 (x.a:Nat),.int .u64 (x.b:Nat),.int .u64 (x.c:Nat),.int .u64 (x.d:Nat)]:=hcb.below hbd1.1.drew hcb.lt;have abD:i<T1.length:=(by rw[HTR.out,afP];have:=Hlt.out;omega);obtain⟨gs2,c2,w2,rfl,Ol,afb,hcs2,Zc⟩:=(HBs.out.below hbj).set abD;have abE:T1.getD i []=Si:=by
      rw[HTR.out,HSi.out,afG,afG,af6 Hlt.out]
     rw[abE]at Zc;obtain⟨sA2,sC2,rfl,JY⟩:=Zc.VE;rw[<-HSL.out]at hcs2;obtain⟨tl2,abG⟩:=afC T1.length;obtain⟨S2,hS2⟩:=afC (jL N Si x.low);have hi2:(i:Int)<(tl2:Int):=(by omega);have afc:(0:Int)<=(i:Int):=(by omega);have abH:=hid abG;have HS2:=hid hS2;have hstep:∀X,Below w.heap.size w X->aH X sA2 Si->Calls Tryz.prog 66 #[.agg #[x0,x1,x2],.slice sA2 sl sC2,.int .u8 (x.low:Nat)] X fun e w'=>∃v,e=.returned v/\w'.ownsRow X.heap.size 3 1 v S2.length (S2.map (Value.int .i64))/\Below X.heap.size X w':=fun X hX hI=>by
      rw[HX0.out,HX1.out,HX2.out,HSL.out,HS2.out];have h1:=adL.out;exact RG N HO.out ac an ar cc cn cr Si (by omega) h1.2 sA2 sC2 x.low (Kl.Rt x) X (HH.out.below hX afD) hI
     have adP:Small S2/\S2.length<=1000000:=by
      rw[HS2.out];have h2:=HO.out.most;refine⟨fun k hk=>?_,agb (wu _ _ _ _ _) (by omega)⟩;have h1:=zX hk;omega
     obtain⟨adQ,adR⟩:=adP;have adS:T1.length<=1000:=(by have:=abC.out;omega);have hst:∀{oth:List Nat} {v:Value} (X:World),Bs w X x0 x1 x2 U (U+1) D (r+1) r ga (spl N.cl) most oth (.slice (some ⟨gs2,0,none⟩) T1.length c2) nv' rv' vals T1 next (rule++[rf])->SAt X (aT (r+1) r (.slice (some ⟨gs2,0,none⟩) T1.length c2) oth) v S2->Calls Tryz.prog 62 #[.pointer (some ⟨r+1,0,none⟩),v] X (lJ X w.heap.size oth (r+1) r x0 x1 x2 most (.slice (some ⟨gs2,0,none⟩) T1.length c2) T1 S2):=fun X hb hs=>Dv hb.mkr hs adQ adR hb.low.size adS
     have b20:=HBs.out.below hbj;have hVw:=b20.low.size;have sW:=fun g hg=>(b20.no.lt g hg).2;have Hu:=fun g hg=>(b20.ro.lt g hg).2;have l20:∀k∈nC,k<V1.drew.heap.size:=fun k hk=>afN (adN.out k hk) hbj.size;obtain⟨C,hCi,hCo⟩:∃C:World->Prop,(∀X,C X->Bx X U 74 #[x0,x1,x2])/\∀X,Bx X U 74 #[x0,x1,x2]->C X:=⟨fun X=>Bx X U 74 #[x0,x1,x2],fun _ h=>h,fun _ h=>h⟩;have hC0:C V1.drew:=hCo _ b20.ub;haveI:Inhabited (AX.CW C):=⟨⟨_,hC0⟩⟩;have pU0:∀p:AX.CW C,p.W.cell? ⟨U,0,none⟩=some x0:=fun p=>(hCi _ p.h).cell 0;have pU1:∀p:AX.CW C,p.W.cell? ⟨U,1,none⟩=some x1:=fun p=>(hCi _ p.h).cell 1;have pU2:∀p:AX.CW C,p.W.cell? ⟨U,2,none⟩=some x2:=fun p=>(hCi _ p.h).cell 2;have HCo:=hid hCo;obtain⟨Vd,hVd⟩:=afC V1.drew;have HVd:=hid hVd;have e20:Below V1.drew.heap.size V1.drew V1.drew:=afI _ _;have d20:Dk V1.drew V1.drew:=fun _ h=>h;clear adO abE Zc hCi hCo abG hS2 abD q0 q1 q2 q3 k0 k1 k2 k3 hT0 hle hcb hb0;rw[<-hVd]at b20 l20 e20 d20 hC0 hbj Sj JY hcs2 Ol hVw sW Hu;clear hVd;obtain⟨Rl,hRi,hRo⟩:∃R:Act->World->Prop,(∀a' W',R a' W'->∃(TB:Nat)(t:Int)(ok:Bool),a'=(fun v:Nat->Value=>{tmps:=#[v 0,v 1,.pointer (some ⟨U,0,none⟩),v 3,.pointer (some ⟨U+1,0,none⟩),v 5,v 6,.pointer (some ⟨r+1,0,none⟩),.slice (some ⟨ga,0,none⟩) (spl N.cl).length gc,.pointer (some ⟨D,0,none⟩),.int .i64 i,.pointer (some ⟨g+1,0,none⟩),v 12,.pointer (some ⟨CB,0,none⟩),v 14,v 15,.pointer (some ⟨TB,0,none⟩),.bool ok,v 18,v 19,v 20,v 21,v 22,v 23,v 24,v 25,v 26,v 27,v 28,v 29,v 30,v 31,v 32,v 33,v 34,v 35,v 36,v 37,v 38,v 39,v 40,v 41,v 42,v 43,v 44,v 45,v 46,v 47,v 48,v 49,v 50,v 51,v 52,v 53,v 54,v 55,v 56,v 57,v 58,v 59,v 60,v 61,v 62,v 63,v 64,v 65,v 66,.slice (some ⟨ga,0,none⟩) (spl N.cl).length gc,.int .i64 (spl N.cl).length,.int .i64 j,v 70,v 71,v 72,v 73,v 74,v 75,v 76,v 77,v 78,v 79,v 80,v 81,v 82,v 83,v 84,v 85,v 86,v 87,v 88,v 89,v 90,v 91,v 92,v 93,v 94,v 95,v 96,v 97,v 98,v 99,v 100,v 101,v 102,v 103,v 104,v 105,v 106,v 107,v 108,v 109],defers:=ds2}) (slots a'.tmps) /\
      SF w Vd W' x0 x1 x2 U D (r+1) r ga (spl N.cl) most (TB::nC) (.slice (some ⟨gs2,0,none⟩) T1.length c2) nv' rv' T1 S2 next (rule++[rf]) t ok/\Bx W' TB 3 #[.int .i64 t]/\Vd.heap.size<=TB)/\∀a' W',(∃(TB:Nat)(t:Int)(ok:Bool),a'=(fun v:Nat->Value=>{tmps:=#[v 0,v 1,.pointer (some ⟨U,0,none⟩),v 3,.pointer (some ⟨U+1,0,none⟩),v 5,v 6,.pointer (some ⟨r+1,0,none⟩),.slice (some ⟨ga,0,none⟩) (spl N.cl).length gc,.pointer (some ⟨D,0,none⟩),.int .i64 i,.pointer (some ⟨g+1,0,none⟩),v 12,.pointer (some ⟨CB,0,none⟩),v 14,v 15,.pointer (some ⟨TB,0,none⟩),.bool ok,v 18,v 19,v 20,v 21,v 22,v 23,v 24,v 25,v 26,v 27,v 28,v 29,v 30,v 31,v 32,v 33,v 34,v 35,v 36,v 37,v 38,v 39,v 40,v 41,v 42,v 43,v 44,v 45,v 46,v 47,v 48,v 49,v 50,v 51,v 52,v 53,v 54,v 55,v 56,v 57,v 58,v 59,v 60,v 61,v 62,v 63,v 64,v 65,v 66,.slice (some ⟨ga,0,none⟩) (spl N.cl).length gc,.int .i64 (spl N.cl).length,.int .i64 j,v 70,v 71,v 72,v 73,v 74,v 75,v 76,v 77,v 78,v 79,v 80,v 81,v 82,v 83,v 84,v 85,v 86,v 87,v 88,v 89,v 90,v 91,v 92,v 93,v 94,v 95,v 96,v 97,v 98,v 99,v 100,v 101,v 102,v 103,v 104,v 105,v 106,v 107,v 108,v 109],defers:=ds2}) (slots a'.tmps) /\
      SF w Vd W' x0 x1 x2 U D (r+1) r ga (spl N.cl) most (TB::nC) (.slice (some ⟨gs2,0,none⟩) T1.length c2) nv' rv' T1 S2 next (rule++[rf]) t ok/\Bx W' TB 3 #[.int .i64 t]/\Vd.heap.size<=TB)->R a' W':=⟨fun a' W'=>∃(TB:Nat)(t:Int)(ok:Bool),a'=(fun v:Nat->Value=>{tmps:=#[v 0,v 1,.pointer (some ⟨U,0,none⟩),v 3,.pointer (some ⟨U+1,0,none⟩),v 5,v 6,.pointer (some ⟨r+1,0,none⟩),.slice (some ⟨ga,0,none⟩) (spl N.cl).length gc,.pointer (some ⟨D,0,none⟩),.int .i64 i,.pointer (some ⟨g+1,0,none⟩),v 12,.pointer (some ⟨CB,0,none⟩),v 14,v 15,.pointer (some ⟨TB,0,none⟩),.bool ok,v 18,v 19,v 20,v 21,v 22,v 23,v 24,v 25,v 26,v 27,v 28,v 29,v 30,v 31,v 32,v 33,v 34,v 35,v 36,v 37,v 38,v 39,v 40,v 41,v 42,v 43,v 44,v 45,v 46,v 47,v 48,v 49,v 50,v 51,v 52,v 53,v 54,v 55,v 56,v 57,v 58,v 59,v 60,v 61,v 62,v 63,v 64,v 65,v 66,.slice (some ⟨ga,0,none⟩) (spl N.cl).length gc,.int .i64 (spl N.cl).length,.int .i64 j,v 70,v 71,v 72,v 73,v 74,v 75,v 76,v 77,v 78,v 79,v 80,v 81,v 82,v 83,v 84,v 85,v 86,v 87,v 88,v 89,v 90,v 91,v 92,v 93,v 94,v 95,v 96,v 97,v 98,v 99,v 100,v 101,v 102,v 103,v 104,v 105,v 106,v 107,v 108,v 109],defers:=ds2}) (slots a'.tmps) /\
      SF w Vd W' x0 x1 x2 U D (r+1) r ga (spl N.cl) most (TB::nC) (.slice (some ⟨gs2,0,none⟩) T1.length c2) nv' rv' T1 S2 next (rule++[rf]) t ok/\Bx W' TB 3 #[.int .i64 t]/\Vd.heap.size<=TB,fun _ _ h=>h,fun _ _ h=>h⟩
     have HRi:=hid hRi;have HRo:=hid hRo;clear hRi hRo;refine AX.Om Rl ?first ?rest
     case first =>
      refine AX.EP (C:=fun W=>∃p:AX.CW C,W=p.W) (ro:=none) Hw _ (by kernel_rfl) (by kernel_rfl) (by kernel_rfl) rfl (by kernel_rfl) rfl ⟨⟨_,by have h9:=hC0;rw[HVd.out]at h9;exact h9⟩,rfl⟩ ?_;rw[<-HVd.out];unfold Hw
      repeat (refine AX.ay _ (by rfl) ?_;go_big_quiet_step (fail);refine afQ ?_)
      refine⟨?_,?_⟩
      ·skip
       refine AX.au _ (by rfl) (by rfl) ?_;have aeM:Vd.cell? ⟨r+1,4,none⟩=some (.slice (some ⟨gs2,0,none⟩) tl2 c2):=(by rw[abH.out];exact b20.mkr.box.cell 4);unfold Oper.wp;go_simp
       refine⟨⟨⟨_,HCo.out _ b20.ub⟩,rfl⟩,?_⟩
       (try simp only[Act.put,afH,afL,afM])
       refine AX.ay _ (by rfl) ?_;go_big_quiet_step (fail);refine afQ ?_;refine⟨?_,?_⟩
       ·skip
        refine AX.au _ (by rfl) (by rfl) ?_;have aeN:Vd.cell? ⟨gs2,i,none⟩=some (.slice sA2 sl sC2):=(e20.cell (p:=⟨gs2,i,none⟩) Ol).trans hcs2;unfold Oper.wp;go_simp
        refine⟨⟨⟨_,HCo.out _ b20.ub⟩,rfl⟩,?_⟩
        (try simp only[Act.put,afH,afL,afM])
        refine⟨?_,?_⟩
        ·skip
         refine AX.dA (hstep Vd b20.low (JY.below e20 afD)) (by rfl) (by rfl) (by rfl) Tryz.func66 (by kernel_rfl) (by rfl) (by simp only[agh,agd,agm];rfl) ?_;rintro e V21 ⟨vS,rfl,abI,kN⟩;have b21:=b20.below kN;have e21:=e20.trans (kN.mono e20.size);have d21:=d20.trans (Dk.of_below kN);have l21:∀k∈nC,k<V21.heap.size:=fun k hk=>afN (l20 k hk) kN.size;have s21:SAt V21 (aT (r+1) r (.slice (some ⟨gs2,0,none⟩) T1.length c2) nC) vS S2:=SAt.wC abI (yj b20 l20);refine⟨_,rfl,⟨⟨_,HCo.out _ b21.ub⟩,rfl⟩,?_⟩
         (try simp only[Act.put,afH,afL,afM])
         refine⟨?_,?_⟩
         ·skip
          refine AX.dA (hst V21 b21 s21) (by rfl) (by rfl) (by rfl) Tryz.func62 (by kernel_rfl) (by rfl) (by simp only[agh,agd,agm];rfl) ?_;intro e V22 hse;obtain⟨t,ok,rfl,f22⟩:=SF.oZ b21 d21 e21 l21 hse;have hc22:=lJ.ch hse;have Zd:Bx V22 U 74 #[x0,x1,x2]:=hc22.bx b21.ub (fun hm=>b21.nU (iD hm));refine⟨_,rfl,⟨⟨_,HCo.out _ Zd⟩,rfl⟩,?_⟩
          (try simp only[Act.put,afH,afL,afM])
          refine AX.ay _ (by rfl) ?_;go_big_quiet_step (fail);refine afQ ?_;refine AX.ay _ (by rfl) ?_;go_big_quiet_step (fail);refine afQ ?_;refine AX.ay _ (by rfl) ?_;go_big_quiet_step (fail);refine afQ ?_;refine AX.au _ (by rfl) (by rfl) ?_;unfold Oper.wp;go_simp
          have xI:Below V22.heap.size V22 (V22.alloc (.cells #[.int .i64 0] 3)):=(afI _ V22).alloc afD _;have t23:=Bx.new V22 3 #[.int .i64 0];have adT:V22.heap.size<(V22.alloc (.cells #[.int .i64 0] 3)).heap.size:=(by simp);have f23:=f22.cons xI adT;have nG:=Zd.below xI Zd.lt;have htb:Vd.heap.size<=V22.heap.size:=f22.2.1;obtain⟨TB,hTB⟩:=afC V22.heap.size;generalize afd:V22.alloc (.cells #[.int .i64 0] 3)=V23 at *;refine⟨⟨⟨_,HCo.out _ nG⟩,rfl⟩,?_⟩
          (try simp only[Act.put,afH,afL,afM])
          refine AX.au _ (by rfl) (by rfl) ?_;refine AX.aI (o:=0) (v:=.int .i64 t) rfl rfl rfl sz3 t23 (show 0<1 by decide) ?_;rintro V24 g3 g4 g5;have t24:Bx V24 V22.heap.size 3 #[.int .i64 t]:=g3;have ES:Below 0 V23 V24:=AX.ah (af0 _) (.inl t24.lt) g4 g5;have htn:V22.heap.size≠U:=Hy t23 nG (by decide);have ET:Bx V24 U 74 #[x0,x1,x2]:=(g4 U htn.symm).trans nG;have f24:=f23.store (afS ..) htb hVw t23 (fun e=>by have:=(sW _ e);omega) (fun e=>by have:=(Hu _ e);omega) g4 ES;refine⟨⟨⟨_,HCo.out _ ET⟩,rfl⟩,?_⟩
          (try simp only[Act.put,afH,afL,afM])
          refine AX.ay _ (by rfl) ?_;go_big_quiet_step (fail);refine afQ ?_;unfold AX.aQ;exact⟨rfl,HRo.out _ _ ⟨V22.heap.size,t,ok,rfl,f24,t24,htb⟩⟩
         ·skip
          refine AX.au _ (by rfl) (by rfl) ?_;unfold Oper.wp;go_simp
          have iV:Below V21.heap.size V21 (V21.alloc (.cells #[.int .i64 0] 3)):=(afI _ V21).alloc afD _;have t22:=Bx.new V21 3 #[.int .i64 0];have Sl:V21.heap.size<(V21.alloc (.cells #[.int .i64 0] 3)).heap.size:=(by simp);have b22:=b21.cons iV;have e22:=e21.trans (iV.mono e21.size);have d22:=d21.trans (Dk.of_below iV);have l22:∀k∈(V21.heap.size::nC),k<(V21.alloc (.cells #[.int .i64 0] 3)).heap.size:=fun k hk=>(afX.1 hk).elim (fun e=>by rw[e];exact Sl) (fun hk=>afN (l21 k hk) iV.size);have s22:=(s21.more (bad':=aT (r+1) r (.slice (some ⟨gs2,0,none⟩) T1.length c2) (V21.heap.size::nC)) (fun k hk hlt=>Decidable.byContradiction fun hn=>rE hn (by omega) hk)).ch (Ch.of_below iV _);have htb:Vd.heap.size<=V21.heap.size:=e21.size;obtain⟨TB,hTB⟩:=afC V21.heap.size;generalize afe:V21.alloc (.cells #[.int .i64 0] 3)=V22 at *;refine⟨⟨⟨_,HCo.out _ b22.ub⟩,rfl⟩,?_⟩
          (try simp only[Act.put,afH,afL,afM])
          refine AX.dA (hst V22 b22 s22) (by rfl) (by rfl) (by rfl) Tryz.func62 (by kernel_rfl) (by rfl) (by simp only[agh,agd,agm];rfl) ?_;intro e V23 hse;obtain⟨t,ok,rfl,f23⟩:=SF.oZ b22 d22 e22 l22 hse;have Aa:=lJ.ch hse;have nG:Bx V23 U 74 #[x0,x1,x2]:=Aa.bx b22.ub (fun hm=>b22.nU (iD hm));have t23:Bx V23 V21.heap.size 3 #[.int .i64 0]:=Aa.bx t22 (b22.mkr.qG t22 (by decide) (by decide));refine⟨_,rfl,⟨⟨_,HCo.out _ nG⟩,rfl⟩,?_⟩
          (try simp only[Act.put,afH,afL,afM])
          refine AX.ay _ (by rfl) ?_;go_big_quiet_step (fail);refine afQ ?_;refine AX.ay _ (by rfl) ?_;go_big_quiet_step (fail);refine afQ ?_;refine AX.ay _ (by rfl) ?_;go_big_quiet_step (fail);refine afQ ?_;refine AX.au _ (by rfl) (by rfl) ?_;refine AX.aI (o:=0) (v:=.int .i64 t) rfl rfl rfl sz3 t23 (show 0<1 by decide) ?_;rintro V24 g3 g4 g5;have t24:Bx V24 V21.heap.size 3 #[.int .i64 t]:=g3;have ES:Below 0 V23 V24:=AX.ah (af0 _) (.inl t24.lt) g4 g5;have htn:V21.heap.size≠U:=Hy t23 nG (by decide);have ET:Bx V24 U 74 #[x0,x1,x2]:=(g4 U htn.symm).trans nG;have f24:=f23.store (afS ..) htb hVw t23 (fun e=>by have:=(sW _ e);omega) (fun e=>by have:=(Hu _ e);omega) g4 ES;refine⟨⟨⟨_,HCo.out _ ET⟩,rfl⟩,?_⟩
          (try simp only[Act.put,afH,afL,afM])
          refine AX.ay _ (by rfl) ?_;go_big_quiet_step (fail);refine afQ ?_;unfold AX.aQ;exact⟨rfl,HRo.out _ _ ⟨V21.heap.size,t,ok,rfl,f24,t24,htb⟩⟩
        ·skip
         refine AX.au _ (by rfl) (by rfl) ?_;unfold Oper.wp;go_simp
         have kN:Below Vd.heap.size Vd (Vd.alloc (.cells #[.int .i64 0] 3)):=(afI _ Vd).alloc afD _;have t21:=Bx.new Vd 3 #[.int .i64 0];have EU:Vd.heap.size<(Vd.alloc (.cells #[.int .i64 0] 3)).heap.size:=(by simp);have b21:=b20.cons kN;have e21:=e20.trans (kN.mono e20.size);have d21:=d20.trans (Dk.of_below kN);have l21:∀k∈(Vd.heap.size::nC),k<(Vd.alloc (.cells #[.int .i64 0] 3)).heap.size:=fun k hk=>(afX.1 hk).elim (fun e=>by rw[e];exact EU) (fun hk=>afN (l20 k hk) kN.size);have htb:Vd.heap.size<=Vd.heap.size:=e20.size;obtain⟨TB,hTB⟩:=afC Vd.heap.size;generalize abJ:Vd.alloc (.cells #[.int .i64 0] 3)=V21 at *;refine⟨⟨⟨_,HCo.out _ b21.ub⟩,rfl⟩,?_⟩
         (try simp only[Act.put,afH,afL,afM])
         refine AX.dA (hstep V21 b21.low (JY.below e21 afD)) (by rfl) (by rfl) (by rfl) Tryz.func66 (by kernel_rfl) (by rfl) (by simp only[agh,agd,agm];rfl) ?_;rintro e V22 ⟨vS,rfl,Hz,iV⟩;have b22:=b21.below iV;have e22:=e21.trans (iV.mono e21.size);have d22:=d21.trans (Dk.of_below iV);have l22:∀k∈(Vd.heap.size::nC),k<V22.heap.size:=fun k hk=>afN (l21 k hk) iV.size;have s22:SAt V22 (aT (r+1) r (.slice (some ⟨gs2,0,none⟩) T1.length c2) (Vd.heap.size::nC)) vS S2:=SAt.wC Hz (yj b21 l21);have t22:=t21.below iV t21.lt;refine⟨_,rfl,⟨⟨_,HCo.out _ b22.ub⟩,rfl⟩,?_⟩
         (try simp only[Act.put,afH,afL,afM])
         refine AX.dA (hst V22 b22 s22) (by rfl) (by rfl) (by rfl) Tryz.func62 (by kernel_rfl) (by rfl) (by simp only[agh,agd,agm];rfl) ?_;intro e V23 hse;obtain⟨t,ok,rfl,f23⟩:=SF.oZ b22 d22 e22 l22 hse;have Aa:=lJ.ch hse;have nG:Bx V23 U 74 #[x0,x1,x2]:=Aa.bx b22.ub (fun hm=>b22.nU (iD hm));have t23:Bx V23 Vd.heap.size 3 #[.int .i64 0]:=Aa.bx t22 (b22.mkr.qG t22 (by decide) (by decide));refine⟨_,rfl,⟨⟨_,HCo.out _ nG⟩,rfl⟩,?_⟩
         (try simp only[Act.put,afH,afL,afM])
         refine AX.ay _ (by rfl) ?_;go_big_quiet_step (fail);refine afQ ?_;refine AX.ay _ (by rfl) ?_;go_big_quiet_step (fail);refine afQ ?_;refine AX.ay _ (by rfl) ?_;go_big_quiet_step (fail);refine afQ ?_;refine AX.au _ (by rfl) (by rfl) ?_;refine AX.aI (o:=0) (v:=.int .i64 t) rfl rfl rfl sz3 t23 (show 0<1 by decide) ?_;rintro V24 g3 g4 g5;have t24:Bx V24 Vd.heap.size 3 #[.int .i64 t]:=g3;have ES:Below 0 V23 V24:=AX.ah (af0 _) (.inl t24.lt) g4 g5;have htn:Vd.heap.size≠U:=Hy t23 nG (by decide);have ET:Bx V24 U 74 #[x0,x1,x2]:=(g4 U htn.symm).trans nG;have f24:=f23.store (afS ..) htb hVw t23 (fun e=>by have:=(sW _ e);omega) (fun e=>by have:=(Hu _ e);omega) g4 ES;refine⟨⟨⟨_,HCo.out _ ET⟩,rfl⟩,?_⟩
         (try simp only[Act.put,afH,afL,afM])
         refine AX.ay _ (by rfl) ?_;go_big_quiet_step (fail);refine afQ ?_;unfold AX.aQ;exact⟨rfl,HRo.out _ _ ⟨Vd.heap.size,t,ok,rfl,f24,t24,htb⟩⟩
       ·skip
        refine AX.au _ (by rfl) (by rfl) ?_;unfold Oper.wp;go_simp
        have kN:Below Vd.heap.size Vd (Vd.alloc (.cells #[.int .i64 0] 3)):=(afI _ Vd).alloc afD _;have t21:=Bx.new Vd 3 #[.int .i64 0];have EU:Vd.heap.size<(Vd.alloc (.cells #[.int .i64 0] 3)).heap.size:=(by simp);have b21:=b20.cons kN;have e21:=e20.trans (kN.mono e20.size);have d21:=d20.trans (Dk.of_below kN);have l21:∀k∈(Vd.heap.size::nC),k<(Vd.alloc (.cells #[.int .i64 0] 3)).heap.size:=fun k hk=>(afX.1 hk).elim (fun e=>by rw[e];exact EU) (fun hk=>afN (l20 k hk) kN.size);have htb:Vd.heap.size<=Vd.heap.size:=e20.size;obtain⟨TB,hTB⟩:=afC Vd.heap.size;generalize abJ:Vd.alloc (.cells #[.int .i64 0] 3)=V21 at *;refine⟨⟨⟨_,HCo.out _ b21.ub⟩,rfl⟩,?_⟩
        (try simp only[Act.put,afH,afL,afM])
        refine AX.au _ (by rfl) (by rfl) ?_;have abK:V21.cell? ⟨gs2,i,none⟩=some (.slice sA2 sl sC2):=(e21.cell (p:=⟨gs2,i,none⟩) Ol).trans hcs2;unfold Oper.wp;go_simp
        refine⟨⟨⟨_,HCo.out _ b21.ub⟩,rfl⟩,?_⟩
        (try simp only[Act.put,afH,afL,afM])
        refine AX.dA (hstep V21 b21.low (JY.below e21 afD)) (by rfl) (by rfl) (by rfl) Tryz.func66 (by kernel_rfl) (by rfl) (by simp only[agh,agd,agm];rfl) ?_;rintro e V22 ⟨vS,rfl,Hz,iV⟩;have b22:=b21.below iV;have e22:=e21.trans (iV.mono e21.size);have d22:=d21.trans (Dk.of_below iV);have l22:∀k∈(Vd.heap.size::nC),k<V22.heap.size:=fun k hk=>afN (l21 k hk) iV.size;have s22:SAt V22 (aT (r+1) r (.slice (some ⟨gs2,0,none⟩) T1.length c2) (Vd.heap.size::nC)) vS S2:=SAt.wC Hz (yj b21 l21);have t22:=t21.below iV t21.lt;refine⟨_,rfl,⟨⟨_,HCo.out _ b22.ub⟩,rfl⟩,?_⟩
        (try simp only[Act.put,afH,afL,afM])
        refine AX.dA (hst V22 b22 s22) (by rfl) (by rfl) (by rfl) Tryz.func62 (by kernel_rfl) (by rfl) (by simp only[agh,agd,agm];rfl) ?_;intro e V23 hse;obtain⟨t,ok,rfl,f23⟩:=SF.oZ b22 d22 e22 l22 hse;have Aa:=lJ.ch hse;have nG:Bx V23 U 74 #[x0,x1,x2]:=Aa.bx b22.ub (fun hm=>b22.nU (iD hm));have t23:Bx V23 Vd.heap.size 3 #[.int .i64 0]:=Aa.bx t22 (b22.mkr.qG t22 (by decide) (by decide));refine⟨_,rfl,⟨⟨_,HCo.out _ nG⟩,rfl⟩,?_⟩
        (try simp only[Act.put,afH,afL,afM])
        refine AX.ay _ (by rfl) ?_;go_big_quiet_step (fail);refine afQ ?_;refine AX.ay _ (by rfl) ?_;go_big_quiet_step (fail);refine afQ ?_;refine AX.ay _ (by rfl) ?_;go_big_quiet_step (fail);refine afQ ?_;refine AX.au _ (by rfl) (by rfl) ?_;refine AX.aI (o:=0) (v:=.int .i64 t) rfl rfl rfl sz3 t23 (show 0<1 by decide) ?_;rintro V24 g3 g4 g5;have t24:Bx V24 Vd.heap.size 3 #[.int .i64 t]:=g3;have ES:Below 0 V23 V24:=AX.ah (af0 _) (.inl t24.lt) g4 g5;have htn:Vd.heap.size≠U:=Hy t23 nG (by decide);have ET:Bx V24 U 74 #[x0,x1,x2]:=(g4 U htn.symm).trans nG;have f24:=f23.store (afS ..) htb hVw t23 (fun e=>by have:=(sW _ e);omega) (fun e=>by have:=(Hu _ e);omega) g4 ES;refine⟨⟨⟨_,HCo.out _ ET⟩,rfl⟩,?_⟩
        (try simp only[Act.put,afH,afL,afM])
        refine AX.ay _ (by rfl) ?_;go_big_quiet_step (fail);refine afQ ?_;unfold AX.aQ;exact⟨rfl,HRo.out _ _ ⟨Vd.heap.size,t,ok,rfl,f24,t24,htb⟩⟩
      ·skip
       refine AX.au _ (by rfl) (by rfl) ?_;unfold Oper.wp;go_simp
       have kN:Below Vd.heap.size Vd (Vd.alloc (.cells #[.int .i64 0] 3)):=(afI _ Vd).alloc afD _;have t21:=Bx.new Vd 3 #[.int .i64 0];have EU:Vd.heap.size<(Vd.alloc (.cells #[.int .i64 0] 3)).heap.size:=(by simp);have b21:=b20.cons kN;have e21:=e20.trans (kN.mono e20.size);have d21:=d20.trans (Dk.of_below kN);have l21:∀k∈(Vd.heap.size::nC),k<(Vd.alloc (.cells #[.int .i64 0] 3)).heap.size:=fun k hk=>(afX.1 hk).elim (fun e=>by rw[e];exact EU) (fun hk=>afN (l20 k hk) kN.size);have htb:Vd.heap.size<=Vd.heap.size:=e20.size;obtain⟨TB,hTB⟩:=afC Vd.heap.size;generalize abJ:Vd.alloc (.cells #[.int .i64 0] 3)=V21 at *;refine⟨⟨⟨_,HCo.out _ b21.ub⟩,rfl⟩,?_⟩
       (try simp only[Act.put,afH,afL,afM])
       refine AX.au _ (by rfl) (by rfl) ?_;have aeO:V21.cell? ⟨r+1,4,none⟩=some (.slice (some ⟨gs2,0,none⟩) tl2 c2):=(by rw[abH.out];exact b21.mkr.box.cell 4);unfold Oper.wp;go_simp
       refine⟨⟨⟨_,HCo.out _ b21.ub⟩,rfl⟩,?_⟩
       (try simp only[Act.put,afH,afL,afM])
       refine AX.ay _ (by rfl) ?_;go_big_quiet_step (fail);refine afQ ?_;refine AX.au _ (by rfl) (by rfl) ?_;have abK:V21.cell? ⟨gs2,i,none⟩=some (.slice sA2 sl sC2):=(e21.cell (p:=⟨gs2,i,none⟩) Ol).trans hcs2;unfold Oper.wp;go_simp
       refine⟨⟨⟨_,HCo.out _ b21.ub⟩,rfl⟩,?_⟩
       (try simp only[Act.put,afH,afL,afM])
       refine AX.dA (hstep V21 b21.low (JY.below e21 afD)) (by rfl) (by rfl) (by rfl) Tryz.func66 (by kernel_rfl) (by rfl) (by simp only[agh,agd,agm];rfl) ?_;rintro e V22 ⟨vS,rfl,Hz,iV⟩;have b22:=b21.below iV;have e22:=e21.trans (iV.mono e21.size);have d22:=d21.trans (Dk.of_below iV);have l22:∀k∈(Vd.heap.size::nC),k<V22.heap.size:=fun k hk=>afN (l21 k hk) iV.size;have s22:SAt V22 (aT (r+1) r (.slice (some ⟨gs2,0,none⟩) T1.length c2) (Vd.heap.size::nC)) vS S2:=SAt.wC Hz (yj b21 l21);have t22:=t21.below iV t21.lt;refine⟨_,rfl,⟨⟨_,HCo.out _ b22.ub⟩,rfl⟩,?_⟩
       (try simp only[Act.put,afH,afL,afM])
       refine AX.dA (hst V22 b22 s22) (by rfl) (by rfl) (by rfl) Tryz.func62 (by kernel_rfl) (by rfl) (by simp only[agh,agd,agm];rfl) ?_;intro e V23 hse;obtain⟨t,ok,rfl,f23⟩:=SF.oZ b22 d22 e22 l22 hse;have Aa:=lJ.ch hse;have nG:Bx V23 U 74 #[x0,x1,x2]:=Aa.bx b22.ub (fun hm=>b22.nU (iD hm));have t23:Bx V23 Vd.heap.size 3 #[.int .i64 0]:=Aa.bx t22 (b22.mkr.qG t22 (by decide) (by decide));refine⟨_,rfl,⟨⟨_,HCo.out _ nG⟩,rfl⟩,?_⟩
       (try simp only[Act.put,afH,afL,afM])
       refine AX.ay _ (by rfl) ?_;go_big_quiet_step (fail);refine afQ ?_;refine AX.ay _ (by rfl) ?_;go_big_quiet_step (fail);refine afQ ?_;refine AX.ay _ (by rfl) ?_;go_big_quiet_step (fail);refine afQ ?_;refine AX.au _ (by rfl) (by rfl) ?_;refine AX.aI (o:=0) (v:=.int .i64 t) rfl rfl rfl sz3 t23 (show 0<1 by decide) ?_;rintro V24 g3 g4 g5;have t24:Bx V24 Vd.heap.size 3 #[.int .i64 t]:=g3;have ES:Below 0 V23 V24:=AX.ah (af0 _) (.inl t24.lt) g4 g5;have htn:Vd.heap.size≠U:=Hy t23 nG (by decide);have ET:Bx V24 U 74 #[x0,x1,x2]:=(g4 U htn.symm).trans nG;have f24:=f23.store (afS ..) htb hVw t23 (fun e=>by have:=(sW _ e);omega) (fun e=>by have:=(Hu _ e);omega) g4 ES;refine⟨⟨⟨_,HCo.out _ ET⟩,rfl⟩,?_⟩
       (try simp only[Act.put,afH,afL,afM])
       refine AX.ay _ (by rfl) ?_;go_big_quiet_step (fail);refine afQ ?_;unfold AX.aQ;exact⟨rfl,HRo.out _ _ ⟨Vd.heap.size,t,ok,rfl,f24,t24,htb⟩⟩
     case rest =>
      intro a' W9 hR9;obtain⟨TB,t,ok,ha',hSF,Sm,adU⟩:=HRi.out _ _ hR9;obtain⟨v,hv⟩:=afC (slots a'.tmps);rw[<-hv]at ha';dsimp only at ha';clear hv hR9 HRi HRo hstep hst pU0 pU1 pU2 hC0 HCo;subst ha';obtain⟨hdk,hzz,h3⟩:=hSF;have hM9:=(HM.out.dk (Dk.of_below hbj)).dk hdk;have hlow:(eF (spl N.cl))[j]?=some x.low:=(by unfold eF;rw[af8,HX.out];rfl);have Po:=hid hlow;clear hlow hdk;rcases h3 with ⟨rfl,hadd,hRb,adV⟩|⟨rfl,T2,sv',vals',hadd,hB9,abL,hCh,hs9⟩
      ·have hnone:lD most (jL N) (eF (spl N.cl)) (most+1) 0 [[0]]=none:=HBL.out.none Hlt.out HTm.out (by
        rw[<-HSi.out];exact Oo VR.out Po.out (by rw[<-HS2.out];exact hadd))
       have HNo:=hid hnone;have hwU:w.heap.size<=U+1:=(by have:=HU.out;omega);clear hnone hadd Sm adU b20 l20 e20 d20 hbj Sj JY hcs2 Ol hVw sW Hu hzz;gi_wp2_with (first|((with_reducible refine ug ?_);refine AX.gq (vs:=[.slice none 0 0,.slice none 0 0]) rfl rfl abM hRb rfl rfl ?_;rintro W7 g3 g4 g5))
       have g3':Bx W7 (U+1) 27 #[.slice none 0 0,.slice none 0 0]:=g3;have hl7:Below w.heap.size W9 W7:=AX.ah hwU (.inl g3'.lt) g4 g5;refine wE ds2 W7 (hM9.keep fun D' _ hD'=>(g4 D' (fun e=>by subst e;rw[show W9.heap[_]?=_ from hRb]at hD';cases hD')).trans hD') fun W8 hT8=>?_;have b8:Bx W8 (U+1) 27 _:=hT8.same _ _ g3' rfl;have e0:=b8.cell 0;have e1:=b8.cell 1;refine⟨.tuple #[.agg #[.slice none 0 0,.slice none 0 0],.int .i64 10],?_,?_⟩
       ·simp[results,Tryz.f31,go_sem,e0,e1]
       ·exact⟨adV.trans (hl7.trans hT8.low),.inl ⟨HNo.out,rfl⟩⟩
      ·have hgd:Bx Vd g 3 (ci rw'):=hg.below hbj hg.lt
       have hRd:Bx Vd (g+1) 25 #[.slice (some ⟨g,0,none⟩) 256 256]:=hRB.below hbj hRB.lt;have hg9:=hCh.bx hgd (b20.mkr.qG hgd (by decide) (by decide));have hR9:=hCh.bx hRd (fun hm=>VP (iD hm));have hC9:=hCh.bx Sj (b20.mkr.qG Sj (by decide) (by decide));obtain⟨b,hbW⟩:=afC W9.heap.size;obtain⟨W10,Sr⟩:=afC (W9.alloc (.cells #[.int .u64 (x.a:Nat),.int .u64 (x.b:Nat),.int .u64 (x.c:Nat),.int .u64 (x.d:Nat)] 116));have Bo:Below W9.heap.size W9 W10:=(by rw[Sr];exact (afI _ W9).alloc afD _);have Dw:Bx W10 b 116 #[.int .u64 (x.a:Nat),.int .u64 (x.b:Nat),.int .u64 (x.c:Nat),.int .u64 (x.d:Nat)]:=(by rw[Sr,hbW];exact Bx.new W9 116 _);have JZ:W10.heap.size=b+1:=(by rw[Sr,hbW];simp);have abN:=hg9.below Bo hg9.lt;have Oq:=hR9.below Bo hR9.lt;have adW:=Sm.below Bo Sm.lt;have adX:=hT.below (hB9.low.trans (Bo.mono hB9.low.size)) hp;have abO:=hM9.dk (Dk.of_below Bo);have hCC:kL b x.a x.b x.c x.d W10:=⟨Dw.cell 0,Dw.cell 1,Dw.cell 2,Dw.cell 3⟩;have abP:=fun W=>(callsIn_wide (n:=8)).2 (Ac x.a x.b x.c x.d W);have aff:g<Vd.heap.size:=hgd.lt;have afg:=hRd.lt;have afh:=hg9.lt;have afi:=hR9.lt;have afj:=Sm.lt;have q0:=hC9.cell 0;have q1:=hC9.cell 1;have q2:=hC9.cell 2;have q3:=hC9.cell 3;have f42:Fence.wide.fn 110:=trivial;have HBW:=hid hbW;have abQ:=hid Dw;have Xz:=hid Bo;have Hg9:=hid hg9;have Hgp:Hid (0<g):=hid (by have:=HG.out;have h8:=hB9.lo g (afV _ hgo);omega);have adY:=hid Sr;have abR:=hid JZ;have HB9:=hid hB9;have abS:=hid abO;have HAdd:=hid hadd;have HCh:=hid hCh;have adZ:=hid abL;have Hs9:=hid hs9;have ad1:=hid VP;have Hgo:=hid hgo;have afk:=hid b20;have hwb:w.heap.size<=b:=(by rw[hbW];exact hB9.low.size);clear hbW Sr JZ hB9 hM9 abO hadd hCh abL hs9 VP hgo b20 l20 e20 d20 JY hcs2 Ol sW Hu Dw hC9 Sj hgd hRd Sm;gi_wp2_with (first
        | (gi_at_call 67;(with_reducible refine(abP _).mono ?_);rintro e W11 ⟨rfl,rfl⟩))
       rw[<-adY.out,<-HBW.out];have JZ:=abR.out;have Ze:=HBW.out;refine AX.Dx (A:=b) (B:=fun k=>k=0) (Pp:=fun _ y=>y<256) (encs:=fun y:Nat=>#[.int .u8 (y:Nat)]) (S:=fun xs=>xs=x.by_) (Sp:=fun _=>True) rfl (by omega) (gf:=110) (lb:=#[.pointer (some ⟨b,0,none⟩)]) rfl trivial (enters_of Tryz.func110 (by kernel_rfl) rfl) (by omega) (fun _=>rfl)
        (fun k h=>by omega) ?seq (fun H pre W=>Ch [g,b] W10 W/\Bx W g 3 (ci (nV rw' t pre))/\g<H) (fun _ _ _=>False) ?hI ?hIm (fun _ _ _ _ h _=>h) ⟨Ch.refl _ _,abN,by omega⟩
        (fun y a' _=>a'={tmps:=#[v 0,v 1,.pointer (some ⟨U,0,none⟩),v 3,.pointer (some ⟨U+1,0,none⟩),v 5,v 6,.pointer (some ⟨r+1,0,none⟩),.slice (some ⟨ga,0,none⟩) (spl N.cl).length gc,.pointer (some ⟨D,0,none⟩),.int .i64 i,.pointer (some ⟨g+1,0,none⟩),v 12,.pointer (some ⟨CB,0,none⟩),v 14,v 15,.pointer (some ⟨TB,0,none⟩),.bool true,.int .u8 (y:Nat),v 19,v 20,v 21,v 22,v 23,v 24,v 25,v 26,v 27,v 28,v 29,v 30,v 31,v 32,v 33,v 34,v 35,v 36,v 37,v 38,v 39,v 40,v 41,v 42,v 43,v 44,v 45,v 46,v 47,v 48,v 49,v 50,v 51,v 52,v 53,v 54,v 55,v 56,v 57,v 58,v 59,v 60,v 61,v 62,v 63,v 64,v 65,v 66,.slice (some ⟨ga,0,none⟩) (spl N.cl).length gc,.int .i64 (spl N.cl).length,.int .i64 j,v 70,v 71,v 72,v 73,v 74,v 75,v 76,v 77,v 78,v 79,v 80,v 81,v 82,v 83,v 84,v 85,v 86,v 87,v 88,v 89,v 90,v 91,v 92,.bool true,.bool false,v 95,.agg #[.int .u64 (x.a:Nat),.int .u64 (x.b:Nat),.int .u64 (x.c:Nat),.int .u64 (x.d:Nat)],.func (.func 110) #[] #[.pointer (some ⟨b,0,none⟩)],.int .u8 (y:Nat),v 99,v 100,v 101,v 102,v 103,v 104,v 105,v 106,v 107,v 108,v 109],defers:=[]}) (fun x a' X Y h _=>h) ?assign ?body ?done ?stop
       case seq =>
        intro l J Jx W hW hJ hJm hJx hY h0;exact RQ 8 (by decide) x adX hCC (by omega) (by omega) l J Jx W hW hY h0
       case hI =>
        rintro H s X Y ⟨h1,h2,h3⟩ hl;exact⟨h1.lets hl,hl.same g _ h2 (by omega) (.inr rfl),h3⟩
       case hIm =>
        rintro H H' s X ⟨h1,h2,h3⟩ hl;exact⟨h1,h2,afN h3 hl⟩
       case assign =>
        intro l pre y H W K hI hHW hK;clear Ze JZ;gi_wp2_with fail
        exact hK _ W (KeepsFrom.refl _ _) (AX.Keep.refl _ _ _) hI rfl
       case body =>
        rintro l pre y a' H W ⟨h1,h2,h3⟩ hHW rfl hy;have m0:W.cell? ⟨g+1,0,none⟩=some (.slice (some ⟨g,0,none⟩) 256 256):=(h1.bx Oq (by simp;omega)).cell 0;have m1:W.cell? ⟨TB,0,none⟩=some (.int .i64 t):=(h1.bx adW (by simp;omega)).cell 0;have abT:=HRw.out.len;have hsz:y<(ci (nV rw' t pre)).size:=by
         show y<((nV rw' t pre).map (Value.int .i64)).length
         rw[agf,Dy,abT];exact hy
        have hy0:(0:Int)<=(y:Int):=(by omega);have hy1:(y:Int)<256:=(by omega);have HY:=hid hy;have H1:=hid h1;clear h1 abT hy Ze JZ;gi_wp2_with (first|((with_reducible refine ug ?_);refine AX.fJ (o:=y) (v:=.int .i64 t) rfl rfl rfl sz3 h2 hsz ?_;rintro W6 g3 g4 g5))
        have JZ:=abR.out;have hbw2:=HBW.out;have h1:=H1.out;have hl6:Below 0 W W6:=AX.ah (af0 _) (.inl (afF.1 g3).1) g4 g5;have hc6:Ch [g,b] W10 W6:=h1.trans (Ch.ni (A:=g) hl6 g4 (by simp));have hg0:g≠0:=(by have:=Hgp.out;omega);refine⟨⟨hl6.size,fun k o hk ho hc=>(g4 k (by omega)).trans ho⟩,⟨hl6,fun k o ho hk=>(g4 k (by rcases hk with hk|hk<;>omega)).trans ho⟩,hc6,?_,by have:=hl6.size;omega⟩;rw[J3,<-Jl];exact g3
       case done =>
        rintro D' H ys W hD rfl ⟨h1,h2,h3⟩ hK;have hgC:∀k∈[g,b],k<W10.heap.size->W10.heap[k]?≠some (.deferred (some [])):=fun k hk _ e=>by
         simp only[afX,agx,ahd]at hk;rcases hk with rfl|rfl
         ·rw[show W10.heap[_]?=_ from abN]at e;cases e
         ·have hc0:=abQ.out
          rw[show W10.heap[_]?=_ from hc0]at e;cases e
        have hMW:=abS.out.dk (Dk.LP h1 hgC);have hMn:Mk w.heap.size W ({target:=.collected D',args:=#[]}::ds2):=⟨D',rfl,by omega,hK,fun d' hd' e=>by
         obtain⟨D2,e2,_,hD2⟩:=abS.out.mem d' hd';have:=(afF.1 hD2).1;rw[e2]at e
         cases e
         omega,hMW⟩
        have hcg:Ch [g] W9 W:=(Ch.of_below Xz.out [g]).trans' (h1.mono (bad':=[g,b]) fun _ h _=>h) fun k hk hlt=>by
         simp only[afX,agx,ahd]at hk⊢;omega
        have hBW:=HB9.out.row (afV _ Hgo.out) Hg9.out abz abA hcg;have hII:II w W N x0 x1 x2 U D r ga most (g+1) g (j+1) ({target:=.collected D',args:=#[]}::ds2) nv' rv' next (rule++[rf]) T Si:=by
         have hadd:=HAdd.out;obtain⟨_,_,a3,_,_,R2,a6⟩:=LU hadd abC.out;refine⟨TB::nC,sv',vals',T2,ts++[t],nV rw' t x.by_,hBW,hMn,⟨h2,h1.bx Oq (by simp;omega),?_,afV _ Hgo.out,abz,abA⟩,Ot VR.out Po.out (by rw[<-HS2.out];exact hadd),?_,by rw[afP,Hts.out];rfl,a3,fun S hS=>?_,⟨R++R2,by rw[a6,HTR.out,agi]⟩,fun k hk=>?_⟩
         ·exact ny (X:=Vd) (rE ad1.out (by omega)) (by omega) Hs9.out
         ·have h5:=HRw.out.step (qU N.cl) Hts.out (afW.1 HX.out).1 t
          rw[(afW.1 HX.out).2]at h5;exact h5
         ·rcases Sv hadd S hS with h|h
          ·exact abB.out S h
          ·rw[h,HS2.out]
           exact⟨agb (wu _ _ _ _ _) HO.out.most,fun q hq=>zX hq⟩
         ·have:=adZ.out k hk;have:=Xz.out.size;have:=h1.low.size;omega
        have hjl:=(afW.1 HX.out).1;have hdl:(spl N.cl).length<=4096:=by
         rw[(Hq N.cl).length_eq];exact agb (vX _) (by decide)
        have afl:(j:Int)<4096:=(by omega);clear hgC hMW hMn hcg hBW Ze JZ;gi_wp2_with fail
        exact⟨⟨j+1,{target:=.collected D',args:=#[]}::ds2,rfl,hII⟩,by simp[RowKit.intOf];omega⟩
       case stop =>
        rintro D' c' pre W _ _ h _;exact h.elim
    ·have abU:=EW hrow (by have:=HTm.out;exact this)
     have hjd:j=(spl N.cl).length:=by
      have h1:=abU.1;rw[VQ,agZ]at h1;have h2:(eF (spl N.cl)).length=(spl N.cl).length:=(by unfold eF;rw[agf]);omega
     have hta:(eF (spl N.cl)).take j=eF (spl N.cl):=by
      rw[agW];unfold eF;rw[agf];omega
     rw[hta]at hrow;have hrd:=Rw.done (qU N.cl) (hjd▸ hRw);have hnl:next.length<=1000000:=by
      rw[HN1.out,qV,HTL.out];have:=Hlt.out;have:=HTm.out;omega
     have hrl:=hRw.len;have m0:Wj.cell? ⟨D,0,none⟩=some nv':=hBs.db.cell 0;have m1:Wj.cell? ⟨g+1,0,none⟩=some (.slice (some ⟨g,0,none⟩) 256 256):=hRB.cell 0;have hcr:∀k (h:k<rw'.length),Wj.cell? ⟨g,k,none⟩=some (.int .i64 rw'[k]):=fun k h=>(hg.cell k).trans (KY _ _ h);have hib:(i:Int)<512:=(by have:=Hlt.out;have:=HTm.out;omega);have hjn:¬(j:Int)<((spl N.cl).length:Int):=(by omega);have HBs:=hid hBs;have HJ:=hid hjd;have VR:=hid hrow;have HRd:=hid hrd;have ad2:=hid hLt;have HTR:=hid hTR;have ad3:=hid hTm;have abV:=hid EN;have HM5:=hid hM;have hno:=hBs.no;have hdb:=hBs.db;have hlz:=hBs.low.size;have abW:=hid hrl;clear abU hjd hta hrow hrd hBs hLt hTR hTm EN hM hRw VQ hj hrl hg hRB VP hgo;gi_wp2_with (first
      | (gi_at_builtin;refine JX Wj w.heap.size nv' next rw' rfl _ _ rfl rfl hno g 256 256 abW.out.symm rfl hcr hnl (by rw[abW.out];decide) hlz ?_;intro v' W5 h6 h7 h8;have hx5:Bx W5 D 27 #[nv',rv']:=(h7.block D hdb.lt (fun e=>(by obtain⟨cs,hc⟩:=bU hno D e.symm;rw[show Wj.heap[D]?=_ from hdb]at hc;cases hc))).trans hdb;obtain⟨lv,cv,rfl⟩:=aU h6)
      | ((with_reducible refine ug ?_);refine AX.fJ (o:=0) (v:=.slice lv (next.length+rw'.length) cv) rfl rfl rfl abw hx5 (show 0<2 by decide) ?_;rintro W6 g3 g4 g5))
     have hl6:Below 0 W5 W6:=AX.ah (af0 _) (.inl (afF.1 g3).1) g4 g5;obtain⟨hB6,hd6⟩:=HBs.out.push false (l:=rw') h6 h7 h8 g3 g4 hl6;have VT:Bs w W6 x0 x1 x2 U (U+1) D (r+1) r ga (spl N.cl) most ((Value.slice lv (next.length+rw'.length) cv).ownBlock.toList++nC) sv (.slice lv (next.length+rw'.length) cv) rv' vals T1 (next++rw') (rule++[rf]):=hB6;have hOI:OI w W6 N x0 x1 x2 U D r ga most (i+1) ds2:=by
      have hlt:=Hlt.out;have e1:next++rw'=dB (eX (spl N.cl)) (tss++[ts]):=(by rw[H7,<-HN1.out,HRd.out])
      have e2:rule++[rf]=(T1.take (i+1)).map (lX N.ru):=by
       rw[HTR.out,List.take_append_of_le_length (by omega),agy hlt,agt,<-HR1.out,HRF.out,HSi.out,afG,afE hlt];rfl
      rw[e1,e2]at VT;refine⟨_,_,_,_,_,T1,tss++[ts],VT,HM5.out.dk hd6,HBL.out.next hlt HTm.out (by rw[<-HSi.out];exact VR.out),by rw[afP,HTL.out];rfl,by rw[HTR.out,afP];omega,ad3.out,abV.out,fun k hk=>?_⟩;rcases af2.1 hk with hk|hk
      ·exact (VT.no.lt k (agz.1 hk)).2
      ·have h1:=ad2.out k hk
       have h2:=hl6.size;have h3:=h7.size;omega
     have hlt:=Hlt.out;have afm:=HTm.out;clear hB6 VT hd6;exact⟨abr.out _ _ ⟨i+1,ds2,rfl,hOI⟩,by simp[RowKit.intOf];omega⟩
  ·obtain rfl:i=T.length:=by omega
   obtain⟨sa,sc,rfl⟩:=aU hBs.mkr.own;have m4:wr.cell? ⟨r+1,4,none⟩=some (.slice sa T.length sc):=hBs.mkr.box.cell 4;rw[agK]at hBs;obtain⟨na,nc,rfl⟩:=aU hBs.no;obtain⟨ra,rc,rfl⟩:=aU hBs.ro;have hfin:=hBl.done (ah2 _) hTm;obtain⟨nl,hnl⟩:=afC ((dB (eX (spl N.cl)) tss).length);obtain⟨rl,hrl⟩:=afC ((T.map (lX N.ru)).length);have t0:wr.cell? ⟨D,0,none⟩=some (.slice na nl nc):=(by rw[hnl];exact hBs.db.cell 0);have t1:wr.cell? ⟨D,1,none⟩=some (.slice ra rl rc):=(by rw[hrl];exact hBs.db.cell 1);have HNL:=hid hnl;have HRL:=hid hrl;have HB:=hid hBs;have HF:=hid hfin;have hR:=hBs.rb;have hRl:=hBs.low.trans (afI w.heap.size wr);have hwU:w.heap.size<=U+1:=(by have:=HU.out;omega);clear hfin hLt hnl hrl hBs hBl htl hiT EN hTm;gi_wp2_with (first|((with_reducible refine ug ?_);refine AX.gq (vs:=[.slice na nl nc,.slice ra rl rc]) rfl rfl abM hR rfl rfl ?_;rintro W7 g3 g4 g5))
   have g3':Bx W7 (U+1) 27 #[.slice na nl nc,.slice ra rl rc]:=g3;have hl7:Below w.heap.size wr W7:=AX.ah hwU (.inl g3'.lt) g4 g5;refine wE ds W7 (hM.keep fun D' _ hD'=>(g4 D' (fun e=>by subst e;rw[show wr.heap[_]?=_ from hR]at hD';cases hD')).trans hD') fun W8 hT8=>?_;have b8:Bx W8 (U+1) 27 _:=hT8.same _ _ g3' rfl;have e20:=b8.cell 0;have e1:=b8.cell 1;have hB:=HB.out;have row:∀(a:Option Addr)(c:Nat)(l:List Int),wr.ownsRow w.heap.size 3 1 (.slice a l.length c) l.length (l.map (Value.int .i64))->aH W8 a l:=fun a c l ho=>by
    intro hne;rcases ho.2 with ⟨_,h0⟩|⟨g,cap,cur,e,_,hh,_⟩
    ·exact absurd (agB h0) hne
    ·cases e
     have h8:W8.heap[g]?=wr.heap[g]?:=(hT8.same g _ ((g4 g (fun e=>by subst e;rw[show wr.heap[_]?=_ from hR]at hh;cases hh)).trans hh) rfl).trans hh.symm;refine⟨g,0,rfl,(afF.1 (h8.trans hh)).1,fun j hj=>?_⟩;have:=ho.cells (g:=g) rfl j (.int .i64 l[j]) (by simp[hj]);rw[addr_add]at this;have e8:W8.cell? ⟨g,0+j,none⟩=wr.cell? ⟨g,0+j,none⟩:=(by unfold World.cell?;rw[h8]);exact e8.trans this
   refine⟨.tuple #[.agg #[.slice na nl nc,.slice ra rl rc],.int .i64 0],?_,?_⟩
   ·simp[results,Tryz.f31,go_sem,e20,e1]
   ·exact⟨hB.low.trans (hl7.trans hT8.low),.inr ⟨tss,T,na,ra,nc,rc,HF.out,by rw[HNL.out,HRL.out];rfl,row _ _ _ hB.no,row _ _ _ hB.ro,by
    rcases hB.no.2 with ⟨_,h0⟩|⟨g,cap,cur,e,_,_,hc,_⟩
    ·omega
    ·cases e
     exact hc⟩⟩
end Go.Proofs.YtkjgogdkdejljaaGreatDoor.Df
