import Derived.Test.YtkjgogdkdejljaaGreatDoorDfJ7
import Derived.Test.YtkjgogdkdejljaaGreatDoorDfE8
set_option maxRecDepth 100000
set_option maxHeartbeats 40000000
namespace Go.Proofs.YtkjgogdkdejljaaGreatDoor.Df
section
open Go.Lib (hid)
open Go Go.Proofs Go.RowKit
attribute [local go_sem] Oper.semAt_some
def LG:List (Nat×Bool):=[(0,false),(2,false),(3,false),(4,false),(1,true),(5,false),(6,false)]
def Dc:List (Nat×Nat):=[(0,0),(1,0),(2,0),(3,0),(4,0),(5,0),(6,0),(7,0),(8,0),(9,0),(10,2),(11,2),(12,0),(13,2)]
def iT(next rule:List Int):List Int×List Int:=rlL next rule (kV next rule) rule.length (rule.length+1) 0 ([0],[]) []
theorem Vj{q:List Int}{n:Nat}{x:List Int×List Int}(h:LsI q n x.1 x.2)(tz:Int)(ht:tz<(n:Int)):LsI q n (rlT q n x tz).1 (rlT q n x tz).2/\(rlT q n x tz).2.length=x.2.length+1/\x.1.length<=(rlT q n x tz).1.length:=by
 have h1:=h.one;unfold rlT;simp only;obtain⟨t,htt⟩:∃t:Int,t=if tz<0 then (n:Int)else tz:=⟨_,rfl⟩;rw[<-htt]
 by_cases hc:bF q t=q.getD n 0
 ·rw[afR hc]
  refine⟨⟨h.one,h.nd,h.in_,fun t hm=>?_⟩,by simp,agq _⟩;rcases af2.1 hm with hm|hm
  ·exact h.nx t hm
  ·rw[afK.1 hm];omega
 ·rw[afO hc]
  have ht0:0<=t/\t<(n:Int):=by
   by_cases h0:tz<0
   ·rw[afR h0]at htt
    exact absurd (by rw[htt,jC]) hc
   ·rw[afO h0]at htt
    omega
  have hle:=Xq q x.1 t
  by_cases hf:ixP q x.1 t<x.1.length
  ·rw[afR hf]
   refine⟨⟨h.one,h.nd,h.in_,fun t hm=>?_⟩,by simp,agq _⟩;rcases af2.1 hm with hm|hm
   ·exact h.nx t hm
   ·rw[afK.1 hm]
    show -1<=((ixP q x.1 _:Nat):Int)/\((ixP q x.1 _:Nat):Int)<(x.1.length:Int)
    omega
  ·rw[afO hf]
   have hno:bF q t∉x.1.map (bF q):=fun hm=>by
    have:=agT (p:=(· == bF q t)) ⟨_,hm,by simp⟩;rw[agf]at this;exact hf this
   refine⟨⟨by simp,?_,fun s hs=>?_,fun t hm=>?_⟩,by simp,by simp⟩
   ·simp only
    rw[agt,aij,ahD];exact⟨h.nd,by simp,fun a ha b hb e=>hno (by rw[afK.1 hb]at e;rw[<-e];exact ha)⟩
   ·rcases af2.1 hs with hs|hs
    ·exact h.in_ s hs
    ·rw[afK.1 hs];exact ht0
   ·simp only
    rw[afP,ags];rcases af2.1 hm with hm|hm
    ·have:=h.nx t hm
     omega
    ·rw[afK.1 hm];omega
theorem GU{q:List Int}{n:Nat}: ∀(l:List Int) {x:List Int×List Int},LsI q n x.1 x.2->(∀t∈l,t<(n:Int))->LsI q n (l.foldl (rlT q n) x).1 (l.foldl (rlT q n) x).2/\(l.foldl (rlT q n) x).2.length=x.2.length+l.length/\x.1.length<=(l.foldl (rlT q n) x).1.length
 | [],x,h,_=>⟨h,rfl,agq _⟩
 | t::l,x,h,hl=>by
  obtain⟨h1,h2,h3⟩:=Vj h t (hl t (afS ..));obtain⟨h4,h5,h6⟩:=GU l h1 fun t ht=>hl t (afV _ ht);rw[agw];exact⟨h4,by rw[h5,h2,agl];omega,agb h3 h6⟩
theorem Rh{q:List Int}{n:Nat}: ∀(l:List Int)(x:List Int×List Int),∃e,(l.foldl (rlT q n) x).1=x.1++e
 | [],x=>⟨[],by simp⟩
 | t::l,x=>by
  obtain⟨e2,h2⟩:=Rh l (rlT q n x t);have h1:∃e,(rlT q n x t).1=x.1++e:=by
   unfold rlT;simp only;generalize (if t<0 then (n:Int)else t)=u
   by_cases h1:bF q u=q.getD n 0
   ·rw[afR h1];exact⟨[],by simp⟩
   ·rw[afO h1]
    by_cases h2:ixP q x.1 u<x.1.length
    ·rw[afR h2];exact⟨[],by simp⟩
    ·rw[afO h2];exact⟨_,rfl⟩
  obtain⟨e1,h1⟩:=h1;exact⟨e1++e2,by rw[agw,h2,h1,agi]⟩
theorem Vk{W:World}{base g c:Nat}{l:List Int}{m:Nat}(h:bG W base (.slice (some ⟨g,0,none⟩) m c) l){j:Nat}(hj:j<l.length):W.cell? ⟨g,j,none⟩=some (.int .i64 (l.getD j 0)):=by
 obtain⟨g',c',e,hc⟩:=sS h (by omega)
 cases e
 exact hc j hj
theorem BF{ops:Array Oper}{rest:List Oper}{a:Act}{w:World}{Q:Exit->Act->World->Prop}{ty:TypeId}{pos:String}{after:Array Edge}{m kx v:Operand}{r:Nat}{T:List Int}{k:Int}(hm:a.eval m=.map (some r))(hk:a.eval kx=.int .i64 k)(hv:a.eval v=.int .i64 T.length)(hb:w.heap[r]?=some (.map (dJ 0 T).toArray T.length))(hn:T.Nodup)(hno:¬fx T k<T.length)
  (h:∀W',W'.heap[r]?=some (.map (dJ 0 (T++[k])).toArray (T++[k]).length)->AX.But r w W'->wpList Tryz.prog ops Q rest a W'):wpList Tryz.prog ops Q ({dst:=none,op:=.insert 100 m kx v,type:=ty,pos:=pos,after:=after,guard:=none}::rest) a w:=by
 obtain⟨W',hr,h1,h2⟩:=Qh hb hn hno;exact wpList_plain rfl fun K hK=>kU hm hk hv hr (hK _ _ (h _ h1 h2))
theorem YM{ops:Array Oper}{rest:List Oper}{a:Act}{w:World}{Q:Exit->Act->World->Prop}{dst:Option Tmp}{ty:TypeId}{pos:String}{after:Array Edge}{m kx v:Operand}(h:wpList Tryz.prog ops Q ({dst:=dst,op:=.insert 100 m kx v,type:=ty,pos:=pos,after:=after,guard:=none}::rest) a w):wpList Tryz.prog ops Q ({dst:=dst,op:=.insert 100 m kx v,type:=ty,pos:=pos,after:=after,guard:=none}::rest) a w:=h
def Lp(next rule:List Int)(w:World)(e:Ending)(w':World):Prop:=∃an ar cn cr,e=.returned (.tuple #[.agg #[.slice an (iT next rule).1.length cn,.slice ar (iT next rule).2.length cr],.int .i64 0])/\aH w' an (iT next rule).1/\aH w' ar (iT next rule).2/\Below w.heap.size w w'
theorem JF{next rule:List Int}{an ar:Option Addr}{w:World}(cn cr:Nat)(h:oL w next rule an ar):
  Calls Tryz.prog 21 #[.agg #[.slice an next.length cn,.slice ar rule.length cr]] w (Lp next rule w):=by
 obtain⟨n,hn⟩:=afC rule.length;obtain⟨BX,hBX⟩:=afC w.heap.size;obtain⟨W0,hW0⟩:=afC ((w.alloc (.cells #[.slice an next.length cn,.slice ar rule.length cr] 27)).alloc (.cells #[.slice none 0 0,.slice none 0 0] 27));have hb0:Below w.heap.size w W0:=by rw[hW0];exact ((afI w.heap.size w).alloc afD _).alloc (by simp) _
 have xb:Bx W0 BX 27 #[.slice an next.length cn,.slice ar rule.length cr]:=by rw[hW0,hBX];exact (Bx.new w 27 _).alloc _
 have xr:Bx W0 (BX+1) 27 #[.slice none 0 0,.slice none 0 0]:=by
  rw[hW0,show BX+1=(w.alloc (.cells #[.slice an next.length cn,.slice ar rule.length cr] 27)).heap.size by rw[hBX];simp];exact Bx.new _ 27 _
 have hT:=h.below hb0 afD;have hch:=LC cn cr hT;have hpt:=fun(W:World)(hb:Below W0.heap.size W0 W)=>N9 cn cr (hT.below hb afD);have hto:=fun(W:World)(hb:Below W0.heap.size W0 W)(i c:Nat)(hi:i<=rule.length)(hc:c<256)=>Q8 cn cr (hT.below hb afD) i c hi hc;have hnb:=h.T.nb;have Vl:=h.T.len;have h1n:=h.T.one;have Ri:=h.m;have hRw:∀k,k<rule.length->∃b off,ar=some ⟨b,off,none⟩/\b<W0.heap.size/\W0.cell? ⟨b,off+k,none⟩=some (.int .i64 (rule.getD k 0)):=fun k hk=>hT.rul hk;rw[<-hn]at xb hch hpt hto hW0 hnb Vl h1n Ri hRw⊢;obtain⟨nl,hnl⟩:=afC next.length
 rw[<-hnl]at xb hch hpt hto hW0 Vl⊢;have y0:W0.cell? ⟨BX,0,none⟩=some (.slice an nl cn):=xb.cell 0;have y1:W0.cell? ⟨BX,1,none⟩=some (.slice ar n cr):=xb.cell 1;obtain⟨P,hP⟩:=afC (kV next rule)
 unfold JI at hpt;rw[<-hP,<-hn]at hpt;have hPl:P.length=n+1:=by rw[hP,(wX h.T).len,hn]
 have HN:=hid hn;have HNL:=hid hnl;have HP:=hid hP;have HB0:=hid hb0;have HXB:=hid xb;have HXR:=hid xr;have HBX:=hid hBX;have HN2:=hid Vl;have HNB:=hid hnb;have HTO:=hid hto;have HRW:=hid hRw;have HPL:=hid hPl;have HT:=hid h.T;clear hn hnl hb0 xb xr hP Vl hnb hto hRw hT h hPl;go_enter Tryz.func21,Tryz.ntmps21
 go_upto_region 1 with fail
 rw[<-hW0,<-hBX];clear hW0 hBX;go_upto_region 4 with (go_at_call 49;((with_reducible refine hch.mono ?_);rintro e W1 ⟨rfl,hb1⟩;have y0:=(hb1.cell (p:=⟨BX,0,none⟩) HXB.out.lt).trans y0;have y1:=(hb1.cell (p:=⟨BX,1,none⟩) HXB.out.lt).trans y1))
 have aa3:BX<W1.heap.size:=afN HXB.out.lt hb1.size;haveI:Inhabited (AX.BW W1):=⟨⟨W1,afI _ _⟩⟩;have m0:=AX.aA y0 aa3;have m1:=AX.aA y1 aa3;have hWd:Below W1.heap.size W1 W1.drew:=(afI _ W1).drew;have Qj:=hpt W1.drew (hb1.trans (hWd.mono hb1.size));refine AX.gJ (C:=fun W=>∃p:AX.BW W1,W=p.W) LG _ (by kernel_rfl) (by kernel_rfl) rfl (by kernel_rfl) (by kernel_rfl) (by intro c a d v w h;cases d<;>exact h) ⟨⟨W1.drew,hWd⟩,rfl⟩ ?_;unfold LG
 repeat (refine AX.dD _ (by rfl) ?_;go_big_quiet_step (fail);refine afQ ?_)
 refine AX.pY Qj (by rfl) (by rfl) (by rfl) Tryz.func50 (by kernel_rfl) (by rfl) (by simp only[agh,agd,agm];rfl) ?_;rintro e W2 ⟨PB,rfl,hpb,Jt,hb2⟩;have Bv:Below W1.heap.size W1 W2:=hWd.trans (hb2.mono hWd.size);refine⟨_,rfl,⟨⟨W2,Bv⟩,rfl⟩,?_⟩;simp only[Act.put,afH,afL,afM]
 repeat (refine AX.dD _ (by rfl) ?_;go_big_quiet_step (fail);refine afQ ?_)
 unfold AX.fP;have JH:Below W0.heap.size W0 W2:=hb1.trans (Bv.mono hb1.size);obtain⟨p0,hp0⟩:=afC (P.getD 0 0);obtain⟨pn,hpn⟩:=afC (P.getD n 0);have c0:W2.cell? ⟨PB,0,none⟩=some (.int .i64 p0):=by rw[hp0];exact dO hpb 0 (by have:=HPL.out;omega)
 have cN:W2.cell? ⟨PB,n,none⟩=some (.int .i64 pn):=by rw[hpn];exact dO hpb n (by have:=HPL.out;omega)
 have n0:(0:Int)<=(n:Int):=by omega
 have n1:(n:Int)<(n:Int)+1:=by omega
 have HPB:=hid hpb;have HP0:=hid hp0;have HPN:=hid hpn;have Ez:=hid JH;clear m0 m1 y0 y1 hpt Qj hch hb1 hb2 Bv hWd hpb Jt hp0 hpn JH;go_upto_region 6 with fail
 clear cN n0 n1;have hbs:=Bx.new W2 3 #[.int .i64 0];have hb3:=(afI W2.heap.size W2).alloc afD (.cells #[.int .i64 0] 3);have c0:=(hb3.cell (p:=⟨PB,0,none⟩) HPB.out.lt).trans c0;obtain⟨SB,hSB⟩:=afC W2.heap.size;obtain⟨W3,hW3⟩:=afC (W2.alloc (.cells #[.int .i64 0] 3));rw[<-hW3]at hb3 hbs c0;rw[<-hSB]at hbs;go_upto_region 7 with fail
 rw[<-hW3,<-hSB];clear hW3;have hmm:=fun W=>run_makeMap (P:=Tryz.prog) (w:=W) 100;have hb4:=(afI W3.heap.size W3).alloc afD (.map #[] 0);have JJ:=hbs.below hb4 hbs.lt;have hm4:(W3.alloc (.map #[] 0)).heap[W3.heap.size]?=some (.map (dJ 0 []).toArray ([]:List Int).length):=World.alloc_heap_new W3 _;have aa4:PB<W3.heap.size:=afN HPB.out.lt hb3.size;have c0:=(hb4.cell (p:=⟨PB,0,none⟩) aa4).trans c0;have Ei:([]:List Int).Nodup:=aix;have sW:¬fx [] p0<([]:List Int).length:=by simp
 go_upto_region 8 with ((with_reducible refine YM ?_);refine BF (T:=[]) rfl rfl rfl hm4 Ei sW ?_;rintro W5 hm5 hb5)
 have hSM:SB<W3.heap.size:=hbs.lt;have hxs:Bx W5 SB 3 (ci [0]):=(hb5.same SB JJ.lt (by omega)).trans JJ;have hlo:Below W2.heap.size W2 W5:=(hb3.trans (hb4.mono hb3.size)).trans ⟨hb5.low.os,hb5.low.tape,hb5.low.output,hb5.low.size,fun j hj=>hb5.same j (by have:=hb3.size;have:=hb4.size;omega) (by have:=hb3.size;omega)⟩;obtain⟨M,hM⟩:=afC W3.heap.size;rw[<-hM]at hm5⊢;have hmb:W2.heap.size<=M:=by rw[hM];exact hb3.size
 have hsb:W2.heap.size<=SB:=afT hSB.symm;have hne:SB≠M:=by omega
 rw[ahq]at hm5;clear hb3 hbs hb4 JJ hm4 c0 hb5 hM hSB hSM aa4 hmm;have hb6:=(afI W5.heap.size W5).alloc afD (.cells #[.slice none 0 0,.slice none 0 0] 27);have hox:=Bx.new W5 27 #[.slice none 0 0,.slice none 0 0];have hnil:∀W,bG W W2.heap.size (.slice none 0 0) []:=fun W=>⟨rfl,.inl ⟨rfl,rfl⟩⟩;have hlw:Lw W2 W5.heap.size M ([0].map (bF P)) (.slice (some ⟨SB,0,none⟩) 1 1) (.slice none 0 0) (.slice none 0 0) [0] [] [] (W5.alloc (.cells #[.slice none 0 0,.slice none 0 0] 27)):=by
  refine⟨hox,?_,⟨Gj (hxs.below hb6 hxs.lt) hsb,hnil _,hnil _,fun g _ h=>(by cases h),fun g _ h=>(by cases h),fun g h=>(by cases h)⟩,hlo.trans (hb6.mono hlo.size),hlo.size,hmb⟩;rw[hb6.block M (afF.1 hm5).1,hm5,HP0.out];rfl
 obtain⟨OX,hOX⟩:=afC W5.heap.size;obtain⟨W6,hW6⟩:=afC (W5.alloc (.cells #[.slice none 0 0,.slice none 0 0] 27));rw[<-hOX,<-hW6]at hlw;have HLw:=hid hlw;clear hlw hb6 hnil hxs hm5 hlo;go_upto_region 10 with ((with_reducible refine bJ ?_);refine AX.aj (vs:=[.slice none 0 0,.slice none 0 0]) rfl rfl Jr hox rfl rfl ?_;rintro W7 g3 g4 g5)
 rw[<-hOX];rw[<-hOX,<-hW6]at g4;rw[<-hOX]at g3;rw[<-hW6]at g5;have hL7:Lw W2 OX M ([0].map (bF P)) (.slice (some ⟨SB,0,none⟩) 1 1) (.slice none 0 0) (.slice none 0 0) [0] [] [] W7:=⟨g3,(g4 M HLw.out.ne).trans HLw.out.mp,HLw.out.rw.aW (aP HLw.out.ox g4) (by decide),HLw.out.lo.trans (AX.ah HLw.out.og (.inl (Bx.lt g3)) g4 g5),HLw.out.og,HLw.out.mg⟩;have hI0:LsI P n [0] []:=⟨by simp,by simp,fun s hs=>by rw[afK.1 hs];omega,by simp⟩;have hat:∃(i:Nat)(x:List Int×List Int)(ru:List Int)(sv nv rv:Value),(Value.slice (some ⟨SB,0,none⟩) 1 1)=sv/\(Value.int .i64 0)=.int .i64 i/\i<=x.1.length/\Lw W2 OX M (x.1.map (bF P)) sv nv rv x.1 x.2 ru W7/\LsI P n x.1 x.2/\x.2.length=256*i/\ru.length=i/\Hid (∃F,n<F+i/\rlL next rule P n F i x ru=iT next rule):=
  ⟨0,([0],[]),[],_,_,_,rfl,rfl,af0 _,hL7,hI0,rfl,rfl,hid ⟨n+1,by omega,by rw[HN.out,HP.out];rfl⟩⟩
 have HAT:=hid hat;clear hI0 hat hL7 g3 g4 g5 hOX hW6 HLw hox Ei sW hsb hne hmb;go_loopw [8,11] (fun v8 v11 wr=>∃(i:Nat)(x:List Int×List Int)(ru:List Int)(sv nv rv:Value),v8=sv/\v11=.int .i64 i/\i<=x.1.length/\Lw W2 OX M (x.1.map (bF P)) sv nv rv x.1 x.2 ru wr/\LsI P n x.1 x.2/\x.2.length=256*i/\ru.length=i/\Hid (∃F,n<F+i/\rlL next rule P n F i x ru=iT next rule)) (fun _ v11 _=>n+1-(RowKit.intOf v11).toNat)
 case atStart=>exact HAT.out
 case round =>
  clear HAT;obtain⟨i,x,ru,sv,nv,rv,rfl,rfl,hi,hlw,hI,hxl,hrl,hF⟩:=hrel;obtain⟨sa,sc,rfl⟩:=aU hlw.rw.s;have hlen:=hI.len;have hi0:(0:Int)<=(i:Int):=by omega
  have HLW:=hid hlw;have HI:=hid hI;clear hlw hI;obtain⟨q,hq⟩:=afC x.1.length;rw[<-hq]at hi hlen⊢;have HQ:=hid hq;clear hq
  by_cases hlt:i<q
  ·have hi1:(i:Int)<(q:Int):=by omega
   have aaG:q<=512:=(by omega);have hqx:i<x.1.length:=(by have:=HQ.out;omega);obtain⟨s,hs⟩:=afC (x.1.getD i 0);have hsr:=HI.out.in_ s (by rw[hs];exact gmem hqx);obtain⟨hs0,hs1⟩:=hsr;obtain⟨k,rfl⟩:∃k:Nat,s=(k:Int):=⟨s.toNat,by omega⟩;have hkn:k<n:=(by omega);obtain⟨g,sc2,esv,hsc⟩:=sS HLW.out.rw.s (by omega);rw[<-HQ.out]at esv
   cases esv
   have hsi:=hsc i hqx;rw[<-hs]at hsi;have aaH:=Ez.out.size;have hbx2:Bx W2 BX 27 #[.slice an nl cn,.slice ar n cr]:=HXB.out.below Ez.out HXB.out.lt;obtain⟨rb,ro,rfl,hrb,hrc⟩:=HRW.out k hkn;have ady:rb<W2.heap.size:=afN hrb aaH;have hrk:=(Ez.out.cell (p:=⟨rb,ro+k,none⟩) hrb).trans hrc;have Gp:BX<W2.heap.size:=hbx2.lt;obtain⟨ra,hra⟩:=afC (rule.getD k 0);rw[<-hra]at hrk;have HS:=hid hs;have HRA:=hid hra;have Ju:=hid hbx2;clear hsc hs hra hbx2 hrc;go_upto_region 12 with fail
   have hbd:=(afI wr.heap.size wr).drew;obtain⟨Wd,hWd⟩:=afC wr.drew;have hLd:=HLW.out.low hbd;rw[<-hWd]at hLd;obtain⟨C,hCi,hCo⟩:∃C:World->Prop,(∀W,C W->Bx W OX 27 #[nv,rv]/\Bx W BX 27 #[.slice an nl cn,.slice (some ⟨rb,ro,none⟩) n cr]/\W.cell? ⟨rb,ro+k,none⟩=some (.int .i64 ra)/\W.cell? ⟨g,i,none⟩=some (.int .i64 k))/\∀W,Bx W OX 27 #[nv,rv]->Bx W BX 27 #[.slice an nl cn,.slice (some ⟨rb,ro,none⟩) n cr]->W.cell? ⟨rb,ro+k,none⟩=some (.int .i64 ra)->W.cell? ⟨g,i,none⟩=some (.int .i64 k)->C W:=⟨_,fun _ h=>h,fun _ h1 h2 h3 h4=>⟨h1,h2,h3,h4⟩⟩;have hCL:∀W,Bx W OX 27 #[nv,rv]->Below W2.heap.size W2 W->bG W W2.heap.size (.slice (some ⟨g,0,none⟩) x.1.length sc) x.1->C W:=fun W h1 h2 h3=>hCo W h1 (Ju.out.below h2 Gp) ((h2.cell (p:=⟨rb,ro+k,none⟩) ady).trans hrk) (by rw[Vk h3 hqx,<-HS.out]);have hsd:=hLd.rw.s;have hC0:C wr.drew:=hWd▸ hCL Wd hLd.ox hLd.lo hsd;haveI:Inhabited (AX.CW C):=⟨⟨_,hC0⟩⟩;haveI:Inhabited (AX.CW fun _:World=>True):=⟨⟨w,trivial⟩⟩;have a1:∀p:AX.CW C,p.W.cell? ⟨OX,1,none⟩=some rv:=fun p=>(hCi _ p.h).1.cell 1;have a2:∀p:AX.CW C,p.W.cell? ⟨BX,1,none⟩=some (.slice (some ⟨rb,ro,none⟩) n cr):=fun p=>(hCi _ p.h).2.1.cell 1;have a3:∀p:AX.CW C,p.W.cell? ⟨rb,ro+k,none⟩=some (.int .i64 ra):=fun p=>(hCi _ p.h).2.2.1;have a4:∀p:AX.CW C,p.W.cell? ⟨g,i,none⟩=some (.int .i64 k):=fun p=>(hCi _ p.h).2.2.2;have hk0:(0:Int)<=(k:Int):=(by omega);have adg:(k:Int)<(n:Int):=(by omega);refine AX.dF (C:=fun W=>∃p:AX.CW C,W=p.W) (CT:=fun W=>∃p:AX.CW fun _=>True,W=p.W) 13 Dc _ (by kernel_rfl) (by kernel_rfl) rfl (by kernel_rfl) (by decide) (by kernel_rfl) (by kernel_rfl) (by intro c a d v w h;cases d<;>exact h) ⟨⟨⟨_,trivial⟩,rfl⟩,⟨⟨_,hC0⟩,rfl⟩⟩ ?_;unfold Dc;rw[<-hWd];have HLd:=hid hLd;have HCL:=hid hCL;clear hWd hbd hLd hC0 hCo hCi hCL hsd
   repeat (refine AX.bQ _ (by rfl) ?_;go_big_quiet_step (fail);refine afQ ?_)
   refine AX.aV _ (by rfl) (by rfl) ?_;unfold Oper.wp;go_simp
   have hb3:=(afI Wd.heap.size Wd).alloc afD (.cells #[.int .i64 ra] 3);have hL3:=HLd.out.low hb3;have nZ:=Bx.new Wd 3 #[.int .i64 ra];obtain⟨B3,hB3⟩:=afC Wd.heap.size;obtain⟨W3,hW3⟩:=afC (Wd.alloc (.cells #[.int .i64 ra] 3));rw[<-hW3]at hL3 nZ⊢;rw[<-hB3]at nZ⊢;have hs3:=hL3.rw.s;refine⟨⟨⟨⟨W3,trivial⟩,rfl⟩,fun _=>⟨⟨W3,HCL.out _ hL3.ox hL3.lo hs3⟩,rfl⟩⟩,?_⟩;have Yk:ru.length<=1000000:=(by omega);have hlo3:=hL3.lo.size;have hown:=hL3.rw.r;have HL3:=hid hL3;clear hb3 hB3 hW3 hL3 hs3;refine AX.aV _ (by rfl) (by rfl) ?_;refine qR W2.heap.size rv ru ra _ _ rfl rfl hown B3 1 rfl nZ Yk hlo3 ?_;intro rv' W4 ho hg hor;have ou:Bx W4 OX 27 #[nv,rv]:=(HL3.out.gro hown hg).1;have hs4:bG W4 W2.heap.size (.slice (some ⟨g,0,none⟩) x.1.length sc) x.1:=mX HL3.out.rw.s hg HL3.out.rw.sr;have hC4:=HCL.out W4 ou (HL3.out.gro hown hg).2.2 hs4;have hn1':=fO ho;refine⟨⟨⟨⟨W4,trivial⟩,rfl⟩,fun _=>⟨⟨W4,hC4⟩,rfl⟩⟩,?_⟩;have HO:=hid ho;have HG:=hid hg;have HOR:=hid hor;clear ho hg hor hown nZ hC4 hs4;simp only[show Nat.beq 11 13=false from rfl,show Nat.beq 10 13=false from rfl,ahT,Act.put,afH,afL,afM];refine AX.bQ _ (by rfl) ?_;go_big_quiet_step (fail)
   refine afQ ?_;refine AX.aV _ (by rfl) (by rfl) ?_;refine AX.aI (o:=1) (v:=rv') rfl rfl hn1' oJ ou (show 1<2 by decide) ?_;rintro W5 g3 g4 g5;have x5:Bx W5 OX 27 #[nv,rv']:=g3;have hL5:=HL3.out.aaF HO.out HG.out HOR.out x5 g4 g5;refine⟨⟨⟨⟨W5,trivial⟩,rfl⟩,fun h=>by cases h⟩,?_⟩;have HL5:=hid hL5;clear g3 g4 g5 x5 hL5 ou hn1' a1 a2 a3 a4 HL3 HO HG HOR hrk hsi;unfold AX.bC;go_upto_region 14 with fail
   go_loopw [8,12] (fun v8 v12 wq=>∃(b:Nat)(y:List Int×List Int)(sv' nv':Value),v8=sv'/\v12=.int .i64 b/\b<=256/\Lw W2 OX M (y.1.map (bF P)) sv' nv' rv' y.1 y.2 (ru++[ra]) wq/\Hid (y=((rowOf next k).take b).foldl (rlT P n) x)) (fun _ v12 _=>256-(RowKit.intOf v12).toNat)
   case atStart=>exact⟨0,x,_,nv,rfl,rfl,af0 _,by rw[HQ.out];exact HL5.out,hid rfl⟩
   case round =>
    obtain⟨b,y,sv',nv',rfl,rfl,hb,hlq,hy⟩:=hrel;have aax:(0:Int)<=(b:Int):=(by omega);have hrow:(rowOf next k).length=256:=dX HT.out.len (by have:=HN.out;omega);have htn:∀c,c<256->(rowOf next k)[c]?=some (next.getD (256*k+c) 0) /\ -1<=next.getD (256*k+c) 0/\next.getD (256*k+c) 0<(n:Int):=fun c hc=>by
     have h1:=jS HT.out (i:=k) (by have:=HN.out;omega) hc;have h2:nxt next (k:Int) c=next.getD (256*k+c) 0:=(by unfold nxt;rw[afO (by omega),afY])
     rw[h2]at h1;exact⟨h1,HNB.out _ (by omega)⟩
    obtain⟨hIy,hyl,hyx⟩:=GU ((rowOf next k).take b) HI.out (fun t ht=>by
     obtain⟨c,hc,rfl⟩:=ag5 (List.mem_of_mem_take ht);have h1:=htn c (by omega);rw[afE hc]at h1;rw[agc h1.1];exact h1.2.2)
    obtain⟨ye,hye⟩:=Rh (q:=P) (n:=n) ((rowOf next k).take b) x;rw[<-hy.out,agZ,hrow,Nat.min_eq_left hb,hxl]at hyl;rw[<-hy.out]at hIy hyx hye;have hyn:=hIy.len;have hy1:=hIy.one
    by_cases hbl:b<256
    ·have P9:(b:Int)<256:=by omega
     obtain⟨hrb,ht1,ht2⟩:=htn b hbl;have hrt:gy next n k b=if next.getD (256*k+b) 0<0 then (n:Int)else next.getD (256*k+b) 0:=(by unfold gy;rw[afO (by omega)])
     generalize next.getD (256*k+b) 0=t at hrb ht1 ht2 hrt
     obtain⟨tn,Vm⟩:∃tn:Nat,gy next n k b=(tn:Int):=⟨(gy next n k b).toNat,by rw[hrt];split<;>omega⟩
     have ae5:tn<=n:=(by rw[Vm]at hrt;split at hrt<;>omega);rw[Vm]at hrt;obtain⟨p,hp⟩:=afC (P.getD tn 0);have hpt:bF P (tn:Int)=p:=(by rw[jC,hp]);have hst:Hid (rlT P n y t=if p=pn then (y.1,y.2++[-1])else (if ixP P y.1 (tn:Int)<y.1.length then y.1 else y.1++[(tn:Int)],y.2++[(ixP P y.1 (tn:Int):Int)])):=hid (by
      unfold rlT;simp only;rw[<-hrt,hpt,<-HPN.out])
     have hnext:Hid (rlT P n y t=((rowOf next k).take (b+1)).foldl (rlT P n) x):=hid (by
      have hbr:b<(rowOf next k).length:=(by omega);have e:(rowOf next k)[b]=t:=(by rw[afE hbr]at hrb;exact agc hrb);rw[agy hbr,agI,<-hy.out,e];rfl)
     obtain⟨sa',sc',rfl⟩:=aU hlq.rw.s;obtain⟨g',sc3,esv,hsc⟩:=sS hlq.rw.s (by omega)
     cases esv
     have hsi:=hsc i (by omega);have hyi:y.1.getD i 0=(k:Int):=(by rw[hye,eH hqx,<-HS.out]);rw[hyi]at hsi;have hii:(i:Int)<(y.1.length:Int):=(by omega);have hgl:=block_lt_of_cell hsi;have hto:=fun p:AX.BW wr=>HTO.out p.W (Ez.out.trans ((hlq.lo.trans (p.h.mono hlq.lo.size)).mono Ez.out.size)) k b (by omega) hbl;simp only[Vm]at hto;have Rj:=Ju.out.below hlq.lo Gp;haveI:Inhabited (AX.BW wr):=⟨⟨wr,afI _ _⟩⟩;have m0:=AX.aA (Rj.cell 0:wr.cell? ⟨BX,0,none⟩=some (.slice an nl cn)) Rj.lt;have m1:=AX.aA (Rj.cell 1:wr.cell? ⟨BX,1,none⟩=some (.slice (some ⟨rb,ro,none⟩) n cr)) Rj.lt;have m2:=AX.aA hsi hgl;have Gq:y.2.length<=1000000:=(by omega);have HLQ:=hid hlq;have HY:=hid hIy;have HP2:=hid hp;have HPT:=hid hpt;clear hrow htn hrb ht1 ht2 hrt Vm hyl hyx hye hsc hsi hyi hgl Rj hlq hIy hp hpt hy;go_upto_region 16 with fail
     refine AX.aF (by kernel_rfl) (by kernel_rfl) ?_
     repeat (go_big_quiet_step (first|(go_at_call 51;with_reducible exact AX.dw (hto _))))
     refine afQ ?_;rintro _ ⟨qq,rfl⟩;obtain⟨W7,hb7⟩:=qq;simp only;have hlq:=HLQ.out.low hb7;have YN:=HPB.out.below hlq.lo HPB.out.lt;have hpc:W7.cell? ⟨PB,tn,none⟩=some (.int .i64 p):=(by rw[HP2.out];exact dO YN tn (by have:=HPL.out;omega));have adh:(0:Int)<=(tn:Int):=(by omega);have ae6:(tn:Int)<(n:Int)+1:=(by omega);have b00:W7.cell? ⟨OX,0,none⟩=some nv':=hlq.ox.cell 0;have HQ2:=hid hlq;have hb1:W2.heap.size<=W7.heap.size:=hlq.lo.size;have ae7:PB<W7.heap.size:=YN.lt;clear m0 m1 m2 hto hlq HLQ hb7 YN hii
     by_cases hpp:p=pn
     ·have HST:Hid (rlT P n y t=(y.1,y.2++[-1])):=hid (by rw[hst.out,afR hpp])
      have adz:(p == pn)=true:=ahe.2 hpp;have hx3:=Bx.new W7 3 #[.int .i64 (-1)];have hL3:=HQ2.out.low ((afI W7.heap.size W7).alloc afD (.cells #[.int .i64 (-1)] 3));have hs3:=hL3.lo.size;have hown:=hL3.rw.n;have HL3:=hid hL3;clear hL3 hst;go_wp2_with (first
       | ((with_reducible refine jH ?_);refine bT W2.heap.size nv' y.2 (-1) rfl hown W7.heap.size 1 rfl hx3 Gq hs3 ?_;rintro nv2 W8 ho hg hor;have oK:=(HL3.out.gro hown hg).1;have hone:=fO ho)
       | ((with_reducible refine bJ ?_);refine AX.aB (o:=0) (v:=nv2) rfl rfl hone oJ oK (show 0<2 by decide) ?_;rintro W9 g3 g4 g5))
      have x9:Bx W9 OX 27 #[nv2,rv']:=g3;have hL9:=HL3.out.Js ho hg hor x9 g4 g5;exact⟨⟨b+1,(y.1,y.2++[-1]),_,nv2,rfl,by simp,by omega,hL9,hid (HST.out.symm.trans hnext.out)⟩,by simp[RowKit.intOf];omega⟩
     ·have adz:(p == pn)=false:=agn.2 hpp
      have hlk:=Xj (k:=p) HQ2.out.mp HY.out.nd;have hix:ixP P y.1 (tn:Int)=fx (y.1.map (bF P)) p:=(by unfold ixP fx;rw[HPT.out]);have hTl:(y.1.map (bF P)).length=y.1.length:=agf _;obtain⟨fk,hfk⟩:=afC (fx (y.1.map (bF P)) p)
      by_cases hf:fx (y.1.map (bF P)) p<(y.1.map (bF P)).length
      ·have HST:Hid (rlT P n y t=(y.1,y.2++[(fk:Int)])):=hid (by rw[hst.out,afO hpp,hix,<-hfk,afR (by omega)])
       rw[afR hf,agL hf,<-hfk]at hlk;have hx3:=Bx.new W7 3 #[.int .i64 (fk:Int)];have hL3:=HQ2.out.low ((afI W7.heap.size W7).alloc afD (.cells #[.int .i64 (fk:Int)] 3));have hs3:=hL3.lo.size;have hown:=hL3.rw.n;have HL3:=hid hL3;clear hL3 hf hfk hix hTl hst;go_wp2_with (first
        | ((with_reducible refine jH ?_);refine bT W2.heap.size nv' y.2 (fk:Int) rfl hown W7.heap.size 1 rfl hx3 Gq hs3 ?_;rintro nv2 W8 ho hg hor;have oK:=(HL3.out.gro hown hg).1;have hone:=fO ho)
        | ((with_reducible refine bJ ?_);refine AX.aB (o:=0) (v:=nv2) rfl rfl hone oJ oK (show 0<2 by decide) ?_;rintro W9 g3 g4 g5)
        | ((with_reducible refine Ef ?_);refine iP rfl rfl hlk ?_))
       have x9:Bx W9 OX 27 #[nv2,rv']:=g3;have hL9:=HL3.out.Js ho hg hor x9 g4 g5;exact⟨⟨b+1,(y.1,y.2++[(fk:Int)]),_,nv2,rfl,by simp,by omega,hL9,hid (HST.out.symm.trans hnext.out)⟩,by simp[RowKit.intOf];omega⟩
      ·have HST:Hid (rlT P n y t=(y.1++[(tn:Int)],y.2++[(y.1.length:Int)])):=hid (by
        have h2:ixP P y.1 (tn:Int)=y.1.length:=by
         have:=ahg (p:=(· == p)) (xs:=y.1.map (bF P));rw[hix];unfold fx at hf⊢;omega
        rw[hst.out,afO hpp,h2,afO (ah2 _)])
       rw[afO hf,agC hf]at hlk;have HF:=hid hf;have Yl:y.1.length<=1000000:=(by omega);have HTM:Hid ((y.1++[(tn:Int)]).map (bF P)=y.1.map (bF P)++[p]):=hid (by rw[agt,aij,HPT.out]);have hx8:=Bx.new W7 3 #[.int .i64 (tn:Int)];have Ej:=HQ2.out.low ((afI W7.heap.size W7).alloc afD (.cells #[.int .i64 (tn:Int)] 3));have hs8:=Ej.lo.size;have hownS:=Ej.rw.s;have adA:=hid Ej;have HPC:Hid (∀W,Below W2.heap.size W2 W->W.cell? ⟨PB,tn,none⟩=some (.int .i64 p)):=hid fun W hb=>by rw[HP2.out];exact dO (HPB.out.below hb HPB.out.lt) tn (by have:=HPL.out;omega)
       clear hf hfk hix hTl hst Ej;go_upto_region 24 with (first
        | ((with_reducible refine Ef ?_);refine iP rfl rfl hlk ?_)
        | ((with_reducible refine jH ?_);refine bT W2.heap.size (.slice (some ⟨g',0,none⟩) y.1.length sc') y.1 (tn:Int) rfl hownS W7.heap.size 1 rfl hx8 Yl hs8 ?_;rintro sv2 W9 ho9 hg9 Ql;have hL9:=adA.out.U1 ho9 hg9 Ql;have adB:=HPC.out W9 hL9.lo;have HL9:=hid hL9;clear hL9 ho9 hg9 Ql)
        | ((with_reducible refine Jq ?_);refine qC (T:=y.1.map (bF P)) rfl rfl (by rw[agf];rfl) HL9.out.mp HY.out.nd HF.out ?_;rintro Wa hma hba;have hLa:=HL9.out.upd hma hba;have ba0:Wa.cell? ⟨OX,0,none⟩=some nv':=hLa.ox.cell 0))
       rw[<-HTM.out]at hLa;have HLA:=hid hLa;have hx3:=Bx.new Wa 3 #[.int .i64 (y.1.length:Int)];have hL3:=HLA.out.low ((afI Wa.heap.size Wa).alloc afD (.cells #[.int .i64 (y.1.length:Int)] 3));have hs3:=hL3.lo.size;have hown:=hL3.rw.n;have HL3:=hid hL3;clear hL3 hLa hx8 hs8 hownS hma hba hlk b00 adB hpc;go_wp2_with (first
        | ((with_reducible refine jH ?_);refine bT W2.heap.size nv' y.2 (y.1.length:Int) rfl hown Wa.heap.size 1 rfl hx3 Gq hs3 ?_;rintro nv2 Wb ho hg hor;have oK:=(HL3.out.gro hown hg).1;have hone:=fO ho)
        | ((with_reducible refine bJ ?_);refine AX.aB (o:=0) (v:=nv2) rfl rfl hone oJ oK (show 0<2 by decide) ?_;rintro Wc g3 g4 g5))
       have x9:Bx Wc OX 27 #[nv2,rv']:=g3;have hLb:=HL3.out.Js ho hg hor x9 g4 g5;exact⟨⟨b+1,(y.1++[(tn:Int)],y.2++[(y.1.length:Int)]),_,nv2,rfl,by simp,by omega,hLb,hid (HST.out.symm.trans hnext.out)⟩,by simp[RowKit.intOf];omega⟩
    ·have P9:¬(b:Int)<256:=by omega
     obtain rfl:b=256:=by omega
     have hlr:(rowOf next k).foldl (rlT P n) x=y:=(by rw[hy.out,agW (by omega)]);have hrel2:∃(i2:Nat)(x2:List Int×List Int)(ru2:List Int)(sv2 nv2 rv2:Value),u8=sv2/\(Value.int .i64 ((i:Int)+1))=.int .i64 i2/\i2<=x2.1.length/\Lw W2 OX M (x2.1.map (bF P)) sv2 nv2 rv2 x2.1 x2.2 ru2 wr/\LsI P n x2.1 x2.2/\x2.2.length=256*i2/\ru2.length=i2/\Hid (∃F,n<F+i2/\rlL next rule P n F i2 x2 ru2=iT next rule):=by
      refine⟨i+1,y,ru++[ra],u8,nv',rv',rfl,by simp,?_,hlq,hIy,by omega,by rw[afP,hrl];rfl,hid ?_⟩
      ·omega
      ·obtain⟨F,h1,h2⟩:=hF.out
       obtain⟨G,rfl⟩:∃G,F=G+1:=⟨F-1,by omega⟩;unfold rlL at h2;rw[afR hqx,<-HS.out,afY,hlr,<-HRA.out]at h2;exact⟨G,by omega,h2⟩
     have Qm:=hid hrel2;clear hrel2 hlr hy hlq hIy hyl htn hrow;go_wp2_with fail
     exact⟨Qm.out,by simp[RowKit.intOf];omega⟩
  ·have hi1:¬(i:Int)<(q:Int):=by omega
   have hL:iT next rule=(x.2,ru):=by
    obtain⟨F,h1,h2⟩:=hF.out
    cases F with
    | zero=>omega
    | succ F =>
     unfold rlL at h2;rw[afO (by have:=HQ.out;omega)]at h2;exact h2.symm
   have HL:=hid hL;have b0:wr.cell? ⟨OX,0,none⟩=some nv:=HLW.out.ox.cell 0;have b1:wr.cell? ⟨OX,1,none⟩=some rv:=HLW.out.ox.cell 1;obtain⟨na,nc,en,hnc,_⟩:=iy HLW.out.rw.n;obtain⟨ra,rc,er,_,_⟩:=iy HLW.out.rw.r;have c0:nv.oneCell'=true:=(by rw[en];rfl);have c1:rv.oneCell'=true:=(by rw[er];rfl);have xA:=(HXR.out.below Ez.out HXR.out.lt).below HLW.out.lo (by have:=HXR.out.lt;have:=Ez.out.size;omega);clear hL hnc en er;go_wp2_with ((with_reducible refine bJ ?_);refine AX.aj (vs:=[nv,rv]) rfl rfl Jr xA rfl (by simp[c0,c1]) ?_;rintro W9 u3 u4 u5)
   have x9:Bx W9 (BX+1) 27 #[nv,rv]:=u3;have d0:W9.cell? ⟨BX+1,0,none⟩=some nv:=x9.cell 0;have d1:W9.cell? ⟨BX+1,1,none⟩=some rv:=x9.cell 1;have hs9:dH 27 wr W9:=aP xA u4;have hR9:=HLW.out.rw.aW hs9 (by decide);obtain⟨na,nc,en,hnc,hni⟩:=iy hR9.n;obtain⟨ra,rc,er,_,hri⟩:=iy hR9.r;have hl9:Below w.heap.size wr W9:=AX.ah (by have:=HBX.out;omega) (.inl x9.lt) u4 u5;have hlo:Below w.heap.size w W9:=(HB0.out.trans ((Ez.out.mono HB0.out.size).trans (HLW.out.lo.mono (agb HB0.out.size Ez.out.size)))).trans hl9;exact afJ (v:=.tuple #[.agg #[nv,rv],.int .i64 0]) (by simp[results,Tryz.results21,go_sem,d0,d1]) rfl ⟨na,ra,nc,rc,by rw[HL.out,<-en,<-er],by rw[HL.out];exact hni,by rw[HL.out];exact hri,hlo⟩
end
section
open Rx (Nd dL iM En cO fQ gY en)
theorem sV(r:List Nd):∀m,(fQ r m).1.length=m
 | 0=>rfl
 | m+1=>by
  show ((fQ r m).1++[_]).length=m+1
  rw[afP,sV r m];rfl
def ER(r:List Nd)(i:Nat):Bool:=(cO r.length (fQ r i).1 ((fQ r i).2.set i (Rx.zeros r.length)) i (r.getD i default)).2.e
theorem JC(r:List Nd):∀m k,k<m->((fQ r m).1.getD k default).e=ER r k
 | 0,k,h=>absurd h (agp _)
 | m+1,k,h=>by
  have hs:(fQ r (m+1)).1=(fQ r m).1++[(cO r.length (fQ r m).1 ((fQ r m).2.set m (Rx.zeros r.length)) m (r.getD m default)).2]:=rfl;rw[hs,afG]
  by_cases e:k<m
  ·rw[af6 (by rw[sV];exact e),<-afG]
   exact JC r m k e
  ·obtain rfl:k=m:=by omega
   rw[aga (by rw[sV];exact agq _),sV,aho];rfl
theorem Xn(ends:List En):∀(ks:List Int)(s:List (List Bool)×En),(ks.foldl (Rx.jA ends) s).2.e=ks.foldl (fun b k=>b && (en ends k).e) s.2.e
 | [],_=>rfl
 | k::ks,s=>by rw[agw,agw];exact Xn ends ks _
theorem Xo(ends:List En):∀(ks:List Int)(s:En),(ks.foldl (Rx.iF ends) s).e=ks.foldl (fun b k=>b || (en ends k).e) s.e
 | [],_=>rfl
 | k::ks,s=>by rw[agw,agw];exact Xo ends ks _
theorem QK{n:Int->NS->NS×Pl}{g:Int->Bool}: ∀(ks:List Int)(t:NS×Pl),(∀k∈ks,∀s,(n k s).2.e=g k)->(ks.foldl (jA n) t).2.e=ks.foldl (fun b k=>b && g k) t.2.e
 | [],_,_=>rfl
 | k::ks,t,h=>by
  rw[agw,agw,QK ks _ fun k' hk'=>h k' (afV _ hk')]
  show ks.foldl _ (t.2.e && (n k t.1).2.e)=_
  rw[h k (afS ..)]
theorem QM{n:Int->NS->NS×Pl}{g:Int->Bool}: ∀(ks:List Int)(t:NS×Pl),(∀k∈ks,∀s,(n k s).2.e=g k)->(ks.foldl (iF n) t).2.e=ks.foldl (fun b k=>b || g k) t.2.e
 | [],_,_=>rfl
 | k::ks,t,h=>by
  rw[agw,agw,QM ks _ fun k' hk'=>h k' (afV _ hk')]
  show ks.foldl _ (t.2.e || (n k t.1).2.e)=_
  rw[h k (afS ..)]
theorem zG{α: Type}{f g:Bool->α->Bool}: ∀(l:List α)(b:Bool),(∀x∈l,∀b,f b x=g b x)->l.foldl f b=l.foldl g b
 | [],_,_=>rfl
 | x::l,b,h=>by
  rw[agw,agw,h x (afS ..)];exact zG l _ fun y hy=>h y (afV _ hy)
theorem QN{r:List Nd}(ok:dL r):∀(f i:Nat),i<f->i<r.length->∀s,(aO r f (i:Int) s).2.e=ER r i
 | 0,_,h,_,_=>absurd h (agp _)
 | f+1,i,hf,hi,s=>by
  have hx:r[i]?=some (r.getD i default):=by rw[afG,afE hi,agr]
  have nd:=ok.nd i _ hx;have jl:∀k∈(r.getD i default).kids,∀s,(aO r f k s).2.e=ER r k.toNat:=fun k hk s=>by
   have:=nd.kids k hk;obtain⟨j,rfl⟩:∃j:Nat,k=(j:Int):=⟨k.toNat,by omega⟩;rw[afY];exact QN ok f j (by omega) (by omega) s
  have hen:∀k∈(r.getD i default).kids,(en (fQ r i).1 k).e=ER r k.toNat:=fun k hk=>by
   have:=nd.kids k hk;exact JC r i k.toNat (by omega)
  unfold aO ER cO;rw[afY];generalize r.getD i default=x at *;have hlow:=nd.low;have hhigh:=nd.high;have hk:=nd.k;simp only
  by_cases h1:x.k=1
  ·have h0:x.kids=[]:=by
    rw[h1]at hhigh;simp[Rx.iO]at hhigh;exact hhigh
   rw[afR h1,afO (by omega),afO (by omega),h0];simp only[aio];rw[afO (by omega)];simp[h1]
  rw[afO h1]
  by_cases h2:x.k=2
  ·rw[afR h2,afR h2]
  rw[afO h2,afO h2]
  by_cases h3:x.k=3
  ·rw[afR h3,afR h3]
   have hl:0<x.kids.length:=by
    rw[h3]at hlow;simp[Rx.mQ]at hlow;omega
   cases e:x.kids with
   | nil=>rw[e]at hl;simp at hl
   | cons k ks =>
    rw[e]at jl hen;rw[Xn]
    show (List.foldl (jA (aO r f)) (aO r f k s) ks).2.e=_
    rw[QK (g:=fun k=>ER r k.toNat) ks _ fun k' hk'=>jl k' (afV _ hk'),jl k (afS ..),agw];simp only[ahM];rw[hen k (afS ..)];exact(zG ks _ fun y hy b=>by rw[hen y (afV _ hy)]).symm
  rw[afO h3,afO h3]
  by_cases h4:x.k=4
  ·rw[afR h4]
   rw[QM (g:=fun k=>ER r k.toNat) x.kids _ jl,afO (show ¬(x.k=5\/x.k=7)by omega),Xo];simp only[h1,decide_false];exact(zG x.kids _ fun y hy b=>by rw[hen y hy]).symm
  ·rw[afO h4]
   have hl:x.kids.length=1:=by
    have h5:x.k=5\/x.k=6\/x.k=7:=(by omega);simp[Rx.mQ,h1,h2,h3,h4,h5]at hlow;simp[Rx.iO,h1,h2,h3,h4,h5]at hhigh;omega
   obtain⟨k,hk1⟩:∃k,x.kids=[k]:=List.length_eq_one_iff.1 hl;rw[hk1]at jl hen⊢;simp only[List.getD_cons_zero,agw,aio];rw[jl k (afS ..)]
   show _=if x.k=5\/x.k=7 then true else (decide (x.k=1) || (en (fQ r i).1 k).e)
   rw[hen k (afS ..)]
   by_cases h6:x.k=6
   ·simp[h6]
   ·rw[afR (by omega)]
    simp[h6]
theorem NM{r:List Nd}(ok:dL r)(s:NS):gY r []=(aO r r.length ((r.length-1:Nat):Int) s).2.e:=by
 have h1:=ok.one;rw[QN ok r.length (r.length-1) (by omega) (by omega) s];unfold Rx.gY;simp only[ain];exact JC r r.length (r.length-1) (by omega)
theorem GH{rs:List (List Nd)}(ok:∀r∈rs,dL r)(hl:rs.length<=16)(hm:∀r∈rs,gY r []=false):∀j,j<=rs.length->(lu rs j).ru.getD 0 0 = -1
 | 0,_=>rfl
 | j+1,hj=>by
  have ih:=GH ok hl hm j (by omega);obtain⟨h1,_⟩:=yM ok hl j (by omega);have hmem:rs.getD j []∈rs:=by
   rw[afG,afE (by omega),agr];exact agu _
  have hr:=ok _ hmem;have hn:=hm _ hmem
  show(xC (lu rs j) j (rs.getD j [])).ru.getD 0 0 = -1
  generalize rs.getD j []=r at hr hn;generalize lu rs j=t at ih h1;rw[NM hr t]at hn;have ho:=hr.one;have hP:=pI hr r.length (r.length-1) (by omega) (by omega) t h1;unfold xC;generalize aO r r.length ((r.length-1:Nat):Int) t=y at hn hP;obtain⟨e,he⟩:=hP.ru;have hlen:0<y.1.ru.length:=by rw[hP.ok.ru];exact hP.ok.one
  unfold yL;rw[hn,afO (fun h=>by cases h.1)]
  show(uX y.1.ru y.2.l j).getD 0 0 = -1
  rw[afG,sK y.1.ru y.2.l j 0 hlen,agr,afO (fun h=>by have:=hP.pl.l.i _ h;omega),he];have h0:0<t.ru.length:=by rw[h1.ru];exact h1.one
  rw[eH h0];exact ih
end
section
open Go Go.Proofs Go.RowKit
open Rx (Nd dL)
theorem NP{N R:List Int}(hok:okT N R=true):iT (bD N R).1 (bD N R).2=bD N R:=by
 have T:=Tb.of hok;have F:=JD T;have hok2:=yV hok;have T':=Tb.of hok2;have Q:=wX T';obtain⟨p,hp⟩:=afC (lC N R);rw[<-hp]at F;have h1n:=T.one;obtain⟨ext,vs,st,e1,e2,e3,e4,e5,e6,e7⟩:=JE (p:=p) T (R.length+1) 0 ([0],[]) [] ⟨by simp,by simp,fun s hs=>by rw[afK.1 hs];omega,by simp⟩ (by simp) (by omega) rfl rfl (fun i b hi=>absurd hi (agp _));simp only[ahq]at e1 e2 e4 e5 e6 e7;have hL:bD N R=(vs,st.map fun s=>R.getD s.toNat 0):=by
  unfold bD;rw[<-hp];exact Prod.ext e2 e3
 rw[hL]at T' Q⊢;simp only at T' Q⊢;obtain⟨RU,hRU⟩:=afC (st.map fun s=>R.getD s.toNat 0);rw[<-hRU]at T' Q e7⊢;have hm:RU.length=st.length:=by rw[hRU,agf]
 have NQ:∀i,i<st.length->∃s:Nat,st.getD i 0=(s:Int)/\s<R.length:=fun i hi=>by
  have:=e5.in_ (st.getD i 0) (gmem hi);exact⟨(st.getD i 0).toNat,by omega,by omega⟩
 have hacc:∀(w:List Nat),Wrd w->∀i,i<st.length->acc vs RU (i:Int) w=acc N R (st.getD i 0) w:=by
  intro w
  induction w with
  | nil =>
   intro _ i hi;obtain⟨s,hs,_⟩:=NQ i hi;rw[jT,hs,jT,hRU,afG,af8,afE hi];have:st[i]=(s:Int):=(by rw[<-hs,afG,afE hi];rfl);rw[this];rfl
  | cons b w ih =>
   intro hw i hi;have hb:b<256:=hw b (afS ..);have hw':Wrd w:=fun x hx=>hw x (afV _ hx);obtain⟨s,hs,hsn⟩:=NQ i hi;rw[iR,iR];have hn:nxt vs (i:Int) b=vs.getD (256*i+b) 0:=(by unfold nxt;rw[afO (by omega),afY]);rw[hn];obtain⟨g1,g2⟩:=e6 i b hi hb;have ht:nxt N (st.getD i 0) b<(R.length:Int):=(jo T (by omega) hb).2
   by_cases hd:pe p (nxt N (st.getD i 0) b)<0
   ·rw[g1 hd,iE (by omega)]
    have:=GI T F w hw' (nxt N (st.getD i 0) b) (-1) ht (by omega) (by
     rw[gZ (show (-1:Int)<0 by omega)];have: -1<=pe p (nxt N (st.getD i 0) b):=by
      by_cases h0:nxt N (st.getD i 0) b<0
      ·rw[gZ h0];omega
      ·obtain⟨k,hk⟩:∃k:Nat,nxt N (st.getD i 0) b=(k:Int):=⟨_,(ahW (by omega)).symm⟩
       rw[hk,fG];exact F.low k (by omega)
     omega)
    rw[this,iE (by omega)]
   ·obtain⟨j,j1,j2,j3⟩:=g2 hd
    rw[j1,ih hw' j j2];have h0:0<=nxt N (st.getD i 0) b:=agj fun hn=>hd (by rw[gZ (by omega)];omega);obtain⟨s',hs',adt⟩:=NQ j j2;refine GI T F w hw' _ _ (by omega) ht ?_;rw[pX (by omega),pX h0];exact j3
 have hap:NR p (kV vs RU) st.length st:=by
  refine⟨fun i j hi hj he=>?_,fun i hi h0 he=>?_⟩
  ·have h1:∀w,Wrd w->acc N R (st.getD i 0) w=acc N R (st.getD j 0) w:=fun w hw=>by
    have:=C9 T' Q w hw i j (by omega) (by omega) he;rw[afO (by omega),afO (by omega),hacc w hw i hi,hacc w hw j hj]at this;exact this
   obtain⟨s,hs,hsn⟩:=NQ i hi;obtain⟨s',hs',adt⟩:=NQ j hj;have h2:=F.crs _ _ (by omega) (by omega) h1;rw[pX (by omega),pX (by omega)]at h2;have nd:=e5.nd;have l1:i<(st.map (bF p)).length:=(by rw[agf];exact hi);have l2:j<(st.map (bF p)).length:=(by rw[agf];exact hj);refine (aib nd (h₀:=l1) (h₁:=l2)).1 ?_;rw[ahi,ahi];rw[afG,afE hi,afG,afE hj]at h2;exact h2
  ·obtain⟨s,hs,hsn⟩:=NQ i hi
   have h1:∀w,Wrd w->acc N R (st.getD i 0) w=acc N R (-1) w:=fun w hw=>by
    have:=C9 T' Q w hw i st.length (by omega) (by omega) he;rw[afO (by omega),afR hm.symm,hacc w hw i hi,iE (next:=vs) (rule:=RU) (s:= -1) (by omega)]at this;rw[this,iE (s:= -1) (by omega)]
   have h2:=F.crs _ _ (by omega) (by omega) h1;rw[gZ (show (-1:Int)<0 by omega),pX (by omega)]at h2;omega
 have:=e7 (kV vs RU) hap (RU.length+1) (by omega);unfold iT;rw[hm];rw[hm]at this;exact this
theorem vT{next rule:List Int}(T:Tb next rule){t:List Nat}(ht:∀b∈t,b<256){a:Nat}(ha:0<=rule.getD a 0):∀(f i s:Nat)(r0:Int)(tz:Nat),f=t.length-i->i<t.length->s<rule.length->runN next (s:Int) (t.drop i)=(a:Int) ->
  Lx.dK next rule t f i s r0 tz=(rule.getD a 0,t.length,t.length+1)
 | 0,i,s,r0,tz,hf,hi,_,_=>by omega
 | f+1,i,s,r0,tz,hf,hi,hs,hr=>by
  have hd:t.drop i=t.getD i 0::t.drop (i+1):=by
   rw[ahw hi,afG,afE hi];rfl
  have hb:t.getD i 0<256:=ht _ (by rw[afG,afE hi];exact agu hi);have hn:nxt next (s:Int) (t.getD i 0)=next.getD (256*s+t.getD i 0) 0:=by unfold nxt;rw[afO (by omega),afY]
  rw[hd]at hr;have hr:runN next (nxt next (s:Int) (t.getD i 0)) (t.drop (i+1))=(a:Int):=hr
  have hbd:=jo T (s:=(s:Int)) (by omega) hb;rw[hn]at hr hbd;unfold Lx.dK;rw[afR hi];generalize next.getD (256*s+t.getD i 0) 0=s' at hr hbd
  simp only;have h0:0<=s':=agj fun h=>by
   have:=Ew next (t.drop (i+1)) s' (by omega)
   omega
  obtain⟨k,rfl⟩:∃k:Nat,s'=(k:Int):=⟨s'.toNat,by omega⟩;rw[afO (by omega),afY]
  by_cases hl:i+1<t.length
  ·split
   ·exact vT T ht ha f (i+1) k _ _ (by omega) hl (by omega) hr
   ·exact vT T ht ha f (i+1) k _ _ (by omega) hl (by omega) hr
  ·rw[List.drop_eq_nil_of_le (by omega)]at hr
   have hka:k=a:=by
    have:(k:Int)=(a:Int):=hr;omega
   subst hka;rw[afR ha];obtain rfl:f=0:=by omega
   unfold Lx.dK;rw[show i+1=t.length by omega]
theorem U8{next rule kind:List Int}(T:Tb next rule){t:List Nat}(ht:∀b∈t,b<256){a:Nat}(ha:0<=rule.getD a 0)(hne:0<t.length)(hr:runN next 0 t=(a:Int)):
  (0<=kind.getD (rule.getD a 0).toNat 0->(Lx.dZ next rule kind t 0).k=kind.getD (rule.getD a 0).toNat 0/\(Lx.dZ next rule kind t 0).t=t.length/\(Lx.dZ next rule kind t 0).a=0) /\
  (kind.getD (rule.getD a 0).toNat 0<0->(Lx.dZ next rule kind t 0).k = -2/\(Lx.dZ next rule kind t 0).a=t.length):=by
 have hx:Lx.iC next rule t 0=(rule.getD a 0,t.length,t.length+1):=by
  unfold Lx.iC;exact vT T ht ha _ 0 0 _ _ rfl hne T.one (by rw[List.drop_zero];exact hr)
 unfold Lx.dZ;obtain⟨m,hm⟩:∃m,t.length-0=m+1:=⟨t.length-1,by omega⟩;rw[hm];unfold Lx.tokF;rw[afR hne,hx];simp only;rw[afO (show ¬rule.getD a 0<0 by omega)];generalize kind.getD (rule.getD a 0).toNat 0=k;refine⟨fun h=>?_,fun h=>?_⟩
 ·rw[afR (.inr h)]
  exact⟨rfl,rfl,rfl⟩
 ·rw[afO (by omega)]
  cases m with
  | zero=>exact⟨rfl,rfl⟩
  | succ m =>
   unfold Lx.tokF;rw[afO (ah2 _)];exact⟨rfl,rfl⟩
structure Ll(R:List Rl)(next rule kind:List Int):Prop where
 ok:okT next rule=true
 fix:iT next rule=(next,rule)
 zero:rule.getD 0 0<0
 adu:kind.length=R.length
 ktr:∀j x,R[j]?=some x->(x.tr=true->kind.getD j 0 = -1)/\(x.tr=false->0<=kind.getD j 0)
theorem Xp:∀(n:Nat)(R:List Rl),R.length=n->∀j x,R[j]?=some x->(x.tr=true->(kdP R).1.getD j 0 = -1)/\(x.tr=false->0<=(kdP R).1.getD j 0)
 | 0,R,h,j,x,hx=>by
  obtain rfl:=ag2.1 h;simp at hx
 | n+1,R,h,j,x,hx=>by
  obtain⟨A,y,rfl⟩:∃A y,R=A++[y]:=⟨R.dropLast,R.getLast (by intro e;subst e;simp at h),(List.dropLast_concat_getLast _).symm⟩;have hA:A.length=n:=by simpa using h
  obtain⟨k1,k2,_,_⟩:=vK n A hA;rw[zu]
  by_cases e:j<n
  ·rw[af6 (by omega)]at hx
   have:=Xp n A hA j x hx;split
   ·rw[eH (by omega)];exact this
   ·rw[eH (by omega)];exact this
  ·have hj:j=A.length:=by
    have:=(afW.1 hx).1;simp at this;omega
   subst hj;rw[aga afD,aho]at hx
   cases hx
   have e0:∀v:Int,((kdP A).1++[v]).getD A.length 0=v:=fun v=>by
    rw[afG,aga (by omega),k1,hA,aho];rfl
   split
   ·rename_i ht
    simp only;rw[e0];exact⟨fun _=>rfl,fun h=>by rw[ht]at h;cases h⟩
   ·rename_i ht
    simp only;rw[e0];exact⟨fun h=>absurd h ht,fun _=>k2⟩
theorem QO{R:List Rl}{tss:List (List Int)}{T:Sets}(h:oI R tss T)(hs:∀x∈R,x.re.size<=254)(hl:R.length<=16):Ll R (lF R tss T).1 (lF R tss T).2 (kdP R).1:=by
 have h1:=(Ee h hs hl).1;have hrx:=Es h.ok hs;have hlen:(jI R).length=R.length:=agf _;have hmt:∀r∈jI R,Rx.gY r []=false:=fun r hr=>by
  obtain⟨x,hx,rfl⟩:=agv.1 hr;obtain⟨j,hj⟩:=ahv hx;exact(vM (h.ok j x hj)).2.2
 have hz:(nfP R).ru.getD 0 0 = -1:=GH hrx.1 (by omega) hmt _ afD;obtain⟨_,hT1,_,⟨T2,hT⟩,_⟩:=xP h.bl (by simp) (by simp) (by omega);refine⟨yV h1,?_,?_,(vK _ R rfl).1,Xp _ R rfl⟩
 ·exact NP h1
 ·have T0:=Tb.of h1
  obtain⟨ext,vs,st,e1,e2,e3,_⟩:=JE (p:=lC (dB (eX (spl (nfP R).cl)) tss) (fF (nfP R).ru T)) T0 ((fF (nfP R).ru T).length+1) 0 ([0],[]) [] ⟨by simp,by simp,fun s hs=>by rw[afK.1 hs];have:=T0.one;omega,by simp⟩ (by simp) (by omega) rfl rfl (fun i b hi=>absurd hi (agp _));have hru:(lF R tss T).2=st.map fun s=>(fF (nfP R).ru T).getD s.toNat 0:=e3;rw[hru,e1]
  show(fF (nfP R).ru T).getD 0 0<0
  rw[hT]
  show lX (nfP R).ru [0] < 0
  show ji (nfP R).ru (-1) 0<0
  unfold ji;split
  ·rename_i hc
   have:(nfP R).ru.getD (0:Int).toNat (-1) = -1:=by
    have h0:0<(nfP R).ru.length:=(by omega);rw[afG,afE h0]at hz
    show(nfP R).ru.getD 0 (-1) = -1
    rw[afG,afE h0];exact hz
   rw[this];split<;>omega
  ·omega
end
end Go.Proofs.YtkjgogdkdejljaaGreatDoor.Df
