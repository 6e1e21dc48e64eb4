import Derived.Test.YtkjgogdkdejljaaGreatDoorDfE2c
set_option maxRecDepth 100000
set_option maxHeartbeats 40000000
namespace Go.Proofs.YtkjgogdkdejljaaGreatDoor.Df
section
open Go.Lib (hid)
open Go Go.Proofs Go.RowKit
attribute [local go_sem] Oper.semAt_some
def oO(next part:List Int)(n i k:Nat):Bool:=decide (part.getD i 0=part.getD k 0) && (List.range 256).all fun b=>decide (part.getD (gy next n i b).toNat 0=part.getD (gy next n k b).toNat 0)
theorem fH{next part:List Int}{n i k:Nat}: oO next part n i k=true↔part.getD i 0=part.getD k 0/\∀b,b<256->part.getD (gy next n i b).toNat 0=part.getD (gy next n k b).toNat 0:=by
 unfold oO;simp only[afU,afZ,agk,agH]
theorem aH.getD{w:World}{a:Option Addr}{l:List Int}(h:aH w a l){k:Nat}(hk:k<l.length):∃b off,a=some ⟨b,off,none⟩/\b<w.heap.size/\w.cell? ⟨b,off+k,none⟩=some (.int .i64 (l.getD k 0)):=by
 obtain⟨b,off,h1,h2,h3⟩:=h.at hk;exact⟨b,off,h1,h2,by rw[h3];simp[hk]⟩
theorem NY{next rule part:List Int}{an ar ap:Option Addr}{w:World}(cn cr cp:Nat)(h:oL w next rule an ar)(hP:aH w ap part)(hpl:part.length=rule.length+1)(i k:Nat)(hi:i<=rule.length)(hk:k<=rule.length):
  Calls Tryz.prog 88 #[.agg #[.slice an next.length cn,.slice ar rule.length cr],.slice ap part.length cp,.int .i64 i,.int .i64 k] w fun e w'=>e=.returned (.bool (oO next part rule.length i k))/\Below w.heap.size w w':=by
 obtain⟨W0,hW0⟩:=afC (w.alloc (.cells #[.slice an next.length cn,.slice ar rule.length cr] 27));have hB:=(afI w.heap.size w).alloc afD (.cells #[.slice an next.length cn,.slice ar rule.length cr] 27);have xb:=Bx.new w 27 #[.slice an next.length cn,.slice ar rule.length cr];rw[<-hW0]at hB xb;have hT:=h.below hB afD;have hP0:=hP.below hB afD;have hto:=fun(W:World)(hb:Below W0.heap.size W0 W)(j c:Nat)(hj:j<=rule.length)(hc:c<256)=>Q8 cn cr (hT.below hb afD) j c hj hc;have hbd:=fun(j c:Nat)(hj:j<=rule.length)(hc:c<256)=>zJ h.T (i:=j) hj hc;obtain⟨b,off,rfl,hpb,hci⟩:=hP0.getD (k:=i) (by omega);obtain⟨b2,off2,h2,_,hck⟩:=hP0.getD (k:=k) (by omega)
 cases h2
 have hcell:∀j,j<=rule.length->W0.cell? ⟨b,off+j,none⟩=some (.int .i64 (part.getD j 0)):=fun j hj=>by
  obtain⟨b3,jd,h3,_,hc3⟩:=hP0.getD (k:=j) (by omega)
  cases h3
  exact hc3
 obtain⟨rv,hrv⟩:=afC (oO next part rule.length i k)
 have HV:=hid hrv;have hr5:=h.m;have HTO:=hid hto;have HBD:=hid hbd;have HC:=hid hcell;rw[<-hrv];obtain⟨gp,hgp⟩:∃g:Nat->Int,g=fun j=>part.getD j 0:=⟨_,rfl⟩;have HVI:Hid (rv=true↔gp i=gp k/\∀c,c<256->gp (gy next rule.length i c).toNat=gp (gy next rule.length k c).toNat):=hid (by rw[HV.out,hgp];exact fH);replace HC:Hid (∀j,j<=rule.length->W0.cell? ⟨b,off+j,none⟩=some (.int .i64 (gp j))):=hid (by rw[hgp];exact HC.out);replace hci:W0.cell? ⟨b,off+i,none⟩=some (.int .i64 (gp i)):=HC.out i hi;replace hck:W0.cell? ⟨b,off+k,none⟩=some (.int .i64 (gp k)):=HC.out k hk;clear hgp HV;obtain⟨X,hX⟩:=afC w.heap.size;rw[<-hX]at xb;clear hrv h hP hT hP0 hto hbd hcell;obtain⟨nl,hnl⟩:=afC next.length
 obtain⟨rl,hrl⟩:=afC rule.length;obtain⟨pl,hpl2⟩:=afC part.length;rw[<-hnl,<-hrl]at HTO xb hW0⊢;rw[<-hrl]at HVI HBD HC hpl hi hk hr5;rw[<-hpl2]at hpl⊢;have d0:W0.cell? ⟨X,0,none⟩=some (.slice an nl cn):=xb.cell 0;have d1:W0.cell? ⟨X,1,none⟩=some (.slice ar rl cr):=xb.cell 1;have hXl:X<W0.heap.size:=xb.lt;have i0:(0:Int)<=(i:Int):=by omega
 have k0:(0:Int)<=(k:Int):=by omega
 have i1:(i:Int)<(pl:Int):=by omega
 have k1:(k:Int)<(pl:Int):=by omega
 have HPL:=hid hpl;have HI:=hid hi;have HK:=hid hk;clear hpl hnl hrl hpl2 hi hk;go_enter Tryz.func88,Tryz.ntmps88
 go_upto_region 1 with fail
 rw[<-hW0,<-hX];clear hW0 hX xb;haveI:Inhabited (AX.BW W0):=⟨⟨W0,afI _ _⟩⟩;have e1:=AX.aA hci hpb;have e2:=AX.aA hck hpb;refine AX.aF (by kernel_rfl) (by kernel_rfl) ?_
 repeat (go_big_quiet_step (fail))
 refine afQ ?_;rintro _ ⟨p,rfl⟩;obtain⟨W1,hb1⟩:=p;simp only;clear e1 e2 hci hck
 by_cases hx:gp i=gp k
 ·have hx2:(gp i != gp k)=false:=by rw[hx];simp
  have HX:=hid hx;clear hx;go_upto_region 4 with fail
  clear hx2;go_loopw [9] (fun v wr=>∃c:Nat,v=.int .i64 c/\c<=256/\Below W0.heap.size W0 wr/\Hid (∀c',c'<c->gp (gy next rl i c').toNat=gp (gy next rl k c').toNat)) (fun v _=>256-(RowKit.intOf v).toNat)
  case atStart=>exact⟨0,rfl,by omega,hb1,hid fun c' h=>absurd h (agp _)⟩
  case round =>
   obtain⟨c,rfl,hc,hbr,hall⟩:=hrel;have c0:(0:Int)<=(c:Int):=by omega
   by_cases hlt:c<256
   ·have c1:(c:Int)<256:=by omega
    obtain⟨ai,hai⟩:∃ai:Nat,gy next rl i c=(ai:Int):=⟨(gy next rl i c).toNat,by have:=(HBD.out i c HI.out hlt).1;omega⟩
    obtain⟨ak,hak⟩:∃ak:Nat,gy next rl k c=(ak:Int):=⟨(gy next rl k c).toNat,by have:=(HBD.out k c HK.out hlt).1;omega⟩
    have ai1:ai<=rl:=(by have:=(HBD.out i c HI.out hlt).2;rw[hai]at this;omega);have ak1:ak<=rl:=(by have:=(HBD.out k c HK.out hlt).2;rw[hak]at this;omega);have ht1:=fun p:AX.BW wr=>HTO.out p.W (hbr.trans (p.h.mono hbr.size)) i c HI.out hlt;have ht2:=fun p:AX.BW wr=>HTO.out p.W (hbr.trans (p.h.mono hbr.size)) k c HK.out hlt;simp only[hai]at ht1;simp only[hak]at ht2;have hz1:Hid (gp (gy next rl i c).toNat=gp ai):=hid (by rw[hai,afY]);have hz2:Hid (gp (gy next rl k c).toNat=gp ak):=hid (by rw[hak,afY]);haveI:Inhabited (AX.BW wr):=⟨⟨wr,afI _ _⟩⟩;have Jt:b<wr.heap.size:=afN hpb hbr.size;have e1:=AX.aA ((hbr.cell (p:=⟨b,off+ai,none⟩) hpb).trans (HC.out ai ai1)) Jt;have e2:=AX.aA ((hbr.cell (p:=⟨b,off+ak,none⟩) hpb).trans (HC.out ak ak1)) Jt;have hX2:X<wr.heap.size:=afN hXl hbr.size;have m0:=AX.aA ((hbr.cell (p:=⟨X,0,none⟩) hXl).trans d0) hX2;have m1:=AX.aA ((hbr.cell (p:=⟨X,1,none⟩) hXl).trans d1) hX2;have q0:(0:Int)<=(ai:Int):=(by omega);have q1:(ai:Int)<(pl:Int):=(by have:=HPL.out;omega);have q2:(0:Int)<=(ak:Int):=(by omega);have q3:(ak:Int)<(pl:Int):=(by have:=HPL.out;omega);generalize gp ai=u at *;generalize gp ak=v at *;clear hai hak ai1 ak1;go_upto_region 6 with fail
    refine AX.aF (by kernel_rfl) (by kernel_rfl) ?_
    repeat (go_big_quiet_step (first|(go_at_call 51;first|with_reducible exact AX.dw (ht1 _)|with_reducible exact AX.dw (ht2 _))))
    refine afQ ?_;rintro _ ⟨p,rfl⟩;obtain⟨W2,hb2⟩:=p;simp only;have JH:Below W0.heap.size W0 W2:=hbr.trans (hb2.mono hbr.size);clear m0 m1 e1 e2 ht1 ht2
    by_cases huv:u=v
    ·have adw:(u != v)=false:=by rw[huv];simp
     have hn:Hid (∀c',c'<c+1->gp (gy next rl i c').toNat=gp (gy next rl k c').toNat):=hid fun c' h=>by
      by_cases e:c'=c
      ·subst e;rw[hz1.out,hz2.out,huv]
      ·exact hall.out c' (by omega)
     have HB2:=hid JH;clear huv hz1 hz2 hall hb2 JH;go_wp2_with fail
     exact⟨⟨c+1,by simp,by omega,HB2.out,hn⟩,by simp[RowKit.intOf];omega⟩
    ·have adw:(u != v)=true:=bne_iff_ne.2 huv
     have hrv:rv=false:=by
      refine agU.2 fun h=>huv ?_;have:=(HVI.out.1 h).2 c hlt;rw[hz1.out,hz2.out]at this;exact this
     subst hrv;have HB2:=hid JH;clear huv hz1 hz2 hall hb2 JH;go_wp2_with fail
     exact afJ (v:=.bool false) (by simp[results,Tryz.results88,go_sem]) rfl ⟨rfl,hB.trans (HB2.out.mono hB.size)⟩
   ·have c1:¬(c:Int)<256:=by omega
    have hrv:rv=true:=by
     exact HVI.out.2 ⟨HX.out,fun b hb=>hall.out b (by omega)⟩
    subst hrv;have HB2:=hid hbr;clear hall hbr;go_wp2_with fail
    exact afJ (v:=.bool true) (by simp[results,Tryz.results88,go_sem]) rfl ⟨rfl,hB.trans (HB2.out.mono hB.size)⟩
 ·have hx2:(gp i != gp k)=true:=bne_iff_ne.2 hx
  have hrv:rv=false:=by
   exact agU.2 fun h=>hx (HVI.out.1 h).1
  subst hrv;clear hx HVI;go_wp2_with fail
  exact afJ (v:=.bool false) (by simp[results,Tryz.results88,go_sem]) rfl ⟨rfl,hB.trans (hb1.mono hB.size)⟩
theorem QJ{N R:List Int}{an ar bn br:Option Addr}{w:World}(cn cr dn dr:Nat)(hn:N.length<=1000000)(hr:R.length<=1000000)(h1:aH w an N)(h2:aH w ar R)(h3:aH w bn N)(h4:aH w br R):
  Calls Tryz.prog 22 #[.agg #[.slice an N.length cn,.slice ar R.length cr],.agg #[.slice bn N.length dn,.slice br R.length dr]] w fun e w'=>e=.returned (.bool true)/\Below w.heap.size w w':=by
 obtain⟨gn,hgn⟩:∃g:Nat->Int,g=fun j=>N.getD j 0:=⟨_,rfl⟩;obtain⟨gr,hgr⟩:∃g:Nat->Int,g=fun j=>R.getD j 0:=⟨_,rfl⟩;obtain⟨W0,hW0⟩:=afC ((w.alloc (.cells #[.slice an N.length cn,.slice ar R.length cr] 27)).alloc (.cells #[.slice bn N.length dn,.slice br R.length dr] 27));have hB:Below w.heap.size w W0:=by rw[hW0];exact ((afI _ w).alloc afD _).alloc (by simp) _
 have u0:Bx W0 w.heap.size 27 #[.slice an N.length cn,.slice ar R.length cr]:=by rw[hW0];exact (Bx.new w 27 _).alloc _
 have u1:Bx W0 (w.heap.size+1) 27 #[.slice bn N.length dn,.slice br R.length dr]:=by
  have:=Bx.new (w.alloc (.cells #[.slice an N.length cn,.slice ar R.length cr] 27)) 27 #[.slice bn N.length dn,.slice br R.length dr];rw[World.size_alloc]at this;rw[hW0];exact this
 have P1:Hid (∀k,k<N.length->∃b off,an=some ⟨b,off,none⟩/\b<W0.heap.size/\W0.cell? ⟨b,off+k,none⟩=some (.int .i64 (gn k))):=hid fun k hk=>by rw[hgn];exact(h1.below hB afD).getD hk
 have P2:Hid (∀k,k<N.length->∃b off,bn=some ⟨b,off,none⟩/\b<W0.heap.size/\W0.cell? ⟨b,off+k,none⟩=some (.int .i64 (gn k))):=hid fun k hk=>by rw[hgn];exact(h3.below hB afD).getD hk
 have Q1:Hid (∀k,k<R.length->∃b off,ar=some ⟨b,off,none⟩/\b<W0.heap.size/\W0.cell? ⟨b,off+k,none⟩=some (.int .i64 (gr k))):=hid fun k hk=>by rw[hgr];exact(h2.below hB afD).getD hk
 have Q2:Hid (∀k,k<R.length->∃b off,br=some ⟨b,off,none⟩/\b<W0.heap.size/\W0.cell? ⟨b,off+k,none⟩=some (.int .i64 (gr k))):=hid fun k hk=>by rw[hgr];exact(h4.below hB afD).getD hk
 obtain⟨X,hX⟩:=afC w.heap.size;rw[<-hX]at u0 u1;clear h1 h2 h3 h4 hgn hgr;generalize N.length=nl at *;generalize R.length=rl at *;have d0:W0.cell? ⟨X,0,none⟩=some (.slice an nl cn):=u0.cell 0;have d1:W0.cell? ⟨X,1,none⟩=some (.slice ar rl cr):=u0.cell 1;have d2:W0.cell? ⟨X+1,0,none⟩=some (.slice bn nl dn):=u1.cell 0;have d3:W0.cell? ⟨X+1,1,none⟩=some (.slice br rl dr):=u1.cell 1;have x0:X<W0.heap.size:=u0.lt;have x1:X+1<W0.heap.size:=u1.lt;go_enter Tryz.func22,Tryz.ntmps22
 go_upto_region 1 with fail
 rw[<-hW0,<-hX];clear hW0 hX u0 u1;go_upto_region 4 with fail
 go_loopw [5] (fun v wr=>∃i:Nat,v=.int .i64 i/\i<=nl/\Below W0.heap.size W0 wr) (fun v _=>nl-(RowKit.intOf v).toNat)
 case atStart=>exact⟨0,rfl,af0 _,afI _ _⟩
 case round =>
  obtain⟨i,rfl,hi,hb⟩:=hrel;have i0:(0:Int)<=(i:Int):=by omega
  have e0:=(hb.cell (p:=⟨X,0,none⟩) x0).trans d0;have e1:=(hb.cell (p:=⟨X,1,none⟩) x0).trans d1;have e2:=(hb.cell (p:=⟨X+1,0,none⟩) x1).trans d2;have e3:=(hb.cell (p:=⟨X+1,1,none⟩) x1).trans d3
  by_cases hlt:i<nl
  ·have i1:(i:Int)<(nl:Int):=by omega
   obtain⟨b1,o1,rfl,l1,c1⟩:=P1.out i hlt;obtain⟨b2,o2,rfl,l2,c2⟩:=P2.out i hlt;generalize gn i=z at c1 c2;haveI:Inhabited (AX.BW wr):=⟨⟨wr,afI _ _⟩⟩;have m0:=AX.aA e0 (afN x0 hb.size);have m2:=AX.aA e2 (afN x1 hb.size);have m4:=AX.aA ((hb.cell (p:=⟨b1,o1+i,none⟩) l1).trans c1) (afN l1 hb.size);have m5:=AX.aA ((hb.cell (p:=⟨b2,o2+i,none⟩) l2).trans c2) (afN l2 hb.size);clear e1 e3 c1 c2;go_upto_region 6 with fail
   clear e0 e2;refine AX.aF (by kernel_rfl) (by kernel_rfl) ?_
   repeat (go_big_quiet_step (fail))
   refine afQ ?_;rintro _ ⟨p,rfl⟩;obtain⟨W1,hb1⟩:=p;simp only;have HB2:Hid (Below W0.heap.size W0 W1):=hid (hb.trans (hb1.mono hb.size));clear m0 m2 m4 m5 hb1;go_wp2_with fail
   exact⟨⟨i+1,by simp,by omega,HB2.out⟩,by simp[RowKit.intOf];omega⟩
  ·have i1:¬(i:Int)<(nl:Int):=by omega
   have HBB:=hid hb;go_upto_region 9 with fail
   clear e0 e1 e2 e3;go_loopw [6] (fun v w2=>∃j:Nat,v=.int .i64 j/\j<=rl/\Below W0.heap.size W0 w2) (fun v _=>rl-(RowKit.intOf v).toNat)
   case atStart=>exact⟨0,rfl,af0 _,HBB.out⟩
   case round =>
    clear HBB hb;obtain⟨j,rfl,hj,hb⟩:=hrel;have j0:(0:Int)<=(j:Int):=(by omega);have e1:=(hb.cell (p:=⟨X,1,none⟩) x0).trans d1;have e3:=(hb.cell (p:=⟨X+1,1,none⟩) x1).trans d3
    by_cases hlt2:j<rl
    ·have j1:(j:Int)<(rl:Int):=by omega
     obtain⟨b1,o1,rfl,l1,c1⟩:=Q1.out j hlt2;obtain⟨b2,o2,rfl,l2,c2⟩:=Q2.out j hlt2;generalize gr j=z at c1 c2;haveI:Inhabited (AX.BW wr):=⟨⟨wr,afI _ _⟩⟩;have m1:=AX.aA e1 (afN x0 hb.size);have m3:=AX.aA e3 (afN x1 hb.size);have m4:=AX.aA ((hb.cell (p:=⟨b1,o1+j,none⟩) l1).trans c1) (afN l1 hb.size);have m5:=AX.aA ((hb.cell (p:=⟨b2,o2+j,none⟩) l2).trans c2) (afN l2 hb.size);clear c1 c2;go_upto_region 11 with fail
     clear e1 e3;refine AX.aF (by kernel_rfl) (by kernel_rfl) ?_
     repeat (go_big_quiet_step (fail))
     refine afQ ?_;rintro _ ⟨p,rfl⟩;obtain⟨W1,hb1⟩:=p;simp only;have HB2:Hid (Below W0.heap.size W0 W1):=hid (hb.trans (hb1.mono hb.size));clear m1 m3 m4 m5 hb1;go_wp2_with fail
     exact⟨⟨j+1,by simp,by omega,HB2.out⟩,by simp[RowKit.intOf];omega⟩
    ·have j1:¬(j:Int)<(rl:Int):=by omega
     have HBB:=hid hb;clear hb;go_wp2_with fail
     exact afJ (v:=.bool true) (by simp[results,Tryz.results22,go_sem]) rfl ⟨rfl,hB.trans (HBB.out.mono hB.size)⟩
end
section
def rlk(next part:List Int)(n i:Nat)(f:Int):Bool:=oO next part n i f.toNat
def rpS(next part:List Int)(n:Nat)(x:List Int×List Int)(i:Nat):List Int×List Int:=
 (if x.1.findIdx (rlk next part n i)<x.1.length then x.1 else x.1++[(i:Int)],x.2.set i (x.1.findIdx (rlk next part n i):Int))
def rpR(next part:List Int)(n k:Nat):List Int×List Int:=(List.range k).foldl (rpS next part n) ([],List.replicate (n+1) 0)
def rpL(next:List Int)(n:Nat):Nat->Nat->List Int->List Int
 | 0,_,p=>p
 | f+1,c,p=>if (rpR next p n (n+1)).1.length=c then (rpR next p n (n+1)).2 else rpL next n f (rpR next p n (n+1)).1.length (rpR next p n (n+1)).2
def jq(rule:List Int):List Int:=rule.map (· + 1)++[0]
def kV(next rule:List Int):List Int:=rpL next rule.length (rule.length+3) 0 (jq rule)
theorem GL(next part:List Int)(n k:Nat):rpR next part n (k+1)=rpS next part n (rpR next part n k) k:=by
 unfold rpR;rw[ahQ,agI];rfl
theorem Q9(next part:List Int)(n i:Nat):rlk next part n i (i:Int)=true:=by
 unfold rlk;rw[afY];exact fH.2 ⟨rfl,fun _ _=>rfl⟩
structure RpI(next part:List Int)(n k:Nat)(x:List Int×List Int):Prop where
 len:x.2.length=n+1
 most:x.1.length<=k
 low:∀f∈x.1,0<=f/\f<(k:Int)
 nd:x.1.Nodup
 has:∀j,j<k->∃m:Nat,x.2.getD j 0=(m:Int)/\m<x.1.length/\rlk next part n j (x.1.getD m 0)=true
 all:∀m,m<x.1.length->∃j,j<k/\x.2.getD j 0=(m:Int)
theorem Vf{L:List Int}{p:Int->Bool}(h:L.findIdx p<L.length):p (L.getD (L.findIdx p) 0)=true:=by
 have:=ag4 (w:=h);rw[afG,afE h];exact this
theorem rpI(next part:List Int)(n:Nat):∀k,k<=n+1->RpI next part n k (rpR next part n k)
 | 0,_=>⟨by simp[rpR],by simp[rpR],by simp[rpR],by simp[rpR],fun j h=>absurd h (agp _),by simp[rpR]⟩
 | k+1,hk=>by
  have h:=rpI next part n k (by omega)
  rw[GL];generalize rpR next part n k=x at h⊢
  have hkl:k<x.2.length:=by rw[h.len];omega
  have hfl:=ahg (p:=rlk next part n k) (xs:=x.1);unfold rpS
  by_cases hf:x.1.findIdx (rlk next part n k)<x.1.length
  ·rw[afR hf]
   have hfx:=Vf hf;generalize x.1.findIdx (rlk next part n k)=m at hf hfl hfx⊢;refine⟨by simp only;rw[agA];exact h.len,ah3 h.most,fun f hm=>?_,h.nd,fun j hj=>?_,fun m' hm=>?_⟩
   ·have:=h.low f hm;omega
   ·simp only
    by_cases e:k=j
    ·subst e
     exact⟨m,bW hkl,hf,hfx⟩
    ·rw[getD_set_ne e]
     exact h.has j (by omega)
   ·obtain⟨j,h1,h2⟩:=h.all m' hm
    exact⟨j,by omega,by simp only;rw[getD_set_ne (by omega)];exact h2⟩
  ·rw[afO hf]
   have hfe:x.1.findIdx (rlk next part n k)=x.1.length:=(by omega);rw[hfe];have hml:=h.most;refine⟨by simp only;rw[agA];exact h.len,by simp only;rw[afP,ags];omega,fun f hm=>?_,?_,fun j hj=>?_,fun m' hm=>?_⟩
   ·rcases af2.1 hm with hm|hm
    ·have:=h.low f hm;omega
    ·rw[afK.1 hm];omega
   ·simp only
    rw[ahD];exact⟨h.nd,by simp,fun a ha b hb e=>by
     have:=(h.low a ha).2;rw[e,afK.1 hb]at this;omega⟩
   ·simp only
    by_cases e:k=j
    ·subst e
     exact⟨x.1.length,bW hkl,by simp,by simp[Q9]⟩
    ·rw[getD_set_ne e]
     obtain⟨m,h1,h2,h3⟩:=h.has j (by omega);exact⟨m,h1,by rw[afP];omega,by rw[eH h2];exact h3⟩
   ·simp only at hm⊢
    rw[afP,ags]at hm
    by_cases e:m'=x.1.length
    ·subst e
     exact⟨k,by omega,bW hkl⟩
    ·obtain⟨j,h1,h2⟩:=h.all m' (by omega)
     exact⟨j,by omega,by rw[getD_set_ne (by omega)];exact h2⟩
def Bz(c n:Nat)(p:List Int):Prop:=∀m:Nat,m<c->∃j,j<=n/\p.getD j 0=(m:Int)
theorem GN{next part:List Int}{c n:Nat}(h:Bz c n part){x:List Int×List Int}(hI:RpI next part n (n+1) x):∀m:Nat,m<c->∃f∈x.1,part.getD f.toNat 0=(m:Int):=fun m hm=>by
 obtain⟨j,hj,hv⟩:=h m hm;obtain⟨k,_,h2,h3⟩:=hI.has j (by omega);refine⟨x.1.getD k 0,gmem h2,?_⟩;rw[<-hv];exact(fH.1 h3).1.symm
theorem Ey{next part:List Int}{c n:Nat}(h:Bz c n part){x:List Int×List Int}(hI:RpI next part n (n+1) x):c<=x.1.length:=by
 have hs:=GN h hI;have hsub:((List.range c).map fun i:Nat=>(i:Int)).length<=(x.1.map fun f:Int=>part.getD f.toNat 0).length:=by
  refine agQ ?_ fun y hy=>?_
  ·exact ahb.2 (List.nodup_range.imp fun hne e=>hne (by omega))
  ·obtain⟨m,hm,rfl⟩:=agv.1 hy
   obtain⟨f,hf,hv⟩:=hs m (agH.1 hm);exact agv.2 ⟨f,hf,hv⟩
 simpa using hsub
theorem Rf{next part:List Int}{n:Nat}{x:List Int×List Int}(hI:RpI next part n (n+1) x)(h:Bz x.1.length n part){f g:Int}(hf:f∈x.1)(hg:g∈x.1)(e:part.getD f.toNat 0=part.getD g.toNat 0):f=g:=by
 refine agj fun hne=>?_;have hs:=GN h hI;have hlen:(x.1.erase f).length=x.1.length-1:=List.length_erase_of_mem hf;have hpos:0<x.1.length:=List.length_pos_of_mem hf;have hsub:((List.range x.1.length).map fun i:Nat=>(i:Int)).length<=((x.1.erase f).map fun f:Int=>part.getD f.toNat 0).length:=by
  refine agQ ?_ fun y hy=>?_
  ·exact ahb.2 (List.nodup_range.imp fun hne e=>hne (by omega))
  ·obtain⟨m,hm,rfl⟩:=agv.1 hy
   obtain⟨v,hv,hh⟩:=hs m (agH.1 hm)
   by_cases e2:v=f
   ·subst e2
    exact agv.2 ⟨g,(ah7 (fun e=>hne e.symm)).2 hg,by rw[<-e,hh]⟩
   ·exact agv.2 ⟨v,(ah7 e2).2 hv,hh⟩
 simp only[agf,ahF]at hsub;omega
def NZ(rule:List Int)(i:Nat):Int:=if i=rule.length then -1 else rule.getD i 0
structure RpC(next rule p:List Int):Prop where
 len:p.length=rule.length+1
 rul:∀i j,i<=rule.length->j<=rule.length->p.getD i 0=p.getD j 0->NZ rule i=NZ rule j
structure RpF(next rule p:List Int):Prop extends RpC next rule p where
 fine:∀i j,i<=rule.length->j<=rule.length->p.getD i 0=p.getD j 0->∀b,b<256->p.getD (gy next rule.length i b).toNat 0=p.getD (gy next rule.length j b).toNat 0
 nn:∀i,i<=rule.length->0<=p.getD i 0
theorem N7(next:List Int){rule:List Int}: RpC next rule (jq rule):=by
 have hg:∀i,i<=rule.length->(jq rule).getD i 0=NZ rule i+1:=fun i hi=>by
  unfold jq NZ
  by_cases e:i=rule.length
  ·subst e
   rw[afR rfl,afG,aga (by simp)];simp
  ·rw[afO e,afG,af6 (by simp;omega),af8,afE (by omega),afG,afE (by omega)]
   rfl
 refine⟨by unfold jq;simp,fun i j hi hj h=>?_⟩;rw[hg i hi,hg j hj]at h;omega
theorem LD{next rule p:List Int}(h:RpC next rule p):RpC next rule (rpR next p rule.length (rule.length+1)).2:=by
 have hI:=rpI next p rule.length (rule.length+1) afD
 generalize rpR next p rule.length (rule.length+1)=x at hI⊢
 refine⟨hI.len,fun i j hi hj he=>?_⟩;obtain⟨m,a1,a2,a3⟩:=hI.has i (by omega);obtain⟨m',b1,b2,b3⟩:=hI.has j (by omega);obtain rfl:m=m':=by rw[a1,b1]at he;omega
 have e1:=(fH.1 a3).1;have e2:=(fH.1 b3).1;exact h.rul i j hi hj (e1.trans e2.symm)
theorem Vg{next rule p:List Int}(T:Tb next rule)(h:RpC next rule p)(hc:Bz (rpR next p rule.length (rule.length+1)).1.length rule.length p):RpF next rule (rpR next p rule.length (rule.length+1)).2:=by
 have hn:=LD (next:=next) h;have hI:=rpI next p rule.length (rule.length+1) afD
 generalize rpR next p rule.length (rule.length+1)=x at hI hn hc⊢
 refine⟨hn,fun i j hi hj he b hb=>?_,fun i hi=>?_⟩
 ·obtain⟨m,a1,a2,a3⟩:=hI.has i (by omega)
  obtain⟨m',b1,b2,b3⟩:=hI.has j (by omega);obtain rfl:m=m':=by rw[a1,b1]at he;omega
  have e1:=(fH.1 a3).2 b hb;have e2:=(fH.1 b3).2 b hb;have e:=e1.trans e2.symm;have t1:=zJ T hi hb;have t2:=zJ T hj hb;obtain⟨k,c1,c2,c3⟩:=hI.has (gy next rule.length i b).toNat (by omega);obtain⟨k',d1,d2,d3⟩:=hI.has (gy next rule.length j b).toNat (by omega);rw[c1,d1];have f1:=(fH.1 c3).1;have f2:=(fH.1 d3).1;have hff:x.1.getD k 0=x.1.getD k' 0:=Rf hI hc (gmem c2) (gmem d2) (f1.symm.trans (e.trans f2));have:k=k':=by
   rw[afG,afE c2,afG,afE d2]at hff;exact (aib hI.nd).1 hff
  rw[this]
 ·obtain⟨m,a1,_⟩:=hI.has i (by omega)
  rw[a1];omega
theorem GR{next rule:List Int}(T:Tb next rule):∀(f c:Nat)(p:List Int),RpC next rule p->Bz c rule.length p->c<=rule.length+1->rule.length+1<f+c->RpF next rule (rpL next rule.length f c p)
 | 0,c,p,_,_,hc,hf=>by omega
 | f+1,c,p,h,hcv,hc,hf=>by
  have hI:=rpI next p rule.length (rule.length+1) afD
  have hle:=Ey hcv hI;unfold rpL
  by_cases he:(rpR next p rule.length (rule.length+1)).1.length=c
  ·rw[afR he]
   exact Vg T h (by rw[he];exact hcv)
  ·rw[afO he]
   have hm:=hI.most;exact GR T f _ _ (LD h) (fun m hm=>by
    obtain⟨j,h1,h2⟩:=hI.all m hm;exact⟨j,by omega,h2⟩) hm (by omega)
theorem zK{next:List Int}{n:Nat}: ∀(f f' c:Nat)(p:List Int),Bz c n p->n+1<f+c->n+1<f'+c->c<=n+1->rpL next n f c p=rpL next n f' c p
 | 0,_,c,p,_,h,_,hc=>by omega
 | f+1,0,c,p,_,_,h,hc=>by omega
 | f+1,f'+1,c,p,hcv,h,h',hc=>by
  have hI:=rpI next p n (n+1) afD
  have hle:=Ey hcv hI;unfold rpL;split
  ·rfl
  ·rename_i hne
   have hm:=hI.most;exact zK f f' _ _ (fun m hm=>by
    obtain⟨j,h1,h2⟩:=hI.all m hm;exact⟨j,by omega,h2⟩) (by omega) (by omega) hm
theorem wX{next rule:List Int}(T:Tb next rule):RpF next rule (kV next rule):=
 GR T _ _ _ (N7 next) (fun m hm=>absurd hm (agp _)) (af0 _) (by omega)
theorem C9{next rule p:List Int}(T:Tb next rule)(h:RpF next rule p):∀(w:List Nat),Wrd w->∀i j,i<=rule.length->j<=rule.length->p.getD i 0=p.getD j 0->acc next rule (if i=rule.length then -1 else (i:Int)) w=acc next rule (if j=rule.length then -1 else (j:Int)) w:=by
 have hr:∀i,i<=rule.length->acc next rule (if i=rule.length then -1 else (i:Int)) []=NZ rule i:=fun i hi=>by
  unfold NZ
  by_cases e:i=rule.length
  ·rw[afR e,afR e];exact iE (by omega) _
  ·rw[afO e,afO e];exact jT i
 have hs:∀i b w,i<=rule.length->b<256->acc next rule (if i=rule.length then -1 else (i:Int)) (b::w)=acc next rule (if (gy next rule.length i b).toNat=rule.length then -1 else ((gy next rule.length i b).toNat:Int)) w:=fun i b w hi hb=>by
  rw[iR]
  by_cases e:i=rule.length
  ·have:gy next rule.length i b=(rule.length:Int):=by unfold gy;rw[afR e]
   rw[this,afY,afR rfl,afR e];rw[iE (by unfold nxt;rw[afR (by omega)];omega),iE (by omega)]
  ·have hb2:=T.nb (256*i+b) (by omega)
   rw[afO e];have hn:nxt next (i:Int) b=next.getD (256*i+b) 0:=(by unfold nxt;rw[afO (by omega),afY])
   rw[hn];unfold gy;rw[afO e];generalize next.getD (256*i+b) 0=t at *
   by_cases h0:t<0
   ·rw[afR h0,afY,afR rfl,iE h0,iE (by omega)]
   ·rw[afO h0,afO (by omega),ahW (by omega)]
 intro w
 induction w with
 | nil =>
  intro _ i j hi hj he;rw[hr i hi,hr j hj];exact h.rul i j hi hj he
 | cons b w ih =>
  intro hw i j hi hj he;have hb:b<256:=hw b (afS ..);have t1:=zJ T hi hb;have t2:=zJ T hj hb;rw[hs i b w hi hb,hs j b w hj hb];exact ih (fun x hx=>hw x (afV _ hx)) _ _ (by omega) (by omega) (h.fine i j hi hj he b hb)
end
section
open Go.Lib (hid)
open Go Go.Proofs Go.RowKit
attribute [local go_sem] Oper.semAt_some
theorem Vh{W:World}{B:Nat}{l:List Int}(h:Bx W B 3 (ci l)):aH W (some ⟨B,0,none⟩) l:=fun _=>⟨B,0,rfl,h.lt,fun j hj=>by
 rw[af9,dO h j hj,afG,afE hj,agr]⟩
structure Rq(W1:World)(PB NB n:Nat)(p:List Int)(fv:Value)(x:List Int×List Int)(wz:World):Prop where
 pa:Bx wz PB 3 (ci p)
 nb:Bx wz NB 3 (ci x.2)
 fo:bG wz W1.heap.size fv x.1
 ap:∀g,fv.ownBlock=some g->g≠PB/\g≠NB
 lo:Below W1.heap.size W1 wz
 lp:p.length=n+1
 l2:x.2.length=n+1
section
variable {W1 : World} {PB NB n : Nat} {p : List Int} {fv : Value} {x : List Int × List Int} {wz wy : World}
theorem Rq.low(h:Rq W1 PB NB n p fv x wz)(hb:Below wz.heap.size wz wy):Rq W1 PB NB n p fv x wy:=
 ⟨h.pa.below hb h.pa.lt,h.nb.below hb h.nb.lt,aZ h.fo hb,h.ap,h.lo.trans (hb.mono h.lo.size),h.lp,h.l2⟩
theorem Rq.Ns(h:Rq W1 PB NB n p fv x wz)(hN:W1.heap.size<=NB)(h1:PB≠NB)(i:Nat)(v:Int):Rq W1 PB NB n p fv (x.1,x.2.set i v) (wz.setCell ⟨NB,i,none⟩ (.int .i64 v)):=by
 obtain⟨g1,g2⟩:=qO h.nb i v;exact⟨(g2 PB h1).trans h.pa,g1,bP h.fo fun g hg=>g2 g (h.ap g hg).2,h.ap,h.lo.setCell (p:=⟨NB,i,none⟩) hN _,h.lp,by simp only;rw[agA];exact h.l2⟩
theorem Rq.app(h:Rq W1 PB NB n p fv x wz){fv':Value}{l:List Int}(ho:bG wy W1.heap.size fv' l)(hg:wz.grownBy wy fv.ownBlock)(hv:fv'.ownBlock=fv.ownBlock\/fv'.ownBlock=some wz.heap.size):Rq W1 PB NB n p fv' (l,x.2) wy:=by
 have hk:∀k,k<wz.heap.size->fv.ownBlock≠some k->wy.heap[k]?=wz.heap[k]?:=fun k hk hn=>hg.block k hk fun e=>hn e.symm;refine⟨(hk PB h.pa.lt fun e=>(h.ap PB e).1 rfl).trans h.pa,(hk NB h.nb.lt fun e=>(h.ap NB e).2 rfl).trans h.nb,ho,fun g hgg=>?_,?_,h.lp,h.l2⟩
 ·rcases hv with hv|hv
  ·exact h.ap g (hv▸ hgg)
  ·rw[hv]at hgg
   cases hgg
   have:=h.pa.lt;have:=h.nb.lt;omega
 ·exact h.lo.grown hg h.lo.size fun k e=>(World.ownsRow.lt h.fo k e).1
end
def JI(next rule:List Int)(w:World)(e:Ending)(w':World):Prop:=∃PB,e=.returned (.slice (some ⟨PB,0,none⟩) (rule.length+1) (rule.length+1))/\Bx w' PB 3 (ci (kV next rule))/\w.heap.size<=PB/\Below w.heap.size w w'
theorem Xt(n:Nat)(hn:n<=900)(w:World):(Instr.makeSlice 25 (.int .i64 ((n:Int)+1)) (.int .i64 ((n:Int)+1))).run Tryz.prog w=.ok (.slice (some ⟨w.heap.size,0,none⟩) (n+1) (n+1)) (w.alloc (.cells (ci (List.replicate (n+1) 0)) 3)):=mk25 (n+1) (by omega) w
theorem N8{L:List Int}{p:Int->Bool}{m:Nat}(hm:m<L.length):m+(L.drop m).findIdx p=if p (L.getD m 0)=true then m else m+1+(L.drop (m+1)).findIdx p:=by
 rw[ahw hm,ah4,afG,afE hm,agr]
 cases h:p L[m]
 ·simp only[cond_false,ahr,aiC];omega
 ·simp
theorem N9{next rule:List Int}{an ar:Option Addr}{w:World}(cn cr:Nat)(h:oL w next rule an ar):
  Calls Tryz.prog 50 #[.agg #[.slice an next.length cn,.slice ar rule.length cr]] w (JI next rule w):=by
 obtain⟨W0,hW0⟩:=afC (w.alloc (.cells #[.slice an next.length cn,.slice ar rule.length cr] 27));have hB:=(afI w.heap.size w).alloc afD (.cells #[.slice an next.length cn,.slice ar rule.length cr] 27);have xb:=Bx.new w 27 #[.slice an next.length cn,.slice ar rule.length cr];rw[<-hW0]at hB xb;have hT:=h.below hB afD;have hal:=fun(W:World)(hb:Below W0.heap.size W0 W)(ap:Option Addr)(p:List Int)(hP:aH W ap p)(hpl:p.length=rule.length+1)(i k:Nat)(hi:i<=rule.length)(hk:k<=rule.length)=>NY cn cr (rule.length+1) (hT.below hb afD) hP hpl i k hi hk;have YJ:∀k,k<rule.length->∃b off,ar=some ⟨b,off,none⟩/\b<W0.heap.size/\W0.cell? ⟨b,off+k,none⟩=some (.int .i64 (rule.getD k 0)):=fun k hk=>hT.rul hk;have hrb:∀k,k<rule.length -> -1<=rule.getD k 0/\rule.getD k 0<16:=fun k hk=>h.T.rb k hk;have YK:=h.m;obtain⟨X,hX⟩:=afC w.heap.size;rw[<-hX]at xb;obtain⟨L,hL⟩:=afC (kV next rule)
 unfold JI;rw[<-hL];obtain⟨nl,hnl⟩:=afC next.length
 obtain⟨n,hn⟩:=afC rule.length;rw[<-hnl,<-hn]at xb hal hW0⊢;rw[<-hn]at YK YJ hrb;have y0:W0.cell? ⟨X,0,none⟩=some (.slice an nl cn):=xb.cell 0;have y1:W0.cell? ⟨X,1,none⟩=some (.slice ar n cr):=xb.cell 1;have hXl:X<W0.heap.size:=xb.lt;have HAL:=hid hal;have HRL:=hid YJ;have HRB:=hid hrb;have HL:=hid hL;have HN:=hid hn;have HB:=hid hB;have HY0:=hid y0;have HY1:=hid y1;clear hal YJ hrb hL hn hnl hB hT h;go_enter Tryz.func50,Tryz.ntmps50
 go_upto_region 1 with fail
 rw[<-hW0,<-hX];clear hW0 hX xb;go_upto_region 2 with fail
 have hmk:=Xt n (by omega) W0;obtain⟨PB,hPB⟩:=afC W0.heap.size;obtain⟨W2,hW2⟩:=afC (W0.alloc (.cells (ci (List.replicate (n+1) 0)) 3));have hq:Pq W0 PB (n+1) (List.replicate (n+1) 0) W2:=⟨by rw[hW2,hPB];exact Bx.new W0 3 _,by rw[hW2];exact (afI _ W0).alloc afD _,by simp⟩;have HQ:=hid hq;have HPB:=hid hPB;go_upto_region 3 with fail
 rw[<-hW2,<-hPB];clear hW2 hPB hmk hq y0 y1;have PX:∃p,Pq W0 PB (n+1) p W2/\Hid ((∀j,j<0->p[j]?=(jq rule)[j]?)/\p[n]?=some 0):=⟨_,HQ.out,hid ⟨fun j hj=>absurd hj (agp _),by simp⟩⟩;clear HQ;go_upto_region 4 with fail
 go_loopw [5] (fun v5 wr=>∃k:Nat,v5=.int .i64 k/\k<=n/\∃p,Pq W0 PB (n+1) p wr/\Hid ((∀j,j<k->p[j]?=(jq rule)[j]?)/\p[n]?=some 0)) (fun v5 _=>n-(RowKit.intOf v5).toNat)
 case atStart=>exact⟨0,rfl,af0 _,PX⟩
 case round =>
  obtain⟨k,rfl,hk,p,hq,hp⟩:=hrel;have hk0:(0:Int)<=(k:Int):=by omega
  by_cases hlt:k<n
  ·have hk1:(k:Int)<(n:Int):=by omega
   have hk2:(k:Int)<(n:Int)+1:=(by omega);obtain⟨rb,ro,rfl,hrb,hrc⟩:=HRL.out k hlt;have hrc:=(hq.lo.cell (p:=⟨rb,ro+k,none⟩) hrb).trans hrc;obtain⟨r1,r2⟩:=HRB.out k hlt;have y1:=(hq.lo.cell (p:=⟨X,1,none⟩) hXl).trans HY1.out;have hpc:=dO hq.pa k (by have:=hq.ln;omega);have hfz:=fU hq.pa k;have hpt:Hid ((jq rule)[k]?=some (rule.getD k 0+1)):=hid (by
    have:=HN.out;unfold jq;rw[af6 (by simp;omega),af8,afE (by omega),afG,afE (by omega)];rfl)
   generalize rule.getD k 0=z at *;have hq5:=hq.put (afT HPB.out.symm) k (z+1);have HQ5:=hid hq5;have Lc:Hid ((∀j,j<k+1->(p.set k (z+1))[j]?=(jq rule)[j]?)/\(p.set k (z+1))[n]?=some 0):=hid ⟨fun j hj=>by
    by_cases e:k=j
    ·subst e
     rw[agX (by have:=hq.ln;omega),hpt.out]
    ·rw[agM e]
     exact hp.out.1 j (by omega),by rw[agM (by omega)];exact hp.out.2⟩
   clear hq hq5 hp hpt;go_wp2_with fail
   exact⟨⟨k+1,by simp,by omega,_,HQ5.out,Lc⟩,by simp[RowKit.intOf];omega⟩
  ·have hk1:¬(k:Int)<(n:Int):=by omega
   obtain rfl:k=n:=by omega
   have hpe:p=jq rule:=by
    refine agJ fun j=>?_
    by_cases hj:j<k
    ·exact hp.out.1 j hj
    ·by_cases e:j=k
     ·subst e
      rw[hp.out.2];unfold jq;rw[HN.out,aga (by simp)];simp
     ·rw[af5 (by have:=hq.ln;omega),af5 (by unfold jq;simp;have:=HN.out;omega)]
   have hst:Hid (Bz 0 k p/\p.length=k+1/\∀F:Nat,k+1<F+0->rpL next k F 0 p=L):=hid ⟨fun m hm=>absurd hm (agp _),hq.ln,fun F hF=>by
    rw[HL.out];unfold kV;rw[<-hpe,<-HN.out];exact zK _ _ _ _ (fun m hm=>absurd hm (agp _)) hF (by omega) (af0 _)⟩
   have HQ:=hid hq;clear hp hpe hq;go_upto_region 8 with fail
   have Np:∃(PB':Nat)(c:Nat)(p:List Int),(Value.slice (some ⟨PB,0,none⟩) (k+1) (k+1))=.slice (some ⟨PB',0,none⟩) (k+1) (k+1)/\(Value.int .i64 0)=.int .i64 c/\Pq W0 PB' (k+1) p wr/\W0.heap.size<=PB'/\c<=k+1/\Hid (Bz c k p/\p.length=k+1/\∀F:Nat,k+1<F+c->rpL next k F c p=L):=⟨PB,0,p,rfl,rfl,HQ.out,afT HPB.out.symm,af0 _,hst⟩;clear HQ hst;go_loopw [4,6] (fun v4 v6 wr=>∃(PB':Nat)(c:Nat)(p:List Int),v4=.slice (some ⟨PB',0,none⟩) (k+1) (k+1)/\v6=.int .i64 c/\Pq W0 PB' (k+1) p wr/\W0.heap.size<=PB'/\c<=k+1/\Hid (Bz c k p/\p.length=k+1/\∀F:Nat,k+1<F+c->rpL next k F c p=L)) (fun _ v6 _=>1000-(RowKit.intOf v6).toNat)
   case atStart=>exact Np
   case round =>
    clear Np;obtain⟨PC,c,p,rfl,rfl,hq,hPC,hc,hst⟩:=hrel;have hmk:=Xt k (by omega) wr;obtain⟨NB,hNB⟩:=afC wr.heap.size;obtain⟨W5,hW5⟩:=afC (wr.alloc (.cells (ci (List.replicate (k+1) 0)) 3));have hb5:=(afI wr.heap.size wr).alloc afD (.cells (ci (List.replicate (k+1) 0)) 3);rw[<-hW5]at hb5;have hrq:Rq W0 PC NB k p (.slice none 0 0) (rpR next p k 0) W5:=⟨hq.pa.below hb5 hq.pa.lt,by rw[hW5,hNB];exact Bx.new wr 3 _,World.ownsRow_nil _ _ _ _,fun g hg=>by simp[Value.ownBlock]at hg,hq.lo.trans (hb5.mono hq.lo.size),hst.out.2.1,by simp[rpR]⟩;have hPN:PC≠NB:=(by have:=hq.pa.lt;omega);have hNW:W0.heap.size<=NB:=(by rw[hNB];exact hq.lo.size);have HRQ:=hid hrq;have HPN:=hid hPN;clear hrq hb5 hq hPN;go_upto_region 9 with fail
    rw[<-hW5,<-hNB];clear hW5 hNB hmk;go_upto_region 11 with fail
    go_loopw [8,9] (fun v8 v9 wz=>∃i:Nat,v9=.int .i64 i/\i<=k+1/\Rq W0 PC NB k p v8 (rpR next p k i) wz) (fun _ v9 _=>k+1-(RowKit.intOf v9).toNat)
    case atStart=>exact⟨0,rfl,af0 _,HRQ.out⟩
    case round =>
     clear HRQ;obtain⟨i,rfl,hi,hr⟩:=hrel;have i0:(0:Int)<=(i:Int):=by omega
     by_cases hlt:i<=k
     ·have i1:(i:Int)<=(k:Int):=by omega
      have i2:(i:Int)<(k:Int)+1:=(by omega);have hI:=rpI next p k i (by omega)
      obtain⟨x,hx⟩:=afC (rpR next p k i)
      have hsucc:Hid (rpR next p k (i+1)=rpS next p k x i):=hid (by rw[GL,hx]);rw[<-hx]at hr hI;obtain⟨la,cc,rfl,hcc,hIR⟩:=iy hr.fo;have Jo:=dO hr.nb i (by have:=hr.l2;omega);have hfz:=fU hr.nb i;have hr1:=hr.Ns hNW HPN.out i (x.1.length:Int);have HR1:=hid hr1;have HI:=hid hI;have hxl:x.1.length<=513:=(by have:=hI.most;omega);clear hx hr hr1 hI hIR;go_upto_region 15 with fail
      obtain⟨W6,hW6⟩:=afC (wr.setCell ⟨NB,i,none⟩ (.int .i64 (x.1.length:Int)));rw[<-hW6];rw[<-hW6]at HR1;clear hW6 Jo hfz;go_loopw [10] (fun v10 wz=>∃m:Nat,v10=.int .i64 ((m:Int)-1)/\m<=x.1.length/\Rq W0 PC NB k p (.slice la x.1.length cc) (x.1,x.2.set i ((m+(x.1.drop m).findIdx (rlk next p k i):Nat):Int)) wz) (fun v10 _=>(RowKit.intOf v10+1).toNat)
      case atStart=>exact⟨x.1.length,rfl,agq _,by
       rw[List.drop_length,List.findIdx_nil,agV];exact HR1.out⟩
      case round =>
       clear HR1;obtain⟨m,rfl,hm,hr2⟩:=hrel
       by_cases hm1:1<=m
       ·obtain⟨j,rfl⟩:∃j,m=j+1:=⟨m-1,by omega⟩
        have ej:((j+1:Nat):Int)-1=(j:Int):=(by omega);rw[ej];have j0:(0:Int)<=(j:Int):=(by omega);have j1:(j:Int)<(x.1.length:Int):=(by omega);have j2:(j:Int)<=513:=(by omega);obtain⟨g,c',heq,hcf⟩:=sS hr2.fo (by show 0<x.1.length;omega)
        cases heq
        have hcf:=hcf j (by show j<x.1.length;omega);have hfb:=HI.out.low (x.1.getD j 0) (gmem (by omega));simp only at hcf;obtain⟨fN,hfN⟩:∃fN:Nat,x.1.getD j 0=(fN:Int):=⟨(x.1.getD j 0).toNat,by omega⟩;have hfk:fN<=k:=(by omega);have YL:Hid (rlk next p k i (x.1.getD j 0)=oO next p k i fN):=hid (by rw[hfN];unfold rlk;rw[afY]);rw[hfN]at hcf;have hgl:g<wr.heap.size:=block_lt_of_cell hcf;haveI:Inhabited (AX.BW wr):=⟨⟨wr,afI _ _⟩⟩;have hat:∀q:AX.BW wr,Calls Tryz.prog 88 #[.agg #[.slice an nl cn,.slice ar k cr],.slice (some ⟨PC,0,none⟩) (k+1) (k+1),.int .i64 i,.int .i64 fN] q.W fun e w'=>e=.returned (.bool (oO next p k i fN))/\Below q.W.heap.size q.W w':=fun q=>by
         have:=HAL.out q.W (hr2.lo.trans (q.h.mono hr2.lo.size)) (some ⟨PC,0,none⟩) p (Vh (hr2.pa.below q.h hr2.pa.lt)) hr2.lp i fN hlt hfk;rw[hr2.lp]at this;exact this
        generalize oO next p k i fN=rv at hat YL
        have hXr:X<wr.heap.size:=afN hXl hr2.lo.size;have e1:=AX.aA hcf hgl;have m0:=AX.aA ((hr2.lo.cell (p:=⟨X,0,none⟩) hXl).trans HY0.out) hXr;have m1:=AX.aA ((hr2.lo.cell (p:=⟨X,1,none⟩) hXl).trans HY1.out) hXr;have HR2:=hid hr2;have HFI:Hid (j+(x.1.drop j).findIdx (rlk next p k i)=if rv=true then j else j+1+(x.1.drop (j+1)).findIdx (rlk next p k i)):=hid (by rw[N8 (by omega),YL.out]);clear hcf hfb hfN hfk YL hr2 ej hgl hm1;go_upto_region 17 with fail
        refine AX.aF (by kernel_rfl) (by kernel_rfl) ?_
        repeat (go_big_quiet_step (first|(go_at_call 88;with_reducible exact AX.dw (hat _))))
        refine afQ ?_;rintro _ ⟨q,rfl⟩;obtain⟨W7,hb7⟩:=q;simp only;have hr3:=HR2.out.low hb7;have Jo:=dO hr3.nb i (by have:=hr3.l2;omega);have hfz:=fU hr3.nb i;have HR3:=hid hr3;clear e1 m0 m1 hat hr3 HR2 hb7
        cases rv with
        | true =>
         have hr4:=HR3.out.Ns hNW HPN.out i (j:Int);have hz:Hid (Rq W0 PC NB k p (.slice (some ⟨g,0,none⟩) x.1.length cc) (x.1,x.2.set i ((j+(x.1.drop j).findIdx (rlk next p k i):Nat):Int)) (W7.setCell ⟨NB,i,none⟩ (.int .i64 (j:Int)))):=hid (by
          rw[HFI.out,afR rfl];simp only[aiv]at hr4;exact hr4)
         clear hr4 HFI HR3;go_wp2_with fail
         exact⟨⟨j,by simp,by omega,hz.out⟩,by simp[RowKit.intOf]⟩
        | false =>
         have hz:Hid (Rq W0 PC NB k p (.slice (some ⟨g,0,none⟩) x.1.length cc) (x.1,x.2.set i ((j+(x.1.drop j).findIdx (rlk next p k i):Nat):Int)) W7):=hid (by
          rw[HFI.out,afO (by decide)];exact HR3.out)
         clear HFI HR3 Jo hfz;go_wp2_with fail
         exact⟨⟨j,by simp,by omega,hz.out⟩,by simp[RowKit.intOf]⟩
       ·obtain rfl:m=0:=by omega
        rw[af9,List.drop_zero]at hr2;have hV:x.1.findIdx (rlk next p k i)<=x.1.length:=ahg;have hS:Hid (rpS next p k x i=(if x.1.findIdx (rlk next p k i)<x.1.length then x.1 else x.1++[(i:Int)],x.2.set i (x.1.findIdx (rlk next p k i):Int))):=hid rfl;generalize x.1.findIdx (rlk next p k i)=V at hr2 hS hV;have hcl:wr.cell? ⟨NB,i,none⟩=some (.int .i64 (V:Int)):=by
         have hx2:x.2.length=k+1:=(by have:=hr2.l2;simp only[agA]at this;exact this);have h1:=dO hr2.nb i (by simp only[agA];omega);simp only at h1;rw[bW (by omega)]at h1;exact h1
        have HR2:=hid hr2
        by_cases hf:V<x.1.length
        ·have hz:Hid (Rq W0 PC NB k p (.slice la x.1.length cc) (rpR next p k (i+1)) wr):=hid (by rw[hsucc.out,hS.out,afR hf];exact HR2.out)
         have hq1:((V:Int) == (x.1.length:Int))=false:=agn.2 (by omega);have hq2:¬(V:Int)=(x.1.length:Int):=(by omega);clear hr2 HR2 hS;go_wp2_with fail
         exact⟨⟨i+1,by simp,by omega,hz.out⟩,by simp[RowKit.intOf];omega⟩
        ·have hq1:((V:Int) == (x.1.length:Int))=true:=ahe.2 (by omega)
         have hq2:(V:Int)=(x.1.length:Int):=(by omega);have hS2:Hid (rpS next p k x i=(x.1++[(i:Int)],x.2.set i (V:Int))):=hid (by rw[hS.out,afO hf]);have hbx:=Bx.new wr 3 #[.int .i64 (i:Int)];have hbb:=(afI wr.heap.size wr).alloc afD (.cells #[.int .i64 (i:Int)] 3);have hr3:=hr2.low hbb;have hown:=hr3.fo;have hls:W0.heap.size<=(wr.alloc (.cells #[.int .i64 (i:Int)] 3)).heap.size:=agb hr2.lo.size hbb.size;have HR3:=hid hr3;have adx:x.1.length<=1000000:=(by omega);clear hr2 HR2 hS hr3 hbb;go_wp2_with (first
          | ((with_reducible refine jH ?_);refine bT W0.heap.size (.slice la x.1.length cc) x.1 (i:Int) rfl hown wr.heap.size 1 rfl hbx adx hls ?_;rintro fv2 W8 ho hg hor;have hz:=HR3.out.app ho hg hor;have HZ:=hid hz;clear hz ho hg hor))
         exact⟨⟨i+1,by simp,by omega,by rw[hsucc.out,hS2.out];exact HZ.out⟩,by simp[RowKit.intOf];omega⟩
     ·obtain rfl:i=k+1:=by omega
      have i1:¬((k+1:Nat):Int)<=(k:Int):=(by omega);have hI:=rpI next p k (k+1) afD
      have hle:=Ey hst.out.1 hI;obtain⟨x,hx⟩:=afC (rpR next p k (k+1))
      have HX:=hid hx;rw[<-hx]at hr hI hle;obtain⟨la,cc,rfl,hcc,hIR⟩:=iy hr.fo;have HR:=hid hr;have HI:=hid hI;have hm:=hI.most;clear hx hr hI hIR
      by_cases he:x.1.length=c
      ·have hq1:((x.1.length:Int) == (c:Int))=true:=ahe.2 (by omega)
       have hq2:(x.1.length:Int)=(c:Int):=(by omega);have hLx:Hid (x.2=L):=hid (by
        rw[<-hst.out.2.2 (k+2) (by omega)];unfold rpL;rw[<-HX.out,afR he])
       clear he;go_wp2_with fail
       exact afJ (v:=.slice (some ⟨NB,0,none⟩) (k+1) (k+1)) (by simp[results,Tryz.results50,go_sem]) rfl ⟨NB,rfl,by rw[<-hLx.out];exact HR.out.nb,agb HB.out.size hNW,HB.out.trans (HR.out.lo.mono HB.out.size)⟩
      ·have hq1:((x.1.length:Int) == (c:Int))=false:=agn.2 (by omega)
       have hq2:¬(x.1.length:Int)=(c:Int):=(by omega);have hz:Hid (Pq W0 NB (k+1) x.2 wr/\Bz x.1.length k x.2/\x.2.length=k+1/\∀F:Nat,k+1<F+x.1.length->rpL next k F x.1.length x.2=L):=hid ⟨⟨HR.out.nb,HR.out.lo,HR.out.l2⟩,fun m hm=>by
        obtain⟨j,h1,h2⟩:=HI.out.all m hm;exact⟨j,by omega,h2⟩,HR.out.l2,fun F hF=>by
        rw[<-hst.out.2.2 (k+3) (by omega)];rw[show rpL next k (k+3) c p=if (rpR next p k (k+1)).1.length=c then (rpR next p k (k+1)).2 else rpL next k (k+2) (rpR next p k (k+1)).1.length (rpR next p k (k+1)).2 from rfl,<-HX.out,afO he];exact zK _ _ _ _ (fun m hm=>by
         obtain⟨j,h1,h2⟩:=HI.out.all m hm;exact⟨j,by omega,h2⟩) hF (by omega) hm⟩
       clear hst he;go_wp2_with fail
       exact⟨⟨NB,x.1.length,x.2,rfl,rfl,hz.out.1,hNW,by omega,hid hz.out.2⟩,by simp[RowKit.intOf];omega⟩
end
end Go.Proofs.YtkjgogdkdejljaaGreatDoor.Df
