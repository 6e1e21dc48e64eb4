import Derived.Test.YtkjgogdkdejljaaGreatDoorDfJ9
import Derived.Test.YtkjgogdkdejljaaGreatDoorDfJ12
import Derived.Test.YtkjgogdkdejljaaGreatDoorTie
import Derived.Test.YtkjgogdkdejljaaGreatDoorCards
import Derived.Lib.SmallJoins
set_option maxRecDepth 100000
set_option maxHeartbeats 40000000
namespace Go.Proofs.YtkjgogdkdejljaaGreatDoor.Df
open Go.Lib (hid)
open Go Go.Proofs Go.RowKit
attribute [local go_sem] Oper.semAt_some
def YE(R:List Rl)(W:World)(v0 v1 v2 v3:Value):Prop:=∃(next rule kind:List Int)(kinds:Int)(an ar ak:Option Addr)(cn cr ck:Nat),Lx.okL next rule kind kinds=true/\next.length<=1000000/\rule.length<=1000000/\kind.length<=1000000 /\
 v0=.slice an next.length cn/\v1=.slice ar rule.length cr/\v2=.slice ak kind.length ck/\v3=.int .i64 kinds/\aH W an next/\aH W ar rule/\aH W ak kind/\Ll R next rule kind
def Lm(R:List Rl)(w:World)(e:Ending)(w':World):Prop:=∃(v0 v1 v2 v3:Value)(at_ er:Int),e=.returned (.tuple #[.agg #[v0,v1,v2,v3],.int .i64 at_,.int .i64 er])/\[v0,v1,v2,v3].all Value.oneCell'=true/\Below w.heap.size w w'/\(er≠0\/er=0/\at_=(R.length:Int)/\YE R w' v0 v1 v2 v3)
theorem YF(R:List Rl)(hlt:lG R=true)(la:Option Addr)(c:Nat)(w:World)(hp:0<w.heap.size)(hT:TabAt w)(hR:yX w la R):Calls Tryz.prog 11 #[.slice la R.length c] w (Lm R w):=by
 unfold lG at hlt;simp only[afU,afZ]at hlt;have hs:∀x∈R,x.re.size<=254:=fun x hx=>by
  have:=agk.1 hlt.1 x hx;unfold qW at this;simp only[afU,afZ]at this;omega
 refine (CJ R hs (by omega) la c w hp hT hR).mono fun e w' h=>?_;obtain⟨hb,⟨at_,er,h1,_,h2⟩|⟨tss,T,an,ar,ak,cn,cr,ck,h1,h2,h3,h4,h5⟩⟩:=h
 ·exact⟨_,_,_,_,at_,er,h2,rfl,hb,.inl h1⟩
 ·have hok:=(Ee h1 hs (by omega)).2
  have hok2:=hok;unfold Lx.okL Lx.okT at hok2;simp only[afU,afZ]at hok2;obtain⟨⟨_,r5,n5,_⟩,_⟩:=hok2;have hk:=(vK _ R rfl).1;exact⟨_,_,_,_,_,0,h2,rfl,hb,.inr ⟨rfl,rfl,_,_,_,_,an,ar,ak,cn,cr,ck,hok,by omega,by omega,by omega,rfl,rfl,rfl,rfl,h3,h4,h5,QO h1 hs (by omega)⟩⟩
theorem U9(R:List Rl)(hl:R.length<=9223372036854775807)(la:Option Addr)(c:Nat)(which:Int)(w:World)(hp:0<w.heap.size)(hT:TabAt w)(hR:yX w la R):
  Calls Tryz.prog 6 #[.slice la R.length c,.int .i64 which] w fun e w'=>e=.returned (.bool true)/\Below w.heap.size w w':=by
 have hlv:=Qe w hp hT;have hlg:=fun(W:World)(hb:Below w.heap.size w W)=>NK R hl la c W (hR.below hb afD);have hbu:=fun(hlt:lG R=true)(W:World)(hb:Below w.heap.size w W)=>YF R hlt la c W (afN hp hb.size) (hT.below hb hp) (hR.below hb afD);unfold Lm at hbu;obtain⟨lt,hlt⟩:=afC (lG R);rw[<-hlt]at hlg hbu;obtain⟨n,hn⟩:=afC R.length;rw[<-hn]at hlg hbu⊢;have HN:=hid hn;have HR:=hid hR;have hn6:lt=true->n<=6:=fun h=>by
  have h2:lG R=true:=by rw[<-hlt];exact h
  unfold lG at h2;simp only[afU,afZ]at h2;omega
 have HN6:=hid hn6;clear hlt hn hR hT hl hn6
 cases lt with
 | false =>
  clear hbu;go_enter Tryz.func6,Tryz.ntmps6
  go_wp2_with (first
   | (go_at_call 9;((with_reducible refine hlv.mono ?_);rintro e W1 ⟨rfl,hb1⟩))
   | (go_at_call 10;((with_reducible refine(hlg _ hb1).mono ?_);rintro e W2 ⟨rfl,rfl⟩)))
  exact afJ (v:=.bool true) (by simp[results,Tryz.results6,go_sem]) rfl ⟨rfl,hb1⟩
 | true =>
  replace hbu:=hbu rfl;have hn6:=HN6.out rfl
  by_cases hz:n=0
  ·have hz2:(n:Int)=0:=by omega
   have hz3:((n:Int) == 0)=true:=ahe.2 hz2;clear hbu hz;go_enter Tryz.func6,Tryz.ntmps6
   go_wp2_with (first
    | (go_at_call 9;((with_reducible refine hlv.mono ?_);rintro e W1 ⟨rfl,hb1⟩))
    | (go_at_call 10;((with_reducible refine(hlg _ hb1).mono ?_);rintro e W2 ⟨rfl,rfl⟩)))
   exact afJ (v:=.bool true) (by simp[results,Tryz.results6,go_sem]) rfl ⟨rfl,hb1⟩
  have hz2:¬(n:Int)=0:=by omega
  have hz3:((n:Int) == 0)=false:=agn.2 hz2;go_enter Tryz.func6,Tryz.ntmps6
  go_upto_region 6 with (first
   | (go_at_call 9;((with_reducible refine hlv.mono ?_);rintro e W1 ⟨rfl,hb1⟩))
   | (go_at_call 10;((with_reducible refine(hlg _ hb1).mono ?_);rintro e W2 ⟨rfl,rfl⟩))
   | (go_at_call 11;((with_reducible refine(hbu _ hb1).mono ?_);rintro e W3 ⟨v0,v1,v2,v3,at_,er,rfl,hone,hb3,hcase⟩;have xN:=Bx.new W3 29 #[.slice none 0 0,.slice none 0 0,.slice none 0 0,.int .i64 0]))
   | ((with_reducible refine bJ ?_);refine AX.aj (vs:=[v0,v1,v2,v3]) rfl rfl Gi xN rfl hone ?_;rintro W4 g3 g4 g5))
  have x4:Bx W4 W3.heap.size 29 #[v0,v1,v2,v3]:=g3;have zA:Below W3.heap.size W3 W4:=((afI W3.heap.size W3).alloc afD _).trans (AX.ah afD (.inl x4.lt) g4 g5);obtain⟨NB,hNB⟩:=afC W3.heap.size;rw[<-hNB]at x4⊢;have HB4:Hid (Below w.heap.size w W4):=hid ((hb1.trans (hb3.mono hb1.size)).trans (zA.mono (agb hb1.size hb3.size)));rcases hcase with her|⟨rfl,rfl,next,rule,kind,kinds,an,ar,ak,cn,cr,ck,hok,hn1,hr1,hk1,rfl,rfl,rfl,rfl,hN,hRu,hK,hfo⟩
  ·have hd:decide (er=0)=false:=agC her
   clear hb1 hb3 zA g3 g4 g5 xN hNB hbu hlg hlv x4;go_wp2_with fail
   exact afJ (v:=.bool true) (by simp[results,Tryz.results6,go_sem]) rfl ⟨rfl,HB4.out⟩
  have hN4:=hN.below zA afD;have hR4:=hRu.below zA afD;have hK4:=hK.below zA afD;have hTb:=oL.of hfo.ok hN4 hR4;have hle:=JF cn cr hTb;unfold Lp at hle;simp only[hfo.fix]at hle;have hsh:=fun(W:World)(hb:Below W4.heap.size W4 W)(i:Nat)=>NT cn cr (hTb.below hb afD) (i:Int) (by omega);have hnx:∀(s':ByteArray)(_:s'.size<=1000000)(x:Lx.Tk)(_:Lx.dZ next rule kind (Lx.sb s') 0=x) (W:World) (_:Below W4.heap.size W4 W),
    Calls Tryz.prog 20 #[.agg #[.slice an next.length cn,.slice ar rule.length cr,.slice ak kind.length ck,.int .i64 kinds],.string s',.int .i64 0] W fun e w'=>e=.returned (.tuple #[.agg #[.int .i64 x.k,.int .i64 x.f,.int .i64 x.a,.int .i64 x.t,.int .i64 x.e],.int .i64 0])/\Below W.heap.size W w':=
   fun s' hs' x hx W hb=>ads hok hn1 hr1 hk1 (hN4.below hb afD) (hR4.below hb afD) (hK4.below hb afD) s' 0 hs' (af0 _) x hx
  have hsa:∀(W:World)(_:Below W4.heap.size W4 W)(bn br:Option Addr)(dn dr:Nat),aH W bn next->aH W br rule->Calls Tryz.prog 22 #[.agg #[.slice bn next.length dn,.slice br rule.length dr],.agg #[.slice an next.length cn,.slice ar rule.length cr]] W fun e w'=>e=.returned (.bool true)/\Below W.heap.size W w':=
   fun W hb bn br dn dr h1 h2=>QJ dn dr cn cr hn1 hr1 h1 h2 (hN4.below hb afD) (hR4.below hb afD)
  have hkl:kind.length=n:=by rw[hfo.adu,HN.out]
  have hkc:∀j,j<n->∃b off,ak=some ⟨b,off,none⟩/\b<W4.heap.size/\W4.cell? ⟨b,off+j,none⟩=some (.int .i64 (kind.getD j 0)):=fun j hj=>hK4.getD (by omega);have HFO:=hid hfo;have HNX:=hid hnx;have HSA:=hid hsa;have HSH:=hid hsh;have HKC:=hid hkc;have HTB:=hid hTb.T;obtain⟨nl,hnl⟩:=afC next.length
  obtain⟨rl,hrl2⟩:=afC rule.length;rw[hkl]at x4 HNX⊢;rw[<-hnl,<-hrl2]at hle x4 HNX HSA HSH⊢;have HX4:=hid x4;have HRL:=hid hrl2;have HNL:=hid hnl;have l0:=x4.cell 0;have l1:=x4.cell 1;have l2:=x4.cell 2;have l3:=x4.cell 3;clear hb1 hb3 zA g3 g4 g5 xN hNB hbu hlg hlv x4 hN hRu hK hN4 hR4 hK4 hok hn1 hr1 hk1 hnl hrl2 hone hnx hsa hsh hkc hTb hfo hkl;go_upto_region 9 with (first
   | (go_at_call 21;((with_reducible refine hle.mono ?_);rintro e W5 ⟨bn,br,dn,dr,hep,hbn,hbr,hb5⟩;subst hep;have xD:=Bx.new W5 27 #[.slice none 0 0,.slice none 0 0]))
   | ((with_reducible refine bJ ?_);refine AX.aj (vs:=[.slice bn nl dn,.slice br rl dr]) rfl rfl Jr xD rfl rfl ?_;rintro W6 g3 g4 g5))
  have x6:Bx W6 W5.heap.size 27 #[.slice bn nl dn,.slice br rl dr]:=g3;have Eu:Below W5.heap.size W5 W6:=((afI W5.heap.size W5).alloc afD _).trans (AX.ah afD (.inl x6.lt) g4 g5);have Bj:Below W4.heap.size W4 W6:=hb5.trans (Eu.mono hb5.size);have aaW:=hbn.below Eu afD;have aaX:=hbr.below Eu afD;obtain⟨DB,hDB⟩:=afC W5.heap.size;rw[<-hDB]at x6⊢;have hsm:=HSA.out W6 Bj bn br dn dr aaW aaX;have l0:=(Bj.cell (p:=⟨NB,0,none⟩) HX4.out.lt).trans l0;have l1:=(Bj.cell (p:=⟨NB,1,none⟩) HX4.out.lt).trans l1;have l2:=(Bj.cell (p:=⟨NB,2,none⟩) HX4.out.lt).trans l2;have d0:W6.cell? ⟨DB,0,none⟩=some (.slice bn nl dn):=x6.cell 0;have d1:W6.cell? ⟨DB,1,none⟩=some (.slice br rl dr):=x6.cell 1;have hpk:=QD which n (by omega) (by omega);unfold QC at hpk;have QS:=hid Bj;have hnn:((n:Int) != (n:Int))=false:=by simp
  clear g3 g4 g5 xD hDB hb5 Eu hbn hbr aaW aaX hle x6 Bj;go_upto_region 11 with (go_at_call 22;((with_reducible refine hsm.mono ?_);rintro e W7 ⟨rfl,hb7⟩;have l2:=(hb7.cell (p:=⟨NB,2,none⟩) (afN HX4.out.lt QS.out.size)).trans l2))
  have aaY:Below W4.heap.size W4 W7:=QS.out.trans (hb7.mono QS.out.size);have l0:=(hb7.cell (p:=⟨NB,0,none⟩) (afN HX4.out.lt QS.out.size)).trans l0;have l1:=(hb7.cell (p:=⟨NB,1,none⟩) (afN HX4.out.lt QS.out.size)).trans l1;have Va:=hid aaY;clear hsm d0 d1 hb7 aaY;go_upto_region 12 with (go_at_call 19;((with_reducible refine(hpk _).mono ?_);rintro e W8 ⟨q,hq,rfl,rfl⟩))
  have YG:=HSH.out W8 Va.out q;unfold oM at YG;clear hpk;go_upto_region 13 with (go_at_call 23;((with_reducible refine YG.mono ?_);rintro e W9 ⟨hb9,hsc⟩;obtain⟨s,is_,hes,hsr⟩:∃(s:ByteArray)(is_:Bool),e=.returned (.tuple #[.string s,.bool is_])/\(is_=true->s.size<=512/\∃a:Nat,a<rl/\runN next 0 (Lx.sb s)=(a:Int)/\rule.getD a 0=(q:Int)):=hsc.elim (fun ⟨s,h⟩=>⟨s,false,h,fun h=>by cases h⟩) (fun ⟨s,a,h,h1,h2,h3,h4⟩=>⟨s,true,h,fun _=>⟨h1,a,h2,h3,h4⟩⟩);subst hes;clear hsc))
  have HSR:=hid hsr;have NU:Hid (Below W4.heap.size W4 W9):=hid (Va.out.trans (hb9.mono Va.out.size));have QT:Hid (Below w.heap.size w W9):=hid (HB4.out.trans (NU.out.mono HB4.out.size));have hNl:NB<W8.heap.size:=afN HX4.out.lt Va.out.size;have l0:=(hb9.cell (p:=⟨NB,0,none⟩) hNl).trans l0;have l1:=(hb9.cell (p:=⟨NB,1,none⟩) hNl).trans l1;have l2:=(hb9.cell (p:=⟨NB,2,none⟩) hNl).trans l2;have l3:W9.cell? ⟨NB,3,none⟩=some (.int .i64 kinds):=(NU.out.cell (p:=⟨NB,3,none⟩) HX4.out.lt).trans l3;clear hsr YG hb9
  cases is_ with
  | false =>
   go_wp2_with fail
   exact afJ (v:=.bool true) (by simp[results,Tryz.results6,go_sem]) rfl ⟨rfl,QT.out⟩
  | true =>
   obtain⟨aeL,a,ha1,ha2,ha3⟩:=HSR.out rfl;have hra:0<=rule.getD a 0:=(by omega);have hsl:0<(Lx.sb s).length:=agj fun hn=>by
    have h0:Lx.sb s=[]:=ag2.1 (by omega);rw[h0]at ha2;have h1:(0:Int)=(a:Int):=ha2;obtain rfl:a=0:=by omega
    have:=HFO.out.zero;omega
   obtain⟨ht1,ht2⟩:=U8 (kind:=kind) HTB.out (Lx.zH s) hra hsl ha2;rw[ha3,afY,Lx.dS]at ht1 ht2;obtain⟨x,hx⟩:=afC (Lx.dZ next rule kind (Lx.sb s) 0)
   have hnx:=HNX.out s (by omega) x hx.symm W9 NU.out;rw[<-hx]at ht1 ht2;obtain⟨y,hy⟩:∃y,R[q]?=some y:=⟨_,afE (by have:=HN.out;omega)⟩;obtain⟨hk1,hk2⟩:=HFO.out.ktr q y hy;obtain⟨B,off,rfl,hBl,_,_,hd2⟩:=HR.out q y hy;have hd9:=(QT.out.cell (p:=⟨B,off+q*3+2,none⟩) hBl).trans hd2;obtain⟨kb,ko,rfl,hkb,hkc⟩:=HKC.out q hq;have hk9:=(NU.out.cell (p:=⟨kb,ko+q,none⟩) hkb).trans hkc;have aaZ:kb<W9.heap.size:=afN hkb NU.out.size;have hB9:B<W9.heap.size:=afN hBl QT.out.size;have hN9:NB<W9.heap.size:=afN HX4.out.lt NU.out.size;obtain⟨kq,hkq⟩:=afC (kind.getD q 0);rw[<-hkq]at ht1 ht2 hk1 hk2 hk9;have q0:(0:Int)<=(q:Int):=(by omega);have q1:(q:Int)<(n:Int):=(by omega);obtain⟨nm,re,tr⟩:=y;obtain⟨xk,xf,xa,xt,xe⟩:=x;simp only at ht1 ht2 hk1 hk2 hd9 hnx;have HT1:=hid ht1;have HT2:=hid ht2;have HK1:=hid hk1;have HK2:=hid hk2;clear ht1 ht2 hk1 hk2 hx hy hd2 hkc hkq ha1 ha2 ha3 hra hsl HSR;go_upto_region 16 with (first
    | (go_at_call 20;((with_reducible refine hnx.mono ?_);rintro e W10 ⟨rfl,Bo⟩;have xY:=Bx.new W10 42 #[.int .i64 0,.int .i64 0,.int .i64 0,.int .i64 0,.int .i64 0]))
    | ((with_reducible refine bJ ?_);refine AX.aj (vs:=[.int .i64 xk,.int .i64 xf,.int .i64 xa,.int .i64 xt,.int .i64 xe]) rfl rfl Lx.mY xY rfl rfl ?_;rintro W11 g3 g4 g5))
   have x11:Bx W11 W10.heap.size 42 #[.int .i64 xk,.int .i64 xf,.int .i64 xa,.int .i64 xt,.int .i64 xe]:=g3;have QU:Below W10.heap.size W10 W11:=((afI W10.heap.size W10).alloc afD _).trans (AX.ah afD (.inl x11.lt) g4 g5);have zI:Below W9.heap.size W9 W11:=Bo.trans (QU.mono Bo.size);obtain⟨YB,hYB⟩:=afC W10.heap.size;rw[<-hYB]at x11⊢;have HLO:Hid (Below w.heap.size w W11):=hid (QT.out.trans (zI.mono QT.out.size));have hd:=(zI.cell (p:=⟨B,off+q*3+2,none⟩) hB9).trans hd9;have hkk:=(zI.cell (p:=⟨kb,ko+q,none⟩) aaZ).trans hk9;have l2:=(zI.cell (p:=⟨NB,2,none⟩) hN9).trans l2;have y0:W11.cell? ⟨YB,0,none⟩=some (.int .i64 xk):=x11.cell 0;have y2:W11.cell? ⟨YB,2,none⟩=some (.int .i64 xa):=x11.cell 2;have y3:W11.cell? ⟨YB,3,none⟩=some (.int .i64 xt):=x11.cell 3;have aa0:kb<W11.heap.size:=afN aaZ zI.size;have adv:NB<W11.heap.size:=afN hN9 zI.size;have YH:YB<W11.heap.size:=x11.lt;clear g3 g4 g5 xY hYB Bo QU zI l0 l1 l3 hd9 hk9 hnx x11
   cases tr with
   | true =>
    obtain rfl:kq = -1:=HK1.out rfl;obtain⟨hxk,hxa⟩:=HT2.out (by omega);obtain rfl:xk = -2:=hxk;obtain rfl:xa=s.size:=hxa;have he:((s.size:Int) == (s.size:Int))=true:=(by simp);go_wp2_with fail
    exact afJ (v:=.bool true) (by simp[results,Tryz.results6,go_sem]) rfl ⟨rfl,HLO.out⟩
   | false =>
    have hk0:=HK2.out rfl;obtain⟨hxk,hxt,hxa⟩:=HT1.out hk0;obtain rfl:xk=kq:=hxk;obtain rfl:xt=s.size:=hxt;obtain rfl:xa=0:=hxa;have he:((s.size:Int) == (s.size:Int))=true:=(by simp);have he2:(xk == xk)=true:=(by simp);go_upto_region 18 with fail
    haveI:Inhabited (AX.BW W11):=⟨⟨W11,afI _ _⟩⟩;have m0:=AX.aA y0 YH;have m2:=AX.aA y2 YH;have m3:=AX.aA y3 YH;have m4:=AX.aA l2 adv;have m5:=AX.aA hkk aa0;clear y0 y2 y3 l2 hkk hd;refine AX.aF (by kernel_rfl) (by kernel_rfl) ?_
    repeat (go_big_quiet_step (fail))
    refine afQ ?_;rintro _ ⟨p,rfl⟩;obtain⟨W12,Bv⟩:=p;simp only;have HL2:Hid (Below w.heap.size w W12):=hid (HLO.out.trans (Bv.mono HLO.out.size));clear m0 m2 m3 m4 m5 Bv;go_wp2_with fail
    exact afJ (v:=.bool true) (by simp[results,Tryz.results6,go_sem]) rfl ⟨rfl,HL2.out⟩
end Go.Proofs.YtkjgogdkdejljaaGreatDoor.Df
namespace Go.Proofs.YtkjgogdkdejljaaGreatDoor.AX
open Go
variable {H : Type} {enc : TypeId × Value -> H} {P : Program} {w w' : World}
theorem jr{α β: Type}{f g: α->Option β}: ∀{l:List α} {xs:List β},l.mapM f=some xs->(∀a∈l,∀y∈xs,f a=some y->g a=some y)->l.mapM g=some xs
 | [],xs,h,_=>by simpa using h
 | a::l,xs,h,hg=>by
  rw[aiy]at h⊢
  cases hf:f a with
  | none=>rw[hf]at h;cases h
  | some y =>
   rw[hf]at h
   cases hr:l.mapM f with
   | none=>simp[hr]at h
   | some ys =>
    simp[hr]at h;subst h;rw[hg a (afS ..) y (afS ..) hf];simp[jr hr fun b hb z hz=>hg b (afV _ hb) z (afV _ hz)]
theorem mapM_len{α β: Type}{f: α->Option β}: ∀{l:List α} {xs:List β},l.mapM f=some xs->xs.length=l.length
 | [],xs,h=>by simp at h;subst h;rfl
 | a::l,xs,h=>by
  rw[aiy]at h
  cases hf:f a with
  | none=>rw[hf]at h;cases h
  | some y =>
   rw[hf]at h
   cases hr:l.mapM f with
   | none=>simp[hr]at h
   | some ys =>
    simp[hr]at h;subst h;simp[mapM_len hr]
theorem qh{α β: Type}{o o':Option α}{f g: α->Option β}{y: β}(h:o.bind f=some y)(ho:∀x,o=some x->o'=some x)(hf:∀x,f x=some y->g x=some y):o'.bind g=some y:=by
 cases o with
 | none=>cases h
 | some x=>rw[ho x rfl];exact hf x h
theorem uo{α β: Type}{o o':Option α}{f: α->β}{y: β}(h:o.map f=some y)(ho:∀x,o=some x->f x=y->o'=some x):o'.map f=some y:=by
 cases o with
 | none=>cases h
 | some x =>
  have e:f x=y:=by simpa using h
  rw[ho x rfl e];simp[e]
def xg(w w':World):Prop:=∀(k:Nat)(o:Obj),w.heap[k]?=some o->w'.heap[k]?=some o
theorem xg.cell(h:xg w w'){a:Addr}{v:Value}(hc:w.cell? a=some v):w'.cell? a=some v:=by
 unfold World.cell? at hc⊢
 cases hb:w.heap[a.block]? with
 | none=>simp[hb]at hc
 | some o=>rw[hb]at hc;rw[h _ _ hb];exact hc
theorem xg.cells(h:xg w w'){b:Nat}{a:Addr}{n:Nat}{l:List Value}(hc:w.cells? b a n=some l):w'.cells? b a n=some l:=by
 unfold World.cells? at hc⊢;split at hc
 ·rename_i h0
  rw[afR h0];exact jr hc fun i _ y _ hy=>h.cell hy
 ·cases hc
def uq(P:Program)(l:List Nat):Bool:=l.all fun t=>match P.underlying t with
 | some (.pointer e)=>l.contains e
 | some (.slice e)=>l.contains e && !(Nat.beq (P.cellsOf e) 0)
 | some (.struct fs)=>fs.toList.all fun f=>l.contains f.type
 | some (.array _ e)=>l.contains e
 | some (.map _ e)=>l.contains e
 | _=>true
theorem Kr{l:List Nat}(h:uq P l=true){t:Nat}(ht:t∈l):(match P.underlying t with
 | some (.pointer e)=>l.contains e
 | some (.slice e)=>l.contains e && !(Nat.beq (P.cellsOf e) 0)
 | some (.struct fs)=>fs.toList.all fun f=>l.contains f.type
 | some (.array _ e)=>l.contains e
 | some (.map _ e)=>l.contains e
 | _=>true)=true:=agk.1 h t ht
theorem mem_row(a:Addr)(n:Nat)(h:0<n):MemPlace.cell a.block a.off∈MemPlace.row a n:=by
 unfold MemPlace.row;exact agv.2 ⟨0,agH.2 h,by simp⟩
theorem uw{α β: Type}{l:List (α×List β)}{y: α×List β}(hy:y∈l){p: β}(hp:p∈y.2):p∈l.flatMap (·.2):=aht.2 ⟨y,hy,hp⟩
theorem Oy(hk:xg w w'){l:List Nat}(hz:uq P l=true)(sp:Nat->Bool):∀(fuel:Nat)(t:TypeId),t∈l->∀(cs:List Value)(d:DataW H)(ps:List MemPlace),
  DataW.trod enc P w 0 (fun _=>true) true fuel t cs=some (d,ps)->(∀p∈ps,sp p.block=true)->DataW.trod enc P w' 0 sp true fuel t cs=some (d,ps):=by
 intro fuel
 induction fuel with
 | zero=>intro t _ cs d ps h _;cases h
 | succ n ih =>
  intro t ht cs d ps h hp;have hc:=Kr hz ht;unfold DataW.trod at h⊢;split at h
  case h_6 =>
   rename_i e a hu;rw[hu]at hc;have hc:e∈l:=(by simpa using hc);refine uo h fun x hx he=>?_
   cases he
   exact qh hx (fun l hl=>hk.cells hl) fun l hl=>ih _ hc _ _ _ hl fun p hpp=>hp p (agP _ hpp)
  case h_8 =>
   rename_i e a len cap hu;rw[hu]at hc;simp only[afU]at hc;obtain⟨hc,hz0⟩:=hc;have hc:e∈l:=(by simpa using hc);have hz0:P.cellsOf e≠0:=(by intro h0;rw[h0]at hz0;cases hz0);split at h
   ·rename_i h0
    rw[afR h0]
    cases hE:(List.range len).mapM fun i=>(w.cells? 0 (a.add (i*P.cellsOf e)) (P.cellsOf e)).bind (DataW.trod enc P w 0 (fun _=>true) true n e)with
    | none=>simp[hE]at h
    | some elems =>
     cases hR:(List.range (cap-len)).mapM fun j=>(w.cells? 0 (a.add ((len+j)*P.cellsOf e)) (P.cellsOf e)).bind (DataW.trod enc P w 0 (fun _=>true) true n e)with
     | none=>simp[hE,hR]at h
     | some rest =>
      simp[hE,hR]at h;obtain⟨h1,h2⟩:=h;have hE':((List.range len).mapM fun i=>(w'.cells? 0 (a.add (i*P.cellsOf e)) (P.cellsOf e)).bind (DataW.trod enc P w' 0 sp true n e))=some elems:=
       jr hE fun i _ y hy h=>qh h (fun l hl=>hk.cells hl) fun l hl=>ih _ hc _ _ _ hl fun p hpp=>hp p (by
        rw[<-h2];exact agP _ (agY _ (uw hy hpp)))
      have hR':((List.range (cap-len)).mapM fun j=>(w'.cells? 0 (a.add ((len+j)*P.cellsOf e)) (P.cellsOf e)).bind (DataW.trod enc P w' 0 sp true n e))=some rest:=
       jr hR fun i _ y hy h=>qh h (fun l hl=>hk.cells hl) fun l hl=>ih _ hc _ _ _ hl fun p hpp=>hp p (by
        rw[<-h2];exact agP _ (agP _ (uw hy hpp)))
      have aee:sp a.block=true\/rest=[]:=by
       by_cases hr:rest=[]
       ·exact .inr hr
       ·refine .inl (hp (.cell a.block a.off) ?_)
        rw[<-h2];refine agY _ (mem_row _ _ ?_);have:0<rest.length:=List.length_pos_iff.2 hr;exact Nat.mul_pos (by omega) (Nat.pos_of_ne_zero hz0)
      rcases aee with hs|rfl
      ·simp[hE',hR',hs,h1,h2]
      ·have hl0:cap-len=0:=by
        have:=mapM_len hR;simp at this;omega
       rw[hl0];simp[hE'];exact⟨h1,by simpa using h2⟩
   ·cases h
  case h_9 =>
   rename_i fs hu;rw[hu]at hc;have hc:∀f∈fs.toList,f.type∈l:=fun f hf=>by simpa using agk.1 hc f hf
   split at h
   ·rename_i h0
    rw[afR h0];refine uo h fun x hx he=>?_
    cases he
    exact jr hx fun f hfm y hy hf=>ih _ (hc f hfm) _ _ _ hf fun p hpp=>hp p (uw hy hpp)
   ·cases h
  case h_10 =>
   rename_i m e hu;rw[hu]at hc;have hc:e∈l:=(by simpa using hc);split at h
   ·rename_i h0
    rw[afR h0];refine uo h fun x hx he=>?_
    cases he
    exact jr hx fun f _ y hy hf=>ih _ hc _ _ _ hf fun p hpp=>hp p (uw hy hpp)
   ·cases h
  case h_14 =>
   rename_i k e b hu;rw[hu]at hc;have hc:e∈l:=(by simpa using hc);split at h
   ·rename_i es clock hb
    rw[hk _ _ hb];simp only;split at h
    ·rename_i h0
     rw[afR h0]
     cases hE:es.toList.mapM (fun x=>(keyOf P k x.key).bind fun key=>if x.val.formed P e then (DataW.trod enc P w 0 (fun _=>true) true n e x.val.cells.toList).map fun y=>((key,y.1),y.2)else none)with
     | none=>simp only[hE,Option.bind_none]at h;cases h
     | some entries =>
      simp only[hE,Option.bind_some]at h;split at h
      ·rename_i hr
       cases h
       have hE':es.toList.mapM (fun x=>(keyOf P k x.key).bind fun key=>if x.val.formed P e then (DataW.trod enc P w' 0 sp true n e x.val.cells.toList).map fun y=>((key,y.1),y.2)else none)=some entries:=by
        refine jr hE fun x _ y hy hx=>qh hx (fun _ h=>h) fun key hkk=>?_;split at hkk
        ·rename_i hfm
         rw[afR hfm];refine uo hkk fun z hz he=>?_;exact ih _ hc _ _ _ hz fun p hpp=>hp p (afV _ (aht.2 ⟨y,hy,by rw[<-he];exact hpp⟩))
        ·cases hkk
       simp only[hE',Option.bind_some];rw[afR hr]
      ·cases h
    ·cases h
   ·cases h
  all_goals first
   | exact h
   | cases h
theorem Oz(hk:xg w w'){l:List Nat}(hz:uq P l=true){sp:Nat->Bool}{t:TypeId}(ht:t∈l){v:Value}{d:DataW H}{ps:List MemPlace}(h:DataW.Trod enc P w 0 (fun _=>true) true t v d ps)(hp:∀p∈ps,sp p.block=true):
  DataW.Trod enc P w' 0 sp true t v d ps:=by
 obtain⟨n,h⟩:=h;exact⟨n,Oy hk hz sp n _ ht _ _ _ h hp⟩
theorem uy(hk:xg w w'){l:List Nat}(hz:uq P l=true){sp:Nat->Bool}: ∀{ts:List TypeId} {vs:List Value} {ds:List (DataW H)} {ps:List MemPlace},(∀t∈ts,t∈l)->DataW.TrodAll enc P w 0 (fun _=>true) true ts vs ds ps ->
  (∀p∈ps,sp p.block=true)->DataW.TrodAll enc P w' 0 sp true ts vs ds ps
 | [],[],[],_,_,h,_=>h
 | t::ts,v::vs,d::ds,ps,ht,h,hp=>by
  obtain⟨p,q,h1,h2,rfl⟩:=h;exact⟨p,q,Oz hk hz (ht t (afS ..)) h1 fun x hx=>hp x (agY _ hx),uy hk hz (fun t h=>ht t (afV _ h)) h2 fun x hx=>hp x (agP _ hx),rfl⟩
 | [],[],_::_,_,_,h,_=>h.elim
 | [],_::_,_,_,_,h,_=>h.elim
 | _::_,[],_,_,_,h,_=>h.elim
 | _::_,_::_,[],_,_,h,_=>h.elim
theorem Kept.ab2(k:Kept w w'):xg w w':=k.block
theorem NV{f:Func}{s:ChangeSpec}{apart fresh handsOn again:Bool}{W W':World}{args:Array Value}{v:Value}{ds:List (DataW H)}{before:List MemPlace}{l:List Nat}(hz:uq P l=true)(hl:∀t∈f.params.toList,t∈l)
  (hW:DataW.Whole enc P f.params.toList s.vars apart W args.toList ds [] before)
  (hres:∀(b:Nat)(sp:Nat->Bool)(hd:Bool),DataW.TrodAll enc P W' b sp hd f.resultTypes.toList (v.resultList f.resultTypes.size) (s.fn H (ds++[])).results [])
  (hargs:(s.fn H (ds++[])).args=ds) (hv:s.vars=[]) (hvars:(s.fn H (ds++[])).vars=[]) (hk:Kept W W')
  (hok:∀(j:Nat)(t:TypeId)(r:Value),f.resultTypes[j]?=some t->(v.resultList f.resultTypes.size)[j]?=some r->Value.okWide P W' .any 0 t r):
  s.post enc P f apart fresh handsOn again W args v W':=by
 have hW':=hW;obtain⟨p,q,hA,hV,rfl,_,_⟩:=hW';rw[hv]at hV;obtain rfl:q=[]:=hV;exact D6 (pa:=p) (pv:=[]) hW hres (fun sp hsp=>by rw[hargs];exact uy hk.ab2 hz hl hA fun x hx=>hsp x (agY _ hx))
  (fun sp _=>by rw[hv,hvars];exact rfl) rfl hk hok
end Go.Proofs.YtkjgogdkdejljaaGreatDoor.AX
namespace Go.Proofs.YtkjgogdkdejljaaGreatDoor.Df
open Go Go.Proofs Go.ChangeShapes Go.WideShapes Go.ChangeAt Go.RowKit
theorem own:ownKnob Tryz.prog.godebug=none:=by kernel_rfl
def laid1:List (String×DataW Unit):=[("math/bits.deBruijn64tab",Rows.laid_math_bits_deBruijn64tab)]
theorem door_met(os:Os)(args:Array Value):laidMetH Tryz.prog laid1 ((World.doorLaid Tryz.prog 14 os).forCall (fun _ _=>0) ⟨#[],args,[]⟩).memory:=
 laidMetH_of_parts3 (fuel:=8) (laidMet_of_run' 8 (by kernel_rfl) (by kernel_rfl)) (by kernel_rfl) (by kernel_rfl)
theorem Jz{w w':World}(h:Below w.heap.size w w'):AX.Kept w w':=⟨h.os,h.output,h.tape,fun k _ hk=>(h.block k (afF.1 hk).1).trans hk⟩
theorem QE:∀j:Fin 64,nums[j.val]?=some ((Lib.deBruijn64tab.getD j.val 0:Nat):Int):=by decide +kernel
theorem YA{W:World}(h:AX.yC W 0 .u8 nums):0<W.heap.size/\TabAt W:=by
 obtain⟨cs,e,fz,h1,h2⟩:=h;refine⟨(afF.1 h1).1,fun j hj=>?_⟩;have h3:W.cell? ⟨0,j,none⟩=cs[j]?:=by simp[World.cell?,h1]
 rw[h3,<-Array.getElem?_toList,h2,af8,QE ⟨j,hj⟩];rfl
theorem wW{α: Type}{p:Nat->α->Prop}: ∀n,(∀i,i<n->∃x,p i x)->∃l:List α,l.length=n/\∀i (h:i<l.length),p i l[i]
 | 0,_=>⟨[],rfl,fun i h=>by cases h⟩
 | n+1,h=>by
  obtain⟨l,hl,hp⟩:=wW n fun i hi=>h i (by omega);obtain⟨x,hx⟩:=h n (ag9 n);refine⟨l++[x],by simp[hl],fun i hi=>?_⟩
  by_cases e:i<l.length
  ·rw[List.getElem_append_left e];exact hp i e
  ·have e2:i=l.length:=by simp at hi;omega
   subst e2;rw[List.getElem_append_right afD]
   simpa[hl]using hx
section
variable {H : Type} {enc : TypeId × Value -> H} {w : World} {base : Nat} {sp : Nat -> Bool} {held : Bool}
theorem adr:Tryz.prog.cellsOf 35=3:=by kernel_rfl
theorem hc9:Tryz.prog.cellsOf 9=1:=by kernel_rfl
theorem hc4:Tryz.prog.cellsOf 4=1:=by kernel_rfl
theorem Lj{n:Nat}{c:Value}{y:DataW H×List MemPlace}(h:DataW.trod enc Tryz.prog w base sp held n 9 [c]=some y):∃s:ByteArray,c=.string s:=by
 obtain⟨s,h1,_⟩:=DataW.trod_string Tryz.underlying9 h;exact⟨s,by simpa using h1⟩
theorem QG{n:Nat}{c:Value}{y:DataW H×List MemPlace}(h:DataW.trod enc Tryz.prog w base sp held n 4 [c]=some y):∃b:Bool,c=.bool b:=by
 obtain⟨s,h1,_⟩:=DataW.trod_bool Tryz.underlying4 h;exact⟨s,by simpa using h1⟩
theorem JA{r:Reach}{b0:Nat}{v:Value}{d:DataW H}{p:List MemPlace}(hv:Value.okWide Tryz.prog w r b0 22 v)(h:DataW.Trod enc Tryz.prog w base sp held 22 v d p):
  ∃(la:Option Addr)(R:List Rl)(c:Nat),v=.slice la R.length c/\R.length<=9223372036854775807/\yX w la R:=by
 simp only[Value.okWide,Tryz.underlying22]at hv;obtain⟨sa,sn,sc,rfl⟩:∃a n c,v=.slice a n c:=by cases v<;>first|exact⟨_,_,_,rfl⟩|exact hv.elim
 obtain⟨fuel,hf⟩:=h;rcases Deep.open_slice Tryz.underlying22 hf with ⟨h1,_⟩|⟨a,len,cap,m,n,D,Pl,h1,_,hl,hcap,hm,_,hx⟩
 ·simp[Value.cells]at h1
  obtain⟨rfl,rfl,rfl⟩:=h1;exact⟨none,[],0,rfl,af0 _,fun i x h=>by simp at h⟩
 ·simp[Value.cells]at h1
  obtain⟨rfl,rfl,rfl⟩:=h1;have hle:sn<=m:=by rw[hm];split<;>omega
  obtain⟨l,hlen,hk⟩:=wW (p:=fun i (x:Rl)=>w.cell? ((a.add (i*3)).add 0)=some (.string x.nm)/\w.cell? ((a.add (i*3)).add 1)=some (.string x.re)/\w.cell? ((a.add (i*3)).add 2)=some (.bool x.tr)) sn fun i hi=>by
   obtain⟨cs',h2,h3⟩:=hx i (by omega);rw[adr]at h2;obtain⟨_,hlen,hcell⟩:=World.cells?_some h2;obtain⟨c0,c1,c2,rfl⟩:∃c0 c1 c2,cs'=[c0,c1,c2]:=by
    match cs',hlen with
    | [c0,c1,c2],_=>exact⟨c0,c1,c2,rfl⟩
   obtain⟨y0,y1,y2,n',_,_,g0,g1,g2⟩:=Deep.trod_struct3 Tryz.underlying35 h3;simp only[hc9,hc4]at g0 g1 g2;obtain⟨s0,rfl⟩:=Lj g0;obtain⟨s1,rfl⟩:=Lj g1;obtain⟨s2,rfl⟩:=QG g2;exact⟨⟨s0,s1,s2⟩,hcell 0 (by simp),hcell 1 (by simp),hcell 2 (by simp)⟩
  subst hlen;refine⟨some a,l,sc,rfl,by unfold maxLen at hcap;omega,fun i x hx=>?_⟩;obtain⟨hi,rfl⟩:=afW.1 hx;obtain⟨k0,k1,k2⟩:=hk i hi;obtain⟨kz,_,_⟩:=hk 0 (by omega);have ez:(a.add (0*3)).add 0=a:=by simp[Addr.add]
  rw[ez]at kz;have hsp:=World.cell?_spot kz;have hlt:=block_lt_of_cell kz;obtain⟨B,off,spot⟩:=a;simp only at hsp hlt;subst hsp;have hB:B<w.heap.size:=hlt;rw[addr_add,addr_add]at k0 k1 k2;exact⟨B,off,rfl,hB,k0,k1,k2⟩
end
end Go.Proofs.YtkjgogdkdejljaaGreatDoor.Df
