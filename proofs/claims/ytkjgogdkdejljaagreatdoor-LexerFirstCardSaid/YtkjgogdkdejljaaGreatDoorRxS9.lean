import Derived.Test.YtkjgogdkdejljaaGreatDoorRxR8
set_option maxRecDepth 100000
set_option maxHeartbeats 40000000
namespace Go.Proofs.YtkjgogdkdejljaaGreatDoor.Rx
section
open Go.Lib (hid)
open Go Go.Proofs Go.RowKit
attribute [local go_sem] Oper.semAt_some
theorem TJ(Rb:Nat)(s:ByteArray)(at_:Int)(rv sv:Value)(e:Int)(w:World)(hR:Rdr w Rb s at_ rv sv e):∀p:AX.BW w,Calls Tryz.prog 89 #[.pointer (some ⟨Rb,0,none⟩)] p.W fun x w'=>x=.returned (.bool (dh s.size at_ e))/\∃q:AX.BW w,w'=q.W:=fun p =>
 AX.dw (AP Rb s at_ rv sv e p.W (hR.below p.h hR.lt))
def wsV(c:C4):Array Value:=#[.int .u64 c.a,.int .u64 c.b,.int .u64 c.c,.int .u64 c.d]
def dP(W:World)(B:Nat)(c:C4):Prop:=Bx W B 116 (wsV c)
theorem dP.cells{W:World}{B:Nat}{c:C4}(h:dP W B c):W.cell? ⟨B,0,none⟩=some (.int .u64 c.a)/\W.cell? ⟨B,1,none⟩=some (.int .u64 c.b)/\W.cell? ⟨B,2,none⟩=some (.int .u64 c.c)/\W.cell? ⟨B,3,none⟩=some (.int .u64 c.d):=⟨Bx.cell h 0,Bx.cell h 1,Bx.cell h 2,Bx.cell h 3⟩
def numOf(W:World)(B o:Nat):Int:=match W.cell? ⟨B,o,none⟩with
 | some (.int _ n)=>n
 | _=>0
theorem uN{W:World}{Rb:Nat}{s:ByteArray}{at_ e:Int}{rv sv:Value}(h:Rdr W Rb s at_ rv sv e):numOf W Rb 1=at_/\numOf W Rb 4=e:=by
 obtain⟨_,c1,_,_,c4⟩:=Bx.fiv h;unfold numOf;rw[c1,c4];exact⟨rfl,rfl⟩
theorem kX{w W W':World}{A B:Nat}(h:AX.But A w W)(hB:w.heap.size<=B)(h3:B<W'.heap.size)(h4:∀j,j≠B->W'.heap[j]?=W.heap[j]?)(h5:AX.Same W W'):AX.But A w W':=
 ⟨h.low.trans (AX.ah (n:=0) (af0 _) (.inl h3) h4 h5),fun k hk hn=>(h4 k (by omega)).trans (h.same k hk hn)⟩
theorem KG(s:ByteArray)(k:Nat)(_hk:k<=s.size)(rs:ByteArray)(hrs:rs=s.extract k s.size):rs.size=s.size-k/\∀i (h:i<rs.size),((rs[i].toNat:Nat):Int)=bg s (k+i):=by
 subst hrs;refine⟨by rw[ByteArray.size_extract];omega,fun i h=>?_⟩;have h2:k+i<s.size:=by rw[ByteArray.size_extract]at h;omega
 rw[gU s (k+i) h2,ByteArray.getElem_extract]
theorem Wu(Rb:Nat)(s:ByteArray)(a:Nat)(rv sv:Value)(w:World)(hR:Rdr w Rb s a rv sv 0)(hs:s.size<=1000000)(ha:a<=s.size):
  Calls Tryz.prog 137 #[.pointer (some ⟨Rb,0,none⟩)] w fun x w'=>x=.returned (kQ s a).1.v/\Rdr w' Rb s (kQ s a).2.1 rv sv (kQ s a).2.2/\AX.But Rb w w':=by
 obtain⟨nt,hnt⟩:=afC ((dh s.size a 0 && (bg s a == 94)));obtain⟨a1,ha1⟩:=afC ((if nt then a+1 else a));have aeg:a1<=s.size:=by
  cases nt with
  | false=>rw[ha1];simpa using ha
  | true =>
   have h1:=hnt.symm;rw[afU,bY]at h1;rw[ha1];simp;omega
 obtain⟨xx,hxx⟩:=afC (uO s (s.size-a1) a1 0 .zero);have HV:Hid (kQ s a=if dh s.size xx.1 xx.2.1=true then (if nt then xx.2.2.not else xx.2.2,xx.1+1,0)else (xx.2.2,if xx.2.1=0 then s.size else xx.1,if xx.2.1=0 then 8 else xx.2.1)):=hid (by
  unfold kQ;simp only[<-hnt,<-ha1,<-hxx])
 obtain⟨Bc,hBc⟩:=afC w.heap.size;have HBC:=hid hBc;have HX:=hid hxx;have hRl:=hR.lt;go_enter Tryz.func137,Tryz.ntmps137
 go_wp2_with fail
 rw[<-hBc];obtain⟨W0,hW0⟩:=afC (w.alloc (.cells #[.int .u64 0,.int .u64 0,.int .u64 0,.int .u64 0] 116));have hR0:Rdr W0 Rb s a rv sv 0:=by rw[hW0];exact hR.alloc _
 rw[<-hW0];have hb0:AX.But Rb w W0:=by rw[hW0];exact AX.But.of_below ((afI _ w).alloc afD _)
 have hC0:dP W0 Bc .zero:=by rw[hW0,hBc];exact Bx.new _ _ _
 have HN:=hid hnt;have HA1:=hid ha1;clear hW0 hBc hnt ha1 hxx;go_cut [3]from 8 to 21 (fun t3 wz=>t3=.bool nt/\Rdr wz Rb s a rv sv 0/\dP wz Bc .zero/\AX.But Rb w wz)
 case first =>
  obtain⟨c0,c1,c2,c3,c4⟩:=Bx.fiv hR0;have d0:=AX.aA c0 hR0.lt;have d1:=AX.aA c1 hR0.lt;have hmb:=TJ Rb s a rv sv 0 W0 hR0
  by_cases hal:a<s.size
  ·have hm:dh s.size a 0=true:=bY.2 ⟨rfl,hal⟩
   have hal2:(a:Int)<(s.size:Int):=(by omega);have HNT:nt=(bg s a == 94):=(by rw[HN.out,hm,ahM]);rw[hm]at hmb;have HNT:=hid HNT;refine AX.aF (by kernel_rfl) (by kernel_rfl) ?_
   repeat (go_big_quiet_step (first|(go_at_call 89;with_reducible exact(hmb _))))
   refine afQ ?_;rintro W2 ⟨p,rfl⟩;obtain⟨W2,hb2⟩:=p;change Below _ _ _ at hb2;have hR2:Rdr W2 Rb s a rv sv 0:=hR0.below hb2 hR0.lt;have hC2:dP W2 Bc .zero:=Bx.below hC0 hb2 (Bx.lt hC0);have hB2:AX.But Rb w W2:=hb0.trans (AX.But.of_below hb2);simp only[<-gU s a hal,<-HNT.out];go_wp2_with fail
   go_meet
   case rel=>exact⟨rfl,hR2,hC2,hB2⟩
  ·have hm:dh s.size a 0=false:=by rw[<-Bool.not_eq_true,bY];rintro⟨_,h⟩;exact hal h
   have HNT:nt=false:=(by rw[HN.out,hm,Bool.false_and]);rw[hm]at hmb;refine AX.aF (by kernel_rfl) (by kernel_rfl) ?_
   repeat (go_big_quiet_step (first|(go_at_call 89;with_reducible exact(hmb _))))
   refine afQ ?_;rintro W2 ⟨p,rfl⟩;obtain⟨W2,hb2⟩:=p;change Below _ _ _ at hb2;have hR2:Rdr W2 Rb s a rv sv 0:=hR0.below hb2 hR0.lt;have hC2:dP W2 Bc .zero:=Bx.below hC0 hb2 (Bx.lt hC0);have hB2:AX.But Rb w W2:=hb0.trans (AX.But.of_below hb2);go_wp2_with fail
   go_meet
   case rel=>exact⟨by rw[HNT],hR2,hC2,hB2⟩
 case rest =>
  obtain⟨rfl,hR2,hC2,hB2⟩:=hcut;clear hR0 hb0 hC0;go_upto_if 22 with (fail)
  go_cut [3]from 23 to 29 (fun t3 wz=>t3=.bool nt/\Rdr wz Rb s a1 rv sv 0/\dP wz Bc .zero/\AX.But Rb w wz)
  case first =>
   cases nt
   ·have e1:a1=a:=HA1.out
    go_wp2_with fail
    go_meet
    case rel=>exact⟨rfl,by rw[e1];exact hR2,hC2,hB2⟩
   ·have e1:a1=a+1:=HA1.out
    have c1:wc.cell? ⟨Rb,1,none⟩=some (.int .i64 a):=hR2.cell 1;have f1:=hR2.frozen 1;have hne:Bc≠Rb:=(by have:=HBC.out;omega);go_wp2_with fail
    go_meet
    case rel=>exact⟨rfl,by rw[e1];exact Bx.set hR2 1 (.int .i64 ((a:Int)+1)),Bx.other hC2 hne,hB2.trans (iZ _ _ _ _)⟩
  case rest =>
   obtain⟨rfl,hR3,hC3,hB3⟩:=hcut;clear hR2 hC2 hB2;go_wp2_with fail
   go_loopw [4] (fun _ wr=>∃(n k:Nat)(e:Int)(c:C4),k<=s.size/\Rdr wr Rb s k rv sv e/\dP wr Bc c/\c.Wd/\AX.But Rb w wr/\(e=0->s.size-k<=n)/\Hid (xx=uO s n k e c))
    (fun _ wr=>if numOf wr Rb 4=0 then s.size-(numOf wr Rb 1).toNat+1 else 0)
   case atStart=>exact⟨s.size-a1,a1,0,.zero,aeg,hR3,hC3,C4.Md,hB3,fun _=>agq _,HX⟩
   case round =>
    clear hR3 hC3 hB3;obtain⟨n,k,e,c,hk,hRr,hCr,hWd,hBr,hn,HL⟩:=hrel;have hmb:=TJ Rb s k rv sv e wr hRr;obtain⟨c0,c1,c2,c3,c4⟩:=Bx.fiv hRr;have d0:=AX.aA c0 hRr.lt;have d1:=AX.aA c1 hRr.lt;have d4:=AX.aA c4 hRr.lt
    by_cases hgo:dh s.size k e=true/\bg s k≠93
    ·obtain⟨hm,Zp⟩:=hgo
     obtain⟨rfl,hkl⟩:=bY.1 hm;rw[hm]at hmb;have hkl2:(k:Int)<(s.size:Int):=(by omega);have hby:=gU s k hkl;have Iy:(bg s k != 93)=true:=(by simp[Zp]);have Zq:=hid Iy;have HBY:=hid hby;have HB:=hid Zp;clear hby Zp Iy hm;go_upto_region 4 with (fail)
     refine AX.aF (by kernel_rfl) (by kernel_rfl) ?_
     repeat (go_big_quiet_step (first|(go_at_call 89;with_reducible exact(hmb _))))
     refine afQ ?_;rintro W2 ⟨p,rfl⟩;obtain⟨W2,hb2⟩:=p;change Below _ _ _ at hb2;have hR4:Rdr W2 Rb s k rv sv 0:=hRr.below hb2 hRr.lt;have hC4:dP W2 Bc c:=Bx.below hCr hb2 (Bx.lt hCr);have hB4:AX.But Rb w W2:=hBr.trans (AX.But.of_below hb2);simp only[<-HBY.out,Zq.out];clear c0 c1 c2 c3 c4 d0 d1 d4 hCr hBr hmb;have H1:=yx s k hkl;obtain⟨v,k1,e1,hv,hv2,hk1,hgt⟩:=H1;have ho:=XG Rb s k rv sv 0;rw[hv]at ho;have HP:Hid (dG s k=if e1=0/\k1+1<s.size/\bg s k1=45/\bg s (k1+1)≠93 then (if (qB s (k1+1) 0).2.2=0/\(qB s (k1+1) 0).1.toNat<v then (v,(qB s (k1+1) 0).1.toNat,k1+1,7)else (v,(qB s (k1+1) 0).1.toNat,(qB s (k1+1) 0).2.1.toNat,(qB s (k1+1) 0).2.2))else (v,v,k1,e1)):=hid (by
      unfold dG;simp only[hv,afY])
     have HGT:=hid hgt;clear hv hgt;go_upto_region 7 with (go_at_call 165;(with_reducible refine(ho _ hR4 hs hkl).mono ?_);rintro x W5 ⟨rfl,hR5,hb5⟩;obtain⟨c0,c1,c2,c3,c4⟩:=Bx.fiv hR5;have d0:=AX.aA c0 hR5.lt;have d1:=AX.aA c1 hR5.lt;have d4:=AX.aA c4 hR5.lt)
     have aeh:(k1:Int)<=(s.size:Int):=(by omega);have afq:min (k1:Int) (s.size:Int)=(k1:Int):=Int.min_eq_left aeh;refine AX.aF (by kernel_rfl) (by kernel_rfl) ?_
     repeat (go_big_quiet_step (fail))
     refine afQ ?_;rintro W6 ⟨p,rfl⟩;obtain⟨W6,hb6⟩:=p;change Below _ _ _ at hb6;have hR6:Rdr W6 Rb s k1 rv sv e1:=hR5.below hb6 hR5.lt;have hC6:dP W6 Bc c:=by
      have h5:dP W5 Bc c:=(hb5.same Bc (Bx.lt hC4) (by have:=HBC.out;omega)).trans hC4;exact Bx.below h5 hb6 (Bx.lt h5)
     have hB6:AX.But Rb w W6:=(hB4.trans hb5).trans (AX.But.of_below hb6);clear c0 c1 c2 c3 c4 d0 d1 d4 hR4 hC4 hB4 hR5 hb5;obtain⟨rs,hrs⟩:=afC (s.extract k1 s.size);obtain⟨hrl,hrb⟩:=KG s k1 hk1 rs hrs;rw[<-hrs];clear hrs;obtain⟨pb,hpb⟩:=afC (decide (e1=0/\k1+1<s.size/\bg s k1=45/\bg s (k1+1)≠93));have HPB:=hid hpb;have HRL:=hid hrl;have HRB:=hid hrb;clear hpb hrl hrb;go_upto_region 8 with (fail)
     go_cut [81]from 62 to 80 (fun t81 wz=>t81=.bool pb/\wz=W6)
     case first =>
      obtain⟨c0,c1,c2,c3,c4⟩:=Bx.fiv hR6
      by_cases he1:e1=0
      ·subst he1
       by_cases hsz:k1+1<s.size
       ·have hr1:(1:Int)<(rs.size:Int):=by have:=HRL.out;omega
        have hb0:=HRB.out 0 (by omega);have hb1:=HRB.out 1 (by omega);rw[agV]at hb0
        by_cases h45:bg s k1=45
        ·have p45:(bg s k1 == 45)=true:=by simp[h45]
         by_cases h93:bg s (k1+1)=93
         ·have p93:(bg s (k1+1) != 93)=false:=by simp[h93]
          have hp:pb=false:=(by rw[HPB.out];simp[h93]);go_wp2_with fail
          go_meet
          case rel=>exact⟨by rw[hp],rfl⟩
         ·have p93:(bg s (k1+1) != 93)=true:=by simp[h93]
          have hp:pb=true:=(by rw[HPB.out];simp[h93,h45,hsz]);go_wp2_with fail
          go_meet
          case rel=>exact⟨by rw[hp],rfl⟩
        ·have p45:(bg s k1 == 45)=false:=by simp[h45]
         have hp:pb=false:=(by rw[HPB.out];simp[h45]);go_wp2_with fail
         go_meet
         case rel=>exact⟨by rw[hp],rfl⟩
       ·have hr1:¬(1:Int)<(rs.size:Int):=by have:=HRL.out;omega
        have hp:pb=false:=(by rw[HPB.out];simp[hsz]);go_wp2_with fail
        go_meet
        case rel=>exact⟨by rw[hp],rfl⟩
      ·have hp:pb=false:=by rw[HPB.out];simp[he1]
       go_wp2_with fail
       go_meet
       case rel=>exact⟨by rw[hp],rfl⟩
     case rest =>
      obtain⟨rfl,rfl⟩:=hcut;clear HRB HRL;obtain⟨⟨pl,ph,pk,pe⟩,hpp⟩:∃z,z=dG s k:=⟨_,rfl⟩;rw[<-hpp]at HP;have HPP:=hid hpp;have hne:Bc≠Rb:=(by have:=HBC.out;omega);clear hpp;go_upto_if 81 with (fail)
      go_cut [5]from 82 to 107 (fun t5 wz=>t5=.int .u8 (ph:Nat)/\pl=v/\Rdr wz Rb s pk rv sv pe/\dP wz Bc c/\AX.But Rb w wz)
      case first =>
       cases pb with
       | false =>
        have hno:=of_decide_eq_false HPB.out.symm;have hz:=HP.out;rw[afO hno]at hz;obtain⟨rfl,rfl,rfl,rfl⟩:pl=v/\ph=v/\pk=k1/\pe=e1:=by
         simpa using hz
        clear hno hz HP HPP;go_wp2_with fail
        go_meet
        case rel=>exact⟨rfl,trivial,hR6,hC6,hB6⟩
       | true =>
        obtain⟨he1,hsz,h45,h93⟩:=of_decide_eq_true HPB.out.symm;subst he1;obtain⟨v2,k2,e2,ab6,afr,hk2,hgt2⟩:=yx s (k1+1) hsz;have hz:=HP.out;rw[afR ⟨rfl,hsz,h45,h93⟩]at hz;have ho2:=XG Rb s (k1+1) rv sv 0;rw[ab6]at ho2 hz;simp only[afY]at hz;have HZ:=hid hz;have c1:wc.cell? ⟨Rb,1,none⟩=some (.int .i64 k1):=hR6.cell 1;have f1:=hR6.frozen 1;have hR7:Rdr (wc.setCell ⟨Rb,1,none⟩ (.int .i64 ((k1:Int)+1))) Rb s ((k1+1:Nat):Int) rv sv 0:=Bx.set hR6 1 (.int .i64 ((k1:Int)+1));have hC7:dP (wc.setCell ⟨Rb,1,none⟩ (.int .i64 ((k1:Int)+1))) Bc c:=Bx.other hC6 hne;have hB7:=hB6.trans (iZ wc Rb 1 (.int .i64 ((k1:Int)+1)));clear hz HP h45 h93 ab6 hgt2
        by_cases hbad:e2=0/\v2<v
        ·obtain⟨rfl,hlt⟩:=hbad
         have hlt2:(v2:Int)<(v:Int):=(by omega);have hz:=HZ.out;rw[afR ⟨rfl,hlt⟩]at hz;obtain⟨rfl,rfl,rfl,rfl⟩:pl=v/\ph=v2/\pk=k1+1/\pe=7:=by simpa using hz
         clear hz HZ HPP;go_wp2_with (first
          | (go_at_call 165;(with_reducible refine(ho2 _ hR7 hs hsz).mono ?_);rintro x W8 ⟨rfl,hR8,hb8⟩;obtain⟨c0,c1,c2,c3,c4⟩:=Bx.fiv hR8;have hC8:dP W8 Bc c:=(hb8.same Bc (Bx.lt hC7) hne).trans hC7)
          | (go_at_call 91;(with_reducible refine(lK Rb s _ rv sv 0 _ _ _ hR8).mono ?_);rintro x W9 ⟨rfl,hR9,hb9⟩;have hC9:dP W9 Bc c:=(hb9.same Bc (Bx.lt hC8) hne).trans hC8))
         go_meet
         case rel=>exact⟨rfl,trivial,hR9,hC9,(hB7.trans hb8).trans hb9⟩
        ·have hz:=HZ.out
         rw[afO hbad]at hz;obtain⟨rfl,rfl,rfl,rfl⟩:pl=v/\ph=v2/\pk=k2/\pe=e2:=by simpa using hz
         clear hz HZ HPP;have ab7:pe≠0\/(pe=0/\¬((ph:Int)<(pl:Int))):=by
          by_cases h0:pe=0
          ·exact .inr ⟨h0,fun h=>hbad ⟨h0,by omega⟩⟩
          ·exact .inl h0
         clear hbad;rcases ab7 with h0|⟨rfl,h0⟩
         ·go_wp2_with (go_at_call 165;(with_reducible refine(ho2 _ hR7 hs hsz).mono ?_);rintro x W8 ⟨rfl,hR8,hb8⟩;obtain⟨c0,c1,c2,c3,c4⟩:=Bx.fiv hR8;have hC8:dP W8 Bc c:=(hb8.same Bc (Bx.lt hC7) hne).trans hC7)
          go_meet
          case rel=>exact⟨rfl,trivial,hR8,hC8,hB7.trans hb8⟩
         ·go_wp2_with (go_at_call 165;(with_reducible refine(ho2 _ hR7 hs hsz).mono ?_);rintro x W8 ⟨rfl,hR8,hb8⟩;obtain⟨c0,c1,c2,c3,c4⟩:=Bx.fiv hR8;have hC8:dP W8 Bc c:=(hb8.same Bc (Bx.lt hC7) hne).trans hC7)
          go_meet
          case rel=>exact⟨rfl,trivial,hR8,hC8,hB7.trans hb8⟩
      case rest =>
       obtain⟨rfl,rfl,hR9,hC9,hB9⟩:=hcut;clear hR6 hC6 hB6 HPB HP;obtain⟨hpl,hph,hpk,hpe⟩:pl<256/\ph<256/\pk<=s.size/\(pe=0->k<pk):=by
        have:=Iz s k hkl;rw[<-HPP.out]at this;exact this
       have HPE:=hid hpe;clear hpe;go_wp2_with fail
       have hbd:=(afI wc.heap.size wc).drew;have Oq:=Bx.below hR9 hbd (Bx.lt hR9);have Wv:dP wc.drew Bc c:=Bx.below hC9 hbd (Bx.lt hC9);have ab8:=hB9.trans (AX.But.of_below hbd);obtain⟨C,hCi,hCo⟩:∃C:World->Prop,(∀Z,C Z->dP Z Bc c)/\(∀Z,dP Z Bc c->C Z):=⟨_,fun _ h=>h,fun _ h=>h⟩;have hW0:C wc.drew:=hCo _ Wv;haveI:Inhabited (AX.CW C):=⟨⟨_,hW0⟩⟩;haveI:Inhabited (AX.CW fun _=>True):=⟨⟨w,trivial⟩⟩;have b0:=fun p:AX.CW C=>(hCi _ p.h).cells.1;have b1:=fun p:AX.CW C=>(hCi _ p.h).cells.2.1;have b2:=fun p:AX.CW C=>(hCi _ p.h).cells.2.2.1;have b3:=fun p:AX.CW C=>(hCi _ p.h).cells.2.2.2;have HC:=hid hCo;clear hCo hCi;refine AX.dF (C:=fun W=>∃p:AX.CW C,W=p.W) (CT:=fun W=>∃p:AX.CW fun _=>True,W=p.W) 5 [(0,0),(1,0),(2,0),(3,2),(4,2),(5,2)] _ (by kernel_rfl) (by kernel_rfl) rfl (by kernel_rfl) (by decide) (by kernel_rfl) (by kernel_rfl) (by intro c a d v w h;cases d<;>exact h) ⟨⟨⟨_,trivial⟩,rfl⟩,⟨⟨_,hW0⟩,rfl⟩⟩ ?_;clear hW0 hbd hR9 hC9 hB9;generalize wc.drew=Wd at *
       repeat ((first|refine AX.bQ _ (by rfl) ?_|refine AX.gG _ (by rfl) ?_);go_big_quiet_step (fail);refine afQ ?_)
       refine AX.dW (oV pl ph hpl hph _) (by rfl) (by rfl) (by rfl) Tryz.func102 (by kernel_rfl) (by rfl) (by simp only[agh,agd,agm];rfl) ?_;rintro e W11 ⟨rfl,Zr⟩;have Zt:=Bx.below Oq Zr (Bx.lt Oq);have Wx:dP W11 Bc c:=Bx.below Wv Zr (Bx.lt Wv);have ab9:=ab8.trans (AX.But.of_below Zr);refine⟨_,rfl,⟨⟨⟨W11,trivial⟩,rfl⟩,fun _=>⟨⟨W11,HC.out _ Wx⟩,rfl⟩⟩,?_⟩;simp only[Act.put,afH,afL,afM];have hcl:=C4.wO (rng pl ph);obtain⟨c2,hc2⟩:=afC (C4.ofL (rng pl ph));have hu:=union_k c.a c.b c.c c.d c2.a c2.b c2.c c2.d hWd.a hWd.b hWd.c hWd.d (hc2▸ hcl.a) (hc2▸ hcl.b) (hc2▸ hcl.c) (hc2▸ hcl.d);have aei:(c.or c2).Wd:=hWd.or (hc2▸ hcl);have HC2:=hid hc2;rw[hc2]at hu;clear hc2 hcl;refine AX.dW (hu _) (by rfl) (by rfl) (by rfl) Tryz.func166 (by kernel_rfl) (by rfl) (by simp only[agh,agd,agm];rfl) ?_;rintro e W12 ⟨rfl,Bv⟩;have acd:=Bx.below Zt Bv (Bx.lt Zt);have Zu:dP W12 Bc c:=Bx.below Wx Bv (Bx.lt Wx);have ace:=ab9.trans (AX.But.of_below Bv);refine⟨_,rfl,⟨⟨⟨W12,trivial⟩,rfl⟩,fun _=>⟨⟨W12,HC.out _ Zu⟩,rfl⟩⟩,?_⟩;simp only[Act.put,afH,afL,afM];refine AX.aV _ (by rfl) (by rfl) ?_;refine AX.aG (vs:=[.int .u64 (c.or c2).a,.int .u64 (c.or c2).b,.int .u64 (c.or c2).c,.int .u64 (c.or c2).d]) rfl (by rw[HC2.out];rfl) vY Zu rfl rfl ?_;rintro W13 h3 h4 h5;have aej:dP W13 Bc (c.or c2):=h3;have acf:Rdr W13 Rb s pk rv sv pe:=(h4 Rb (fun e=>hne e.symm)).trans acd;have aek:=kX ace (by have:=HBC.out;omega) (afF.1 h3).1 h4 h5;refine⟨⟨⟨⟨W13,trivial⟩,rfl⟩,fun h=>by cases h⟩,?_⟩;clear b0 b1 b2 b3 h3 h4 h5 HC hu Oq Zt acd Wv Wx Zu ab8 ab9 ace;unfold AX.bC;go_wp2_with fail
       obtain⟨n',rfl⟩:∃n',n=n'+1:=⟨n-1,by have:=hn trivial;omega⟩;have hx2:xx=uO s n' pk pe (c.or c2):=by
        rw[HL.out,uO,afR ⟨bY.2 ⟨rfl,hkl⟩,HB.out⟩,<-HPP.out,HC2.out]
       have hn2:pe=0->s.size-pk<=n':=fun h=>by have:=hn trivial;have:=HPE.out h;omega
       obtain⟨q1,q4⟩:=uN acf;obtain⟨o1,o4⟩:=uN hRr;have hms:(if numOf W13 Rb 4=0 then s.size-(numOf W13 Rb 1).toNat+1 else 0)<(if numOf wr Rb 4=0 then s.size-(numOf wr Rb 1).toNat+1 else 0):=by
        rw[q1,q4,o1,o4,afR rfl,afY,afY]
        by_cases h0:pe=0
        ·rw[afR h0];have:=HPE.out h0;omega
        ·rw[afO h0];omega
       exact⟨⟨n',pk,pe,c.or c2,hpk,acf,aej,aei,aek,hn2,hid hx2⟩,hms⟩
    ·have hxx:xx=(k,e,c):=by
      rw[HL.out]
      cases n with
      | zero=>rfl
      | succ n=>rw[uO,afO hgo]
     subst hxx;have hne:Bc≠Rb:=(by have:=HBC.out;omega);have IB:w.heap.size<=Bc:=(by have:=HBC.out;omega);dsimp only at HV
     by_cases hm:dh s.size k e=true
     ·obtain⟨rfl,hkl⟩:=bY.1 hm
      have h93:bg s k=93:=agj fun h=>hgo ⟨hm,h⟩;rw[hm]at hmb;rw[afR rfl,hm]at HV;have hkl2:(k:Int)<(s.size:Int):=(by omega);have hby:=gU s k hkl;have Iy:(bg s k != 93)=false:=(by simp[h93]);have Zq:=hid Iy;have HBY:=hid hby;have HM:=hid hm;clear hby Iy hm h93 hgo;go_upto_region 4 with (fail)
      refine AX.aF (by kernel_rfl) (by kernel_rfl) ?_
      repeat (go_big_quiet_step (first|(go_at_call 89;with_reducible exact(hmb _))))
      refine afQ ?_;rintro W2 ⟨p,rfl⟩;obtain⟨W2,hb2⟩:=p;change Below _ _ _ at hb2;have hR4:Rdr W2 Rb s k rv sv 0:=hRr.below hb2 hRr.lt;have hC4:dP W2 Bc c:=Bx.below hCr hb2 (Bx.lt hCr);have hB4:AX.But Rb w W2:=hBr.trans (AX.But.of_below hb2);simp only[<-HBY.out,Zq.out];clear c0 c1 c2 c3 c4 d0 d1 d4 hRr hCr hBr hmb;have hmk:=AP Rb s k rv sv 0;rw[HM.out]at hmk;go_upto_if 115 with (go_at_call 89;(with_reducible refine(hmk _ hR4).mono ?_);rintro x W5 ⟨rfl,hb5⟩;have hR5:Rdr W5 Rb s k rv sv 0:=hR4.below hb5 hR4.lt;have hC5:dP W5 Bc c:=Bx.below hC4 hb5 (Bx.lt hC4);obtain⟨c0,c1,c2,c3,c4⟩:=Bx.fiv hR5;have f1:=hR5.frozen 1;have hR6:Rdr (W5.setCell ⟨Rb,1,none⟩ (.int .i64 ((k:Int)+1))) Rb s ((k+1:Nat):Int) rv sv 0:=Bx.set hR5 1 (.int .i64 ((k:Int)+1));have hC6:dP (W5.setCell ⟨Rb,1,none⟩ (.int .i64 ((k:Int)+1))) Bc c:=Bx.other hC5 hne;have hB6:AX.But Rb w (W5.setCell ⟨Rb,1,none⟩ (.int .i64 ((k:Int)+1))):=(hB4.trans (AX.But.of_below hb5)).trans (iZ _ _ _ _);obtain⟨x0,x1,x2,x3⟩:=hC6.cells)
      cases nt with
      | false =>
       have hv:kQ s a=(c,k+1,0):=HV.out;clear hR4 hC4 hB4 hmk;go_wp2_with ((with_reducible refine bK ?_);refine AX.aj (vs:=[.int .u64 c.a,.int .u64 c.b,.int .u64 c.c,.int .u64 c.d]) rfl rfl vY hC6 rfl rfl ?_;rintro W7 h3 h4 h5;have hC7:dP W7 Bc c:=h3;have hR7:Rdr W7 Rb s ((k+1:Nat):Int) rv sv 0:=(h4 Rb (fun e=>hne e.symm)).trans hR6;have hB7:=kX hB6 IB (afF.1 h3).1 h4 h5;obtain⟨y0,y1,y2,y3⟩:=hC7.cells)
       exact afJ (v:=c.v) (by simp[results,Tryz.results137,go_sem,C4.v,y0,y1,y2,y3]) rfl (by rw[hv];exact⟨rfl,hR7,hB7⟩)
      | true =>
       have hv:kQ s a=(c.not,k+1,0):=HV.out;have hnk:=LJ c.a c.b c.c c.d hWd.a hWd.b hWd.c hWd.d;clear hR4 hC4 hB4 hmk;go_wp2_with (first
        | (go_at_call 104;(with_reducible refine(hnk _).mono ?_);rintro x W8 ⟨rfl,hb8⟩;have hR8:=Bx.below hR6 hb8 (Bx.lt hR6);have hC8:dP W8 Bc c:=Bx.below hC6 hb8 (Bx.lt hC6);have hB8:=hB6.trans (AX.But.of_below hb8))
        | ((with_reducible refine bK ?_);refine AX.aj (vs:=[.int .u64 (nw c.a:Nat),.int .u64 (nw c.b:Nat),.int .u64 (nw c.c:Nat),.int .u64 (nw c.d:Nat)]) rfl rfl vY hC8 rfl rfl ?_;rintro W7 h3 h4 h5;have hC7:dP W7 Bc c.not:=h3;have hR7:Rdr W7 Rb s ((k+1:Nat):Int) rv sv 0:=(h4 Rb (fun e=>hne e.symm)).trans hR8;have hB7:=kX hB8 IB (afF.1 h3).1 h4 h5;obtain⟨y0,y1,y2,y3⟩:=hC7.cells))
       exact afJ (v:=c.not.v) (by simp[results,Tryz.results137,go_sem,C4.v,y0,y1,y2,y3]) rfl (by rw[hv];exact⟨rfl,hR7,hB7⟩)
     ·have hmf:dh s.size k e=false:=agU.2 hm
      rw[hmf]at hmb;rw[afO hm]at HV;have hmk:=AP Rb s k rv sv e;rw[hmf]at hmk;have HFV:(gQ ((k:Int),e) s.size 8)=(((if e=0 then s.size else k:Nat):Int),if e=0 then 8 else e):=by
       unfold gQ
       by_cases h0:e=0
       ·simp[h0]
       ·simp[h0]
      have HFV:=hid HFV;clear hm hmf hgo;go_upto_region 4 with (fail)
      refine AX.aF (by kernel_rfl) (by kernel_rfl) ?_
      repeat (go_big_quiet_step (first|(go_at_call 89;with_reducible exact(hmb _))))
      refine afQ ?_;rintro W2 ⟨p,rfl⟩;obtain⟨W2,hb2⟩:=p;change Below _ _ _ at hb2;have hR4:Rdr W2 Rb s k rv sv e:=hRr.below hb2 hRr.lt;have hC4:dP W2 Bc c:=Bx.below hCr hb2 (Bx.lt hCr);have hB4:AX.But Rb w W2:=hBr.trans (AX.But.of_below hb2);clear c0 c1 c2 c3 c4 d0 d1 d4 hRr hCr hBr hmb;go_wp2_with (first
       | (go_at_call 89;(with_reducible refine(hmk _ hR4).mono ?_);rintro x W5 ⟨rfl,hb5⟩;have hR5:Rdr W5 Rb s k rv sv e:=hR4.below hb5 hR4.lt;have hC5:dP W5 Bc c:=Bx.below hC4 hb5 (Bx.lt hC4);obtain⟨c0,c1,c2,c3,c4⟩:=Bx.fiv hR5;have hB5:=hB4.trans (AX.But.of_below hb5))
       | (go_at_call 91;(with_reducible refine(lK Rb s _ rv sv e _ _ _ hR5).mono ?_);rintro x W8 ⟨rfl,hR8,hb8⟩;rw[HFV.out]at hR8;have hC8:dP W8 Bc c:=(hb8.same Bc (Bx.lt hC5) hne).trans hC5;have hB8:=hB5.trans hb8;obtain⟨x0,x1,x2,x3⟩:=hC8.cells)
       | ((with_reducible refine bK ?_);refine AX.aj (vs:=[.int .u64 c.a,.int .u64 c.b,.int .u64 c.c,.int .u64 c.d]) rfl rfl vY hC8 rfl rfl ?_;rintro W7 h3 h4 h5;have hC7:dP W7 Bc c:=h3;have hR7:=(h4 Rb (fun e=>hne e.symm)).trans hR8;have hB7:=kX hB8 IB (afF.1 h3).1 h4 h5;obtain⟨y0,y1,y2,y3⟩:=hC7.cells))
      exact afJ (v:=c.v) (by simp[results,Tryz.results137,go_sem,C4.v,y0,y1,y2,y3]) rfl (by rw[HV.out];exact⟨rfl,hR7,hB7⟩)
end
section
open Go Go.Proofs Go.RowKit
attribute [local go_sem] Oper.semAt_some
theorem KL(l:List Nat)(s:ByteArray)(hs:s.size<=1000000)(hl:sb s=l)(w:World):Calls Tryz.prog 138 #[.string s] w fun e w'=>e=.returned (C4.ofL l).v/\Below w.heap.size w w':=by
 subst hl;exact TM s hs w
theorem acu(z:C4)(h:z.Wd)(W:World):Calls Tryz.prog 104 #[z.v] W fun e w'=>e=.returned z.not.v/\Below W.heap.size W w':=LJ z.a z.b z.c z.d h.a h.b h.c h.d W
theorem lZ(W:World)(B c:Nat)(h:W.cell? ⟨B,0,none⟩=some (.int .u8 (c:Nat))):(convert 106 9 (.slice (some ⟨B,0,none⟩) 1 1)).run Tryz.prog W=.ok (.string (strOfNums [(c:Int)])) W:=
 run_convert_bytes_arg (P:=Tryz.prog) W 106 5 Tryz.underlying106 Tryz.underlying5 B 0 1 1 [(c:Int)] rfl (fun i hi=>by
  obtain rfl:i=0:=by omega
  exact h) 9 Tryz.underlying9
theorem ED(c:Nat)(h:c<256):sb (strOfNums [(c:Int)])=[c]:=by
 unfold sb;rw[strOfNums_data];simp only[agd,agm,afY,ahy];rw[ahN h]
theorem WI(Rb:Nat)(s:ByteArray)(a:Nat)(c:Nat)(hc:c<256)(rv sv:Value)(w:World)(hR:Rdr w Rb s a rv sv 0)(hs:s.size<=1000000)(ha:a<=s.size):
  Calls Tryz.prog 121 #[.pointer (some ⟨Rb,0,none⟩),.int .u8 c] w fun x w'=>x=.returned (fV s a c).1.v/\Rdr w' Rb s (fV s a c).2.1 rv sv (fV s a c).2.2/\AX.But Rb w w':=by
 obtain⟨Bc,hBc⟩:=afC w.heap.size;have HBC:=Lib.hid hBc;have hRl:=hR.lt;have hne:Bc≠Rb:=by omega
 have IB:w.heap.size<=Bc:=by omega
 have hb0:AX.But Rb w (w.alloc (.cells #[.int .u64 0,.int .u64 0,.int .u64 0,.int .u64 0] 116)):=AX.But.of_below ((afI _ w).alloc afD _);have hR0:Rdr (w.alloc (.cells #[.int .u64 0,.int .u64 0,.int .u64 0,.int .u64 0] 116)) Rb s a rv sv 0:=hR.alloc _;have hC0:dP (w.alloc (.cells #[.int .u64 0,.int .u64 0,.int .u64 0,.int .u64 0] 116)) Bc .zero:=by rw[hBc];exact Bx.new _ _ _
 obtain⟨W0,hW0⟩:=afC (w.alloc (.cells #[.int .u64 0,.int .u64 0,.int .u64 0,.int .u64 0] 116));rw[<-hW0]at hb0 hR0 hC0;have HW0:=Lib.hid hW0;clear hBc hW0;go_enter Tryz.func121,Tryz.ntmps121
 go_upto_if 6 with (fail)
 rw[<-HBC.out,<-HW0.out]
 by_cases h91:c=91
 ·subst h91
  have hv:fV s a ((91:Nat):Int)=kQ s a:=afR rfl;have hk:=Wu Rb s a rv sv _ hR0 hs ha;obtain⟨z,hz⟩:=afC (kQ s a);rw[<-hz]at hk hv;have HV:=Lib.hid hv;clear hv hz;go_wp2_with (first
   | (go_at_call 137;(with_reducible refine hk.mono ?_);rintro x W1 ⟨rfl,hR1,hb1⟩;have hC1:dP W1 Bc .zero:=(hb1.same Bc (Bx.lt hC0) hne).trans hC0)
   | ((with_reducible refine bK ?_);refine AX.aj (vs:=[.int .u64 z.1.a,.int .u64 z.1.b,.int .u64 z.1.c,.int .u64 z.1.d]) rfl rfl vY hC1 rfl rfl ?_;rintro W7 h3 h4 h5;have hC7:dP W7 Bc z.1:=h3;have hR7:=(h4 Rb (fun e=>hne e.symm)).trans hR1;have hB7:=kX (hb0.trans hb1) IB (afF.1 h3).1 h4 h5;obtain⟨y0,y1,y2,y3⟩:=hC7.cells))
  exact afJ (v:=z.1.v) (by simp[results,Tryz.results121,go_sem,C4.v,y0,y1,y2,y3]) rfl (by rw[HV.out];exact⟨rfl,hR7,hB7⟩)
 have n91:¬(c:Int)=91:=by omega
 by_cases h46:c=46
 ·subst h46
  obtain⟨z,hz⟩:=afC (C4.ofL [10]);have hv:fV s a ((46:Nat):Int)=(z.not,a,0):=by rw[hz];rfl
  have hk:=fun W=>KL [10] ⟨#[10]⟩ (by decide) rfl W;have hzw:z.Wd:=by rw[hz];exact C4.wO _
  rw[<-hz]at hk;have hnk:=acu z hzw;have HV:=Lib.hid hv;clear hv hz;go_wp2_with (first
   | (go_at_call 138;(with_reducible refine(hk _).mono ?_);rintro x W1 ⟨rfl,hb1⟩;have hC1:dP W1 Bc .zero:=Bx.below hC0 hb1 (Bx.lt hC0);have hR1:=Bx.below hR0 hb1 (Bx.lt hR0);have hB1:=hb0.trans (AX.But.of_below hb1))
   | (go_at_call 104;(with_reducible refine(hnk _).mono ?_);rintro x W2 ⟨rfl,hb2⟩;have hC2:dP W2 Bc .zero:=Bx.below hC1 hb2 (Bx.lt hC1);have hR2:=Bx.below hR1 hb2 (Bx.lt hR1);have hB2:=hB1.trans (AX.But.of_below hb2))
   | ((with_reducible refine bK ?_);refine AX.aj (vs:=[.int .u64 (nw z.a:Nat),.int .u64 (nw z.b:Nat),.int .u64 (nw z.c:Nat),.int .u64 (nw z.d:Nat)]) rfl rfl vY hC2 rfl rfl ?_;rintro W7 h3 h4 h5;have hC7:dP W7 Bc z.not:=h3;have hR7:=(h4 Rb (fun e=>hne e.symm)).trans hR2;have hB7:=kX hB2 IB (afF.1 h3).1 h4 h5;obtain⟨y0,y1,y2,y3⟩:=hC7.cells))
  exact afJ (v:=z.not.v) (by simp[results,Tryz.results121,go_sem,C4.v,y0,y1,y2,y3]) rfl (by rw[HV.out];exact⟨rfl,hR7,hB7⟩)
 have n46:¬(c:Int)=46:=by omega
 by_cases h92:c=92
 ·subst h92
  obtain⟨q,k,e,hv,hq,hk,_⟩:=rW s a ha;have hes:=IJ Rb s a rv sv 0;have hv2:fV s a ((92:Nat):Int)=(C4.ofL [(bV s a 0).1.toNat],(bV s a 0).2.1.toNat,(bV s a 0).2.2):=rfl;rw[hv]at hes hv2;simp only[afY]at hv2;obtain⟨z,hz⟩:=afC (C4.ofL [q]);have hof:=fun W=>KL [q] (strOfNums [(q:Int)]) (by rw[strOfNums_size];simp) (ED q hq) W;rw[<-hz]at hv2 hof;have HV:=Lib.hid hv2;clear hv hv2 hz;go_wp2_with (first
   | (go_at_call 139;(with_reducible refine(hes _ hR0 hs ha).mono ?_);rintro x W1 ⟨rfl,hR1,hb1⟩;have hC1:dP W1 Bc .zero:=(hb1.same Bc (Bx.lt hC0) hne).trans hC0;have hba:=(afI W1.heap.size W1).alloc afD (.cells #[.int .u8 q] 5);have hcv:=lZ (W1.alloc (.cells #[.int .u8 q] 5)) W1.heap.size q ((Bx.new W1 5 #[.int .u8 q]).cell 0);have hR2:=Bx.below hR1 hba (Bx.lt hR1);have hC2:dP (W1.alloc (.cells #[.int .u8 q] 5)) Bc .zero:=Bx.below hC1 hba (Bx.lt hC1);have hB2:=(hb0.trans hb1).trans (AX.But.of_below hba))
   | (go_at_call 138;(with_reducible refine(hof _).mono ?_);rintro x W3 ⟨rfl,hb3⟩;have hC3:dP W3 Bc .zero:=Bx.below hC2 hb3 (Bx.lt hC2);have hR3:=Bx.below hR2 hb3 (Bx.lt hR2);have hB3:=hB2.trans (AX.But.of_below hb3))
   | ((with_reducible refine bK ?_);refine AX.aj (vs:=[.int .u64 z.a,.int .u64 z.b,.int .u64 z.c,.int .u64 z.d]) rfl rfl vY hC3 rfl rfl ?_;rintro W7 h3 h4 h5;have hC7:dP W7 Bc z:=h3;have hR7:=(h4 Rb (fun e=>hne e.symm)).trans hR3;have hB7:=kX hB3 IB (afF.1 h3).1 h4 h5;obtain⟨y0,y1,y2,y3⟩:=hC7.cells))
  exact afJ (v:=z.v) (by simp[results,Tryz.results121,go_sem,C4.v,y0,y1,y2,y3]) rfl (by rw[HV.out];exact⟨rfl,hR7,hB7⟩)
 ·have n92:¬(c:Int)=92:=by omega
  have hv2:fV s a (c:Int)=(C4.ofL [c],a,0):=by
   unfold fV;rw[afO n91,afO n46,afO n92,afY]
  obtain⟨z,hz⟩:=afC (C4.ofL [c]);have hof:=fun W=>KL [c] (strOfNums [(c:Int)]) (by rw[strOfNums_size];simp) (ED c hc) W;rw[<-hz]at hv2 hof;have HV:=Lib.hid hv2;have hba:=(afI W0.heap.size W0).alloc afD (.cells #[.int .u8 c] 5);have hcv:=lZ (W0.alloc (.cells #[.int .u8 c] 5)) W0.heap.size c ((Bx.new W0 5 #[.int .u8 c]).cell 0);have hR2:=Bx.below hR0 hba (Bx.lt hR0);have hC2:dP (W0.alloc (.cells #[.int .u8 c] 5)) Bc .zero:=Bx.below hC0 hba (Bx.lt hC0);have hB2:=hb0.trans (AX.But.of_below hba);clear hv2 hz;go_wp2_with (first
   | (go_at_call 138;(with_reducible refine(hof _).mono ?_);rintro x W3 ⟨rfl,hb3⟩;have hC3:dP W3 Bc .zero:=Bx.below hC2 hb3 (Bx.lt hC2);have hR3:=Bx.below hR2 hb3 (Bx.lt hR2);have hB3:=hB2.trans (AX.But.of_below hb3))
   | ((with_reducible refine bK ?_);refine AX.aj (vs:=[.int .u64 z.a,.int .u64 z.b,.int .u64 z.c,.int .u64 z.d]) rfl rfl vY hC3 rfl rfl ?_;rintro W7 h3 h4 h5;have hC7:dP W7 Bc z:=h3;have hR7:=(h4 Rb (fun e=>hne e.symm)).trans hR3;have hB7:=kX hB3 IB (afF.1 h3).1 h4 h5;obtain⟨y0,y1,y2,y3⟩:=hC7.cells))
  exact afJ (v:=z.v) (by simp[results,Tryz.results121,go_sem,C4.v,y0,y1,y2,y3]) rfl (by rw[HV.out];exact⟨rfl,hR7,hB7⟩)
end
section
open Go.Lib (hid)
open Go Go.Proofs Go.RowKit
attribute [local go_sem] Oper.semAt_some
inductive KN:List (Value×Value)->List (Value×List Int)->List (Fr Int)->Prop where
 | nil:KN [] [] []
 | snoc {fs:List (Value×Value)} {rs:List (Value×List Int)} {f:List (Fr Int)} (av iv:Value) (A I:List Int):KN fs rs f->KN (fs++[(av,iv)]) ((av,A)::(iv,I)::rs) ((A,I)::f)
theorem KN.len{fs:List (Value×Value)}{rs:List (Value×List Int)}{f:List (Fr Int)}(h:KN fs rs f):fs.length=f.length:=by
 induction h with
 | nil=>rfl
 | snoc _ _ _ _ _ ih=>simp[ih]
structure Rs(w W:World)(Rb Sb:Nat)(s:ByteArray)(x:Ms (List Nd) Int)(r:List NL)(rv av iv:Value)(fs:List (Value×Value))(rs:List (Value×List Int))(c:Nat):Prop where
 st:St w W Rb s x.a x.e rv (.slice (some ⟨Sb,0,none⟩) (fs.length+1) c) r (fs++[(av,iv)]) ((av,x.A)::(iv,x.I)::rs)
 nd:r.map (·.x)=x.st
 fr:KN fs rs x.f
def OU(w W:World)(Rb:Nat)(s:ByteArray)(x:Ms (List Nd) Int):Prop:=∃Sb r rv av iv fs rs c,Rs w W Rb Sb s x r rv av iv fs rs c
theorem ZC:(Tryz.prog.info? 165).map (fun i=>(i.zero,i.size,i.bytes))=some (some (.agg #[.slice none 0 0,.slice none 0 0]),2,48):=by kernel_rfl
theorem Ua{ops:Array Oper}{rest:List Oper}{o:Oper}{a:Act}{Q:Exit->Act->World->Prop}(W:World)(base:Nat)(v:Value)(pre:List (Value×Value))(hgd:o.guard=none)(s y:Operand)
  (ho:o.op=.call {callee:=.builtin .append,args:=#[s,y],argTypes:=#[166,166]}) (hs:a.eval s=v) (hown:jG W base v pre) (B c:Nat) (hx:a.eval y=.slice (some ⟨B,0,none⟩) 1 c)
  (hc:Bx W B 165 #[.slice none 0 0,.slice none 0 0]) (hl:pre.length<=100000) (hb:base<=W.heap.size)
  (h:∀v' w',jG w' base v' (pre++[(.slice none 0 0,.slice none 0 0)])->W.grownBy w' v.ownBlock->wpList Tryz.prog ops Q rest (a.put o.dst v') w'):wpList Tryz.prog ops Q (o::rest) a W:=by
 obtain⟨ti,hi,hz0,hz1,hz2⟩:=info_parts ZC;refine wpList_append_own (P:=Tryz.prog) (w:=W) hgd s y 166 ho base 165 ti (.agg #[.slice none 0 0,.slice none 0 0]) 2 48 Tryz.underlying166 hi hz0 hz1 hz2 rfl (by decide) v pre.length _ hs hown ⟨B,0,none⟩ 1 c [.slice none 0 0,.slice none 0 0] hx rfl
  (fun j u hj=>by rw[addr_add,af9,hc.cell];simpa using hj) (fun u hu=>by
   simp only[afX,agx,ahd]at hu;rcases hu with rfl|rfl<;>rfl) (by unfold maxLen;omega) (by omega) hb ?_
 intro v' w' h1 h2 _;refine h v' w' ?_ h2;unfold jG;rw[afP,ag7]
 simpa[nS]using h1
section
variable {w W W' : World} {Rb : Nat} {s : ByteArray} {at_ e : Int} {rv sv : Value} {r : List NL} {fs : List (Value × Value)} {rows : List (Value × List Int)}
theorem St.push{W1 W2:World}{sv':Value}{f:Value×Value}(h:St w W Rb s at_ e rv sv r fs rows)(hn:jG W1 w.heap.size sv' (fs++[f]))(hg:W.grownBy W1 sv.ownBlock)
  (hR:Rdr W2 Rb s at_ rv sv' e) (h4:∀j,j≠Rb->W2.heap[j]?=W1.heap[j]?) (h5:AX.Same W1 W2):St w W2 Rb s at_ e rv sv' r (fs++[f]) rows:=by
 have s1:dH 165 W W1:=aX h.so hg;have hR1:Rdr W1 Rb s at_ rv sv e:=(s1 Rb _ 168 h.rd (by decide)).trans h.rd;have s2:dH 168 W1 W2:=aP hR1 h4;have b1:=(afI w.heap.size W).grown hg h.low.size fun j ej=>(World.ownsRow.lt h.so j ej).1;have b2:=AX.ah (n:=w.heap.size) h.rb (.inl hR.lt) h4 h5;exact⟨h.low.trans (b1.trans b2),h.rb,hR,aC (aC h.ro s1 (by decide)) s2 (by decide),aC hn s2 (by decide),fun p hp=>aC (aC (h.io p hp) s1 (by decide)) s2 (by decide),h.dis,fun z hz=>((h.ka z hz).aW s1 (by decide)).aW s2 (by decide),h.kd,h.kb⟩
theorem St.next{a:Nat}(h:St w W Rb s a e rv sv r fs rows):St w (W.setCell ⟨Rb,1,none⟩ (.int .i64 ((a:Int)+1))) Rb s ((a+1:Nat):Int) e rv sv r fs rows:=h.box (iZ W Rb 1 _) (Bx.set h.rd 1 (.int .i64 ((a:Int)+1)))
end
theorem Zx(w W:World)(Rb:Nat)(s:ByteArray)(x:Ms (List Nd) Int)(h:OU w W Rb s x)(hm:BM s x)(hs:s.size<=256)(he:x.e=0)(hal:x.a<s.size):
  Calls Tryz.prog 90 #[.pointer (some ⟨Rb,0,none⟩)] W fun y W'=>y=.returned (.tuple #[])/\OU w W' Rb s (stepG mkI s x):=by
 obtain⟨st,a,e,A,I,f⟩:=x;obtain⟨Sb,r,rv,av,iv,fs,rs,c,h,hnd,hfr⟩:=h;dsimp only at he hal hnd hfr h;subst he;obtain⟨hfo,hrl,hsl,hal',hfl⟩:=hm;dsimp only at hfo hrl hsl hal' hfl;have aft:fs.length<=300:=by have:=hfr.len;omega
 have acn:r.length<=600:=by
  have:r.length=st.length:=by rw[<-hnd];simp
  omega
 have hAI:A.length<=300/\I.length<=300:=by
  unfold eP at hrl;simp only[afP]at hrl;omega
 obtain⟨b,hb,hb2⟩:=wQ s a;have HB:=hid hb;have hal2:(a:Int)<(s.size:Int):=by omega
 have hby:=gU s a hal;rw[hb]at hby;have HBY:=hid hby;have HND:=hid hnd;have HFR:=hid hfr;have HJ:Hid (∀B J f',f=(B,J)::f'->J.length<=300):=hid (by
  rintro B J f' rfl;unfold eP at hrl;simp only[afP,agG]at hrl;omega)
 clear hb hby hnd hfr hfo hrl hsl hal' hfl;go_enter Tryz.func90,Tryz.ntmps90
 go_wp2_with fail
 obtain⟨c0,c1,c2,c3,c4⟩:=Bx.fiv h.rd;have d0:=AX.aA c0 h.rd.lt;have d1:=AX.aA c1 h.rd.lt;refine AX.aF (by kernel_rfl) (by kernel_rfl) ?_
 repeat (go_big_quiet_step (fail))
 refine afQ ?_;rintro W1 ⟨p,rfl⟩;obtain⟨W1,hb1⟩:=p;change Below _ _ _ at hb1;have h1:=h.below hb1;simp only[<-HBY.out];clear c0 c1 c2 c3 c4 d0 d1 h;have d1:=h1.at;have f1:=h1.rd.frozen 1
 by_cases aep:b=124
 ·subst aep
  have hst:stepG mkI s ⟨st,a,0,A,I,f⟩=⟨(cu mkI st 3 I).1,a+1,0,A++[(cu mkI st 3 I).2],[],f⟩:=by
   unfold stepG;dsimp only;rw[HB.out];rfl
  have HST:=hid hst;clear hst;have ha:=XI av iv A I h1 (by omega) (by omega) (by omega);rw[HND.out]at ha;go_wp2_with (go_at_call 117;(with_reducible refine ha.mono ?_);rintro y W2 ⟨rfl,rv2,r2,av2,h2,hr2⟩;have d2:=h2.at;have f2:=h2.rd.frozen 1)
  exact bodyPost_end (v:=.tuple #[]) (by simp[results,Tryz.results90,go_sem]) rfl ⟨rfl,by rw[HST.out];exact⟨Sb,r2,rv2,av2,.slice none 0 0,fs,rs,c,⟨(h2.next.empty).perm (List.Perm.swap _ _ _),hr2,HFR.out⟩⟩⟩
 have n124:¬(b:Int)=124:=by omega
 by_cases h40:b=40
 ·subst h40
  have hst:stepG mkI s ⟨st,a,0,A,I,f⟩=⟨st,a+1,0,[],[],(A,I)::f⟩:=by
   unfold stepG;dsimp only;rw[HB.out];rfl
  have HST:=hid hst;clear hst;have h2:=h1.below ((afI W1.heap.size W1).alloc afD (.cells #[.slice none 0 0,.slice none 0 0] 165));have hB2:=Bx.new W1 165 #[.slice none 0 0,.slice none 0 0];have d3:W1.cell? ⟨Rb,3,none⟩=some (.slice (some ⟨Sb,0,none⟩) (fs.length+1) c):=h1.rd.cell 3;have hsv:∃sv,sv=Value.slice (some ⟨Sb,0,none⟩) (fs.length+1) c:=⟨_,rfl⟩;obtain⟨sv,hsv⟩:=hsv;rw[<-hsv]at h1 h2 d3;clear hsv;go_wp2_with (first
   | (at_builtin;(refine Ua _ w.heap.size sv (fs++[(av,iv)]) rfl _ _ rfl rfl h2.so W1.heap.size 1 rfl hB2 (by rw[afP,ags];omega) h2.low.size ?_);intro v' W8 hr8 hg8;have aer:Rdr W8 Rb s a rv sv 0:=(aX h2.so hg8 Rb _ 168 h2.rd (by decide)).trans h2.rd;have hone:v'.oneCell'=true:=(by rcases hr8.2 with ⟨e,_⟩|⟨g,cap,cur,e,_⟩<;>rw[e]<;>rfl))
   | ((with_reducible refine bK ?_);refine AX.aB (o:=3) (v:=v') rfl rfl hone XJ aer (show 3<5 by decide) ?_;rintro W9 g3 g4 g5;have h9:=h2.push hr8 hg8 g3 g4 g5;have d9:=h9.at;have f9:=h9.rd.frozen 1))
  obtain⟨Sb2,c2,cs2,hv2,_,_,_,_⟩:=hr8.block (by simp);have hl2:(fs++[(av,iv)]++[(Value.slice none 0 0,Value.slice none 0 0)]).length=(fs++[(av,iv)]).length+1:=by simp
  rw[hl2]at hv2;subst hv2;exact bodyPost_end (v:=.tuple #[]) (by simp[results,Tryz.results90,go_sem]) rfl ⟨rfl,by rw[HST.out];exact⟨Sb2,r,rv,.slice none 0 0,.slice none 0 0,fs++[(av,iv)],_,c2,⟨h9.next.empty.empty,HND.out,HFR.out.snoc av iv A I⟩⟩⟩
 have n40:¬(b:Int)=40:=by omega
 by_cases h41:b=41
 ·subst h41
  cases f with
  | nil =>
   have hst:stepG mkI s ⟨st,a,0,A,I,[]⟩=⟨st,a,7,A,I,[]⟩:=by
    unfold stepG;dsimp only;rw[HB.out];rfl
   have HST:=hid hst;clear hst;have h0:=HFR.out.len;have aes:fs=[]:=agB h0;subst aes;have d3:W1.cell? ⟨Rb,3,none⟩=some (.slice (some ⟨Sb,0,none⟩) (0+1) c):=h1.rd.cell 3;rw[af9]at d3;go_wp2_with (go_at_call 91;(with_reducible refine(lK Rb s _ rv _ 0 _ _ _ h1.rd).mono ?_);rintro y W2 ⟨rfl,hR2,hb2⟩;have h2:=h1.box hb2 hR2)
   exact afJ (v:=.tuple #[]) (by simp[results,Tryz.results90,go_sem]) rfl ⟨rfl,by rw[HST.out];exact⟨Sb,r,rv,av,iv,[],rs,c,⟨h2,HND.out,HFR.out⟩⟩⟩
  | cons y f =>
   obtain⟨B,J⟩:=y;have hst:stepG mkI s ⟨st,a,0,A,I,(B,J)::f⟩=⟨(fE mkI st A I).1,a+1,0,B,J++[(fE mkI st A I).2],f⟩:=by
    unfold stepG;dsimp only;rw[HB.out];rfl
   have HST:=hid hst;clear hst;obtain⟨fs',rs',av',iv',rfl,rfl,acv⟩:∃fs' rs' av' iv',fs=fs'++[(av',iv')]/\rs=(av',B)::(iv',J)::rs'/\KN fs' rs' f:=by
    cases HFR.out with
    | snoc av' iv' _ _ h=>exact⟨_,_,_,_,rfl,rfl,h⟩
   have aeu:=hid acv;have hp:=XH av iv A I h1 (by omega) (by omega) (by omega);have hl1:(fs'++[(av',iv')]).length=fs'.length+1:=(by simp);rw[HND.out]at hp;rw[hl1]at hp;have hJ:J.length<=9000:=(by have:=HJ.out B J f rfl;omega);have d3:W1.cell? ⟨Rb,3,none⟩=some (.slice (some ⟨Sb,0,none⟩) (fs'.length+1+1) c):=(by rw[<-hl1];exact h1.rd.cell 3);have hn1:¬((fs'.length:Int)+1+1=1):=(by omega);clear acv;go_wp2_with (first
    | (go_at_call 92;(with_reducible refine hp.mono ?_);rintro y W2 ⟨rfl,rv2,r2,h2,hr2⟩;have hi:=TW av' iv' J (fE mkI st A I).2 (h2.perm (List.Perm.swap _ _ _)) hJ (by omega))
    | (go_at_call 118;(with_reducible refine hi.mono ?_);rintro y W3 ⟨rfl,iv3,h3⟩;have d4:=h3.at;have f4:=h3.rd.frozen 1))
   exact bodyPost_end (v:=.tuple #[]) (by simp[results,Tryz.results90,go_sem]) rfl ⟨rfl,by rw[HST.out];exact⟨Sb,r2,rv2,av',iv3,fs',rs',c,⟨h3.next.perm (List.Perm.swap _ _ _),hr2,aeu.out⟩⟩⟩
 have n41:¬(b:Int)=41:=by omega
 by_cases h93:b=93
 ·subst h93
  have hst:stepG mkI s ⟨st,a,0,A,I,f⟩=⟨st,a,7,A,I,f⟩:=by
   unfold stepG;dsimp only;rw[HB.out];rfl
  have HST:=hid hst;clear hst;go_wp2_with (go_at_call 91;(with_reducible refine(lK Rb s _ rv _ 0 _ _ _ h1.rd).mono ?_);rintro y W2 ⟨rfl,hR2,hb2⟩;have h2:=h1.box hb2 hR2)
  exact afJ (v:=.tuple #[]) (by simp[results,Tryz.results90,go_sem]) rfl ⟨rfl,by rw[HST.out];exact⟨Sb,r,rv,av,iv,fs,rs,c,⟨h2,HND.out,HFR.out⟩⟩⟩
 have n93:¬(b:Int)=93:=by omega
 by_cases h42:b=42
 ·subst h42
  have hst:stepG mkI s ⟨st,a,0,A,I,f⟩=eG mkI ⟨st,a,0,A,I,f⟩ 5:=by
   unfold stepG;dsimp only;rw[HB.out];rfl
  unfold eG at hst;dsimp only at hst;rcases List.eq_nil_or_concat I with rfl|⟨D,x,hDx⟩
  ·have HST:=hid hst
   clear hst;have ha:=AQ a 5 av iv (h1.perm (List.Perm.swap _ _ _)) (by omega);go_wp2_with (go_at_call 119;(with_reducible refine ha.mono ?_);rintro y W2 ⟨rfl,h2⟩)
   exact afJ (v:=.tuple #[]) (by simp[results,Tryz.results90,go_sem]) rfl ⟨rfl,by rw[HST.out];exact⟨Sb,r,rv,av,iv,fs,rs,c,⟨h2.perm (List.Perm.swap _ _ _),HND.out,HFR.out⟩⟩⟩
  ·rw[List.concat_eq_append]at hDx
   subst hDx;have hlast:(D++[x]).getLast?=some x:=(by simp);have hdl:(D++[x]).dropLast=D:=(by simp);have pG:(r.length:Int)=((r.map (·.x)).length:Int):=(by simp);rw[hlast]at hst;dsimp only at hst;rw[hdl]at hst;have HST:=hid hst;have HRL:=hid pG;have hDl:D.length<=9000:=(by have:=hAI.2;simp at this;omega);have ha:=AU a (by omega) 5 av iv D x (h1.perm (List.Perm.swap _ _ _)) (by omega) hDl (by omega);clear hst hlast hdl pG;go_wp2_with (go_at_call 119;(with_reducible refine ha.mono ?_);rintro y W2 ⟨rfl,rv2,r2,h2,hr2⟩)
   exact afJ (v:=.tuple #[]) (by simp[results,Tryz.results90,go_sem]) rfl ⟨rfl,by
    rw[HST.out];refine⟨Sb,r2,rv2,av,iv,fs,rs,c,⟨?_,by rw[hr2,HND.out],HFR.out⟩⟩;have h3:=h2.perm (List.Perm.swap _ _ _);rw[HRL.out,HND.out]at h3;exact h3⟩
 have n42:¬(b:Int)=42:=by omega
 by_cases h43:b=43
 ·subst h43
  have hst:stepG mkI s ⟨st,a,0,A,I,f⟩=eG mkI ⟨st,a,0,A,I,f⟩ 6:=by
   unfold stepG;dsimp only;rw[HB.out];rfl
  unfold eG at hst;dsimp only at hst;rcases List.eq_nil_or_concat I with rfl|⟨D,x,hDx⟩
  ·have HST:=hid hst
   clear hst;have ha:=AQ a 6 av iv (h1.perm (List.Perm.swap _ _ _)) (by omega);go_wp2_with (go_at_call 119;(with_reducible refine ha.mono ?_);rintro y W2 ⟨rfl,h2⟩)
   exact afJ (v:=.tuple #[]) (by simp[results,Tryz.results90,go_sem]) rfl ⟨rfl,by rw[HST.out];exact⟨Sb,r,rv,av,iv,fs,rs,c,⟨h2.perm (List.Perm.swap _ _ _),HND.out,HFR.out⟩⟩⟩
  ·rw[List.concat_eq_append]at hDx
   subst hDx;have hlast:(D++[x]).getLast?=some x:=(by simp);have hdl:(D++[x]).dropLast=D:=(by simp);have pG:(r.length:Int)=((r.map (·.x)).length:Int):=(by simp);rw[hlast]at hst;dsimp only at hst;rw[hdl]at hst;have HST:=hid hst;have HRL:=hid pG;have hDl:D.length<=9000:=(by have:=hAI.2;simp at this;omega);have ha:=AU a (by omega) 6 av iv D x (h1.perm (List.Perm.swap _ _ _)) (by omega) hDl (by omega);clear hst hlast hdl pG;go_wp2_with (go_at_call 119;(with_reducible refine ha.mono ?_);rintro y W2 ⟨rfl,rv2,r2,h2,hr2⟩)
   exact afJ (v:=.tuple #[]) (by simp[results,Tryz.results90,go_sem]) rfl ⟨rfl,by
    rw[HST.out];refine⟨Sb,r2,rv2,av,iv,fs,rs,c,⟨?_,by rw[hr2,HND.out],HFR.out⟩⟩;have h3:=h2.perm (List.Perm.swap _ _ _);rw[HRL.out,HND.out]at h3;exact h3⟩
 have n43:¬(b:Int)=43:=by omega
 by_cases h63:b=63
 ·subst h63
  have hst:stepG mkI s ⟨st,a,0,A,I,f⟩=eG mkI ⟨st,a,0,A,I,f⟩ 7:=by
   unfold stepG;dsimp only;rw[HB.out];rfl
  unfold eG at hst;dsimp only at hst;rcases List.eq_nil_or_concat I with rfl|⟨D,x,hDx⟩
  ·have HST:=hid hst
   clear hst;have ha:=AQ a 7 av iv (h1.perm (List.Perm.swap _ _ _)) (by omega);go_wp2_with (go_at_call 119;(with_reducible refine ha.mono ?_);rintro y W2 ⟨rfl,h2⟩)
   exact afJ (v:=.tuple #[]) (by simp[results,Tryz.results90,go_sem]) rfl ⟨rfl,by rw[HST.out];exact⟨Sb,r,rv,av,iv,fs,rs,c,⟨h2.perm (List.Perm.swap _ _ _),HND.out,HFR.out⟩⟩⟩
  ·rw[List.concat_eq_append]at hDx
   subst hDx;have hlast:(D++[x]).getLast?=some x:=(by simp);have hdl:(D++[x]).dropLast=D:=(by simp);have pG:(r.length:Int)=((r.map (·.x)).length:Int):=(by simp);rw[hlast]at hst;dsimp only at hst;rw[hdl]at hst;have HST:=hid hst;have HRL:=hid pG;have hDl:D.length<=9000:=(by have:=hAI.2;simp at this;omega);have ha:=AU a (by omega) 7 av iv D x (h1.perm (List.Perm.swap _ _ _)) (by omega) hDl (by omega);clear hst hlast hdl pG;go_wp2_with (go_at_call 119;(with_reducible refine ha.mono ?_);rintro y W2 ⟨rfl,rv2,r2,h2,hr2⟩)
   exact afJ (v:=.tuple #[]) (by simp[results,Tryz.results90,go_sem]) rfl ⟨rfl,by
    rw[HST.out];refine⟨Sb,r2,rv2,av,iv,fs,rs,c,⟨?_,by rw[hr2,HND.out],HFR.out⟩⟩;have h3:=h2.perm (List.Perm.swap _ _ _);rw[HRL.out,HND.out]at h3;exact h3⟩
 have n63:¬(b:Int)=63:=by omega
 obtain⟨z,hz⟩:=afC (fV s (a+1) (b:Int));have hst:stepG mkI s ⟨st,a,0,A,I,f⟩=⟨(mkI st ⟨2,z.1⟩ []).1,z.2.1,z.2.2,A,I++[(mkI st ⟨2,z.1⟩ []).2],f⟩:=by
  unfold stepG;dsimp only;rw[HB.out,afO n124,afO n40,afO n41,afO n93,afO n42,afO n43,afO n63,hz]
 have HST:=hid hst;have pG:(r.length:Int)=((r.map (·.x)).length:Int):=by simp
 have HRL:=hid pG;have h2:=h1.next (a:=a)
 have ht:=WI Rb s (a+1) b hb2 rv (.slice (some ⟨Sb,0,none⟩) (fs.length+1) c) _ h2.rd (by omega) (by omega);rw[<-hz]at ht;clear hst hz pG;go_wp2_with (first
  | (go_at_call 121;(with_reducible refine ht.mono ?_);rintro y W3 ⟨rfl,hR3,hb3⟩;have h3:=h2.box hb3 hR3;have hp:=MH 2 z.1 (.slice none 0 0) [] h3 (.inl ⟨rfl,rfl⟩) (fun p _ g _=>(by simp[Value.ownBlock])) (fun g hg=>(by simp[Value.ownBlock]at hg)) (by omega))
  | (go_at_call 120;(with_reducible refine hp.mono ?_);rintro y W4 ⟨rfl,rv4,h4⟩;have hi:=TW av iv I (r.length:Int) (h4.perm (List.Perm.swap _ _ _)) (by omega) (by omega))
  | (go_at_call 118;(with_reducible refine hi.mono ?_);rintro y W5 ⟨rfl,iv5,h5⟩))
 exact afJ (v:=.tuple #[]) (by simp[results,Tryz.results90,go_sem]) rfl ⟨rfl,by
  rw[HST.out];refine⟨Sb,r++[⟨KJ 2 z.1 [],.slice none 0 0⟩],rv4,av,iv5,fs,rs,c,⟨?_,by rw[agt,HND.out];rfl,HFR.out⟩⟩;have h6:=h5.perm (List.Perm.swap _ _ _);rw[HRL.out,HND.out]at h6;exact h6⟩
end
end Go.Proofs.YtkjgogdkdejljaaGreatDoor.Rx
