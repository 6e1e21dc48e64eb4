import Derived.Test.YtkjgogdkdejljaaGreatDoorRxR8
set_option maxRecDepth 100000
set_option maxHeartbeats 40000000
namespace Go.Proofs.YtkjgogdkdejljaaGreatDoor.Rx
section
open Go.Lib (hid)
open Go Go.Proofs Go.RowKit
attribute [local go_sem] Oper.semAt_some
theorem QS(Rb:Nat)(s:ByteArray)(at_:Int)(rv sv:Value)(e:Int)(w:World)(hR:Rdr w Rb s at_ rv sv e):∀ p:AX.BW w,Calls Tryz.prog 89 #[.pointer (some ⟨Rb,0,none⟩)] p.W fun x w'=>x = .returned (.bool (dG s.size at_ e))∧∃ q:AX.BW w,w'=q.W:=fun p =>
 AX.fH (Aj Rb s at_ rv sv e p.W (hR.below p.h hR.lt))
def wsV(c:C4):Array Value:=#[.int .u64 c.a, .int .u64 c.b, .int .u64 c.c, .int .u64 c.d]
def dW(W:World)(B:Nat)(c:C4):Prop:=Bx W B 116 (wsV c)
theorem dW.cells{W:World}{B:Nat}{c:C4}(h:dW W B c):W.cell? ⟨B,0,none⟩=some (.int .u64 c.a)∧W.cell? ⟨B,1,none⟩=some (.int .u64 c.b)∧W.cell? ⟨B,2,none⟩=some (.int .u64 c.c)∧W.cell? ⟨B,3,none⟩=some (.int .u64 c.d):=⟨Bx.cell h 0,Bx.cell h 1,Bx.cell h 2,Bx.cell h 3⟩
def numOf(W:World)(B o:Nat):Int:=match W.cell? ⟨B,o,none⟩ with
 | some (.int _ n)=>n
 | _=>0
theorem uH{W:World}{Rb:Nat}{s:ByteArray}{at_ e:Int}{rv sv:Value}(h:Rdr W Rb s at_ rv sv e):numOf W Rb 1=at_∧numOf W Rb 4=e:=by
 obtain⟨_,c1,_,_,c4⟩:=Bx.fiv h;unfold numOf;rw[c1,c4];exact⟨rfl,rfl⟩
theorem kT{w W W':World}{A B:Nat}(h:AX.But A w W)(hB:w.heap.size≤B)(h3:B<W'.heap.size)(h4:∀ j,j≠B→W'.heap[j]?=W.heap[j]?)(h5:AX.Same W W'):AX.But A w W' :=
 ⟨h.low.trans (AX.aj (n:=0) (Nat.zero_le _) (.inl h3) h4 h5),fun k hk hn=>(h4 k (by omega)).trans (h.same k hk hn)⟩
theorem JG(s:ByteArray)(k:Nat)(_hk:k≤s.size)(rs:ByteArray)(hrs:rs=s.extract k s.size):rs.size=s.size-k∧∀ i (h:i<rs.size),((rs[i].toNat:Nat):Int)=bC s (k+i):=by
 subst hrs;refine⟨by rw[ByteArray.size_extract];omega,fun i h=>?_⟩;have h2:k+i<s.size:=by rw[ByteArray.size_extract] at h;omega
 rw[gQ s (k+i) h2,ByteArray.getElem_extract]
theorem UE(Rb:Nat)(s:ByteArray)(a:Nat)(rv sv:Value)(w:World)(hR:Rdr w Rb s a rv sv 0)(hs:s.size≤1000000)(ha:a≤s.size) :
  Calls Tryz.prog 137 #[.pointer (some ⟨Rb,0,none⟩)] w fun x w'=>x = .returned (kM s a).1.v∧Rdr w' Rb s (kM s a).2.1 rv sv (kM s a).2.2∧AX.But Rb w w':=by
 obtain⟨nt,hnt⟩:∃ nt,nt=(dG s.size a 0 && (bC s a == 94)):=⟨_,rfl⟩;obtain⟨a1,ha1⟩:∃ a1,a1=(if nt then a+1 else a):=⟨_,rfl⟩;have ac0:a1≤s.size:=by
  cases nt with
  | false=>rw[ha1];simpa using ha
  | true =>
   have h1:=hnt.symm;rw[Bool.and_eq_true,cZ] at h1;rw[ha1];simp;omega
 obtain⟨xx,hxx⟩:∃ xx,xx=uI s (s.size-a1) a1 0 .zero:=⟨_,rfl⟩;have HV:Hid (kM s a=if dG s.size xx.1 xx.2.1=true then (if nt then xx.2.2.not else xx.2.2,xx.1+1,0) else (xx.2.2,if xx.2.1=0 then s.size else xx.1,if xx.2.1=0 then 8 else xx.2.1)):=hid (by
  unfold kM;simp only[←hnt,←ha1,←hxx])
 obtain⟨Bc,hBc⟩:∃ Bc,Bc=w.heap.size:=⟨_,rfl⟩;have HBC:=hid hBc;have HX:=hid hxx;have hRl:=hR.lt;go_enter Tryz.func137,Tryz.ntmps137
 go_wp2_with fail
 rw[←hBc];obtain⟨W0,hW0⟩:∃ W0,W0=w.alloc (.cells #[.int .u64 0, .int .u64 0, .int .u64 0, .int .u64 0] 116):=⟨_,rfl⟩;have hR0:Rdr W0 Rb s a rv sv 0:=by rw[hW0];exact hR.alloc _
 rw[←hW0];have hb0:AX.But Rb w W0:=by rw[hW0];exact AX.But.of_below ((Below.refl _ w).alloc Nat.le.refl _)
 have hC0:dW W0 Bc .zero:=by rw[hW0,hBc];exact Bx.new _ _ _
 have HN:=hid hnt;have HA1:=hid ha1;clear hW0 hBc hnt ha1 hxx;go_cut [3] from 8 to 21 (fun t3 wz=>t3 = .bool nt∧Rdr wz Rb s a rv sv 0∧dW wz Bc .zero∧AX.But Rb w wz)
 case first =>
  obtain⟨c0,c1,c2,c3,c4⟩:=Bx.fiv hR0;have d0:=AX.aF c0 hR0.lt;have d1:=AX.aF c1 hR0.lt;have hmb:=QS Rb s a rv sv 0 W0 hR0
  by_cases hal:a<s.size
  ·have hm:dG s.size a 0=true:=cZ.2 ⟨rfl,hal⟩
   have hal2:(a:Int)<(s.size:Int):=(by omega);have HNT:nt=(bC s a == 94):=(by rw[HN.out,hm,Bool.true_and]);rw[hm] at hmb;have HNT:=hid HNT;refine AX.aO (by kernel_rfl) (by kernel_rfl) ?_
   repeat (go_big_quiet_step (first | (go_at_call 89;with_reducible exact(hmb _))))
   refine wpQuiet_nil ?_;rintro W2 ⟨p,rfl⟩;obtain⟨W2,hb2⟩:=p;change Below _ _ _ at hb2;have hR2:Rdr W2 Rb s a rv sv 0:=hR0.below hb2 hR0.lt;have hC2:dW W2 Bc .zero:=Bx.below hC0 hb2 (Bx.lt hC0);have hB2:AX.But Rb w W2:=hb0.trans (AX.But.of_below hb2);simp only[←gQ s a hal,←HNT.out];go_wp2_with fail
   go_meet
   case rel=>exact⟨rfl,hR2,hC2,hB2⟩
  ·have hm:dG s.size a 0=false:=by rw[←Bool.not_eq_true,cZ];rintro⟨_,h⟩;exact hal h
   have HNT:nt=false:=(by rw[HN.out,hm,Bool.false_and]);rw[hm] at hmb;refine AX.aO (by kernel_rfl) (by kernel_rfl) ?_
   repeat (go_big_quiet_step (first | (go_at_call 89;with_reducible exact(hmb _))))
   refine wpQuiet_nil ?_;rintro W2 ⟨p,rfl⟩;obtain⟨W2,hb2⟩:=p;change Below _ _ _ at hb2;have hR2:Rdr W2 Rb s a rv sv 0:=hR0.below hb2 hR0.lt;have hC2:dW W2 Bc .zero:=Bx.below hC0 hb2 (Bx.lt hC0);have hB2:AX.But Rb w W2:=hb0.trans (AX.But.of_below hb2);go_wp2_with fail
   go_meet
   case rel=>exact⟨by rw[HNT],hR2,hC2,hB2⟩
 case rest =>
  obtain⟨rfl,hR2,hC2,hB2⟩:=hcut;clear hR0 hb0 hC0;go_upto_if 22 with (fail)
  go_cut [3] from 23 to 29 (fun t3 wz=>t3 = .bool nt∧Rdr wz Rb s a1 rv sv 0∧dW wz Bc .zero∧AX.But Rb w wz)
  case first =>
   cases nt
   ·have e1:a1=a:=HA1.out
    go_wp2_with fail
    go_meet
    case rel=>exact⟨rfl,by rw[e1];exact hR2,hC2,hB2⟩
   ·have e1:a1=a+1:=HA1.out
    have c1:wc.cell? ⟨Rb,1,none⟩=some (.int .i64 a):=hR2.cell 1;have f1:=hR2.frozen 1;have hne:Bc≠Rb:=(by have:=HBC.out;omega);go_wp2_with fail
    go_meet
    case rel=>exact⟨rfl,by rw[e1];exact Bx.set hR2 1 (.int .i64 ((a:Int)+1)),Bx.other hC2 hne,hB2.trans (iM _ _ _ _)⟩
  case rest =>
   obtain⟨rfl,hR3,hC3,hB3⟩:=hcut;clear hR2 hC2 hB2;go_wp2_with fail
   go_loopw [4] (fun _ wr=>∃(n k:Nat)(e:Int)(c:C4),k≤s.size∧Rdr wr Rb s k rv sv e∧dW wr Bc c∧c.Wd∧AX.But Rb w wr∧(e=0→s.size-k≤n)∧Hid (xx=uI s n k e c))
    (fun _ wr=>if numOf wr Rb 4=0 then s.size-(numOf wr Rb 1).toNat+1 else 0)
   case atStart=>exact⟨s.size-a1,a1,0, .zero,ac0,hR3,hC3,C4.KN,hB3,fun _=>Nat.le_refl _,HX⟩
   case round =>
    clear hR3 hC3 hB3;obtain⟨n,k,e,c,hk,hRr,hCr,hWd,hBr,hn,HL⟩:=hrel;have hmb:=QS Rb s k rv sv e wr hRr;obtain⟨c0,c1,c2,c3,c4⟩:=Bx.fiv hRr;have d0:=AX.aF c0 hRr.lt;have d1:=AX.aF c1 hRr.lt;have d4:=AX.aF c4 hRr.lt
    by_cases hgo:dG s.size k e=true∧bC s k≠93
    ·obtain⟨hm,X3⟩:=hgo
     obtain⟨rfl,hkl⟩:=cZ.1 hm;rw[hm] at hmb;have hkl2:(k:Int)<(s.size:Int):=(by omega);have hby:=gQ s k hkl;have Ho:(bC s k != 93)=true:=(by simp[X3]);have X4:=hid Ho;have HBY:=hid hby;have HB:=hid X3;clear hby X3 Ho hm;go_upto_region 4 with (fail)
     refine AX.aO (by kernel_rfl) (by kernel_rfl) ?_
     repeat (go_big_quiet_step (first | (go_at_call 89;with_reducible exact(hmb _))))
     refine wpQuiet_nil ?_;rintro W2 ⟨p,rfl⟩;obtain⟨W2,hb2⟩:=p;change Below _ _ _ at hb2;have hR4:Rdr W2 Rb s k rv sv 0:=hRr.below hb2 hRr.lt;have hC4:dW W2 Bc c:=Bx.below hCr hb2 (Bx.lt hCr);have hB4:AX.But Rb w W2:=hBr.trans (AX.But.of_below hb2);simp only[←HBY.out,X4.out];clear c0 c1 c2 c3 c4 d0 d1 d4 hCr hBr hmb;have H1:=xP s k hkl;obtain⟨v,k1,e1,hv,hv2,hk1,hgt⟩:=H1;have ho:=Vz Rb s k rv sv 0;rw[hv] at ho;have HP:Hid (dN s k=if e1=0∧k1+1<s.size∧bC s k1=45∧bC s (k1+1)≠93 then (if (qo s (k1+1) 0).2.2=0∧(qo s (k1+1) 0).1.toNat<v then (v,(qo s (k1+1) 0).1.toNat,k1+1,7) else (v,(qo s (k1+1) 0).1.toNat,(qo s (k1+1) 0).2.1.toNat,(qo s (k1+1) 0).2.2)) else (v,v,k1,e1)):=hid (by
      unfold dN;simp only[hv,Int.toNat_natCast])
     have HGT:=hid hgt;clear hv hgt;go_upto_region 7 with (go_at_call 165;(with_reducible refine(ho _ hR4 hs hkl).mono ?_);rintro x W5 ⟨rfl,hR5,hb5⟩;obtain⟨c0,c1,c2,c3,c4⟩:=Bx.fiv hR5;have d0:=AX.aF c0 hR5.lt;have d1:=AX.aF c1 hR5.lt;have d4:=AX.aF c4 hR5.lt)
     have ac1:(k1:Int)≤(s.size:Int):=(by omega);have aej:min (k1:Int) (s.size:Int)=(k1:Int):=Int.min_eq_left ac1;refine AX.aO (by kernel_rfl) (by kernel_rfl) ?_
     repeat (go_big_quiet_step (fail))
     refine wpQuiet_nil ?_;rintro W6 ⟨p,rfl⟩;obtain⟨W6,hb6⟩:=p;change Below _ _ _ at hb6;have hR6:Rdr W6 Rb s k1 rv sv e1:=hR5.below hb6 hR5.lt;have hC6:dW W6 Bc c:=by
      have h5:dW W5 Bc c:=(hb5.same Bc (Bx.lt hC4) (by have:=HBC.out;omega)).trans hC4;exact Bx.below h5 hb6 (Bx.lt h5)
     have hB6:AX.But Rb w W6:=(hB4.trans hb5).trans (AX.But.of_below hb6);clear c0 c1 c2 c3 c4 d0 d1 d4 hR4 hC4 hB4 hR5 hb5;obtain⟨rs,hrs⟩:∃ rs,rs=s.extract k1 s.size:=⟨_,rfl⟩;obtain⟨hrl,hrb⟩:=JG s k1 hk1 rs hrs;rw[←hrs];clear hrs;obtain⟨pb,hpb⟩:∃ pb,pb=decide (e1=0∧k1+1<s.size∧bC s k1=45∧bC s (k1+1)≠93):=⟨_,rfl⟩;have HPB:=hid hpb;have HRL:=hid hrl;have HRB:=hid hrb;clear hpb hrl hrb;go_upto_region 8 with (fail)
     go_cut [81] from 62 to 80 (fun t81 wz=>t81 = .bool pb∧wz=W6)
     case first =>
      obtain⟨c0,c1,c2,c3,c4⟩:=Bx.fiv hR6
      by_cases he1:e1=0
      ·subst he1
       by_cases hsz:k1+1<s.size
       ·have hr1:(1:Int)<(rs.size:Int):=by have:=HRL.out;omega
        have hb0:=HRB.out 0 (by omega);have hb1:=HRB.out 1 (by omega);rw[Nat.add_zero] at hb0
        by_cases h45:bC s k1=45
        ·have p45:(bC s k1 == 45)=true:=by simp[h45]
         by_cases h93:bC s (k1+1)=93
         ·have p93:(bC s (k1+1) != 93)=false:=by simp[h93]
          have hp:pb=false:=(by rw[HPB.out];simp[h93]);go_wp2_with fail
          go_meet
          case rel=>exact⟨by rw[hp],rfl⟩
         ·have p93:(bC s (k1+1) != 93)=true:=by simp[h93]
          have hp:pb=true:=(by rw[HPB.out];simp[h93,h45,hsz]);go_wp2_with fail
          go_meet
          case rel=>exact⟨by rw[hp],rfl⟩
        ·have p45:(bC s k1 == 45)=false:=by simp[h45]
         have hp:pb=false:=(by rw[HPB.out];simp[h45]);go_wp2_with fail
         go_meet
         case rel=>exact⟨by rw[hp],rfl⟩
       ·have hr1:¬(1:Int)<(rs.size:Int):=by have:=HRL.out;omega
        have hp:pb=false:=(by rw[HPB.out];simp[hsz]);go_wp2_with fail
        go_meet
        case rel=>exact⟨by rw[hp],rfl⟩
      ·have hp:pb=false:=by rw[HPB.out];simp[he1]
       go_wp2_with fail
       go_meet
       case rel=>exact⟨by rw[hp],rfl⟩
     case rest =>
      obtain⟨rfl,rfl⟩:=hcut;clear HRB HRL;obtain⟨⟨pl,ph,pk,pe⟩,hpp⟩:∃ z,z=dN s k:=⟨_,rfl⟩;rw[←hpp] at HP;have HPP:=hid hpp;have hne:Bc≠Rb:=(by have:=HBC.out;omega);clear hpp;go_upto_if 81 with (fail)
      go_cut [5] from 82 to 107 (fun t5 wz=>t5 = .int .u8 (ph:Nat)∧pl=v∧Rdr wz Rb s pk rv sv pe∧dW wz Bc c∧AX.But Rb w wz)
      case first =>
       cases pb with
       | false =>
        have hno:=of_decide_eq_false HPB.out.symm;have hz:=HP.out;rw[if_neg hno] at hz;obtain⟨rfl,rfl,rfl,rfl⟩:pl=v∧ph=v∧pk=k1∧pe=e1:=by
         simpa using hz
        clear hno hz HP HPP;go_wp2_with fail
        go_meet
        case rel=>exact⟨rfl,trivial,hR6,hC6,hB6⟩
       | true =>
        obtain⟨he1,hsz,h45,h93⟩:=of_decide_eq_true HPB.out.symm;subst he1;obtain⟨v2,k2,e2,aaI,aek,hk2,hgt2⟩:=xP s (k1+1) hsz;have hz:=HP.out;rw[if_pos ⟨rfl,hsz,h45,h93⟩] at hz;have ho2:=Vz Rb s (k1+1) rv sv 0;rw[aaI] at ho2 hz;simp only[Int.toNat_natCast] at hz;have HZ:=hid hz;have c1:wc.cell? ⟨Rb,1,none⟩=some (.int .i64 k1):=hR6.cell 1;have f1:=hR6.frozen 1;have hR7:Rdr (wc.setCell ⟨Rb,1,none⟩ (.int .i64 ((k1:Int)+1))) Rb s ((k1+1:Nat):Int) rv sv 0:=Bx.set hR6 1 (.int .i64 ((k1:Int)+1));have hC7:dW (wc.setCell ⟨Rb,1,none⟩ (.int .i64 ((k1:Int)+1))) Bc c:=Bx.other hC6 hne;have hB7:=hB6.trans (iM wc Rb 1 (.int .i64 ((k1:Int)+1)));clear hz HP h45 h93 aaI hgt2
        by_cases hbad:e2=0∧v2<v
        ·obtain⟨rfl,hlt⟩:=hbad
         have hlt2:(v2:Int)<(v:Int):=(by omega);have hz:=HZ.out;rw[if_pos ⟨rfl,hlt⟩] at hz;obtain⟨rfl,rfl,rfl,rfl⟩:pl=v∧ph=v2∧pk=k1+1∧pe=7:=by simpa using hz
         clear hz HZ HPP;go_wp2_with (first
          | (go_at_call 165;(with_reducible refine(ho2 _ hR7 hs hsz).mono ?_);rintro x W8 ⟨rfl,hR8,hb8⟩;obtain⟨c0,c1,c2,c3,c4⟩:=Bx.fiv hR8;have hC8:dW W8 Bc c:=(hb8.same Bc (Bx.lt hC7) hne).trans hC7)
          | (go_at_call 91;(with_reducible refine(lD Rb s _ rv sv 0 _ _ _ hR8).mono ?_);rintro x W9 ⟨rfl,hR9,hb9⟩;have hC9:dW W9 Bc c:=(hb9.same Bc (Bx.lt hC8) hne).trans hC8))
         go_meet
         case rel=>exact⟨rfl,trivial,hR9,hC9,(hB7.trans hb8).trans hb9⟩
        ·have hz:=HZ.out
         rw[if_neg hbad] at hz;obtain⟨rfl,rfl,rfl,rfl⟩:pl=v∧ph=v2∧pk=k2∧pe=e2:=by simpa using hz
         clear hz HZ HPP;have aaJ:pe≠0∨(pe=0∧¬((ph:Int)<(pl:Int))):=by
          by_cases h0:pe=0
          ·exact .inr ⟨h0,fun h=>hbad ⟨h0,by omega⟩⟩
          ·exact .inl h0
         clear hbad;rcases aaJ with h0 | ⟨rfl,h0⟩
         ·go_wp2_with (go_at_call 165;(with_reducible refine(ho2 _ hR7 hs hsz).mono ?_);rintro x W8 ⟨rfl,hR8,hb8⟩;obtain⟨c0,c1,c2,c3,c4⟩:=Bx.fiv hR8;have hC8:dW W8 Bc c:=(hb8.same Bc (Bx.lt hC7) hne).trans hC7)
          go_meet
          case rel=>exact⟨rfl,trivial,hR8,hC8,hB7.trans hb8⟩
         ·go_wp2_with (go_at_call 165;(with_reducible refine(ho2 _ hR7 hs hsz).mono ?_);rintro x W8 ⟨rfl,hR8,hb8⟩;obtain⟨c0,c1,c2,c3,c4⟩:=Bx.fiv hR8;have hC8:dW W8 Bc c:=(hb8.same Bc (Bx.lt hC7) hne).trans hC7)
          go_meet
          case rel=>exact⟨rfl,trivial,hR8,hC8,hB7.trans hb8⟩
      case rest =>
       obtain⟨rfl,rfl,hR9,hC9,hB9⟩:=hcut;clear hR6 hC6 hB6 HPB HP;obtain⟨hpl,hph,hpk,hpe⟩:pl<256∧ph<256∧pk≤s.size∧(pe=0→k<pk):=by
        have:=Hq s k hkl;rw[←HPP.out] at this;exact this
       have HPE:=hid hpe;clear hpe;go_wp2_with fail
       have hbd:=(Below.refl wc.heap.size wc).drew;have MN:=Bx.below hR9 hbd (Bx.lt hR9);have UF:dW wc.drew Bc c:=Bx.below hC9 hbd (Bx.lt hC9);have aaK:=hB9.trans (AX.But.of_below hbd);obtain⟨C,hCi,hCo⟩:∃ C:World→Prop,(∀ Z,C Z→dW Z Bc c)∧(∀ Z,dW Z Bc c→C Z):=⟨_,fun _ h=>h,fun _ h=>h⟩;have hW0:C wc.drew:=hCo _ UF;haveI:Inhabited (AX.CW C):=⟨⟨_,hW0⟩⟩;haveI:Inhabited (AX.CW fun _=>True):=⟨⟨w,trivial⟩⟩;have b0:=fun p:AX.CW C=>(hCi _ p.h).cells.1;have b1:=fun p:AX.CW C=>(hCi _ p.h).cells.2.1;have b2:=fun p:AX.CW C=>(hCi _ p.h).cells.2.2.1;have b3:=fun p:AX.CW C=>(hCi _ p.h).cells.2.2.2;have HC:=hid hCo;clear hCo hCi;refine AX.dH (C:=fun W=>∃ p:AX.CW C,W=p.W) (CT:=fun W=>∃ p:AX.CW fun _=>True,W=p.W) 5 [(0,0),(1,0),(2,0),(3,2),(4,2),(5,2)] _ (by kernel_rfl) (by kernel_rfl) rfl (by kernel_rfl) (by decide) (by kernel_rfl) (by kernel_rfl) (by intro c a d v w h;cases d<;>exact h) ⟨⟨⟨_,trivial⟩,rfl⟩,⟨⟨_,hW0⟩,rfl⟩⟩ ?_;clear hW0 hbd hR9 hC9 hB9;generalize wc.drew=Wd at *
       repeat ((first | refine AX.bT _ (by rfl) ?_ | refine AX.dS _ (by rfl) ?_);go_big_quiet_step (fail);refine wpQuiet_nil ?_)
       refine AX.eF (oL pl ph hpl hph _) (by rfl) (by rfl) (by rfl) Tryz.func102 (by kernel_rfl) (by rfl) (by simp only[List.map_toArray,List.map_cons,List.map_nil];rfl) ?_;rintro e W11 ⟨rfl,IY⟩;have X5:=Bx.below MN IY (Bx.lt MN);have UG:dW W11 Bc c:=Bx.below UF IY (Bx.lt UF);have aaL:=aaK.trans (AX.But.of_below IY);refine⟨_,rfl,⟨⟨⟨W11,trivial⟩,rfl⟩,fun _=>⟨⟨W11,HC.out _ UG⟩,rfl⟩⟩,?_⟩;simp only[Act.put,List.setIfInBounds_toArray,List.set_cons_succ,List.set_cons_zero];have hcl:=C4.wC (rng pl ph);obtain⟨c2,hc2⟩:∃ c2,c2=C4.ofL (rng pl ph):=⟨_,rfl⟩;have hu:=union_k c.a c.b c.c c.d c2.a c2.b c2.c c2.d hWd.a hWd.b hWd.c hWd.d (hc2 ▸ hcl.a) (hc2 ▸ hcl.b) (hc2 ▸ hcl.c) (hc2 ▸ hcl.d);have ac2:(c.or c2).Wd:=hWd.or (hc2 ▸ hcl);have HC2:=hid hc2;rw[hc2] at hu;clear hc2 hcl;refine AX.eF (hu _) (by rfl) (by rfl) (by rfl) Tryz.func166 (by kernel_rfl) (by rfl) (by simp only[List.map_toArray,List.map_cons,List.map_nil];rfl) ?_;rintro e W12 ⟨rfl,sN⟩;have aaM:=Bx.below X5 sN (Bx.lt X5);have X6:dW W12 Bc c:=Bx.below UG sN (Bx.lt UG);have aaN:=aaL.trans (AX.But.of_below sN);refine⟨_,rfl,⟨⟨⟨W12,trivial⟩,rfl⟩,fun _=>⟨⟨W12,HC.out _ X6⟩,rfl⟩⟩,?_⟩;simp only[Act.put,List.setIfInBounds_toArray,List.set_cons_succ,List.set_cons_zero];refine AX.aW _ (by rfl) (by rfl) ?_;refine AX.aG (vs:=[.int .u64 (c.or c2).a, .int .u64 (c.or c2).b, .int .u64 (c.or c2).c, .int .u64 (c.or c2).d]) rfl (by rw[HC2.out];rfl) vJ X6 rfl rfl ?_;rintro W13 h3 h4 h5;have ac3:dW W13 Bc (c.or c2):=h3;have aaO:Rdr W13 Rb s pk rv sv pe:=(h4 Rb (fun e=>hne e.symm)).trans aaM;have ac4:=kT aaN (by have:=HBC.out;omega) (Array.getElem?_eq_some_iff.1 h3).1 h4 h5;refine⟨⟨⟨⟨W13,trivial⟩,rfl⟩,fun h=>by cases h⟩,?_⟩;clear b0 b1 b2 b3 h3 h4 h5 HC hu MN X5 aaM UF UG X6 aaK aaL aaN;unfold AX.bD;go_wp2_with fail
       obtain⟨n',rfl⟩:∃ n',n=n'+1:=⟨n-1,by have:=hn trivial;omega⟩;have hx2:xx=uI s n' pk pe (c.or c2):=by
        rw[HL.out,uI,if_pos ⟨cZ.2 ⟨rfl,hkl⟩,HB.out⟩,←HPP.out,HC2.out]
       have hn2:pe=0→s.size-pk≤n':=fun h=>by have:=hn trivial;have:=HPE.out h;omega
       obtain⟨q1,q4⟩:=uH aaO;obtain⟨o1,o4⟩:=uH hRr;have hms:(if numOf W13 Rb 4=0 then s.size-(numOf W13 Rb 1).toNat+1 else 0)<(if numOf wr Rb 4=0 then s.size-(numOf wr Rb 1).toNat+1 else 0):=by
        rw[q1,q4,o1,o4,if_pos rfl,Int.toNat_natCast,Int.toNat_natCast]
        by_cases h0:pe=0
        ·rw[if_pos h0];have:=HPE.out h0;omega
        ·rw[if_neg h0];omega
       exact⟨⟨n',pk,pe,c.or c2,hpk,aaO,ac3,ac2,ac4,hn2,hid hx2⟩,hms⟩
    ·have hxx:xx=(k,e,c):=by
      rw[HL.out]
      cases n with
      | zero=>rfl
      | succ n=>rw[uI,if_neg hgo]
     subst hxx;have hne:Bc≠Rb:=(by have:=HBC.out;omega);have Hr:w.heap.size≤Bc:=(by have:=HBC.out;omega);dsimp only at HV
     by_cases hm:dG s.size k e=true
     ·obtain⟨rfl,hkl⟩:=cZ.1 hm
      have h93:bC s k=93:=Classical.byContradiction fun h=>hgo ⟨hm,h⟩;rw[hm] at hmb;rw[if_pos rfl,hm] at HV;have hkl2:(k:Int)<(s.size:Int):=(by omega);have hby:=gQ s k hkl;have Ho:(bC s k != 93)=false:=(by simp[h93]);have X4:=hid Ho;have HBY:=hid hby;have HM:=hid hm;clear hby Ho hm h93 hgo;go_upto_region 4 with (fail)
      refine AX.aO (by kernel_rfl) (by kernel_rfl) ?_
      repeat (go_big_quiet_step (first | (go_at_call 89;with_reducible exact(hmb _))))
      refine wpQuiet_nil ?_;rintro W2 ⟨p,rfl⟩;obtain⟨W2,hb2⟩:=p;change Below _ _ _ at hb2;have hR4:Rdr W2 Rb s k rv sv 0:=hRr.below hb2 hRr.lt;have hC4:dW W2 Bc c:=Bx.below hCr hb2 (Bx.lt hCr);have hB4:AX.But Rb w W2:=hBr.trans (AX.But.of_below hb2);simp only[←HBY.out,X4.out];clear c0 c1 c2 c3 c4 d0 d1 d4 hRr hCr hBr hmb;have hmk:=Aj Rb s k rv sv 0;rw[HM.out] at hmk;go_upto_if 115 with (go_at_call 89;(with_reducible refine(hmk _ hR4).mono ?_);rintro x W5 ⟨rfl,hb5⟩;have hR5:Rdr W5 Rb s k rv sv 0:=hR4.below hb5 hR4.lt;have hC5:dW W5 Bc c:=Bx.below hC4 hb5 (Bx.lt hC4);obtain⟨c0,c1,c2,c3,c4⟩:=Bx.fiv hR5;have f1:=hR5.frozen 1;have hR6:Rdr (W5.setCell ⟨Rb,1,none⟩ (.int .i64 ((k:Int)+1))) Rb s ((k+1:Nat):Int) rv sv 0:=Bx.set hR5 1 (.int .i64 ((k:Int)+1));have hC6:dW (W5.setCell ⟨Rb,1,none⟩ (.int .i64 ((k:Int)+1))) Bc c:=Bx.other hC5 hne;have hB6:AX.But Rb w (W5.setCell ⟨Rb,1,none⟩ (.int .i64 ((k:Int)+1))):=(hB4.trans (AX.But.of_below hb5)).trans (iM _ _ _ _);obtain⟨x0,x1,x2,x3⟩:=hC6.cells)
      cases nt with
      | false =>
       have hv:kM s a=(c,k+1,0):=HV.out;clear hR4 hC4 hB4 hmk;go_wp2_with ((with_reducible refine bH ?_);refine AX.au (vs:=[.int .u64 c.a, .int .u64 c.b, .int .u64 c.c, .int .u64 c.d]) rfl rfl vJ hC6 rfl rfl ?_;rintro W7 h3 h4 h5;have hC7:dW W7 Bc c:=h3;have hR7:Rdr W7 Rb s ((k+1:Nat):Int) rv sv 0:=(h4 Rb (fun e=>hne e.symm)).trans hR6;have hB7:=kT hB6 Hr (Array.getElem?_eq_some_iff.1 h3).1 h4 h5;obtain⟨y0,y1,y2,y3⟩:=hC7.cells)
       exact bodyPost_ret (v:=c.v) (by simp[results,Tryz.results137,go_sem,C4.v,y0,y1,y2,y3]) rfl (by rw[hv];exact⟨rfl,hR7,hB7⟩)
      | true =>
       have hv:kM s a=(c.not,k+1,0):=HV.out;have hnk:=Ku c.a c.b c.c c.d hWd.a hWd.b hWd.c hWd.d;clear hR4 hC4 hB4 hmk;go_wp2_with (first
        | (go_at_call 104;(with_reducible refine(hnk _).mono ?_);rintro x W8 ⟨rfl,hb8⟩;have hR8:=Bx.below hR6 hb8 (Bx.lt hR6);have hC8:dW W8 Bc c:=Bx.below hC6 hb8 (Bx.lt hC6);have hB8:=hB6.trans (AX.But.of_below hb8))
        | ((with_reducible refine bH ?_);refine AX.au (vs:=[.int .u64 (nw c.a:Nat), .int .u64 (nw c.b:Nat), .int .u64 (nw c.c:Nat), .int .u64 (nw c.d:Nat)]) rfl rfl vJ hC8 rfl rfl ?_;rintro W7 h3 h4 h5;have hC7:dW W7 Bc c.not:=h3;have hR7:Rdr W7 Rb s ((k+1:Nat):Int) rv sv 0:=(h4 Rb (fun e=>hne e.symm)).trans hR8;have hB7:=kT hB8 Hr (Array.getElem?_eq_some_iff.1 h3).1 h4 h5;obtain⟨y0,y1,y2,y3⟩:=hC7.cells))
       exact bodyPost_ret (v:=c.not.v) (by simp[results,Tryz.results137,go_sem,C4.v,y0,y1,y2,y3]) rfl (by rw[hv];exact⟨rfl,hR7,hB7⟩)
     ·have hmf:dG s.size k e=false:=Bool.eq_false_iff.2 hm
      rw[hmf] at hmb;rw[if_neg hm] at HV;have hmk:=Aj Rb s k rv sv e;rw[hmf] at hmk;have HFV:(gK ((k:Int),e) s.size 8)=(((if e=0 then s.size else k:Nat):Int),if e=0 then 8 else e):=by
       unfold gK
       by_cases h0:e=0
       ·simp[h0]
       ·simp[h0]
      have HFV:=hid HFV;clear hm hmf hgo;go_upto_region 4 with (fail)
      refine AX.aO (by kernel_rfl) (by kernel_rfl) ?_
      repeat (go_big_quiet_step (first | (go_at_call 89;with_reducible exact(hmb _))))
      refine wpQuiet_nil ?_;rintro W2 ⟨p,rfl⟩;obtain⟨W2,hb2⟩:=p;change Below _ _ _ at hb2;have hR4:Rdr W2 Rb s k rv sv e:=hRr.below hb2 hRr.lt;have hC4:dW W2 Bc c:=Bx.below hCr hb2 (Bx.lt hCr);have hB4:AX.But Rb w W2:=hBr.trans (AX.But.of_below hb2);clear c0 c1 c2 c3 c4 d0 d1 d4 hRr hCr hBr hmb;go_wp2_with (first
       | (go_at_call 89;(with_reducible refine(hmk _ hR4).mono ?_);rintro x W5 ⟨rfl,hb5⟩;have hR5:Rdr W5 Rb s k rv sv e:=hR4.below hb5 hR4.lt;have hC5:dW W5 Bc c:=Bx.below hC4 hb5 (Bx.lt hC4);obtain⟨c0,c1,c2,c3,c4⟩:=Bx.fiv hR5;have hB5:=hB4.trans (AX.But.of_below hb5))
       | (go_at_call 91;(with_reducible refine(lD Rb s _ rv sv e _ _ _ hR5).mono ?_);rintro x W8 ⟨rfl,hR8,hb8⟩;rw[HFV.out] at hR8;have hC8:dW W8 Bc c:=(hb8.same Bc (Bx.lt hC5) hne).trans hC5;have hB8:=hB5.trans hb8;obtain⟨x0,x1,x2,x3⟩:=hC8.cells)
       | ((with_reducible refine bH ?_);refine AX.au (vs:=[.int .u64 c.a, .int .u64 c.b, .int .u64 c.c, .int .u64 c.d]) rfl rfl vJ hC8 rfl rfl ?_;rintro W7 h3 h4 h5;have hC7:dW W7 Bc c:=h3;have hR7:=(h4 Rb (fun e=>hne e.symm)).trans hR8;have hB7:=kT hB8 Hr (Array.getElem?_eq_some_iff.1 h3).1 h4 h5;obtain⟨y0,y1,y2,y3⟩:=hC7.cells))
      exact bodyPost_ret (v:=c.v) (by simp[results,Tryz.results137,go_sem,C4.v,y0,y1,y2,y3]) rfl (by rw[HV.out];exact⟨rfl,hR7,hB7⟩)
end
section
open Go Go.Proofs Go.RowKit
attribute [local go_sem] Oper.semAt_some
theorem JK(l:List Nat)(s:ByteArray)(hs:s.size≤1000000)(hl:sb s=l)(w:World):Calls Tryz.prog 138 #[.string s] w fun e w'=>e = .returned (C4.ofL l).v∧Below w.heap.size w w':=by
 subst hl;exact QV s hs w
theorem aaY(z:C4)(h:z.Wd)(W:World):Calls Tryz.prog 104 #[z.v] W fun e w'=>e = .returned z.not.v∧Below W.heap.size W w':=Ku z.a z.b z.c z.d h.a h.b h.c h.d W
theorem H7(W:World)(B c:Nat)(h:W.cell? ⟨B,0,none⟩=some (.int .u8 (c:Nat))):(convert 106 9 (.slice (some ⟨B,0,none⟩) 1 1)).run Tryz.prog W = .ok (.string (strOfNums [(c:Int)])) W :=
 run_convert_bytes_arg (P:=Tryz.prog) W 106 5 Tryz.underlying106 Tryz.underlying5 B 0 1 1 [(c:Int)] rfl (fun i hi=>by
  obtain rfl:i=0:=by omega
  exact h) 9 Tryz.underlying9
theorem Ri(c:Nat)(h:c<256):sb (strOfNums [(c:Int)]) = [c]:=by
 unfold sb;rw[strOfNums_data];simp only[List.map_cons,List.map_nil,Int.toNat_natCast,UInt8.toNat_ofNat'];rw[Nat.mod_eq_of_lt h]
theorem UN(Rb:Nat)(s:ByteArray)(a:Nat)(c:Nat)(hc:c<256)(rv sv:Value)(w:World)(hR:Rdr w Rb s a rv sv 0)(hs:s.size≤1000000)(ha:a≤s.size) :
  Calls Tryz.prog 121 #[.pointer (some ⟨Rb,0,none⟩), .int .u8 c] w fun x w'=>x = .returned (gq s a c).1.v∧Rdr w' Rb s (gq s a c).2.1 rv sv (gq s a c).2.2∧AX.But Rb w w':=by
 obtain⟨Bc,hBc⟩:∃ Bc,Bc=w.heap.size:=⟨_,rfl⟩;have HBC:=Lib.hid hBc;have hRl:=hR.lt;have hne:Bc≠Rb:=by omega
 have Hr:w.heap.size≤Bc:=by omega
 have hb0:AX.But Rb w (w.alloc (.cells #[.int .u64 0, .int .u64 0, .int .u64 0, .int .u64 0] 116)):=AX.But.of_below ((Below.refl _ w).alloc Nat.le.refl _);have hR0:Rdr (w.alloc (.cells #[.int .u64 0, .int .u64 0, .int .u64 0, .int .u64 0] 116)) Rb s a rv sv 0:=hR.alloc _;have hC0:dW (w.alloc (.cells #[.int .u64 0, .int .u64 0, .int .u64 0, .int .u64 0] 116)) Bc .zero:=by rw[hBc];exact Bx.new _ _ _
 obtain⟨W0,hW0⟩:∃ W0,W0=w.alloc (.cells #[.int .u64 0, .int .u64 0, .int .u64 0, .int .u64 0] 116):=⟨_,rfl⟩;rw[←hW0] at hb0 hR0 hC0;have HW0:=Lib.hid hW0;clear hBc hW0;go_enter Tryz.func121,Tryz.ntmps121
 go_upto_if 6 with (fail)
 rw[←HBC.out,←HW0.out]
 by_cases h91:c=91
 ·subst h91
  have hv:gq s a ((91:Nat):Int)=kM s a:=if_pos rfl;have hk:=UE Rb s a rv sv _ hR0 hs ha;obtain⟨z,hz⟩:∃ z,z=kM s a:=⟨_,rfl⟩;rw[←hz] at hk hv;have HV:=Lib.hid hv;clear hv hz;go_wp2_with (first
   | (go_at_call 137;(with_reducible refine hk.mono ?_);rintro x W1 ⟨rfl,hR1,hb1⟩;have hC1:dW W1 Bc .zero:=(hb1.same Bc (Bx.lt hC0) hne).trans hC0)
   | ((with_reducible refine bH ?_);refine AX.au (vs:=[.int .u64 z.1.a, .int .u64 z.1.b, .int .u64 z.1.c, .int .u64 z.1.d]) rfl rfl vJ hC1 rfl rfl ?_;rintro W7 h3 h4 h5;have hC7:dW W7 Bc z.1:=h3;have hR7:=(h4 Rb (fun e=>hne e.symm)).trans hR1;have hB7:=kT (hb0.trans hb1) Hr (Array.getElem?_eq_some_iff.1 h3).1 h4 h5;obtain⟨y0,y1,y2,y3⟩:=hC7.cells))
  exact bodyPost_ret (v:=z.1.v) (by simp[results,Tryz.results121,go_sem,C4.v,y0,y1,y2,y3]) rfl (by rw[HV.out];exact⟨rfl,hR7,hB7⟩)
 have n91:¬(c:Int)=91:=by omega
 by_cases h46:c=46
 ·subst h46
  obtain⟨z,hz⟩:∃ z,z=C4.ofL [10]:=⟨_,rfl⟩;have hv:gq s a ((46:Nat):Int)=(z.not,a,0):=by rw[hz];rfl
  have hk:=fun W=>JK [10] ⟨#[10]⟩ (by decide) rfl W;have hzw:z.Wd:=by rw[hz];exact C4.wC _
  rw[←hz] at hk;have hnk:=aaY z hzw;have HV:=Lib.hid hv;clear hv hz;go_wp2_with (first
   | (go_at_call 138;(with_reducible refine(hk _).mono ?_);rintro x W1 ⟨rfl,hb1⟩;have hC1:dW W1 Bc .zero:=Bx.below hC0 hb1 (Bx.lt hC0);have hR1:=Bx.below hR0 hb1 (Bx.lt hR0);have hB1:=hb0.trans (AX.But.of_below hb1))
   | (go_at_call 104;(with_reducible refine(hnk _).mono ?_);rintro x W2 ⟨rfl,hb2⟩;have hC2:dW W2 Bc .zero:=Bx.below hC1 hb2 (Bx.lt hC1);have hR2:=Bx.below hR1 hb2 (Bx.lt hR1);have hB2:=hB1.trans (AX.But.of_below hb2))
   | ((with_reducible refine bH ?_);refine AX.au (vs:=[.int .u64 (nw z.a:Nat), .int .u64 (nw z.b:Nat), .int .u64 (nw z.c:Nat), .int .u64 (nw z.d:Nat)]) rfl rfl vJ hC2 rfl rfl ?_;rintro W7 h3 h4 h5;have hC7:dW W7 Bc z.not:=h3;have hR7:=(h4 Rb (fun e=>hne e.symm)).trans hR2;have hB7:=kT hB2 Hr (Array.getElem?_eq_some_iff.1 h3).1 h4 h5;obtain⟨y0,y1,y2,y3⟩:=hC7.cells))
  exact bodyPost_ret (v:=z.not.v) (by simp[results,Tryz.results121,go_sem,C4.v,y0,y1,y2,y3]) rfl (by rw[HV.out];exact⟨rfl,hR7,hB7⟩)
 have n46:¬(c:Int)=46:=by omega
 by_cases h92:c=92
 ·subst h92
  obtain⟨q,k,e,hv,hq,hk,_⟩:=rH s a ha;have hes:=Hy Rb s a rv sv 0;have hv2:gq s a ((92:Nat):Int)=(C4.ofL [(bV s a 0).1.toNat],(bV s a 0).2.1.toNat,(bV s a 0).2.2):=rfl;rw[hv] at hes hv2;simp only[Int.toNat_natCast] at hv2;obtain⟨z,hz⟩:∃ z,z=C4.ofL [q]:=⟨_,rfl⟩;have hof:=fun W=>JK [q] (strOfNums [(q:Int)]) (by rw[strOfNums_size];simp) (Ri q hq) W;rw[←hz] at hv2 hof;have HV:=Lib.hid hv2;clear hv hv2 hz;go_wp2_with (first
   | (go_at_call 139;(with_reducible refine(hes _ hR0 hs ha).mono ?_);rintro x W1 ⟨rfl,hR1,hb1⟩;have hC1:dW W1 Bc .zero:=(hb1.same Bc (Bx.lt hC0) hne).trans hC0;have hba:=(Below.refl W1.heap.size W1).alloc Nat.le.refl (.cells #[.int .u8 q] 5);have hcv:=H7 (W1.alloc (.cells #[.int .u8 q] 5)) W1.heap.size q ((Bx.new W1 5 #[.int .u8 q]).cell 0);have hR2:=Bx.below hR1 hba (Bx.lt hR1);have hC2:dW (W1.alloc (.cells #[.int .u8 q] 5)) Bc .zero:=Bx.below hC1 hba (Bx.lt hC1);have hB2:=(hb0.trans hb1).trans (AX.But.of_below hba))
   | (go_at_call 138;(with_reducible refine(hof _).mono ?_);rintro x W3 ⟨rfl,hb3⟩;have hC3:dW W3 Bc .zero:=Bx.below hC2 hb3 (Bx.lt hC2);have hR3:=Bx.below hR2 hb3 (Bx.lt hR2);have hB3:=hB2.trans (AX.But.of_below hb3))
   | ((with_reducible refine bH ?_);refine AX.au (vs:=[.int .u64 z.a, .int .u64 z.b, .int .u64 z.c, .int .u64 z.d]) rfl rfl vJ hC3 rfl rfl ?_;rintro W7 h3 h4 h5;have hC7:dW W7 Bc z:=h3;have hR7:=(h4 Rb (fun e=>hne e.symm)).trans hR3;have hB7:=kT hB3 Hr (Array.getElem?_eq_some_iff.1 h3).1 h4 h5;obtain⟨y0,y1,y2,y3⟩:=hC7.cells))
  exact bodyPost_ret (v:=z.v) (by simp[results,Tryz.results121,go_sem,C4.v,y0,y1,y2,y3]) rfl (by rw[HV.out];exact⟨rfl,hR7,hB7⟩)
 ·have n92:¬(c:Int)=92:=by omega
  have hv2:gq s a (c:Int)=(C4.ofL [c],a,0):=by
   unfold gq;rw[if_neg n91,if_neg n46,if_neg n92,Int.toNat_natCast]
  obtain⟨z,hz⟩:∃ z,z=C4.ofL [c]:=⟨_,rfl⟩;have hof:=fun W=>JK [c] (strOfNums [(c:Int)]) (by rw[strOfNums_size];simp) (Ri c hc) W;rw[←hz] at hv2 hof;have HV:=Lib.hid hv2;have hba:=(Below.refl W0.heap.size W0).alloc Nat.le.refl (.cells #[.int .u8 c] 5);have hcv:=H7 (W0.alloc (.cells #[.int .u8 c] 5)) W0.heap.size c ((Bx.new W0 5 #[.int .u8 c]).cell 0);have hR2:=Bx.below hR0 hba (Bx.lt hR0);have hC2:dW (W0.alloc (.cells #[.int .u8 c] 5)) Bc .zero:=Bx.below hC0 hba (Bx.lt hC0);have hB2:=hb0.trans (AX.But.of_below hba);clear hv2 hz;go_wp2_with (first
   | (go_at_call 138;(with_reducible refine(hof _).mono ?_);rintro x W3 ⟨rfl,hb3⟩;have hC3:dW W3 Bc .zero:=Bx.below hC2 hb3 (Bx.lt hC2);have hR3:=Bx.below hR2 hb3 (Bx.lt hR2);have hB3:=hB2.trans (AX.But.of_below hb3))
   | ((with_reducible refine bH ?_);refine AX.au (vs:=[.int .u64 z.a, .int .u64 z.b, .int .u64 z.c, .int .u64 z.d]) rfl rfl vJ hC3 rfl rfl ?_;rintro W7 h3 h4 h5;have hC7:dW W7 Bc z:=h3;have hR7:=(h4 Rb (fun e=>hne e.symm)).trans hR3;have hB7:=kT hB3 Hr (Array.getElem?_eq_some_iff.1 h3).1 h4 h5;obtain⟨y0,y1,y2,y3⟩:=hC7.cells))
  exact bodyPost_ret (v:=z.v) (by simp[results,Tryz.results121,go_sem,C4.v,y0,y1,y2,y3]) rfl (by rw[HV.out];exact⟨rfl,hR7,hB7⟩)
end
end Go.Proofs.YtkjgogdkdejljaaGreatDoor.Rx
