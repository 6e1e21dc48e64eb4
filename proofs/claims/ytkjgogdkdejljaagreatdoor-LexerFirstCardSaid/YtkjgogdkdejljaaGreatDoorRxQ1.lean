import Derived.Test.YtkjgogdkdejljaaGreatDoorRxQ0
import Derived.Test.YtkjgogdkdejljaaGreatDoorRxKn
set_option maxHeartbeats 40000000
namespace Go.Proofs.YtkjgogdkdejljaaGreatDoor.Rx
section
open Go Go.Proofs Go.RowKit
attribute [local go_sem] Oper.semAt_some
def kY(c:Int):Bool:=(decide (48<=c) && decide (c<=57)) || (decide (97<=c) && decide (c<=122)) || (decide (65<=c) && decide (c<=90))
theorem IC(c:Int)(w:World):Calls Tryz.prog 168 #[.int .u8 c] w fun x w'=>x=.returned (.bool (kY c))/\w'=w:=by
 by_cases h1:48<=c<;>by_cases h2:c<=57<;>by_cases h3:97<=c<;>by_cases h4:c<=122<;>by_cases h5:65<=c<;>by_cases h6:c<=90<;>first|(exfalso;omega)|(
  go_enter Tryz.func168,Tryz.ntmps168
  go_wp2
  refine afJ (v:=.bool (kY c)) (by simp[results,Tryz.results168,go_sem,kY,h1,h2,h3,h4,h5,h6]) rfl ⟨rfl,rfl⟩)
def hexS:ByteArray:=⟨#[48,49,50,51,52,53,54,55,56,57,97,98,99,100,101,102]⟩
def low(c:Int):Int:=if 65<=c/\c<=70 then c+32 else c
def hexV(c:Int):Int:=Lib.indexByte hexS.data.toList (low c).toNat.toUInt8
theorem acg(c:Int)(w:World):Calls Tryz.prog 185 #[.int .u8 c] w fun x w'=>x=.returned (.int .i64 (hexV c))/\w'=w:=by
 by_cases h:65<=c/\c<=70
 ·obtain⟨h1,h2⟩:=h
  have hl:low c=c+32:=afR ⟨h1,h2⟩;have hw:IntKind.u8.wrap (c+32)=c+32:=by
   rw[IntKind.wrap_u8];omega
  go_enter Tryz.func185,Tryz.ntmps185
  go_wp2_with (first
   | (with_reducible refine(rO _ _ _).mono ?_;rintro x w2 ⟨rfl,rfl⟩))
  refine afJ (v:=.int .i64 (hexV c)) (by simp[results,Tryz.results185,go_sem,hexV,hl,hexS]) rfl ⟨rfl,rfl⟩
 ·have hl:low c=c:=afO h
  go_enter Tryz.func185,Tryz.ntmps185
  by_cases h1:65<=c
  ·have h2:¬c<=70:=fun h2=>h ⟨h1,h2⟩
   go_wp2_with (first
    | (with_reducible refine(rO _ _ _).mono ?_;rintro x w2 ⟨rfl,rfl⟩))
   refine afJ (v:=.int .i64 (hexV c)) (by simp[results,Tryz.results185,go_sem,hexV,hl,hexS]) rfl ⟨rfl,rfl⟩
  ·go_wp2_with (first
    | (with_reducible refine(rO _ _ _).mono ?_;rintro x w2 ⟨rfl,rfl⟩))
   refine afJ (v:=.int .i64 (hexV c)) (by simp[results,Tryz.results185,go_sem,hexV,hl,hexS]) rfl ⟨rfl,rfl⟩
def bg(s:ByteArray)(k:Nat):Int:=if h:k<s.size then (s[k].toNat:Int)else 0
theorem gU(s:ByteArray)(k:Nat)(h:k<s.size):bg s k=(s[k].toNat:Int):=dif_pos h
def hx(s:ByteArray)(k:Nat):Int:=hexV (bg s k)
def fA(s:ByteArray)(a:Nat)(e:Int):Int×Int×Int:=
 if s.size<=a+1 then (0,gQ ((a:Int),e) s.size 8)
 else if hx s (a+1)<0 then (0,gQ ((a:Int),e) ((a:Int)+1) 7)
 else if s.size<=a+2 then (0,gQ ((a:Int),e) s.size 8)
 else if hx s (a+2)<0 then (0,gQ ((a:Int),e) ((a:Int)+2) 7)
 else (IntKind.u8.wrap (16*hx s (a+1)+hx s (a+2)),(a:Int)+3,e)
def acc(s:ByteArray)(a k:Nat):Int:=if k=0 then 0 else if k=1 then hx s (a+1)else 16*hx s (a+1)+hx s (a+2)
def Gg(s:ByteArray)(a k:Nat):Prop:=∀j,j<k->a+1+j<s.size/\0<=hx s (a+1+j)
theorem IE(b:UInt8):∀s:List UInt8,Lib.indexByte s b<s.length\/Lib.indexByte s b = -1
 | [] =>.inr (by simp[Lib.indexByte])
 | a::l=>by
  have ih:=IE b l;simp only[Lib.indexByte,agl];split
  ·left;omega
  ·split<;>omega
theorem MF(c:Int):hexV c<16:=by
 rcases IE (low c).toNat.toUInt8 hexS.data.toList with h|h
 ·exact h
 ·have:hexV c = -1:=h
  omega
theorem TK(Rb:Nat)(s:ByteArray)(a:Nat)(rv sv:Value)(e:Int)(w:World)(hR:Rdr w Rb s a rv sv e)(hs:s.size<=1000000)(ha:a<s.size):
  Calls Tryz.prog 167 #[.pointer (some ⟨Rb,0,none⟩)] w fun x w'=>x=.returned (.int .u8 (fA s a e).1)/\Rdr w' Rb s (fA s a e).2.1 rv sv (fA s a e).2.2/\AX.But Rb w w':=by
 obtain⟨c0,c1,c2,c3,c4⟩:=Bx.fiv hR;go_enter Tryz.func167,Tryz.ntmps167
 go_wp2
 obtain⟨wo,rfl⟩:∃wo:World,wo=w:=⟨_,rfl⟩;go_loopw [3,7] (fun v ix wr=>∃k:Nat,k<=2/\ix=.int .i64 k/\v=.int .i64 (acc s a k)/\Hid (Gg s a k)/\wr=wo)
  (fun _ ix _=>2-(RowKit.intOf ix).toNat)
 case atStart=>exact⟨0,by omega,rfl,rfl,Lib.hid (fun j hj=>by omega),rfl⟩
 case round =>
  obtain⟨k,hk,rfl,rfl,HO,rfl⟩:=hrel
  by_cases hk2:k<2
  ·have hk3:(k:Int)<2:=by omega
   by_cases hin:a+1+k<s.size
   ·have hin2:¬((s.size:Int)<=(a:Int)+1+(k:Int)):=by omega
    have hb:=acg (bg s (a+1+k));rw[gU s (a+1+k) hin,<-gU s (a+1+k) hin,gU s (a+1+k) hin]at hb;obtain⟨h,hh⟩:=afC (hexV (s[a+1+k].toNat:Int));have hh2:hx s (a+1+k)=h:=(by rw[hh];simp only[hx,gU s (a+1+k) hin]);rw[<-hh]at hb;have HH:=Lib.hid hh2;have h16:h<16:=hh▸ MF _;clear hh hh2
    by_cases hneg:h<0
    ·go_wp2_with (first
      | (with_reducible refine(hb _).mono ?_;rintro x w2 ⟨rfl,rfl⟩)
      | (with_reducible refine(lK Rb s _ rv sv e _ _ _ hR).mono ?_;rintro x w2 ⟨rfl,hR2,hB2⟩))
     refine afJ (v:=.int .u8 0) (by simp[results,Tryz.results167,go_sem]) rfl ?_;have TL:k=0\/k=1:=(by omega);have hd:fA s a e=(0,gQ ((a:Int),e) ((a:Int)+1+k) 7):=by
      rcases TL with rfl|rfl
      ·rw[fA,afO (by omega),afR (by rw[<-agV (a+1),HH.out];exact hneg)];simp
      ·obtain⟨o1,o2⟩:=HO.out 0 (by omega)
       rw[agV]at o1 o2;rw[fA,afO (by omega),afO (by omega),afO (by omega),afR (by rw[show a+2=a+1+1 from rfl,HH.out];exact hneg)]
       congr 2
     rw[hd];exact⟨rfl,hR2,hB2⟩
    ·have hg:¬h<0:=hneg
     have hg0:0<=h:=(by omega);have hacc:IntKind.i64.wrap (16*acc s a k)=16*acc s a k/\IntKind.i64.wrap (16*acc s a k+h)=acc s a (k+1):=by
      have TL:k=0\/k=1:=(by omega);have hH:=HH.out;rcases TL with rfl|rfl
      ·rw[agV]at hH
       simp[acc,hH,IntKind.wrap_i64];omega
      ·have:=MF (bg s (a+1))
       obtain⟨_,o2⟩:=HO.out 0 (by omega);rw[agV]at o2;rw[show a+1+1=a+2 from rfl]at hH;have:hx s (a+1)<16:=this;simp[acc,hH,IntKind.wrap_i64];omega
     obtain⟨q1,q2⟩:=hacc;go_wp2_with (first
      | (with_reducible refine(hb _).mono ?_;rintro x w2 ⟨rfl,rfl⟩))
     have HO2:Hid (Gg s a (k+1)):=Lib.hid (fun j hj=>by
      by_cases hjk:j<k
      ·exact HO.out j hjk
      ·obtain rfl:j=k:=by omega
       exact⟨hin,by rw[HH.out];exact hg0⟩)
     exact⟨⟨k+1,by omega,by simp,rfl,HO2,trivial⟩,by simp[RowKit.intOf];omega⟩
   ·have hge:(s.size:Int)<=(a:Int)+1+(k:Int):=by omega
    go_wp2_with (first
     | (with_reducible refine(lK Rb s _ rv sv e _ _ _ hR).mono ?_;rintro x w2 ⟨rfl,hR2,hB2⟩))
    refine afJ (v:=.int .u8 0) (by simp[results,Tryz.results167,go_sem]) rfl ?_;have TL:k=0\/k=1:=(by omega);have hd:fA s a e=(0,gQ ((a:Int),e) s.size 8):=by
     rcases TL with rfl|rfl
     ·rw[fA,afR (by omega)]
     ·obtain⟨o1,o2⟩:=HO.out 0 (by omega)
      rw[agV]at o1 o2;rw[fA,afO (by omega),afO (by omega),afR (by omega)]
    rw[hd];exact⟨rfl,hR2,hB2⟩
  ·obtain rfl:k=2:=by omega
   have h1:=Bx.set hR 1 (.int .i64 ((a:Int)+3));have f1:=hR.frozen 1;have hb:=iZ wr Rb 1 (.int .i64 ((a:Int)+3));have hd:fA s a e=(IntKind.u8.wrap (acc s a 2),(a:Int)+3,e):=by
    obtain⟨o1,o2⟩:=HO.out 0 (by omega);obtain⟨o3,o4⟩:=HO.out 1 (by omega);rw[agV]at o1 o2;rw[show a+1+1=a+2 from rfl]at o3 o4;rw[fA,afO (by omega),afO (by omega),afO (by omega),afO (by omega)];rfl
   go_wp2
   exact afJ (v:=.int .u8 (IntKind.u8.wrap (acc s a 2))) (by simp[results,Tryz.results167,go_sem,IntKind.wrap_u8]) rfl (by rw[hd];exact⟨rfl,h1,hb⟩)
def IG(c:Int):Int:=if c=110 then 10 else if c=116 then 9 else if c=114 then 13 else c
def bV(s:ByteArray)(a:Nat)(e:Int):Int×Int×Int:=
 if dh s.size a e=false then (0,gQ ((a:Int),e) s.size 8)
 else if bg s a=120 then fA s a e
 else if kY (IG (bg s a))then (0,gQ ((a:Int),e) a 7)
 else (IG (bg s a),(a:Int)+1,e)
def qB(s:ByteArray)(a:Nat)(e:Int):Int×Int×Int:=if bg s a=92 then bV s (a+1) e else (bg s a,(a:Int)+1,e)
theorem IJ(Rb:Nat)(s:ByteArray)(a:Nat)(rv sv:Value)(e:Int)(w:World)(hR:Rdr w Rb s a rv sv e)(hs:s.size<=1000000)(_ha:a<=s.size):
  Calls Tryz.prog 139 #[.pointer (some ⟨Rb,0,none⟩)] w fun x w'=>x=.returned (.int .u8 (bV s a e).1)/\Rdr w' Rb s (bV s a e).2.1 rv sv (bV s a e).2.2/\AX.But Rb w w':=by
 obtain⟨m,hm⟩:=afC (dh s.size a e);have hmk:=AP Rb s a rv sv e;rw[<-hm]at hmk;have HM:=Lib.hid hm
 cases m with
 | false =>
  clear hm;have hv:bV s a e=(0,gQ ((a:Int),e) s.size 8):=afR HM.out.symm;go_enter Tryz.func139,Tryz.ntmps139
  go_wp2_with (first
   | (go_at_call 89;(with_reducible refine(hmk _ hR).mono ?_);rintro x W1 ⟨rfl,hb1⟩;have hR1:Rdr W1 Rb s a rv sv e:=hR.below hb1 hR.lt;obtain⟨c0,c1,c2,c3,c4⟩:=Bx.fiv hR1)
   | (go_at_call 91;(with_reducible refine(lK Rb s _ rv sv e _ _ _ hR1).mono ?_);rintro x W2 ⟨rfl,hR2,hb2⟩))
  exact afJ (v:=.int .u8 0) (by simp[results,Tryz.results139,go_sem]) rfl (by rw[hv];exact⟨rfl,hR2,(AX.But.of_below hb1).trans hb2⟩)
 | true =>
  have hm2:dh s.size a e=true:=hm.symm;clear hm;have hm3:e=0/\(a:Int)<s.size:=by simpa[dh]using hm2
  obtain⟨rfl,hal⟩:=hm3;have hal2:a<s.size:=by omega
  go_enter Tryz.func139,Tryz.ntmps139
  go_wp2_with (go_at_call 89;(with_reducible refine(hmk _ hR).mono ?_);rintro x W1 ⟨rfl,hb1⟩;have hR1:Rdr W1 Rb s a rv sv 0:=hR.below hb1 hR.lt;obtain⟨c0,c1,c2,c3,c4⟩:=Bx.fiv hR1;have d0:=AX.aA c0 hR1.lt;have d1:=AX.aA c1 hR1.lt)
  have hby:=gU s a hal2;have hr:0<=bg s a/\bg s a<256:=by rw[hby];exact⟨by omega,by have:=ahZ s[a];omega⟩
  refine AX.aF (by kernel_rfl) (by kernel_rfl) ?_
  repeat (go_big_quiet_step (fail))
  refine afQ ?_;rintro W2 ⟨p,rfl⟩;obtain⟨W2,hb2⟩:=p;change Below _ _ _ at hb2;have hR2:Rdr W2 Rb s a rv sv 0:=hR1.below hb2 hR1.lt;have hB2:AX.But Rb w W2:=(AX.But.of_below hb1).trans (AX.But.of_below hb2);clear c0 c1 c2 c3 c4 d0 d1;obtain⟨c0,c1,c2,c3,c4⟩:=Bx.fiv hR2;have h1:=Bx.set hR2 1 (.int .i64 ((a:Int)+1));have f1:=hR2.frozen 1;have hb3:=hB2.trans (iZ W2 Rb 1 (.int .i64 ((a:Int)+1)));simp only[<-hby];obtain⟨c,hc⟩:=afC (bg s a);rw[<-hc]at hr⊢;have HC:=Lib.hid hc;clear hc hby;have hl:=IC;have hne:∀k,kY k=true\/kY k=false:=fun k=>by cases kY k<;>simp
  by_cases ach:c=120
  ·subst ach
   have hv:bV s a 0=fA s a 0:=(by rw[bV,afO (by rw[hm2];decide),afR HC.out.symm]);go_wp2_with (go_at_call 167;(with_reducible refine (TK Rb s a rv sv 0 _ hR2 hs hal2).mono ?_);rintro x W3 ⟨rfl,hR3,hb4⟩)
   exact afJ (v:=.int .u8 (fA s a 0).1) (by simp[results,Tryz.results139,go_sem]) rfl (by rw[hv];exact⟨rfl,hR3,hB2.trans hb4⟩)
  ·have hv:bV s a 0=if kY (IG c)then (0,gQ ((a:Int),0) a 7)else (IG c,(a:Int)+1,0):=by rw[bV,afO (by rw[hm2];decide),afO (by rw[<-HC.out];exact ach),<-HC.out]
   by_cases aci:c=110
   ·subst aci
    have hv2:bV s a 0=(10,(a:Int)+1,0):=(by rw[hv];rfl);go_wp2_with fail
    exact afJ (v:=.int .u8 10) (by simp[results,Tryz.results139,go_sem]) rfl (by rw[hv2];exact⟨rfl,h1,hb3⟩)
   ·by_cases h116:c=116
    ·subst h116
     have hv2:bV s a 0=(9,(a:Int)+1,0):=(by rw[hv];rfl);go_wp2_with fail
     exact afJ (v:=.int .u8 9) (by simp[results,Tryz.results139,go_sem]) rfl (by rw[hv2];exact⟨rfl,h1,hb3⟩)
    ·by_cases acj:c=114
     ·subst acj
      have hv2:bV s a 0=(13,(a:Int)+1,0):=(by rw[hv];rfl);go_wp2_with fail
      exact afJ (v:=.int .u8 13) (by simp[results,Tryz.results139,go_sem]) rfl (by rw[hv2];exact⟨rfl,h1,hb3⟩)
     ·have he:IG c=c:=by rw[IG,afO aci,afO h116,afO acj]
      rw[he]at hv;have hlk:=IC c;rcases hne c with hlt|hlf
      ·rw[hlt]at hlk
       have hv2:bV s a 0=(0,gQ ((a:Int),0) a 7):=(by rw[hv,afR hlt]);go_wp2_with (first
        | (go_at_call 168;(with_reducible refine(hlk _).mono ?_);rintro x W3 ⟨rfl,rfl⟩)
        | (go_at_call 91;(with_reducible refine(lK Rb s _ rv sv 0 _ _ _ hR2).mono ?_);rintro x W4 ⟨rfl,hR4,hb4⟩))
       exact afJ (v:=.int .u8 0) (by simp[results,Tryz.results139,go_sem]) rfl (by rw[hv2];exact⟨rfl,hR4,hB2.trans hb4⟩)
      ·rw[hlf]at hlk
       have hv2:bV s a 0=(c,(a:Int)+1,0):=(by rw[hv,afO (by rw[hlf];decide)]);go_wp2_with (go_at_call 168;(with_reducible refine(hlk _).mono ?_);rintro x W3 ⟨rfl,rfl⟩)
       exact afJ (v:=.int .u8 c) (by simp[results,Tryz.results139,go_sem]) rfl (by rw[hv2];exact⟨rfl,h1,hb3⟩)
theorem XG(Rb:Nat)(s:ByteArray)(a:Nat)(rv sv:Value)(e:Int)(w:World)(hR:Rdr w Rb s a rv sv e)(hs:s.size<=1000000)(hal:a<s.size):
  Calls Tryz.prog 165 #[.pointer (some ⟨Rb,0,none⟩)] w fun x w'=>x=.returned (.int .u8 (qB s a e).1)/\Rdr w' Rb s (qB s a e).2.1 rv sv (qB s a e).2.2/\AX.But Rb w w':=by
 have hby:=gU s a hal;obtain⟨c0,c1,c2,c3,c4⟩:=Bx.fiv hR;have d0:=AX.aA c0 hR.lt;have d1:=AX.aA c1 hR.lt;have hal2:(a:Int)<(s.size:Int):=by omega
 go_enter Tryz.func165,Tryz.ntmps165
 go_wp2_with fail
 refine AX.aF (by kernel_rfl) (by kernel_rfl) ?_
 repeat (go_big_quiet_step (fail))
 refine afQ ?_;rintro W2 ⟨p,rfl⟩;obtain⟨W2,hb2⟩:=p;change Below _ _ _ at hb2;have hR2:Rdr W2 Rb s a rv sv e:=hR.below hb2 hR.lt;have hB2:AX.But Rb w W2:=AX.But.of_below hb2;clear c0 c1 c2 c3 c4 d0 d1;obtain⟨c0,c1,c2,c3,c4⟩:=Bx.fiv hR2;have h1:Rdr (W2.setCell ⟨Rb,1,none⟩ (.int .i64 ((a:Int)+1))) Rb s ((a+1:Nat):Int) rv sv e:=Bx.set hR2 1 (.int .i64 ((a:Int)+1));have f1:=hR2.frozen 1;have hb3:=hB2.trans (iZ W2 Rb 1 (.int .i64 ((a:Int)+1)));simp only[<-hby];obtain⟨c,hc⟩:=afC (bg s a);rw[<-hc];have HC:=Lib.hid hc;clear hc hby
 by_cases h92:c=92
 ·subst h92
  have hv:qB s a e=bV s (a+1) e:=afR HC.out.symm;go_wp2_with (go_at_call 139;(with_reducible refine (IJ Rb s (a+1) rv sv e _ h1 hs (by omega)).mono ?_);rintro x W3 ⟨rfl,hR3,hb4⟩)
  exact afJ (v:=.int .u8 (bV s (a+1) e).1) (by simp[results,Tryz.results165,go_sem]) rfl (by rw[hv];exact⟨rfl,hR3,hb3.trans hb4⟩)
 ·have hv:qB s a e=(c,(a:Int)+1,e):=by rw[qB,afO (by rw[<-HC.out];exact h92),<-HC.out]
  go_wp2_with fail
  exact afJ (v:=.int .u8 c) (by simp[results,Tryz.results165,go_sem]) rfl (by rw[hv];exact⟨rfl,h1,hb3⟩)
end
section
open Go
def Zv(s:ByteArray)(a:Nat)(x:Int×Int×Int):Prop:=∃(v k:Nat)(e:Int),x=((v:Int),(k:Int),e)/\v<256/\k<=s.size/\(e=0->a<k)
theorem wQ(s:ByteArray)(k:Nat):∃v:Nat,bg s k=(v:Int)/\v<256:=by
 unfold bg;split
 ·exact⟨_,rfl,ahZ _⟩
 ·exact⟨0,rfl,by decide⟩
theorem IK(n:Int):∃v:Nat,IntKind.u8.wrap n=(v:Int)/\v<256:=by
 rw[IntKind.wrap_u8];exact⟨(n % 256).toNat,by omega,by omega⟩
theorem KI(s:ByteArray)(a:Nat)(_ha:a<s.size):Zv s a (fA s a 0):=by
 unfold fA gQ;obtain⟨v,hv,hv2⟩:=IK (16*hx s (a+1)+hx s (a+2));rw[hv];split
 ·exact⟨0,s.size,8,rfl,by decide,agq _,fun h=>by cases h⟩
 ·split
  ·exact⟨0,a+1,7,rfl,by decide,by omega,fun h=>by cases h⟩
  ·split
   ·exact⟨0,s.size,8,rfl,by decide,agq _,fun h=>by cases h⟩
   ·split
    ·exact⟨0,a+2,7,rfl,by decide,by omega,fun h=>by cases h⟩
    ·exact⟨v,a+3,0,rfl,hv2,by omega,fun _=>by omega⟩
theorem TN(c:Nat)(hc:c<256):∃v:Nat,IG (c:Int)=(v:Int)/\v<256:=by
 unfold IG;split
 ·exact⟨10,rfl,by decide⟩
 ·split
  ·exact⟨9,rfl,by decide⟩
  ·split
   ·exact⟨13,rfl,by decide⟩
   ·exact⟨c,rfl,hc⟩
theorem rW(s:ByteArray)(a:Nat)(ha:a<=s.size):Zv s a (bV s a 0):=by
 unfold bV;obtain⟨c,hc,hc2⟩:=wQ s a;obtain⟨v,hv,hv2⟩:=TN c hc2;split
 ·exact⟨0,s.size,8,rfl,by decide,agq _,fun h=>by cases h⟩
 ·rename_i hm
  have hal:a<s.size:=by
   simp[dh]at hm;omega
  split
  ·exact KI s a hal
  ·split
   ·exact⟨0,a,7,rfl,by decide,ha,fun h=>by cases h⟩
   ·rw[hc,hv]
    exact⟨v,a+1,0,rfl,hv2,by omega,fun _=>by omega⟩
theorem yx(s:ByteArray)(a:Nat)(ha:a<s.size):Zv s a (qB s a 0):=by
 unfold qB;split
 ·obtain⟨v,k,e,h1,h2,h3,h4⟩:=rW s (a+1) (by omega)
  exact⟨v,k,e,h1,h2,h3,fun h=>by have:=h4 h;omega⟩
 ·obtain⟨c,hc,hc2⟩:=wQ s a
  rw[hc];exact⟨c,a+1,0,rfl,hc2,by omega,fun _=>by omega⟩
end
section
open Go.Lib (hid)
open Go Go.Proofs Go.RowKit Go.Shelf
attribute [local go_sem] Oper.semAt_some
def cw(l:List Nat)(i:Nat):Nat:=l.foldl (fun w b=>if b / 64=i then w ||| 2 ^ (b % 64)else w) 0
theorem EF(l:List Nat)(b i:Nat):cw (l++[b]) i=if b / 64=i then cw l i ||| 2 ^ (b % 64)else cw l i:=by simp[cw]
theorem lH(i:Nat):cw [] i=0:=rfl
theorem gX(l:List Nat)(i:Nat):cw l i<18446744073709551616:=by
 unfold cw
 suffices h:∀(l:List Nat)(w:Nat),w<2 ^ 64->l.foldl (fun w b=>if b / 64=i then w ||| 2 ^ (b % 64)else w) w<2 ^ 64 from by simpa using h l 0 (by decide)
 intro l
 induction l with
 | nil=>intro w h;exact h
 | cons b l ih =>
  intro w h;rw[agw];apply ih;split
  ·exact ahV h (ahf (by decide) (aiq _ (by decide)))
  ·exact h
def kL(b a0 a1 a2 a3:Nat)(W:World):Prop:=
 W.cell? ⟨b,0,none⟩=some (.int .u64 (a0:Nat))/\W.cell? ⟨b,1,none⟩=some (.int .u64 (a1:Nat))/\W.cell? ⟨b,2,none⟩=some (.int .u64 (a2:Nat))/\W.cell? ⟨b,3,none⟩=some (.int .u64 (a3:Nat))
theorem or_bit(a r:Nat)(ha:a<18446744073709551616)(hr:r<64):bits .or .u64 (a:Int) (IntKind.u64.wrap ((2:Int) ^ r))=((a ||| 2 ^ r:Nat):Int):=by
 have h:2 ^ r<2 ^ 64:=ahf (by decide) hr;rw[wrap_two_pow r hr,bits_or_u64_nat a _ ha (by simpa using h)]
def sb(s:ByteArray):List Nat:=s.data.toList.map UInt8.toNat
theorem dS(s:ByteArray):(sb s).length=s.size:=by unfold sb;rw[agf,ahY];rfl
def KH(s:ByteArray)(k:Nat):Nat:=(s.data.toList.getD k 0).toNat
theorem Wy(s:ByteArray)(k:Nat)(h:k<s.size):(sb s).take (k+1)=(sb s).take k++[KH s k]:=by
 have hl:k<(sb s).length:=by rw[dS];exact h
 have this:k<s.data.toList.length:=by rw[ahY];exact h
 have e:(sb s)[k]?=some (KH s k):=by
  unfold sb KH;rw[af8,afE this,afG,afE this];rfl
 rw[agy hl]
 congr 2
 exact agc ((afE hl).symm.trans e)
theorem WC(s:ByteArray)(k:Nat):KH s k<256:=ahZ _
def dN(B:Nat)(l:List Nat)(W:World):Prop:=kL B (cw l 0) (cw l 1) (cw l 2) (cw l 3) W/\∀j,W.frozen? ⟨B,j,none⟩=false
theorem jD(W:World)(B i q:Nat)(v:Value)(h:i≠q):(W.setCell ⟨B,q,none⟩ v).cell? ⟨B,i,none⟩=W.cell? ⟨B,i,none⟩:=by
 exact World.cell?_setCell_other _ _ _ _ (by simp)
def stored(B a0 a1 a2 a3:Nat)(W:World):World:=(((W.setCell ⟨B,0,none⟩ (.int .u64 a0)).setCell ⟨B,1,none⟩ (.int .u64 a1)).setCell ⟨B,2,none⟩ (.int .u64 a2)).setCell ⟨B,3,none⟩ (.int .u64 a3)
theorem qg{B a0 a1 a2 a3:Nat}{W:World}(h0:(W.cell? ⟨B,0,none⟩).isSome=true)(h1:(W.cell? ⟨B,1,none⟩).isSome=true)(h2:(W.cell? ⟨B,2,none⟩).isSome=true)(h3:(W.cell? ⟨B,3,none⟩).isSome=true):
  kL B a0 a1 a2 a3 (stored B a0 a1 a2 a3 W):=by
 have n1:∀(W:World)(v:Value)(i q:Nat),i≠q->(W.setCell ⟨B,q,none⟩ v).cell? ⟨B,i,none⟩=W.cell? ⟨B,i,none⟩:=fun W v i q h=>jD W B i q v h;refine⟨?_,?_,?_,?_⟩<;>unfold stored
 ·rw[n1 _ _ _ _ (by decide),n1 _ _ _ _ (by decide),n1 _ _ _ _ (by decide)]
  exact World.cell?_setCell_same' _ _ _ h0
 ·rw[n1 _ _ _ _ (by decide),n1 _ _ _ _ (by decide)]
  exact World.cell?_setCell_same' _ _ _ (by rw[n1 _ _ _ _ (by decide)];exact h1)
 ·rw[n1 _ _ _ _ (by decide)]
  exact World.cell?_setCell_same' _ _ _ (by rw[n1 _ _ _ _ (by decide),n1 _ _ _ _ (by decide)];exact h2)
 ·exact World.cell?_setCell_same' _ _ _ (by rw[n1 _ _ _ _ (by decide),n1 _ _ _ _ (by decide),n1 _ _ _ _ (by decide)];exact h3)
theorem jV{n B a0 a1 a2 a3:Nat}{w W:World}(h:Below n w W)(hn:n<=B):Below n w (stored B a0 a1 a2 a3 W):=
 (((h.setCell (p:=⟨B,0,none⟩) hn _).setCell (p:=⟨B,1,none⟩) hn _).setCell (p:=⟨B,2,none⟩) hn _).setCell (p:=⟨B,3,none⟩) hn _
theorem dN.put{B:Nat}{l:List Nat}{W:World}(h:dN B l W){y q r:Nat}(hq:y / 64=q)(hr:r=y % 64)(h4:q<4):
  dN B (l++[y]) (W.setCell ⟨B,q,none⟩ (.int .u64 (cw l q ||| 2 ^ r:Nat))):=by
 obtain⟨⟨c0,c1,c2,c3⟩,hf⟩:=h;have hs:∀i,cw (l++[y]) i=if q=i then cw l i ||| 2 ^ r else cw l i:=fun i=>by rw[EF,hq,hr]
 refine⟨?_,fun j=>by rw[World.frozen?_setCell];exact hf j⟩;obtain rfl|rfl|rfl|rfl:q=0\/q=1\/q=2\/q=3:=by omega
 all_goals
  refine⟨?_,?_,?_,?_⟩<;>rw[hs]
  all_goals first
   | (rw[afR rfl];exact World.cell?_setCell_same' _ _ _ (by simp[c0,c1,c2,c3]))
   | (rw[afO (by decide),jD _ _ _ _ _ (by decide)];assumption)
theorem TM(s:ByteArray)(hs:s.size<=1000000)(w:World):
  Calls Tryz.prog 138 #[.string s] w fun e w'=>e=.returned (.agg #[.int .u64 (cw (sb s) 0:Nat),.int .u64 (cw (sb s) 1:Nat),.int .u64 (cw (sb s) 2:Nat),.int .u64 (cw (sb s) 3:Nat)])/\Below w.heap.size w w':=by
 have hcv:=fun W=>Lib.run_convert_string_bytes (P:=Tryz.prog) W 9 106 5 s Tryz.underlying9 Tryz.underlying106 Tryz.underlying5;have hB0:Below w.heap.size w (w.alloc (.cells #[.int .u64 0,.int .u64 0,.int .u64 0,.int .u64 0] 116)):=(afI _ w).alloc afD _;have hsz:(w.alloc (.cells #[.int .u64 0,.int .u64 0,.int .u64 0,.int .u64 0] 116)).heap.size=w.heap.size+1:=by simp
 have hB1:Below w.heap.size w (Lib.bytesWorld (w.alloc (.cells #[.int .u64 0,.int .u64 0,.int .u64 0,.int .u64 0] 116)) 5 s):=
  hB0.trans ⟨rfl,rfl,rfl,by rw[Lib.bytesWorld_size];omega,fun k hk=>Lib.bytesWorld_at_old _ _ _ _ (by omega)⟩
 have hcls:dN w.heap.size [] (Lib.bytesWorld (w.alloc (.cells #[.int .u64 0,.int .u64 0,.int .u64 0,.int .u64 0] 116)) 5 s):=by
  refine⟨⟨?_,?_,?_,?_⟩,fun j=>?_⟩
  all_goals first
   | (rw[Lib.bytesWorld_old _ _ _ _ (by simp)];simp[lH])
   | (rw[World.frozen?_of_block (Lib.bytesWorld_at_old _ _ _ _ (by simp))];simp)
 have hbytes:∀j,j<s.size->(Lib.bytesWorld (w.alloc (.cells #[.int .u64 0,.int .u64 0,.int .u64 0,.int .u64 0] 116)) 5 s).cell? ⟨w.heap.size+1,j,none⟩=some (.int .u8 (KH s j:Nat)):=fun j hj=>by
  have:=Lib.bytesWorld_cell (w.alloc (.cells #[.int .u64 0,.int .u64 0,.int .u64 0,.int .u64 0] 116)) 5 s j hj;rw[hsz]at this;exact this
 have HB:=hid hbytes;have HC:=hid hcls;clear hbytes hcls;rw[<-hsz]at HB;generalize hW1:Lib.bytesWorld (w.alloc (.cells #[.int .u64 0,.int .u64 0,.int .u64 0,.int .u64 0] 116)) 5 s=W1 at *;have hcv1:=hcv (w.alloc (.cells #[.int .u64 0,.int .u64 0,.int .u64 0,.int .u64 0] 116));rw[hW1,hsz]at hcv1;rw[hsz]at HB;generalize grownCap (w.alloc (.cells #[.int .u64 0,.int .u64 0,.int .u64 0,.int .u64 0] 116)) s.size 0 5=cap at *;clear hcv hsz hB0;go_enter Tryz.func138,Tryz.ntmps138
 go_wp2
 go_loopw [8] (fun i wr=>∃k:Nat,k<=s.size/\i=.int .i64 k/\dN w.heap.size ((sb s).take k) wr/\(∀j,j<s.size->wr.cell? ⟨w.heap.size+1,j,none⟩=some (.int .u8 (KH s j:Nat)))/\Below w.heap.size w wr)
  (fun i _=>s.size-(RowKit.intOf i).toNat)
 case atStart=>exact⟨0,af0 _,rfl,HC.out,HB.out,hB1⟩
 case round =>
  obtain⟨k,hk,rfl,hcl,hby,hB⟩:=hrel
  by_cases hlt:k<s.size
  ·have hb0:=hby k hlt
   have HBY:=hid hby;clear hby;have ht:=hid (Wy s k hlt);have hy:=WC s k;generalize KH s k=y at *;obtain⟨⟨c0,c1,c2,c3⟩,hf⟩:=hcl;have l0:=gX ((sb s).take k) 0;have l1:=gX ((sb s).take k) 1;have l2:=gX ((sb s).take k) 2;have l3:=gX ((sb s).take k) 3;obtain⟨r,hr⟩:∃r:Nat,r=y % 64:=⟨_,rfl⟩;have jW:r<64:=(by omega);have hrm:(y:Int) % 64=(r:Nat):=(by omega);have HR:=hid hr;clear hr;obtain hq|hq|hq|hq:y / 64=0\/y / 64=1\/y / 64=2\/y / 64=3:=by omega
   ·have hqi:(y:Int) / 64=0:=by omega
    have HN:=dN.put (B:=w.heap.size) (W:=wr) ⟨⟨c0,c1,c2,c3⟩,hf⟩ hq HR.out (by decide);have HQ:=hid HN;clear hq HN;have ho:=or_bit _ r l0 jW;go_wp2
    go_roundw
    case rel=>exact⟨k+1,by omega,by simp,by rw[ht.out];exact HQ.out,fun j hj=>(World.cell?_setCell_other _ _ _ _ (by simp)).trans (HBY.out j hj),hB.setCell (p:=⟨w.heap.size,0,none⟩) afD _⟩
    case measure=>simp[RowKit.intOf];omega
   ·have hqi:(y:Int) / 64=1:=by omega
    have HN:=dN.put (B:=w.heap.size) (W:=wr) ⟨⟨c0,c1,c2,c3⟩,hf⟩ hq HR.out (by decide);have HQ:=hid HN;clear hq HN;have ho:=or_bit _ r l1 jW;go_wp2
    go_roundw
    case rel=>exact⟨k+1,by omega,by simp,by rw[ht.out];exact HQ.out,fun j hj=>(World.cell?_setCell_other _ _ _ _ (by simp)).trans (HBY.out j hj),hB.setCell (p:=⟨w.heap.size,1,none⟩) afD _⟩
    case measure=>simp[RowKit.intOf];omega
   ·have hqi:(y:Int) / 64=2:=by omega
    have HN:=dN.put (B:=w.heap.size) (W:=wr) ⟨⟨c0,c1,c2,c3⟩,hf⟩ hq HR.out (by decide);have HQ:=hid HN;clear hq HN;have ho:=or_bit _ r l2 jW;go_wp2
    go_roundw
    case rel=>exact⟨k+1,by omega,by simp,by rw[ht.out];exact HQ.out,fun j hj=>(World.cell?_setCell_other _ _ _ _ (by simp)).trans (HBY.out j hj),hB.setCell (p:=⟨w.heap.size,2,none⟩) afD _⟩
    case measure=>simp[RowKit.intOf];omega
   ·have hqi:(y:Int) / 64=3:=by omega
    have HN:=dN.put (B:=w.heap.size) (W:=wr) ⟨⟨c0,c1,c2,c3⟩,hf⟩ hq HR.out (by decide);have HQ:=hid HN;clear hq HN;have ho:=or_bit _ r l3 jW;go_wp2
    go_roundw
    case rel=>exact⟨k+1,by omega,by simp,by rw[ht.out];exact HQ.out,fun j hj=>(World.cell?_setCell_other _ _ _ _ (by simp)).trans (HBY.out j hj),hB.setCell (p:=⟨w.heap.size,3,none⟩) afD _⟩
    case measure=>simp[RowKit.intOf];omega
  ·obtain rfl:k=s.size:=by omega
   have e:(sb s).take s.size=sb s:=agW (by rw[dS];omega);rw[e]at hcl;obtain⟨⟨c0,c1,c2,c3⟩,hf⟩:=hcl;clear e hby;go_wp2
   have hF:=qg (B:=w.heap.size) (a0:=cw (sb s) 0) (a1:=cw (sb s) 1) (a2:=cw (sb s) 2) (a3:=cw (sb s) 3) (W:=wr) (by rw[c0];rfl) (by rw[c1];rfl) (by rw[c2];rfl) (by rw[c3];rfl);have hBf:=jV (B:=w.heap.size) (a0:=cw (sb s) 0) (a1:=cw (sb s) 1) (a2:=cw (sb s) 2) (a3:=cw (sb s) 3) hB afD;unfold stored at hF hBf;generalize ((((wr.setCell ⟨w.heap.size,0,none⟩ (.int .u64 (cw (sb s) 0:Nat))).setCell ⟨w.heap.size,1,none⟩ (.int .u64 (cw (sb s) 1:Nat))).setCell ⟨w.heap.size,2,none⟩ (.int .u64 (cw (sb s) 2:Nat))).setCell ⟨w.heap.size,3,none⟩ (.int .u64 (cw (sb s) 3:Nat)))=Wf at hF hBf⊢;obtain⟨d0,d1,d2,d3⟩:=hF;exact afJ (v:=.agg #[.int .u64 (cw (sb s) 0:Nat),.int .u64 (cw (sb s) 1:Nat),.int .u64 (cw (sb s) 2:Nat),.int .u64 (cw (sb s) 3:Nat)]) (by simp[results,Tryz.results138,go_sem,d0,d1,d2,d3]) rfl ⟨rfl,hBf⟩
end
section
open Go Go.Proofs Go.RowKit Go.Shelf
attribute [local go_sem] Oper.semAt_some
def rng(low high:Nat):List Nat:=List.range' low (high+1-low)
theorem dN.drew{B:Nat}{l:List Nat}{W:World}(h:dN B l W):dN B l W.drew:=⟨⟨h.1.1,h.1.2.1,h.1.2.2.1,h.1.2.2.2⟩,h.2⟩
theorem LH{low high x:Nat}: x∈rng low high↔low<=x/\x<=high:=by
 unfold rng;rw[List.mem_range'_1];omega
theorem oV(low high:Nat)(hl:low<256)(hh:high<256)(w:World):
  Calls Tryz.prog 102 #[.int .u8 low,.int .u8 high] w fun e w'=>e=.returned (.agg #[.int .u64 (cw (rng low high) 0:Nat),.int .u64 (cw (rng low high) 1:Nat),.int .u64 (cw (rng low high) 2:Nat),.int .u64 (cw (rng low high) 3:Nat)])/\Below w.heap.size w w':=by
 have hB0:Below w.heap.size w (w.alloc (.cells #[.int .u64 0,.int .u64 0,.int .u64 0,.int .u64 0] 116)):=(afI _ w).alloc afD _;have hcls:dN w.heap.size [] (w.alloc (.cells #[.int .u64 0,.int .u64 0,.int .u64 0,.int .u64 0] 116)):=⟨⟨by simp[lH],by simp[lH],by simp[lH],by simp[lH]⟩,fun j=>by simp⟩;go_enter Tryz.func102,Tryz.ntmps102
 go_wp2
 go_loopw [5] (fun i wr=>∃k:Nat,low<=k/\k<=256/\(k<=high+1\/k=low)/\i=.int .i64 k/\dN w.heap.size (List.range' low (k-low)) wr/\Below w.heap.size w wr)
  (fun i _=>256-(RowKit.intOf i).toNat)
 case atStart=>exact⟨low,agq _,by omega,.inr rfl,rfl,by rw[aho];exact hcls,hB0⟩
 case round =>
  obtain⟨k,hk,hk2,hk3,rfl,hcl,hB⟩:=hrel
  by_cases hlt:k<=high
  ·have e:List.range' low (k+1-low)=List.range' low (k-low)++[k]:=by
    rw[show k+1-low=(k-low)+1 by omega,List.range'_concat]
    congr 2
    omega
   have HE:=Lib.hid e;clear e;generalize List.range' low (k-low)=l at *;obtain⟨⟨c0,c1,c2,c3⟩,hf⟩:=hcl;have l0:=gX l 0;have l1:=gX l 1;have l2:=gX l 2;have l3:=gX l 3;obtain⟨r,hr⟩:∃r:Nat,r=k % 64:=⟨_,rfl⟩;have jW:r<64:=(by omega);have hrm:(k:Int) % 64=(r:Nat):=(by omega);have HR:=Lib.hid hr;clear hr;obtain hq|hq|hq|hq:k / 64=0\/k / 64=1\/k / 64=2\/k / 64=3:=by omega
   ·have hqi:(k:Int) / 64=0:=by omega
    have HN:=dN.put (B:=w.heap.size) (W:=wr) ⟨⟨c0,c1,c2,c3⟩,hf⟩ hq HR.out (by decide);have HQ:=Lib.hid HN;clear hq HN;have ho:=or_bit _ r l0 jW;go_wp2
    go_region
    go_wp2
    go_roundw
    case rel=>exact⟨k+1,by omega,by omega,by omega,by simp,by rw[HE.out];exact HQ.out.drew,(hB.setCell (p:=⟨w.heap.size,0,none⟩) afD _).drew⟩
    case measure=>simp[RowKit.intOf];omega
   ·have hqi:(k:Int) / 64=1:=by omega
    have HN:=dN.put (B:=w.heap.size) (W:=wr) ⟨⟨c0,c1,c2,c3⟩,hf⟩ hq HR.out (by decide);have HQ:=Lib.hid HN;clear hq HN;have ho:=or_bit _ r l1 jW;go_wp2
    go_region
    go_wp2
    go_roundw
    case rel=>exact⟨k+1,by omega,by omega,by omega,by simp,by rw[HE.out];exact HQ.out.drew,(hB.setCell (p:=⟨w.heap.size,1,none⟩) afD _).drew⟩
    case measure=>simp[RowKit.intOf];omega
   ·have hqi:(k:Int) / 64=2:=by omega
    have HN:=dN.put (B:=w.heap.size) (W:=wr) ⟨⟨c0,c1,c2,c3⟩,hf⟩ hq HR.out (by decide);have HQ:=Lib.hid HN;clear hq HN;have ho:=or_bit _ r l2 jW;go_wp2
    go_region
    go_wp2
    go_roundw
    case rel=>exact⟨k+1,by omega,by omega,by omega,by simp,by rw[HE.out];exact HQ.out.drew,(hB.setCell (p:=⟨w.heap.size,2,none⟩) afD _).drew⟩
    case measure=>simp[RowKit.intOf];omega
   ·have hqi:(k:Int) / 64=3:=by omega
    have HN:=dN.put (B:=w.heap.size) (W:=wr) ⟨⟨c0,c1,c2,c3⟩,hf⟩ hq HR.out (by decide);have HQ:=Lib.hid HN;clear hq HN;have ho:=or_bit _ r l3 jW;go_wp2
    go_region
    go_wp2
    go_roundw
    case rel=>exact⟨k+1,by omega,by omega,by omega,by simp,by rw[HE.out];exact HQ.out.drew,(hB.setCell (p:=⟨w.heap.size,3,none⟩) afD _).drew⟩
    case measure=>simp[RowKit.intOf];omega
  ·have e:List.range' low (k-low)=rng low high:=by unfold rng;congr 1;omega
   rw[e]at hcl;clear e;obtain⟨⟨c0,c1,c2,c3⟩,hf⟩:=hcl;go_wp2
   have hF:=qg (B:=w.heap.size) (a0:=cw (rng low high) 0) (a1:=cw (rng low high) 1) (a2:=cw (rng low high) 2) (a3:=cw (rng low high) 3) (W:=wr) (by rw[c0];rfl) (by rw[c1];rfl) (by rw[c2];rfl) (by rw[c3];rfl);have hBf:=jV (B:=w.heap.size) (a0:=cw (rng low high) 0) (a1:=cw (rng low high) 1) (a2:=cw (rng low high) 2) (a3:=cw (rng low high) 3) hB afD;unfold stored at hF hBf;generalize ((((wr.setCell ⟨w.heap.size,0,none⟩ (.int .u64 (cw (rng low high) 0:Nat))).setCell ⟨w.heap.size,1,none⟩ (.int .u64 (cw (rng low high) 1:Nat))).setCell ⟨w.heap.size,2,none⟩ (.int .u64 (cw (rng low high) 2:Nat))).setCell ⟨w.heap.size,3,none⟩ (.int .u64 (cw (rng low high) 3:Nat)))=Wf at hF hBf⊢;obtain⟨d0,d1,d2,d3⟩:=hF;exact afJ (v:=.agg #[.int .u64 (cw (rng low high) 0:Nat),.int .u64 (cw (rng low high) 1:Nat),.int .u64 (cw (rng low high) 2:Nat),.int .u64 (cw (rng low high) 3:Nat)]) (by simp[results,Tryz.results102,go_sem,d0,d1,d2,d3]) rfl ⟨rfl,hBf⟩
def nw(a:Nat):Nat:=18446744073709551615 ^^^ a
theorem oQ(a:Nat)(h:a<18446744073709551616):nw a<18446744073709551616:=Nat.xor_lt_two_pow (n:=64) (by decide) h
theorem EJ(a:Nat)(ha:a<18446744073709551616):bits .xor .u64 18446744073709551615 (a:Int)=(nw a:Nat):=by
 have h1:(BitVec.ofInt 64 (a:Int)).toNat=a:=by
  rw[BitVec.ofInt_natCast,BitVec.toNat_ofNat];exact ahN (by omega)
 have h2:(BitVec.ofInt 64 (18446744073709551615:Int)).toNat=18446744073709551615:=by decide
 have h3:=oQ a ha
 show IntKind.u64.wrap ((BitVec.ofInt 64 18446744073709551615 ^^^ BitVec.ofInt 64 (a:Int)).toNat:Int)=_
 rw[BitVec.toNat_xor,h1,h2,IntKind.wrap_u64];unfold nw at h3⊢;omega
theorem iU(a:Nat)(ha:a<18446744073709551616):bits .xor .u64 (if IntKind.u64.signed=true then -1 else IntKind.u64.max) (a:Int)=(nw a:Nat):=EJ a ha
theorem vY:AX.sizeT Tryz.prog 116=some 4:=by kernel_rfl
theorem tC(x0 x1 x2 x3:Value)(w:World):(Instr.index 116 (.agg #[x0,x1,x2,x3]) (.int .i64 0)).run Tryz.prog w=.ok x0 w:=by kernel_rfl
theorem tH(x0 x1 x2 x3:Value)(w:World):(Instr.index 116 (.agg #[x0,x1,x2,x3]) (.int .i64 1)).run Tryz.prog w=.ok x1 w:=by kernel_rfl
theorem tJ(x0 x1 x2 x3:Value)(w:World):(Instr.index 116 (.agg #[x0,x1,x2,x3]) (.int .i64 2)).run Tryz.prog w=.ok x2 w:=by kernel_rfl
theorem tK(x0 x1 x2 x3:Value)(w:World):(Instr.index 116 (.agg #[x0,x1,x2,x3]) (.int .i64 3)).run Tryz.prog w=.ok x3 w:=by kernel_rfl
def nk(k i a:Nat):Value:=.int .u64 ((if i<k then nw a else a:Nat):Int)
theorem LJ(a b c d:Nat)(ha:a<18446744073709551616)(hb:b<18446744073709551616)(hc:c<18446744073709551616)(hd:d<18446744073709551616)(w:World):
  Calls Tryz.prog 104 #[.agg #[.int .u64 a,.int .u64 b,.int .u64 c,.int .u64 d]] w fun e w'=>e=.returned (.agg #[.int .u64 (nw a:Nat),.int .u64 (nw b:Nat),.int .u64 (nw c:Nat),.int .u64 (nw d:Nat)])/\Below w.heap.size w w':=by
 have xa:=iU a ha;have xb:=iU b hb;have xc:=iU c hc;have xd:=iU d hd;clear ha hb hc hd;go_enter Tryz.func104,Tryz.ntmps104
 go_wp2
 go_loopw [6] (fun i wr=>∃k:Nat,k<=4/\i=.int .i64 k/\Bx wr w.heap.size 116 #[nk k 0 a,nk k 1 b,nk k 2 c,nk k 3 d]/\Bx wr (w.heap.size+1) 116 #[.int .u64 0,.int .u64 0,.int .u64 0,.int .u64 0]/\Below w.heap.size w wr)
  (fun i _=>4-(RowKit.intOf i).toNat)
 case atStart=>exact⟨0,by omega,rfl,(Bx.new w 116 _).alloc _,by have:=Bx.new (w.alloc (.cells #[.int .u64 a,.int .u64 b,.int .u64 c,.int .u64 d] 116)) 116 #[.int .u64 0,.int .u64 0,.int .u64 0,.int .u64 0];simpa using this,((afI _ w).alloc afD _).alloc (by simp) _⟩
 case round =>
  obtain⟨k,hk,rfl,h1,h2,hB⟩:=hrel;obtain rfl|rfl|rfl|rfl|rfl:k=0\/k=1\/k=2\/k=3\/k=4:=by omega
  ·have c0:wr.cell? ⟨w.heap.size,0,none⟩=some (.int .u64 (a:Nat)):=h1.cell 0
   have f0:=h1.frozen 0;have ix:=tC (.int .u64 a) (.int .u64 b) (.int .u64 c) (.int .u64 d);have hs:Bx (wr.setCell ⟨w.heap.size,0,none⟩ (.int .u64 (nw a:Nat))) w.heap.size 116 #[nk 1 0 a,nk 1 1 b,nk 1 2 c,nk 1 3 d]:=Bx.set h1 0 (.int .u64 (nw a:Nat));have ho:Bx (wr.setCell ⟨w.heap.size,0,none⟩ (.int .u64 (nw a:Nat))) (w.heap.size+1) 116 _:=h2.other (by omega);have hb:=hB.setCell (p:=⟨w.heap.size,0,none⟩) afD (.int .u64 (nw a:Nat));go_wp2
   exact⟨⟨1,by omega,rfl,hs,ho,hb⟩,by simp[RowKit.intOf]⟩
  ·have c0:wr.cell? ⟨w.heap.size,1,none⟩=some (.int .u64 (b:Nat)):=h1.cell 1
   have f0:=h1.frozen 1;have ix:=tH (.int .u64 a) (.int .u64 b) (.int .u64 c) (.int .u64 d);have hs:Bx (wr.setCell ⟨w.heap.size,1,none⟩ (.int .u64 (nw b:Nat))) w.heap.size 116 #[nk 2 0 a,nk 2 1 b,nk 2 2 c,nk 2 3 d]:=Bx.set h1 1 (.int .u64 (nw b:Nat));have ho:Bx (wr.setCell ⟨w.heap.size,1,none⟩ (.int .u64 (nw b:Nat))) (w.heap.size+1) 116 _:=h2.other (by omega);have hb:=hB.setCell (p:=⟨w.heap.size,1,none⟩) afD (.int .u64 (nw b:Nat));go_wp2
   exact⟨⟨2,by omega,rfl,hs,ho,hb⟩,by simp[RowKit.intOf]⟩
  ·have c0:wr.cell? ⟨w.heap.size,2,none⟩=some (.int .u64 (c:Nat)):=h1.cell 2
   have f0:=h1.frozen 2;have ix:=tJ (.int .u64 a) (.int .u64 b) (.int .u64 c) (.int .u64 d);have hs:Bx (wr.setCell ⟨w.heap.size,2,none⟩ (.int .u64 (nw c:Nat))) w.heap.size 116 #[nk 3 0 a,nk 3 1 b,nk 3 2 c,nk 3 3 d]:=Bx.set h1 2 (.int .u64 (nw c:Nat));have ho:Bx (wr.setCell ⟨w.heap.size,2,none⟩ (.int .u64 (nw c:Nat))) (w.heap.size+1) 116 _:=h2.other (by omega);have hb:=hB.setCell (p:=⟨w.heap.size,2,none⟩) afD (.int .u64 (nw c:Nat));go_wp2
   exact⟨⟨3,by omega,rfl,hs,ho,hb⟩,by simp[RowKit.intOf]⟩
  ·have c0:wr.cell? ⟨w.heap.size,3,none⟩=some (.int .u64 (d:Nat)):=h1.cell 3
   have f0:=h1.frozen 3;have ix:=tK (.int .u64 a) (.int .u64 b) (.int .u64 c) (.int .u64 d);have hs:Bx (wr.setCell ⟨w.heap.size,3,none⟩ (.int .u64 (nw d:Nat))) w.heap.size 116 #[nk 4 0 a,nk 4 1 b,nk 4 2 c,nk 4 3 d]:=Bx.set h1 3 (.int .u64 (nw d:Nat));have ho:Bx (wr.setCell ⟨w.heap.size,3,none⟩ (.int .u64 (nw d:Nat))) (w.heap.size+1) 116 _:=h2.other (by omega);have hb:=hB.setCell (p:=⟨w.heap.size,3,none⟩) afD (.int .u64 (nw d:Nat));go_wp2
   exact⟨⟨4,by omega,rfl,hs,ho,hb⟩,by simp[RowKit.intOf]⟩
  ·have c0:wr.cell? ⟨w.heap.size,0,none⟩=some (.int .u64 (nw a:Nat)):=h1.cell 0
   have c1:wr.cell? ⟨w.heap.size,1,none⟩=some (.int .u64 (nw b:Nat)):=h1.cell 1;have c2:wr.cell? ⟨w.heap.size,2,none⟩=some (.int .u64 (nw c:Nat)):=h1.cell 2;have c3:wr.cell? ⟨w.heap.size,3,none⟩=some (.int .u64 (nw d:Nat)):=h1.cell 3;clear xa xb xc xd;go_wp2_with ((with_reducible refine bK ?_);refine AX.aj (vs:=[.int .u64 (nw a:Nat),.int .u64 (nw b:Nat),.int .u64 (nw c:Nat),.int .u64 (nw d:Nat)]) rfl rfl vY h2 rfl rfl ?_;rintro W9 h3 h4 h5)
   have h3':Bx W9 (w.heap.size+1) 116 #[.int .u64 (nw a:Nat),.int .u64 (nw b:Nat),.int .u64 (nw c:Nat),.int .u64 (nw d:Nat)]:=h3;have d0:=h3'.cell 0;have d1:=h3'.cell 1;have d2:=h3'.cell 2;have d3:=h3'.cell 3;have hB9:Below w.heap.size w W9:=hB.trans (AX.ah (by omega) (.inl (afF.1 h3).1) h4 h5);exact afJ (v:=.agg #[.int .u64 (nw a:Nat),.int .u64 (nw b:Nat),.int .u64 (nw c:Nat),.int .u64 (nw d:Nat)]) (by simp[results,Tryz.results104,go_sem,d0,d1,d2,d3]) rfl ⟨rfl,hB9⟩
end
section
open Go
def C4.ofL(l:List Nat):C4:=⟨cw l 0,cw l 1,cw l 2,cw l 3⟩
def C4.or(x y:C4):C4:=⟨x.a ||| y.a,x.b ||| y.b,x.c ||| y.c,x.d ||| y.d⟩
def C4.not(x:C4):C4:=⟨nw x.a,nw x.b,nw x.c,nw x.d⟩
theorem C4.wO(l:List Nat):(C4.ofL l).Wd:=⟨gX _ _,gX _ _,gX _ _,gX _ _⟩
theorem C4.Wd.or{x y:C4}(h:x.Wd)(g:y.Wd):(x.or y).Wd:=
 ⟨ahV (n:=64) h.a g.a,ahV (n:=64) h.b g.b,ahV (n:=64) h.c g.c,ahV (n:=64) h.d g.d⟩
theorem C4.Wd.not{x:C4}(h:x.Wd):x.not.Wd:=⟨oQ _ h.a,oQ _ h.b,oQ _ h.c,oQ _ h.d⟩
def dG(s:ByteArray)(a:Nat):Nat×Nat×Nat×Int:=
 let x:=qB s a 0
 let l:=x.1.toNat
 let k:=x.2.1.toNat
 if x.2.2=0/\k+1<s.size/\bg s k=45/\bg s (k+1)≠93 then
  let y:=qB s (k+1) 0
  if y.2.2=0/\y.1.toNat<l then (l,y.1.toNat,k+1,7)else (l,y.1.toNat,y.2.1.toNat,y.2.2)
 else (l,l,k,x.2.2)
def uO(s:ByteArray):Nat->Nat->Int->C4->Nat×Int×C4
 | 0,a,e,W=>(a,e,W)
 | n+1,a,e,W =>
  if dh s.size a e=true/\bg s a≠93 then
   uO s n (dG s a).2.2.1 (dG s a).2.2.2 (W.or (.ofL (rng (dG s a).1 (dG s a).2.1)))
  else (a,e,W)
theorem Iz(s:ByteArray)(a:Nat)(ha:a<s.size):(dG s a).1<256/\(dG s a).2.1<256/\(dG s a).2.2.1<=s.size/\((dG s a).2.2.2=0->a<(dG s a).2.2.1):=by
 obtain⟨v,k,e,h1,h2,h3,h4⟩:=yx s a ha;unfold dG;simp only[h1,afY];split
 ·rename_i hc
  obtain⟨u,j,f,g1,g2,g3,g4⟩:=yx s (k+1) hc.2.1;have hak:=h4 hc.1;simp only[g1,afY];split
  ·exact⟨h2,g2,(show k+1<=s.size by omega),fun h=>by cases h⟩
  ·exact⟨h2,g2,g3,fun h=>(show a<j by have:=g4 h;omega)⟩
 ·exact⟨h2,h2,h3,h4⟩
theorem bY{n a:Nat}{e:Int}: dh n a e=true↔e=0/\a<n:=by simp[dh]
theorem Ir(s:ByteArray):∀(n a:Nat)(e:Int)(W:C4),a<=s.size->W.Wd->(uO s n a e W).1<=s.size/\(uO s n a e W).2.2.Wd/\(s.size-a<=n->(uO s n a e W).2.1=0->a<=(uO s n a e W).1)
 | 0,a,e,W,ha,hW=>⟨ha,hW,fun _ _=>agq _⟩
 | n+1,a,e,W,ha,hW=>by
  unfold uO;split
  ·rename_i h
   obtain⟨he,hal⟩:=bY.1 h.1;obtain⟨h1,h2,h3,h4⟩:=Iz s a hal;obtain⟨g1,g2,g3⟩:=Ir s n (dG s a).2.2.1 (dG s a).2.2.2 (W.or (.ofL (rng (dG s a).1 (dG s a).2.1))) h3 (hW.or (C4.wO _));refine⟨g1,g2,fun hn h0=>?_⟩
   by_cases hp:(dG s a).2.2.2=0
   ·have:=h4 hp
    have:=g3 (by omega) h0;omega
   ·cases n with
    | zero=>exact absurd h0 (by simpa[uO]using hp)
    | succ n =>
     have hm:dh s.size (dG s a).2.2.1 (dG s a).2.2.2=false:=by
      rw[<-Bool.not_eq_true,bY];exact fun h=>hp h.1
     unfold uO at h0;rw[afO (by rw[hm];rintro⟨h,_⟩;cases h)]at h0;exact absurd h0 hp
  ·exact⟨ha,hW,fun _ _=>agq _⟩
def kQ(s:ByteArray)(a:Nat):C4×Nat×Int:=
 let nt:=dh s.size a 0 && (bg s a == 94)
 let a1:=if nt then a+1 else a
 let x:=uO s (s.size-a1) a1 0 .zero
 if dh s.size x.1 x.2.1=true then (if nt then x.2.2.not else x.2.2,x.1+1,0)else (x.2.2,if x.2.1=0 then s.size else x.1,if x.2.1=0 then 8 else x.2.1)
def fV(s:ByteArray)(a:Nat)(c:Int):C4×Nat×Int:=
 if c=91 then kQ s a
 else if c=46 then ((C4.ofL [10]).not,a,0)
 else if c=92 then (.ofL [(bV s a 0).1.toNat],(bV s a 0).2.1.toNat,(bV s a 0).2.2)
 else (.ofL [c.toNat],a,0)
section
variable {σ α : Type} (mk : σ -> H5 -> List α -> σ × α)
structure Ms(σ α: Type) where
 st: σ
 a:Nat
 e:Int
 A:List α
 I:List α
 f:List (Fr α)
def eG(x:Ms σ α)(k:Int):Ms σ α:=
 match x.I.getLast? with
 | none=>{x with e:=7}
 | some y=>{x with st:=(mk x.st (h5 k) [y]).1,a:=x.a+1,I:=x.I.dropLast++[(mk x.st (h5 k) [y]).2]}
def stepG(s:ByteArray)(x:Ms σ α):Ms σ α:=
 if bg s x.a=124 then {x with st:=(cu mk x.st 3 x.I).1,a:=x.a+1,A:=x.A++[(cu mk x.st 3 x.I).2],I:=[]}
 else if bg s x.a=40 then {x with a:=x.a+1,A:=[],I:=[],f:=(x.A,x.I)::x.f}
 else if bg s x.a=41 then
  match x.f with
  | []=>{x with e:=7}
  | (B,J)::f=>⟨(fE mk x.st x.A x.I).1,x.a+1,x.e,B,J++[(fE mk x.st x.A x.I).2],f⟩
 else if bg s x.a=93 then {x with e:=7}
 else if bg s x.a=42 then eG mk x 5
 else if bg s x.a=43 then eG mk x 6
 else if bg s x.a=63 then eG mk x 7
 else
  let t:=fV s (x.a+1) (bg s x.a)
  {x with st:=(mk x.st ⟨2,t.1⟩ []).1,a:=t.2.1,e:=t.2.2,I:=x.I++[(mk x.st ⟨2,t.1⟩ []).2]}
def nX(st: σ):Ms σ α:=⟨st,0,0,[],[],[]⟩
inductive Reach (s:ByteArray):Ms σ α->Ms σ α->Prop where
 | refl (x:Ms σ α):Reach s x x
 | more {x y:Ms σ α}: Reach s x y->dh s.size y.a y.e=true->Reach s x (stepG mk s y)
end
end
end Go.Proofs.YtkjgogdkdejljaaGreatDoor.Rx
