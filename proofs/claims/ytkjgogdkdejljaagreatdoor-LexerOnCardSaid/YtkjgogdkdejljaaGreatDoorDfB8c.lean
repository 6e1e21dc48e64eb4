import Derived.Test.YtkjgogdkdejljaaGreatDoorDfB6
set_option maxRecDepth 100000
set_option maxHeartbeats 40000000
namespace Go.Proofs.YtkjgogdkdejljaaGreatDoor.Df
section
open Go.Lib (hid)
open Go Go.Proofs Go.RowKit
attribute [local go_sem] Oper.semAt_some
theorem iR:AX.sizeT Tryz.prog 118=some 3:=by kernel_rfl
theorem U7:AX.sizeT Tryz.prog 112=some 1:=by kernel_rfl
theorem dP{P:Program}{ops:Array Oper}{Q:Exit→Act→World→Prop}{a:Act}{w:World}{rest:List Oper}{t:TypeId}{x y:Operand}{ty:TypeId}{pos:String}{after:Array Edge}(h:wpList P ops Q ({ dst:=none,op := .store t x y,type:=ty,pos:=pos,after:=after,guard:=none }::rest) a w) :
 wpList P ops Q ({ dst:=none,op := .store t x y,type:=ty,pos:=pos,after:=after,guard:=none }::rest) a w:=h
def plV(e:Bool)(f l:Nat):Value := .agg #[.bool e, .map (some f), .map (some l)]
def qJ(base Bb:Nat)(y:NS×Pl)(w:World)(e:Ending)(w':World):Prop :=
 ∃ rf rl cv rv sv ms,e = .returned (plV y.2.e rf rl)∧aP w' rf y.2.f∧aP w' rl y.2.l∧Bd base w' Bb cv rv sv y.1 ms∧Kp base w w'
structure Bh(base:Nat)(w:World)(Bb A T:Nat)(pe qe be:Bool)(pf pl qf ql r1 r2:Nat)(PF PL QF QL X1 X2:List Int)(y:NS)(wz:World):Prop where
 xa:Bx wz A 118 #[.bool pe, .map (some pf), .map (some pl)]
 xb:Bx wz (A+1) 118 #[.bool qe, .map (some qf), .map (some ql)]
 xc:Bx wz (A+1+1) 118 #[.bool false, .map none, .map none]
 xt:Bx wz T 118 #[.bool be, .map (some r1), .map (some r2)]
 s1:aP wz r1 X1
 s2:aP wz r2 X2
 p1:aP wz pf PF
 p2:aP wz pl PL
 q1:aP wz qf QF
 q2:aP wz ql QL
 bd:∃ cv rv sv ms,Bd base wz Bb cv rv sv y ms
 kp:Kp base w wz
 hb:base≤wz.heap.size
 hA:w.heap.size≤A
 hT:A+1+1<T
section
variable {base : Nat} {w : World} {Bb A T : Nat} {pe qe be : Bool} {pf pl qf ql r1 r2 : Nat} {PF PL QF QL X1 X2 : List Int} {y : NS} {wz wy : World}
theorem Bh.low(h:Bh base w Bb A T pe qe be pf pl qf ql r1 r2 PF PL QF QL X1 X2 y wz)(hb:Below wz.heap.size wz wy):Bh base w Bb A T pe qe be pf pl qf ql r1 r2 PF PL QF QL X1 X2 y wy where
 xa:=h.xa.below hb h.xa.lt
 xb:=h.xb.below hb h.xb.lt
 xc:=h.xc.below hb h.xc.lt
 xt:=h.xt.below hb h.xt.lt
 s1:=h.s1.below hb Nat.le.refl
 s2:=h.s2.below hb Nat.le.refl
 p1:=h.p1.below hb Nat.le.refl
 p2:=h.p2.below hb Nat.le.refl
 q1:=h.q1.below hb Nat.le.refl
 q2:=h.q2.below hb Nat.le.refl
 bd:=by obtain⟨a,b,c,d,hd⟩:=h.bd;exact⟨a,b,c,d,hd.below hb⟩
 kp:=h.kp.trans (Kp.of_below hb h.hb)
 hb:=Nat.le_trans h.hb hb.size
 hA:=h.hA
 hT:=h.hT
theorem Bh.put(h:Bh base w Bb A T pe qe be pf pl qf ql r1 r2 PF PL QF QL X1 X2 y wz){r1' r2':Nat}{X1' X2':List Int}(hb0:base≤w.heap.size)(h1:aP wz r1' X1')(h2:aP wz r2' X2')(g3:Bx wy T 118 #[.bool be, .map (some r1'), .map (some r2')])(g4:∀ j,j≠T→wy.heap[j]?=wz.heap[j]?)(g5:AX.Same wz wy) :
  Bh base w Bb A T pe qe be pf pl qf ql r1' r2' PF PL QF QL X1' X2' y wy:=by
 have hs:dQ 118 wz wy:=aT h.xt g4;have hT:=h.hT;have hA:=h.hA;have hl:Below base wz wy:=AX.aj (by omega) (.inl g3.lt) g4 g5;refine⟨(g4 _ (by omega)).trans h.xa,(g4 _ (by omega)).trans h.xb,(g4 _ (by omega)).trans h.xc,g3,h1.aY hs,h2.aY hs,h.p1.aY hs,h.p2.aY hs,h.q1.aY hs,h.q2.aY hs,?_,⟨h.kp.low.trans hl,fun j o hj hn=>(g4 j (by have:=(Array.getElem?_eq_some_iff.1 hj).1;omega)).trans (h.kp.keep j o hj hn)⟩,Nat.le_trans h.hb hl.size,hA,hT⟩;obtain⟨a,b,c,d,hd⟩:=h.bd;refine⟨a,b,c,d,hd.low,hd.box.aY hs (by decide),aC hd.c hs (by decide),aC hd.r hs (by decide),aC hd.sw hs (by decide),hd.n1,hd.n2,hd.n3,fun i r S e1 e2=>(hd.set i r S e1 e2).aY hs⟩
end
theorem Iu{base Bb pf pl qf ql:Nat}{cv rv sv:Value}{s:NS}{ms:List Nat}{p q:Pl}(w:World)(h:Bd base w Bb cv rv sv s ms)(h1:aP w pf p.f)(h2:aP w pl p.l)(h3:aP w qf q.f)(h4:aP w ql q.l)(hin:∀ x∈p.l,0≤x∧x<(s.cl.length:Int))(hb:base≤w.heap.size) :
  Calls Tryz.prog 96 #[.pointer (some ⟨Bb,0,none⟩),plV p.e pf pl,plV q.e qf ql] w (qJ base Bb (behind s p q) w):=by
 obtain⟨pe,Pf,PL⟩:=p;obtain⟨qe,Qf,QL⟩:=q;simp only at h1 h2 h3 h4 hin;obtain⟨A,hA⟩:∃ A,A=w.heap.size:=⟨_,rfl⟩;obtain⟨W0,hW0⟩:∃ W0,W0=((w.alloc (.cells #[.bool pe, .map (some pf), .map (some pl)] 118)).alloc (.cells #[.bool qe, .map (some qf), .map (some ql)] 118)).alloc (.cells #[.bool false, .map none, .map none] 118):=⟨_,rfl⟩;have hb0:Below w.heap.size w W0:=by rw[hW0];exact (((Below.refl _ w).alloc Nat.le.refl _).alloc (by simp) _).alloc (by simp;omega) _
 have xa:Bx W0 A 118 #[.bool pe, .map (some pf), .map (some pl)]:=by rw[hW0,hA];exact ((Bx.new w 118 _).alloc _).alloc _
 have xb:Bx W0 (A+1) 118 #[.bool qe, .map (some qf), .map (some ql)]:=by
  rw[hW0,show A+1=(w.alloc (.cells #[.bool pe, .map (some pf), .map (some pl)] 118)).heap.size by rw[hA];simp];exact (Bx.new _ 118 _).alloc _
 have xc:Bx W0 (A+1+1) 118 #[.bool false, .map none, .map none]:=by
  rw[hW0,show A+1+1=((w.alloc (.cells #[.bool pe, .map (some pf), .map (some pl)] 118)).alloc (.cells #[.bool qe, .map (some qf), .map (some ql)] 118)).heap.size by rw[hA];simp];exact Bx.new _ 118 _
 have hz0:W0.heap.size=A+1+1+1:=by rw[hW0,hA];simp
 have hB0:=h.below hb0;have s1:=h1.below hb0 Nat.le.refl;have s2:=h2.below hb0 Nat.le.refl;have s3:=h3.below hb0 Nat.le.refl;have s4:=h4.below hb0 Nat.le.refl;have hbw:base≤W0.heap.size:=Nat.le_trans hb hb0.size;have hk0:Kp base w W0:=Kp.of_below hb0 hb;have hj:=yx W0 hB0 s2 s3 hin hbw;have HB:=hid hb;have HA:=hid hA;unfold plV;have ya0:W0.cell? ⟨A,2,none⟩=some (.map (some pl)):=xa.cell 2;have yb0:W0.cell? ⟨A+1,1,none⟩=some (.map (some qf)):=xb.cell 1;have no:¬ours 118:=by unfold ours;decide
 go_enter Tryz.func96,Tryz.ntmps96
 go_upto_region 1 with fail
 rw[←hW0,←hA];clear hW0 hA hb h h1 h2 h3 h4 hin hb0;go_upto_region 2 with (go_at_call 58;((with_reducible refine hj.mono ?_);rintro e W1 ⟨rfl,⟨ms1,jX⟩,nX⟩))
 have xa1:=xa.kp nX no;have xb1:=xb.kp nX no;have xc1:=xc.kp nX no;have sz1:=nX.low.size;have s1:=s1.kp nX;have s2:=s2.kp nX;have s3:=s3.kp nX;have s4:=s4.kp nX;have hk1:=hk0.trans nX;have hTl:A+1+1<W1.heap.size:=xc1.lt;clear hj ya0 yb0 xa xb xc hk0 hB0 hz0 sz1 nX;have hb2:=(Below.refl W1.heap.size W1).alloc Nat.le.refl (.cells #[.bool false, .map none, .map none] 118);have xt2:=Bx.new W1 118 #[.bool false, .map none, .map none];have VK:base≤W1.heap.size:=by have:=HB.out;have:=HA.out;omega
 have e0:W1.cell? ⟨A,0,none⟩=some (.bool pe):=xa1.cell 0;have e1:W1.cell? ⟨A,1,none⟩=some (.map (some pf)):=xa1.cell 1;have e2:W1.cell? ⟨A+1,0,none⟩=some (.bool qe):=xb1.cell 0;have e3:W1.cell? ⟨A+1,2,none⟩=some (.map (some ql)):=xb1.cell 2;have VL:∀ W3,Bx W3 W1.heap.size 118 #[.bool (pe && qe), .map (some pf), .map (some ql)]→(∀ j,j≠W1.heap.size→W3.heap[j]?=(W1.alloc (.cells #[.bool false, .map none, .map none] 118)).heap[j]?)→AX.Same (W1.alloc (.cells #[.bool false, .map none, .map none] 118)) W3→Bh base w Bb A W1.heap.size pe qe (pe && qe) pf pl qf ql pf ql Pf PL Qf QL Pf QL (s.join PL Qf) W3:=by
  intro W3 g3 g4 g5;have hl:Below W1.heap.size (W1.alloc (.cells #[.bool false, .map none, .map none] 118)) W3:=AX.aj Nat.le.refl (.inl g3.lt) g4 g5;have hl3:=hb2.trans hl;exact⟨xa1.below hl3 xa1.lt,xb1.below hl3 xb1.lt,xc1.below hl3 xc1.lt,g3,s1.below hl3 Nat.le.refl,s4.below hl3 Nat.le.refl,s1.below hl3 Nat.le.refl,s2.below hl3 Nat.le.refl,s3.below hl3 Nat.le.refl,s4.below hl3 Nat.le.refl,⟨_,_,_,_,jX.below hl3⟩,hk1.trans (Kp.of_below hl3 VK),Nat.le_trans VK hl3.size,Nat.le_of_eq HA.out.symm,hTl⟩
 obtain⟨T,hT⟩:∃ T,T=W1.heap.size:=⟨_,rfl⟩;have HT:=hid hT;rw[←hT] at VL xt2;have VN:=hid VL;clear xa1 xb1 xc1 s1 s2 s3 s4 hk1 hTl jX hb2 VK VL;go_cut [7] from 14 to 24 (fun t7 wz=>t7 = .pointer (some ⟨T,0,none⟩)∧Bh base w Bb A T pe qe (pe && qe) pf pl qf ql pf ql Pf PL Qf QL Pf QL (s.join PL Qf) wz)
 case first =>
  cases pe
  ·go_wp2_with ((with_reducible refine dP ?_);rw[←HT.out];refine AX.au (vs:=[.bool false, .map (some pf), .map (some ql)]) rfl rfl iR xt2 rfl rfl ?_;rintro W3 g3 g4 g5)
   go_meet
   case rel=>exact⟨rfl,VN.out W3 g3 g4 g5⟩
  ·go_wp2_with ((with_reducible refine dP ?_);rw[←HT.out];refine AX.au (vs:=[.bool qe, .map (some pf), .map (some ql)]) rfl rfl iR xt2 rfl rfl ?_;rintro W3 g3 g4 g5)
   go_meet
   case rel=>exact⟨rfl,VN.out W3 g3 g4 g5⟩
 case rest =>
  obtain⟨rfl,h0⟩:=hcut;clear VN xt2 hT e0 e1 e2 e3 s1 s2 s3 s4;have y0:wc.cell? ⟨A,0,none⟩=some (.bool pe):=h0.xa.cell 0;go_upto_if 26 with (fail)
  go_cut [7] from 27 to 33 (fun t7 wz=>t7 = .pointer (some ⟨T,0,none⟩)∧∃ r1,Bh base w Bb A T pe qe (pe && qe) pf pl qf ql r1 ql Pf PL Qf QL (if pe then jy Pf Qf else Pf) QL (s.join PL Qf) wz)
  case first =>
   cases pe
   ·go_wp2_with fail
    go_meet
    case rel=>exact⟨rfl,pf,h0⟩
   ·have y1:wc.cell? ⟨A,1,none⟩=some (.map (some pf)):=h0.xa.cell 1
    have y2:wc.cell? ⟨A+1,1,none⟩=some (.map (some qf)):=h0.xb.cell 1;have hb:=(Below.refl wc.heap.size wc).alloc Nat.le.refl (.cells #[.map (some pf), .map (some qf)] 112);have hn:=Bx.new wc 112 #[.map (some pf), .map (some qf)];have h1:=h0.low hb;have hu:=lK (c:=2) _ h1.p1 h1.q1 hn.lt (hn.cell 0) (hn.cell 1);have H1:=hid h1;clear hb h1;go_wp2_with (first
     | (go_at_call 97;((with_reducible refine hu.mono ?_);rintro e W3 ⟨r1,rfl,hr1,hsu,hb3⟩;have h3:=H1.out.low hb3;have x3:=h3.xt))
     | ((with_reducible refine dP ?_);refine AX.aB (o:=1) (v := .map (some r1)) rfl rfl rfl U7 x3 (show 1<3 by decide) ?_;rintro W4 g3 g4 g5))
    go_meet
    case rel=>exact⟨rfl,r1,h3.put HB.out hsu h3.s2 g3 g4 g5⟩
  case rest =>
   obtain⟨rfl,r1,h0⟩:=hcut;clear y0;have y0:wc.cell? ⟨A+1,0,none⟩=some (.bool qe):=h0.xb.cell 0;go_upto_if 35 with (fail)
   go_cut [7] from 36 to 42 (fun t7 wz=>t7 = .pointer (some ⟨T,0,none⟩)∧∃ r2,Bh base w Bb A T pe qe (pe && qe) pf pl qf ql r1 r2 Pf PL Qf QL (if pe then jy Pf Qf else Pf) (if qe then jy PL QL else QL) (s.join PL Qf) wz)
   case first =>
    cases qe
    ·go_wp2_with fail
     go_meet
     case rel=>exact⟨rfl,ql,h0⟩
    ·have y1:wc.cell? ⟨A,2,none⟩=some (.map (some pl)):=h0.xa.cell 2
     have y2:wc.cell? ⟨A+1,2,none⟩=some (.map (some ql)):=h0.xb.cell 2;have hb:=(Below.refl wc.heap.size wc).alloc Nat.le.refl (.cells #[.map (some pl), .map (some ql)] 112);have hn:=Bx.new wc 112 #[.map (some pl), .map (some ql)];have h1:=h0.low hb;have hu:=lK (c:=2) _ h1.p2 h1.q2 hn.lt (hn.cell 0) (hn.cell 1);have H1:=hid h1;clear hb h1;go_wp2_with (first
      | (go_at_call 97;((with_reducible refine hu.mono ?_);rintro e W3 ⟨r2,rfl,hr2,hsu,hb3⟩;have h3:=H1.out.low hb3;have x3:=h3.xt))
      | ((with_reducible refine dP ?_);refine AX.aB (o:=2) (v := .map (some r2)) rfl rfl rfl U7 x3 (show 2<3 by decide) ?_;rintro W4 g3 g4 g5))
     go_meet
     case rel=>exact⟨rfl,r2,h3.put HB.out h3.s1 hsu g3 g4 g5⟩
   case rest =>
    obtain⟨rfl,r2,h0⟩:=hcut;clear y0;have y0:wc.cell? ⟨T,0,none⟩=some (.bool (pe && qe)):=h0.xt.cell 0;have y1:wc.cell? ⟨T,1,none⟩=some (.map (some r1)):=h0.xt.cell 1;have y2:wc.cell? ⟨T,2,none⟩=some (.map (some r2)):=h0.xt.cell 2;obtain⟨be,hbe⟩:∃ be,be=(pe && qe):=⟨_,rfl⟩;have HBe:=hid hbe;rw[←hbe] at y0;have H0:=hid h0;have xc:=h0.xc;clear h0 hbe;go_wp2_with ((with_reducible refine dP ?_);refine AX.au (vs:=[.bool be, .map (some r1), .map (some r2)]) rfl rfl iR xc rfl rfl ?_;rintro W9 g3 g4 g5)
    have x9:Bx W9 (A+1+1) 118 #[.bool be, .map (some r1), .map (some r2)]:=g3;have d0:W9.cell? ⟨A+1+1,0,none⟩=some (.bool be):=x9.cell 0;have d1:W9.cell? ⟨A+1+1,1,none⟩=some (.map (some r1)):=x9.cell 1;have d2:W9.cell? ⟨A+1+1,2,none⟩=some (.map (some r2)):=x9.cell 2;have hs9:dQ 118 wc W9:=aT xc g4;have hAA:=H0.out.hA;have hl9:Below base wc W9:=AX.aj (by have:=HB.out;omega) (.inl x9.lt) g4 g5;have hend:qJ base Bb (behind s { e:=pe,f:=Pf,l:=PL } { e:=qe,f:=Qf,l:=QL }) w (.returned (plV be r1 r2)) W9:=by
     obtain⟨a,b,c,d,hd⟩:=H0.out.bd;refine⟨r1,r2,a,b,c,d,?_,H0.out.s1.aY hs9,H0.out.s2.aY hs9,?_,⟨H0.out.kp.low.trans hl9,fun j o hj hn=>(g4 j (by have:=(Array.getElem?_eq_some_iff.1 hj).1;omega)).trans (H0.out.kp.keep j o hj hn)⟩⟩
     ·rw[HBe.out];rfl
     ·exact⟨hd.low,hd.box.aY hs9 (by decide),aC hd.c hs9 (by decide),aC hd.r hs9 (by decide),aC hd.sw hs9 (by decide),hd.n1,hd.n2,hd.n3,fun i r S e1 e2=>(hd.set i r S e1 e2).aY hs9⟩
    exact bodyPost_ret (v:=plV be r1 r2) (by simp[results,Tryz.results96,go_sem,d0,d1,d2,plV]) rfl hend
end
section
open Go Go.Proofs Go.RowKit
open Rx (Nd eP iO jw pre_eq jk IRd XAt)
attribute [local go_sem] Oper.semAt_some
theorem sz4:AX.sizeT Tryz.prog 4=some 1:=by kernel_rfl
theorem YM:AX.sizeT Tryz.prog 153=some 6:=by kernel_rfl
structure Nc(base:Nat)(w:World)(A:Nat)(x:Nd)(kv:Value)(wz:World):Prop where
 xa:Bx wz A 118 #[.bool false, .map none, .map none]
 xb:Bx wz (A+1) 153 #[.int .i64 x.k, .int .u64 (x.a:Nat), .int .u64 (x.b:Nat), .int .u64 (x.c:Nat), .int .u64 (x.d:Nat),kv]
 kp:Kp base w wz
 hb:base≤wz.heap.size
 hA:w.heap.size≤A
theorem BF:¬ours 118:=by unfold ours;decide
theorem YQ:¬ours 153:=by unfold ours;decide
theorem Nc.go{base:Nat}{w:World}{A:Nat}{x:Nd}{kv:Value}{wz wy:World}(h:Nc base w A x kv wz)(hk:Kp base wz wy):Nc base w A x kv wy :=
 ⟨h.xa.kp hk BF,h.xb.kp hk YQ,h.kp.trans hk,Nat.le_trans h.hb hk.low.size,h.hA⟩
theorem Bd.sb{base:Nat}{W W':World}{Bb:Nat}{cv rv sv:Value}{s:NS}{ms:List Nat}{t:TypeId}(hd:Bd base W Bb cv rv sv s ms)(hs:dQ t W W')(h1:(110:TypeId)≠t)(h2:(116:TypeId)≠t)(h3:(3:TypeId)≠t)(h4:(112:TypeId)≠t):Bd base W' Bb cv rv sv s ms :=
 ⟨hd.low,hd.box.aY hs h1,aC hd.c hs h2,aC hd.r hs h3,aC hd.sw hs h4,hd.n1,hd.n2,hd.n3,fun i r S e1 e2=>(hd.set i r S e1 e2).aY hs⟩
theorem Nc.fin{base Bb:Nat}{w:World}{A:Nat}{x:Nd}{kv:Value}{wz wy:World}{y:NS×Pl}{rf rl:Nat}{cv rv sv:Value}{ms:List Nat}{e:Bool}(h:Nc base w A x kv wz)(hb:base≤w.heap.size)(hd:Bd base wz Bb cv rv sv y.1 ms)(h1:aP wz rf y.2.f)(h2:aP wz rl y.2.l)(he:e=y.2.e)
  (g3:Bx wy A 118 #[.bool e, .map (some rf), .map (some rl)]) (g4:∀ j,j≠A→wy.heap[j]?=wz.heap[j]?) (g5:AX.Same wz wy):qJ base Bb y w (.returned (plV e rf rl)) wy:=by
 have hs:dQ 118 wz wy:=aT h.xa g4;have hl:Below base wz wy:=AX.aj (by have:=h.hA;omega) (.inl g3.lt) g4 g5;refine⟨rf,rl,cv,rv,sv,ms,by rw[he],h1.aY hs,h2.aY hs,hd.sb hs (by decide) (by decide) (by decide) (by decide),⟨h.kp.low.trans hl,fun j o hj hn=>(g4 j (by have:=(Array.getElem?_eq_some_iff.1 hj).1;have:=h.hA;omega)).trans (h.kp.keep j o hj hn)⟩⟩
theorem VO{x:Nd}(h:x.a<18446744073709551616∧x.b<18446744073709551616∧x.c<18446744073709551616∧x.d<18446744073709551616):(klN x).a=x.a∧(klN x).b=x.b∧(klN x).c=x.c∧(klN x).d=x.d :=
 ⟨Nat.mod_eq_of_lt h.1,Nat.mod_eq_of_lt h.2.1,Nat.mod_eq_of_lt h.2.2.1,Nat.mod_eq_of_lt h.2.2.2⟩
theorem Dy{Wb:World}{kv:Value}{ks:List Int}(z6:IRd Wb kv ks)(hne:ks≠[]):∃ KB ko kc,kv = .slice (some ⟨KB,ko,none⟩) ks.length (ks.length+kc)∧KB<Wb.heap.size∧∀(i:Nat)(y:Int),ks[i]?=some y→Wb.cell? ⟨KB,ko+i,none⟩=some (.int .i64 y):=by
 obtain⟨ka,kc,rfl,hn,hkr⟩:=z6
 cases ka with
 | none=>exact absurd (hn rfl) hne
 | some a =>
  obtain⟨B',o',rfl,h1,h2⟩:=hkr a rfl hne;exact⟨B',o',kc,rfl,h1,h2⟩
def Kids(base Bb:Nat)(Wb:World)(v:Value)(r:List Nd)(f:Nat)(ks:List Int):Prop :=
 ∀ k∈ks,∀(w:World)(s:NS)(cv rv sv:Value)(ms:List Nat),ig s→Below base Wb w→Bd base w Bb cv rv sv s ms→s.cl.length+szN r k≤100000→base≤w.heap.size→Calls Tryz.prog 57 #[.pointer (some ⟨Bb,0,none⟩),v, .int .i64 k] w (qJ base Bb (aU r f k s) w)
structure Ct(base Bb:Nat)(w:World)(A:Nat)(x:Nd)(kv:Value)(D:Nat)(t:NS×Pl)(wz:World):Prop where
 nc:Nc base w A x kv wz
 bx:∃ rf rl,Bx wz D 118 #[.bool t.2.e, .map (some rf), .map (some rl)]∧aP wz rf t.2.f∧aP wz rl t.2.l
 bd:∃ cv rv sv ms,Bd base wz Bb cv rv sv t.1 ms
theorem EZ(r:List Nd)(ks:List Int){j:Nat}{k:Int}(hk:ks[j]?=some k):szK r (ks.take j)+szN r k≤szK r ks:=by
 obtain⟨hj,rfl⟩:=List.getElem?_eq_some_iff.1 hk;have h1:ks=ks.take j++ks[j]::ks.drop (j+1):=by rw[←List.drop_eq_getElem_cons hj,List.take_append_drop]
 conv=>rhs;rw[h1]
 unfold szK;rw[List.map_append,List.sum_append,List.map_cons,List.sum_cons];omega
theorem E5(r:List Nd)(ks:List Int){j:Nat}{k:Int}(hk:ks[j]?=some k):ks.take (j+1)=ks.take j++[k]∧szK r (ks.take (j+1))=szK r (ks.take j)+szN r k:=by
 obtain⟨hj,rfl⟩:=List.getElem?_eq_some_iff.1 hk;have e:ks.take (j+1)=ks.take j++[ks[j]]:=List.take_succ_eq_append_getElem hj;exact⟨e,by rw[e];unfold szK;rw[List.map_append,List.sum_append];simp⟩
def eG:List AX.Inf:=[⟨0,604462909807314587353088,4096,true⟩,⟨1,1208925819614629174706176,604462909807314587353088,true⟩,⟨2,2417851639229258349412352,1208925819614629174706176,true⟩,⟨4,4835703278458516698824704,2417851639229258349445120,true⟩,⟨12,9671406556917033397649408,7253554917687775048237056,true⟩,⟨20,19342813113834066795298816,12089258196146291747061760,true⟩,⟨0,38685626227668133590597632,4096,true⟩,⟨64,77371252455336267181195264,38685626227668133590597632,true⟩,⟨0,154742504910672534362390528,32768,true⟩,⟨256,309485009821345068724781056,154742504910672534362390528,true⟩,⟨640,618970019642690137449562112,386856262276681335905976320,false⟩,⟨1028,1237940039285380274899124224,618970019642690137449562112,false⟩,⟨0,2475880078570760549798248448,4096,true⟩,⟨4096,4951760157141521099596496896,2475880078570760549798248448,true⟩,⟨0,9903520314283042199192993792,32768,true⟩,⟨16384,19807040628566084398385987584,9903520314283042199192993792,true⟩,⟨40960,39614081257132168796771975168,24758800785707605497982484480,false⟩,⟨67584,79228162514264337593543950336,39614081257132168796771975168,false⟩,⟨133152,158456325028528675187087900672,80485445366663551935238373376,true⟩,⟨524287,0,158456325028528675187087904768,false⟩]
def rV:List (Nat×Bool):=[(0,true),(1,true),(2,true),(3,true),(4,true),(5,true),(6,true),(7,true),(8,true),(9,true),(12,true),(13,true),(14,true),(15,true)]
def iW:List (Nat×Nat):=[(17,2),(18,2),(19,2)]
theorem E8{o:Oper}{a:Act}{w:World}{K:Act→World→Prop}{Q:Exit→Act→World→Prop}{x y:Operand}{r1 r2:Nat}(ho:o.op = .buildSlice 108 2 #[(0,x),(1,y)])(hx:a.eval x = .map (some r1))(hy:a.eval y = .map (some r2))
  (h:K (a.put o.dst (.slice (some ⟨w.heap.size,0,none⟩) 2 2)) (w.alloc (.cells #[.map (some r1), .map (some r2)] 112))):o.wp Tryz.prog a w K Q:=by
 obtain⟨dst,op,ty,pos,after,guard⟩:=o;simp only at ho h;subst ho;unfold Oper.wp;generalize a.eval=ev at *;simp[go_sem,hx,hy];exact h
theorem Iw{o:Oper}{a:Act}{w:World}{K:Act→World→Prop}{Q:Exit→Act→World→Prop}{x y z:Operand}{e:Bool}{r1 r2:Nat}(ho:o.op = .build 118 #[(0,z),(1,x),(2,y)])(hz:a.eval z = .bool e)(hx:a.eval x = .map (some r1))(hy:a.eval y = .map (some r2))
  (h:K (a.put o.dst (plV e r1 r2)) w):o.wp Tryz.prog a w K Q:=by
 obtain⟨dst,op,ty,pos,after,guard⟩:=o;simp only at ho h;subst ho;unfold Oper.wp;generalize a.eval=ev at *;simp[go_sem,hz,hx,hy];exact h
theorem Nc.abt{base:Nat}{w:World}{A:Nat}{x:Nd}{kv:Value}{wz wy:World}(h:Nc base w A x kv wz)(hb:Below wz.heap.size wz wy):Nc base w A x kv wy:=h.go (Kp.of_below hb h.hb)
structure LC where
 base:Nat
 Bb:Nat
 w:World
 A:Nat
 x:Nd
 kv:Value
 D:Nat
 E:Nat
 e1:Bool
 e2:Bool
 rf1:Nat
 rl1:Nat
 rf2:Nat
 rl2:Nat
 F1:List Int
 L1:List Int
 F2:List Int
 L2:List Int
 y:NS
structure AK(c:LC)(p q:Nat)(v:Nat→Value)(wz:World):Prop where
 nc:Nc c.base c.w c.A c.x c.kv wz
 xd:Bx wz c.D 118 #[.bool c.e1, .map (some c.rf1), .map (some c.rl1)]
 xe:Bx wz c.E 118 #[.bool c.e2, .map (some c.rf2), .map (some c.rl2)]
 f1:aP wz c.rf1 c.F1
 l1:aP wz c.rl1 c.L1
 f2:aP wz c.rf2 c.F2
 l2:aP wz c.rl2 c.L2
 bd:∃ cv rv sv ms,Bd c.base wz c.Bb cv rv sv c.y ms
 b:p=1→∃ B,v 89 = .slice (some ⟨B,0,none⟩) 2 2∧Bx wz B 112 #[.map (some c.rf1), .map (some c.rf2)]
 u:p=2→∃ r,v 90 = .map (some r)∧aP wz r (jy c.F1 c.F2)
 d:q=1→∃ B,v 95 = .slice (some ⟨B,0,none⟩) 2 2∧Bx wz B 112 #[.map (some c.rl1), .map (some c.rl2)]
theorem AK.low{c:LC}{p q:Nat}{v:Nat→Value}{wz wy:World}(h:AK c p q v wz)(hb:Below wz.heap.size wz wy):AK c p q v wy where
 nc:=h.nc.abt hb
 xd:=h.xd.below hb h.xd.lt
 xe:=h.xe.below hb h.xe.lt
 f1:=h.f1.below hb Nat.le.refl
 l1:=h.l1.below hb Nat.le.refl
 f2:=h.f2.below hb Nat.le.refl
 l2:=h.l2.below hb Nat.le.refl
 bd:=by obtain⟨a,b,e,f,hd⟩:=h.bd;exact⟨a,b,e,f,hd.below hb⟩
 b g:=by obtain⟨B,h1,h2⟩:=h.b g;exact⟨B,h1,h2.below hb h2.lt⟩
 u g:=by obtain⟨B,h1,h2⟩:=h.u g;exact⟨B,h1,h2.below hb Nat.le.refl⟩
 d g:=by obtain⟨B,h1,h2⟩:=h.d g;exact⟨B,h1,h2.below hb h2.lt⟩
def frA(a0:Act)(v:Nat→Value):Act:=⟨((((a0.tmps.setIfInBounds 89 (v 89)).setIfInBounds 90 (v 90)).setIfInBounds 95 (v 95)).setIfInBounds 96 (v 96)).setIfInBounds 97 (v 97),a0.defers⟩
structure A57(c:LC)(a0:Act):Prop where
 sz:a0.tmps.size=125
 r12:a0.tmps[12]?=some (.pointer (some ⟨c.D,0,none⟩))
 r84:a0.tmps[84]?=some (.bool (c.e1 || c.e2))
 r86:a0.tmps[86]?=some (.map (some c.rf1))
 r88:a0.tmps[88]?=some (.map (some c.rf2))
 r92:a0.tmps[92]?=some (.map (some c.rl1))
 r94:a0.tmps[94]?=some (.map (some c.rl2))
theorem uQ(a0:Act)(v:Nat→Value)(t:Nat)(h:t≠89∧t≠90∧t≠95∧t≠96∧t≠97){y:Value}(hy:a0.tmps[t]?=some y):(frA a0 v).eval (.tmp t)=y:=by
 unfold frA Act.eval;simp only[Array.getD_eq_getD_getElem?,Array.getElem?_setIfInBounds];simp[h.1.symm,h.2.1.symm,h.2.2.1.symm,h.2.2.2.1.symm,h.2.2.2.2.symm,hy]
theorem rW(a0:Act)(v:Nat→Value)(hs:a0.tmps.size=125)(t:Nat)(h:t=89∨t=90∨t=95∨t=96∨t=97):(frA a0 v).eval (.tmp t)=v t:=by
 unfold frA Act.eval;simp only[Array.getD_eq_getD_getElem?,Array.getElem?_setIfInBounds,Array.size_setIfInBounds];rcases h with rfl | rfl | rfl | rfl | rfl<;>simp[hs]
theorem rY(a0:Act)(v:Nat→Value)(hs:a0.tmps.size=125)(t:Nat)(h:t=89∨t=90∨t=95∨t=96∨t=97)(y:Value):(frA a0 v).put (some t) y=frA a0 (up v t y):=by
 refine congrArg (fun t=>Act.mk t a0.defers) ?_;simp only[frA];refine Array.ext_getElem? fun i=>?_;simp only[Array.getElem?_setIfInBounds,Array.size_setIfInBounds,hs]
 by_cases h1:i=89
 ·subst h1;rcases h with rfl | rfl | rfl | rfl | rfl<;>simp[up]
 by_cases h2:i=90
 ·subst h2;rcases h with rfl | rfl | rfl | rfl | rfl<;>simp[up]
 by_cases h3:i=95
 ·subst h3;rcases h with rfl | rfl | rfl | rfl | rfl<;>simp[up]
 by_cases h4:i=96
 ·subst h4;rcases h with rfl | rfl | rfl | rfl | rfl<;>simp[up]
 by_cases h5:i=97
 ·subst h5;rcases h with rfl | rfl | rfl | rfl | rfl<;>simp[up]
 have e:t≠i:=by rcases h with rfl | rfl | rfl | rfl | rfl<;>omega
 rw[if_neg e,if_neg (Ne.symm h5),if_neg (Ne.symm h4),if_neg (Ne.symm h3),if_neg (Ne.symm h2),if_neg (Ne.symm h1),if_neg (Ne.symm h5),if_neg (Ne.symm h4),if_neg (Ne.symm h3),if_neg (Ne.symm h2),if_neg (Ne.symm h1)]
def rZ(p q:Nat):Nat:=62463+(if 1≤p then 1024 else 0)+(if 2≤p then 2048 else 0)+(if 1≤q then 65536 else 0)
def K57(c:LC)(n m:Nat)(v:Nat→Value)(w:World):Prop:=∃ p q,p≤2∧q≤1∧m=rZ p q∧n+p+q=6∧AK c p q v w
section
variable {c : LC} {a0 : Act} {v : Nat → Value} {w : World} {l : List Oper} {Q : Exit → Act → World → Prop} {o10 o11 o16 o17 o18 o19 : Oper}
theorem U8(hA:A57 c a0)(h10:l[10]?=some o10)(e1:o10.op = .buildSlice 108 2 #[(0, .tmp 86),(1, .tmp 88)])(e2:o10.dst=some 89)(e3:o10.guard=none){q:Nat}(h:AK c 0 q v w) :
  wpOp Tryz.prog l.toArray Q 10 (fun a' w'=>∃ v',a'=frA a0 v'∧AK c 1 q v' w') (frA a0 v) w:=by
 refine AX.ay _ h10 (by unfold Region.wanted;rw[e3]) ?_;refine E8 e1 (uQ _ _ _ (by decide) hA.r86) (uQ _ _ _ (by decide) hA.r88) ?_;have hb:=(Below.refl w.heap.size w).alloc Nat.le.refl (.cells #[.map (some c.rf1), .map (some c.rf2)] 112);have h1:=h.low hb;refine⟨up v 89 _,by rw[e2,rY a0 v hA.sz 89 (.inl rfl)],h1.nc,h1.xd,h1.xe,h1.f1,h1.l1,h1.f2,h1.l2,h1.bd,fun _=>⟨w.heap.size,by simp[up],Bx.new w 112 _⟩,fun g=>(by cases g),fun g=>?_⟩;obtain⟨B,h2,h3⟩:=h1.d g;exact⟨B,by simpa[up] using h2,h3⟩
theorem N9(hA:A57 c a0)(h16:l[16]?=some o16)(e1:o16.op = .buildSlice 108 2 #[(0, .tmp 92),(1, .tmp 94)])(e2:o16.dst=some 95)(e3:o16.guard=none){p:Nat}(h:AK c p 0 v w) :
  wpOp Tryz.prog l.toArray Q 16 (fun a' w'=>∃ v',a'=frA a0 v'∧AK c p 1 v' w') (frA a0 v) w:=by
 refine AX.ay _ h16 (by unfold Region.wanted;rw[e3]) ?_;refine E8 e1 (uQ _ _ _ (by decide) hA.r92) (uQ _ _ _ (by decide) hA.r94) ?_;have hb:=(Below.refl w.heap.size w).alloc Nat.le.refl (.cells #[.map (some c.rl1), .map (some c.rl2)] 112);have h1:=h.low hb;refine⟨up v 95 _,by rw[e2,rY a0 v hA.sz 95 (by decide)],h1.nc,h1.xd,h1.xe,h1.f1,h1.l1,h1.f2,h1.l2,h1.bd,fun g=>?_,fun g=>?_,fun _=>⟨w.heap.size,by simp[up],Bx.new w 112 _⟩⟩
 ·obtain⟨B,h2,h3⟩:=h1.b g
  exact⟨B,by simpa[up] using h2,h3⟩
 ·obtain⟨B,h2,h3⟩:=h1.u g
  exact⟨B,by simpa[up] using h2,h3⟩
theorem U9(hA:A57 c a0)(h11:l[11]?=some o11)(e1:o11.op = .call { callee := .value (.func 97),args:=#[.tmp 89],argTypes:=#[108] })(e2:o11.dst=some 90)(e3:o11.guard=none){q:Nat}(h:AK c 1 q v w) :
  wpOp Tryz.prog l.toArray Q 11 (fun a' w'=>∃ v',a'=frA a0 v'∧AK c 2 q v' w') (frA a0 v) w:=by
 obtain⟨B,h2,h3⟩:=h.b rfl;have hu:=lK (c:=2) w h.f1 h.f2 h3.lt (h3.cell 0) (h3.cell 1);refine AX.bU hu h11 e1 (by unfold Region.wanted;rw[e3]) Tryz.func97 (by kernel_rfl) (by rfl) (by simp[rW a0 v hA.sz 89 (.inl rfl),h2]) ?_;rintro e W5 ⟨r,rfl,hr,hsu,hb⟩;have h1:=h.low hb;refine⟨_,rfl,up v 90 (.map (some r)),by rw[e2,rY a0 v hA.sz 90 (by decide)],h1.nc,h1.xd,h1.xe,h1.f1,h1.l1,h1.f2,h1.l2,h1.bd,fun g=>(by cases g),fun _=>⟨r,by simp[up],hsu⟩,fun g=>?_⟩;obtain⟨B,h2,h3⟩:=h1.d g;exact⟨B,by simpa[up] using h2,h3⟩
theorem Oa{C CT:World→Prop}(hC:∀ W,Bx W c.D 118 #[.bool c.e1, .map (some c.rf1), .map (some c.rl1)]→Bx W c.E 118 #[.bool c.e2, .map (some c.rf2), .map (some c.rl2)]→C W)(hCT:∀ W,CT W)(hbw:c.base≤c.w.heap.size)(hD:c.w.heap.size≤c.D)(hDA:c.A+1<c.D)
  (hQ:∀ v W,Ct c.base c.Bb c.w c.A c.x c.kv c.D (c.y,Lj ⟨c.e1,c.F1,c.L1⟩ ⟨c.e2,c.F2,c.L2⟩) W→Q .normal (frA a0 v) W) (hA:A57 c a0)
  (h17:l[17]?=some o17) (e1:o17.op = .call { callee := .value (.func 97),args:=#[.tmp 95],argTypes:=#[108] }) (e2:o17.dst=some 96) (e3:o17.guard=none)
  (h18:l[18]?=some o18) (e4:o18.op = .build 118 #[(0, .tmp 84),(1, .tmp 90),(2, .tmp 96)]) (e5:o18.dst=some 97) (e6:o18.guard=none)
  {ty:TypeId} {pos:String} {after:Array Edge} (h19:l[19]?=some { dst:=none,op := .store 118 (.tmp 12) (.tmp 97),type:=ty,pos:=pos,after:=after,guard:=none }) (h:AK c 2 1 v w):AX.bD Tryz.prog l C CT 19 Q false iW (frA a0 v) w:=by
 obtain⟨B,h2,h3⟩:=h.d rfl;have hu:=lK (c:=2) w h.l1 h.l2 h3.lt (h3.cell 0) (h3.cell 1);unfold iW;refine AX.eF hu h17 e1 (by unfold Region.wanted;rw[e3]) Tryz.func97 (by kernel_rfl) (by rfl) (by simp[rW a0 v hA.sz 95 (by decide),h2]) ?_;rintro e W5 ⟨r,rfl,hr,hsu,hb⟩;have h1:=h.low hb;refine⟨_,rfl,⟨hCT _,fun _=>hC _ h1.xd h1.xe⟩,?_⟩;obtain⟨r0,h4,h5⟩:=h1.u rfl;rw[e2,rY a0 v hA.sz 96 (by decide)];refine AX.aW _ h18 (by unfold Region.wanted;rw[e6]) ?_;refine Iw e4 (uQ _ _ _ (by decide) hA.r84) (r1:=r0) (r2:=r) (by rw[rW a0 _ hA.sz 90 (by decide)];simpa[up] using h4) (by rw[rW a0 _ hA.sz 96 (by decide)];simp[up]) ?_;refine⟨⟨hCT _,fun _=>hC _ h1.xd h1.xe⟩,?_⟩;rw[e5,rY a0 _ hA.sz 97 (by decide)];refine AX.aW _ h19 (by rfl) ?_;refine AX.aG (vs:=[.bool (c.e1 || c.e2), .map (some r0), .map (some r)]) (uQ _ _ _ (by decide) hA.r12) (by rw[rW a0 _ hA.sz 97 (by decide)];simp[up,plV]) iR h1.xd rfl rfl ?_;rintro W6 g3 g4 g5;have x6:Bx W6 c.D 118 #[.bool (c.e1 || c.e2), .map (some r0), .map (some r)]:=g3;have hs6:dQ 118 W5 W6:=aT h1.xd g4;have hl6:Below c.base W5 W6:=AX.aj (by omega) (.inl x6.lt) g4 g5;have n5:=h1.nc;have n6:Nc c.base c.w c.A c.x c.kv W6:=⟨(g4 c.A (by omega)).trans n5.xa,(g4 (c.A+1) (by omega)).trans n5.xb,⟨n5.kp.low.trans hl6,fun j o hj hn=>(g4 j (by have:=(Array.getElem?_eq_some_iff.1 hj).1;omega)).trans (n5.kp.keep j o hj hn)⟩,Nat.le_trans n5.hb hl6.size,n5.hA⟩;refine⟨⟨hCT _,fun h=>by cases h⟩,?_⟩;refine hQ _ W6 ⟨n6,⟨r0,r,x6,h5.aY hs6,hsu.aY hs6⟩,?_⟩;obtain⟨_,_,_,_,hd⟩:=h1.bd;exact⟨_,_,_,_,hd.sb hs6 (by decide) (by decide) (by decide) (by decide)⟩
theorem JU{C CT:World→Prop}(hC:∀ W,Bx W c.D 118 #[.bool c.e1, .map (some c.rf1), .map (some c.rl1)]→Bx W c.E 118 #[.bool c.e2, .map (some c.rf2), .map (some c.rl2)]→C W)(hCT:∀ W,CT W)(hbw:c.base≤c.w.heap.size)(hD:c.w.heap.size≤c.D)(hDA:c.A+1<c.D)
  (h10:l[10]?=some o10) (a1:o10.op = .buildSlice 108 2 #[(0, .tmp 86),(1, .tmp 88)]) (a2:o10.dst=some 89) (a3:o10.guard=none)
  (h11:l[11]?=some o11) (b1:o11.op = .call { callee := .value (.func 97),args:=#[.tmp 89],argTypes:=#[108] }) (b2:o11.dst=some 90) (b3:o11.guard=none)
  (h16:l[16]?=some o16) (c1:o16.op = .buildSlice 108 2 #[(0, .tmp 92),(1, .tmp 94)]) (c2:o16.dst=some 95) (c3:o16.guard=none)
  (h17:l[17]?=some o17) (e1:o17.op = .call { callee := .value (.func 97),args:=#[.tmp 95],argTypes:=#[108] }) (e2:o17.dst=some 96) (e3:o17.guard=none)
  (h18:l[18]?=some o18) (e4:o18.op = .build 118 #[(0, .tmp 84),(1, .tmp 90),(2, .tmp 96)]) (e5:o18.dst=some 97) (e6:o18.guard=none)
  {ty:TypeId} {pos:String} {after:Array Edge} (h19:l[19]?=some { dst:=none,op := .store 118 (.tmp 12) (.tmp 97),type:=ty,pos:=pos,after:=after,guard:=none }) :
  ∀ a0,A57 c a0→(∀ v W,Ct c.base c.Bb c.w c.A c.x c.kv c.D (c.y,Lj ⟨c.e1,c.F1,c.L1⟩ ⟨c.e2,c.F2,c.L2⟩) W→Q .normal (frA a0 v) W)→∀ n m v w,K57 c n m v w→(C w∧CT w∧m.testBit 19=false)∧((m=131071∧n=iW.length∧AX.bD Tryz.prog l C CT 19 Q false iW (frA a0 v) w) ∨
   (∃ k,n=k+1∧AX.gY eG m≠[]∧∀ i∈AX.gY eG m,i≠19∧wpOp Tryz.prog l.toArray Q i (fun a' w'=>∃ v',a'=frA a0 v'∧K57 c k (Nat.lor m (2 ^ i)) v' w') (frA a0 v) w)):=by
 rintro a0 hA hQ n m v w ⟨p,q,hp,hq,rfl,hn,h⟩;have K:∀ k p' q',p'≤2→q'≤1→n=k+1→k+p'+q'=6→∀ i,Nat.lor (rZ p q) (2 ^ i)=rZ p' q'→wpOp Tryz.prog l.toArray Q i (fun a' w'=>∃ v',a'=frA a0 v'∧AK c p' q' v' w') (frA a0 v) w→wpOp Tryz.prog l.toArray Q i (fun a' w'=>∃ v',a'=frA a0 v'∧K57 c k (Nat.lor (rZ p q) (2 ^ i)) v' w') (frA a0 v) w:=by
  intro k p' q' g1 g2 _ g3 i g4 g5;exact wpOp_mono (fun a' w' ⟨v',e,hk⟩=>⟨v',e,p',q',g1,g2,g4,g3,hk⟩) g5
 have hc:=hC w h.xd h.xe;obtain rfl | rfl | rfl:p=0∨p=1∨p=2:=by omega
 all_goals obtain rfl | rfl:q=0∨q=1:=by omega
 ·refine⟨⟨hc,hCT w,by decide⟩, .inr ⟨5,by omega,by rw[show AX.gY eG (rZ 0 0) = [10,16] by kernel_rfl];simp,?_⟩⟩
  rw[show AX.gY eG (rZ 0 0) = [10,16] by kernel_rfl];intro i hi;simp only[List.mem_cons,List.not_mem_nil,or_false] at hi;rcases hi with rfl | rfl
  ·exact⟨by decide,K 5 1 0 (by decide) (by decide) (by omega) (by omega) 10 (by decide) (U8 hA h10 a1 a2 a3 h)⟩
  ·exact⟨by decide,K 5 0 1 (by decide) (by decide) (by omega) (by omega) 16 (by decide) (N9 hA h16 c1 c2 c3 h)⟩
 ·refine⟨⟨hc,hCT w,by decide⟩, .inr ⟨4,by omega,by rw[show AX.gY eG (rZ 0 1) = [10] by kernel_rfl];simp,?_⟩⟩
  rw[show AX.gY eG (rZ 0 1) = [10] by kernel_rfl];intro i hi;simp only[List.mem_cons,List.not_mem_nil,or_false] at hi;subst hi;exact⟨by decide,K 4 1 1 (by decide) (by decide) (by omega) (by omega) 10 (by decide) (U8 hA h10 a1 a2 a3 h)⟩
 ·refine⟨⟨hc,hCT w,by decide⟩, .inr ⟨4,by omega,by rw[show AX.gY eG (rZ 1 0) = [11,16] by kernel_rfl];simp,?_⟩⟩
  rw[show AX.gY eG (rZ 1 0) = [11,16] by kernel_rfl];intro i hi;simp only[List.mem_cons,List.not_mem_nil,or_false] at hi;rcases hi with rfl | rfl
  ·exact⟨by decide,K 4 2 0 (by decide) (by decide) (by omega) (by omega) 11 (by decide) (U9 hA h11 b1 b2 b3 h)⟩
  ·exact⟨by decide,K 4 1 1 (by decide) (by decide) (by omega) (by omega) 16 (by decide) (N9 hA h16 c1 c2 c3 h)⟩
 ·refine⟨⟨hc,hCT w,by decide⟩, .inr ⟨3,by omega,by rw[show AX.gY eG (rZ 1 1) = [11] by kernel_rfl];simp,?_⟩⟩
  rw[show AX.gY eG (rZ 1 1) = [11] by kernel_rfl];intro i hi;simp only[List.mem_cons,List.not_mem_nil,or_false] at hi;subst hi;exact⟨by decide,K 3 2 1 (by decide) (by decide) (by omega) (by omega) 11 (by decide) (U9 hA h11 b1 b2 b3 h)⟩
 ·refine⟨⟨hc,hCT w,by decide⟩, .inr ⟨3,by omega,by rw[show AX.gY eG (rZ 2 0) = [16] by kernel_rfl];simp,?_⟩⟩
  rw[show AX.gY eG (rZ 2 0) = [16] by kernel_rfl];intro i hi;simp only[List.mem_cons,List.not_mem_nil,or_false] at hi;subst hi;exact⟨by decide,K 3 2 1 (by decide) (by decide) (by omega) (by omega) 16 (by decide) (N9 hA h16 c1 c2 c3 h)⟩
 ·exact⟨⟨hc,hCT w,by decide⟩, .inl ⟨by decide,by simp[iW];omega,Oa hC hCT hbw hD hDA hQ hA h17 e1 e2 e3 h18 e4 e5 e6 h19 h⟩⟩
end
end
section
open Go Go.Proofs Go.RowKit
theorem Ob(a:Act):frA a (fun t=>a.tmps.getD t undef)=a:=by
 show Act.mk _ _=_
 have h:∀(x:Array Value)(i:Nat),x.setIfInBounds i (x.getD i undef)=x:=fun x i=>by
  refine Array.ext_getElem? fun j=>?_;rw[Array.getElem?_setIfInBounds]
  by_cases e:i=j
  ·subst e
   rw[if_pos rfl]
   by_cases hi:i<x.size
   ·rw[if_pos hi,Array.getD_eq_getD_getElem?,Array.getElem?_eq_getElem hi,Option.getD_some]
   ·rw[if_neg hi,Array.getElem?_eq_none (by omega)]
  ·rw[if_neg e]
 simp only[h]
theorem BG{c:LC}{a:Act}{w:World}{Fin:(Nat→Value)→World→Prop}{Q:Exit→Act→World→Prop}(hA:A57 c a)(hQ:∀ v W,Fin v W→Q .normal (frA a v) W)(hK:∀ v,AK c 0 0 v w):∃ a0 v,A57 c a0∧(∀ v w,Fin v w→Q .normal (frA a0 v) w)∧a=frA a0 v∧K57 c 6 62463 v w :=
 ⟨a,_,hA,hQ,(Ob a).symm,0,0,by decide,by decide,by decide,by decide,hK _⟩
theorem NdP.start{s:NS}(hs:ig s):NdP s (s,⟨false,[],[]⟩) 0:=⟨hs,⟨In.nil _,In.nil _⟩,Nat.le_refl _,Nat.le_refl _,[],by simp⟩
end
end Go.Proofs.YtkjgogdkdejljaaGreatDoor.Df
