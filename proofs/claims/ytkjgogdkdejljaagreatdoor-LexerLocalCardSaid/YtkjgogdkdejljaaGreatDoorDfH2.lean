import Derived.Test.YtkjgogdkdejljaaGreatDoorDfH2a
set_option maxRecDepth 100000
set_option maxHeartbeats 40000000
namespace Go.Proofs.YtkjgogdkdejljaaGreatDoor.Df
open Go.Lib (hid)
open Go Go.Proofs Go.RowKit
attribute [local go_sem] Oper.semAt_some
theorem TD(R:List Rl)(hl:R.length≤9223372036854775807)(la:Option Addr)(c:Nat)(s:ByteArray)(which:Int)(bh ah:ByteArray)(w:World)(hp:0<w.heap.size)(hT:TabAt w)(hR:uZ w la R) :
  Calls Tryz.prog 5 #[.slice la R.length c, .string s, .int .i64 which, .string bh, .string ah] w fun e w'=>e = .returned (.bool true)∧Below w.heap.size w w':=by
 have hlv:=FD w hp hT;have hlg:=fun(W:World)(hb:Below w.heap.size w W)=>BZ R hl la c W (hR.below hb Nat.le.refl);have hbu:=fun(hlt:kF R=true)(W:World)(hb:Below w.heap.size w W)=>O9 R hlt la c W (Nat.lt_of_lt_of_le hp hb.size) (hT.below hb hp) (hR.below hb Nat.le.refl);unfold DX at hbu;obtain⟨lt,hlt⟩:∃ lt,lt=kF R:=⟨_,rfl⟩;rw[←hlt] at hlg hbu;obtain⟨n,hn⟩:∃ n,n=R.length:=⟨_,rfl⟩;rw[←hn] at hlg hbu ⊢;clear hlt hn hR hT hl
 cases lt with
 | false =>
  clear hbu;go_enter Tryz.func5,Tryz.ntmps5
  go_wp2_with (first
   | (go_at_call 9;((with_reducible refine hlv.mono ?_);rintro e W1 ⟨rfl,hb1⟩))
   | (go_at_call 10;((with_reducible refine(hlg _ hb1).mono ?_);rintro e W2 ⟨rfl,rfl⟩)))
  exact bodyPost_ret (v := .bool true) (by simp[results,Tryz.results5,go_sem]) rfl ⟨rfl,hb1⟩
 | true =>
  replace hbu:=hbu rfl
  by_cases hs:(60:Int)<(s.size:Int)
  ·clear hbu
   go_enter Tryz.func5,Tryz.ntmps5
   go_wp2_with (first
    | (go_at_call 9;((with_reducible refine hlv.mono ?_);rintro e W1 ⟨rfl,hb1⟩))
    | (go_at_call 10;((with_reducible refine(hlg _ hb1).mono ?_);rintro e W2 ⟨rfl,rfl⟩)))
   exact bodyPost_ret (v := .bool true) (by simp[results,Tryz.results5,go_sem]) rfl ⟨rfl,hb1⟩
  by_cases hbl:(60:Int)<(bh.size:Int)
  ·clear hbu
   go_enter Tryz.func5,Tryz.ntmps5
   go_wp2_with (first
    | (go_at_call 9;((with_reducible refine hlv.mono ?_);rintro e W1 ⟨rfl,hb1⟩))
    | (go_at_call 10;((with_reducible refine(hlg _ hb1).mono ?_);rintro e W2 ⟨rfl,rfl⟩)))
   exact bodyPost_ret (v := .bool true) (by simp[results,Tryz.results5,go_sem]) rfl ⟨rfl,hb1⟩
  by_cases hal:(60:Int)<(ah.size:Int)
  ·clear hbu
   go_enter Tryz.func5,Tryz.ntmps5
   go_wp2_with (first
    | (go_at_call 9;((with_reducible refine hlv.mono ?_);rintro e W1 ⟨rfl,hb1⟩))
    | (go_at_call 10;((with_reducible refine(hlg _ hb1).mono ?_);rintro e W2 ⟨rfl,rfl⟩)))
   exact bodyPost_ret (v := .bool true) (by simp[results,Tryz.results5,go_sem]) rfl ⟨rfl,hb1⟩
  go_enter Tryz.func5,Tryz.ntmps5
  go_upto_region 6 with (first
   | (go_at_call 9;((with_reducible refine hlv.mono ?_);rintro e W1 ⟨rfl,hb1⟩))
   | (go_at_call 10;((with_reducible refine(hlg _ hb1).mono ?_);rintro e W2 ⟨rfl,rfl⟩))
   | (go_at_call 11;((with_reducible refine(hbu _ hb1).mono ?_);rintro e W3 ⟨v0,v1,v2,v3,at_,er,rfl,hone,hb3,hcase⟩;have xN:=Bx.new W3 29 #[.slice none 0 0, .slice none 0 0, .slice none 0 0, .int .i64 0]))
   | ((with_reducible refine bZ ?_);refine AX.au (vs:=[v0,v1,v2,v3]) rfl rfl DJ xN rfl hone ?_;rintro W4 g3 g4 g5))
  have x4:Bx W4 W3.heap.size 29 #[v0,v1,v2,v3]:=g3;have nS:Below W3.heap.size W3 W4:=((Below.refl W3.heap.size W3).alloc Nat.le.refl _).trans (AX.aj Nat.le.refl (.inl x4.lt) g4 g5);obtain⟨NB,hNB⟩:∃ NB,NB=W3.heap.size:=⟨_,rfl⟩;rw[←hNB] at x4 ⊢;have HB4:Hid (Below w.heap.size w W4):=hid ((hb1.trans (hb3.mono hb1.size)).trans (nS.mono (Nat.le_trans hb1.size hb3.size)));rcases hcase with her | ⟨rfl,next,rule,kind,kinds,an,ar,ak,cn,cr,ck,hok,hn1,hr1,hk1,rfl,rfl,rfl,rfl,hN,hRu,hK⟩
  ·have hd:decide (er=0)=false:=decide_eq_false her
   clear hb1 hb3 nS g3 g4 g5 xN hNB hbu hlg hlv x4;go_wp2_with fail
   exact bodyPost_ret (v := .bool true) (by simp[results,Tryz.results5,go_sem]) rfl ⟨rfl,HB4.out⟩
  have hN4:=hN.below nS Nat.le.refl;have hR4:=hRu.below nS Nat.le.refl;have hK4:=hK.below nS Nat.le.refl;have ab1:s.size≤60:=by omega
  have hall:=Lx.all_in (w:=W4) (cn:=cn) (cr:=cr) (ck:=ck) hn1 hr1 hk1 hN4 hR4 hK4 s (by omega) hok;have hfit:=Lx.mJ hok;have hbt:=Lx.kR s;have hsl:(Lx.sb s).length=s.size:=Lx.bW s;have htl:=vG hfit hbt _ 0 Nat.le.refl (Nat.zero_le _);have hrl:=Lx.lQ hfit hbt _ 0 Nat.le.refl (Nat.zero_le _);obtain⟨T,hT⟩:∃ T,T=Lx.dD next rule kind (Lx.sb s) 0:=⟨_,rfl⟩
  have hnx:∀(s':ByteArray)(i:Nat)(_:s'.size≤1000000)(_:i≤s'.size)(x:Lx.Tk)(_:Lx.dw next rule kind (Lx.sb s') i=x) (W:World) (_:Below W4.heap.size W4 W),
    Calls Tryz.prog 20 #[.agg #[.slice an next.length cn, .slice ar rule.length cr, .slice ak kind.length ck, .int .i64 kinds], .string s', .int .i64 (i:Int)] W fun e w'=>e = .returned (.tuple #[.agg #[.int .i64 x.k, .int .i64 x.f, .int .i64 x.a, .int .i64 x.t, .int .i64 x.e], .int .i64 0])∧Below W.heap.size W w' :=
   fun s' i hs' hi x hx W hb=>ab2 hok hn1 hr1 hk1 (hN4.below hb Nat.le.refl) (hR4.below hb Nat.le.refl) (hK4.below hb Nat.le.refl) s' i hs' hi x hx
  unfold Lx.lV at hall;rw[←hT] at hall htl hrl;obtain⟨nl,hnl⟩:∃ nl,nl=next.length:=⟨_,rfl⟩
  obtain⟨rl,hrl2⟩:∃ rl,rl=rule.length:=⟨_,rfl⟩;obtain⟨kl,hkl⟩:∃ kl,kl=kind.length:=⟨_,rfl⟩;rw[←hnl,←hrl2,←hkl] at hall hnx x4 ⊢;have HX4:=hid x4;have HFI:=hid hfit;have HBT:=hid hbt;have HT:=hid hT;have HTL:=hid htl;have HRL:=hid hrl;have HSL:=hid hsl;have HNX:=hid hnx;have l0:=x4.cell 0;have l1:=x4.cell 1;have l2:=x4.cell 2;have l3:=x4.cell 3;clear hb1 hb3 nS g3 g4 g5 xN hNB hbu hlg hlv x4 hN hRu hK hN4 hR4 hK4 hok hn1 hr1 hk1 hfit hbt hT htl hrl hsl hnl hrl2 hkl hone hnx;go_upto_region 9 with (go_at_call 16;((with_reducible refine hall.mono ?_);rintro e W5 ⟨⟨v,rfl,hv⟩,hb5⟩))
  have Xd:1≤T.length:=HTL.out.pos;obtain⟨g,c5,rfl⟩:=ou hv (by omega);have hg5:=(World.ownsRow.lt hv g rfl).2;have hcl:∀(i:Nat)(x:Lx.Tk),T[i]?=some x→W5.cell? ⟨g,i*5,none⟩=some (.int .i64 x.k)∧W5.cell? ⟨g,i*5+1,none⟩=some (.int .i64 x.f)∧W5.cell? ⟨g,i*5+2,none⟩=some (.int .i64 x.a)∧W5.cell? ⟨g,i*5+3,none⟩=some (.int .i64 x.t)∧W5.cell? ⟨g,i*5+4,none⟩=some (.int .i64 x.e):=fun i x hx=>by
   obtain⟨hi,rfl⟩:=List.getElem?_eq_some_iff.1 hx;exact Lx.lS hv hi
  have HCL:=hid hcl;obtain⟨tl,htl⟩:∃ tl,tl=T.length:=⟨_,rfl⟩;rw[←htl] at Xd ⊢;have ab3:tl≤61:=by have:=HRL.out;have:=HSL.out;omega
  have htz:¬(tl:Int)=0:=by omega
  have HTN:=hid htl;clear hv hcl htl hall;go_upto_region 11 with fail
  have hpk:=yZ which tl (by omega) (by omega);unfold yY at hpk;go_upto_region 12 with (first
   | (go_at_call 19;((with_reducible refine(hpk _).mono ?_);rintro e W6 ⟨q,hq,rfl,rfl⟩;obtain⟨x,hx⟩:∃ x,T[q]?=some x:=⟨_,List.getElem?_eq_getElem (by have:=HTN.out;omega)⟩;obtain⟨e0,e1,e2,e3,e4⟩:=HCL.out q x hx;obtain⟨hxf,hxt⟩:=Kq HFI.out HBT.out q x (by rw[←HT.out];exact hx);have HXT:=hid hxt;have HX:=hid hx;have hq0:(0:Int)≤(q:Int):=(by omega);have hq1:(q:Int)<(tl:Int):=(by omega);have xX:=Bx.new W6 42 #[.int .i64 0, .int .i64 0, .int .i64 0, .int .i64 0, .int .i64 0];clear hxt hx))
   | ((with_reducible refine bZ ?_);refine AX.au (vs:=[.int .i64 x.k, .int .i64 x.f, .int .i64 x.a, .int .i64 x.t, .int .i64 x.e]) rfl rfl Lx.jK xX rfl rfl ?_;rintro W7 g3 g4 g5))
  have x7:Bx W7 W6.heap.size 42 #[.int .i64 x.k, .int .i64 x.f, .int .i64 x.a, .int .i64 x.t, .int .i64 x.e]:=g3;have DW:Below W6.heap.size W6 W7:=((Below.refl W6.heap.size W6).alloc Nat.le.refl _).trans (AX.aj Nat.le.refl (.inl x7.lt) g4 g5);obtain⟨XB,hXB⟩:∃ XB,XB=W6.heap.size:=⟨_,rfl⟩;have adV:W6.heap.size≤XB:=Nat.le_of_eq hXB.symm;rw[←hXB] at x7 ⊢;have FW:Below W4.heap.size W4 W7:=hb5.trans (DW.mono hb5.size);rw[HSL.out] at hxf;have hbd:=Lx.kE HFI.out HBT.out (i:=x.f) (by rw[HSL.out];exact hxf);rw[HXT.out,HSL.out] at hbd;obtain⟨_,hk1,hk2,ha1,ht1,ht2,he2,_⟩:=hbd;have hxe:=(kQ HFI.out HBT.out (i:=x.f) (by rw[HSL.out];exact hxf));rw[HXT.out] at hxe;replace hxe:x.f≤x.e:=by obtain⟨_,_,_,_,_,h6,_,_,_⟩:=hxe;omega
  have hny:=HNX.out (ah++s) (ah.size+x.f) (by rw[ByteArray.size_append];omega) (by rw[ByteArray.size_append];omega) _ (Xe HFI.out ah s x hxf HXT.out);simp only[Int.natCast_add] at hny;obtain⟨xk,xf,xa,xt,xe⟩:=x;simp only at x7 hxf hk1 hk2 ha1 ht1 ht2 he2 hny hxe;have hadd:∀ W:World,(Op.stringOp .add ah s).run Tryz.prog W = .ok (.string (ah++s)) W:=fun W=>run_string_add_sum (P:=Tryz.prog) (w:=W) ah s (by omega);have HX7:=hid x7;have l0:=(FW.cell (p:=⟨NB,0,none⟩) HX4.out.lt).trans l0;have l1:=(FW.cell (p:=⟨NB,1,none⟩) HX4.out.lt).trans l1;have l2:=(FW.cell (p:=⟨NB,2,none⟩) HX4.out.lt).trans l2;have l3:=(FW.cell (p:=⟨NB,3,none⟩) HX4.out.lt).trans l3;have c1:W7.cell? ⟨XB,1,none⟩=some (.int .i64 xf):=x7.cell 1;clear hXB g3 g4 g5 xX x7 e0 e1 e2 e3 e4 hpk DW;go_upto_region 13 with (first
   | (go_at_call 20;((with_reducible refine(hny _ FW).mono ?_);rintro e W8 ⟨rfl,hb8⟩;have xY:=Bx.new W8 42 #[.int .i64 0, .int .i64 0, .int .i64 0, .int .i64 0, .int .i64 0]))
   | ((with_reducible refine bZ ?_);refine AX.au (vs:=[.int .i64 xk, .int .i64 ((ah.size:Int)+(xf:Int)), .int .i64 ((ah.size:Int)+(xa:Int)), .int .i64 ((ah.size:Int)+(xt:Int)), .int .i64 ((ah.size:Int)+(xe:Int))]) rfl rfl Lx.jK xY rfl rfl ?_;rintro W9 g3 g4 g5))
  have x9:Bx W9 W8.heap.size 42 #[.int .i64 xk, .int .i64 ((ah.size:Int)+(xf:Int)), .int .i64 ((ah.size:Int)+(xa:Int)), .int .i64 ((ah.size:Int)+(xt:Int)), .int .i64 ((ah.size:Int)+(xe:Int))]:=g3;have IX:Below W8.heap.size W8 W9:=((Below.refl W8.heap.size W8).alloc Nat.le.refl _).trans (AX.aj Nat.le.refl (.inl x9.lt) g4 g5);obtain⟨YB,hYB⟩:∃ YB,YB=W8.heap.size:=⟨_,rfl⟩;have Xf:W8.heap.size≤YB:=Nat.le_of_eq hYB.symm;rw[←hYB] at x9 ⊢;have ab4:Below W7.heap.size W7 W9:=hb8.trans (IX.mono hb8.size);have hXY:XB<YB:=Nat.lt_of_lt_of_le HX7.out.lt (Nat.le_trans hb8.size Xf);have hNY:NB<YB:=Nat.lt_of_lt_of_le HX4.out.lt (Nat.le_trans FW.size (Nat.le_trans hb8.size Xf));have ab5:W7.heap.size≤YB:=Nat.le_trans hb8.size Xf;have HX9:=hid x9;have y1:=x9.cell 1;have y2:=x9.cell 2;have y3:=x9.cell 3;have y4:=x9.cell 4;have z1:=x9.frozen 1;have z2:=x9.frozen 2;have z3:=x9.frozen 3;have z4:=x9.frozen 4;have ws1:IntKind.i64.wrap ((ah.size:Int)+(xf:Int)-(ah.size:Int))=(xf:Int):=by rw[IntKind.wrap_i64];omega
  have ws2:IntKind.i64.wrap ((ah.size:Int)+(xa:Int)-(ah.size:Int))=(xa:Int):=by rw[IntKind.wrap_i64];omega
  have ws3:IntKind.i64.wrap ((ah.size:Int)+(xt:Int)-(ah.size:Int))=(xt:Int):=by rw[IntKind.wrap_i64];omega
  have ws4:IntKind.i64.wrap ((ah.size:Int)+(xe:Int)-(ah.size:Int))=(xe:Int):=by rw[IntKind.wrap_i64];omega
  clear g3 g4 g5 xY x9 hYB hb8 IX l0 l1 l2 l3 c1 hny hadd;go_upto_region 15 with fail
  clear y1 y2 y3 y4;have x10:Bx ((((W9.setCell ⟨YB,1,none⟩ (.int .i64 (xf:Int))).setCell ⟨YB,2,none⟩ (.int .i64 (xa:Int))).setCell ⟨YB,3,none⟩ (.int .i64 (xt:Int))).setCell ⟨YB,4,none⟩ (.int .i64 (xe:Int))) YB 42 #[.int .i64 xk, .int .i64 xf, .int .i64 xa, .int .i64 xt, .int .i64 xe]:=Bx.set (Bx.set (Bx.set (Bx.set HX9.out 1 _) 2 _) 3 _) 4 _;have Pn:Below YB W9 ((((W9.setCell ⟨YB,1,none⟩ (.int .i64 (xf:Int))).setCell ⟨YB,2,none⟩ (.int .i64 (xa:Int))).setCell ⟨YB,3,none⟩ (.int .i64 (xt:Int))).setCell ⟨YB,4,none⟩ (.int .i64 (xe:Int))):=((((Below.refl YB W9).setCell Nat.le.refl _).setCell Nat.le.refl _).setCell Nat.le.refl _).setCell Nat.le.refl _;generalize ((((W9.setCell ⟨YB,1,none⟩ (.int .i64 (xf:Int))).setCell ⟨YB,2,none⟩ (.int .i64 (xa:Int))).setCell ⟨YB,3,none⟩ (.int .i64 (xt:Int))).setCell ⟨YB,4,none⟩ (.int .i64 (xe:Int)))=W10 at x10 Pn ⊢;have Vo:Below W7.heap.size W7 W10:=ab4.trans (Pn.mono ab5);have xx:=HX7.out.below Vo HX7.out.lt;have oH:Below W4.heap.size W4 W10:=FW.trans (Vo.mono FW.size);have y0:=x10.cell 0;have y1:=x10.cell 1;have y2:=x10.cell 2;have y3:=x10.cell 3;have y4:=x10.cell 4;have c0:=xx.cell 0;have c1:=xx.cell 1;have c2:=xx.cell 2;have c3:=xx.cell 3;have c4:=xx.cell 4;have HXX:=hid xx;clear ws1 ws2 ws3 ws4 z1 z2 z3 z4 x10 Pn xx;go_upto_region 17 with fail
  have hxe0:(0:Int)≤(xe:Int):=by omega
  by_cases he:xe≤s.size
  ·have he1:¬(s.size:Int)<(xe:Int):=by omega
   have he3:(xe:Int)≤(s.size:Int):=(by omega);have hnz:=HNX.out (s.extract 0 xe++bh) xf (by rw[ByteArray.size_append,ByteArray.size_extract];omega) (by rw[ByteArray.size_append,ByteArray.size_extract];omega) _ (Xg HFI.out s bh ⟨xk,xf,xa,xt,xe⟩ hxf he HXT.out);simp only at hnz;have hadd:∀ W:World,(Op.stringOp .add (s.extract 0 xe) bh).run Tryz.prog W = .ok (.string (s.extract 0 xe++bh)) W:=fun W=>run_string_add_sum (P:=Tryz.prog) (w:=W) _ bh (by rw[ByteArray.size_extract];omega);go_upto_region 19 with fail
   haveI:Inhabited (AX.BW W10):=⟨⟨W10,Below.refl _ _⟩⟩;have TF:NB<W10.heap.size:=Nat.lt_of_lt_of_le HX4.out.lt oH.size;have Zw:=HXX.out.lt;have hx4:=HX4.out.below oH HX4.out.lt;have m0:=AX.aF (hx4.cell 0:W10.cell? ⟨NB,0,none⟩=some (.slice an nl cn)) TF;have m1:=AX.aF (hx4.cell 1:W10.cell? ⟨NB,1,none⟩=some (.slice ar rl cr)) TF;have m2:=AX.aF (hx4.cell 2:W10.cell? ⟨NB,2,none⟩=some (.slice ak kl ck)) TF;have m3:=AX.aF (hx4.cell 3:W10.cell? ⟨NB,3,none⟩=some (.int .i64 kinds)) TF;have d1:=AX.aF (HXX.out.cell 1:W10.cell? ⟨XB,1,none⟩=some (.int .i64 xf)) Zw;have d4:=AX.aF (HXX.out.cell 4:W10.cell? ⟨XB,4,none⟩=some (.int .i64 xe)) Zw;have hW:Below W10.heap.size W10 W10.drew:=(Below.refl _ W10).drew;clear y0 y1 y2 y3 y4 c0 c1 c2 c3 c4 hx4;refine AX.gG (C:=fun W=>∃ p:AX.BW W10,W=p.W) FX _ (by kernel_rfl) (by kernel_rfl) rfl (by kernel_rfl) (by intro c a d v w h;cases d<;>exact h) ⟨⟨W10.drew,hW⟩,rfl⟩ ?_;unfold FX;generalize W10.drew=Wd at *
   repeat (refine AX.aA _ (by rfl) ?_;go_big_quiet_step (fail);refine wpQuiet_nil ?_)
   refine⟨?_,?_⟩
   ·refine AX.bU (hnz _ (oH.trans (hW.mono oH.size))) (by rfl) (by rfl) (by rfl) Tryz.func20 (by kernel_rfl) (by rfl) (by simp only[List.map_toArray,List.map_cons,List.map_nil];rfl) ?_
    rintro e W11 ⟨rfl,IY⟩;have DZ:Below W10.heap.size W10 W11:=hW.trans (IY.mono hW.size);refine⟨_,rfl,⟨⟨W11,DZ⟩,rfl⟩,?_⟩;simp only[Act.put,List.setIfInBounds_toArray,List.set_cons_succ,List.set_cons_zero]
    repeat (refine AX.aA _ (by rfl) ?_;go_big_quiet_step (fail);refine wpQuiet_nil ?_)
    refine AX.ay _ (by rfl) (by rfl) ?_;unfold Oper.wp;go_simp
    have xZ:=Bx.new W11 42 #[.int .i64 0, .int .i64 0, .int .i64 0, .int .i64 0, .int .i64 0];have sN:Below W11.heap.size W11 (W11.alloc (.cells #[.int .i64 0, .int .i64 0, .int .i64 0, .int .i64 0, .int .i64 0] 42)):=(Below.refl _ _).alloc Nat.le.refl _;have pX:=DZ.trans (sN.mono DZ.size);have sZ:=DZ.size;obtain⟨ZB,hZB⟩:∃ ZB,ZB=W11.heap.size:=⟨_,rfl⟩;generalize W11.alloc (.cells #[.int .i64 0, .int .i64 0, .int .i64 0, .int .i64 0, .int .i64 0] 42)=W12 at *;rw[←hZB] at xZ sZ ⊢;clear hZB;refine⟨⟨⟨W12,pX⟩,rfl⟩,?_⟩;refine AX.ay _ (by rfl) (by rfl) ?_;refine AX.aG (vs:=[.int .i64 xk, .int .i64 xf, .int .i64 xa, .int .i64 xt, .int .i64 xe]) rfl rfl Lx.jK xZ rfl rfl ?_;rintro W13 h3 h4 h5;have x13:Bx W13 ZB 42 #[.int .i64 xk, .int .i64 xf, .int .i64 xa, .int .i64 xt, .int .i64 xe]:=h3;have IZ:Below W10.heap.size W10 W13:=pX.trans (AX.aj sZ (.inl x13.lt) h4 h5);refine⟨⟨⟨W13,IZ⟩,rfl⟩,?_⟩
    repeat (refine AX.aA _ (by rfl) ?_;go_big_quiet_step (fail);refine wpQuiet_nil ?_)
    have z0:=x13.cell 0;have z1:=x13.cell 1;have z2:=x13.cell 2;have z3:=x13.cell 3;have z4:=x13.cell 4;have xx:=HXX.out.below IZ HXX.out.lt;have c0:=xx.cell 0;have c1:=xx.cell 1;have c2:=xx.cell 2;have c3:=xx.cell 3;have c4:=xx.cell 4;have Xh:Hid (Below w.heap.size w W13):=hid (HB4.out.trans ((oH.trans (IZ.mono oH.size)).mono HB4.out.size));clear m0 m1 m2 m3 d1 d4 h3 h4 h5 x13 xx;unfold AX.aV;go_wp2_with fail
    exact bodyPost_ret (v := .bool true) (by simp[results,Tryz.results5,go_sem]) rfl ⟨rfl,Xh.out⟩
   ·refine AX.ay _ (by rfl) (by rfl) ?_
    unfold Oper.wp;go_simp
    have xZ:=Bx.new Wd 42 #[.int .i64 0, .int .i64 0, .int .i64 0, .int .i64 0, .int .i64 0];have sN:Below Wd.heap.size Wd (Wd.alloc (.cells #[.int .i64 0, .int .i64 0, .int .i64 0, .int .i64 0, .int .i64 0] 42)):=(Below.refl _ _).alloc Nat.le.refl _;have DZ:=hW.trans (sN.mono hW.size);have sZ:=hW.size;obtain⟨ZB,hZB⟩:∃ ZB,ZB=Wd.heap.size:=⟨_,rfl⟩;generalize Wd.alloc (.cells #[.int .i64 0, .int .i64 0, .int .i64 0, .int .i64 0, .int .i64 0] 42)=W11 at *;rw[←hZB] at xZ sZ ⊢;clear hZB;refine⟨⟨⟨W11,DZ⟩,rfl⟩,?_⟩;refine AX.bU (hnz _ (oH.trans (DZ.mono oH.size))) (by rfl) (by rfl) (by rfl) Tryz.func20 (by kernel_rfl) (by rfl) (by simp only[List.map_toArray,List.map_cons,List.map_nil];rfl) ?_;rintro e W12 ⟨rfl,sN⟩;have pX:Below W10.heap.size W10 W12:=DZ.trans (sN.mono DZ.size);replace xZ:=xZ.below sN xZ.lt;refine⟨_,rfl,⟨⟨W12,pX⟩,rfl⟩,?_⟩;simp only[Act.put,List.setIfInBounds_toArray,List.set_cons_succ,List.set_cons_zero]
    repeat (refine AX.aA _ (by rfl) ?_;go_big_quiet_step (fail);refine wpQuiet_nil ?_)
    refine AX.ay _ (by rfl) (by rfl) ?_;refine AX.aG (vs:=[.int .i64 xk, .int .i64 xf, .int .i64 xa, .int .i64 xt, .int .i64 xe]) rfl rfl Lx.jK xZ rfl rfl ?_;rintro W13 h3 h4 h5;have x13:Bx W13 ZB 42 #[.int .i64 xk, .int .i64 xf, .int .i64 xa, .int .i64 xt, .int .i64 xe]:=h3;have IZ:Below W10.heap.size W10 W13:=pX.trans (AX.aj sZ (.inl x13.lt) h4 h5);refine⟨⟨⟨W13,IZ⟩,rfl⟩,?_⟩
    repeat (refine AX.aA _ (by rfl) ?_;go_big_quiet_step (fail);refine wpQuiet_nil ?_)
    have z0:=x13.cell 0;have z1:=x13.cell 1;have z2:=x13.cell 2;have z3:=x13.cell 3;have z4:=x13.cell 4;have xx:=HXX.out.below IZ HXX.out.lt;have c0:=xx.cell 0;have c1:=xx.cell 1;have c2:=xx.cell 2;have c3:=xx.cell 3;have c4:=xx.cell 4;have Xh:Hid (Below w.heap.size w W13):=hid (HB4.out.trans ((oH.trans (IZ.mono oH.size)).mono HB4.out.size));clear m0 m1 m2 m3 d1 d4 h3 h4 h5 x13 xx;unfold AX.aV;go_wp2_with fail
    exact bodyPost_ret (v := .bool true) (by simp[results,Tryz.results5,go_sem]) rfl ⟨rfl,Xh.out⟩
  ·have he1:(s.size:Int)<(xe:Int):=by omega
   have he2:(0:Int)<(xe:Int):=(by omega);have ab6:Hid (Below w.heap.size w W10):=hid (HB4.out.trans (oH.mono HB4.out.size));clear y0 y1 y2 y3 y4 c0 c1 c2 c3;go_wp2_with fail
   exact bodyPost_ret (v := .bool true) (by simp[results,Tryz.results5,go_sem];omega) rfl ⟨rfl,ab6.out⟩
end Go.Proofs.YtkjgogdkdejljaaGreatDoor.Df
