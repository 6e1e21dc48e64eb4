import Derived.Test.YtkjgogdkdejljaaGreatDoorDfE2c
set_option maxRecDepth 100000
set_option maxHeartbeats 40000000
namespace Go.Proofs.YtkjgogdkdejljaaGreatDoor.Df
open Go.Lib (hid)
open Go Go.Proofs Go.RowKit
attribute [local go_sem] Oper.semAt_some
theorem J3(next:List Int):∀(f:Nat)(n:Int)(p:List Int),(ptL next f n p).length=p.length
 | 0,_,_=>rfl
 | f+1,n,p=>by
  have hI:=(ptI next p p.length Nat.le.refl).len;unfold ptL;split
  ·exact hI
  ·rw[J3 next f];exact hI
theorem DK(next rule:List Int):(qK next rule).length=rule.length:=by
 unfold qK;rw[J3];simp[sH]
def FH:AX.Plan := .plain 2 (.plain 3 (.plain 4 (.two 0 (.plain 7 (.one 1 (.one 5 (.plain 6 (.plain 8 (.nil)))))) 1 (.two 0 (.plain 7 (.one 5 (.plain 6 (.plain 8 (.nil))))) 5 (.plain 6 (.one 0 (.plain 7 (.plain 8 (.nil)))))))))
def BL:List (Nat×Nat):=[(0,0),(1,0),(2,0),(3,0),(4,0),(5,0),(6,0),(7,2),(8,2),(9,0),(10,2)]
theorem oG{a:Act}{w W':World}{K:Act→World→Prop}{Q:Exit→Act→World→Prop}{m kx v:Operand}{ty:TypeId}{pos:String}{after:Array Edge}{r:Nat}{k n:Int}(hm:a.eval m = .map (some r))(hk:a.eval kx = .int .i64 k)(hv:a.eval v = .int .i64 n)
  (hr:(Instr.mapUpdate 100 (.map (some r)) (.int .i64 k) (.int .i64 n)).run Tryz.prog w = .ok () W') (h:K a W'):Oper.wp Tryz.prog { dst:=none,op := .insert 100 m kx v,type:=ty,pos:=pos,after:=after,guard:=none } a w K Q:=by
 have hx:(execOp a.eval { dst:=none,op := .insert 100 m kx v,type:=ty,pos:=pos,after:=after,guard:=none }).run Tryz.prog w = .ok .skip W':=by
  simp only[execOp,hm,hk,hv,Sem.run_bind,hr];rfl
 unfold Oper.wp;rw[hx];exact h
def OM(next rule:List Int)(w:World)(e:Ending)(w':World):Prop:=∃ an ar cn cr,e = .returned (.tuple #[.agg #[.slice an (bK next rule).1.length cn, .slice ar (bK next rule).2.length cr], .int .i64 0])∧(bK next rule).1.length≤cn∧aK w' an (bK next rule).1∧aK w' ar (bK next rule).2∧Below w.heap.size w w'
theorem LQ(next rule:List Int)(hok:okT next rule=true)(an ar:Option Addr)(cn cr:Nat)(hcn:next.length≤cn)(w:World)(hN:aK w an next)(hR:aK w ar rule) :
  Calls Tryz.prog 32 #[.agg #[.slice an next.length cn, .slice ar rule.length cr]] w (OM next rule w):=by
 have hok2:=hok;simp only[okT,Bool.and_eq_true,decide_eq_true_eq] at hok2;obtain⟨g1,g2,g3,g4,g5⟩:=hok2;obtain⟨n,hn⟩:∃ n,n=rule.length:=⟨_,rfl⟩;obtain⟨BX,hBX⟩:∃ BX,BX=w.heap.size:=⟨_,rfl⟩;obtain⟨W0,hW0⟩:∃ W0,W0=(w.alloc (.cells #[.slice an next.length cn, .slice ar rule.length cr] 27)).alloc (.cells #[.slice none 0 0, .slice none 0 0] 27):=⟨_,rfl⟩;have hb0:Below w.heap.size w W0:=by rw[hW0];exact ((Below.refl w.heap.size w).alloc Nat.le.refl _).alloc (by simp) _
 have xb:Bx W0 BX 27 #[.slice an next.length cn, .slice ar rule.length cr]:=by rw[hW0,hBX];exact (Bx.new w 27 _).alloc _
 have xr:Bx W0 (BX+1) 27 #[.slice none 0 0, .slice none 0 0]:=by
  rw[hW0,show BX+1=(w.alloc (.cells #[.slice an next.length cn, .slice ar rule.length cr] 27)).heap.size by rw[hBX];simp];exact Bx.new _ 27 _
 have hN0:=hN.below hb0 Nat.le.refl;have hR0:=hR.below hb0 Nat.le.refl;have hch:=jH next rule (by omega) (by omega) an ar cn cr W0 hN0 hR0
 rw[show eU next rule=0 from if_pos hok] at hch;rw[←hn] at xb hch hW0 ⊢;have y0:W0.cell? ⟨BX,0,none⟩=some (.slice an next.length cn):=xb.cell 0;have y1:W0.cell? ⟨BX,1,none⟩=some (.slice ar n cr):=xb.cell 1;obtain⟨nl,hnl⟩:∃ nl,nl=next.length:=⟨_,rfl⟩
 rw[←hnl] at xb hch y0 hW0 ⊢;have hpt:=fun(W:World)(hb:Below W0.heap.size W0 W)=>LM next rule hok an ar cn cr hcn W (hN0.below hb Nat.le.refl) (hR0.below hb Nat.le.refl)
 rw[←hn,←hnl] at hpt;unfold IK at hpt;obtain⟨P,hP⟩:∃ P,P=qK next rule:=⟨_,rfl⟩
 rw[←hP] at hpt;have HOK:=hid hok;have HN:=hid hn;have HNL:=hid hnl;have HP:=hid hP;have HN0:=hid hN0;have HR0:=hid hR0;have HB0:=hid hb0;have HXB:=hid xb;have HXR:=hid xr;have HBX:=hid hBX;have hn1:n≤512:=by omega
 have hn0:1≤n:=by omega
 have HN2:=hid (show nl=256*n by omega);have HG4:=hid g4;have HG5:=hid g5;have HCN:=hid (show nl≤cn by omega);clear hok g1 g2 g3 g4 g5 hN hR hn hnl hN0 hR0 hb0 xb xr hcn hP;go_enter Tryz.func32,Tryz.ntmps32
 go_upto_region 1 with fail
 rw[←hW0,←hBX];clear hW0 hBX;go_upto_region 4 with (go_at_call 36;((with_reducible refine hch.mono ?_);rintro e W1 ⟨rfl,hb1⟩;have y0:=(hb1.cell (p:=⟨BX,0,none⟩) HXB.out.lt).trans y0;have y1:=(hb1.cell (p:=⟨BX,1,none⟩) HXB.out.lt).trans y1))
 have Zb:=hpt W1 hb1;go_upto_region 5 with (go_at_call 68;((with_reducible refine Zb.mono ?_);rintro e W2 ⟨PB,pc,hep,hpb,Zc,hb2⟩;rw[←HN.out] at hep;subst hep))
 have hbd:=(Below.refl W2.heap.size W2).drew;obtain⟨p0,hp0⟩:∃ p0,p0=P.getD 0 0:=⟨_,rfl⟩;have hPl:P.length=n:=by rw[HP.out,DK];exact HN.out.symm
 have hpc:∀ p:AX.BW W2,p.W.cell? ⟨PB,0,none⟩=some (.int .i64 p0):=fun p=>(p.h.cell (p:=⟨PB,0,none⟩) hpb.lt).trans (by rw[hp0];exact jI hpb 0 (by omega));have HPB:=hid hpb;have HP0:=hid hp0;have HB1:=hid hb1;have HB2:=hid hb2;have adO:=hid Zc;clear hpt Zb hch hpb hp0 hb1 hb2 Zc;haveI:Inhabited (AX.BW W2):=⟨⟨W2,Below.refl _ _⟩⟩;have hmm:=fun W=>run_makeMap (P:=Tryz.prog) (w:=W) 100;go_cut [6,7] from 23 to 28 (fun t6 t7 wz=>∃ SB M,t6 = .slice (some ⟨SB,0,none⟩) 1 1∧t7 = .map (some M)∧Bx wz SB 3 (ci [0])∧wz.heap[M]?=some (.map (dY 0 [p0]).toArray 1)∧SB≠M∧W2.heap.size≤SB∧W2.heap.size≤M∧Below W2.heap.size W2 wz)
 case first =>
  refine AX.gG (C:=fun W=>∃ p:AX.BW W2,W=p.W) FH _ (by kernel_rfl) (by kernel_rfl) rfl (by kernel_rfl) (by intro c a d v w h;cases d<;>exact h) ⟨⟨W2.drew,hbd⟩,rfl⟩ ?_;unfold FH
  repeat (refine AX.aA _ (by rfl) ?_;go_big_quiet_step (fail);refine wpQuiet_nil ?_)
  generalize W2.drew=Wd at *;have WJ:([]:List Int).Nodup:=List.nodup_nil;refine⟨?_,?_⟩
  ·refine AX.ay _ (by rfl) (by rfl) ?_
   unfold Oper.wp;go_simp
   have hx1:Bx (Wd.alloc (.cells #[.int .i64 0] 3)) Wd.heap.size 3 (ci [0]):=Bx.new Wd 3 _;have hW3:Below W2.heap.size W2 (Wd.alloc (.cells #[.int .i64 0] 3)):=hbd.trans (((Below.refl Wd.heap.size Wd).alloc Nat.le.refl _).mono hbd.size);obtain⟨SB,hSB⟩:∃ SB,SB=Wd.heap.size:=⟨_,rfl⟩;obtain⟨W3,FI⟩:∃ W3,W3=Wd.alloc (.cells #[.int .i64 0] 3):=⟨_,rfl⟩;have hs1:W2.heap.size≤SB:=(by rw[hSB];exact hbd.size);rw[←FI] at hx1 hW3 ⊢;rw[←hSB] at hx1 ⊢;clear FI hSB;refine⟨⟨⟨W3,hW3⟩,rfl⟩,?_⟩;refine AX.aA _ (by rfl) ?_;go_big_quiet_step (fail);refine wpQuiet_nil ?_;refine AX.ay _ (by rfl) (by rfl) ?_;unfold Oper.wp;go_simp
   have hb4:=(Below.refl W3.heap.size W3).alloc Nat.le.refl (.map #[] 0);have hx4:=hx1.below hb4 hx1.lt;have hm4:(W3.alloc (.map #[] 0)).heap[W3.heap.size]?=some (.map (dY 0 []).toArray ([]:List Int).length):=World.alloc_heap_new W3 _;have hW4:=hW3.trans (hb4.mono hW3.size);have hs2:SB<W3.heap.size:=hx1.lt;have hs3:=hW3.size;obtain⟨M,hM⟩:∃ M,M=W3.heap.size:=⟨_,rfl⟩;obtain⟨W4,OO⟩:∃ W4,W4=W3.alloc (.map #[] 0):=⟨_,rfl⟩;rw[←OO] at hx4 hm4 hW4 ⊢;rw[←hM] at hm4 hs2 hs3 ⊢;clear OO hM hb4 hx1 hW3;refine⟨⟨⟨W4,hW4⟩,rfl⟩,?_⟩;refine AX.ay _ (by rfl) (by rfl) ?_;obtain⟨W5,hr5,hm5,hb5⟩:=SY (k:=p0) hm4 WJ (by simp);refine oG rfl rfl rfl hr5 ?_;have hW5:Below W2.heap.size W2 W5:=hW4.trans ⟨hb5.low.os,hb5.low.tape,hb5.low.output,hb5.low.size,fun j hj=>hb5.same j (by have:=hW4.size;omega) (by omega)⟩;have hx5:Bx W5 SB 3 (ci [0]):=(hb5.same SB hx4.lt (by omega)).trans hx4;refine⟨⟨⟨W5,hW5⟩,rfl⟩,?_⟩;clear hr5 hm4 hx4 hW4 hb5
   repeat (refine AX.aA _ (by rfl) ?_;go_big_quiet_step (fail);refine wpQuiet_nil ?_)
   unfold AX.aV;go_wp2_with fail
   go_meet
   case rel=>exact⟨SB,M,rfl,rfl,hx5,hm5,by omega,hs1,by omega,hW5⟩
  ·refine AX.ay _ (by rfl) (by rfl) ?_
   unfold Oper.wp;go_simp
   have hb4:=(Below.refl Wd.heap.size Wd).alloc Nat.le.refl (.map #[] 0);have hm4:(Wd.alloc (.map #[] 0)).heap[Wd.heap.size]?=some (.map (dY 0 []).toArray ([]:List Int).length):=World.alloc_heap_new Wd _;have hW4:=hbd.trans (hb4.mono hbd.size);have hs3:=hbd.size;obtain⟨M,hM⟩:∃ M,M=Wd.heap.size:=⟨_,rfl⟩;obtain⟨W4,OO⟩:∃ W4,W4=Wd.alloc (.map #[] 0):=⟨_,rfl⟩;rw[←OO] at hm4 hW4 ⊢;rw[←hM] at hm4 hs3 ⊢;clear OO hM hb4;refine⟨⟨⟨W4,hW4⟩,rfl⟩,?_⟩;refine⟨?_,?_⟩
   ·refine AX.ay _ (by rfl) (by rfl) ?_
    unfold Oper.wp;go_simp
    have FK:M<W4.heap.size:=(Array.getElem?_eq_some_iff.1 hm4).1;have hx1:Bx (W4.alloc (.cells #[.int .i64 0] 3)) W4.heap.size 3 (ci [0]):=Bx.new W4 3 _;have hb3:=(Below.refl W4.heap.size W4).alloc Nat.le.refl (.cells #[.int .i64 0] 3);have hm3:=(hb3.block M FK).trans hm4;have hW3:=hW4.trans (hb3.mono hW4.size);obtain⟨SB,hSB⟩:∃ SB,SB=W4.heap.size:=⟨_,rfl⟩;obtain⟨W3,FI⟩:∃ W3,W3=W4.alloc (.cells #[.int .i64 0] 3):=⟨_,rfl⟩;rw[←FI] at hx1 hW3 hm3 ⊢;rw[←hSB] at hx1 FK ⊢;clear FI hSB hb3 hm4 hW4;refine⟨⟨⟨W3,hW3⟩,rfl⟩,?_⟩;refine AX.aA _ (by rfl) ?_;go_big_quiet_step (fail);refine wpQuiet_nil ?_;refine AX.ay _ (by rfl) (by rfl) ?_;obtain⟨W5,hr5,hm5,hb5⟩:=SY (k:=p0) hm3 WJ (by simp);refine oG rfl rfl rfl hr5 ?_;have hW5:Below W2.heap.size W2 W5:=hW3.trans ⟨hb5.low.os,hb5.low.tape,hb5.low.output,hb5.low.size,fun j hj=>hb5.same j (by have:=hW3.size;omega) (by omega)⟩;have hx5:Bx W5 SB 3 (ci [0]):=(hb5.same SB hx1.lt (by omega)).trans hx1;refine⟨⟨⟨W5,hW5⟩,rfl⟩,?_⟩;clear hr5 hm3 hx1 hW3 hb5
    repeat (refine AX.aA _ (by rfl) ?_;go_big_quiet_step (fail);refine wpQuiet_nil ?_)
    unfold AX.aV;go_wp2_with fail
    go_meet
    case rel=>exact⟨SB,M,rfl,rfl,hx5,hm5,by omega,by omega,hs3,hW5⟩
   ·refine AX.ay _ (by rfl) (by rfl) ?_
    obtain⟨W5,hr5,hm5,hb5⟩:=SY (k:=p0) hm4 WJ (by simp);refine oG rfl rfl rfl hr5 ?_;have hW5:Below W2.heap.size W2 W5:=hW4.trans ⟨hb5.low.os,hb5.low.tape,hb5.low.output,hb5.low.size,fun j hj=>hb5.same j (by have:=hW4.size;omega) (by omega)⟩;refine⟨⟨⟨W5,hW5⟩,rfl⟩,?_⟩;clear hr5 hm4 hW4 hb5;refine AX.aA _ (by rfl) ?_;go_big_quiet_step (fail);refine wpQuiet_nil ?_;refine AX.ay _ (by rfl) (by rfl) ?_;unfold Oper.wp;go_simp
    have FK:M<W5.heap.size:=(Array.getElem?_eq_some_iff.1 hm5).1;have hx1:Bx (W5.alloc (.cells #[.int .i64 0] 3)) W5.heap.size 3 (ci [0]):=Bx.new W5 3 _;have hb3:=(Below.refl W5.heap.size W5).alloc Nat.le.refl (.cells #[.int .i64 0] 3);have hm3:=(hb3.block M FK).trans hm5;have hW3:=hW5.trans (hb3.mono hW5.size);obtain⟨SB,hSB⟩:∃ SB,SB=W5.heap.size:=⟨_,rfl⟩;obtain⟨W3,FI⟩:∃ W3,W3=W5.alloc (.cells #[.int .i64 0] 3):=⟨_,rfl⟩;rw[←FI] at hx1 hW3 hm3 ⊢;rw[←hSB] at hx1 FK ⊢;clear FI hSB hb3 hm5 hW5;refine⟨⟨⟨W3,hW3⟩,rfl⟩,?_⟩
    repeat (refine AX.aA _ (by rfl) ?_;go_big_quiet_step (fail);refine wpQuiet_nil ?_)
    unfold AX.aV;go_wp2_with fail
    go_meet
    case rel=>exact⟨SB,M,rfl,rfl,hx1,hm3,by omega,by omega,hs3,hW3⟩
 case rest =>
  obtain⟨SB,M,rfl,rfl,hxs,hmp,hne,hsb,hmb,hlo⟩:=hcut;have hb6:=(Below.refl wc.heap.size wc).alloc Nat.le.refl (.cells #[.slice none 0 0, .slice none 0 0] 27);have hox:=Bx.new wc 27 #[.slice none 0 0, .slice none 0 0];have hnil:∀ W,bJ W W2.heap.size (.slice none 0 0) []:=fun W=>⟨rfl, .inl ⟨rfl,rfl⟩⟩;have hlw:Lw W2 wc.heap.size M ([0].map (jo P)) (.slice (some ⟨SB,0,none⟩) 1 1) (.slice none 0 0) (.slice none 0 0) [0] [] [] (wc.alloc (.cells #[.slice none 0 0, .slice none 0 0] 27)):=by
   refine⟨hox,?_,⟨OL (hxs.below hb6 hxs.lt) hsb,hnil _,hnil _,fun g _ h=>(by cases h),fun g _ h=>(by cases h),fun g h=>(by cases h)⟩,hlo.trans (hb6.mono hlo.size),hlo.size,hmb⟩;rw[hb6.block M (Array.getElem?_eq_some_iff.1 hmp).1,hmp,HP0.out];rfl
  have adP:=hid hlw;obtain⟨OX,hOX⟩:∃ OX,OX=wc.heap.size:=⟨_,rfl⟩;obtain⟨W6,hW6⟩:∃ W6,W6=wc.alloc (.cells #[.slice none 0 0, .slice none 0 0] 27):=⟨_,rfl⟩;rw[←hOX,←hW6] at hlw;have HLw:=hid hlw;clear hlw hb6 hox hnil hxs hmp hlo hpc hbd;go_upto_region 8 with fail
  rw[←hW6,←hOX];clear hW6 hOX;have hI0:LsI P n [0] []:=⟨by simp,by simp,fun s hs=>by rw[List.mem_singleton.1 hs];omega,by simp⟩;have hat:∃(i:Nat)(x:List Int×List Int)(ru:List Int)(sv nv rv:Value),(Value.slice (some ⟨SB,0,none⟩) 1 1)=sv∧(Value.int .i64 0) = .int .i64 i∧i≤x.1.length∧Lw W2 OX M (x.1.map (jo P)) sv nv rv x.1 x.2 ru W6∧LsI P n x.1 x.2∧x.2.length=256*i∧ru.length=i∧Hid (∃ F,n<F+i∧lsL next rule P F i x ru=bK next rule) :=
   ⟨0,([0],[]),[],_,_,_,rfl,rfl,Nat.zero_le _,HLw.out,hI0,rfl,rfl,hid ⟨n+1,by omega,by rw[HN.out,HP.out];rfl⟩⟩
  clear hI0;go_loopw [6,9] (fun v6 v9 wr=>∃(i:Nat)(x:List Int×List Int)(ru:List Int)(sv nv rv:Value),v6=sv∧v9 = .int .i64 i∧i≤x.1.length∧Lw W2 OX M (x.1.map (jo P)) sv nv rv x.1 x.2 ru wr∧LsI P n x.1 x.2∧x.2.length=256*i∧ru.length=i∧Hid (∃ F,n<F+i∧lsL next rule P F i x ru=bK next rule)) (fun _ v9 _=>n+1-(intOf v9).toNat)
  case atStart=>exact hat
  case round =>
   obtain⟨i,x,ru,sv,nv,rv,rfl,rfl,hi,hlw,hI,hxl,hrl,hF⟩:=hrel;obtain⟨sa,sc,rfl⟩:=aQ hlw.rw.s;have hlen:=hI.len;have hi0:(0:Int)≤(i:Int):=(by omega);have HLW:=hid hlw;have HI:=hid hI;clear hlw hI;obtain⟨q,hq⟩:∃ q,q=x.1.length:=⟨_,rfl⟩;rw[←hq] at hi hlen ⊢;have HQ:=hid hq;clear hq
   by_cases hlt:i<q
   ·have hi1:(i:Int)<(q:Int):=by omega
    have ady:q≤512:=(by omega);have hqx:i<x.1.length:=(by have:=HQ.out;omega);obtain⟨s,hs⟩:∃ s,s=x.1.getD i 0:=⟨_,rfl⟩;have hsr:=HI.out.in_ s (by rw[hs,List.getD_eq_getElem?_getD,List.getElem?_eq_getElem hqx,Option.getD_some];exact List.getElem_mem _);obtain⟨hs0,hs1⟩:=hsr;obtain⟨k,rfl⟩:∃ k:Nat,s=(k:Int):=⟨s.toNat,by omega⟩;have hkn:k<n:=(by omega);obtain⟨g,sc2,esv,hsc⟩:=S9 HLW.out.rw.s (by omega);rw[←HQ.out] at esv
    cases esv
    have hsi:=hsc i hqx;rw[←hs] at hsi;have pX:Below W0.heap.size W0 W2:=HB1.out.trans (HB2.out.mono HB1.out.size);have adQ:=pX.size;have hbx2:Bx W2 BX 27 #[.slice an nl cn, .slice ar n cr]:=HXB.out.below pX HXB.out.lt;have hN2:=HN0.out.below pX Nat.le.refl;have hR2:=HR0.out.below pX Nat.le.refl;have hnl:next.length=256*n:=(by have:=HN2.out;have:=HNL.out;omega)
    have hrl2:rule.length=n:=HN.out.symm;obtain⟨nb,no,rfl,hnb,hnc⟩:=hN2 (fun e=>by rw[e] at hnl;simp at hnl;omega);obtain⟨rb,ro,rfl,hrb,hrc⟩:=hR2 (fun e=>by rw[e] at hrl2;simp at hrl2;omega);have Zd:BX<W2.heap.size:=hbx2.lt;have y0:W2.cell? ⟨BX,0,none⟩=some (.slice (some ⟨nb,no,none⟩) nl cn):=hbx2.cell 0;obtain⟨ra,hra⟩:∃ ra,ra=rule.getD k 0:=⟨_,rfl⟩;have hrk:W2.cell? ⟨rb,ro+k,none⟩=some (.int .i64 ra):=by
     rw[hrc k (by omega),hra,List.getD_eq_getElem?_getD,List.getElem?_eq_getElem (by omega),Option.getD_some]
    have b1:wr.cell? ⟨OX,1,none⟩=some rv:=HLW.out.ox.cell 1;have HNC:=hid hnc;have HS:=hid hs;have HRA:=hid hra;have abO:=hid hbx2;have HNl:=hid hnl;clear hsc hs hra hbx2 hN2 hR2 hnl hrl2 hnc hrc pX;go_upto_region 11 with fail
    have hbd:=(Below.refl wr.heap.size wr).drew;obtain⟨Wd,hWd⟩:∃ Wd,Wd=wr.drew:=⟨_,rfl⟩;have hLd:=HLW.out.low hbd;rw[←hWd] at hLd;obtain⟨C,hCi,hCo⟩:∃ C:World→Prop,(∀ W,C W→Bx W OX 27 #[nv,rv]∧Bx W BX 27 #[.slice (some ⟨nb,no,none⟩) nl cn, .slice (some ⟨rb,ro,none⟩) n cr]∧W.cell? ⟨rb,ro+k,none⟩=some (.int .i64 ra))∧∀ W,Bx W OX 27 #[nv,rv]→Bx W BX 27 #[.slice (some ⟨nb,no,none⟩) nl cn, .slice (some ⟨rb,ro,none⟩) n cr]→W.cell? ⟨rb,ro+k,none⟩=some (.int .i64 ra)→C W:=⟨_,fun _ h=>h,fun _ h1 h2 h3=>⟨h1,h2,h3⟩⟩;have hCL:∀ W,Bx W OX 27 #[nv,rv]→Below W2.heap.size W2 W→C W:=fun W h1 h2=>hCo W h1 (abO.out.below h2 Zd) ((h2.cell (p:=⟨rb,ro+k,none⟩) hrb).trans hrk);have hC0:C wr.drew:=hWd ▸ hCL Wd hLd.ox hLd.lo;haveI:Inhabited (AX.CW C):=⟨⟨_,hC0⟩⟩;haveI:Inhabited (AX.CW fun _=>True):=⟨⟨w,trivial⟩⟩;have a1:∀ p:AX.CW C,p.W.cell? ⟨OX,1,none⟩=some rv:=fun p=>(hCi _ p.h).1.cell 1;have a2:∀ p:AX.CW C,p.W.cell? ⟨BX,1,none⟩=some (.slice (some ⟨rb,ro,none⟩) n cr):=fun p=>(hCi _ p.h).2.1.cell 1;have a3:∀ p:AX.CW C,p.W.cell? ⟨rb,ro+k,none⟩=some (.int .i64 ra):=fun p=>(hCi _ p.h).2.2;have hk0:(0:Int)≤(k:Int):=(by omega);have adR:(k:Int)<(n:Int):=(by omega);refine AX.dH (C:=fun W=>∃ p:AX.CW C,W=p.W) (CT:=fun W=>∃ p:AX.CW fun _=>True,W=p.W) 10 BL _ (by kernel_rfl) (by kernel_rfl) rfl (by kernel_rfl) (by decide) (by kernel_rfl) (by kernel_rfl) (by intro c a d v w h;cases d<;>exact h) ⟨⟨⟨_,trivial⟩,rfl⟩,⟨⟨_,hC0⟩,rfl⟩⟩ ?_;unfold BL;rw[←hWd];have HLd:=hid hLd;have HCL:=hid hCL;clear hWd hbd hLd hC0 hCo hCi hCL b1
    repeat (refine AX.bT _ (by rfl) ?_;go_big_quiet_step (fail);refine wpQuiet_nil ?_)
    refine AX.aW _ (by rfl) (by rfl) ?_;unfold Oper.wp;go_simp
    have hb3:=(Below.refl Wd.heap.size Wd).alloc Nat.le.refl (.cells #[.int .i64 ra] 3);have hL3:=HLd.out.low hb3;have wS:=Bx.new Wd 3 #[.int .i64 ra];obtain⟨B3,hB3⟩:∃ B3,B3=Wd.heap.size:=⟨_,rfl⟩;obtain⟨W3,hW3⟩:∃ W3,W3=Wd.alloc (.cells #[.int .i64 ra] 3):=⟨_,rfl⟩;rw[←hW3] at hL3 wS ⊢;rw[←hB3] at wS ⊢;refine⟨⟨⟨⟨W3,trivial⟩,rfl⟩,fun _=>⟨⟨W3,HCL.out _ hL3.ox hL3.lo⟩,rfl⟩⟩,?_⟩;have abP:ru.length≤1000000:=(by omega);have hlo3:=hL3.lo.size;have hown:=hL3.rw.r;have HL3:=hid hL3;clear hb3 hB3 hW3 hL3;refine AX.aW _ (by rfl) (by rfl) ?_;refine yN W2.heap.size rv ru ra _ _ rfl rfl hown B3 1 rfl wS abP hlo3 ?_;intro rv' W4 ho hg hor;have yF:Bx W4 OX 27 #[nv,rv]:=(HL3.out.gro hown hg).1;have hC4:=HCL.out W4 yF (HL3.out.gro hown hg).2.2;have hn1':=jq ho;refine⟨⟨⟨⟨W4,trivial⟩,rfl⟩,fun _=>⟨⟨W4,hC4⟩,rfl⟩⟩,?_⟩;have HO:=hid ho;have HG:=hid hg;have HOR:=hid hor;clear ho hg hor hown wS hC4;simp only[show Nat.beq 8 10=false from rfl,show Nat.beq 7 10=false from rfl,Bool.or_self,Act.put,List.setIfInBounds_toArray,List.set_cons_succ,List.set_cons_zero];refine AX.bT _ (by rfl) ?_;go_big_quiet_step (fail)
    refine wpQuiet_nil ?_;refine AX.aW _ (by rfl) (by rfl) ?_;refine AX.aI (o:=1) (v:=rv') rfl rfl hn1' yO yF (show 1<2 by decide) ?_;rintro W5 g3 g4 g5;have x5:Bx W5 OX 27 #[nv,rv']:=g3;have hL5:=HL3.out.abN HO.out HG.out HOR.out x5 g4 g5;refine⟨⟨⟨⟨W5,trivial⟩,rfl⟩,fun h=>by cases h⟩,?_⟩;have HL5:=hid hL5;have adS:W5.cell? ⟨BX,0,none⟩=some (.slice (some ⟨nb,no,none⟩) nl cn):=(hL5.lo.cell (p:=⟨BX,0,none⟩) Zd).trans y0;have hlo1:(256:Int)*k≤256*((k:Int)+1):=(by omega);have hhi1:(256:Int)*((k:Int)+1)≤cn:=(by have:=HN2.out;have:=HCN.out;omega);have hlo0:(0:Int)≤256*((k:Int)+1):=(by omega);have Vb:(0:Int)≤256*(k:Int):=(by omega);have h256:256*(k+1)-256*k=256:=(by omega);clear g3 g4 g5 x5 hL5 yF hn1' a1 a2 a3 HL3 HO HG HOR hrk hsi;unfold AX.bD;go_upto_region 13 with fail
    rw[h256];go_loopw [6,58] (fun v6 v58 wq=>∃(b:Nat)(y:List Int×List Int)(sv' nv':Value),v6=sv'∧v58 = .int .i64 b∧b≤256∧Lw W2 OX M (y.1.map (jo P)) sv' nv' rv' y.1 y.2 (ru++[ra]) wq∧Hid (y=((rowOf next k).take b).foldl (lsT P) x)) (fun _ v58 _=>256-(intOf v58).toNat)
    case atStart=>exact⟨0,x,_,nv,rfl,rfl,Nat.zero_le _,by rw[HQ.out];exact HL5.out,hid rfl⟩
    case round =>
     obtain⟨b,y,sv',nv',rfl,rfl,hb,hlq,hy⟩:=hrel;have abE:(0:Int)≤(b:Int):=(by omega);have hrow:=iY HNl.out hkn;have htn:∀ t∈rowOf next k,-1≤t∧t<(n:Int):=fun t ht=>by
      have:=List.all_eq_true.1 HG5.out t (pz ht);simp only[Bool.and_eq_true,decide_eq_true_eq] at this;have h2:=HN.out;omega
     obtain⟨hIy,hyl,hyx⟩:=LsI.steps ((rowOf next k).take b) HI.out (fun t ht=>(htn t (List.mem_of_mem_take ht)).2);rw[←hy.out,List.length_take,hrow,Nat.min_eq_left hb,hxl] at hyl;rw[←hy.out] at hIy hyx;have hyn:=hIy.len;have hy1:=hIy.one
     by_cases hbl:b<256
     ·have Wv:(b:Int)<256:=by omega
      have hidx:256*k+b<next.length:=(by have:=HNl.out;omega)
      have hc:=(hlq.lo.cell (p:=⟨nb,no+(256*k+b),none⟩) hnb).trans (HNC.out _ hidx);rw[←Nat.add_assoc] at hc;obtain⟨t,ht⟩:∃ t,t=next[256*k+b]:=⟨_,rfl⟩
      have hrb:(rowOf next k)[b]?=some t:=by
       unfold rowOf;rw[List.getElem?_take,if_pos hbl,List.getElem?_drop,List.getElem?_eq_getElem hidx,ht]
      obtain⟨ht1,ht2⟩:=htn t (List.mem_of_getElem? hrb);rw[←ht] at hc;have hnext:Hid (lsT P y t=((rowOf next k).take (b+1)).foldl (lsT P) x):=hid (by
       have hbr:b<(rowOf next k).length:=(by omega);have e:(rowOf next k)[b]=t:=(by rw[List.getElem?_eq_getElem hbr] at hrb;exact Option.some.inj hrb);rw[List.take_succ_eq_append_getElem hbr,List.foldl_append,←hy.out,e];rfl)
      have HQ2:=hid hlq;have HY:=hid hIy;have HYL:=hid hyl;have Tf:y.2.length≤1000000:=(by omega);have hb1:W2.heap.size≤wr.heap.size:=hlq.lo.size;have b00:wr.cell? ⟨OX,0,none⟩=some nv':=hlq.ox.cell 0;have hlow:=hlq.lo;clear hrow htn hidx ht hrb hIy hyl hlq hy
      by_cases htz:t<0
      ·have HST:Hid (lsT P y t=(y.1,y.2++[-1])):=hid (if_pos (.inl htz))
       have hx3:=Bx.new wr 3 #[.int .i64 (-1)];have hL3:=HQ2.out.low ((Below.refl wr.heap.size wr).alloc Nat.le.refl (.cells #[.int .i64 (-1)] 3));have hs3:=hL3.lo.size;have hown:=hL3.rw.n;have HL3:=hid hL3;clear hL3;go_wp2_with (first
        | ((with_reducible refine qM ?_);refine fQ W2.heap.size nv' y.2 (-1) rfl hown wr.heap.size 1 rfl hx3 Tf hs3 ?_;rintro nv2 W8 ho hg hor;have yP:=(HL3.out.gro hown hg).1;have hone:=jq ho)
        | ((with_reducible refine bZ ?_);refine AX.aB (o:=0) (v:=nv2) rfl rfl hone yO yP (show 0<2 by decide) ?_;rintro W9 g3 g4 g5))
       have x9:Bx W9 OX 27 #[nv2,rv']:=g3;have hL9:=HL3.out.Td ho hg hor x9 g4 g5;exact⟨⟨b+1,(y.1,y.2++[-1]),_,nv2,rfl,by simp,by omega,hL9,hid (HST.out.symm.trans hnext.out)⟩,by simp[intOf];omega⟩
      ·obtain⟨tn,rfl⟩:∃ tn:Nat,t=(tn:Int):=⟨t.toNat,by omega⟩
       have adT:(0:Int)≤(tn:Int):=(by omega);have Ze:=HPB.out.below hlow HPB.out.lt;have hpc:=jI Ze tn (by omega);obtain⟨p,hp⟩:∃ p,p=P.getD tn 0:=⟨_,rfl⟩;have hpt:jo P (tn:Int)=p:=(by unfold jo;rw[Int.toNat_natCast,hp]);rw[←hp] at hpc;have HPT:=hid hpt;clear hp hpt Ze
       by_cases hpz:p<0
       ·have HST:Hid (lsT P y tn=(y.1,y.2++[-1])):=hid (if_pos (.inr (by rw[HPT.out];exact hpz)))
        have hx3:=Bx.new wr 3 #[.int .i64 (-1)];have hL3:=HQ2.out.low ((Below.refl wr.heap.size wr).alloc Nat.le.refl (.cells #[.int .i64 (-1)] 3));have hs3:=hL3.lo.size;have hown:=hL3.rw.n;have HL3:=hid hL3;clear hL3;go_wp2_with (first
         | ((with_reducible refine qM ?_);refine fQ W2.heap.size nv' y.2 (-1) rfl hown wr.heap.size 1 rfl hx3 Tf hs3 ?_;rintro nv2 W8 ho hg hor;have yP:=(HL3.out.gro hown hg).1;have hone:=jq ho)
         | ((with_reducible refine bZ ?_);refine AX.aB (o:=0) (v:=nv2) rfl rfl hone yO yP (show 0<2 by decide) ?_;rintro W9 g3 g4 g5))
        have x9:Bx W9 OX 27 #[nv2,rv']:=g3;have hL9:=HL3.out.Td ho hg hor x9 g4 g5;exact⟨⟨b+1,(y.1,y.2++[-1]),_,nv2,rfl,by simp,by omega,hL9,hid (HST.out.symm.trans hnext.out)⟩,by simp[intOf];omega⟩
       ·have hlk:=Za (k:=p) HQ2.out.mp HY.out.nd
        have hix:ixP P y.1 (tn:Int)=fx (y.1.map (jo P)) p:=(by unfold ixP fx;rw[HPT.out]);have hTl:(y.1.map (jo P)).length=y.1.length:=List.length_map _;have hcond:¬((tn:Int)<0∨jo P (tn:Int)<0):=(by rw[HPT.out];omega);obtain⟨fk,hfk⟩:∃ fk,fk=fx (y.1.map (jo P)) p:=⟨_,rfl⟩
        by_cases hf:fx (y.1.map (jo P)) p<(y.1.map (jo P)).length
        ·have HST:Hid (lsT P y tn=(y.1,y.2++[(fk:Int)])):=hid (by unfold lsT;rw[if_neg hcond,hix,←hfk,if_pos (by omega)])
         rw[if_pos hf,decide_eq_true hf,←hfk] at hlk;clear hf hfk hix hTl hcond;have hx3:=Bx.new wr 3 #[.int .i64 (fk:Int)];have hL3:=HQ2.out.low ((Below.refl wr.heap.size wr).alloc Nat.le.refl (.cells #[.int .i64 (fk:Int)] 3));have hs3:=hL3.lo.size;have hown:=hL3.rw.n;have HL3:=hid hL3;clear hL3;go_wp2_with (first
          | ((with_reducible refine qM ?_);refine fQ W2.heap.size nv' y.2 (fk:Int) rfl hown wr.heap.size 1 rfl hx3 Tf hs3 ?_;rintro nv2 W8 ho hg hor;have yP:=(HL3.out.gro hown hg).1;have hone:=jq ho)
          | ((with_reducible refine bZ ?_);refine AX.aB (o:=0) (v:=nv2) rfl rfl hone yO yP (show 0<2 by decide) ?_;rintro W9 g3 g4 g5)
          | ((with_reducible refine OJ ?_);refine oC rfl rfl hlk ?_))
         have x9:Bx W9 OX 27 #[nv2,rv']:=g3;have hL9:=HL3.out.Td ho hg hor x9 g4 g5;exact⟨⟨b+1,(y.1,y.2++[(fk:Int)]),_,nv2,rfl,by simp,by omega,hL9,hid (HST.out.symm.trans hnext.out)⟩,by simp[intOf];omega⟩
        ·have HST:Hid (lsT P y tn=(y.1++[(tn:Int)],y.2++[(y.1.length:Int)])):=hid (by
          have h2:ixP P y.1 (tn:Int)=y.1.length:=by
           have:=List.findIdx_le_length (p:=(· == p)) (xs:=y.1.map (jo P));rw[hix];unfold fx at hf ⊢;omega
          unfold lsT;rw[if_neg hcond,h2,if_neg (Nat.lt_irrefl _)])
         rw[if_neg hf,decide_eq_false hf] at hlk;have HF:=hid hf;have abQ:y.1.length≤1000000:=(by omega);have HTM:Hid ((y.1++[(tn:Int)]).map (jo P)=y.1.map (jo P)++[p]):=hid (by rw[List.map_append,List.map_singleton,HPT.out]);obtain⟨sa',sc',rfl⟩:=aQ HQ2.out.rw.s;clear hf hfk hix hTl hcond;go_upto_region 22 with (first
          | ((with_reducible refine OJ ?_);refine oC rfl rfl hlk ?_)
          | ((with_reducible refine WH ?_);refine AL (T:=y.1.map (jo P)) rfl rfl (by rw[List.length_map];rfl) HQ2.out.mp HY.out.nd HF.out ?_;rintro W8 hm8 hb8;have hL8:=HQ2.out.upd hm8 hb8;have hx8:=Bx.new W8 3 #[.int .i64 (tn:Int)];have Ti:=hL8.low ((Below.refl W8.heap.size W8).alloc Nat.le.refl (.cells #[.int .i64 (tn:Int)] 3));have hs8:=Ti.lo.size;have hownS:=Ti.rw.s)
          | ((with_reducible refine qM ?_);refine fQ W2.heap.size (.slice sa' y.1.length sc') y.1 (tn:Int) rfl hownS W8.heap.size 1 rfl hx8 abQ hs8 ?_;rintro sv2 W9 ho9 hg9 Zf;have hL9:=Ti.WI ho9 hg9 Zf;have b9:W9.cell? ⟨OX,0,none⟩=some nv':=hL9.ox.cell 0))
         rw[←HTM.out] at hL9;have HL9:=hid hL9;clear hL9 hL8 Ti hx8 hs8 hownS hm8 hb8 ho9 hg9 Zf hlk b00;have hx3:=Bx.new W9 3 #[.int .i64 (y.1.length:Int)];have hL3:=HL9.out.low ((Below.refl W9.heap.size W9).alloc Nat.le.refl (.cells #[.int .i64 (y.1.length:Int)] 3));have hs3:=hL3.lo.size;have hown:=hL3.rw.n;have HL3:=hid hL3;clear hL3;go_wp2_with (first
          | ((with_reducible refine qM ?_);refine fQ W2.heap.size nv' y.2 (y.1.length:Int) rfl hown W9.heap.size 1 rfl hx3 Tf hs3 ?_;rintro nv2 Wa ho hg hor;have yP:=(HL3.out.gro hown hg).1;have hone:=jq ho)
          | ((with_reducible refine bZ ?_);refine AX.aB (o:=0) (v:=nv2) rfl rfl hone yO yP (show 0<2 by decide) ?_;rintro Wb g3 g4 g5))
         have x9:Bx Wb OX 27 #[nv2,rv']:=g3;have hLb:=HL3.out.Td ho hg hor x9 g4 g5;exact⟨⟨b+1,(y.1++[(tn:Int)],y.2++[(y.1.length:Int)]),_,nv2,rfl,by simp,by omega,hLb,hid (HST.out.symm.trans hnext.out)⟩,by simp[intOf];omega⟩
     ·have Wv:¬(b:Int)<256:=by omega
      obtain rfl:b=256:=by omega
      have hlr:lsR next P x i=y:=by
       unfold lsR;rw[←HS.out,Int.toNat_natCast,hy.out,List.take_of_length_le (by omega)]
      have hrel2:∃(i2:Nat)(x2:List Int×List Int)(ru2:List Int)(sv2 nv2 rv2:Value),u6=sv2∧(Value.int .i64 ((i:Int)+1)) = .int .i64 i2∧i2≤x2.1.length∧Lw W2 OX M (x2.1.map (jo P)) sv2 nv2 rv2 x2.1 x2.2 ru2 wr∧LsI P n x2.1 x2.2∧x2.2.length=256*i2∧ru2.length=i2∧Hid (∃ F,n<F+i2∧lsL next rule P F i2 x2 ru2=bK next rule):=by
       refine⟨i+1,y,ru++[ra],u6,nv',rv',rfl,by simp,?_,hlq,hIy,by omega,by rw[List.length_append,hrl];rfl,hid ?_⟩
       ·show i+1≤y.1.length
        omega
       ·obtain⟨F,h1,h2⟩:=hF.out
        obtain⟨G,rfl⟩:∃ G,F=G+1:=⟨F-1,by omega⟩;unfold lsL at h2;rw[if_pos hqx,hlr,←HS.out,Int.toNat_natCast,←HRA.out] at h2;exact⟨G,by omega,h2⟩
      have abR:=hid hrel2;clear hrel2 hlr hy hlq hIy hyl;go_wp2_with fail
      exact⟨abR.out,by simp[intOf];omega⟩
   ·have hi1:¬(i:Int)<(q:Int):=by omega
    have hL:bK next rule=(x.2,ru):=by
     obtain⟨F,h1,h2⟩:=hF.out
     cases F with
     | zero=>omega
     | succ F =>
      unfold lsL at h2;rw[if_neg (by have:=HQ.out;omega)] at h2;exact h2.symm
    have HL:=hid hL;have b0:wr.cell? ⟨OX,0,none⟩=some nv:=HLW.out.ox.cell 0;have b1:wr.cell? ⟨OX,1,none⟩=some rv:=HLW.out.ox.cell 1;obtain⟨na,nc,en,hnc,_⟩:=sK HLW.out.rw.n;obtain⟨ra,rc,er,_,_⟩:=sK HLW.out.rw.r;have c0:nv.oneCell'=true:=(by rw[en];rfl);have c1:rv.oneCell'=true:=(by rw[er];rfl);have pX:Below W0.heap.size W0 W2:=HB1.out.trans (HB2.out.mono HB1.out.size);have xA:=(HXR.out.below pX HXR.out.lt).below HLW.out.lo (by have:=HXR.out.lt;have:=pX.size;omega);have HWW:=hid pX;clear hL hnc en er pX;go_wp2_with ((with_reducible refine bZ ?_);refine AX.au (vs:=[nv,rv]) rfl rfl Tc xA rfl (by simp[c0,c1]) ?_;rintro W9 u3 u4 u5)
    have x9:Bx W9 (BX+1) 27 #[nv,rv]:=u3;have d0:W9.cell? ⟨BX+1,0,none⟩=some nv:=x9.cell 0;have d1:W9.cell? ⟨BX+1,1,none⟩=some rv:=x9.cell 1;have hs9:dQ 27 wr W9:=aT xA u4;have hR9:=HLW.out.rw.aY hs9 (by decide);obtain⟨na,nc,en,hnc,hni⟩:=sK hR9.n;obtain⟨ra,rc,er,_,hri⟩:=sK hR9.r;have hl9:Below w.heap.size wr W9:=AX.aj (by have:=HBX.out;omega) (.inl x9.lt) u4 u5;have hlo:Below w.heap.size w W9:=(HB0.out.trans ((HWW.out.mono HB0.out.size).trans (HLW.out.lo.mono (Nat.le_trans HB0.out.size HWW.out.size)))).trans hl9;exact bodyPost_ret (v := .tuple #[.agg #[nv,rv], .int .i64 0]) (by simp[results,Tryz.results32,go_sem,d0,d1]) rfl ⟨na,ra,nc,rc,by rw[HL.out,←en,←er],by rw[HL.out];exact hnc,by rw[HL.out];exact hni,by rw[HL.out];exact hri,hlo⟩
end Go.Proofs.YtkjgogdkdejljaaGreatDoor.Df
