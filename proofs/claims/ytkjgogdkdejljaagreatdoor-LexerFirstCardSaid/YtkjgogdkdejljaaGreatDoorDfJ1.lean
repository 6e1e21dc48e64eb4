import Derived.Test.YtkjgogdkdejljaaGreatDoorDfD5
set_option maxRecDepth 100000
set_option maxHeartbeats 40000000
namespace Go.Proofs.YtkjgogdkdejljaaGreatDoor.Df
section
open Go.Lib (hid)
open Go Go.Proofs Go.RowKit
attribute [local go_sem] Oper.semAt_some
def Jm(next rule:List Int)(w:World)(e:Ending)(w':World):Prop:=∃PB cp,e=.returned (.slice (some ⟨PB,0,none⟩) rule.length cp)/\Bx w' PB 3 (ci (lC next rule))/\w.heap.size<=PB/\Below w.heap.size w w'
theorem dO{W:World}{B:Nat}{l:List Int}(h:Bx W B 3 (ci l))(j:Nat)(hj:j<l.length):W.cell? ⟨B,j,none⟩=some (.int .i64 (l.getD j 0)):=by
 rw[h.cell,KY l j hj,afG,afE hj,agr]
theorem qO{W:World}{B:Nat}{t:TypeId}{l:List Int}(h:Bx W B t (ci l))(j:Nat)(x:Int):Bx (W.setCell ⟨B,j,none⟩ (.int .i64 x)) B t (ci (l.set j x))/\(∀k,k≠B->(W.setCell ⟨B,j,none⟩ (.int .i64 x)).heap[k]?=W.heap[k]?):=by
 refine⟨?_,fun k hk=>heap_setCell_other W ⟨B,j,none⟩ k _ hk⟩;unfold Bx;rw[heap_setCell_same W B j _ t (.int .i64 x) h,Jl]
theorem fU{W:World}{B:Nat}{t:TypeId}{cs:Array Value}(h:Bx W B t cs)(j:Nat):W.frozen? ⟨B,j,none⟩=false:=by
 unfold Bx at h;simp[World.frozen?,h]
structure Pq(W1:World)(PB n:Nat)(p:List Int)(wz:World):Prop where
 pa:Bx wz PB 3 (ci p)
 lo:Below W1.heap.size W1 wz
 ln:p.length=n
theorem Pq.put{W1:World}{PB n:Nat}{p:List Int}{wz:World}(h:Pq W1 PB n p wz)(hP:W1.heap.size<=PB)(i:Nat)(x:Int):Pq W1 PB n (p.set i x) (wz.setCell ⟨PB,i,none⟩ (.int .i64 x)):=
 ⟨(qO h.pa i x).1,h.lo.setCell (p:=⟨PB,i,none⟩) hP _,by rw[agA];exact h.ln⟩
theorem aaw(S:List Int)(h:S.length=257):AX.sizeT Tryz.prog 188=some (S.map (Value.int .i64)).length:=by
 rw[agf,h]
 kernel_rfl
theorem ones(S:List Int):(S.map (Value.int .i64)).all Value.oneCell'=true:=by
 rw[agk];intro v hv;obtain⟨x,_,rfl⟩:=agv.1 hv;rfl
theorem Ya:zT.length=256:=by kernel_rfl
theorem xH{ops:Array Oper}{rest:List Oper}{a:Act}{w:World}{Q:Exit->Act->World->Prop}{ty:TypeId}{pos:String}{after:Array Edge}{x y:Operand}{B:Nat}{S:List Int}(hx:a.eval x=.pointer (some ⟨B,0,none⟩))(hy:a.eval y=sgV S)(hS:S.length=257)(hB:Bx w B 188 (ci zS))
  (h:∀W',Bx W' B 188 (ci S)->(∀j,j≠B->W'.heap[j]?=w.heap[j]?)->AX.Same w W'->wpList Tryz.prog ops Q rest a W'):wpList Tryz.prog ops Q ({dst:=none,op:=.store 188 x y,type:=ty,pos:=pos,after:=after,guard:=none}::rest) a w:=
 AX.aj (vs:=S.map (Value.int .i64)) hx hy (aaw S hS) hB (by simp[ci,P5,hS]) (ones S) fun W' h1 h2 h3=>h W' h1 h2 h3
theorem Yb{ops:Array Oper}{rest:List Oper}{a:Act}{w:World}{Q:Exit->Act->World->Prop}{ty:TypeId}{pos:String}{after:Array Edge}{x y:Operand}{dst:Option Tmp}(h:wpList Tryz.prog ops Q ({dst:=dst,op:=.store 188 x y,type:=ty,pos:=pos,after:=after,guard:=none}::rest) a w):wpList Tryz.prog ops Q ({dst:=dst,op:=.store 188 x y,type:=ty,pos:=pos,after:=after,guard:=none}::rest) a w:=h
theorem vF:∀(o:Nat)(T:List (List Int)),(eU o T).length=T.length
 | _,[]=>rfl
 | o,_::T=>by simp[eU,vF (o+1) T]
theorem sO(next p:List Int):∀k,∀S∈(ptR next p k).1,∃j,j<k/\S=jR next p j (p.getD j 0)
 | 0,S,h=>by simp[ptR]at h
 | k+1,S,h=>by
  rw[sN]at h;unfold ptS at h;split at h
  ·obtain⟨j,h1,h2⟩:=sO next p k S h
   exact⟨j,by omega,h2⟩
  ·simp only at h
   split at h
   ·obtain⟨j,h1,h2⟩:=sO next p k S h
    exact⟨j,by omega,h2⟩
   ·rcases af2.1 h with h|h
    ·obtain⟨j,h1,h2⟩:=sO next p k S h
     exact⟨j,by omega,h2⟩
    ·exact⟨k,by omega,afK.1 h⟩
theorem KZ{next p:List Int}{n j:Nat}(hnl:next.length=256*n)(hj:j<n)(hl:p.length=n)(hp:∀x∈p,-1<=x/\x<600):Sg (jR next p j (p.getD j 0)):=by
 refine⟨by unfold jR;rw[agl,agf,dX hnl hj],fun z hz=>?_⟩;have hg:∀i,i<p.length -> -1<=p.getD i 0/\p.getD i 0<600:=fun i hi=>hp _ (by rw[afG,afE hi,agr];exact agu _);rcases afX.1 hz with hz|hz
 ·have:=hg j (by omega)
  omega
 ·obtain⟨t,_,rfl⟩:=agv.1 hz
  split
  ·by_cases htn:t.toNat<p.length
   ·have:=hg _ htn
    omega
   ·rw[afG,af5 (by omega)]
    simp
  ·omega
section
variable {ops : Array Oper} {rest : List Oper} {a : Act} {w : World} {Q : Exit -> Act -> World -> Prop} {dst : Option Tmp} {ty : TypeId} {pos : String} {after : Array Edge} {xm xk xv : Operand}
theorem P8(h:wpList Tryz.prog ops Q ({dst:=dst,op:=.lookup 185 xm xk true,type:=ty,pos:=pos,after:=after,guard:=none}::rest) a w):wpList Tryz.prog ops Q ({dst:=dst,op:=.lookup 185 xm xk true,type:=ty,pos:=pos,after:=after,guard:=none}::rest) a w:=h
theorem oH{r:Nat}{S:List Int}{v:Value}(hm:a.eval xm=.map (some r))(hk:a.eval xk=sgV S)(hr:(Instr.lookup 185 (.map (some r)) (sgV S) true).run Tryz.prog w=.ok v w)(h:wpList Tryz.prog ops Q rest (a.put dst v) w):wpList Tryz.prog ops Q ({dst:=dst,op:=.lookup 185 xm xk true,type:=ty,pos:=pos,after:=after,guard:=none}::rest) a w:=by
 refine Go.Great.wpList_readTo rfl dst rfl v ?_ h;unfold execOp;simp only[hm,hk];simp[hr]
theorem Yc(h:wpList Tryz.prog ops Q ({dst:=none,op:=.mapUpdate 185 xm xk xv,type:=ty,pos:=pos,after:=after,guard:=none}::rest) a w):wpList Tryz.prog ops Q ({dst:=none,op:=.mapUpdate 185 xm xk xv,type:=ty,pos:=pos,after:=after,guard:=none}::rest) a w:=h
theorem Ba{r:Nat}{T:List (List Int)}{S:List Int}(hm:a.eval xm=.map (some r))(hk:a.eval xk=sgV S)(hv:a.eval xv=.int .i64 T.length)(hb:w.heap[r]?=some (.map (eU 0 T).toArray T.length))(hS:Sg S)(hT:∀U∈T,Sg U)(hn:T.Nodup)(hno:¬fi T S<T.length)
  (h:∀W',W'.heap[r]?=some (.map (eU 0 (T++[S])).toArray (T++[S]).length)->AX.But r w W'->wpList Tryz.prog ops Q rest a W'):wpList Tryz.prog ops Q ({dst:=none,op:=.mapUpdate 185 xm xk xv,type:=ty,pos:=pos,after:=after,guard:=none}::rest) a w:=by
 obtain⟨W',hr,h1,h2⟩:=ac5 hb hS hT hn hno;refine wpList_plain rfl fun K hK=>?_;have hx:(execOp a.eval {dst:=none,op:=.mapUpdate 185 xm xk xv,type:=ty,pos:=pos,after:=after,guard:=none}).run Tryz.prog w=.ok .skip W':=by
  simp only[execOp,hm,hk,hv,Sem.run_bind,hr];rfl
 unfold Oper.wp;rw[hx];exact hK _ _ (h _ h1 h2)
end
structure Nq(W1:World)(M NB PC n:Nat)(p:List Int)(x:List (List Int)×List Int)(wz:World):Prop where
 mp:wz.heap[M]?=some (.map (eU 0 x.1).toArray x.1.length)
 nb:Bx wz NB 3 (ci x.2)
 pc:Bx wz PC 3 (ci p)
 lo:Below W1.heap.size W1 wz
 l2:x.2.length=n
 lp:p.length=n
section
variable {W1 : World} {M NB PC n : Nat} {p : List Int} {x : List (List Int) × List Int} {wz wy : World}
theorem Nq.mlt(h:Nq W1 M NB PC n p x wz):M<wz.heap.size:=(afF.1 h.mp).1
theorem Nq.low(h:Nq W1 M NB PC n p x wz)(hb:Below wz.heap.size wz wy):Nq W1 M NB PC n p x wy:=
 ⟨(hb.block M h.mlt).trans h.mp,h.nb.below hb h.nb.lt,h.pc.below hb h.pc.lt,h.lo.trans (hb.mono h.lo.size),h.l2,h.lp⟩
theorem Nq.oth(h:Nq W1 M NB PC n p x wz){B:Nat}(hB:B≠M/\B≠NB/\B≠PC)(hg:∀j,j≠B->wy.heap[j]?=wz.heap[j]?)(hl:Below W1.heap.size wz wy):Nq W1 M NB PC n p x wy:=
 ⟨(hg M hB.1.symm).trans h.mp,(hg NB hB.2.1.symm).trans h.nb,(hg PC hB.2.2.symm).trans h.pc,h.lo.trans hl,h.l2,h.lp⟩
theorem Nq.Ns(h:Nq W1 M NB PC n p x wz)(hN:W1.heap.size<=NB)(h1:M≠NB)(h2:PC≠NB)(i:Nat)(v:Int):Nq W1 M NB PC n p (x.1,x.2.set i v) (wz.setCell ⟨NB,i,none⟩ (.int .i64 v)):=by
 obtain⟨g1,g2⟩:=qO h.nb i v;exact⟨(g2 M h1).trans h.mp,g1,(g2 PC h2).trans h.pc,h.lo.setCell (p:=⟨NB,i,none⟩) hN _,by simp only;rw[agA];exact h.l2,h.lp⟩
end
theorem Nu(next rule:List Int)(hok:okT next rule=true)(an ar:Option Addr)(cn cr:Nat)(hcn:next.length<=cn)(w:World)(hN:aH w an next)(hR:aH w ar rule):
  Calls Tryz.prog 68 #[.agg #[.slice an next.length cn,.slice ar rule.length cr]] w (Jm next rule w):=by
 have hok2:=hok;simp only[okT,afU,afZ]at hok2;obtain⟨g1,g2,g3,g4,g5⟩:=hok2;obtain⟨n,hn⟩:=afC rule.length;obtain⟨BX,hBX⟩:=afC w.heap.size;obtain⟨W0,hW0⟩:=afC (w.alloc (.cells #[.slice an next.length cn,.slice ar rule.length cr] 27));have hb0:Below w.heap.size w W0:=by rw[hW0];exact (afI w.heap.size w).alloc afD _
 have xb:Bx W0 BX 27 #[.slice an next.length cn,.slice ar rule.length cr]:=by rw[hW0,hBX];exact Bx.new w 27 _
 have hN0:=hN.below hb0 afD;have hR0:=hR.below hb0 afD;have hlv:=Nl next rule hok an ar cn cr hcn W0 hN0 hR0
 unfold Jh at hlv;obtain⟨L,hL⟩:=afC (lC next rule)
 unfold Jm;rw[<-hL];obtain⟨LV,hLV⟩:=afC (kF next rule)
 rw[<-hLV]at hlv;rw[<-hn]at xb hlv hW0⊢;have y0:W0.cell? ⟨BX,0,none⟩=some (.slice an next.length cn):=xb.cell 0;have y1:W0.cell? ⟨BX,1,none⟩=some (.slice ar n cr):=xb.cell 1;obtain⟨nl,hnl⟩:=afC next.length
 rw[<-hnl]at xb hlv y0 hW0⊢;have HOK:=hid hok;have HN:=hid hn;have HNL:=hid hnl;have HLL:=hid hL;have HLV:=hid hLV;have HN0:=hid hN0;have HR0:=hid hR0;have HB0:=hid hb0;have HXB:=hid xb;have HBX:=hid hBX;have hn1:n<=512:=by omega
 have hn0:1<=n:=by omega
 have HN2:=hid (show nl=256*n by omega);have HG4:=hid g4;have HG5:=hid g5;have HCN:=hid (show nl<=cn by omega);clear hok g1 g2 g3 g4 g5 hN hR hn hnl hL hN0 hR0 hb0 xb hcn hLV;go_enter Tryz.func68,Tryz.ntmps68
 go_upto_region 1 with fail
 rw[<-hW0,<-hBX];clear hW0 hBX;go_upto_region 2 with (go_at_call 112;((with_reducible refine hlv.mono ?_);rintro e W1 ⟨LB,lc,rfl,hlb,ac6,hb1⟩;have y0:=(hb1.cell (p:=⟨BX,0,none⟩) HXB.out.lt).trans y0;have y1:=(hb1.cell (p:=⟨BX,1,none⟩) HXB.out.lt).trans y1))
 have hmk:=mk25 n (by omega) W1;have hN1:=HN0.out.below hb1 afD;have hR1:=HR0.out.below hb1 afD;have HN1:=hid hN1;have HR1:=hid hR1;have HB1:=hid hb1;obtain⟨PB,hPB⟩:=afC W1.heap.size;obtain⟨W2,hW2⟩:=afC (W1.alloc (.cells (ci (List.replicate n 0)) 3));have hq:Pq W1 PB n (List.replicate n 0) W2:=⟨by rw[hW2,hPB];exact Bx.new W1 3 _,by rw[hW2];exact (afI _ W1).alloc afD _,by simp⟩;have yO:BX<W1.heap.size:=by have:=HXB.out.lt;have:=hb1.size;omega
 have y0:=(hq.lo.cell (p:=⟨BX,0,none⟩) yO).trans y0;have y1:=(hq.lo.cell (p:=⟨BX,1,none⟩) yO).trans y1;have HQ:=hid hq;have HPB:=hid hPB;have Ji:=hid yO;have HLB:=hid hlb;have HLN:=hid (show LV.length=n by rw[HLV.out,PW];exact HN.out.symm);clear hlv hN1 hR1 hb1 hq yO hlb ac6;go_upto_region 3 with fail
 rw[<-hW2,<-hPB];clear hW2 hPB hmk;go_upto_region 4 with fail
 have PX:∃p,Pq W1 PB n p W2/\Hid (∀j,j<0->p[j]?=(jK next rule)[j]?):=⟨_,HQ.out,hid fun j hj=>absurd hj (agp _)⟩;clear HQ y0 y1;go_loopw [25] (fun i wr=>∃k:Nat,i=.int .i64 k/\k<=n/\∃p,Pq W1 PB n p wr/\Hid (∀j,j<k->p[j]?=(jK next rule)[j]?)) (fun i _=>n-(RowKit.intOf i).toNat)
 case atStart=>exact⟨0,rfl,af0 _,PX⟩
 case round =>
  obtain⟨k,rfl,hk,p,hq,hp⟩:=hrel;have hk0:(0:Int)<=(k:Int):=by omega
  by_cases hlt:k<n
  ·have hk1:(k:Int)<(n:Int):=by omega
   obtain⟨rb,ro,rfl,hrb,hrc⟩:=(HR1.out.below hq.lo afD).at (j:=k) (by have:=HN.out;omega);have hrg:rule.getD k 0=rule[k]'(by have:=HN.out;omega):=(by rw[afG,afE (by have:=HN.out;omega),agr]);have hrr: -1<=rule.getD k 0/\rule.getD k 0<16:=by
    have:=agk.1 HG4.out _ (agu (show k<rule.length by have:=HN.out;omega));simp only[afU,afZ]at this;rw[hrg];exact this
   rw[<-hrg]at hrc;obtain⟨x,hx⟩:=afC (rule.getD k 0);rw[<-hx]at hrc hrr;obtain⟨hr1,hr2⟩:=hrr;have hlc:=(HLB.out.cell k (by have:=HLN.out;omega));have hlc:=(hq.lo.cell (p:=⟨LB,k,none⟩) HLB.out.lt).trans hlc;have hpc:=dO hq.pa k (by have:=hq.ln;omega);have hfz:=fU hq.pa k;obtain⟨b,hb⟩:=afC (LV.getD k false);rw[<-hb]at hlc;have hne:LB≠PB:=(by have:=HLB.out.lt;have:=HPB.out;omega);have hpt:(jK next rule)[k]?=some (if b=true then x+1 else -1):=by
    unfold jK;rw[af8,List.getElem?_range (by have:=HN.out;omega),ag8,<-HLV.out,<-hb,<-hx]
   have HQ:=hid hq;have HPT:=hid hpt;clear hx hrg hq hrb hb hpt;go_upto_region 7 with fail
   have hq5:=HQ.out.put (afT HPB.out.symm) k (x+1);have hlc:(wr.setCell ⟨PB,k,none⟩ (.int .i64 (x+1))).cell? ⟨LB,k,none⟩=some (.bool b):=by
    have:=(hq5.lo.cell (p:=⟨LB,k,none⟩) HLB.out.lt).trans (HLB.out.cell k (by have:=HLN.out;omega));rw[this];have h2:=(HQ.out.lo.cell (p:=⟨LB,k,none⟩) HLB.out.lt).trans (HLB.out.cell k (by have:=HLN.out;omega));rw[<-h2];exact hlc
   obtain⟨W5,hW5⟩:=afC (wr.setCell ⟨PB,k,none⟩ (.int .i64 (x+1)));rw[<-hW5]at hq5 hlc⊢;have hpc:=dO hq5.pa k (by have:=hq5.ln;omega);have hfz:=fU hq5.pa k;have HQ5:=hid hq5;have hlast:∀(v:Int),v=(if b=true then x+1 else -1)->∀j,j<k+1->((p.set k (x+1)).set k v)[j]?=(jK next rule)[j]?:=by
    intro v hv j hj
    by_cases e:k=j
    ·subst e
     rw[agX (by rw[agA];have:=HQ.out.ln;omega),HPT.out,hv]
    ·rw[agM e,agM e]
     exact hp.out j (by omega)
   have Lc:=hid hlast;clear hW5 hq5 hlast
   cases b
   ·go_wp2_with fail
    exact⟨⟨k+1,by simp,by omega,_,HQ5.out.put (afT HPB.out.symm) k (-1),hid (Lc.out (-1) rfl)⟩,by simp[RowKit.intOf];omega⟩
   ·go_wp2_with fail
    exact⟨⟨k+1,by simp,by omega,_,HQ5.out,hid (fun j hj=>by
     have:=Lc.out (x+1) rfl j hj;rw[aiv]at this;exact this)⟩,by simp[RowKit.intOf];omega⟩
  ·have hk1:¬(k:Int)<(n:Int):=by omega
   have hpe:p=jK next rule:=by
    refine agJ fun j=>?_
    by_cases hj:j<n
    ·exact hp.out j (by omega)
    ·rw[af5 (by have:=hq.ln;omega),af5 (by unfold jK;rw[agf,ahF];have:=HN.out;omega)]
   have HQ:=hid hq;have hst:Hid (Cov (-1) p/\(∀x∈p,-1<=x/\x<600)/\∀F:Nat,(p.length:Int)-(-1)<F->ptL next F (-1) p=L):=hid ⟨fun m hm=>by omega,fun x hx=>by
    rw[hpe]at hx;obtain⟨j,hj,rfl⟩:=agv.1 hx;have hj:j<rule.length:=agH.1 hj;have hb:=agk.1 HG4.out _ (agu hj);simp only[afU,afZ]at hb;split
    ·rw[afG,afE hj,agr];omega
    ·omega,fun F hF=>by
    rw[HLL.out];unfold lC;rw[<-hpe];refine yT next _ _ _ _ (fun m hm=>by omega) hF (by have:=hq.ln;have:=HN.out;omega) (by omega)⟩
   clear hp hpe hq;go_upto_region 11 with fail
   have Np:∃(PB':Nat)(m:Int)(p:List Int),(Value.slice (some ⟨PB,0,none⟩) n n)=.slice (some ⟨PB',0,none⟩) n n/\(Value.int .i64 (-1))=.int .i64 m/\Pq W1 PB' n p wr/\W1.heap.size<=PB' /\ -1<=m/\m<=n/\Hid (Cov m p/\(∀x∈p,-1<=x/\x<600)/\∀F:Nat,(p.length:Int)-m<F->ptL next F m p=L):=⟨PB,-1,p,rfl,rfl,HQ.out,afT HPB.out.symm,by omega,by omega,hst⟩;clear HQ hst;go_loopw [4,7] (fun v4 v7 wr=>∃(PB':Nat)(m:Int)(p:List Int),v4=.slice (some ⟨PB',0,none⟩) n n/\v7=.int .i64 m/\Pq W1 PB' n p wr/\W1.heap.size<=PB' /\ -1<=m/\m<=n/\Hid (Cov m p/\(∀x∈p,-1<=x/\x<600)/\∀F:Nat,(p.length:Int)-m<F->ptL next F m p=L)) (fun _ v7 _=>600-(RowKit.intOf v7+1).toNat)
   case atStart=>exact Np
   case round =>
    obtain⟨PC,m,p,rfl,rfl,hq,hPC,hm1,hm2,hst⟩:=hrel;have hmm:=fun W=>run_makeMap (P:=Tryz.prog) (w:=W) 185;have hb1:=(afI wr.heap.size wr).alloc afD (.map #[] 0);have hmk:=mk25 n (by omega) (wr.alloc (.map #[] 0));obtain⟨NB,hNB⟩:=afC (wr.heap.size+1);have hb2:=hb1.trans ((afI (wr.alloc (.map #[] 0)).heap.size (wr.alloc (.map #[] 0))).alloc afD (.cells (ci (List.replicate n 0)) 3) |>.mono (by simp));obtain⟨W5,hW5⟩:=afC ((wr.alloc (.map #[] 0)).alloc (.cells (ci (List.replicate n 0)) 3));obtain⟨M,hM⟩:=afC wr.heap.size;have hPM:PC<M:=(by rw[hM];exact hq.pa.lt);have hWM:W1.heap.size<=M:=(by rw[hM];exact hq.lo.size);have hnq:Nq W1 M NB PC n p (ptR next p 0) W5:=by
     refine⟨?_,?_,?_,?_,?_,hq.ln⟩
     ·have h1:=((afI (wr.alloc (.map #[] 0)).heap.size (wr.alloc (.map #[] 0))).alloc afD (.cells (ci (List.replicate n 0)) 3)).block wr.heap.size (by simp)
      rw[hW5,hM,h1,World.alloc_heap_new];rfl
     ·have:=Bx.new (wr.alloc (.map #[] 0)) 3 (ci (List.replicate n 0))
      rw[show(wr.alloc (.map #[] 0)).heap.size=NB by rw[hNB];simp]at this;rw[hW5]
      show Bx _ NB 3 (ci (List.replicate p.length 0))
      rw[hq.ln];exact this
     ·rw[hW5];exact hq.pa.below hb2 hq.pa.lt
     ·rw[hW5];exact hq.lo.trans (hb2.mono hq.lo.size)
     ·show (List.replicate p.length (0:Int)).length=n
      rw[List.length_replicate,hq.ln]
    have HNQ:=hid hnq;have HPL:=hid hq.ln;have hNM:NB=M+1:=(by omega);have HNM:=hid hNM;clear hb1 hb2 hq hnq hNM;go_upto_region 14 with fail
    rw[<-hW5,<-hNB,<-hM];clear hW5 hNB hM hmk;go_loopw [50] (fun i wq=>∃k:Nat,i=.int .i64 k/\k<=n/\Nq W1 M NB PC n p (ptR next p k) wq) (fun i _=>n-(RowKit.intOf i).toNat)
    case atStart=>exact⟨0,rfl,af0 _,HNQ.out⟩
    case round =>
     obtain⟨k,rfl,hk,hq⟩:=hrel;have hk0:(0:Int)<=(k:Int):=by omega
     by_cases hlt:k<n
     ·have hk1:(k:Int)<(n:Int):=by omega
      have hown:=dO hq.pc k (by have:=hq.lp;omega);have Jo:=dO hq.nb k (by have:=hq.l2;omega);have hfz:=fU hq.nb k;obtain⟨x,hx⟩:=afC (ptR next p k)
      have hsucc:Hid (ptR next p (k+1)=ptS next p x k):=hid (by rw[sN,hx]);rw[<-hx]at hq Jo;obtain⟨own,hw⟩:=afC (p.getD k 0);rw[<-hw]at hown;have hnw:W1.heap.size<=NB:=(by have:=HNM.out;omega);have hq1:=hq.Ns hnw (by have:=HNM.out;omega) (by have:=HNM.out;omega) k (-1);have HTT:Hid (∀U∈x.1,Sg U):=hid (fun U hU=>by
       rw[hx]at hU;obtain⟨j,h1,rfl⟩:=sO next p k U hU
       exact KZ (n:=n) (by have:=HN2.out;have:=HNL.out;omega) (by omega) HPL.out hst.out.2.1)
      have HND:Hid x.1.Nodup:=hid (by rw[hx];exact(ptI next p k (by have:=HPL.out;omega)).nd);have HW:=hid hw;have HQ:=hid hq;have HQ1:=hid hq1;clear hx hw hq hq1
      by_cases hneg:own<0
      ·have hst:ptS next p x k=(x.1,x.2.set k (-1)):=afR (by rw[<-HW.out];exact hneg)
       have vg:Hid (∃k2:Nat,(Value.int .i64 ((k:Int)+1))=.int .i64 k2/\k2<=n/\Nq W1 M NB PC n p (ptR next p k2) (wr.setCell ⟨NB,k,none⟩ (.int .i64 (-1)))):=hid ⟨k+1,by simp,by omega,by rw[hsucc.out,hst];exact HQ1.out⟩;clear hst;go_wp2_with fail
       exact⟨vg.out,by simp[RowKit.intOf];omega⟩
      ·have hpos:0<=own:=by omega
       go_upto_region 18 with fail
       obtain⟨W6,hW6⟩:=afC (wr.setCell ⟨NB,k,none⟩ (.int .i64 (-1)));have hq6:=HQ1.out;rw[<-hW6]at hq6⊢;clear hW6 HQ1 HQ hown Jo hfz;have hx6:=Bx.new W6 188 (ci zS);have hb6:=(afI W6.heap.size W6).alloc afD (.cells (ci zS) 188);have hS0:(own::zT).length=257:=(by rw[agl,Ya]);have hnl:next.length=256*n:=(by have:=HN2.out;have:=HNL.out;omega)
       have hne:next≠[]:=fun e=>by rw[e]at hnl;simp at hnl;omega
       obtain⟨nb,no,rfl,hnb,hnc⟩:=HN1.out hne;have HNC:=hid hnc;have HQ6:=hid hq6;have HNl:=hid hnl;clear hnc hne hq6 hnl;go_upto_region 19 with (first
        | ((with_reducible refine X8 ?_);refine xE own rfl ?_)
        | ((with_reducible refine X9 ?_);refine xG ?_)
        | ((with_reducible refine Yb ?_);refine xH (S:=own::zT) rfl rfl hS0 hx6 ?_;rintro W7 g3 g4 g5))
       obtain⟨SB,hSB⟩:=afC W6.heap.size;have x7:Bx W7 W6.heap.size 188 (ci (own::zT)):=g3;have hl7:Below W6.heap.size W6 W7:=hb6.trans (AX.ah afD (.inl x7.lt) g4 g5);have hq7:=HQ6.out.low hl7;have y0:=(hq7.lo.cell (p:=⟨BX,0,none⟩) Ji.out).trans y0;rw[<-hSB]at x7⊢;have hs1:M<SB:=(by rw[hSB];exact HQ6.out.mlt);have hs2:NB<SB:=(by rw[hSB];exact HQ6.out.nb.lt);have UR:=hid (And.intro hs1 hs2);have hlo1:(256:Int)*k<=256*((k:Int)+1):=(by omega);have hhi1:(256:Int)*((k:Int)+1)<=cn:=(by have:=HN2.out;have:=HCN.out;omega);have hlo0:(0:Int)<=256*((k:Int)+1):=(by omega);have Xf:(0:Int)<=256*(k:Int):=(by omega);have h256:256*(k+1)-256*k=256:=(by omega);have HX7:=hid x7;have HQ7:=hid hq7;clear g3 g4 g5 hb6 hx6 hl7 hSB hs1 hs2 x7 hq7;go_upto_region 20 with fail
       go_loopw [71] (fun i wq=>∃(b:Nat)(S:List Int),i=.int .i64 b/\b<=256/\Nq W1 M NB PC n p (x.1,x.2.set k (-1)) wq/\Bx wq SB 188 (ci S)/\S.length=257/\Hid (S[0]?=some own/\∀i,i<b->S[i+1]?=(jR next p k own)[i+1]?)) (fun i _=>256-(RowKit.intOf i).toNat)
       case atStart=>exact⟨0,own::zT,rfl,af0 _,HQ7.out,HX7.out,hS0,hid ⟨rfl,fun i h=>absurd h (agp _)⟩⟩
       case round =>
        obtain⟨b,S,rfl,hb,hq,hxs,hSl,hSp⟩:=hrel;have aax:(0:Int)<=(b:Int):=by omega
        by_cases hbl:b<256
        ·have P9:(b:Int)<256:=by omega
         have hnl:=HNl.out;have hidx:256*k+b<next.length:=(by omega)
         have hc:=(hq.lo.cell (p:=⟨nb,no+(256*k+b),none⟩) hnb).trans (HNC.out _ hidx);rw[<-ah1]at hc;obtain⟨t,ht⟩:=afC (next[256*k+b])
         have htr: -1<=t/\t<(n:Int):=by
          have:=agk.1 HG5.out t (by rw[ht];exact agu _);simp only[afU,afZ]at this;have h2:=HN.out;omega
         have hrow:(jR next p k own)[b+1]?=some (if 0<=t then p.getD t.toNat 0 else -1):=by
          have hr:(rowOf next k)[b]?=some t:=by
           unfold rowOf;rw[ag1,afR hbl,aii,afE hidx,ht]
          unfold jR;rw[ahE,af8,hr];rfl
         rw[<-ht]at hc;obtain⟨ht1,ht2⟩:=htr;have hsc:wr.cell? ⟨SB,1+b,none⟩=some (.int .i64 (S.getD (1+b) 0)):=by
          rw[hxs.cell,KY S (1+b) (by omega),afG,afE (by omega),agr]
         have hfz:=fU hxs (1+b);have hnx:∀v:Int,v=(if 0<=t then p.getD t.toNat 0 else -1)->(S.set (1+b) v)[0]?=some own/\∀i,i<b+1->(S.set (1+b) v)[i+1]?=(jR next p k own)[i+1]?:=by
          intro v hv;refine⟨by rw[agM (by omega)];exact hSp.out.1,fun i hi=>?_⟩
          by_cases e:i=b
          ·subst e
           rw[Nat.add_comm 1 i,agX (by omega),hrow,hv]
          ·rw[agM (by omega)]
           exact hSp.out.2 i (by omega)
         have HNX:=hid hnx;have hq2:=fun(v:Int)=>hq.oth (B:=SB) (wy:=wr.setCell ⟨SB,1+b,none⟩ (.int .i64 v)) (by have:=UR.out;omega) (qO hxs (1+b) v).2 ((afI _ wr).setCell (p:=⟨SB,1+b,none⟩) (by have:=UR.out;simp only;omega) _);have hx2:=fun(v:Int)=>(qO hxs (1+b) v).1;have HQ2:=hid hq2;have HX2:=hid hx2
         by_cases htn:0<=t
         ·obtain⟨tn,rfl⟩:∃tn:Nat,t=(tn:Int):=⟨t.toNat,by omega⟩
          have hpc:=dO (hq2 (-1)).pc tn (by have:=hq.lp;omega);have ac7:=fU (hx2 (-1)) (1+b);have hsc2:(wr.setCell ⟨SB,1+b,none⟩ (.int .i64 (-1))).cell? ⟨SB,1+b,none⟩=some (.int .i64 ((S.set (1+b) (-1)).getD (1+b) 0)):=by
           rw[(hx2 (-1)).cell,KY _ (1+b) (by rw[agA];omega),afG,afE (by rw[agA];omega),agr]
          clear hq2 hx2 hq hxs hrow hnx ht hnl hidx;go_upto_region 23 with fail
          have hq9:=HQ2.out (-1);have hx9:=HX2.out (-1);obtain⟨W9,hW9⟩:=afC (wr.setCell ⟨SB,1+b,none⟩ (.int .i64 (-1)));rw[<-hW9]at hq9 hx9 hpc ac7 hsc2⊢;obtain⟨v,hv⟩:=afC (p.getD tn 0);rw[<-hv]at hpc;have hvv:v=(if (0:Int)<=(tn:Int)then p.getD (tn:Int).toNat 0 else -1):=(by rw[afR htn,hv,afY]);have hq10:=hq9.oth (B:=SB) (wy:=W9.setCell ⟨SB,1+b,none⟩ (.int .i64 v)) (by have:=UR.out;omega) (qO hx9 (1+b) v).2 ((afI _ W9).setCell (p:=⟨SB,1+b,none⟩) (by have:=UR.out;simp only;omega) _);have Yd:=(qO hx9 (1+b) v).1;rw[aiv]at Yd;have ac8:=hid hq10;have ac9:=hid Yd;have HNN:=hid (HNX.out v hvv);clear hW9 hq9 hx9 hq10 Yd hvv hv HQ2 HX2 HNX;go_wp2_with fail
          exact⟨⟨b+1,S.set (1+b) v,by simp,by omega,ac8.out,ac9.out,by rw[agA];exact hSl,HNN⟩,by simp[RowKit.intOf];omega⟩
         ·have hv:(-1:Int)=(if 0<=t then p.getD t.toNat 0 else -1):=by rw[afO htn]
          have HV:=hid hv;clear hq2 hx2 hq hxs hrow hnx ht hv hnl hidx;go_wp2_with fail
          exact⟨⟨b+1,S.set (1+b) (-1),by simp,by omega,HQ2.out (-1),HX2.out (-1),by rw[agA];exact hSl,hid (HNX.out (-1) HV.out)⟩,by simp[RowKit.intOf];omega⟩
        ·have P9:¬(b:Int)<256:=by omega
         have hSe:S=jR next p k own:=by
          have hlr:(jR next p k own).length=257:=by
           unfold jR;rw[agl,agf,dX HNl.out hlt]
          refine agJ fun i=>?_
          cases i with
          | zero=>rw[hSp.out.1];rfl
          | succ i =>
           by_cases hi:i<256
           ·exact hSp.out.2 i (by omega)
           ·rw[af5 (by omega),af5 (by omega)]
         have aay:=KZ HNl.out hlt HPL.out hst.out.2.1;have hSg:Sg S:=(by rw[hSe,HW.out];exact aay);have hT:∀U∈x.1,Sg U:=HTT.out;have hnd:x.1.Nodup:=HND.out;have hlk:=aav (S:=S) hq.mp hSg hT hnd;have hmp:=hq.mp;have hel:=vF 0 x.1;have Jo:=dO hq.nb k (by have:=hq.l2;omega);have hfz:=fU hq.nb k;have HQ:=hid hq;have aaz:ptS next p x k=(if fi x.1 S<x.1.length then x.1 else x.1++[S],x.2.set k (fi x.1 S:Int)):=by
          unfold ptS;rw[afO (by rw[<-HW.out];omega),<-HW.out,<-hSe]
         have aaA:=hid aaz;clear hSe aay aaz hq;have hfl:=PZ x.1 S;obtain⟨fk,hfk⟩:=afC (fi x.1 S)
         by_cases hfi:fi x.1 S<x.1.length
         ·rw[afR hfi,agL hfi,<-hfk]at hlk
          have hrel:∃k2:Nat,(Value.int .i64 ((k:Int)+1))=.int .i64 k2/\k2<=n/\Nq W1 M NB PC n p (ptR next p k2) (wr.setCell ⟨NB,k,none⟩ (.int .i64 fk)):=by
           refine⟨k+1,by simp,by omega,?_⟩;rw[hsucc.out,aaA.out,afR hfi,<-hfk];have:=HQ.out.Ns hnw (by have:=HNM.out;omega) (by have:=HNM.out;omega) k fk;simp only[aiv]at this;exact this
          have vg:=hid hrel;have HXS:=hid hxs;clear hrel hfk hfi hT hnd hmp hel hfl hxs;go_wp2_with (first
           | ((with_reducible refine P7 ?_);refine oG rfl HXS.out hSl ?_)
           | ((with_reducible refine P8 ?_);refine oH rfl rfl hlk ?_))
          exact⟨vg.out,by simp[RowKit.intOf];omega⟩
         ·rw[afO hfi,agC hfi]at hlk
          have hfe:fi x.1 S=x.1.length:=(by omega);have HXS:=hid hxs;have HMP:=hid hmp;have HT2:=hid hT;have ada:=hid hnd;have HFI:=hid hfi;have HFE:=hid hfe;clear hfk hfi hT hnd hfl hxs hfe;obtain⟨es,hes⟩:=afC ((eU 0 x.1).toArray);have UU:es.size=x.1.length:=(by rw[hes];simpa using hel);rw[<-hes]at hmp;have hln:(Builtin.len_ #[185] 3 #[.map (some M)]).run Tryz.prog wr=.ok (.int .i64 x.1.length) wr:=by
           have:=run_len_map (P:=Tryz.prog) wr 185 3 M es x.1.length (by rw[show Tryz.prog.mapKeyOf 185=188 by kernel_rfl,show Tryz.prog.mapElemOf 185=3 by kernel_rfl];exact Tryz.underlying185) hmp;rw[UU]at this;exact this
          have HES:=hid hes;clear hes hel;go_wp2_with (first
           | ((with_reducible refine P7 ?_);refine oG rfl HXS.out hSl ?_)
           | ((with_reducible refine P8 ?_);refine oH rfl rfl hlk ?_)
           | ((with_reducible refine Yc ?_);refine Ba (T:=x.1) (S:=S) rfl rfl rfl HMP.out hSg HT2.out ada.out HFI.out ?_;rintro W8 hm8 hb8;have Ye:Bx W8 NB 3 (ci (x.2.set k (-1))):=(hb8.same NB HQ.out.nb.lt (by have:=HNM.out;omega)).trans HQ.out.nb;have aeK:=dO Ye k (by have h77:(x.2.set k (-1)).length=n:=HQ.out.l2;omega);have ae0:=fU Ye k))
          have adb:Below W1.heap.size wr W8:=⟨hb8.low.os,hb8.low.tape,hb8.low.output,hb8.low.size,fun j hj=>hb8.same j (by have:=HQ.out.lo.size;omega) (by omega)⟩;have hq8:Nq W1 M NB PC n p (x.1++[S],x.2.set k (-1)) W8:=⟨hm8,Ye,(hb8.same PC HQ.out.pc.lt (by omega)).trans HQ.out.pc,HQ.out.lo.trans adb,HQ.out.l2,HQ.out.lp⟩;have hq9:=hq8.Ns hnw (by have:=HNM.out;omega) (by have:=HNM.out;omega) k (x.1.length:Int);simp only[aiv]at hq9;exact⟨⟨k+1,by simp,by omega,by rw[hsucc.out,aaA.out,afO HFI.out,HFE.out];exact hq9⟩,by simp[RowKit.intOf];omega⟩
     ·have hk1:¬(k:Int)<(n:Int):=by omega
      obtain rfl:k=n:=by omega
      obtain⟨x,hx⟩:=afC (ptR next p k)
      have hx2:x=ptR next p p.length:=(by rw[hx,HPL.out])
      rw[<-hx]at hq;have hI:=ptI next p p.length afD
      have hcl:=Jk (next:=next) hst.out.1;have hcn:=yS next p
      rw[<-hx2]at hI hcl hcn;have hLx:∀F:Nat,(p.length:Int)-m<((F+1:Nat):Int)->(if (x.1.length:Int)=m then x.2 else ptL next F x.1.length x.2)=L:=by
       intro F hF;have:=hst.out.2.2 (F+1) hF;unfold ptL at this;rw[<-hx2]at this;exact this
      have hmp:=hq.mp;obtain⟨es,hes⟩:=afC ((eU 0 x.1).toArray);have UU:es.size=x.1.length:=(by rw[hes];simpa using vF 0 x.1);rw[<-hes]at hmp;obtain⟨q,hqq⟩:=afC x.1.length;have hln:(Builtin.len_ #[185] 3 #[.map (some M)]).run Tryz.prog wr=.ok (.int .i64 q) wr:=by
       have:=run_len_map (P:=Tryz.prog) wr 185 3 M es x.1.length (by rw[show Tryz.prog.mapKeyOf 185=188 by kernel_rfl,show Tryz.prog.mapElemOf 185=3 by kernel_rfl];exact Tryz.underlying185) hmp;rw[UU,<-hqq]at this;exact this
      rw[<-hqq]at hcl hcn hLx;have HQ:=hid hq;have HI:=hid hI;have HCL:=hid hcl;have aaB:=hid hcn;have HLX:=hid hLx;have HQQ:=hid hqq;clear hmp hes UU hqq hq hI hcl hcn hLx hx hx2
      by_cases hqm:(q:Int)=m
      ·have hL:L=x.2:=by
        have:=HLX.out 1000 (by have:=HPL.out;omega);rw[afR hqm]at this;exact this.symm
       have hfin:Below w.heap.size w wr:=HB0.out.trans ((HB1.out.mono HB0.out.size).trans (HQ.out.lo.mono (by have:=Ji.out;have:=HBX.out;omega)));have hbe:(decide ((q:Int)=m))=true:=agL hqm;have HL:=hid hL;have HFin:=hid hfin;clear hL hfin;go_wp2_with fail
       exact afJ (v:=.slice (some ⟨NB,0,none⟩) k k) (by simp[results,Tryz.results68,go_sem]) rfl ⟨NB,⟨k,rfl⟩,by rw[HL.out];exact HQ.out.nb,by have:=HNM.out;have:=Ji.out;have:=HBX.out;omega,HFin.out⟩
      ·have hqk:q<=k:=by have:=HI.out.most;have:=HPL.out;have:=HQQ.out;omega
       have hrel:∃(PB':Nat)(m2:Int)(p2:List Int),(Value.slice (some ⟨NB,0,none⟩) k k)=.slice (some ⟨PB',0,none⟩) k k/\(Value.int .i64 (q:Int))=.int .i64 m2/\Pq W1 PB' k p2 wr/\W1.heap.size<=PB' /\ -1<=m2/\m2<=k/\Hid (Cov m2 p2/\(∀x∈p2,-1<=x/\x<600)/\∀F:Nat,(p2.length:Int)-m2<F->ptL next F m2 p2=L):=by
        refine⟨NB,q,x.2,rfl,rfl,⟨HQ.out.nb,HQ.out.lo,HQ.out.l2⟩,by have:=HNM.out;omega,by omega,by omega,hid ⟨aaB.out,fun v hv=>?_,fun F hF=>?_⟩⟩
        ·obtain⟨j,hj,rfl⟩:=ag5 hv
         have:=HI.out.vals j (by have:=HI.out.len;omega);rw[afG,afE hj,agr]at this;have:=HQQ.out;omega
        ·have h1:=HLX.out 2000 (by have:=HPL.out;omega)
         rw[afO hqm]at h1;rw[<-h1];refine yT next _ _ _ _ aaB.out hF (by have:=HQ.out.l2;omega) (by have:=HQ.out.l2;omega)
       have PY:600-((q:Int)+1).toNat<600-(m+1).toNat:=(by have:=HCL.out;omega);have vg:=hid hrel;have X3:=hid PY;clear hrel PY;go_wp2_with fail
       exact⟨vg.out,X3.out⟩
end
section
def bF(part:List Int)(s:Int):Int:=part.getD s.toNat 0
def ixP(part st:List Int)(tzo:Int):Nat:=(st.map (bF part)).findIdx (· == bF part tzo)
def lsT(part:List Int)(x:List Int×List Int)(tzo:Int):List Int×List Int:=
 if tzo<0\/bF part tzo<0 then (x.1,x.2++[-1])else (if ixP part x.1 tzo<x.1.length then x.1 else x.1++[tzo],x.2++[(ixP part x.1 tzo:Int)])
def lsR(next part:List Int)(x:List Int×List Int)(i:Nat):List Int×List Int:=(rowOf next (x.1.getD i 0).toNat).foldl (lsT part) x
def lsL(next rule part:List Int):Nat->Nat->List Int×List Int->List Int->List Int×List Int
 | 0,_,x,ru=>(x.2,ru)
 | f+1,i,x,ru=>if i<x.1.length then lsL next rule part f (i+1) (lsR next part x i) (ru++[rule.getD (x.1.getD i 0).toNat 0])else (x.2,ru)
def bD(next rule:List Int):List Int×List Int:=lsL next rule (lC next rule) (rule.length+1) 0 ([0],[]) []
structure LsI(part:List Int)(n:Nat)(st nx:List Int):Prop where
 one:1<=st.length
 nd:(st.map (bF part)).Nodup
 in_:∀s∈st,0<=s/\s<(n:Int)
 nx:∀t∈nx,-1<=t/\t<(st.length:Int)
theorem LsI.len{part:List Int}{n:Nat}{st nx:List Int}(h:LsI part n st nx):st.length<=n:=by
 have nd:st.Nodup:=by
  have:=h.nd;exact (ahb.1 this).imp fun hne e=>hne (by rw[e])
 have:=agQ (l₂:=(List.range n).map fun i:Nat=>(i:Int)) nd fun x hx=>by
  have:=h.in_ x hx;rw[agv];exact⟨x.toNat,by rw[agH];omega,by omega⟩
 simpa using this
theorem LsI.step{part:List Int}{n:Nat}{x:List Int×List Int}(h:LsI part n x.1 x.2)(tzo:Int)(ht:tzo<(n:Int)):LsI part n (lsT part x tzo).1 (lsT part x tzo).2/\(lsT part x tzo).2.length=x.2.length+1/\x.1.length<=(lsT part x tzo).1.length:=by
 unfold lsT;split
 ·refine⟨⟨h.one,h.nd,h.in_,fun t hm=>?_⟩,by simp,agq _⟩
  have:=h.one;rcases af2.1 hm with hm|hm
  ·exact h.nx t hm
  ·rw[afK.1 hm];omega
 ·rename_i hc
  have hto:0<=tzo:=by omega
  by_cases hf:ixP part x.1 tzo<x.1.length
  ·rw[afR hf]
   refine⟨⟨h.one,h.nd,h.in_,fun t hm=>?_⟩,by simp,agq _⟩;rcases af2.1 hm with hm|hm
   ·exact h.nx t hm
   ·rw[afK.1 hm]
    show -1<=((ixP part x.1 tzo:Nat):Int)/\((ixP part x.1 tzo:Nat):Int)<(x.1.length:Int)
    omega
  ·rw[afO hf]
   have hle:ixP part x.1 tzo<=x.1.length:=by
    unfold ixP;have:=ahg (p:=(· == bF part tzo)) (xs:=x.1.map (bF part))
    simpa using this
   have hno:bF part tzo∉x.1.map (bF part):=fun hm=>by
    have:=agT (p:=(· == bF part tzo)) ⟨_,hm,by simp⟩;rw[agf]at this;exact hf this
   refine⟨⟨by simp,?_,fun s hs=>?_,fun t hm=>?_⟩,by simp,by simp⟩
   ·simp only
    rw[agt,aij,ahD];exact⟨h.nd,by simp,fun a ha b hb e=>hno (by rw[afK.1 hb]at e;rw[<-e];exact ha)⟩
   ·rcases af2.1 hs with hs|hs
    ·exact h.in_ s hs
    ·rw[afK.1 hs];exact⟨hto,ht⟩
   ·simp only
    rw[afP,ags];rcases af2.1 hm with hm|hm
    ·have:=h.nx t hm
     omega
    ·rw[afK.1 hm];omega
theorem LsI.steps{part:List Int}{n:Nat}: ∀(l:List Int) {x:List Int×List Int},LsI part n x.1 x.2->(∀t∈l,t<(n:Int))->LsI part n (l.foldl (lsT part) x).1 (l.foldl (lsT part) x).2/\(l.foldl (lsT part) x).2.length=x.2.length+l.length/\x.1.length<=(l.foldl (lsT part) x).1.length
 | [],x,h,_=>⟨h,rfl,agq _⟩
 | t::l,x,h,hl=>by
  obtain⟨h1,h2,h3⟩:=h.step t (hl t (afS ..));obtain⟨h4,h5,h6⟩:=LsI.steps l h1 fun t ht=>hl t (afV _ ht);rw[agw];exact⟨h4,by rw[h5,h2,agl];omega,agb h3 h6⟩
theorem Xh{next rule part:List Int}(hok:okT next rule=true):∀(f i:Nat)(x:List Int×List Int)(ru:List Int),LsI part rule.length x.1 x.2->i<=x.1.length->rule.length<f+i->x.2.length=256*i->ru.length=i->(∀r∈ru,-1<=r/\r<16)->okT (lsL next rule part f i x ru).1 (lsL next rule part f i x ru).2=true
 | 0,i,x,ru,h,hi,hf,_,_,_=>by have:=h.len;omega
 | f+1,i,x,ru,h,hi,hf,hx,hr,hrr=>by
  have hok2:=hok;simp only[okT,afU,afZ]at hok2;obtain⟨g1,g2,g3,g4,g5⟩:=hok2;unfold lsL;split
  ·rename_i hlt
   have hs:=h.in_ (x.1.getD i 0) (by rw[afG,afE hlt,agr];exact agu _);have hrow:=dX (i:=(x.1.getD i 0).toNat) g3 (by omega);obtain⟨h1,h2,h3⟩:=LsI.steps (rowOf next (x.1.getD i 0).toNat) h fun t ht=>by
    have:=agk.1 g5 t (pU ht);simp only[afU,afZ]at this;exact this.2
   refine Xh hok f (i+1) _ _ h1 (by unfold lsR;omega) (by omega) (by unfold lsR;rw[h2,hrow,hx];omega) (by rw[afP,hr];rfl) fun r hm=>?_;rcases af2.1 hm with hm|hm
   ·exact hrr r hm
   ·rw[afK.1 hm]
    have hj:(x.1.getD i 0).toNat<rule.length:=(by omega);have:=agk.1 g4 (rule.getD (x.1.getD i 0).toNat 0) (by rw[afG,afE hj,agr];exact agu _);simp only[afU,afZ]at this;exact this
  ·have hie:i=x.1.length:=by omega
   have hl:=h.len;have ho:=h.one;have hnx:=h.nx;simp only[okT,afU,afZ];refine⟨by omega,by omega,by omega,?_,?_⟩
   ·refine agk.2 fun r hm=>?_
    have:=hrr r hm;simp only[afU,afZ];exact this
   ·refine agk.2 fun t hm=>?_
    have:=hnx t hm;simp only[afU,afZ];omega
theorem yV{next rule:List Int}(hok:okT next rule=true):okT (bD next rule).1 (bD next rule).2=true:=by
 have hok2:=hok;simp only[okT,afU,afZ]at hok2;exact Xh hok _ 0 _ _ ⟨by simp,by simp,fun s hs=>by rw[afK.1 hs];omega,by simp⟩ (by simp) (by omega) (by simp) rfl (by simp)
def nxt(next:List Int)(s:Int)(b:Nat):Int:=if s<0 then -1 else next.getD (256*s.toNat+b) 0
def runN(next:List Int)(s:Int)(w:List Nat):Int:=w.foldl (nxt next) s
def acc(next rule:List Int)(s:Int)(w:List Nat):Int:=if runN next s w<0 then -1 else rule.getD (runN next s w).toNat 0
def Wrd(w:List Nat):Prop:=∀b∈w,b<256
theorem Wrd.cons{b:Nat}{w:List Nat}(hb:b<256)(h:Wrd w):Wrd (b::w):=fun x hx=>by
 rcases afX.1 hx with rfl|hx
 ·exact hb
 ·exact h x hx
structure Tb(next rule:List Int):Prop where
 one:1<=rule.length
 len:next.length=256*rule.length
 nb:∀i,i<256*rule.length -> -1<=next.getD i 0/\next.getD i 0<(rule.length:Int)
 rb:∀i,i<rule.length -> -1<=rule.getD i 0/\rule.getD i 0<16
theorem Tb.of{next rule:List Int}(hok:okT next rule=true):Tb next rule:=by
 simp only[okT,afU,afZ]at hok;obtain⟨g1,g2,g3,g4,g5⟩:=hok;refine⟨by omega,by omega,fun i hi=>?_,fun i hi=>?_⟩
 ·have hl:i<next.length:=by omega
  have:=agk.1 g5 (next.getD i 0) (by rw[afG,afE hl,agr];exact agu _);simp only[afU,afZ]at this;exact this
 ·have:=agk.1 g4 (rule.getD i 0) (by rw[afG,afE hi,agr];exact agu _)
  simp only[afU,afZ]at this;exact this
section
variable {next rule : List Int} (T : Tb next rule)
include T
theorem jo{s:Int}(hs:s<(rule.length:Int)){b:Nat}(hb:b<256): -1<=nxt next s b/\nxt next s b<(rule.length:Int):=by
 unfold nxt;split
 ·omega
 ·exact T.nb _ (by omega)
theorem jS{i:Nat}(hi:i<rule.length){b:Nat}(hb:b<256):(rowOf next i)[b]?=some (nxt next (i:Int) b):=by
 have hl:=T.len;unfold rowOf nxt;rw[ag1,afR hb,aii,afO (by omega),afY,afG,afE (by omega),agr]
end
theorem Ew(next:List Int):∀(w:List Nat)(s:Int),s<0->runN next s w<0
 | [],s,h=>h
 | b::w,s,h=>Ew next w _ (by unfold nxt;rw[afR h];omega)
theorem iE{next rule:List Int}{s:Int}(h:s<0)(w:List Nat):acc next rule s w = -1:=by
 unfold acc;rw[afR (Ew next w s h)]
theorem iR(next rule:List Int)(s:Int)(b:Nat)(w:List Nat):acc next rule s (b::w)=acc next rule (nxt next s b) w:=rfl
theorem jT{next rule:List Int}(i:Nat):acc next rule (i:Int) []=rule.getD i 0:=by
 unfold acc
 show(if (i:Int)<0 then (-1:Int)else rule.getD (i:Int).toNat 0)=_
 rw[afO (by omega),afY]
def LvS(next rule:List Int)(s:Int):Prop:=∃w,Wrd w/\0<=acc next rule s w
theorem zC{next rule:List Int}{s:Int}(h:s<0):¬LvS next rule s:=fun ⟨w,_,h2⟩=>by
 rw[iE h]at h2;omega
theorem Gy{rule:List Int}{i:Nat}(hi:i<rule.length):(rule.map fun r=>decide (0<=r)).getD i false=decide (0<=rule.getD i 0):=by
 simp[afG,af8,afE hi]
section
variable {next rule : List Int} (T : Tb next rule)
include T
theorem CV{o:List Bool}(ho:o.length=rule.length)(h:∀i,i<rule.length->o.getD i false=true->LvS next rule (i:Int)):∀k,k<=rule.length->∀i,i<rule.length->(lvR next o k).1.getD i false=true->LvS next rule (i:Int)
 | 0,_,i,hi,h0=>h i hi h0
 | k+1,hk,i,hi,h0=>by
  have ih:=CV ho h k (by omega);rw[oz]at h0;unfold lvS at h0;split at h0
  ·exact ih i hi h0
  split at h0
  ·rename_i hany
   by_cases e:k=i
   ·subst e
    obtain⟨t,ht,hg⟩:=ahO.1 hany;obtain⟨b,hb,hbt⟩:=ag5 ht;have hb2:b<256:=(by rw[dX T.len (by omega)]at hb;exact hb);have hrow:=jS T (i:=k) (by omega) hb2;rw[afE hb,hbt]at hrow;have hte:t=nxt next (k:Int) b:=agc hrow
    have hbd:=jo T (s:=(k:Int)) (by omega) hb2;unfold fZ at hg;simp only[afU,afZ]at hg;obtain⟨w,hw,ha⟩:=ih t.toNat (by omega) hg.2;refine⟨b::w,hw.cons hb2,?_⟩;rw[iR,<-hte];rw[ahW hg.1]at ha;exact ha
   ·simp only at h0
    rw[afG,agM e,<-afG]at h0;exact ih i hi h0
  ·exact ih i hi h0
theorem CX:∀(f:Nat)(o:List Bool),o.length=rule.length->(∀i,i<rule.length->o.getD i false=true->LvS next rule (i:Int))->∀i,i<rule.length->(lvL next f o).getD i false=true->LvS next rule (i:Int)
 | 0,o,ho,h,i,hi,h0=>h i hi h0
 | f+1,o,ho,h,i,hi,h0=>by
  have h1:=CV T ho h o.length (by omega);unfold lvL at h0;split at h0
  ·exact CX f _ ((pR next o _).trans ho) h1 i hi h0
  ·exact h1 i hi h0
theorem JB{i:Nat}(hi:i<rule.length)(h:(kF next rule).getD i false=true):LvS next rule (i:Int):=
 CX T _ _ (by simp) (fun j hj h0=>⟨[],(fun _ h=>by cases h),by
  rw[jT];rw[Gy hj]at h0;exact of_decide_eq_true h0⟩) i hi h
end
theorem QI(next:List Int)(x:List Bool×Bool)(i j:Nat)(h:x.1.getD j false=true):(lvS next x i).1.getD j false=true:=by
 unfold lvS;split
 ·exact h
 split
 ·simp only
  by_cases e:i=j
  ·subst e
   have hl:i<x.1.length:=by
    rw[afG]at h
    cases hx:x.1[i]? with
    | none=>rw[hx]at h;cases h
    | some v=>exact (afW.1 hx).1
   rw[afG,agX hl];rfl
  ·rw[afG,agM e,<-afG]
   exact h
 ·exact h
theorem zD(next:List Int)(o:List Bool)(j:Nat)(h:o.getD j false=true):∀k,(lvR next o k).1.getD j false=true
 | 0=>h
 | k+1=>by rw[oz];exact QI next _ _ _ (zD next o j h k)
theorem Gz(next:List Int)(j:Nat):∀(f:Nat)(o:List Bool),o.getD j false=true->(lvL next f o).getD j false=true
 | 0,o,h=>h
 | f+1,o,h=>by
  unfold lvL;split
  ·exact Gz next j f _ (zD next o j h _)
  ·exact zD next o j h _
theorem vP(next:List Int)(o:List Bool):∀k,(lvR next o k).2=false->(lvR next o k).1=o/\∀i,i<k->o.getD i false=true\/(rowOf next i).any (fZ o)=false
 | 0,_=>⟨rfl,fun i h=>absurd h (agp _)⟩
 | k+1,h=>by
  rw[oz]at h⊢;unfold lvS at h⊢;split at h
  ·rename_i hc
   obtain⟨h1,h2⟩:=vP next o k h
   rw[afR hc];refine⟨h1,fun i hi=>?_⟩
   by_cases e:i=k
   ·subst e;rw[h1]at hc;exact .inl hc
   ·exact h2 i (by omega)
  ·split at h
   ·cases h
   ·rename_i hc hd
    obtain⟨h1,h2⟩:=vP next o k h
    rw[afO hc,afO hd];refine⟨h1,fun i hi=>?_⟩
    by_cases e:i=k
    ·subst e;rw[h1]at hd;exact .inr (agU.2 hd)
    ·exact h2 i (by omega)
theorem CY(next:List Int):∀(f:Nat)(o:List Bool),cF o<f->∀i,i<o.length->(lvL next f o).getD i false=true\/(rowOf next i).any (fZ (lvL next f o))=false
 | 0,o,h,i,hi=>absurd h (agp _)
 | f+1,o,h,i,hi=>by
  unfold lvL;split
  ·rename_i hm
   have:=(oC next o o.length afD).2 hm;exact CY next f _ (by omega) i (by rw[pR];exact hi)
  ·rename_i hm
   obtain⟨h1,h2⟩:=vP next o o.length (agU.2 hm)
   rw[h1];exact h2 i hi
theorem CZ{next rule:List Int}(T:Tb next rule):∀(w:List Nat)(i:Nat),Wrd w->i<rule.length->0<=acc next rule (i:Int) w->(kF next rule).getD i false=true
 | [],i,_,hi,h=>by
  rw[jT]at h;exact Gz next i _ _ (by rw[Gy hi];exact agL h)
 | b::w,i,hw,hi,h=>by
  have hb:b<256:=hw b (afS ..);rw[iR]at h;have hbd:=jo T (s:=(i:Int)) (by omega) hb;have h0:0<=nxt next (i:Int) b:=agj fun hn=>by
   rw[iE (by omega)]at h;omega
  have ih:=CZ T w (nxt next (i:Int) b).toNat (fun x hx=>hw x (afV _ hx)) (by omega) (by rw[ahW h0];exact h);rcases CY next (rule.length+1) (rule.map fun r=>decide (0<=r)) (by have:=Xe (rule.map fun r=>decide (0<=r));rw[agf]at this;omega) i (by rw[agf];exact hi)with h1|h1
  ·exact h1
  ·have h2:(rowOf next i).any (fZ (kF next rule))=true:=ahO.2 ⟨_,af7 (jS T hi hb),by
    unfold fZ;simp only[afU,afZ];exact⟨h0,ih⟩⟩
   change (rowOf next i).any (fZ (kF next rule))=false at h1;rw[h2]at h1
   cases h1
theorem zF{next rule:List Int}(T:Tb next rule){i:Nat}(hi:i<rule.length):(kF next rule).getD i false=true↔LvS next rule (i:Int):=
 ⟨JB T hi,fun ⟨w,hw,h⟩=>CZ T w i hw hi h⟩
end
end Go.Proofs.YtkjgogdkdejljaaGreatDoor.Df
