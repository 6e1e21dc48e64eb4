import Derived.Test.YtkjgogdkdejljaaGreatDoorDfD5
set_option maxRecDepth 100000
set_option maxHeartbeats 40000000
namespace Go.Proofs.YtkjgogdkdejljaaGreatDoor.Df
section
open Go.Lib (hid)
open Go Go.Proofs Go.RowKit
attribute [local go_sem] Oper.semAt_some
def IK(next rule:List Int)(w:World)(e:Ending)(w':World):Prop:=∃ PB cp,e = .returned (.slice (some ⟨PB,0,none⟩) rule.length cp)∧Bx w' PB 3 (ci (qK next rule))∧w.heap.size≤PB∧Below w.heap.size w w'
theorem jI{W:World}{B:Nat}{l:List Int}(h:Bx W B 3 (ci l))(j:Nat)(hj:j<l.length):W.cell? ⟨B,j,none⟩=some (.int .i64 (l.getD j 0)):=by
 rw[h.cell,JY l j hj,List.getD_eq_getElem?_getD,List.getElem?_eq_getElem hj,Option.getD_some]
theorem uX{W:World}{B:Nat}{t:TypeId}{l:List Int}(h:Bx W B t (ci l))(j:Nat)(x:Int):Bx (W.setCell ⟨B,j,none⟩ (.int .i64 x)) B t (ci (l.set j x))∧(∀ k,k≠B→(W.setCell ⟨B,j,none⟩ (.int .i64 x)).heap[k]?=W.heap[k]?):=by
 refine⟨?_,fun k hk=>heap_setCell_other W ⟨B,j,none⟩ k _ hk⟩;unfold Bx;rw[heap_setCell_same W B j _ t (.int .i64 x) h,IJ]
theorem iZ{W:World}{B:Nat}{t:TypeId}{cs:Array Value}(h:Bx W B t cs)(j:Nat):W.frozen? ⟨B,j,none⟩=false:=by
 unfold Bx at h;simp[World.frozen?,h]
structure Pq(W1:World)(PB n:Nat)(p:List Int)(wz:World):Prop where
 pa:Bx wz PB 3 (ci p)
 lo:Below W1.heap.size W1 wz
 ln:p.length=n
theorem Pq.put{W1:World}{PB n:Nat}{p:List Int}{wz:World}(h:Pq W1 PB n p wz)(hP:W1.heap.size≤PB)(i:Nat)(x:Int):Pq W1 PB n (p.set i x) (wz.setCell ⟨PB,i,none⟩ (.int .i64 x)) :=
 ⟨(uX h.pa i x).1,h.lo.setCell (p:=⟨PB,i,none⟩) hP _,by rw[List.length_set];exact h.ln⟩
theorem Y2(S:List Int)(h:S.length=257):AX.sizeT Tryz.prog 188=some (S.map (Value.int .i64)).length:=by
 rw[List.length_map,h]
 kernel_rfl
theorem ones(S:List Int):(S.map (Value.int .i64)).all Value.oneCell'=true:=by
 rw[List.all_eq_true];intro v hv;obtain⟨x,_,rfl⟩:=List.mem_map.1 hv;rfl
theorem Wh:zT.length=256:=by kernel_rfl
theorem wY{ops:Array Oper}{rest:List Oper}{a:Act}{w:World}{Q:Exit→Act→World→Prop}{ty:TypeId}{pos:String}{after:Array Edge}{x y:Operand}{B:Nat}{S:List Int}(hx:a.eval x = .pointer (some ⟨B,0,none⟩))(hy:a.eval y=sgV S)(hS:S.length=257)(hB:Bx w B 188 (ci zS))
  (h:∀ W',Bx W' B 188 (ci S)→(∀ j,j≠B→W'.heap[j]?=w.heap[j]?)→AX.Same w W'→wpList Tryz.prog ops Q rest a W'):wpList Tryz.prog ops Q ({ dst:=none,op := .store 188 x y,type:=ty,pos:=pos,after:=after,guard:=none }::rest) a w :=
 AX.au (vs:=S.map (Value.int .i64)) hx hy (Y2 S hS) hB (by simp[ci,Ox,hS]) (ones S) fun W' h1 h2 h3=>h W' h1 h2 h3
theorem Wi{ops:Array Oper}{rest:List Oper}{a:Act}{w:World}{Q:Exit→Act→World→Prop}{ty:TypeId}{pos:String}{after:Array Edge}{x y:Operand}{dst:Option Tmp}(h:wpList Tryz.prog ops Q ({ dst:=dst,op := .store 188 x y,type:=ty,pos:=pos,after:=after,guard:=none }::rest) a w):wpList Tryz.prog ops Q ({ dst:=dst,op := .store 188 x y,type:=ty,pos:=pos,after:=after,guard:=none }::rest) a w:=h
theorem uY:∀(o:Nat)(T:List (List Int)),(fC o T).length=T.length
 | _,[]=>rfl
 | o,_::T=>by simp[fC,uY (o+1) T]
theorem sJ(next p:List Int):∀ k,∀ S∈(ptR next p k).1,∃ j,j<k∧S=sG next p j (p.getD j 0)
 | 0,S,h=>by simp[ptR] at h
 | k+1,S,h=>by
  rw[yJ] at h;unfold ptS at h;split at h
  ·obtain⟨j,h1,h2⟩:=sJ next p k S h
   exact⟨j,by omega,h2⟩
  ·simp only at h
   split at h
   ·obtain⟨j,h1,h2⟩:=sJ next p k S h
    exact⟨j,by omega,h2⟩
   ·rcases List.mem_append.1 h with h | h
    ·obtain⟨j,h1,h2⟩:=sJ next p k S h
     exact⟨j,by omega,h2⟩
    ·exact⟨k,by omega,List.mem_singleton.1 h⟩
theorem JZ{next p:List Int}{n j:Nat}(hnl:next.length=256*n)(hj:j<n)(hl:p.length=n)(hp:∀ x∈p,-1≤x∧x<600):Sg (sG next p j (p.getD j 0)):=by
 refine⟨by unfold sG;rw[List.length_cons,List.length_map,iY hnl hj],fun z hz=>?_⟩;have hg:∀ i,i<p.length → -1≤p.getD i 0∧p.getD i 0<600:=fun i hi=>hp _ (by rw[List.getD_eq_getElem?_getD,List.getElem?_eq_getElem hi,Option.getD_some];exact List.getElem_mem _);rcases List.mem_cons.1 hz with hz | hz
 ·have:=hg j (by omega)
  omega
 ·obtain⟨t,_,rfl⟩:=List.mem_map.1 hz
  split
  ·by_cases htn:t.toNat<p.length
   ·have:=hg _ htn
    omega
   ·rw[List.getD_eq_getElem?_getD,List.getElem?_eq_none (by omega)]
    simp
  ·omega
section
variable {ops : Array Oper} {rest : List Oper} {a : Act} {w : World} {Q : Exit → Act → World → Prop} {dst : Option Tmp} {ty : TypeId} {pos : String} {after : Array Edge} {xm xk xv : Operand}
theorem OA(h:wpList Tryz.prog ops Q ({ dst:=dst,op := .lookup 185 xm xk true,type:=ty,pos:=pos,after:=after,guard:=none }::rest) a w):wpList Tryz.prog ops Q ({ dst:=dst,op := .lookup 185 xm xk true,type:=ty,pos:=pos,after:=after,guard:=none }::rest) a w:=h
theorem oq{r:Nat}{S:List Int}{v:Value}(hm:a.eval xm = .map (some r))(hk:a.eval xk=sgV S)(hr:(Instr.lookup 185 (.map (some r)) (sgV S) true).run Tryz.prog w = .ok v w)(h:wpList Tryz.prog ops Q rest (a.put dst v) w):wpList Tryz.prog ops Q ({ dst:=dst,op := .lookup 185 xm xk true,type:=ty,pos:=pos,after:=after,guard:=none }::rest) a w:=by
 refine Go.Great.wpList_readTo rfl dst rfl v ?_ h;unfold execOp;simp only[hm,hk];simp[hr]
theorem Wq(h:wpList Tryz.prog ops Q ({ dst:=none,op := .mapUpdate 185 xm xk xv,type:=ty,pos:=pos,after:=after,guard:=none }::rest) a w):wpList Tryz.prog ops Q ({ dst:=none,op := .mapUpdate 185 xm xk xv,type:=ty,pos:=pos,after:=after,guard:=none }::rest) a w:=h
theorem AA{r:Nat}{T:List (List Int)}{S:List Int}(hm:a.eval xm = .map (some r))(hk:a.eval xk=sgV S)(hv:a.eval xv = .int .i64 T.length)(hb:w.heap[r]?=some (.map (fC 0 T).toArray T.length))(hS:Sg S)(hT:∀ U∈T,Sg U)(hn:T.Nodup)(hno:¬fi T S<T.length)
  (h:∀ W',W'.heap[r]?=some (.map (fC 0 (T++[S])).toArray (T++[S]).length)→AX.But r w W'→wpList Tryz.prog ops Q rest a W'):wpList Tryz.prog ops Q ({ dst:=none,op := .mapUpdate 185 xm xk xv,type:=ty,pos:=pos,after:=after,guard:=none }::rest) a w:=by
 obtain⟨W',hr,h1,h2⟩:=abC hb hS hT hn hno;refine wpList_plain rfl fun K hK=>?_;have hx:(execOp a.eval { dst:=none,op := .mapUpdate 185 xm xk xv,type:=ty,pos:=pos,after:=after,guard:=none }).run Tryz.prog w = .ok .skip W':=by
  simp only[execOp,hm,hk,hv,Sem.run_bind,hr];rfl
 unfold Oper.wp;rw[hx];exact hK _ _ (h _ h1 h2)
end
structure Nq(W1:World)(M NB PC n:Nat)(p:List Int)(x:List (List Int)×List Int)(wz:World):Prop where
 mp:wz.heap[M]?=some (.map (fC 0 x.1).toArray x.1.length)
 nb:Bx wz NB 3 (ci x.2)
 pc:Bx wz PC 3 (ci p)
 lo:Below W1.heap.size W1 wz
 l2:x.2.length=n
 lp:p.length=n
section
variable {W1 : World} {M NB PC n : Nat} {p : List Int} {x : List (List Int) × List Int} {wz wy : World}
theorem Nq.mlt(h:Nq W1 M NB PC n p x wz):M<wz.heap.size:=(Array.getElem?_eq_some_iff.1 h.mp).1
theorem Nq.low(h:Nq W1 M NB PC n p x wz)(hb:Below wz.heap.size wz wy):Nq W1 M NB PC n p x wy :=
 ⟨(hb.block M h.mlt).trans h.mp,h.nb.below hb h.nb.lt,h.pc.below hb h.pc.lt,h.lo.trans (hb.mono h.lo.size),h.l2,h.lp⟩
theorem Nq.oth(h:Nq W1 M NB PC n p x wz){B:Nat}(hB:B≠M∧B≠NB∧B≠PC)(hg:∀ j,j≠B→wy.heap[j]?=wz.heap[j]?)(hl:Below W1.heap.size wz wy):Nq W1 M NB PC n p x wy :=
 ⟨(hg M hB.1.symm).trans h.mp,(hg NB hB.2.1.symm).trans h.nb,(hg PC hB.2.2.symm).trans h.pc,h.lo.trans hl,h.l2,h.lp⟩
theorem Nq.Ws(h:Nq W1 M NB PC n p x wz)(hN:W1.heap.size≤NB)(h1:M≠NB)(h2:PC≠NB)(i:Nat)(v:Int):Nq W1 M NB PC n p (x.1,x.2.set i v) (wz.setCell ⟨NB,i,none⟩ (.int .i64 v)):=by
 obtain⟨g1,g2⟩:=uX h.nb i v;exact⟨(g2 M h1).trans h.mp,g1,(g2 PC h2).trans h.pc,h.lo.setCell (p:=⟨NB,i,none⟩) hN _,by simp only;rw[List.length_set];exact h.l2,h.lp⟩
end
theorem LM(next rule:List Int)(hok:okT next rule=true)(an ar:Option Addr)(cn cr:Nat)(hcn:next.length≤cn)(w:World)(hN:aK w an next)(hR:aK w ar rule) :
  Calls Tryz.prog 68 #[.agg #[.slice an next.length cn, .slice ar rule.length cr]] w (IK next rule w):=by
 have hok2:=hok;simp only[okT,Bool.and_eq_true,decide_eq_true_eq] at hok2;obtain⟨g1,g2,g3,g4,g5⟩:=hok2;obtain⟨n,hn⟩:∃ n,n=rule.length:=⟨_,rfl⟩;obtain⟨BX,hBX⟩:∃ BX,BX=w.heap.size:=⟨_,rfl⟩;obtain⟨W0,hW0⟩:∃ W0,W0=w.alloc (.cells #[.slice an next.length cn, .slice ar rule.length cr] 27):=⟨_,rfl⟩;have hb0:Below w.heap.size w W0:=by rw[hW0];exact (Below.refl w.heap.size w).alloc Nat.le.refl _
 have xb:Bx W0 BX 27 #[.slice an next.length cn, .slice ar rule.length cr]:=by rw[hW0,hBX];exact Bx.new w 27 _
 have hN0:=hN.below hb0 Nat.le.refl;have hR0:=hR.below hb0 Nat.le.refl;have hlv:=LJ next rule hok an ar cn cr hcn W0 hN0 hR0
 unfold IC at hlv;obtain⟨L,hL⟩:∃ L,L=qK next rule:=⟨_,rfl⟩
 unfold IK;rw[←hL];obtain⟨LV,hLV⟩:∃ LV,LV=yG next rule:=⟨_,rfl⟩
 rw[←hLV] at hlv;rw[←hn] at xb hlv hW0 ⊢;have y0:W0.cell? ⟨BX,0,none⟩=some (.slice an next.length cn):=xb.cell 0;have y1:W0.cell? ⟨BX,1,none⟩=some (.slice ar n cr):=xb.cell 1;obtain⟨nl,hnl⟩:∃ nl,nl=next.length:=⟨_,rfl⟩
 rw[←hnl] at xb hlv y0 hW0 ⊢;have HOK:=hid hok;have HN:=hid hn;have HNL:=hid hnl;have HLL:=hid hL;have HLV:=hid hLV;have HN0:=hid hN0;have HR0:=hid hR0;have HB0:=hid hb0;have HXB:=hid xb;have HBX:=hid hBX;have hn1:n≤512:=by omega
 have hn0:1≤n:=by omega
 have HN2:=hid (show nl=256*n by omega);have HG4:=hid g4;have HG5:=hid g5;have HCN:=hid (show nl≤cn by omega);clear hok g1 g2 g3 g4 g5 hN hR hn hnl hL hN0 hR0 hb0 xb hcn hLV;go_enter Tryz.func68,Tryz.ntmps68
 go_upto_region 1 with fail
 rw[←hW0,←hBX];clear hW0 hBX;go_upto_region 2 with (go_at_call 112;((with_reducible refine hlv.mono ?_);rintro e W1 ⟨LB,lc,rfl,hlb,abD,hb1⟩;have y0:=(hb1.cell (p:=⟨BX,0,none⟩) HXB.out.lt).trans y0;have y1:=(hb1.cell (p:=⟨BX,1,none⟩) HXB.out.lt).trans y1))
 have hmk:=mk25 n (by omega) W1;have hN1:=HN0.out.below hb1 Nat.le.refl;have hR1:=HR0.out.below hb1 Nat.le.refl;have HN1:=hid hN1;have HR1:=hid hR1;have HB1:=hid hb1;obtain⟨PB,hPB⟩:∃ PB,PB=W1.heap.size:=⟨_,rfl⟩;obtain⟨W2,hW2⟩:∃ W2,W2=W1.alloc (.cells (ci (List.replicate n 0)) 3):=⟨_,rfl⟩;have hq:Pq W1 PB n (List.replicate n 0) W2:=⟨by rw[hW2,hPB];exact Bx.new W1 3 _,by rw[hW2];exact (Below.refl _ W1).alloc Nat.le.refl _,by simp⟩;have yD:BX<W1.heap.size:=by have:=HXB.out.lt;have:=hb1.size;omega
 have y0:=(hq.lo.cell (p:=⟨BX,0,none⟩) yD).trans y0;have y1:=(hq.lo.cell (p:=⟨BX,1,none⟩) yD).trans y1;have HQ:=hid hq;have HPB:=hid hPB;have IE:=hid yD;have HLB:=hid hlb;have HLN:=hid (show LV.length=n by rw[HLV.out,Oq];exact HN.out.symm);clear hlv hN1 hR1 hb1 hq yD hlb abD;go_upto_region 3 with fail
 rw[←hW2,←hPB];clear hW2 hPB hmk;go_upto_region 4 with fail
 have VU:∃ p,Pq W1 PB n p W2∧Hid (∀ j,j<0→p[j]?=(sH next rule)[j]?):=⟨_,HQ.out,hid fun j hj=>absurd hj (Nat.not_lt_zero _)⟩;clear HQ y0 y1;go_loopw [25] (fun i wr=>∃ k:Nat,i = .int .i64 k∧k≤n∧∃ p,Pq W1 PB n p wr∧Hid (∀ j,j<k→p[j]?=(sH next rule)[j]?)) (fun i _=>n-(intOf i).toNat)
 case atStart=>exact⟨0,rfl,Nat.zero_le _,VU⟩
 case round =>
  obtain⟨k,rfl,hk,p,hq,hp⟩:=hrel;have hk0:(0:Int)≤(k:Int):=by omega
  by_cases hlt:k<n
  ·have hk1:(k:Int)<(n:Int):=by omega
   obtain⟨rb,ro,rfl,hrb,hrc⟩:=(HR1.out.below hq.lo Nat.le.refl).at (j:=k) (by have:=HN.out;omega);have hrg:rule.getD k 0=rule[k]'(by have:=HN.out;omega):=(by rw[List.getD_eq_getElem?_getD,List.getElem?_eq_getElem (by have:=HN.out;omega),Option.getD_some]);have hrr : -1≤rule.getD k 0∧rule.getD k 0<16:=by
    have:=List.all_eq_true.1 HG4.out _ (List.getElem_mem (show k<rule.length by have:=HN.out;omega));simp only[Bool.and_eq_true,decide_eq_true_eq] at this;rw[hrg];exact this
   rw[←hrg] at hrc;obtain⟨x,hx⟩:∃ x,x=rule.getD k 0:=⟨_,rfl⟩;rw[←hx] at hrc hrr;obtain⟨hr1,hr2⟩:=hrr;have hlc:=(HLB.out.cell k (by have:=HLN.out;omega));have hlc:=(hq.lo.cell (p:=⟨LB,k,none⟩) HLB.out.lt).trans hlc;have hpc:=jI hq.pa k (by have:=hq.ln;omega);have hfz:=iZ hq.pa k;obtain⟨b,hb⟩:∃ b,b=LV.getD k false:=⟨_,rfl⟩;rw[←hb] at hlc;have hne:LB≠PB:=(by have:=HLB.out.lt;have:=HPB.out;omega);have hpt:(sH next rule)[k]?=some (if b=true then x+1 else -1):=by
    unfold sH;rw[List.getElem?_map,List.getElem?_range (by have:=HN.out;omega),Option.map_some,←HLV.out,←hb,←hx]
   have HQ:=hid hq;have HPT:=hid hpt;clear hx hrg hq hrb hb hpt;go_upto_region 7 with fail
   have hq5:=HQ.out.put (Nat.le_of_eq HPB.out.symm) k (x+1);have hlc:(wr.setCell ⟨PB,k,none⟩ (.int .i64 (x+1))).cell? ⟨LB,k,none⟩=some (.bool b):=by
    have:=(hq5.lo.cell (p:=⟨LB,k,none⟩) HLB.out.lt).trans (HLB.out.cell k (by have:=HLN.out;omega));rw[this];have h2:=(HQ.out.lo.cell (p:=⟨LB,k,none⟩) HLB.out.lt).trans (HLB.out.cell k (by have:=HLN.out;omega));rw[←h2];exact hlc
   obtain⟨W5,hW5⟩:∃ W5,W5=wr.setCell ⟨PB,k,none⟩ (.int .i64 (x+1)):=⟨_,rfl⟩;rw[←hW5] at hq5 hlc ⊢;have hpc:=jI hq5.pa k (by have:=hq5.ln;omega);have hfz:=iZ hq5.pa k;have HQ5:=hid hq5;have hlast:∀ (v:Int),v=(if b=true then x+1 else -1)→∀ j,j<k+1→((p.set k (x+1)).set k v)[j]?=(sH next rule)[j]?:=by
    intro v hv j hj
    by_cases e:k=j
    ·subst e
     rw[List.getElem?_set_self (by rw[List.length_set];have:=HQ.out.ln;omega),HPT.out,hv]
    ·rw[List.getElem?_set_ne e,List.getElem?_set_ne e]
     exact hp.out j (by omega)
   have Vg:=hid hlast;clear hW5 hq5 hlast
   cases b
   ·go_wp2_with fail
    exact⟨⟨k+1,by simp,by omega,_,HQ5.out.put (Nat.le_of_eq HPB.out.symm) k (-1),hid (Vg.out (-1) rfl)⟩,by simp[intOf];omega⟩
   ·go_wp2_with fail
    exact⟨⟨k+1,by simp,by omega,_,HQ5.out,hid (fun j hj=>by
     have:=Vg.out (x+1) rfl j hj;rw[List.set_set] at this;exact this)⟩,by simp[intOf];omega⟩
  ·have hk1:¬(k:Int)<(n:Int):=by omega
   have hpe:p=sH next rule:=by
    refine List.ext_getElem? fun j=>?_
    by_cases hj:j<n
    ·exact hp.out j (by omega)
    ·rw[List.getElem?_eq_none (by have:=hq.ln;omega),List.getElem?_eq_none (by unfold sH;rw[List.length_map,List.length_range];have:=HN.out;omega)]
   have HQ:=hid hq;have hst:Hid (Cov (-1) p∧(∀ x∈p,-1≤x∧x<600)∧∀ F:Nat,(p.length:Int)-(-1)<F→ptL next F (-1) p=L):=hid ⟨fun m hm=>by omega,fun x hx=>by
    rw[hpe] at hx;obtain⟨j,hj,rfl⟩:=List.mem_map.1 hx;have hj:j<rule.length:=List.mem_range.1 hj;have hb:=List.all_eq_true.1 HG4.out _ (List.getElem_mem hj);simp only[Bool.and_eq_true,decide_eq_true_eq] at hb;split
    ·rw[List.getD_eq_getElem?_getD,List.getElem?_eq_getElem hj,Option.getD_some];omega
    ·omega,fun F hF=>by
    rw[HLL.out];unfold qK;rw[←hpe];refine yK next _ _ _ _ (fun m hm=>by omega) hF (by have:=hq.ln;have:=HN.out;omega) (by omega)⟩
   clear hp hpe hq;go_upto_region 11 with fail
   have VW:∃(PB':Nat)(m:Int)(p:List Int),(Value.slice (some ⟨PB,0,none⟩) n n) = .slice (some ⟨PB',0,none⟩) n n∧(Value.int .i64 (-1)) = .int .i64 m∧Pq W1 PB' n p wr∧W1.heap.size≤PB' ∧ -1≤m∧m≤n∧Hid (Cov m p∧(∀ x∈p,-1≤x∧x<600)∧∀ F:Nat,(p.length:Int)-m<F→ptL next F m p=L):=⟨PB,-1,p,rfl,rfl,HQ.out,Nat.le_of_eq HPB.out.symm,by omega,by omega,hst⟩;clear HQ hst;go_loopw [4,7] (fun v4 v7 wr=>∃(PB':Nat)(m:Int)(p:List Int),v4 = .slice (some ⟨PB',0,none⟩) n n∧v7 = .int .i64 m∧Pq W1 PB' n p wr∧W1.heap.size≤PB' ∧ -1≤m∧m≤n∧Hid (Cov m p∧(∀ x∈p,-1≤x∧x<600)∧∀ F:Nat,(p.length:Int)-m<F→ptL next F m p=L)) (fun _ v7 _=>600-(intOf v7+1).toNat)
   case atStart=>exact VW
   case round =>
    obtain⟨PC,m,p,rfl,rfl,hq,hPC,hm1,hm2,hst⟩:=hrel;have hmm:=fun W=>run_makeMap (P:=Tryz.prog) (w:=W) 185;have hb1:=(Below.refl wr.heap.size wr).alloc Nat.le.refl (.map #[] 0);have hmk:=mk25 n (by omega) (wr.alloc (.map #[] 0));obtain⟨NB,hNB⟩:∃ NB,NB=wr.heap.size+1:=⟨_,rfl⟩;have hb2:=hb1.trans ((Below.refl (wr.alloc (.map #[] 0)).heap.size (wr.alloc (.map #[] 0))).alloc Nat.le.refl (.cells (ci (List.replicate n 0)) 3) |>.mono (by simp));obtain⟨W5,hW5⟩:∃ W5,W5=(wr.alloc (.map #[] 0)).alloc (.cells (ci (List.replicate n 0)) 3):=⟨_,rfl⟩;obtain⟨M,hM⟩:∃ M,M=wr.heap.size:=⟨_,rfl⟩;have hPM:PC<M:=(by rw[hM];exact hq.pa.lt);have hWM:W1.heap.size≤M:=(by rw[hM];exact hq.lo.size);have hnq:Nq W1 M NB PC n p (ptR next p 0) W5:=by
     refine⟨?_,?_,?_,?_,?_,hq.ln⟩
     ·have h1:=((Below.refl (wr.alloc (.map #[] 0)).heap.size (wr.alloc (.map #[] 0))).alloc Nat.le.refl (.cells (ci (List.replicate n 0)) 3)).block wr.heap.size (by simp)
      rw[hW5,hM,h1,World.alloc_heap_new];rfl
     ·have:=Bx.new (wr.alloc (.map #[] 0)) 3 (ci (List.replicate n 0))
      rw[show(wr.alloc (.map #[] 0)).heap.size=NB by rw[hNB];simp] at this;rw[hW5]
      show Bx _ NB 3 (ci (List.replicate p.length 0))
      rw[hq.ln];exact this
     ·rw[hW5];exact hq.pa.below hb2 hq.pa.lt
     ·rw[hW5];exact hq.lo.trans (hb2.mono hq.lo.size)
     ·show (List.replicate p.length (0:Int)).length=n
      rw[List.length_replicate,hq.ln]
    have HNQ:=hid hnq;have HPL:=hid hq.ln;have hNM:NB=M+1:=(by omega);have HNM:=hid hNM;clear hb1 hb2 hq hnq hNM;go_upto_region 14 with fail
    rw[←hW5,←hNB,←hM];clear hW5 hNB hM hmk;go_loopw [50] (fun i wq=>∃ k:Nat,i = .int .i64 k∧k≤n∧Nq W1 M NB PC n p (ptR next p k) wq) (fun i _=>n-(intOf i).toNat)
    case atStart=>exact⟨0,rfl,Nat.zero_le _,HNQ.out⟩
    case round =>
     obtain⟨k,rfl,hk,hq⟩:=hrel;have hk0:(0:Int)≤(k:Int):=by omega
     by_cases hlt:k<n
     ·have hk1:(k:Int)<(n:Int):=by omega
      have hown:=jI hq.pc k (by have:=hq.lp;omega);have Wu:=jI hq.nb k (by have:=hq.l2;omega);have hfz:=iZ hq.nb k;obtain⟨x,hx⟩:∃ x,x=ptR next p k:=⟨_,rfl⟩
      have hsucc:Hid (ptR next p (k+1)=ptS next p x k):=hid (by rw[yJ,hx]);rw[←hx] at hq Wu;obtain⟨own,hw⟩:∃ own,own=p.getD k 0:=⟨_,rfl⟩;rw[←hw] at hown;have hnw:W1.heap.size≤NB:=(by have:=HNM.out;omega);have hq1:=hq.Ws hnw (by have:=HNM.out;omega) (by have:=HNM.out;omega) k (-1);have HTT:Hid (∀ U∈x.1,Sg U):=hid (fun U hU=>by
       rw[hx] at hU;obtain⟨j,h1,rfl⟩:=sJ next p k U hU
       exact JZ (n:=n) (by have:=HN2.out;have:=HNL.out;omega) (by omega) HPL.out hst.out.2.1)
      have HND:Hid x.1.Nodup:=hid (by rw[hx];exact(ptI next p k (by have:=HPL.out;omega)).nd);have HW:=hid hw;have HQ:=hid hq;have HQ1:=hid hq1;clear hx hw hq hq1
      by_cases hneg:own<0
      ·have hst:ptS next p x k=(x.1,x.2.set k (-1)):=if_pos (by rw[←HW.out];exact hneg)
       have uU:Hid (∃ k2:Nat,(Value.int .i64 ((k:Int)+1)) = .int .i64 k2∧k2≤n∧Nq W1 M NB PC n p (ptR next p k2) (wr.setCell ⟨NB,k,none⟩ (.int .i64 (-1)))):=hid ⟨k+1,by simp,by omega,by rw[hsucc.out,hst];exact HQ1.out⟩;clear hst;go_wp2_with fail
       exact⟨uU.out,by simp[intOf];omega⟩
      ·have hpos:0≤own:=by omega
       go_upto_region 18 with fail
       obtain⟨W6,hW6⟩:∃ W6,W6=wr.setCell ⟨NB,k,none⟩ (.int .i64 (-1)):=⟨_,rfl⟩;have hq6:=HQ1.out;rw[←hW6] at hq6 ⊢;clear hW6 HQ1 HQ hown Wu hfz;have hx6:=Bx.new W6 188 (ci zS);have hb6:=(Below.refl W6.heap.size W6).alloc Nat.le.refl (.cells (ci zS) 188);have hS0:(own::zT).length=257:=(by rw[List.length_cons,Wh]);have hnl:next.length=256*n:=(by have:=HN2.out;have:=HNL.out;omega)
       have hne:next≠[]:=fun e=>by rw[e] at hnl;simp at hnl;omega
       obtain⟨nb,no,rfl,hnb,hnc⟩:=HN1.out hne;have HNC:=hid hnc;have HQ6:=hid hq6;have HNl:=hid hnl;clear hnc hne hq6 hnl;go_upto_region 19 with (first
        | ((with_reducible refine V8 ?_);refine wW own rfl ?_)
        | ((with_reducible refine V9 ?_);refine wX ?_)
        | ((with_reducible refine Wi ?_);refine wY (S:=own::zT) rfl rfl hS0 hx6 ?_;rintro W7 g3 g4 g5))
       obtain⟨SB,hSB⟩:∃ SB,SB=W6.heap.size:=⟨_,rfl⟩;have x7:Bx W7 W6.heap.size 188 (ci (own::zT)):=g3;have hl7:Below W6.heap.size W6 W7:=hb6.trans (AX.aj Nat.le.refl (.inl x7.lt) g4 g5);have hq7:=HQ6.out.low hl7;have y0:=(hq7.lo.cell (p:=⟨BX,0,none⟩) IE.out).trans y0;rw[←hSB] at x7 ⊢;have hs1:M<SB:=(by rw[hSB];exact HQ6.out.mlt);have hs2:NB<SB:=(by rw[hSB];exact HQ6.out.nb.lt);have SL:=hid (And.intro hs1 hs2);have hlo1:(256:Int)*k≤256*((k:Int)+1):=(by omega);have hhi1:(256:Int)*((k:Int)+1)≤cn:=(by have:=HN2.out;have:=HCN.out;omega);have hlo0:(0:Int)≤256*((k:Int)+1):=(by omega);have Vb:(0:Int)≤256*(k:Int):=(by omega);have h256:256*(k+1)-256*k=256:=(by omega);have HX7:=hid x7;have HQ7:=hid hq7;clear g3 g4 g5 hb6 hx6 hl7 hSB hs1 hs2 x7 hq7;go_upto_region 20 with fail
       go_loopw [71] (fun i wq=>∃(b:Nat)(S:List Int),i = .int .i64 b∧b≤256∧Nq W1 M NB PC n p (x.1,x.2.set k (-1)) wq∧Bx wq SB 188 (ci S)∧S.length=257∧Hid (S[0]?=some own∧∀ i,i<b→S[i+1]?=(sG next p k own)[i+1]?)) (fun i _=>256-(intOf i).toNat)
       case atStart=>exact⟨0,own::zT,rfl,Nat.zero_le _,HQ7.out,HX7.out,hS0,hid ⟨rfl,fun i h=>absurd h (Nat.not_lt_zero _)⟩⟩
       case round =>
        obtain⟨b,S,rfl,hb,hq,hxs,hSl,hSp⟩:=hrel;have abE:(0:Int)≤(b:Int):=by omega
        by_cases hbl:b<256
        ·have Wv:(b:Int)<256:=by omega
         have hnl:=HNl.out;have hidx:256*k+b<next.length:=(by omega)
         have hc:=(hq.lo.cell (p:=⟨nb,no+(256*k+b),none⟩) hnb).trans (HNC.out _ hidx);rw[←Nat.add_assoc] at hc;obtain⟨t,ht⟩:∃ t,t=next[256*k+b]:=⟨_,rfl⟩
         have htr : -1≤t∧t<(n:Int):=by
          have:=List.all_eq_true.1 HG5.out t (by rw[ht];exact List.getElem_mem _);simp only[Bool.and_eq_true,decide_eq_true_eq] at this;have h2:=HN.out;omega
         have hrow:(sG next p k own)[b+1]?=some (if 0≤t then p.getD t.toNat 0 else -1):=by
          have hr:(rowOf next k)[b]?=some t:=by
           unfold rowOf;rw[List.getElem?_take,if_pos hbl,List.getElem?_drop,List.getElem?_eq_getElem hidx,ht]
          unfold sG;rw[List.getElem?_cons_succ,List.getElem?_map,hr];rfl
         rw[←ht] at hc;obtain⟨ht1,ht2⟩:=htr;have hsc:wr.cell? ⟨SB,1+b,none⟩=some (.int .i64 (S.getD (1+b) 0)):=by
          rw[hxs.cell,JY S (1+b) (by omega),List.getD_eq_getElem?_getD,List.getElem?_eq_getElem (by omega),Option.getD_some]
         have hfz:=iZ hxs (1+b);have hnx:∀ v:Int,v=(if 0≤t then p.getD t.toNat 0 else -1)→(S.set (1+b) v)[0]?=some own∧∀ i,i<b+1→(S.set (1+b) v)[i+1]?=(sG next p k own)[i+1]?:=by
          intro v hv;refine⟨by rw[List.getElem?_set_ne (by omega)];exact hSp.out.1,fun i hi=>?_⟩
          by_cases e:i=b
          ·subst e
           rw[Nat.add_comm 1 i,List.getElem?_set_self (by omega),hrow,hv]
          ·rw[List.getElem?_set_ne (by omega)]
           exact hSp.out.2 i (by omega)
         have HNX:=hid hnx;have hq2:=fun(v:Int)=>hq.oth (B:=SB) (wy:=wr.setCell ⟨SB,1+b,none⟩ (.int .i64 v)) (by have:=SL.out;omega) (uX hxs (1+b) v).2 ((Below.refl _ wr).setCell (p:=⟨SB,1+b,none⟩) (by have:=SL.out;simp only;omega) _);have hx2:=fun(v:Int)=>(uX hxs (1+b) v).1;have HQ2:=hid hq2;have HX2:=hid hx2
         by_cases htn:0≤t
         ·obtain⟨tn,rfl⟩:∃ tn:Nat,t=(tn:Int):=⟨t.toNat,by omega⟩
          have hpc:=jI (hq2 (-1)).pc tn (by have:=hq.lp;omega);have abG:=iZ (hx2 (-1)) (1+b);have hsc2:(wr.setCell ⟨SB,1+b,none⟩ (.int .i64 (-1))).cell? ⟨SB,1+b,none⟩=some (.int .i64 ((S.set (1+b) (-1)).getD (1+b) 0)):=by
           rw[(hx2 (-1)).cell,JY _ (1+b) (by rw[List.length_set];omega),List.getD_eq_getElem?_getD,List.getElem?_eq_getElem (by rw[List.length_set];omega),Option.getD_some]
          clear hq2 hx2 hq hxs hrow hnx ht hnl hidx;go_upto_region 23 with fail
          have hq9:=HQ2.out (-1);have hx9:=HX2.out (-1);obtain⟨W9,hW9⟩:∃ W9,W9=wr.setCell ⟨SB,1+b,none⟩ (.int .i64 (-1)):=⟨_,rfl⟩;rw[←hW9] at hq9 hx9 hpc abG hsc2 ⊢;obtain⟨v,hv⟩:∃ v,v=p.getD tn 0:=⟨_,rfl⟩;rw[←hv] at hpc;have hvv:v=(if (0:Int)≤(tn:Int) then p.getD (tn:Int).toNat 0 else -1):=(by rw[if_pos htn,hv,Int.toNat_natCast]);have hq10:=hq9.oth (B:=SB) (wy:=W9.setCell ⟨SB,1+b,none⟩ (.int .i64 v)) (by have:=SL.out;omega) (uX hx9 (1+b) v).2 ((Below.refl _ W9).setCell (p:=⟨SB,1+b,none⟩) (by have:=SL.out;simp only;omega) _);have Wx:=(uX hx9 (1+b) v).1;rw[List.set_set] at Wx;have abH:=hid hq10;have abI:=hid Wx;have HNN:=hid (HNX.out v hvv);clear hW9 hq9 hx9 hq10 Wx hvv hv HQ2 HX2 HNX;go_wp2_with fail
          exact⟨⟨b+1,S.set (1+b) v,by simp,by omega,abH.out,abI.out,by rw[List.length_set];exact hSl,HNN⟩,by simp[intOf];omega⟩
         ·have hv:(-1:Int)=(if 0≤t then p.getD t.toNat 0 else -1):=by rw[if_neg htn]
          have HV:=hid hv;clear hq2 hx2 hq hxs hrow hnx ht hv hnl hidx;go_wp2_with fail
          exact⟨⟨b+1,S.set (1+b) (-1),by simp,by omega,HQ2.out (-1),HX2.out (-1),by rw[List.length_set];exact hSl,hid (HNX.out (-1) HV.out)⟩,by simp[intOf];omega⟩
        ·have Wv:¬(b:Int)<256:=by omega
         have hSe:S=sG next p k own:=by
          have hlr:(sG next p k own).length=257:=by
           unfold sG;rw[List.length_cons,List.length_map,iY HNl.out hlt]
          refine List.ext_getElem? fun i=>?_
          cases i with
          | zero=>rw[hSp.out.1];rfl
          | succ i =>
           by_cases hi:i<256
           ·exact hSp.out.2 i (by omega)
           ·rw[List.getElem?_eq_none (by omega),List.getElem?_eq_none (by omega)]
         have Y3:=JZ HNl.out hlt HPL.out hst.out.2.1;have hSg:Sg S:=(by rw[hSe,HW.out];exact Y3);have hT:∀ U∈x.1,Sg U:=HTT.out;have hnd:x.1.Nodup:=HND.out;have hlk:=Y1 (S:=S) hq.mp hSg hT hnd;have hmp:=hq.mp;have hel:=uY 0 x.1;have Wu:=jI hq.nb k (by have:=hq.l2;omega);have hfz:=iZ hq.nb k;have HQ:=hid hq;have Y4:ptS next p x k=(if fi x.1 S<x.1.length then x.1 else x.1++[S],x.2.set k (fi x.1 S:Int)):=by
          unfold ptS;rw[if_neg (by rw[←HW.out];omega),←HW.out,←hSe]
         have Y5:=hid Y4;clear hSe Y3 Y4 hq;have hfl:=Vf x.1 S;obtain⟨fk,hfk⟩:∃ fk,fk=fi x.1 S:=⟨_,rfl⟩
         by_cases hfi:fi x.1 S<x.1.length
         ·rw[if_pos hfi,decide_eq_true hfi,←hfk] at hlk
          have hrel:∃ k2:Nat,(Value.int .i64 ((k:Int)+1)) = .int .i64 k2∧k2≤n∧Nq W1 M NB PC n p (ptR next p k2) (wr.setCell ⟨NB,k,none⟩ (.int .i64 fk)):=by
           refine⟨k+1,by simp,by omega,?_⟩;rw[hsucc.out,Y5.out,if_pos hfi,←hfk];have:=HQ.out.Ws hnw (by have:=HNM.out;omega) (by have:=HNM.out;omega) k fk;simp only[List.set_set] at this;exact this
          have uU:=hid hrel;have HXS:=hid hxs;clear hrel hfk hfi hT hnd hmp hel hfl hxs;go_wp2_with (first
           | ((with_reducible refine Oz ?_);refine oh rfl HXS.out hSl ?_)
           | ((with_reducible refine OA ?_);refine oq rfl rfl hlk ?_))
          exact⟨uU.out,by simp[intOf];omega⟩
         ·rw[if_neg hfi,decide_eq_false hfi] at hlk
          have hfe:fi x.1 S=x.1.length:=(by omega);have HXS:=hid hxs;have HMP:=hid hmp;have HT2:=hid hT;have abJ:=hid hnd;have HFI:=hid hfi;have HFE:=hid hfe;clear hfk hfi hT hnd hfl hxs hfe;obtain⟨es,hes⟩:∃ es,es=(fC 0 x.1).toArray:=⟨_,rfl⟩;have SN:es.size=x.1.length:=(by rw[hes];simpa using hel);rw[←hes] at hmp;have hln:(Builtin.len_ #[185] 3 #[.map (some M)]).run Tryz.prog wr = .ok (.int .i64 x.1.length) wr:=by
           have:=run_len_map (P:=Tryz.prog) wr 185 3 M es x.1.length (by rw[show Tryz.prog.mapKeyOf 185=188 by kernel_rfl,show Tryz.prog.mapElemOf 185=3 by kernel_rfl];exact Tryz.underlying185) hmp;rw[SN] at this;exact this
          have HES:=hid hes;clear hes hel;go_wp2_with (first
           | ((with_reducible refine Oz ?_);refine oh rfl HXS.out hSl ?_)
           | ((with_reducible refine OA ?_);refine oq rfl rfl hlk ?_)
           | ((with_reducible refine Wq ?_);refine AA (T:=x.1) (S:=S) rfl rfl rfl HMP.out hSg HT2.out abJ.out HFI.out ?_;rintro W8 hm8 hb8;have Wy:Bx W8 NB 3 (ci (x.2.set k (-1))):=(hb8.same NB HQ.out.nb.lt (by have:=HNM.out;omega)).trans HQ.out.nb;have adx:=jI Wy k (by have h77:(x.2.set k (-1)).length=n:=HQ.out.l2;omega);have adN:=iZ Wy k))
          have abK:Below W1.heap.size wr W8:=⟨hb8.low.os,hb8.low.tape,hb8.low.output,hb8.low.size,fun j hj=>hb8.same j (by have:=HQ.out.lo.size;omega) (by omega)⟩;have hq8:Nq W1 M NB PC n p (x.1++[S],x.2.set k (-1)) W8:=⟨hm8,Wy,(hb8.same PC HQ.out.pc.lt (by omega)).trans HQ.out.pc,HQ.out.lo.trans abK,HQ.out.l2,HQ.out.lp⟩;have hq9:=hq8.Ws hnw (by have:=HNM.out;omega) (by have:=HNM.out;omega) k (x.1.length:Int);simp only[List.set_set] at hq9;exact⟨⟨k+1,by simp,by omega,by rw[hsucc.out,Y5.out,if_neg HFI.out,HFE.out];exact hq9⟩,by simp[intOf];omega⟩
     ·have hk1:¬(k:Int)<(n:Int):=by omega
      obtain rfl:k=n:=by omega
      obtain⟨x,hx⟩:∃ x,x=ptR next p k:=⟨_,rfl⟩
      have hx2:x=ptR next p p.length:=(by rw[hx,HPL.out])
      rw[←hx] at hq;have hI:=ptI next p p.length Nat.le.refl
      have hcl:=Ov (next:=next) hst.out.1;have hcn:=Fz next p
      rw[←hx2] at hI hcl hcn;have hLx:∀ F:Nat,(p.length:Int)-m<((F+1:Nat):Int)→(if (x.1.length:Int)=m then x.2 else ptL next F x.1.length x.2)=L:=by
       intro F hF;have:=hst.out.2.2 (F+1) hF;unfold ptL at this;rw[←hx2] at this;exact this
      have hmp:=hq.mp;obtain⟨es,hes⟩:∃ es,es=(fC 0 x.1).toArray:=⟨_,rfl⟩;have SN:es.size=x.1.length:=(by rw[hes];simpa using uY 0 x.1);rw[←hes] at hmp;obtain⟨q,hqq⟩:∃ q,q=x.1.length:=⟨_,rfl⟩;have hln:(Builtin.len_ #[185] 3 #[.map (some M)]).run Tryz.prog wr = .ok (.int .i64 q) wr:=by
       have:=run_len_map (P:=Tryz.prog) wr 185 3 M es x.1.length (by rw[show Tryz.prog.mapKeyOf 185=188 by kernel_rfl,show Tryz.prog.mapElemOf 185=3 by kernel_rfl];exact Tryz.underlying185) hmp;rw[SN,←hqq] at this;exact this
      rw[←hqq] at hcl hcn hLx;have HQ:=hid hq;have HI:=hid hI;have HCL:=hid hcl;have Y6:=hid hcn;have HLX:=hid hLx;have HQQ:=hid hqq;clear hmp hes SN hqq hq hI hcl hcn hLx hx hx2
      by_cases hqm:(q:Int)=m
      ·have hL:L=x.2:=by
        have:=HLX.out 1000 (by have:=HPL.out;omega);rw[if_pos hqm] at this;exact this.symm
       have hfin:Below w.heap.size w wr:=HB0.out.trans ((HB1.out.mono HB0.out.size).trans (HQ.out.lo.mono (by have:=IE.out;have:=HBX.out;omega)));have hbe:(decide ((q:Int)=m))=true:=decide_eq_true hqm;have HL:=hid hL;have HFin:=hid hfin;clear hL hfin;go_wp2_with fail
       exact bodyPost_ret (v := .slice (some ⟨NB,0,none⟩) k k) (by simp[results,Tryz.results68,go_sem]) rfl ⟨NB,⟨k,rfl⟩,by rw[HL.out];exact HQ.out.nb,by have:=HNM.out;have:=IE.out;have:=HBX.out;omega,HFin.out⟩
      ·have hqk:q≤k:=by have:=HI.out.most;have:=HPL.out;have:=HQQ.out;omega
       have hrel:∃(PB':Nat)(m2:Int)(p2:List Int),(Value.slice (some ⟨NB,0,none⟩) k k) = .slice (some ⟨PB',0,none⟩) k k∧(Value.int .i64 (q:Int)) = .int .i64 m2∧Pq W1 PB' k p2 wr∧W1.heap.size≤PB' ∧ -1≤m2∧m2≤k∧Hid (Cov m2 p2∧(∀ x∈p2,-1≤x∧x<600)∧∀ F:Nat,(p2.length:Int)-m2<F→ptL next F m2 p2=L):=by
        refine⟨NB,q,x.2,rfl,rfl,⟨HQ.out.nb,HQ.out.lo,HQ.out.l2⟩,by have:=HNM.out;omega,by omega,by omega,hid ⟨Y6.out,fun v hv=>?_,fun F hF=>?_⟩⟩
        ·obtain⟨j,hj,rfl⟩:=List.getElem_of_mem hv
         have:=HI.out.vals j (by have:=HI.out.len;omega);rw[List.getD_eq_getElem?_getD,List.getElem?_eq_getElem hj,Option.getD_some] at this;have:=HQQ.out;omega
        ·have h1:=HLX.out 2000 (by have:=HPL.out;omega)
         rw[if_neg hqm] at h1;rw[←h1];refine yK next _ _ _ _ Y6.out hF (by have:=HQ.out.l2;omega) (by have:=HQ.out.l2;omega)
       have Ot:600-((q:Int)+1).toNat<600-(m+1).toNat:=(by have:=HCL.out;omega);have uU:=hid hrel;have VX:=hid Ot;clear hrel Ot;go_wp2_with fail
       exact⟨uU.out,VX.out⟩
end
section
def jo(part:List Int)(s:Int):Int:=part.getD s.toNat 0
def ixP(part st:List Int)(tzo:Int):Nat:=(st.map (jo part)).findIdx (· == jo part tzo)
def lsT(part:List Int)(x:List Int×List Int)(tzo:Int):List Int×List Int :=
 if tzo<0∨jo part tzo<0 then (x.1,x.2++[-1]) else (if ixP part x.1 tzo<x.1.length then x.1 else x.1++[tzo],x.2++[(ixP part x.1 tzo:Int)])
def lsR(next part:List Int)(x:List Int×List Int)(i:Nat):List Int×List Int:=(rowOf next (x.1.getD i 0).toNat).foldl (lsT part) x
def lsL(next rule part:List Int):Nat→Nat→List Int×List Int→List Int→List Int×List Int
 | 0,_,x,ru=>(x.2,ru)
 | f+1,i,x,ru=>if i<x.1.length then lsL next rule part f (i+1) (lsR next part x i) (ru++[rule.getD (x.1.getD i 0).toNat 0]) else (x.2,ru)
def bK(next rule:List Int):List Int×List Int:=lsL next rule (qK next rule) (rule.length+1) 0 ([0],[]) []
structure LsI(part:List Int)(n:Nat)(st nx:List Int):Prop where
 one:1≤st.length
 nd:(st.map (jo part)).Nodup
 in_:∀ s∈st,0≤s∧s<(n:Int)
 nx:∀ t∈nx,-1≤t∧t<(st.length:Int)
theorem LsI.len{part:List Int}{n:Nat}{st nx:List Int}(h:LsI part n st nx):st.length≤n:=by
 have nd:st.Nodup:=by
  have:=h.nd;exact (List.pairwise_map.1 this).imp fun hne e=>hne (by rw[e])
 have:=List.Nodup.length_le_of_subset (l₂:=(List.range n).map fun i:Nat=>(i:Int)) nd fun x hx=>by
  have:=h.in_ x hx;rw[List.mem_map];exact⟨x.toNat,by rw[List.mem_range];omega,by omega⟩
 simpa using this
theorem LsI.step{part:List Int}{n:Nat}{x:List Int×List Int}(h:LsI part n x.1 x.2)(tzo:Int)(ht:tzo<(n:Int)):LsI part n (lsT part x tzo).1 (lsT part x tzo).2∧(lsT part x tzo).2.length=x.2.length+1∧x.1.length≤(lsT part x tzo).1.length:=by
 unfold lsT;split
 ·refine⟨⟨h.one,h.nd,h.in_,fun t hm=>?_⟩,by simp,Nat.le_refl _⟩
  have:=h.one;rcases List.mem_append.1 hm with hm | hm
  ·exact h.nx t hm
  ·rw[List.mem_singleton.1 hm];omega
 ·rename_i hc
  have hto:0≤tzo:=by omega
  by_cases hf:ixP part x.1 tzo<x.1.length
  ·rw[if_pos hf]
   refine⟨⟨h.one,h.nd,h.in_,fun t hm=>?_⟩,by simp,Nat.le_refl _⟩;rcases List.mem_append.1 hm with hm | hm
   ·exact h.nx t hm
   ·rw[List.mem_singleton.1 hm]
    show -1≤((ixP part x.1 tzo:Nat):Int)∧((ixP part x.1 tzo:Nat):Int)<(x.1.length:Int)
    omega
  ·rw[if_neg hf]
   have hle:ixP part x.1 tzo≤x.1.length:=by
    unfold ixP;have:=List.findIdx_le_length (p:=(· == jo part tzo)) (xs:=x.1.map (jo part))
    simpa using this
   have hno:jo part tzo∉x.1.map (jo part):=fun hm=>by
    have:=List.findIdx_lt_length_of_exists (p:=(· == jo part tzo)) ⟨_,hm,by simp⟩;rw[List.length_map] at this;exact hf this
   refine⟨⟨by simp,?_,fun s hs=>?_,fun t hm=>?_⟩,by simp,by simp⟩
   ·simp only
    rw[List.map_append,List.map_singleton,List.nodup_append];exact⟨h.nd,by simp,fun a ha b hb e=>hno (by rw[List.mem_singleton.1 hb] at e;rw[←e];exact ha)⟩
   ·rcases List.mem_append.1 hs with hs | hs
    ·exact h.in_ s hs
    ·rw[List.mem_singleton.1 hs];exact⟨hto,ht⟩
   ·simp only
    rw[List.length_append,List.length_singleton];rcases List.mem_append.1 hm with hm | hm
    ·have:=h.nx t hm
     omega
    ·rw[List.mem_singleton.1 hm];omega
theorem LsI.steps{part:List Int}{n:Nat} : ∀ (l:List Int) {x:List Int×List Int},LsI part n x.1 x.2→(∀ t∈l,t<(n:Int))→LsI part n (l.foldl (lsT part) x).1 (l.foldl (lsT part) x).2∧(l.foldl (lsT part) x).2.length=x.2.length+l.length∧x.1.length≤(l.foldl (lsT part) x).1.length
 | [],x,h,_=>⟨h,rfl,Nat.le_refl _⟩
 | t::l,x,h,hl=>by
  obtain⟨h1,h2,h3⟩:=h.step t (hl t (List.mem_cons_self ..));obtain⟨h4,h5,h6⟩:=LsI.steps l h1 fun t ht=>hl t (List.mem_cons_of_mem _ ht);rw[List.foldl_cons];exact⟨h4,by rw[h5,h2,List.length_cons];omega,Nat.le_trans h3 h6⟩
theorem Vh{next rule part:List Int}(hok:okT next rule=true):∀(f i:Nat)(x:List Int×List Int)(ru:List Int),LsI part rule.length x.1 x.2→i≤x.1.length→rule.length<f+i→x.2.length=256*i→ru.length=i→(∀ r∈ru,-1≤r∧r<16)→okT (lsL next rule part f i x ru).1 (lsL next rule part f i x ru).2=true
 | 0,i,x,ru,h,hi,hf,_,_,_=>by have:=h.len;omega
 | f+1,i,x,ru,h,hi,hf,hx,hr,hrr=>by
  have hok2:=hok;simp only[okT,Bool.and_eq_true,decide_eq_true_eq] at hok2;obtain⟨g1,g2,g3,g4,g5⟩:=hok2;unfold lsL;split
  ·rename_i hlt
   have hs:=h.in_ (x.1.getD i 0) (by rw[List.getD_eq_getElem?_getD,List.getElem?_eq_getElem hlt,Option.getD_some];exact List.getElem_mem _);have hrow:=iY (i:=(x.1.getD i 0).toNat) g3 (by omega);obtain⟨h1,h2,h3⟩:=LsI.steps (rowOf next (x.1.getD i 0).toNat) h fun t ht=>by
    have:=List.all_eq_true.1 g5 t (pz ht);simp only[Bool.and_eq_true,decide_eq_true_eq] at this;exact this.2
   refine Vh hok f (i+1) _ _ h1 (by unfold lsR;omega) (by omega) (by unfold lsR;rw[h2,hrow,hx];omega) (by rw[List.length_append,hr];rfl) fun r hm=>?_;rcases List.mem_append.1 hm with hm | hm
   ·exact hrr r hm
   ·rw[List.mem_singleton.1 hm]
    have hj:(x.1.getD i 0).toNat<rule.length:=(by omega);have:=List.all_eq_true.1 g4 (rule.getD (x.1.getD i 0).toNat 0) (by rw[List.getD_eq_getElem?_getD,List.getElem?_eq_getElem hj,Option.getD_some];exact List.getElem_mem _);simp only[Bool.and_eq_true,decide_eq_true_eq] at this;exact this
  ·have hie:i=x.1.length:=by omega
   have hl:=h.len;have ho:=h.one;have hnx:=h.nx;simp only[okT,Bool.and_eq_true,decide_eq_true_eq];refine⟨by omega,by omega,by omega,?_,?_⟩
   ·refine List.all_eq_true.2 fun r hm=>?_
    have:=hrr r hm;simp only[Bool.and_eq_true,decide_eq_true_eq];exact this
   ·refine List.all_eq_true.2 fun t hm=>?_
    have:=hnx t hm;simp only[Bool.and_eq_true,decide_eq_true_eq];omega
theorem OC{next rule:List Int}(hok:okT next rule=true):okT (bK next rule).1 (bK next rule).2=true:=by
 have hok2:=hok;simp only[okT,Bool.and_eq_true,decide_eq_true_eq] at hok2;exact Vh hok _ 0 _ _ ⟨by simp,by simp,fun s hs=>by rw[List.mem_singleton.1 hs];omega,by simp⟩ (by simp) (by omega) (by simp) rfl (by simp)
end
end Go.Proofs.YtkjgogdkdejljaaGreatDoor.Df
