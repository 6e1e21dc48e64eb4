import Derived.Test.YtkjgogdkdejljaaGreatDoorDfD1
set_option maxRecDepth 100000
set_option maxHeartbeats 40000000
namespace Go.Proofs.YtkjgogdkdejljaaGreatDoor.Df
section
open Go.Lib (hid)
open Go Go.Proofs Go.RowKit
attribute [local go_sem] Oper.semAt_some
def rowOf(next:List Int)(i:Nat):List Int:=(next.drop (256*i)).take 256
def lvS(next:List Int)(x:List Bool×Bool)(i:Nat):List Bool×Bool:=if x.1.getD i false=true then x else if (rowOf next i).any (iT x.1)=true then (x.1.set i true,true) else x
def lvR(next:List Int)(o:List Bool)(k:Nat):List Bool×Bool:=(List.range k).foldl (lvS next) (o,false)
def lvL(next:List Int):Nat→List Bool→List Bool
 | 0,o=>o
 | f+1,o=>if (lvR next o o.length).2=true then lvL next f (lvR next o o.length).1 else (lvR next o o.length).1
def cF(o:List Bool):Nat:=o.count false
def yG(next rule:List Int):List Bool:=lvL next (rule.length+1) (rule.map fun r=>decide (0≤r))
theorem Oo:∀(o:List Bool)(i:Nat),i<o.length→o.getD i false=false→cF (o.set i true)<cF o
 | [],i,h,_=>absurd h (Nat.not_lt_zero _)
 | b::o,0,_,h=>by
  have:b=false:=by simpa using h
  subst this;simp[cF]
 | b::o,i+1,h,hf=>by
  have:=Oo o i (by simpa using h) (by simpa using hf);unfold cF at *;simp only[List.set_cons_succ,List.count_cons];omega
theorem SH(next:List Int)(x:List Bool×Bool)(i:Nat):(lvS next x i).1.length=x.1.length:=by
 unfold lvS;split
 ·rfl
 ·split
  ·simp
  ·rfl
theorem xq(next:List Int)(o:List Bool):∀ k,(lvR next o k).1.length=o.length
 | 0=>rfl
 | k+1=>by
  unfold lvR;rw[List.range_succ,List.foldl_append];exact (SH next _ k).trans (xq next o k)
theorem Fh(next:List Int)(o:List Bool)(k:Nat):lvR next o (k+1)=lvS next (lvR next o k) k:=by
 unfold lvR;rw[List.range_succ,List.foldl_append];rfl
theorem sD(next:List Int)(o:List Bool):∀ k,k≤o.length→cF (lvR next o k).1≤cF o∧((lvR next o k).2=true→cF (lvR next o k).1<cF o)
 | 0,_=>⟨Nat.le_refl _,fun h=>by cases h⟩
 | k+1,hk=>by
  obtain⟨h1,h2⟩:=sD next o k (by omega)
  rw[Fh];unfold lvS;split
  ·exact⟨h1,h2⟩
  ·split
   ·rename_i hf _
    have:=Oo (lvR next o k).1 k (by rw[xq];omega) (by simpa using hf);exact⟨by simp only;omega,fun _=>by simp only;omega⟩
   ·exact⟨h1,h2⟩
theorem yH(next:List Int):∀(f f':Nat)(o:List Bool),cF o<f→cF o<f'→lvL next f o=lvL next f' o
 | 0,_,_,h,_=>absurd h (Nat.not_lt_zero _)
 | f+1,0,_,_,h=>absurd h (Nat.not_lt_zero _)
 | f+1,f'+1,o,h,h'=>by
  unfold lvL;split
  ·rename_i hm
   have:=(sD next o o.length Nat.le.refl).2 hm;exact yH next f f' _ (by omega) (by omega)
  ·rfl
theorem YZ(o:List Bool):cF o≤o.length:=List.count_le_length
theorem JW(next:List Int):∀(f:Nat)(o:List Bool),(lvL next f o).length=o.length
 | 0,_=>rfl
 | f+1,o=>by
  unfold lvL;split
  ·exact (JW next f _).trans (xq next o _)
  ·exact xq next o _
theorem Oq(next rule:List Int):(yG next rule).length=rule.length:=by unfold yG;rw[JW];simp
theorem iY{next:List Int}{n i:Nat}(h:next.length=256*n)(hi:i<n):(rowOf next i).length=256:=by
 unfold rowOf;rw[List.length_take,List.length_drop,h];omega
theorem LH{next:List Int}{j i:Nat}(hi:i<(rowOf next j).length)(h2:256*j+i<next.length):(rowOf next j)[i]=next[256*j+i]:=by
 have:(rowOf next j)[i]?=next[256*j+i]?:=by
  have h3:i<256:=by unfold rowOf at hi;rw[List.length_take] at hi;omega
  unfold rowOf;rw[List.getElem?_take,if_pos h3,List.getElem?_drop]
 rw[List.getElem?_eq_getElem hi,List.getElem?_eq_getElem h2] at this;exact Option.some.inj this
theorem pz{next:List Int}{i:Nat}{x:Int}(h:x∈rowOf next i):x∈next:=List.mem_of_mem_drop (List.mem_of_mem_take h)
theorem BAt.set{W:World}{B:Nat}{l:List Bool}(h:BAt W B l)(i:Nat)(b:Bool):BAt (W.setCell ⟨B,i,none⟩ (.bool b)) B (l.set i b)∧(∀ j,j≠B→(W.setCell ⟨B,i,none⟩ (.bool b)).heap[j]?=W.heap[j]?)∧W.frozen? ⟨B,i,none⟩=false:=by
 refine⟨?_,fun j hj=>heap_setCell_other W ⟨B,i,none⟩ j _ hj,?_⟩
 ·unfold BAt
  rw[heap_setCell_same W B i _ 4 (.bool b) h];simp[List.map_set]
 ·unfold BAt at h
  simp[World.frozen?,h]
theorem abB(n:Nat)(hn:n≤1000)(w:World):(Instr.makeSlice 93 (.int .i64 n) (.int .i64 n)).run Tryz.prog w = .ok (.slice (some ⟨w.heap.size,0,none⟩) n n) (w.alloc (.cells (Array.replicate n (.bool false)) 4)):=by
 obtain⟨ti,hi,hz0,hz1,hz2⟩:=info_parts (show (Tryz.prog.info? 4).map (fun i=>(i.zero,i.size,i.bytes))=some (some (.bool false),1,1) by kernel_rfl);have h:=run_makeSlice (P:=Tryz.prog) (w:=w) 93 4 ti (.bool false) Tryz.underlying93 hi hz0 .i64 .i64 (n:Int) (n:Int) (by omega) (Int.le_refl _) (by rw[hz1];simp;omega) (by rw[hz2];omega) (by omega);rw[Int.toNat_natCast] at h;rw[h];have e:madeCells (Value.bool false).cells (n*ti.size)=Array.replicate n (.bool false):=by
  rw[hz1,Nat.mul_one];refine Array.toList_inj.1 ?_
  show(madeCells #[Value.bool false] n).toList=_
  rw[toList_madeCells_one];simp
 rw[e]
structure Lq(W1:World)(OB BO n:Nat)(o:List Bool)(wz:World):Prop where
 ba:BAt wz OB o
 bo:Bx wz BO 93 #[.slice (some ⟨OB,0,none⟩) n n]
 lo:Below W1.heap.size W1 wz
 ln:o.length=n
theorem Lq.put{W1:World}{OB BO n:Nat}{o:List Bool}{wz:World}(h:Lq W1 OB BO n o wz)(hO:W1.heap.size≤OB)(hne:BO≠OB)(i:Nat)(b:Bool):Lq W1 OB BO n (o.set i b) (wz.setCell ⟨OB,i,none⟩ (.bool b)):=by
 obtain⟨h1,h2,_⟩:=h.ba.set i b;exact⟨h1,(h2 BO hne).trans h.bo,h.lo.setCell (p:=⟨OB,i,none⟩) hO _,by rw[List.length_set];exact h.ln⟩
def isF:Value→Bool
 | .bool false=>true
 | _=>false
def cfW(W:World)(B:Nat):Nat:=match W.heap[B]? with
 | some (.cells cs _ _)=>cs.toList.countP isF
 | _=>0
theorem BAt.cf{W:World}{B:Nat}{l:List Bool}(h:BAt W B l):cfW W B=cF l:=by
 unfold cfW;rw[show W.heap[B]?=_ from h];unfold cF List.count;simp only[List.countP_map]
 congr 1
 funext b
 cases b<;>rfl
def IC(next rule:List Int)(w:World)(e:Ending)(w':World):Prop:=∃ OB cp,e = .returned (.slice (some ⟨OB,0,none⟩) rule.length cp)∧BAt w' OB (yG next rule)∧w.heap.size≤OB∧Below w.heap.size w w'
theorem LJ(next rule:List Int)(hok:okT next rule=true)(an ar:Option Addr)(cn cr:Nat)(hcn:next.length≤cn)(w:World)(hN:aK w an next)(hR:aK w ar rule) :
  Calls Tryz.prog 112 #[.agg #[.slice an next.length cn, .slice ar rule.length cr]] w (IC next rule w):=by
 have hok2:=hok;simp only[okT,Bool.and_eq_true,decide_eq_true_eq] at hok2;obtain⟨g1,g2,g3,g4,g5⟩:=hok2;obtain⟨n,hn⟩:∃ n,n=rule.length:=⟨_,rfl⟩;obtain⟨BX,hBX⟩:∃ BX,BX=w.heap.size:=⟨_,rfl⟩;obtain⟨W0,hW0⟩:∃ W0,W0=w.alloc (.cells #[.slice an next.length cn, .slice ar rule.length cr] 27):=⟨_,rfl⟩;have hb0:Below w.heap.size w W0:=by rw[hW0];exact (Below.refl w.heap.size w).alloc Nat.le.refl _
 have xb:Bx W0 BX 27 #[.slice an next.length cn, .slice ar rule.length cr]:=by rw[hW0,hBX];exact Bx.new w 27 _
 have hz0:W0.heap.size=BX+1:=by rw[hW0,hBX];simp
 have hN0:=hN.below hb0 Nat.le.refl;have hR0:=hR.below hb0 Nat.le.refl;have hch:=jH next rule (by omega) (by omega) an ar cn cr W0 hN0 hR0
 rw[show eU next rule=0 from if_pos hok] at hch;obtain⟨L,hL⟩:∃ L,L=yG next rule:=⟨_,rfl⟩
 unfold IC;rw[←hL];rw[←hn] at xb hch hW0 ⊢;have y0:W0.cell? ⟨BX,0,none⟩=some (.slice an next.length cn):=xb.cell 0;have y1:W0.cell? ⟨BX,1,none⟩=some (.slice ar n cr):=xb.cell 1;obtain⟨nl,hnl⟩:∃ nl,nl=next.length:=⟨_,rfl⟩
 rw[←hnl] at xb hch y0 hW0 ⊢;have HOK:=hid hok;have HN:=hid hn;have HNL:=hid hnl;have HLL:=hid hL;have HN0:=hid hN0;have HR0:=hid hR0;have HB0:=hid hb0;have HXB:=hid xb;have HZ:=hid hz0;have HBX:=hid hBX;have hn1:n≤512:=by omega
 have hn2:nl=256*n:=by omega
 have HG5:=hid g5;have HN2:=hid hn2;clear hn2;have HCN:=hid (show nl≤cn by omega);clear hok g1 g2 g3 g4 g5 hN hR hn hnl hcn hL hN0 hR0 hb0 xb hz0;go_enter Tryz.func112,Tryz.ntmps112
 go_upto_region 1 with fail
 rw[←hW0,←hBX];clear hW0 hBX;go_upto_region 3 with (go_at_call 36;((with_reducible refine hch.mono ?_);rintro e W1 ⟨rfl,hb1⟩;have y0:=(hb1.cell (p:=⟨BX,0,none⟩) HXB.out.lt).trans y0;have y1:=(hb1.cell (p:=⟨BX,1,none⟩) HXB.out.lt).trans y1))
 have hN1:=HN0.out.below hb1 Nat.le.refl;have hR1:=HR0.out.below hb1 Nat.le.refl;have HN1:=hid hN1;have HR1:=hid hR1;have HB1:=hid hb1;obtain⟨OB,hOB⟩:∃ OB,OB=W1.heap.size:=⟨_,rfl⟩;obtain⟨W3,hW3⟩:∃ W3,W3=(W1.alloc (.cells (Array.replicate n (.bool false)) 4)).alloc (.cells #[.slice (some ⟨W1.heap.size,0,none⟩) n n] 93):=⟨_,rfl⟩;have hq:Lq W1 OB (OB+1) n (List.replicate n false) W3:=by
  refine⟨?_,?_,?_,by simp⟩
  ·have h1:=((Below.refl (W1.alloc (.cells (Array.replicate n (.bool false)) 4)).heap.size (W1.alloc (.cells (Array.replicate n (.bool false)) 4))).alloc Nat.le.refl (.cells #[.slice (some ⟨W1.heap.size,0,none⟩) n n] 93)).block W1.heap.size (by simp)
   unfold BAt;rw[hW3,hOB,h1,World.alloc_heap_new];simp
  ·have:=Bx.new (W1.alloc (.cells (Array.replicate n (.bool false)) 4)) 93 #[.slice (some ⟨W1.heap.size,0,none⟩) n n]
   rw[hW3,hOB]
   simpa using this
  ·rw[hW3];exact ((Below.refl W1.heap.size W1).alloc Nat.le.refl _).alloc (by simp) _
 have y0:=(hq.lo.cell (p:=⟨BX,0,none⟩) (by have:=HXB.out.lt;have:=hb1.size;simp only;omega)).trans y0;have y1:=(hq.lo.cell (p:=⟨BX,1,none⟩) (by have:=HXB.out.lt;have:=hb1.size;simp only;omega)).trans y1;have HQ:=hid hq;have HOB:=hid hOB;have yD:BX<W1.heap.size:=by have:=HXB.out.lt;have:=hb1.size;omega
 have IE:=hid yD;have hmk:=abB n (by omega) W1;clear hch hN1 hR1 hb1 hq yD;go_upto_region 4 with fail
 rw[←hW3,←hOB];clear hW3 hOB hmk;go_upto_region 5 with fail
 clear y0 y1;have VU:∃ o,Lq W1 OB (OB+1) n o W3∧Hid (∀ j,j<0→o[j]?=some (decide (0≤rule.getD j 0))):=⟨_,HQ.out,hid fun j hj=>absurd hj (Nat.not_lt_zero _)⟩;clear HQ;go_loopw [18] (fun i wr=>∃ k:Nat,i = .int .i64 k∧k≤n∧∃ o,Lq W1 OB (OB+1) n o wr∧Hid (∀ j,j<k→o[j]?=some (decide (0≤rule.getD j 0)))) (fun i _=>n-(intOf i).toNat)
 case atStart=>exact⟨0,rfl,Nat.zero_le _,VU⟩
 case round =>
  obtain⟨k,rfl,hk,o,hq,hp⟩:=hrel;have hk0:(0:Int)≤(k:Int):=by omega
  by_cases hlt:k<n
  ·have hk1:(k:Int)<(n:Int):=by omega
   obtain⟨rb,ro,rfl,hrb,hrc⟩:=(HR1.out.below hq.lo Nat.le.refl).at (j:=k) (by have:=HN.out;omega);have hrg:rule.getD k 0=rule[k]'(by have:=HN.out;omega):=(by rw[List.getD_eq_getElem?_getD,List.getElem?_eq_getElem (by have:=HN.out;omega),Option.getD_some]);rw[←hrg] at hrc;obtain⟨x,hx⟩:∃ x,x=rule.getD k 0:=⟨_,rfl⟩;rw[←hx] at hrc;have HX:=hid hx;have hbo:=hq.bo.cell 0;have hbo:wr.cell? ⟨OB+1,0,none⟩=some (.slice (some ⟨OB,0,none⟩) n n):=hbo;have hoc:=hq.ba.cell k (by have:=hq.ln;omega);have hfz:=(hq.ba.set k false).2.2;have HQ:=hid hq;clear hx hrg hq hrb;go_wp2_with fail
   exact⟨⟨k+1,by simp,by omega,o.set k (decide (0≤x)),HQ.out.put (Nat.le_of_eq HOB.out.symm) (by omega) k _,hid (fun j hj=>by
    by_cases e:k=j
    ·subst e
     rw[List.getElem?_set_self (by have:=HQ.out.ln;omega),HX.out]
    ·rw[List.getElem?_set_ne e]
     exact hp.out j (by omega))⟩,by simp[intOf];omega⟩
  ·have hk1:¬(k:Int)<(n:Int):=by omega
   have ho:o=rule.map fun r=>decide (0≤r):=by
    refine List.ext_getElem? fun j=>?_
    by_cases hj:j<n
    ·rw[hp.out j (by omega),List.getElem?_map,List.getElem?_eq_getElem (by have:=HN.out;omega),List.getD_eq_getElem?_getD,List.getElem?_eq_getElem (by have:=HN.out;omega)]
     rfl
    ·rw[List.getElem?_eq_none (by have:=hq.ln;omega),List.getElem?_eq_none (by rw[List.length_map];have:=HN.out;omega)]
   have hL1:lvL next (cF o+1) o=L:=by
    rw[HLL.out];unfold yG;rw[←ho];exact yH next _ _ _ (Nat.lt_succ_self _) (by have:=YZ o;have:=hq.ln;have:=HN.out;omega)
   have VW:∃(o:List Bool)(b:Bool),(Value.bool true) = .bool b∧Lq W1 OB (OB+1) n o wr∧Hid (if b=true then lvL next (cF o+1) o=L else o=L):=⟨o,true,rfl,hq,hid (by rw[if_pos rfl];exact hL1)⟩;clear hp ho hL1 hq;go_upto_region 10 with fail
   go_loopw [6] (fun v6 wr=>∃(o:List Bool)(b:Bool),v6 = .bool b∧Lq W1 OB (OB+1) n o wr∧Hid (if b=true then lvL next (cF o+1) o=L else o=L)) (fun v6 wr=>match v6 with
    | .bool true=>cfW wr OB+1
    | _=>0)
   case atStart=>exact VW
   case round =>
    obtain⟨o,b,rfl,hq,hp⟩:=hrel;have hbo:wr.cell? ⟨OB+1,0,none⟩=some (.slice (some ⟨OB,0,none⟩) n n):=hq.bo.cell 0;have HQ:=hid hq;clear hq
    cases b
    ·go_wp2_with fail
     have hfin:Below w.heap.size w wr:=HB0.out.trans ((HB1.out.mono HB0.out.size).trans (HQ.out.lo.mono (by have:=IE.out;have:=HBX.out;omega)));have hba:BAt wr OB L:=(by have:=hp.out;rw[if_neg (by decide)] at this;rw[←this];exact HQ.out.ba);exact bodyPost_ret (v := .slice (some ⟨OB,0,none⟩) n n) (by simp[results,Tryz.results112,go_sem]) rfl ⟨OB,n,rfl,hba,by have:=IE.out;have:=HBX.out;have:=HOB.out;omega,hfin⟩
    ·have hm0:cfW wr OB=cF o:=HQ.out.ba.cf
     have HM0:=hid hm0;have HP1:=hid (show lvL next (cF o+1) o=L by simpa using hp.out);clear hm0 hp;go_upto_region 13 with fail
     go_loopw [6,32] (fun v6 vi wq=>∃ j:Nat,vi = .int .i64 j∧j≤n∧v6 = .bool (lvR next o j).2∧Lq W1 OB (OB+1) n (lvR next o j).1 wq) (fun _ vi _=>n-(intOf vi).toNat)
     case atStart=>exact⟨0,rfl,Nat.zero_le _,rfl,HQ.out⟩
     case round =>
      obtain⟨j,rfl,hj,rfl,hq⟩:=hrel;have hj0:(0:Int)≤(j:Int):=by omega
      by_cases hlt:j<n
      ·have hj1:(j:Int)<(n:Int):=by omega
       obtain⟨y,hy⟩:∃ y,y=lvR next o j:=⟨_,rfl⟩
       have hsucc:Hid (lvR next o (j+1)=lvS next y j):=hid (by rw[Fh,hy]);rw[←hy] at hq ⊢;obtain⟨y1,y2⟩:=y;simp only at hq ⊢;have hbo:wr.cell? ⟨OB+1,0,none⟩=some (.slice (some ⟨OB,0,none⟩) n n):=hq.bo.cell 0;have hoc:=hq.ba.cell j (by have:=hq.ln;omega);have hfz:=(hq.ba.set j false).2.2;obtain⟨bk,hbk⟩:∃ b,b=y1.getD j false:=⟨_,rfl⟩;rw[←hbk] at hoc;have HBK:=hid hbk;have HQ2:=hid hq;clear hy hq hbk
       cases bk
       ·have hnl:next.length=256*n:=by have:=HN2.out;have:=HNL.out;omega
        have hne:next≠[]:=fun e=>by rw[e] at hnl;simp at hnl;omega
        obtain⟨nb,no,rfl,hnb,hnc⟩:=(HN1.out.below HQ2.out.lo Nat.le.refl) hne;have hrow:aK wr (some ⟨nb,no+256*j,none⟩) (rowOf next j):=fun _=>⟨nb,no+256*j,rfl,hnb,fun i hi=>by
         have hi2:i<256:=(by rw[iY hnl hlt] at hi;exact hi);have:=hnc (256*j+i) (by omega);rw[←Nat.add_assoc] at this;rw[this,LH hi (by omega)]⟩
        have hin:∀ x∈rowOf next j,x<(y1.length:Int):=fun x hx=>by
         have h1:=List.all_eq_true.1 HG5.out x (pz hx);have h2:=HQ2.out.ln;have h3:=HN.out;simp only[Bool.and_eq_true,decide_eq_true_eq] at h1;omega
        have hcall:=fun c=>Az (rowOf next j) (by rw[iY hnl hlt];decide) hin (some ⟨nb,no+256*j,none⟩) c wr (cp:=n) (by rw[HQ2.out.ln];exact hbo) HQ2.out.ba hrow;rw[iY hnl hlt] at hcall;obtain⟨bn,hbn⟩:∃ b,b=(rowOf next j).any (iT y1):=⟨_,rfl⟩;rw[←hbn] at hcall;have HBN:=hid hbn;have hcall:Calls Tryz.prog 38 #[.slice (some ⟨nb,no+256*j,none⟩) (256*(j+1)-256*j) (cn-256*j), .func (.func 133) #[] #[.pointer (some ⟨OB+1,0,none⟩)]] wr fun e w'=>e = .returned (.bool bn)∧wr=w':=by
         have:=hcall (cn-256*j);rw[show 256*(j+1)-256*j=256 by omega];exact this
        have y0:=(HQ2.out.lo.cell (p:=⟨BX,0,none⟩) IE.out).trans y0;have hlo1:(256:Int)*j≤256*((j:Int)+1):=(by omega);have hhi1:(256:Int)*((j:Int)+1)≤cn:=(by have:=HN2.out;have:=HCN.out;omega);have hlo0:(0:Int)≤256*((j:Int)+1):=(by omega);have Vb:(0:Int)≤256*(j:Int):=(by omega);have adM:(nl:Int)≤200000:=(by have:=HN2.out;omega);clear hnc hne hnl hrow hin hbn
        cases bn
        ·have hst:lvS next (y1,y2) j=(y1,y2):=by
          unfold lvS;rw[if_neg (by rw[←HBK.out];decide),if_neg (by rw[←HBN.out];decide)]
         have uU:Hid (∃ j2:Nat,(Value.int .i64 ((j:Int)+1)) = .int .i64 j2∧j2≤n∧(Value.bool y2) = .bool (lvR next o j2).2∧Lq W1 OB (OB+1) n (lvR next o j2).1 wr):=hid ⟨j+1,by simp,by omega,by rw[hsucc.out,hst],by rw[hsucc.out,hst];exact HQ2.out⟩;clear hst;go_wp2_with (go_at_call 38;((with_reducible refine hcall.mono ?_);rintro e Wd ⟨rfl,rfl⟩))
         exact⟨uU.out,by simp[intOf];omega⟩
        ·have hst:lvS next (y1,y2) j=(y1.set j true,true):=by
          unfold lvS;rw[if_neg (by rw[←HBK.out];decide),if_pos HBN.out.symm]
         have uU:Hid (∃ j2:Nat,(Value.int .i64 ((j:Int)+1)) = .int .i64 j2∧j2≤n∧(Value.bool true) = .bool (lvR next o j2).2∧Lq W1 OB (OB+1) n (lvR next o j2).1 (wr.setCell ⟨OB,j,none⟩ (.bool true))):=hid ⟨j+1,by simp,by omega,by rw[hsucc.out,hst],by rw[hsucc.out,hst];exact HQ2.out.put (Nat.le_of_eq HOB.out.symm) (by omega) j true⟩;clear hst;go_wp2_with (go_at_call 38;((with_reducible refine hcall.mono ?_);rintro e Wd ⟨rfl,rfl⟩))
         exact⟨uU.out,by simp[intOf];omega⟩
       ·have hst:lvS next (y1,y2) j=(y1,y2):=if_pos HBK.out.symm
        have hrel:∃ j2:Nat,(Value.int .i64 ((j:Int)+1)) = .int .i64 j2∧j2≤n∧(Value.bool y2) = .bool (lvR next o j2).2∧Lq W1 OB (OB+1) n (lvR next o j2).1 wr:=⟨j+1,by simp,by omega,by rw[hsucc.out,hst],by rw[hsucc.out,hst];exact HQ2.out⟩;have uU:=hid hrel;clear hst hrel;go_wp2_with fail
        exact⟨uU.out,by simp[intOf];omega⟩
      ·have hj1:¬(j:Int)<(n:Int):=by omega
       obtain rfl:j=n:=by omega
       obtain⟨y,hy⟩:∃ y,y=lvR next o j:=⟨_,rfl⟩
       have hlen:o.length=j:=HQ.out.ln;have hrel:∃(o2:List Bool)(b:Bool),(Value.bool y.2) = .bool b∧Lq W1 OB (OB+1) j o2 wr∧Hid (if b=true then lvL next (cF o2+1) o2=L else o2=L):=by
        have hp1:=HP1.out;refine⟨y.1,y.2,rfl,hy ▸ hq,hid ?_⟩;unfold lvL at hp1;rw[hlen,←hy] at hp1;have hless:=(sD next o j (by omega)).2;rw[←hy] at hless
        by_cases hm:y.2=true
        ·rw[if_pos hm] at hp1 ⊢
         rw[←hp1];exact yH next _ _ _ (Nat.lt_succ_self _) (hless hm)
        ·rw[if_neg hm] at hp1 ⊢
         exact hp1
       have Ot:(match Value.bool y.2 with | .bool true=>cfW wr OB+1 | _=>0)<cF o+1:=by
        have hless:=(sD next o j (by omega)).2;rw[←hy] at hless;have hcf:=hq.ba.cf;rw[←hy] at hcf
        cases hm:y.2 with
        | true=>simp only;have:=hless hm;omega
        | false=>simp only;omega
       rw[←hy];have uU:=hid hrel;have VX:=hid Ot;clear hrel Ot hq hy hlen;go_wp2_with fail
       exact⟨uU.out,by show _<cfW _ OB+1;rw[HM0.out];exact VX.out⟩
end
section
open Go Go.Proofs Go.RowKit Go.Shelf
attribute [local go_sem] Oper.semAt_some
def Vm(w:World)(N:Nf)(most:Nat)(e:Ending)(w':World):Prop :=
 Below w.heap.size w w'∧((kY most (jC N) (eY (spl N.cl)) (most+1) 0 [[0]]=none∧e = .returned (.tuple #[.agg #[.slice none 0 0, .slice none 0 0], .int .i64 10])) ∨
 ∃ tss T an ar cn cr,kY most (jC N) (eY (spl N.cl)) (most+1) 0 [[0]]=some (tss,T)∧e = .returned (.tuple #[.agg #[.slice an (dI (fF (spl N.cl)) tss).length cn, .slice ar (iG N.ru T).length cr], .int .i64 0])∧aK w' an (dI (fF (spl N.cl)) tss)∧aK w' ar (iG N.ru T)∧(dI (fF (spl N.cl)) tss).length≤cn)
def slots(a:Array Value)(k:Nat):Value:=a.getD k undef
def TOk(N:Nf)(T:Sets):Prop:=∀ S∈T,S.length≤1024∧∀ q∈S,0≤q∧q<(N.cl.length:Int)
def OI(w W:World)(N:Nf)(x0 x1 x2:Value)(U D r ga most i:Nat)(ds:List Deferred):Prop :=
 ∃ oth sv nv rv vals T tss,Bs w W x0 x1 x2 U (U+1) D (r+1) r ga (spl N.cl) most oth sv nv rv vals T (dI (fF (spl N.cl)) tss) ((T.take i).map (nJ N.ru))∧Mk w.heap.size W ds ∧
  qY most (jC N) (eY (spl N.cl)) [[0]] i tss T∧tss.length=i∧i≤T.length∧T.length≤most∧TOk N T∧∀ k∈oth,k<W.heap.size
def II(w W:World)(N:Nf)(x0 x1 x2:Value)(U D r ga most RB g j:Nat)(ds:List Deferred)(nv rv:Value)(next rule:List Int)(T0:Sets)(Si:List Int):Prop :=
 ∃ oth sv vals T ts rw,Bs w W x0 x1 x2 U (U+1) D (r+1) r ga (spl N.cl) most oth sv nv rv vals T next rule∧Mk w.heap.size W ds ∧
  (Bx W g 3 (ci rw)∧Bx W RB 25 #[.slice (some ⟨g,0,none⟩) 256 256]∧RB∉aX (r+1) r sv oth∧g∈oth∧nv.ownBlock≠some g∧rv.ownBlock≠some g) ∧
  rowB most (jC N Si) ((eY (spl N.cl)).take j) T0=some (ts,T)∧Rw (spl N.cl) ts j rw∧ts.length=j∧T.length≤most∧TOk N T∧(∃ R,T=T0++R)∧∀ k∈oth,k<W.heap.size
theorem Bs.set{w W:World}{x0 x1 x2:Value}{U R4 D M r ga:Nat}{d:List Kl}{most:Nat}{oth:List Nat}{sv nv rv:Value}{vals:List Value}{T:Sets}{next rule:List Int}(h:Bs w W x0 x1 x2 U R4 D M r ga d most oth sv nv rv vals T next rule){i:Nat}(hi:i<T.length) :
  ∃ gs c v,sv = .slice (some ⟨gs,0,none⟩) T.length c∧gs<W.heap.size∧gs∈aX M r sv []∧W.cell? ⟨gs,i,none⟩=some v∧SAt W (aX M r sv oth) v (T.getD i []):=by
 obtain⟨sa,sc,hsv⟩:=aQ h.mkr.own;rcases h.mkr.own.2 with ⟨_,h0⟩ | ⟨gs,cap,cur,e,_,hh,_⟩
 ·omega
 ·have hv:i<vals.length:=by rw[h.mkr.vl];exact hi
  have hc:=h.mkr.own.cells (g:=gs) (by rw[e];rfl) i vals[i] (List.getElem?_eq_getElem hv);rw[addr_add,Nat.zero_add] at hc;refine⟨gs,cap,vals[i],e,(Array.getElem?_eq_some_iff.1 hh).1,by unfold aX;rw[e];simp[Value.ownBlock],hc,?_⟩;rw[List.getD_eq_getElem?_getD,List.getElem?_eq_getElem hi];exact h.mkr.row i _ _ (List.getElem?_eq_getElem hv) (List.getElem?_eq_getElem hi)
theorem Mkr.more{W:World}{base:Nat}{oth:List Nat}{M r:Nat}{x0 x1 x2:Value}{most:Nat}{sv:Value}{vals:List Value}{T:Sets}(h:Mkr W base oth M r x0 x1 x2 most sv vals T)(z:Nat)(hz:W.heap.size≤z):Mkr W base (z::oth) M r x0 x1 x2 most sv vals T :=
 { h with
  row:=fun i v S hv hS=>(h.row i v S hv hS).more fun k hk hlt=>Decidable.byContradiction fun hn=>qW hn (z:=z) (by omega) hk }
theorem AV{o:Oper}{a:Act}{K:Act→World→Prop}{Q:Exit→Act→World→Prop}{W:World}(base:Nat)(v:Value)(pre l:List Int)(s y:Operand)
  (ho:o.op = .call { callee := .builtin .append,args:=#[s,y],argTypes:=#[25,25] }) (hs:a.eval s=v) (hown:W.ownsRow base 3 1 v pre.length (pre.map (Value.int .i64))) (B c m:Nat) (hm:m=l.length) (hx:a.eval y = .slice (some ⟨B,0,none⟩) m c)
  (hc:∀ j (h:j<l.length),W.cell? ⟨B,j,none⟩=some (.int .i64 l[j])) (hl:pre.length≤1000000) (hl2:l.length≤1000000) (hb:base≤W.heap.size)
  (h:∀ v' w',w'.ownsRow base 3 1 v' (pre.length+l.length) (pre.map (Value.int .i64)++l.map (Value.int .i64))→W.grownBy w' v.ownBlock→(v'.ownBlock=v.ownBlock∨v'.ownBlock=some W.heap.size)→K (a.put o.dst v') w'):o.wp Tryz.prog a W K Q:=by
 subst hm;obtain⟨ti,hi,hz0,hz1,hz2⟩:=info_parts info3';obtain⟨v',w',hr,h2,h3,_,h5⟩:=run_append_own_at (P:=Tryz.prog) W base 25 o.type 3 ti (.int .i64 0) 1 8 Tryz.underlying25 hi hz0 hz1 hz2 rfl (by decide) v pre.length _ hown ⟨B,0,none⟩ l.length c (l.map (Value.int .i64)) (by simp)
  (fun j u hj=>by
   rw[addr_add,Nat.zero_add];obtain⟨hj',rfl⟩:=List.getElem?_eq_some_iff.1 hj;rw[List.getElem_map];exact hc j (by simpa using hj')) (fun u hu=>by
   obtain⟨k,_,rfl⟩:=List.mem_map.1 hu;rfl) (by unfold maxLen;omega) (by omega) hb
 unfold Oper.wp execOp;simp only[ho,resolve,invoke,builtin,Sem.run_bind,Sem.run_pure,Result.andThen_ok,List.map_toArray,List.map_cons,List.map_nil,hs,hx,hr];exact h v' w' h2 h3 h5
theorem Z9{F:Fence}{m:Nat}{P:Program}{ops:Array Oper}{Q:Exit→Act→World→Prop}{a:Act}{w:World}{rest:List Oper}{d:Option Tmp}{t:TypeId}{x y:Operand}{ty:TypeId}{pos:String}{after:Array Edge}
 (h:wpListIn F m P ops Q ({ dst:=d,op := .makeSlice t x y,type:=ty,pos:=pos,after:=after,guard:=none }::rest) a w) :
 wpListIn F m P ops Q ({ dst:=d,op := .makeSlice t x y,type:=ty,pos:=pos,after:=after,guard:=none }::rest) a w:=h
theorem aao:AX.sizeT Tryz.prog 27=some 2:=by kernel_rfl
theorem Z7:AX.sizeT Tryz.prog 25=some 1:=by kernel_rfl
def Gs:List (Nat×Nat):=[(0,0),(1,0),(2,0),(3,0),(4,0),(5,0),(6,0),(7,0),(8,0),(9,0),(10,2),(11,2),(12,2),(13,0),(14,2)]
theorem acr(W:World):(Instr.makeMap 128 none).run Tryz.prog W = .ok (.map (some W.heap.size)) (W.alloc (.map #[] 0)):=run_makeMap 52 W
theorem Mkr.new{w W:World}{M r:Nat}{x0 x1 x2:Value}{most:Nat}(hb:Bx W M 130 #[x0,x1,x2, .int .i64 most, .slice none 0 0, .map (some r)])(hm:W.heap[r]?=some (.map #[] 0))(h1:w.heap.size≤M)(h2:w.heap.size≤r):Mkr W w.heap.size [] M r x0 x1 x2 most (.slice none 0 0) [] [] where
 box:=hb
 own:=World.ownsRow_nil _ _ _ _
 vl:=rfl
 row i v S hv _:=by simp at hv
 map:=hm
 bM:=h1
 br:=h2
 small U hU:=by simp at hU
def Qb:List Int:=List.replicate 256 0
theorem Qc(w:World):(Instr.makeSlice 25 (.int .i64 256) (.int .i64 256)).run Tryz.prog w = .ok (.slice (some ⟨w.heap.size,0,none⟩) 256 256) (w.alloc (.cells (ci Qb) 3)):=Ug w
theorem Rw.XH(d:List Kl):Rw d [] 0 Qb:=Rw.start d
def SF(w V0 V:World)(x0 x1 x2:Value)(U D M r ga:Nat)(d:List Kl)(most:Nat)(oth:List Nat)(sv nv rv:Value)(T:Sets)(S:List Int)(next rule:List Int)(t:Int)(ok:Bool):Prop :=
 Dk V0 V∧V0.heap.size≤V.heap.size∧((ok=false∧lU most T S=none∧Bx V (U+1) 27 #[.slice none 0 0, .slice none 0 0]∧Below w.heap.size w V) ∨
  (ok=true∧∃ T2 sv' vals',lU most T S=some (t,T2)∧Bs w V x0 x1 x2 U (U+1) D M r ga d most oth sv' nv rv vals' T2 next rule∧(∀ k∈oth,k<V.heap.size)∧Ch (aX M r sv []) V0 V∧(sv'.ownBlock=sv.ownBlock∨∃ g,sv'.ownBlock=some g∧V0.heap.size≤g)))
section
variable {w V0 V V' : World} {x0 x1 x2 : Value} {U D M r ga : Nat} {d : List Kl} {most : Nat} {oth : List Nat} {sv nv rv : Value} {vals : List Value} {T : Sets} {S next rule : List Int} {t : Int} {ok : Bool}
theorem SF.below(h:SF w V0 V x0 x1 x2 U D M r ga d most oth sv nv rv T S next rule t ok)(hb:Below V.heap.size V V'):SF w V0 V' x0 x1 x2 U D M r ga d most oth sv nv rv T S next rule t ok:=by
 obtain⟨h1,h2,h3⟩:=h;refine⟨h1.trans (Dk.of_below hb),Nat.le_trans h2 hb.size,?_⟩;rcases h3 with ⟨a,b,c,e⟩ | ⟨a,T2,sv',vals',b,c,e,f,g⟩
 ·exact .inl ⟨a,b,c.below hb c.lt,e.trans (hb.mono e.size)⟩
 ·exact .inr ⟨a,T2,sv',vals',b,c.below hb,fun k hk=>Nat.lt_of_lt_of_le (e k hk) hb.size,f.trans (Ch.of_below hb _),g⟩
theorem Bs.cons(h:Bs w V x0 x1 x2 U (U+1) D M r ga d most oth sv nv rv vals T next rule)(hb:Below V.heap.size V V'):Bs w V' x0 x1 x2 U (U+1) D M r ga d most (V.heap.size::oth) sv nv rv vals T next rule :=
 (h.more (V.heap.size::oth) (fun k hk hlt=>by
  rcases List.mem_cons.1 hk with e | hk
  ·omega
  ·exact hk) (fun k hk=>List.mem_cons_of_mem _ hk) (fun k hk=>by
  rcases List.mem_cons.1 hk with e | hk
  ·rw[e];exact h.low.size
  ·exact h.lo k hk)).below hb
theorem SF.cons(h:SF w V0 V x0 x1 x2 U D M r ga d most oth sv nv rv T S next rule t ok)(hb:Below V.heap.size V V')(hz:V.heap.size<V'.heap.size):SF w V0 V' x0 x1 x2 U D M r ga d most (V.heap.size::oth) sv nv rv T S next rule t ok:=by
 have h':=h.below hb;obtain⟨h1,h2,h3⟩:=h';obtain⟨_,_,k3⟩:=h;refine⟨h1,h2,?_⟩;rcases k3 with ⟨a,b,c,e⟩ | ⟨a,T2,sv',vals',b,c,e,f,g⟩
 ·rcases h3 with h3 | ⟨a',_⟩
  ·exact .inl h3
  ·rw[a] at a';cases a'
 ·refine .inr ⟨a,T2,sv',vals',b,c.cons hb,fun k hk=>?_,f.trans (Ch.of_below hb _),g⟩
  rcases List.mem_cons.1 hk with e' | hk
  ·rw[e'];exact hz
  ·exact Nat.lt_of_lt_of_le (e k hk) hb.size
theorem SF.store(h:SF w V0 V x0 x1 x2 U D M r ga d most oth sv nv rv T S next rule t ok){TB:Nat}{cs:Array Value}(hT:TB∈oth)(h0:V0.heap.size≤TB)(hw:w.heap.size≤V0.heap.size)(hcs:V.heap[TB]?=some (.cells cs 3 (0,0)))(hn:nv.ownBlock≠some TB)(hr:rv.ownBlock≠some TB)
  (h4:∀ k,k≠TB→V'.heap[k]?=V.heap[k]?) (hl:Below 0 V V'):SF w V0 V' x0 x1 x2 U D M r ga d most oth sv nv rv T S next rule t ok:=by
 obtain⟨h1,h2,h3⟩:=h;have hc:Ch [TB] V V':=Ch.mP (A:=TB) hl h4 (by simp);refine⟨h1.trans (Dk.Ky hc fun k hk _ e=>by rw[List.mem_singleton.1 hk,hcs] at e;cases e),Nat.le_trans h2 hl.size,?_⟩;rcases h3 with ⟨a,b,c,e⟩ | ⟨a,T2,sv',vals',b,c,e,f,g⟩
 ·refine .inl ⟨a,b,(h4 _ (fun e=>by rw[←e,show V.heap[_]?=_ from c] at hcs;cases hcs)).trans c,e.trans (hc.below e.size fun k hk=>by rw[List.mem_singleton.1 hk];omega)⟩
 ·refine .inr ⟨a,T2,sv',vals',b,c.row hT hcs hn hr hc,fun k hk=>Nat.lt_of_lt_of_le (e k hk) hl.size,f.trans' hc fun k hk hlt=>?_,g⟩
  rw[List.mem_singleton.1 hk] at hlt;omega
theorem SF.oO{X:World}{e:Ending}(hB:Bs w X x0 x1 x2 U (U+1) D M r ga d most oth sv nv rv vals T next rule)(hd:Dk V0 X)(hb:Below V0.heap.size V0 X)(hl:∀ k∈oth,k<X.heap.size)(h:lC X w.heap.size oth M r x0 x1 x2 most sv T S e V) :
  ∃ t ok,e = .returned (.tuple #[.int .i64 t, .bool ok])∧SF w V0 V x0 x1 x2 U D M r ga d most oth sv nv rv T S next rule t ok:=by
 rcases h with ⟨h1,rfl,h3⟩ | ⟨t,T2,sv',vals',h1,rfl,h3,h4,h5⟩
 ·refine⟨0,false,rfl,hd.trans (hB.mkr.dk h3),Nat.le_trans hb.size h3.low.size, .inl ⟨rfl,h1,h3.bx hB.rb (fun hm=>hB.nR (gZ hm)),hB.low.trans (h3.below hB.low.size fun b hb'=>?_)⟩⟩
  unfold aX at hb';simp only[List.mem_cons,List.mem_append,Option.mem_toList,List.not_mem_nil,or_false] at hb';rcases hb' with rfl | rfl | hb'
  ·exact hB.mkr.bM
  ·exact hB.mkr.br
  ·exact(hB.mkr.own.lt b hb').1
 ·exact⟨t,true,rfl,hd.trans (hB.mkr.dk h4),Nat.le_trans hb.size h4.low.size, .inr ⟨rfl,T2,sv',vals',h1,hB.state h3 h4 h5,fun k hk=>Nat.lt_of_lt_of_le (hl k hk) h4.low.size,(Ch.of_below hb _).trans h4,h5.imp id fun ⟨g,h6,h7⟩=>⟨g,h6,Nat.le_trans hb.size h7⟩⟩⟩
end
theorem Ch.lets{g b:Nat}{W0 X Y:World}(h:Ch [g,b] W0 X)(hl:AX.Lets b W0.heap.size X Y):Ch [g,b] W0 Y:=⟨h.low.trans hl.low,fun k hk hn=>by
 have h1:=h.same k hk hn;obtain⟨o,ho⟩:∃ o,W0.heap[k]?=some o:=⟨_,Array.getElem?_eq_getElem hk⟩;rw[ho] at h1 ⊢;exact hl.same k o h1 (fun e=>hn (by rw[e];simp)) (.inl hk)⟩
theorem Gw{W:World}{B B':Nat}{t t':TypeId}{cs cs':Array Value}(h:Bx W B t cs)(h':Bx W B' t' cs')(ht:t≠t'):B≠B':=by
 rintro rfl;have:=(show W.heap[B]?=_ from h).symm.trans h'
 cases this
 exact ht rfl
theorem sz3:AX.sizeT Tryz.prog 3=some 1:=by kernel_rfl
theorem xI{w V:World}{x0 x1 x2:Value}{U D M r ga:Nat}{d:List Kl}{most:Nat}{oth:List Nat}{sv nv rv:Value}{vals:List Value}{T:Sets}{next rule:List Int}(h:Bs w V x0 x1 x2 U (U+1) D M r ga d most oth sv nv rv vals T next rule)(hl:∀ k∈oth,k<V.heap.size):∀ k∈aX M r sv oth,k<V.heap.size:=fun k hk=>by
 unfold aX at hk;simp only[List.mem_cons,List.mem_append,Option.mem_toList] at hk;rcases hk with rfl | rfl | hk | hk
 ·exact h.mkr.box.lt
 ·exact (Array.getElem?_eq_some_iff.1 h.mkr.map).1
 ·exact(h.mkr.own.lt k hk).2
 ·exact hl k hk
theorem lC.ch{W W':World}{base:Nat}{oth:List Nat}{M r:Nat}{x0 x1 x2:Value}{most:Nat}{sv:Value}{T:Sets}{S:List Int}{e:Ending}(h:lC W base oth M r x0 x1 x2 most sv T S e W'):Ch (aX M r sv []) W W':=by
 rcases h with ⟨_,_,h⟩ | ⟨_,_,_,_,_,_,_,h,_⟩
 ·exact h
 ·exact h
def Gv:AX.Plan := .plain 0 (.plain 1 (.plain 2 (.plain 3 (.plain 4 (.plain 6 (.plain 9 (.two 5 (.plain 7 (.two 8 (.two 10 (.two 11 (.plain 12 (.plain 13 (.plain 14 (.one 15 (.one 16 (.plain 17 .nil)))))) 15 (.one 11 (.plain 12 (.plain 13 (.plain 14 (.one 16 (.plain 17 .nil))))))) 15 (.one 10 (.one 11 (.plain 12 (.plain 13 (.plain 14 (.one 16 (.plain 17 .nil)))))))) 15 (.one 8 (.one 10 (.one 11 (.plain 12 (.plain 13 (.plain 14 (.one 16 (.plain 17 .nil)))))))))) 15 (.one 5 (.plain 7 (.one 8 (.one 10 (.one 11 (.plain 12 (.plain 13 (.plain 14 (.one 16 (.plain 17 .nil)))))))))))))))))
end
section
open Go Go.Proofs Go.RowKit
theorem IG:WideMaps.KeyLaw Tryz.prog 188:=deep_law (m:=3) (by decide) (by kernel_rfl) (by kernel_rfl) (by kernel_rfl)
def W64(l:List Int):Prop:=∀ x∈l,-9223372036854775808≤x∧x<9223372036854775808
def sgV(l:List Int):Value := .agg (ci l)
theorem Fj{α β : Type}{f : α→Option β} : ∀ (l:List α),(∀ x∈l,∃ y,f x=some y)→∃ ys,l.mapM f=some ys
 | [],_=>⟨[],rfl⟩
 | x::l,h=>by
  obtain⟨y,hy⟩:=h x (List.mem_cons_self ..);obtain⟨ys,hys⟩:=Fj l fun z hz=>h z (List.mem_cons_of_mem _ hz);exact⟨y::ys,by simp[List.mapM_cons,hy,hys]⟩
theorem cells3:Tryz.prog.cellsOf 3=1:=by kernel_rfl
theorem Fp:Tryz.prog.cellsOf 186=256:=by kernel_rfl
theorem Fq:Tryz.prog.cellsOf 188=257:=by kernel_rfl
theorem Y0(D:Nat)(x:Int)(h : -9223372036854775808≤x∧x<9223372036854775808):Tryz.prog.keyLits (D+1) 3 [.int .i64 x]=some [.int .i64 x]:=by
 unfold Program.keyLits;rw[Tryz.underlying3];simp only;have hw:(Lit.int .i64 x).wf=true:=by
  simp[Lit.wf,IntKind.min,IntKind.max,IntKind.signed,IntKind.bits];omega
 rw[if_pos ⟨trivial,hw⟩]
theorem take_one{l:List Int}{i:Nat}(hi:i<l.length):((l.map (Value.int .i64)).drop i).take 1 = [.int .i64 l[i]]:=by
 rw[List.drop_eq_getElem_cons (by simpa using hi)];simp
theorem VY(D:Nat)(l:List Int)(hl:l.length=256)(h:W64 l):∃ ls,Tryz.prog.keyLits (D+2) 186 (l.map (Value.int .i64))=some ls:=by
 unfold Program.keyLits;rw[Tryz.underlying186];simp only[Fp,cells3,Nat.mul_one,List.length_map,hl,if_true];obtain⟨ys,hy⟩:=Fj (f:=fun i=>Tryz.prog.keyLits (D+1) 3 (((l.map (Value.int .i64)).drop i).take 1)) (List.range 256) fun i hi=>by
  have hi:i<l.length:=by rw[hl];exact List.mem_range.1 hi
  exact⟨_,by rw[take_one hi];exact Y0 D _ (h _ (List.getElem_mem hi))⟩
 exact⟨_,by rw[hy];rfl⟩
theorem VZ(D:Nat)(l:List Int)(hl:l.length=257)(h:W64 l):∃ ls,Tryz.prog.keyLits (D+3) 188 (l.map (Value.int .i64))=some ls:=by
 cases l with
 | nil=>simp at hl
 | cons x t =>
  have ht:t.length=256:=by simpa using hl
  obtain⟨ys,hy⟩:=VY D t ht fun z hz=>h z (List.mem_cons_of_mem _ hz);have hx:=Y0 (D+1) x (h x (List.mem_cons_self ..));have e1:((((x::t).map (Value.int .i64)).drop 0).take 1) = [.int .i64 x]:=by simp
  have e2:((((x::t).map (Value.int .i64)).drop 1).take 256)=t.map (Value.int .i64):=by
   rw[List.map_cons,List.drop_one,List.tail_cons,List.take_of_length_le (by rw[List.length_map,ht];exact Nat.le_refl _)]
  unfold Program.keyLits;rw[Tryz.underlying188];simp only[Fq,List.length_map,hl];rw[if_pos ⟨trivial,by kernel_rfl⟩];refine⟨([[.int .i64 x],ys]:List (List Lit)).flatten,?_⟩;simp only[List.mapM_cons,List.mapM_nil,cells3,Fp,e1,e2,hx,hy];rfl
theorem V5{l:List Int}(hl:l.length=257)(h:W64 l):∃ s,keyOf Tryz.prog 188 (sgV l)=some s:=by
 obtain⟨D,hD⟩:∃ D,Tryz.prog.types.size+1=D+3:=⟨Tryz.prog.types.size-2,by
  have:2≤Tryz.prog.types.size:=Nat.le_of_ble_eq_true (by kernel_rfl);omega⟩
 obtain⟨ls,hls⟩:=VZ D l hl h;unfold keyOf;rw[Tryz.underlying188];simp only;rw[show Tryz.prog.keyType 188=true by kernel_rfl,hD];have hf:(sgV l).formed Tryz.prog 188=true:=by
  unfold sgV Value.formed;rw[Tryz.underlying188];simp only;rw[Fq];simp[ci,hl]
 rw[hf];simp only[Bool.and_self,if_true];rw[show(sgV l).cells.toList=l.map (Value.int .i64) by simp[sgV,ci,Value.cells],hls];exact⟨_,rfl⟩
def fC:Nat→List (List Int)→List MapEntry
 | _,[]=>[]
 | o,S::T=>{ key:=sgV S,val := .int .i64 (o:Int),born:=o }::fC (o+1) T
theorem yI:∀(o:Nat)(T:List (List Int)) (S:List Int),fC o (T++[S])=fC o T++[{ key:=sgV S,val := .int .i64 ((o+T.length:Nat):Int),born:=o+T.length }]
 | o,[],S=>by simp[fC]
 | o,U::T,S=>by
  show _::fC (o+1) (T++[S])=_::(fC (o+1) T++_)
  rw[yI (o+1) T S,List.length_cons,show o+1+T.length=o+(T.length+1) by omega]
theorem uV:∀(o:Nat)(T:List (List Int)) (j:Nat) (e:MapEntry),(fC o T)[j]?=some e→∃ S,T[j]?=some S∧e.key=sgV S∧e.val = .int .i64 ((o+j:Nat):Int)
 | _,[],j,e,h=>by simp[fC] at h
 | o,S::T,0,e,h=>by
  simp[fC] at h;subst h;exact⟨S,rfl,rfl,rfl⟩
 | o,S::T,j+1,e,h=>by
  simp only[fC,List.getElem?_cons_succ] at h;obtain⟨U,h1,h2,h3⟩:=uV (o+1) T j e h;exact⟨U,by simpa using h1,h2,by rw[h3];congr 2;omega⟩
theorem LK{T:List (List Int)}{S:List Int}(h:S∈T):∃ e∈fC 0 T,e.key=sgV S:=by
 have:∀(o:Nat)(T:List (List Int)),S∈T→∃ e∈fC o T,e.key=sgV S:=by
  intro o T
  induction T generalizing o with
  | nil=>intro h;cases h
  | cons U T ih =>
   intro h;rcases List.mem_cons.1 h with rfl | h
   ·exact⟨_,List.mem_cons_self ..,rfl⟩
   ·obtain⟨e,he,h2⟩:=ih (o+1) h
    exact⟨e,List.mem_cons_of_mem _ he,h2⟩
 exact this 0 T h
theorem Fv:∀ {a b:List Int},a.map (Value.int .i64)=b.map (Value.int .i64)→a=b
 | [],[],_=>rfl
 | [],_::_,h=>by simp at h
 | _::_,[],h=>by simp at h
 | x::a,y::b,h=>by
  obtain⟨h1,h2⟩:=List.cons.inj h;rw[(Value.int.inj h1).2,Fv h2]
theorem SI{a b:List Int}(h:sgV a=sgV b):a=b:=by
 unfold sgV ci at h;have h1:=Value.agg.inj h;have h2:a.map (Value.int .i64)=b.map (Value.int .i64):=by simpa using h1
 exact Fv h2
def Sg(S:List Int):Prop:=S.length=257∧W64 S
theorem Sg.key{S:List Int}(h:Sg S):∃ l,keyOf Tryz.prog 188 (sgV S)=some l:=V5 h.1 h.2
theorem Ve{W:World}{T:List (List Int)}{S:List Int}(hS:Sg S)(hT:∀ U∈T,Sg U)(hn:T.Nodup) :
  (Instr.findKey 188 (sgV S) (fC 0 T)).run Tryz.prog W = .ok (if fi T S<T.length then some (fi T S, .int .i64 (fi T S:Int)) else none) W:=by
 obtain⟨l,hl⟩:=hS.key;rcases IG.find W hl (fC 0 T) (fun e he=>by
  obtain⟨j,hj⟩:=List.getElem?_of_mem he;obtain⟨U,h1,h2,_⟩:=uV 0 T j e hj;rw[h2];exact(hT U (List.mem_of_getElem? h1)).key) with ⟨h1,h2⟩ | ⟨j,e,h1,h2,h3⟩
 ·have hno:S∉T:=fun h=>by
   obtain⟨e,he,h3⟩:=LK h;exact h2 e he h3
  have:¬fi T S<T.length:=fun h=>by
   unfold fi at h;have:=List.findIdx_getElem (w:=h);simp only[beq_iff_eq] at this;exact hno (this ▸ List.getElem_mem h)
  rw[h1,if_neg this]
 ·obtain⟨U,h4,h5,h6⟩:=uV 0 T j e h2
  have hU:U=S:=SI (h5.symm.trans h3);subst hU;obtain⟨hj,hju⟩:=List.getElem?_eq_some_iff.1 h4;have hlt:fi T U<T.length:=List.findIdx_lt_length_of_exists ⟨U,List.mem_of_getElem? h4,by simp⟩;have hfj:fi T U=j:=by
   have h7:T[fi T U]=U:=by
    have:=List.findIdx_getElem (w:=hlt);simp only[beq_iff_eq] at this;exact this
   exact (List.getElem_inj hn).1 (h7.trans hju.symm)
  rw[h1,if_pos hlt,hfj,h6,Nat.zero_add]
theorem Y1{W:World}{r:Nat}{T:List (List Int)}{c:Nat}{S:List Int}(hb:W.heap[r]?=some (.map (fC 0 T).toArray c))(hS:Sg S)(hT:∀ U∈T,Sg U)(hn:T.Nodup) :
  (Instr.lookup 185 (.map (some r)) (sgV S) true).run Tryz.prog W = .ok (.tuple #[.int .i64 (if fi T S<T.length then (fi T S:Int) else 0), .bool (decide (fi T S<T.length))]) W:=by
 have hm:Tryz.prog.underlying 185=some (.map 188 3):=Tryz.underlying185;obtain⟨l,hl⟩:=hS.key;have hc:=IG.check W (fC 0 T).toArray.isEmpty hl;have hf:=Ve (W:=W) hS hT hn;have hz:=Tryz.zeroValue3
 by_cases h:fi T S<T.length
 ·rw[if_pos h] at hf
  rw[if_pos h,decide_eq_true h];simp only[Instr.lookup,Sem.run_bind,run_underlying hm,Result.andThen_ok,MapKept.run_getObj_map hb,Sem.run_pure,hc,hf];rfl
 ·rw[if_neg h] at hf
  rw[if_neg h,decide_eq_false h];simp only[Instr.lookup,Sem.run_bind,run_underlying hm,Result.andThen_ok,MapKept.run_getObj_map hb,Sem.run_pure,hc,hf,hz];rfl
theorem abC{W:World}{r:Nat}{T:List (List Int)}{S:List Int}(hb:W.heap[r]?=some (.map (fC 0 T).toArray T.length))(hS:Sg S)(hT:∀ U∈T,Sg U)(hn:T.Nodup)(hno:¬fi T S<T.length) :
  ∃ W',(Instr.mapUpdate 185 (.map (some r)) (sgV S) (.int .i64 T.length)).run Tryz.prog W = .ok () W'∧W'.heap[r]?=some (.map (fC 0 (T++[S])).toArray (T++[S]).length)∧AX.But r W W':=by
 have hm:Tryz.prog.underlying 185=some (.map 188 3):=Tryz.underlying185;have hf:=Ve (W:=W) hS hT hn;rw[if_neg hno] at hf;obtain⟨l,hl⟩:=hS.key;have hc:=IG.check W false hl;have hx:((fC 0 T).toArray.push { key:=sgV S,val := .int .i64 (T.length:Int),born:=T.length })=(fC 0 (T++[S])).toArray:=by
  rw[yI,Nat.zero_add];simp
 refine⟨{ W with heap:=W.heap.setIfInBounds r (.map ((fC 0 T).toArray.push { key:=sgV S,val := .int .i64 (T.length:Int),born:=T.length }) (T.length+1)) },?_,?_,⟨⟨rfl,rfl,rfl,by simp,fun j hj=>absurd hj (Nat.not_lt_zero _)⟩,fun j hj hne=>(MapKept.heap_set hb).2 j hne⟩⟩
 ·simp only[Instr.mapUpdate,Sem.run_bind,run_underlying hm,Result.andThen_ok,MapKept.run_getObj_map hb,hc,hf,MapKept.run_setObj_map _ hb]
 ·rw[←hx,List.length_append]
  exact (MapKept.heap_set hb).1
end
end Go.Proofs.YtkjgogdkdejljaaGreatDoor.Df
