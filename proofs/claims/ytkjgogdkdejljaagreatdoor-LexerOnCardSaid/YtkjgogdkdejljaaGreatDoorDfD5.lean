import Derived.Test.YtkjgogdkdejljaaGreatDoorDfD3
import Derived.Great.Walk
namespace Go.Proofs.YtkjgogdkdejljaaGreatDoor.Df
section
def sG(next part:List Int)(i:Nat)(own:Int):List Int:=own::(rowOf next i).map fun t=>if 0≤t then part.getD t.toNat 0 else -1
def ptS(next part:List Int)(x:List (List Int)×List Int)(i:Nat):List (List Int)×List Int :=
 if part.getD i 0<0 then (x.1,x.2.set i (-1)) else
  (if fi x.1 (sG next part i (part.getD i 0))<x.1.length then x.1 else x.1++[sG next part i (part.getD i 0)],x.2.set i (fi x.1 (sG next part i (part.getD i 0)):Int))
def ptR(next part:List Int)(k:Nat):List (List Int)×List Int:=(List.range k).foldl (ptS next part) ([],List.replicate part.length 0)
def ptL(next:List Int):Nat→Int→List Int→List Int
 | 0,_,p=>p
 | f+1,n,p=>if ((ptR next p p.length).1.length:Int)=n then (ptR next p p.length).2 else ptL next f (ptR next p p.length).1.length (ptR next p p.length).2
def sH(next rule:List Int):List Int:=(List.range rule.length).map fun i=>if (yG next rule).getD i false=true then rule.getD i 0+1 else -1
def qK(next rule:List Int):List Int:=ptL next (rule.length+3) (-1) (sH next rule)
theorem yJ(next part:List Int)(k:Nat):ptR next part (k+1)=ptS next part (ptR next part k) k:=by
 unfold ptR;rw[List.range_succ,List.foldl_append];rfl
theorem Vf(T:List (List Int))(S:List Int):fi T S≤T.length:=List.findIdx_le_length
theorem Ou{T:List (List Int)}{S:List Int} : fi T S<T.length↔S∈T:=by
 unfold fi;rw[List.findIdx_lt_length]
 constructor
 ·rintro⟨x,hx,e⟩
  rw[←(beq_iff_eq.1 e)];exact hx
 ·intro h
  exact⟨S,h,by simp⟩
structure PtI(part:List Int)(k:Nat)(x:List (List Int)×List Int):Prop where
 len:x.2.length=part.length
 nd:x.1.Nodup
 most:x.1.length≤k
 own:∀ S∈x.1,∃ j,j<k∧0≤part.getD j 0∧S.head?=some (part.getD j 0)
 has:∀ j,j<k→0≤part.getD j 0→∃ S∈x.1,S.head?=some (part.getD j 0)
 vals:∀ j,j<k → -1≤x.2.getD j 0∧x.2.getD j 0<x.1.length
 all:∀ m,m<x.1.length→∃ j,j<k∧x.2.getD j 0=(m:Int)
theorem jh{l:List Int}{i:Nat}{v:Int}(h:i<l.length):(l.set i v).getD i 0=v:=by
 rw[List.getD_eq_getElem?_getD,List.getElem?_set_self h,Option.getD_some]
theorem getD_set_ne{l:List Int}{i j:Nat}{v:Int}(h:i≠j):(l.set i v).getD j 0=l.getD j 0:=by
 rw[List.getD_eq_getElem?_getD,List.getElem?_set_ne h,List.getD_eq_getElem?_getD]
theorem ptI(next part:List Int):∀ k,k≤part.length→PtI part k (ptR next part k)
 | 0,_=>⟨by simp[ptR],by simp[ptR],by simp[ptR],by simp[ptR],fun j h=>absurd h (Nat.not_lt_zero _),fun j h=>absurd h (Nat.not_lt_zero _),by simp[ptR]⟩
 | k+1,hk=>by
  have h:=ptI next part k (by omega)
  rw[yJ];generalize ptR next part k=x at h ⊢
  have hkl:k<x.2.length:=by rw[h.len];omega
  unfold ptS;split
  ·rename_i hneg
   refine⟨by rw[List.length_set];exact h.len,h.nd,Nat.le_succ_of_le h.most,fun S hS=>?_,fun j hj h0=>?_,fun j hj=>?_,fun m hm=>?_⟩
   ·obtain⟨j,h1,h2⟩:=h.own S hS
    exact⟨j,by omega,h2⟩
   ·have:j≠k:=fun e=>by subst e;omega
    exact h.has j (by omega) h0
   ·by_cases e:k=j
    ·subst e
     simp only;rw[jh hkl];omega
    ·simp only
     rw[getD_set_ne e];exact h.vals j (by omega)
   ·obtain⟨j,h1,h2⟩:=h.all m hm
    exact⟨j,by omega,by simp only;rw[getD_set_ne (by omega)];exact h2⟩
  ·rename_i hpos
   generalize hS:sG next part k (part.getD k 0)=S
   have hhd:S.head?=some (part.getD k 0):=(by rw[←hS];rfl);have hfl:=Vf x.1 S
   by_cases hf:fi x.1 S<x.1.length
   ·rw[if_pos hf]
    refine⟨by simp only;rw[List.length_set];exact h.len,h.nd,Nat.le_succ_of_le h.most,fun U hU=>?_,fun j hj h0=>?_,fun j hj=>?_,fun m hm=>?_⟩
    ·obtain⟨j,h1,h2⟩:=h.own U hU
     exact⟨j,by omega,h2⟩
    ·by_cases e:j=k
     ·subst e
      exact⟨S,Ou.1 hf,hhd⟩
     ·exact h.has j (by omega) h0
    ·simp only
     by_cases e:k=j
     ·subst e
      rw[jh hkl];omega
     ·rw[getD_set_ne e]
      exact h.vals j (by omega)
    ·obtain⟨j,h1,h2⟩:=h.all m hm
     exact⟨j,by omega,by simp only;rw[getD_set_ne (by omega)];exact h2⟩
   ·rw[if_neg hf]
    have hno:S∉x.1:=fun h=>hf (Ou.2 h);have hfe:fi x.1 S=x.1.length:=(by omega);refine⟨by simp only;rw[List.length_set];exact h.len,?_,?_,fun U hU=>?_,fun j hj h0=>?_,fun j hj=>?_,fun m hm=>?_⟩
    ·simp only
     rw[List.nodup_append];exact⟨h.nd,by simp,fun a ha b hb e=>hno (by rw[List.mem_singleton.1 hb] at e;rw[←e];exact ha)⟩
    ·simp only
     rw[List.length_append,List.length_singleton];have:=h.most;omega
    ·rcases List.mem_append.1 hU with hU | hU
     ·obtain⟨j,h1,h2⟩:=h.own U hU
      exact⟨j,by omega,h2⟩
     ·rw[List.mem_singleton.1 hU]
      exact⟨k,by omega,by omega,hhd⟩
    ·by_cases e:j=k
     ·subst e
      exact⟨S,by simp,hhd⟩
     ·obtain⟨U,h1,h2⟩:=h.has j (by omega) h0
      exact⟨U,List.mem_append_left _ h1,h2⟩
    ·simp only
     rw[List.length_append,List.length_singleton]
     by_cases e:k=j
     ·subst e
      rw[jh hkl];omega
     ·rw[getD_set_ne e]
      have:=h.vals j (by omega);omega
    ·simp only at hm ⊢
     rw[List.length_append,List.length_singleton] at hm
     by_cases e:m=x.1.length
     ·subst e
      exact⟨k,by omega,by rw[jh hkl,hfe]⟩
     ·obtain⟨j,h1,h2⟩:=h.all m (by omega)
      exact⟨j,by omega,by rw[getD_set_ne (by omega)];exact h2⟩
def Cov(n:Int)(part:List Int):Prop:=∀ m:Nat,(m:Int)<n→∃ j,j<part.length∧part.getD j 0=(m:Int)
theorem Ov{next part:List Int}{n:Int}(h:Cov n part):n≤((ptR next part part.length).1.length:Int):=by
 have hI:=ptI next part part.length Nat.le.refl
 generalize ptR next part part.length=x at hI ⊢
 by_cases hn:n≤0
 ·omega
 obtain⟨m,rfl⟩:∃ m:Nat,n=(m:Int):=⟨n.toNat,by omega⟩;have hsub:((List.range m).map fun i:Nat=>some (i:Int)).length≤(x.1.map List.head?).length:=by
  refine List.Nodup.length_le_of_subset ?_ fun y hy=>?_
  ·refine List.pairwise_map.2 (List.nodup_range.imp fun hne e=>hne ?_)
   have:=Option.some.inj e;omega
  ·obtain⟨i,hi,rfl⟩:=List.mem_map.1 hy
   obtain⟨j,hj,he⟩:=h i (by have:=List.mem_range.1 hi;omega);obtain⟨S,hS,hh⟩:=hI.has j hj (by omega);exact List.mem_map.2 ⟨S,hS,by rw[hh,he]⟩
 simp only[List.length_map,List.length_range] at hsub;omega
theorem Fz(next part:List Int):Cov ((ptR next part part.length).1.length:Int) (ptR next part part.length).2:=fun m hm=>by
 have hI:=ptI next part part.length Nat.le.refl
 obtain⟨j,h1,h2⟩:=hI.all m (by omega);exact⟨j,by rw[hI.len];exact h1,h2⟩
theorem yK(next:List Int):∀(f f':Nat)(n:Int)(p:List Int),Cov n p→(p.length:Int)-n<f→(p.length:Int)-n<f'→n≤p.length→ptL next f n p=ptL next f' n p
 | 0,_,_,_,_,h,_,hn=>by omega
 | f+1,0,_,_,_,_,h,hn=>by omega
 | f+1,f'+1,n,p,hc,h,h',hn=>by
  have hI:=ptI next p p.length Nat.le.refl
  have h1:=Ov (next:=next) hc;unfold ptL;split
  ·rfl
  ·rename_i hne
   have:=hI.most;exact yK next f f' _ _ (Fz next p) (by rw[hI.len];omega) (by rw[hI.len];omega) (by rw[hI.len];omega)
end
section
open Go Go.Proofs Go.RowKit
attribute [local go_sem] Oper.semAt_some
def zS:List Int:=List.replicate 257 0
def zT:List Int:=List.replicate 256 0
theorem Ox:zS.length=257:=by kernel_rfl
theorem yL:(Tryz.prog.info? 188).map (fun i=>(i.zero,i.size))=some (some (sgV zS),257):=by kernel_rfl
theorem JX(w:World):(zeroValue 188).run Tryz.prog w = .ok (sgV zS) w:=by
 cases h:Tryz.prog.info? 188 with
 | none=>have:=yL;rw[h] at this;cases this
 | some i =>
  have h2:=yL;rw[h] at h2;simp only[Option.map_some,Option.some.injEq,Prod.mk.injEq] at h2;simp[zeroValue,typeInfo,Sem.run_bind,h,h2.1]
theorem SK(cs:Array Value)(h:1≤cs.size)(x:Int):Instr.fill (fun i=>([(0,1),(1,256)]:List (Nat×Nat))[i]?) cs [(0, .int .i64 x)]=some (cs.setIfInBounds 0 (.int .i64 x)):=by
 show(if (decide ((1:Nat)≠1) || decide (0+1 > cs.size))=true then none else some (cs.setIfInBounds (0+0) (.int .i64 x)))=_
 rw[show decide (0+1 > cs.size)=false from decide_eq_false (by omega)];rfl
theorem V7(x:Int):zS.set 0 x=x::zT:=rfl
theorem Oy(x:Int)(w:World):(Instr.build 188 #[(0, .int .i64 x)]).run Tryz.prog w = .ok (sgV (x::zT)) w:=by
 have hf:=SK (sgV zS).cells (by show 1≤(ci zS).size;simp[ci,Ox]) x;have hc:(sgV zS).cells.setIfInBounds 0 (.int .i64 x)=ci (x::zT):=by
  show(ci zS).setIfInBounds 0 (.int .i64 x)=_
  rw[IJ,V7]
 rw[hc] at hf;simp only[Instr.build,Sem.run_bind,JX,Result.andThen_ok,run_underlying Tryz.underlying188];simp[Sem.run_bind];rw[hf];rfl
theorem mk25(n:Nat)(hn:n≤1000)(w:World):(Instr.makeSlice 25 (.int .i64 n) (.int .i64 n)).run Tryz.prog w = .ok (.slice (some ⟨w.heap.size,0,none⟩) n n) (w.alloc (.cells (ci (List.replicate n 0)) 3)):=by
 obtain⟨ti,hi,hz0,hz1,hz2⟩:=info_parts info3';have h:=run_makeSlice (P:=Tryz.prog) (w:=w) 25 3 ti (.int .i64 0) Tryz.underlying25 hi hz0 .i64 .i64 (n:Int) (n:Int) (by omega) (Int.le_refl _) (by rw[hz1];simp;omega) (by rw[hz2];omega) (by omega);rw[Int.toNat_natCast] at h;rw[h];have e:madeCells (Value.int .i64 0).cells (n*ti.size)=ci (List.replicate n 0):=by
  rw[hz1,Nat.mul_one];refine Array.toList_inj.1 ?_
  show(madeCells #[Value.int .i64 0] n).toList=_
  rw[toList_madeCells_one];simp[ci]
 rw[e]
section
variable {ops : Array Oper} {rest : List Oper} {a : Act} {w : World} {Q : Exit → Act → World → Prop} {dst : Option Tmp} {ty : TypeId} {pos : String} {after : Array Edge}
theorem V8{y:Operand}(h:wpList Tryz.prog ops Q ({ dst:=dst,op := .build 188 #[(0,y)],type:=ty,pos:=pos,after:=after,guard:=none }::rest) a w):wpList Tryz.prog ops Q ({ dst:=dst,op := .build 188 #[(0,y)],type:=ty,pos:=pos,after:=after,guard:=none }::rest) a w:=h
theorem wW{y:Operand}(x:Int)(hy:a.eval y = .int .i64 x)(h:wpList Tryz.prog ops Q rest (a.put dst (sgV (x::zT))) w):wpList Tryz.prog ops Q ({ dst:=dst,op := .build 188 #[(0,y)],type:=ty,pos:=pos,after:=after,guard:=none }::rest) a w:=by
 refine Go.Great.wpList_readTo rfl dst rfl (sgV (x::zT)) ?_ h;have hb:=Oy x w;unfold execOp;simp only[List.map_toArray,List.map_cons,List.map_nil,hy];simp[hb]
theorem V9(h:wpList Tryz.prog ops Q ({ dst:=dst,op := .alloc 188,type:=ty,pos:=pos,after:=after,guard:=none }::rest) a w):wpList Tryz.prog ops Q ({ dst:=dst,op := .alloc 188,type:=ty,pos:=pos,after:=after,guard:=none }::rest) a w:=h
theorem wX(h:wpList Tryz.prog ops Q rest (a.put dst (.pointer (some ⟨w.heap.size,0,none⟩))) (w.alloc (.cells (ci zS) 188))):wpList Tryz.prog ops Q ({ dst:=dst,op := .alloc 188,type:=ty,pos:=pos,after:=after,guard:=none }::rest) a w:=by
 refine Go.Great.wpList_allocTo rfl dst rfl _ _ ?_ h;have hz:=JX w;unfold execOp;simp[go_sem,hz];rfl
theorem Oz{x:Operand}(h:wpList Tryz.prog ops Q ({ dst:=dst,op := .load 188 x,type:=ty,pos:=pos,after:=after,guard:=none }::rest) a w):wpList Tryz.prog ops Q ({ dst:=dst,op := .load 188 x,type:=ty,pos:=pos,after:=after,guard:=none }::rest) a w:=h
theorem oh{x:Operand}{B:Nat}{S:List Int}(hx:a.eval x = .pointer (some ⟨B,0,none⟩))(hB:Bx w B 188 (ci S))(hS:S.length=257)(h:wpList Tryz.prog ops Q rest (a.put dst (sgV S)) w):wpList Tryz.prog ops Q ({ dst:=dst,op := .load 188 x,type:=ty,pos:=pos,after:=after,guard:=none }::rest) a w :=
 wpList_load_row rfl 188 x rfl B hx 188 (ci S) (0,0) _ hB Tryz.underlying188 rfl (by
  have:=yL
  cases h:Tryz.prog.info? 188 with
  | none=>rw[h] at this;cases this
  | some i =>
   rw[h] at this;simp only[Option.map_some,Option.some.injEq,Prod.mk.injEq] at this;simp[this.2,ci,hS]) h
end
end
end Go.Proofs.YtkjgogdkdejljaaGreatDoor.Df
