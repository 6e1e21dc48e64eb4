import Derived.Test.YtkjgogdkdejljaaGreatDoorDfJ1
set_option maxRecDepth 100000
set_option maxHeartbeats 40000000
namespace Go.Proofs.YtkjgogdkdejljaaGreatDoor.Df
def pe(p:List Int)(t:Int):Int:=if t<0 then -1 else p.getD t.toNat 0
theorem gZ{p:List Int}{t:Int}(h:t<0):pe p t = -1:=by unfold pe;rw[afR h]
theorem fG(p:List Int)(i:Nat):pe p (i:Int)=p.getD i 0:=by unfold pe;rw[afO (by omega),afY]
theorem wY(next p:List Int)(i:Nat)(own:Int):jR next p i own=own::(rowOf next i).map (pe p):=by
 unfold jR
 congr 1
 refine aic fun t _=>?_;unfold pe
 by_cases h:0<=t
 ·rw[afR h,afO (by omega)]
 ·rw[afO h,afR (by omega)]
theorem YI{T R:List (List Int)}{S:List Int}(h:S∈T):fi (T++R) S=fi T S:=by
 have h1:=vC.2 h;unfold fi at h1⊢;rw[List.findIdx_append,afR h1]
theorem QV{T:List (List Int)}{S:List Int}(h:S∈T):T[fi T S]?=some S:=by
 have h1:=vC.2 h;have h2:=ag4 (w:=h1);rw[afE h1];exact ag3 some (ahe.1 h2)
theorem QW{T:List (List Int)}{S U:List Int}(hS:S∈T)(hU:U∈T)(h:fi T S=fi T U):S=U:=by
 have h1:=QV hS;rw[h,QV hU]at h1;exact (agc h1).symm
theorem ptV(next part:List Int):∀k,k<=part.length->∀j,j<k->(part.getD j 0<0->(ptR next part k).2.getD j 0 = -1) /\
  (¬part.getD j 0<0->jR next part j (part.getD j 0)∈(ptR next part k).1/\(ptR next part k).2.getD j 0=(fi (ptR next part k).1 (jR next part j (part.getD j 0)):Int))
 | 0,_,j,h=>absurd h (agp _)
 | k+1,hk,j,hj=>by
  have ih:=ptV next part k (by omega)
  have hI:=ptI next part k (by omega)
  rw[sN];generalize ptR next part k=x at ih hI⊢
  have hkl:k<x.2.length:=by rw[hI.len];omega
  unfold ptS;split
  ·rename_i hneg
   by_cases e:j=k
   ·subst e
    exact⟨fun _=>bW hkl,fun h=>absurd hneg h⟩
   ·simp only
    rw[getD_set_ne (ahX e)];exact ih j (by omega)
  ·rename_i hpos
   simp only;have hfl:=PZ x.1 (jR next part k (part.getD k 0))
   by_cases e:j=k
   ·subst e
    refine⟨fun h=>absurd h hpos,fun _=>?_⟩;rw[bW hkl]
    by_cases hf:fi x.1 (jR next part j (part.getD j 0))<x.1.length
    ·rw[afR hf]
     exact⟨vC.1 hf,rfl⟩
    ·rw[afO hf]
     refine⟨by simp,?_⟩;have hno:jR next part j (part.getD j 0)∉x.1:=fun h=>hf (vC.2 h)
     congr 1
     unfold fi at hf hfl⊢;rw[List.findIdx_append,afO hf];have: [jR next part j (part.getD j 0)].findIdx (fun x=>x == jR next part j (part.getD j 0))=0:=(by simp[ah4]);simp only[ah4,BEq.rfl,cond_true];omega
   ·rw[getD_set_ne (ahX e)]
    obtain⟨i1,i2⟩:=ih j (by omega);refine⟨i1,fun h=>?_⟩;obtain⟨i3,i4⟩:=i2 h
    by_cases hf:fi x.1 (jR next part k (part.getD k 0))<x.1.length
    ·rw[afR hf]
     exact⟨i3,i4⟩
    ·rw[afO hf]
     exact⟨agY _ i3,by rw[YI i3];exact i4⟩
theorem QX{T:List (List Int)}{n:Nat}(hn:T.length=n)(hc:∀m,m<n->∃S∈T,S.head?=some (m:Int)){S U:List Int}(hS:S∈T)(hU:U∈T)(h:S.head?=U.head?):S=U:=by
 refine agj fun hne=>?_;have hlen:(T.erase S).length=n-1:=by rw[List.length_erase_of_mem hS,hn]
 have hpos:0<n:=by rw[<-hn];exact List.length_pos_of_mem hS
 have hsub:((List.range n).map fun i:Nat=>some (i:Int)).length<=((T.erase S).map List.head?).length:=by
  refine agQ ?_ fun y hy=>?_
  ·refine ahb.2 (List.nodup_range.imp fun hne e=>hne ?_)
   have:=agc e;omega
  ·obtain⟨m,hm,rfl⟩:=agv.1 hy
   obtain⟨V,hV,hh⟩:=hc m (agH.1 hm)
   by_cases e:V=S
   ·subst e
    exact agv.2 ⟨U,(ah7 (fun e=>hne e.symm)).2 hU,by rw[<-h,hh]⟩
   ·exact agv.2 ⟨V,(ah7 e).2 hV,hh⟩
 simp only[agf,ahF]at hsub;omega
structure PtC(next rule p:List Int):Prop where
 len:p.length=rule.length
 dead:∀i,i<rule.length->(p.getD i 0<0↔¬LvS next rule (i:Int))
 low:∀i,i<rule.length -> -1<=p.getD i 0
 crs:∀s s':Int,s<(rule.length:Int)->s'<(rule.length:Int)->(∀w,Wrd w->acc next rule s w=acc next rule s' w)->pe p s=pe p s'
 rul:∀i j,i<rule.length->j<rule.length->0<=p.getD i 0->p.getD i 0=p.getD j 0->rule.getD i 0=rule.getD j 0
theorem Lr{next rule:List Int}{s s':Int}(h:∀w,Wrd w->acc next rule s w=acc next rule s' w):LvS next rule s↔LvS next rule s':=
 ⟨fun ⟨w,h1,h2⟩=>⟨w,h1,by rw[<-h w h1];exact h2⟩,fun ⟨w,h1,h2⟩=>⟨w,h1,by rw[h w h1];exact h2⟩⟩
section
variable {next rule : List Int} (T : Tb next rule)
include T
theorem QY:PtC next rule (jK next rule):=by
 have hg:∀i,i<rule.length->(jK next rule).getD i 0=if (kF next rule).getD i false=true then rule.getD i 0+1 else -1:=fun i hi=>by
  unfold jK;rw[afG,af8,afE (by rw[ahF];exact hi),aik];rfl
 have hd:∀i,i<rule.length->((jK next rule).getD i 0<0↔¬LvS next rule (i:Int)):=fun i hi=>by
  rw[hg i hi,<-zF T hi];have:=T.rb i hi;split
  ·rename_i h
   exact⟨fun h2=>by omega,fun h2=>absurd h h2⟩
  ·rename_i h
   exact⟨fun _=>h,fun _=>by omega⟩
 have hl:∀i,i<rule.length -> -1<=(jK next rule).getD i 0:=fun i hi=>by
  rw[hg i hi];have:=T.rb i hi;split<;>omega
 refine⟨by unfold jK;simp,hd,hl,fun s s' hs hs' h=>?_,fun i j hi hj h0 h=>?_⟩
 ·have hlv:=Lr h
  have one:∀t:Int,t<(rule.length:Int)->¬LvS next rule t->pe (jK next rule) t = -1:=fun t ht hn=>by
   by_cases h0:t<0
   ·exact gZ h0
   ·obtain⟨i,rfl⟩:∃i:Nat,t=(i:Int):=⟨t.toNat,by omega⟩
    rw[fG];have:=(hd i (by omega)).2 hn;have:=hl i (by omega);omega
  by_cases hL:LvS next rule s
  ·have hL':=hlv.1 hL
   have p1:0<=s:=agj fun hn=>zC (by omega) hL;have p2:0<=s':=agj fun hn=>zC (by omega) hL';obtain⟨i,rfl⟩:∃i:Nat,s=(i:Int):=⟨s.toNat,by omega⟩;obtain⟨j,rfl⟩:∃i:Nat,s'=(i:Int):=⟨s'.toNat,by omega⟩;rw[fG,fG,hg i (by omega),hg j (by omega),afR ((zF T (by omega)).2 hL),afR ((zF T (by omega)).2 hL')];have:=h [] fun _ h=>by cases h
   rw[jT,jT]at this;rw[this]
  ·rw[one s hs hL,one s' hs' fun h=>hL (hlv.2 h)]
 ·have a1:(kF next rule).getD i false=true:=agj fun hn=>by rw[hg i hi,afO hn]at h0;omega
  have a2:(kF next rule).getD j false=true:=agj fun hn=>by rw[h,hg j hj,afO hn]at h0;omega
  rw[hg i hi,hg j hj,afR a1,afR a2]at h;omega
theorem Ls{p:List Int}(h:PtC next rule p):PtC next rule (ptR next p p.length).2:=by
 have hI:=ptI next p p.length afD
 have hV:=ptV next p p.length afD
 obtain⟨x,hx⟩:=afC (ptR next p p.length)
 rw[<-hx]at hI hV⊢;clear hx;have hlen:=h.len;have hneg:∀i,i<rule.length->(x.2.getD i 0<0↔p.getD i 0<0):=fun i hi=>by
  obtain⟨h1,h2⟩:=hV i (by omega)
  constructor
  ·intro h3
   refine agj fun hn=>?_;rw[(h2 hn).2]at h3;omega
  ·intro h3
   rw[h1 h3];omega
 refine⟨by rw[hI.len];exact hlen,fun i hi=>(hneg i hi).trans (h.dead i hi),fun i hi=>(hI.vals i (by omega)).1,fun s s' hs hs' ha=>?_,fun i j hi hj h0 he=>?_⟩
 ·have hlv:=Lr ha
  have hp:=h.crs s s' hs hs' ha
  by_cases h1:pe p s<0
  ·have one:∀t:Int,t<(rule.length:Int)->pe p t<0->pe x.2 t = -1:=fun t ht hn=>by
    by_cases h0:t<0
    ·exact gZ h0
    ·obtain⟨i,rfl⟩:∃i:Nat,t=(i:Int):=⟨t.toNat,by omega⟩
     rw[fG]at hn⊢;exact(hV i (by omega)).1 hn
   rw[one s hs h1,one s' hs' (by rw[<-hp];exact h1)]
  ·have p1:0<=s:=agj fun hn=>by rw[gZ (by omega)]at h1;omega
   have p2:0<=s':=agj fun hn=>by rw[hp,gZ (by omega)]at h1;omega
   obtain⟨i,rfl⟩:∃i:Nat,s=(i:Int):=⟨s.toNat,by omega⟩;obtain⟨j,rfl⟩:∃i:Nat,s'=(i:Int):=⟨s'.toNat,by omega⟩;rw[fG,fG]at hp⊢;rw[fG]at h1;rw[((hV i (by omega)).2 h1).2,((hV j (by omega)).2 (by omega)).2]
   congr 2
   rw[wY,wY,hp]
   congr 1
   refine agJ fun b=>?_;rw[af8,af8]
   by_cases hb:b<256
   ·rw[jS T (by omega) hb,jS T (by omega) hb]
    refine ag3 some (h.crs _ _ (jo T (by omega) hb).2 (jo T (by omega) hb).2 fun w hw=>?_);have:=ha (b::w) (hw.cons hb)
    rwa [iR,iR]at this
   ·rw[af5 (by rw[dX T.len (by omega)];omega),af5 (by rw[dX T.len (by omega)];omega)]
 ·have n1:¬p.getD i 0<0:=fun hn=>by have:=(hneg i hi).2 hn;omega
  have n2:¬p.getD j 0<0:=fun hn=>by have:=(hneg j hj).2 hn;omega
  obtain⟨a1,a2⟩:=(hV i (by omega)).2 n1;obtain⟨b1,b2⟩:=(hV j (by omega)).2 n2;have hs:=QW a1 b1 (by rw[a2,b2]at he;omega);rw[wY,wY]at hs;have hh:=(ais hs).1;exact h.rul i j hi hj (by omega) hh
structure PtF(next rule p:List Int):Prop extends PtC next rule p where
 fine:∀i j,i<rule.length->j<rule.length->0<=p.getD i 0->p.getD i 0=p.getD j 0->∀b,b<256->pe p (nxt next (i:Int) b)=pe p (nxt next (j:Int) b)
theorem Vb{p:List Int}(h:PtC next rule p)(n:Nat)(hn:(ptR next p p.length).1.length=n)(hc:Cov (n:Int) p)(hm:∀i,i<rule.length->p.getD i 0<(n:Int)):PtF next rule (ptR next p p.length).2:=by
 refine⟨Ls T h,?_⟩;have hI:=ptI next p p.length afD
 have hV:=ptV next p p.length afD
 obtain⟨x,hx⟩:=afC (ptR next p p.length)
 rw[<-hx]at hI hV hn⊢;clear hx;have hlen:=h.len;have hcv:∀m,m<n->∃S∈x.1,S.head?=some (m:Int):=fun m hm=>by
  obtain⟨j,hj,hv⟩:=hc m (by omega);obtain⟨S,h1,h2⟩:=hI.has j hj (by omega);exact⟨S,h1,by rw[h2,hv]⟩
 intro i j hi hj h0 he b hb;have nn:∀k,k<rule.length->0<=x.2.getD k 0->¬p.getD k 0<0:=fun k hk h1 hn=>by
  rw[(hV k (by omega)).1 hn]at h1;omega
 obtain⟨a1,a2⟩:=(hV i (by omega)).2 (nn i hi h0);obtain⟨b1,b2⟩:=(hV j (by omega)).2 (nn j hj (by omega));have hs:=QW a1 b1 (by rw[a2,b2]at he;omega);rw[wY,wY]at hs;have hr:=(ais hs).2;have hpb:pe p (nxt next (i:Int) b)=pe p (nxt next (j:Int) b):=by
  have e:=ag3 (fun l=>l[b]?) hr;simp only[af8,jS T hi hb,jS T hj hb,ag8]at e;exact agc e
 have t1:=jo T (s:=(i:Int)) (by omega) hb;have t2:=jo T (s:=(j:Int)) (by omega) hb;generalize nxt next (i:Int) b=t at *
 generalize nxt next (j:Int) b=t' at *
 by_cases h1:pe p t<0
 ·have one:∀t:Int,t<(rule.length:Int)->pe p t<0->pe x.2 t = -1:=fun t ht hn=>by
   by_cases h0:t<0
   ·exact gZ h0
   ·obtain⟨i,rfl⟩:∃i:Nat,t=(i:Int):=⟨t.toNat,by omega⟩
    rw[fG]at hn⊢;exact(hV i (by omega)).1 hn
  rw[one t t1.2 h1,one t' t2.2 (by rw[<-hpb];exact h1)]
 ·have p1:0<=t:=agj fun hn=>by rw[gZ (by omega)]at h1;omega
  have p2:0<=t':=agj fun hn=>by rw[hpb,gZ (by omega)]at h1;omega
  obtain⟨k,rfl⟩:∃i:Nat,t=(i:Int):=⟨t.toNat,by omega⟩;obtain⟨l,rfl⟩:∃i:Nat,t'=(i:Int):=⟨t'.toNat,by omega⟩;rw[fG,fG]at hpb⊢;rw[fG]at h1;obtain⟨c1,c2⟩:=(hV k (by omega)).2 h1;obtain⟨d1,d2⟩:=(hV l (by omega)).2 (by omega);rw[c2,d2]
  congr 2
  refine QX hn hcv c1 d1 ?_;rw[wY,wY,List.head?_cons,List.head?_cons,hpb]
theorem GK:∀(f:Nat)(n:Int)(p:List Int),PtC next rule p->Cov n p->(n<0\/∀i,i<rule.length->p.getD i 0<n)->n<=p.length->(p.length:Int)-n<f->PtF next rule (ptL next f n p)
 | 0,n,p,_,_,_,hn,hf=>by omega
 | f+1,n,p,h,hc,hm,hn,hf=>by
  have hI:=ptI next p p.length afD
  have h1:=Jk (next:=next) hc;have hlen:=h.len;unfold ptL;split
  ·rename_i he
   have hmm:∀i,i<rule.length->p.getD i 0<(((ptR next p p.length).1.length:Nat):Int):=fun i hi=>by
    rcases hm with hm|hm
    ·omega
    ·rw[he];exact hm i hi
   exact Vb T h _ rfl (by rw[he];exact hc) hmm
  ·rename_i hne
   have:=hI.most;refine GK f _ _ (Ls T h) (yS next p) (.inr fun i hi=>?_) (by rw[hI.len];omega) (by rw[hI.len];omega);exact(hI.vals i (by omega)).2
theorem JD:PtF next rule (lC next rule):=by
 have h0:=QY T;exact GK T _ _ _ h0 (fun m hm=>by omega) (.inl (by omega)) (by have:=h0.len;omega) (by rw[h0.len];omega)
end
theorem GI{next rule p:List Int}(T:Tb next rule)(h:PtF next rule p):∀(w:List Nat),Wrd w->∀s s':Int,s<(rule.length:Int)->s'<(rule.length:Int)->pe p s=pe p s'->acc next rule s w=acc next rule s' w:=by
 have dead:∀s:Int,s<(rule.length:Int)->pe p s<0->∀w,Wrd w->acc next rule s w = -1:=fun s hs hn w hw=>by
  by_cases h0:s<0
  ·exact iE h0 w
  ·obtain⟨i,rfl⟩:∃i:Nat,s=(i:Int):=⟨s.toNat,by omega⟩
   rw[fG]at hn;have hd:=(h.dead i (by omega)).1 hn;have hlow: -1<=acc next rule (i:Int) w:=by
    unfold acc;split
    ·omega
    ·rename_i hr
     have:∀(w:List Nat)(s:Int),Wrd w->s<(rule.length:Int)->runN next s w<(rule.length:Int):=by
      intro w
      induction w with
      | nil=>intro s _ hs;exact hs
      | cons b w ih=>intro s hw hs;exact ih _ (fun x hx=>hw x (afV _ hx)) (jo T hs (hw b (afS ..))).2
     exact (T.rb _ (by have:=this w (i:Int) hw (by omega);omega)).1
   have:¬ 0<=acc next rule (i:Int) w:=fun hh=>hd ⟨w,hw,hh⟩
   omega
 intro w
 induction w with
 | nil =>
  intro hw s s' hs hs' he
  by_cases h1:pe p s<0
  ·rw[dead s hs h1 _ hw,dead s' hs' (by rw[<-he];exact h1) _ hw]
  ·have p1:0<=s:=agj fun hn=>by rw[gZ (by omega)]at h1;omega
   have p2:0<=s':=agj fun hn=>by rw[he,gZ (by omega)]at h1;omega
   obtain⟨i,rfl⟩:∃i:Nat,s=(i:Int):=⟨s.toNat,by omega⟩;obtain⟨j,rfl⟩:∃i:Nat,s'=(i:Int):=⟨s'.toNat,by omega⟩;rw[fG,fG]at he;rw[fG]at h1;rw[jT,jT];exact h.rul i j (by omega) (by omega) (by omega) he
 | cons b w ih =>
  intro hw s s' hs hs' he;have hb:b<256:=hw b (afS ..)
  by_cases h1:pe p s<0
  ·rw[dead s hs h1 _ hw,dead s' hs' (by rw[<-he];exact h1) _ hw]
  ·have p1:0<=s:=agj fun hn=>by rw[gZ (by omega)]at h1;omega
   have p2:0<=s':=agj fun hn=>by rw[he,gZ (by omega)]at h1;omega
   obtain⟨i,rfl⟩:∃i:Nat,s=(i:Int):=⟨s.toNat,by omega⟩;obtain⟨j,rfl⟩:∃i:Nat,s'=(i:Int):=⟨s'.toNat,by omega⟩;rw[fG,fG]at he;rw[fG]at h1;rw[iR,iR];exact ih (fun x hx=>hw x (afV _ hx)) _ _ (jo T (by omega) hb).2 (jo T (by omega) hb).2 (h.fine i j (by omega) (by omega) (by omega) he b hb)
def rlT(q:List Int)(n:Nat)(x:List Int×List Int)(tzo:Int):List Int×List Int:=
 let t:Int:=if tzo<0 then (n:Int)else tzo
 if bF q t=q.getD n 0 then (x.1,x.2++[-1])else (if ixP q x.1 t<x.1.length then x.1 else x.1++[t],x.2++[(ixP q x.1 t:Int)])
def rlL(next rule q:List Int)(n:Nat):Nat->Nat->List Int×List Int->List Int->List Int×List Int
 | 0,_,x,ru=>(x.2,ru)
 | f+1,i,x,ru=>if i<x.1.length then rlL next rule q n f (i+1) ((rowOf next (x.1.getD i 0).toNat).foldl (rlT q n) x) (ru++[rule.getD (x.1.getD i 0).toNat 0])else (x.2,ru)
def ups(k:Nat):List Int:=(List.range k).map fun i:Nat=>(i:Int)
theorem xR(k:Nat):(ups k).length=k:=by simp[ups]
theorem Ve{k i:Nat}(h:i<k):(ups k).getD i 0=(i:Int):=by
 unfold ups;rw[afG,af8,afE (by rw[ahF];exact h),aik];rfl
theorem QZ(k:Nat):ups (k+1)=ups k++[(k:Int)]:=by
 unfold ups;rw[ahQ,agt];rfl
theorem gmem{l:List Int}{i:Nat}(h:i<l.length):l.getD i 0∈l:=by
 rw[afG,afE h];exact agu h
theorem jC(q:List Int)(i:Nat):bF q (i:Int)=q.getD i 0:=by unfold bF;rw[afY]
theorem pX{p:List Int}{t:Int}(h:0<=t):pe p t=bF p t:=by unfold pe bF;rw[afO (by omega)]
theorem aa1{p:List Int}{t:Int}: pe p t<0↔t<0\/bF p t<0:=by
 by_cases h:t<0
 ·rw[gZ h]
  exact⟨fun _ =>.inl h,fun _=>by omega⟩
 ·rw[pX (by omega)]
  exact⟨.inr,fun h2=>h2.resolve_left h⟩
theorem eH{A B:List Int}{i:Nat}(h:i<A.length):(A++B).getD i 0=A.getD i 0:=by
 rw[afG,af6 h,<-afG]
structure NR(p q:List Int)(n:Nat)(S:List Int):Prop where
 inj:∀i j,i<n->j<n->q.getD i 0=q.getD j 0->i=j
 ne:∀i,i<n->0<=bF p (S.getD i 0)->q.getD i 0≠q.getD n 0
theorem Q5{p q S:List Int}{n k t:Nat}(h:NR p q n S)(hk:k<=n)(ht:t<=k)(htn:t<n):ixP q (ups k) (t:Int)=t:=by
 unfold ixP ups;rw[List.map_map]
 by_cases e:t<k
 ·refine (List.findIdx_eq (by simp;exact e)).2 ⟨?_,fun j hj=>?_⟩
  ·simp[jC]
  ·simp only[ahi,aik,Function.comp,jC]
   refine agn.2 fun h2=>?_;have:=h.inj j t (by omega) (by omega) h2;omega
 ·obtain rfl:t=k:=by omega
  have:((List.range t).map (bF q ∘ fun i:Nat=>(i:Int))).findIdx (· == bF q (t:Int))=((List.range t).map (bF q ∘ fun i:Nat=>(i:Int))).length:=by
   refine List.findIdx_eq_length.2 fun y hy=>?_;obtain⟨j,hj,rfl⟩:=agv.1 hy;have hj:=agH.1 hj;simp only[Function.comp,jC];refine agn.2 fun h2=>?_;have:=h.inj j t (by omega) (by omega) h2;omega
  rw[this];simp
theorem Xq(p st:List Int)(t:Int):ixP p st t<=st.length:=by
 unfold ixP;have:=ahg (p:=(· == bF p t)) (xs:=st.map (bF p))
 simpa using this
theorem Xr{p st:List Int}{t:Int}(h:ixP p st t<st.length):bF p (st.getD (ixP p st t) 0)=bF p t:=by
 unfold ixP at h⊢;have h2:(st.map (bF p)).findIdx (· == bF p t)<(st.map (bF p)).length:=by rw[agf];exact h
 have:=ag4 (w:=h2);rw[ahi]at this;have:=ahe.1 this;rw[afG,afE h];exact this
theorem Lu{p:List Int}: ∀(tos:List Int)(x:List Int×List Int),∃vs ext,(tos.foldl (lsT p) x).2=x.2++vs/\vs.length=tos.length/\(tos.foldl (lsT p) x).1=x.1++ext /\
  (∀b t,tos[b]?=some t->(pe p t<0->vs.getD b 0 = -1)/\(¬pe p t<0->∃j:Nat,vs.getD b 0=(j:Int)/\j<(tos.foldl (lsT p) x).1.length/\bF p ((tos.foldl (lsT p) x).1.getD j 0)=bF p t)) /\
  (∀(q S:List Int)(n:Nat),NR p q n S->(∃e,S=(tos.foldl (lsT p) x).1++e)->(tos.foldl (lsT p) x).1.length<=n->vs.foldl (rlT q n) (ups x.1.length,x.2)=(ups (tos.foldl (lsT p) x).1.length,x.2++vs))
 | [],x=>⟨[],[],by simp,rfl,by simp,fun b t h=>by simp at h,fun q S n _ _ _=>by simp⟩
 | tzo::tos,x=>by
  obtain⟨v,hv1,hv2,hv3,hv4⟩:∃v,(lsT p x tzo).2=x.2++[v]/\(∃e,(lsT p x tzo).1=x.1++e)/\((pe p tzo<0->v = -1)/\(¬pe p tzo<0->∃j:Nat,v=(j:Int)/\j<(lsT p x tzo).1.length/\bF p ((lsT p x tzo).1.getD j 0)=bF p tzo)) /\
    (∀(q S:List Int)(n:Nat),NR p q n S->(∃e,S=(lsT p x tzo).1++e)->(lsT p x tzo).1.length<=n->rlT q n (ups x.1.length,x.2) v=(ups (lsT p x tzo).1.length,x.2++[v])):=by
   have hpl:=aa1 (p:=p) (t:=tzo);unfold lsT
   by_cases hc:tzo<0\/bF p tzo<0
   ·rw[afR hc]
    refine⟨-1,rfl,⟨[],by simp⟩,⟨fun _=>rfl,fun h=>absurd (hpl.2 hc) h⟩,fun q S n _ _ _=>?_⟩;unfold rlT;simp only;rw[afR (show (-1:Int)<0 by omega),jC,afR rfl]
   ·rw[afO hc]
    have hle:=Xq p x.1 tzo
    by_cases hf:ixP p x.1 tzo<x.1.length
    ·simp only
     rw[afR hf];refine⟨(ixP p x.1 tzo:Int),rfl,⟨[],by simp⟩,⟨fun h=>absurd (hpl.1 h) hc,fun _=>⟨_,rfl,hf,Xr hf⟩⟩,fun q S n hq hS hn=>?_⟩;obtain⟨e,hS⟩:=hS;have hne:=hq.ne (ixP p x.1 tzo) (by omega) (by rw[hS,eH hf,Xr hf];omega);unfold rlT;simp only;rw[afO (show ¬((ixP p x.1 tzo:Nat):Int)<0 by omega),jC,afO hne,Q5 hq hn (by omega) (by omega),xR,afR hf]
    ·simp only
     rw[afO hf];have he:ixP p x.1 tzo=x.1.length:=(by omega);rw[he];refine⟨(x.1.length:Int),rfl,⟨[tzo],rfl⟩,⟨fun h=>absurd (hpl.1 h) hc,fun _=>⟨_,rfl,by simp,by simp⟩⟩,fun q S n hq hS hn=>?_⟩;rw[afP,ags]at hn;obtain⟨e,hS⟩:=hS;have hne:=hq.ne x.1.length (by omega) (by
      rw[hS,agi,afG,aga afD,aho];simp;omega)
     unfold rlT;simp only;rw[afO (show ¬((x.1.length:Nat):Int)<0 by omega),jC,afO hne,Q5 hq (by omega) afD (by omega),xR,afO (ah2 _),afP,ags,QZ]
  obtain⟨e1,hv2⟩:=hv2;obtain⟨vs,ext,h1,h2,h3,h4,h5⟩:=Lu tos (lsT p x tzo);rw[agw];refine⟨v::vs,e1++ext,by rw[h1,hv1,agi];rfl,by rw[agl,agl,h2],by rw[h3,hv2,agi],fun b t hb=>?_,fun q S n hq hS hn=>?_⟩
  ·cases b with
   | zero =>
    have hb:tzo=t:=(by simpa using hb);subst hb;refine⟨fun h=>hv3.1 h,fun h=>?_⟩;obtain⟨j,j1,j2,j3⟩:=hv3.2 h;refine⟨j,j1,by rw[h3,afP];omega,?_⟩;rw[h3,afG,af6 j2,<-afG];exact j3
   | succ b=>exact h4 b t (by simpa using hb)
  ·have hn1:(lsT p x tzo).1.length<=n:=by rw[h3,afP]at hn;omega
   rw[agw,hv4 q S n hq (by
    obtain⟨e,hS⟩:=hS;exact⟨ext++e,by rw[hS,h3,agi]⟩) hn1]
   have:=h5 q S n hq hS hn;rw[hv1]at this;rw[this,agi];rfl
def LsE(next p st NX:List Int)(k:Nat):Prop:=∀i b,i<k->b<256->(pe p (nxt next (st.getD i 0) b)<0->NX.getD (256*i+b) 0 = -1) /\
 (¬pe p (nxt next (st.getD i 0) b)<0->∃j:Nat,NX.getD (256*i+b) 0=(j:Int)/\j<st.length/\bF p (st.getD j 0)=bF p (nxt next (st.getD i 0) b))
theorem JG{A B:List Int}{i k:Nat}(h:A.length=k):(A++B).getD (k+i) 0=B.getD i 0:=by
 rw[afG,aga (by omega),<-afG]
 congr 1;omega
theorem LsE.more{next p st NX:List Int}{k:Nat}(h:LsE next p st NX k)(hk:k<=st.length)(hl:NX.length=256*k)(e v:List Int):LsE next p (st++e) (NX++v) k:=fun i b hi hb=>by
 rw[eH (by omega),eH (by omega)];obtain⟨h1,h2⟩:=h i b hi hb;refine⟨h1,fun hn=>?_⟩;obtain⟨j,j1,j2,j3⟩:=h2 hn;exact⟨j,j1,by rw[afP];omega,by rw[eH j2];exact j3⟩
theorem Q7{next rule p:List Int}(T:Tb next rule){i:Nat}{x:List Int×List Int}(hI:LsI p rule.length x.1 x.2)(hi:i<x.1.length)(hx:x.2.length=256*i)(hE:LsE next p x.1 x.2 i):
  ∃vs ext,lsR next p x i=(x.1++ext,x.2++vs)/\vs.length=256/\LsI p rule.length (x.1++ext) (x.2++vs)/\LsE next p (x.1++ext) (x.2++vs) (i+1) /\
   (∀(q S:List Int)(n:Nat),NR p q n S->(∃e,S=x.1++ext++e)->(x.1++ext).length<=n->vs.foldl (rlT q n) (ups x.1.length,x.2)=(ups (x.1++ext).length,x.2++vs)):=by
 have hs:=hI.in_ (x.1.getD i 0) (gmem hi);obtain⟨s,hse⟩:∃s:Nat,x.1.getD i 0=(s:Int):=⟨(x.1.getD i 0).toNat,by omega⟩;obtain⟨vs,ext,h1,h2,h3,h4,h5⟩:=Lu (p:=p) (rowOf next (x.1.getD i 0).toNat) x;have hlen:=dX (i:=(x.1.getD i 0).toNat) T.len (by omega);have hst:=LsI.steps (rowOf next (x.1.getD i 0).toNat) hI fun t ht=>by
  obtain⟨b,hb,rfl⟩:=ag5 ht;have:=jS T (i:=(x.1.getD i 0).toNat) (by omega) (b:=b) (by omega);rw[afE hb]at this;rw[agc this];exact(jo T (by omega) (by omega)).2
 rw[h1,h3]at hst;rw[h3]at h4 h5;refine⟨vs,ext,?_,by rw[h2,hlen],hst.1,fun k b hk hb=>?_,h5⟩
 ·unfold lsR
  rw[<-h1,<-h3]
 ·by_cases e:k=i
  ·subst e
   have hr:=jS T (i:=s) (by omega) hb;have hst1:(x.1++ext).getD k 0=(s:Int):=(by rw[eH hi];exact hse);rw[hst1,JG hx];have:=h4 b _ (by rw[hse,afY];exact hr);exact this
  ·exact hE.more (by omega) hx ext vs k b (by omega) hb
theorem JE{next rule p:List Int}(T:Tb next rule):∀(f i:Nat)(x:List Int×List Int)(ru:List Int),LsI p rule.length x.1 x.2->i<=x.1.length->rule.length<f+i->x.2.length=256*i->ru=(x.1.take i).map (fun s=>rule.getD s.toNat 0)->LsE next p x.1 x.2 i ->
  ∃ext vs st,st=x.1++ext/\(lsL next rule p f i x ru).1=x.2++vs/\(lsL next rule p f i x ru).2=st.map (fun s=>rule.getD s.toNat 0)/\(x.2++vs).length=256*st.length/\LsI p rule.length st (x.2++vs)/\LsE next p st (x.2++vs) st.length /\
   (∀q:List Int,NR p q st.length st->∀f',st.length<f'+i->rlL (x.2++vs) (st.map (fun s=>rule.getD s.toNat 0)) q st.length f' i (ups x.1.length,x.2) ru=(x.2++vs,st.map (fun s=>rule.getD s.toNat 0)))
 | 0,i,x,ru,h,hi,hf,_,_,_=>by have:=h.len;omega
 | f+1,i,x,ru,h,hi,hf,hx,hr,hE=>by
  unfold lsL
  by_cases hlt:i<x.1.length
  ·rw[afR hlt]
   obtain⟨vs,ext,h1,h2,h3,h4,h5⟩:=Q7 T h hlt hx hE;rw[h1];have hru:ru++[rule.getD (x.1.getD i 0).toNat 0]=((x.1++ext).take (i+1)).map (fun s=>rule.getD s.toNat 0):=by
    rw[ahm,List.take_append_of_le_length hi,af6 hlt,agt,<-hr,afG (l:=x.1),afE hlt];rfl
   have hlen:(x.1++ext,x.2++vs).2.length=256*(i+1):=(by simp only;rw[afP,hx,h2];omega);obtain⟨aa2,vs2,st,g1,g2,g3,g4,g5,g6,g7⟩:=JE T f (i+1) (x.1++ext,x.2++vs) _ h3 (by simp only;rw[afP];omega) (by omega) hlen hru h4;simp only at g1 g2 g4 g5 g6 g7;refine⟨ext++aa2,vs++vs2,st,by rw[g1,agi],by rw[g2,agi],g3,by rw[<-agi];exact g4,by rw[<-agi];exact g5,by rw[<-agi];exact g6,fun q hq f' hf'=>?_⟩;have hsl:x.1.length+ext.length<=st.length:=(by rw[g1,afP,afP];omega);obtain⟨f',rfl⟩:∃k,f'=k+1:=⟨f'-1,by omega⟩;unfold rlL;simp only;rw[xR,afR hlt,Ve hlt,afY];have hrow:rowOf (x.2++(vs++vs2)) i=vs:=by
    unfold rowOf;rw[<-hx,List.drop_left,List.take_append_of_le_length (by omega),<-h2,agK]
   have lW:(st.map (fun s=>rule.getD s.toNat 0)).getD i 0=rule.getD (x.1.getD i 0).toNat 0:=by
    rw[g1,afG,af8,af6 (by rw[afP];omega),af6 hlt,afG (l:=x.1),afE hlt];rfl
   rw[hrow,h5 q st st.length hq ⟨aa2,g1⟩ (by rw[afP];omega),lW];have:=g7 q hq f' (by omega);rw[<-agi];exact this
  ·rw[afO hlt]
   obtain rfl:i=x.1.length:=by omega
   rw[agK]at hr;refine⟨[],[],x.1,by simp,by simp,by simp only;exact hr,by simpa using hx,by simpa using h,by simpa using hE,fun q hq f' hf'=>?_⟩;obtain⟨f',rfl⟩:∃k,f'=k+1:=⟨f'-1,by omega⟩;unfold rlL;simp only;rw[xR,afO (ah2 _),aha,hr]
end Go.Proofs.YtkjgogdkdejljaaGreatDoor.Df
namespace Go.Proofs.YtkjgogdkdejljaaGreatDoor.Lx
section
open Go Go.Proofs Go.RowKit
attribute [local go_sem] Oper.semAt_some
theorem aH.get{w:World}{a:Option Addr}{l:List Int}(h:aH w a l){j:Nat}(hj:j<l.length):∃b off,a=some ⟨b,off,none⟩/\b<w.heap.size/\w.cell? ⟨b,off+j,none⟩=some (.int .i64 (l.getD j 0)):=by
 obtain⟨b,off,h0,h1,h2⟩:=h (by intro e;subst e;simp at hj);exact⟨b,off,h0,h1,by rw[h2 j hj];simp[hj]⟩
theorem Zk{lo hi:Int}{l:List Int}(h:∀k,k<l.length->lo<=l.getD k 0/\l.getD k 0<hi):inR lo hi l=true:=by
 unfold inR;simp only[agk,afU,afZ];intro x hx;obtain⟨k,hk,rfl⟩:=ag5 hx;have:=h k hk
 rwa [show l.getD k 0=l[k]by simp[hk]]at this
theorem VX{lo hi:Int}{l:List Int}{k:Nat}(hk:k<l.length)(h:¬(lo<=l.getD k 0/\l.getD k 0<hi)):inR lo hi l=false:=by
 rw[agU];intro e;unfold inR at e;simp only[agk,afU,afZ]at e;apply h;rw[show l.getD k 0=l[k]by simp[hk]];exact e _ (agu hk)
end
section
open Go.Lib (hid)
open Go Go.Proofs Go.RowKit
attribute [local go_sem] Oper.semAt_some
def okL(next rule kind:List Int)(kinds:Int):Bool:=okT next rule && (decide (0<=kinds) && (decide (kinds<=16) && (inR (-1) kinds kind && rule.all fun x=>decide (x<kind.length))))
def nH(next rule kind:List Int)(kinds:Int):Int:=if okL next rule kind kinds=true then 0 else 2
theorem Zl{B:Nat}{kinds:Int}{w:World}(x:Int)(h:w.cell? ⟨B,3,none⟩=some (.int .i64 kinds)):Calls Tryz.prog 39 #[.int .i64 x,.pointer (some ⟨B,0,none⟩)] w fun e w'=>e=.returned (.bool (decide (x < -1) || decide (kinds<=x)))/\w=w':=by
 by_cases h1:x < -1
 ·obtain⟨b,hb⟩:=afC ((decide (x < -1) || decide (kinds<=x)))
  rw[<-hb];have HB:=hid (show b=true by rw[hb];simp[h1]);clear hb;go_enter Tryz.func39,Tryz.ntmps39
  go_wp2
  go_ret
  exact⟨by rw[HB.out];rfl,rfl⟩
 ·obtain⟨b,hb⟩:=afC ((decide (x < -1) || decide (kinds<=x)))
  rw[<-hb];have h2: -1<=x:=by omega
  have HB:=hid (show b=decide (kinds<=x)by rw[hb,agC (by omega:¬x < -1),Bool.false_or]);clear hb h1;go_enter Tryz.func39,Tryz.ntmps39
  go_wp2
  exact afJ (v:=.bool b) (by simp[results,Tryz.results39,go_sem,HB.out];omega) rfl ⟨rfl,rfl⟩
def Idx(bad:Bool)(w:World)(e:Ending)(w':World):Prop:=∃i:Int,e=.returned (.int .i64 i)/\decide (0<=i)=bad/\w=w'
theorem E5(kind:List Int)(hl:kind.length<=1000000){B:Nat}{kinds:Int}(a:Option Addr)(c:Nat)(w:World)(h:w.cell? ⟨B,3,none⟩=some (.int .i64 kinds))(hR:aH w a kind):
  Calls Tryz.prog 76 #[.slice a kind.length c,.func (.func 39) #[] #[.pointer (some ⟨B,0,none⟩)]] w (Idx (!inR (-1) kinds kind) w):=by
 obtain⟨bad,hbad⟩:∃b,b = !inR (-1) kinds kind:=⟨_,rfl⟩;rw[<-hbad];obtain⟨kd,hkd⟩:∃f:Nat->Int,f=fun k=>kind.getD k 0:=⟨_,rfl⟩;have HF:Hid (∀k,k<kind.length->¬(-1<=kd k/\kd k<kinds)->bad=true):=hid fun k hk h=>by rw[hkd]at h;rw[hbad,VX hk h];rfl
 have HT:Hid ((∀k,k<kind.length -> -1<=kd k/\kd k<kinds)->bad=false):=hid fun a=>by rw[hkd]at a;rw[hbad,Zk a];rfl
 have HR:Hid (∀j,j<kind.length->∃b off,a=some ⟨b,off,none⟩/\b<w.heap.size/\w.cell? ⟨b,off+j,none⟩=some (.int .i64 (kd j))):=hid fun j hj=>by rw[hkd];exact hR.get hj
 have hc:=fun x=>Zl x h;clear hbad hkd hR h;generalize kind.length=N at *;go_enter Tryz.func76,Tryz.ntmps76
 go_wp2
 go_loop [8] (fun i=>∃k:Nat,k<=N/\i=.int .i64 k/\Hid (∀j,j<k -> -1<=kd j/\kd j<kinds)) (fun i=>N-(RowKit.intOf i).toNat)
 case atStart=>exact⟨0,af0 _,rfl,hid fun j hj=>absurd hj (by omega)⟩
 case round =>
  obtain⟨k,hk,rfl,hg⟩:=hrel;rcases ag6 k N with hlt|hge
  ·obtain⟨b,off,rfl,hb,hcell⟩:=HR.out k hlt
   have hk0:(0:Int)<=(k:Int):=(by omega);have hk1:(k:Int)<(N:Int):=(by omega);have HE:=hid (HF.out k hlt);have HG:Hid ((-1<=kd k/\kd k<kinds)->∀j,j<k+1 -> -1<=kd j/\kd j<kinds):=hid fun h j hj=>by
    rcases ag6 j k with h1|h1
    ·exact hg.out j h1
    ·obtain rfl:j=k:=by omega
     exact h
   generalize kd k=x at *;obtain⟨bx,hbx⟩:∃b,b=(decide (x < -1) || decide (kinds<=x)):=⟨_,rfl⟩;have hcx:=hc x;rw[<-hbx]at hcx;have HX:=hid hbx;clear hbx hc
   cases bx with
   | false =>
    have HG':Hid (∀j,j<k+1 -> -1<=kd j/\kd j<kinds):=hid (HG.out (by have:=HX.out;simp at this;omega));go_wp2_with (go_at_call 39;((with_reducible refine hcx.mono ?_);rintro e Wd ⟨rfl,rfl⟩))
    go_round
    case rel=>exact⟨k+1,by omega,by simp,HG'⟩
    case measure=>simp[RowKit.intOf];omega
   | true =>
    have HB:=hid (HE.out (by have:=HX.out;simp at this;omega));go_wp2_with (go_at_call 39;((with_reducible refine hcx.mono ?_);rintro e Wd ⟨rfl,rfl⟩))
    go_ret
    exact⟨_,rfl,by rw[HB.out];simp,rfl⟩
  ·obtain rfl:k=N:=by omega
   have HB:=hid (HT.out hg.out);go_wp2
   go_ret
   exact⟨_,rfl,by rw[HB.out];rfl,rfl⟩
theorem contains_k(kind:List Int)(hl:kind.length<=1000000){B:Nat}{kinds:Int}(a:Option Addr)(c:Nat)(w:World)(h:w.cell? ⟨B,3,none⟩=some (.int .i64 kinds))(hR:aH w a kind):
  Calls Tryz.prog 38 #[.slice a kind.length c,.func (.func 39) #[] #[.pointer (some ⟨B,0,none⟩)]] w fun e w'=>e=.returned (.bool !inR (-1) kinds kind)/\w=w':=by
 have hk:=E5 kind hl a c w h hR;generalize (!inR (-1) kinds kind)=bad at *;clear hR h;go_enter Tryz.func38,Tryz.ntmps38
 go_wp2_with (go_at_call 76;((with_reducible refine hk.mono ?_);rintro e Wd ⟨i,rfl,hi,rfl⟩))
 exact afJ (v:=.bool bad) (by simp[results,Tryz.results38,go_sem]) rfl ⟨rfl,rfl⟩
end
section
open Go Go.Proofs Go.RowKit
attribute [local go_sem] Oper.semAt_some
def lV(an ar ak:Option Addr)(n r k cn cr ck:Nat)(kinds:Int):Value:=.agg #[.slice an n cn,.slice ar r cr,.slice ak k ck,.int .i64 kinds]
theorem aed(w:World)(v0 v1 v2 v3:Value)(t:TypeId):(w.alloc (.cells #[v0,v1,v2,v3] t)).cell? ⟨w.heap.size,0,none⟩=some v0/\(w.alloc (.cells #[v0,v1,v2,v3] t)).cell? ⟨w.heap.size,1,none⟩=some v1/\(w.alloc (.cells #[v0,v1,v2,v3] t)).cell? ⟨w.heap.size,2,none⟩=some v2/\(w.alloc (.cells #[v0,v1,v2,v3] t)).cell? ⟨w.heap.size,3,none⟩=some v3:=
 ⟨(World.cell?_alloc_at _ _ w.heap.size 0 rfl).trans rfl,(World.cell?_alloc_at _ _ w.heap.size 1 rfl).trans rfl,(World.cell?_alloc_at _ _ w.heap.size 2 rfl).trans rfl,(World.cell?_alloc_at _ _ w.heap.size 3 rfl).trans rfl⟩
theorem E8{next rule:List Int}(h:okT next rule=true):0<rule.length:=by
 unfold okT at h;simp only[afU,afZ]at h;exact h.1
theorem VZ(l:List Int)(h:0<l.length)(n:Nat):(l.all fun x=>decide (x<(n:Int)))=true↔Lib.maxOf l<n:=by
 rw[max_lt l (by intro e;subst e;simp at h)];simp
theorem Ic(next rule kind:List Int)(kinds:Int)(hn:next.length<=1000000)(hr:rule.length<=1000000)(hk:kind.length<=1000000)(an ar ak:Option Addr)(cn cr ck:Nat)(w:World)(hN:aH w an next)(hR:aH w ar rule)(hK:aH w ak kind):
  Calls Tryz.prog 15 #[.agg #[.slice an next.length cn,.slice ar rule.length cr,.slice ak kind.length ck,.int .i64 kinds]] w fun e w'=>e=.returned (.int .i64 (nH next rule kind kinds))/\Below w.heap.size w w':=by
 have hB:=(afI w.heap.size w).alloc afD (.cells #[.slice an next.length cn,.slice ar rule.length cr,.slice ak kind.length ck,.int .i64 kinds] 29);obtain⟨x0,x1,x2,x3⟩:=aed w (.slice an next.length cn) (.slice ar rule.length cr) (.slice ak kind.length ck) (.int .i64 kinds) 29;have hN':=hN.below hB afD;have hR':=hR.below hB afD;have hK':=hK.below hB afD;have hs0:w.heap.size<(w.alloc (.cells #[.slice an next.length cn,.slice ar rule.length cr,.slice ak kind.length ck,.int .i64 kinds] 29)).heap.size:=by simp
 obtain⟨cv,hcv⟩:=afC (nH next rule kind kinds)
 rw[<-hcv];clear hN hR hK;obtain⟨ok,hok⟩:∃b,b=okT next rule:=⟨_,rfl⟩
 have c27:=fun W hN hR=>jQ next rule hn hr an ar cn cr W hN hR
 have e27:eu next rule=if ok=true then 0 else 2:=by rw[hok];rfl
 rw[e27]at c27;clear e27
 cases ok with
 | false =>
  have HV:=Lib.hid (show cv=2 by rw[hcv,nH,okL,<-hok];rfl);clear hcv hok;simp only[ahr,aiC]at c27;go_enter Tryz.func15,Tryz.ntmps15
  go_wp2_with fail
  generalize w.alloc (.cells #[.slice an next.length cn,.slice ar rule.length cr,.slice ak kind.length ck,.int .i64 kinds] 29)=W0 at *;have y0:=AX.aA x0 hs0;have y1:=AX.aA x1 hs0;have y2:=AX.aA x2 hs0;have y3:=AX.aA x3 hs0;have q27:=fun p:AX.BW W0=>c27 p.W (hN'.below p.h afD) (hR'.below p.h afD);clear x0 x1 x2 x3 c27 hN' hR' hK';refine AX.aF (by kernel_rfl) (by kernel_rfl) ?_
  repeat (go_big_quiet_step (first|(go_at_call 36;with_reducible exact AX.dw (q27 _))))
  refine afQ ?_;rintro _ ⟨p,rfl⟩;go_wp2
  go_ret
  exact⟨by rw[HV.out];rfl,hB.trans (p.h.mono (by omega))⟩
 | true =>
  simp only[ain]at c27;have hT:=E8 hok.symm;have c28:=fun W hR=>SN rule hT hr ar cr W hR;have hall:=VZ rule hT kind.length;obtain⟨m,hm⟩:=afC (Lib.maxOf rule);rw[<-hm]at c28 hall;clear hm
  by_cases hk0:kinds<0
  ·have HV:=Lib.hid (show cv=2 by rw[hcv,nH,okL,<-hok,agC (by omega:¬ 0<=kinds)];rfl)
   clear hcv hok hall;go_enter Tryz.func15,Tryz.ntmps15
   go_wp2_with fail
   generalize w.alloc (.cells #[.slice an next.length cn,.slice ar rule.length cr,.slice ak kind.length ck,.int .i64 kinds] 29)=W0 at *;have y0:=AX.aA x0 hs0;have y1:=AX.aA x1 hs0;have y2:=AX.aA x2 hs0;have y3:=AX.aA x3 hs0;have q27:=fun p:AX.BW W0=>c27 p.W (hN'.below p.h afD) (hR'.below p.h afD);have q28:=fun p:AX.BW W0=>(c28 p.W (hR'.below p.h afD)).mono fun e w' (h:_/\_)=>(⟨h.1,h.2▸ afI _ _⟩:e=.returned (.int .i64 m)/\Below p.W.heap.size p.W w');clear x0 x1 x2 x3 c27 c28 hN' hR';refine AX.aF (by kernel_rfl) (by kernel_rfl) ?_
   repeat (go_big_quiet_step (first|(go_at_call 36;with_reducible exact AX.dw (q27 _))|(go_at_call 37;with_reducible exact AX.dw (q28 _))))
   refine afQ ?_;rintro _ ⟨p,rfl⟩;go_wp2
   go_ret
   exact⟨by rw[HV.out];rfl,hB.trans (p.h.mono (by omega))⟩
  by_cases SI:16<kinds
  ·have HV:=Lib.hid (show cv=2 by rw[hcv,nH,okL,<-hok,agC (by omega:¬kinds<=16),Bool.false_and,aiw,aiw];rfl)
   have hk0:0<=kinds:=(by omega);have hd0:decide (kinds<0)=false:=(by simp;omega);have hd1:decide (16<kinds)=true:=(by simp;omega);clear hcv hok hall;go_enter Tryz.func15,Tryz.ntmps15
   go_wp2_with fail
   generalize w.alloc (.cells #[.slice an next.length cn,.slice ar rule.length cr,.slice ak kind.length ck,.int .i64 kinds] 29)=W0 at *;have y0:=AX.aA x0 hs0;have y1:=AX.aA x1 hs0;have y2:=AX.aA x2 hs0;have y3:=AX.aA x3 hs0;have q27:=fun p:AX.BW W0=>c27 p.W (hN'.below p.h afD) (hR'.below p.h afD);have q28:=fun p:AX.BW W0=>(c28 p.W (hR'.below p.h afD)).mono fun e w' (h:_/\_)=>(⟨h.1,h.2▸ afI _ _⟩:e=.returned (.int .i64 m)/\Below p.W.heap.size p.W w');clear x0 x1 x2 x3 c27 c28 hN' hR';refine AX.aF (by kernel_rfl) (by kernel_rfl) ?_
   repeat (go_big_quiet_step (first|(go_at_call 36;with_reducible exact AX.dw (q27 _))|(go_at_call 37;with_reducible exact AX.dw (q28 _))))
   refine afQ ?_;rintro _ ⟨p,rfl⟩;go_wp2
   go_ret
   exact⟨by rw[HV.out];rfl,hB.trans (p.h.mono (by omega))⟩
  have hk0:0<=kinds:=by omega
  have SI:kinds<=16:=by omega
  have hd0:decide (kinds<0)=false:=by simp;omega
  have hd1:decide (16<kinds)=false:=by simp;omega
  by_cases hm:(kind.length:Int)<=m
  ·have HV:=Lib.hid (show cv=2 by
    rw[hcv,nH,okL,<-hok];rw[show(rule.all fun x=>decide (x<(kind.length:Int)))=false by rw[agU];intro h;have:=hall.1 h;omega];simp)
   clear hcv hok hall;go_enter Tryz.func15,Tryz.ntmps15
   go_wp2_with fail
   generalize w.alloc (.cells #[.slice an next.length cn,.slice ar rule.length cr,.slice ak kind.length ck,.int .i64 kinds] 29)=W0 at *;have y0:=AX.aA x0 hs0;have y1:=AX.aA x1 hs0;have y2:=AX.aA x2 hs0;have y3:=AX.aA x3 hs0;have q27:=fun p:AX.BW W0=>c27 p.W (hN'.below p.h afD) (hR'.below p.h afD);have q28:=fun p:AX.BW W0=>(c28 p.W (hR'.below p.h afD)).mono fun e w' (h:_/\_)=>(⟨h.1,h.2▸ afI _ _⟩:e=.returned (.int .i64 m)/\Below p.W.heap.size p.W w');clear x0 x1 x2 x3 c27 c28 hN' hR';refine AX.aF (by kernel_rfl) (by kernel_rfl) ?_
   repeat (go_big_quiet_step (first|(go_at_call 36;with_reducible exact AX.dw (q27 _))|(go_at_call 37;with_reducible exact AX.dw (q28 _))))
   refine afQ ?_;rintro _ ⟨p,rfl⟩;go_wp2
   go_ret
   exact⟨by rw[HV.out];rfl,hB.trans (p.h.mono (by omega))⟩
  have hm:m<(kind.length:Int):=by omega
  have HV:=Lib.hid (show cv=if inR (-1) kinds kind then 0 else 2 by
   rw[hcv,nH,okL,<-hok,agL hk0,agL SI];rw[hall.2 hm,Bool.and_true,ahM,ahM,ahM])
  clear hcv hok hall;go_enter Tryz.func15,Tryz.ntmps15
  go_wp2_with fail
  generalize w.alloc (.cells #[.slice an next.length cn,.slice ar rule.length cr,.slice ak kind.length ck,.int .i64 kinds] 29)=W0 at *;have y0:=AX.aA x0 hs0;have y1:=AX.aA x1 hs0;have y2:=AX.aA x2 hs0;have y3:=AX.aA x3 hs0;have q27:=fun p:AX.BW W0=>c27 p.W (hN'.below p.h afD) (hR'.below p.h afD);have q28:=fun p:AX.BW W0=>(c28 p.W (hR'.below p.h afD)).mono fun e w' (h:_/\_)=>(⟨h.1,h.2▸ afI _ _⟩:e=.returned (.int .i64 m)/\Below p.W.heap.size p.W w');clear x0 x1 x2 x3 c27 c28 hN' hR';refine AX.aF (by kernel_rfl) (by kernel_rfl) ?_
  repeat (go_big_quiet_step (first|(go_at_call 36;with_reducible exact AX.dw (q27 _))|(go_at_call 37;with_reducible exact AX.dw (q28 _))))
  refine afQ ?_;rintro _ ⟨p,rfl⟩;have z3:=y3 p;have cK:=contains_k kind hk ak ck p.W z3 (hK'.below p.h afD);have z2:=y2 p;generalize inR (-1) kinds kind=g at *
  cases g with
  | true =>
   have HV:=Lib.hid (show cv=0 from HV.out);go_wp2_with (go_at_call 38;((with_reducible refine cK.mono ?_);rintro e Wd ⟨rfl,rfl⟩))
   go_ret
   exact⟨by rw[HV.out];rfl,hB.trans (p.h.mono (by omega))⟩
  | false =>
   have HV:=Lib.hid (show cv=2 from HV.out);go_wp2_with (go_at_call 38;((with_reducible refine cK.mono ?_);rintro e Wd ⟨rfl,rfl⟩))
   go_ret
   exact⟨by rw[HV.out];rfl,hB.trans (p.h.mono (by omega))⟩
end
end Go.Proofs.YtkjgogdkdejljaaGreatDoor.Lx
