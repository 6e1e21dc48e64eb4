import Derived.Test.YtkjgogdkdejljaaGreatDoorRg5
set_option maxRecDepth 100000
set_option maxHeartbeats 40000000
namespace Go.Proofs.YtkjgogdkdejljaaGreatDoor.AX
open Go
section
variable {P : Program} {ops : Array Oper} {md : Region.Mode} {D : Array Bool -> World -> Prop} {Q : Exit -> Act -> World -> Prop}
def wpAnyL(P:Program)(md:Region.Mode)(ops:Array Oper)(D:Array Bool->World->Prop)(Q:Exit->Act->World->Prop):Nat->Array Bool->Act->World->Prop
 | 0,listed,a,w=>Region.ready md ops listed=[]/\Q .normal a w
 | fuel+1,listed,a,w=>(Region.ready md ops listed=[]->Q .normal a w) /\
  ∀i∈Region.ready md ops listed,wpOp P ops Q i (fun a' w'=>D (listed.setIfInBounds i true) w'/\wpAnyL P md ops D Q fuel (listed.setIfInBounds i true) a' w') a w
theorem nM:∀(fuel:Nat)(listed:Array Bool)(a:Act)(w:World),wpAnyL P md ops D Q fuel listed a w->wpAny P md ops Q fuel listed a w
 | 0,_,_,_,h=>h
 | fuel+1,_,_,_,h=>⟨h.1,fun i hi=>wpOp_mono (fun a' w' h'=>nM fuel _ a' w' h'.2) (h.2 i hi)⟩
theorem wpAnyL_first{i:Nat}{oi:Oper}{v:Value}{Y:World->Prop}(good:Array Bool->Prop)(hi:ops[i]?=some oi)(hsel:∀(j:Nat)(o:Oper) cs b,ops[j]?=some o->o.op ≠ .select cs b)
  (hQ:∀c a w,Q (.panic c) (a.put oi.dst v) w->Q (.panic c) a w) (hY:∀listed w,good listed->D listed w->Y w) (hg:∀listed j,good listed->i∈Region.ready md ops listed->j∈Region.ready md ops listed->j≠i->good (listed.setIfInBounds j true))
  (hD:∀listed w,D (listed.setIfInBounds i true) w↔D listed w):∀(fuel:Nat)(listed:Array Bool)(a:Act)(w:World),D listed w->good listed ->
   (∀j oj,ops[j]?=some oj->j≠i->listed.getD j true=false->(∀e∈oj.after,Region.binds md e=true->e.on≠i)->oi.apart ops oj=true) ->
   i∈Region.ready md ops listed->jX P ops Y oi v a->wpAnyL P md ops D Q fuel (listed.setIfInBounds i true) (a.put oi.dst v) w->wpAnyL P md ops D Q (fuel+1) listed a w
 | 0,listed,a,w,hC,hgd,_,hr,hy,H=>by
  refine⟨(fun h=>by rw[h]at hr;cases hr),fun j hj=>?_⟩
  by_cases hji:j=i
  ·subst hji;exact hy.at hi (hY _ _ hgd hC) ⟨(hD _ _).2 hC,H⟩
  ·have:=ready_mono hj hji
   rw[H.1]at this
   cases this
 | fuel+1,listed,a,w,hC,hgd,hfree,hr,hy,H=>by
  refine⟨(fun h=>by rw[h]at hr;cases hr),fun j hj=>?_⟩
  by_cases hji:j=i
  ·subst hji;exact hy.at hi (hY _ _ hgd hC) ⟨(hD _ _).2 hC,H⟩
  ·obtain⟨hun,oj,hoj,hall⟩:=mem_ready.1 hj
   have hno:∀e∈oj.after,Region.binds md e=true->e.on≠i:=fun e he hb e1=>by
    have g1:=hall e he hb;have g0:=(mem_ready.1 hr).1;rw[e1]at g1;rcases ag6 i listed.size with h'|h'
    ·simp[h']at g0 g1;rw[g0]at g1;cases g1
    ·simp[agR h']at g1
   refine wpOp_mono (fun a' w' h3=>?_) (DN hoj (hfree j oj hoj hji hun hno) (fun cs b=>hsel i oi cs b hi) (fun cs b=>hsel j oj cs b hoj) hQ hy (H.2 j (ready_mono hj hji)));have h4:=h3.2.1;rw[Array.setIfInBounds_comm _ _ (ahX hji)]at h4;have h5:=(hD _ _).1 h4;refine⟨h5,wpAnyL_first good hi hsel hQ hY hg hD fuel (listed.setIfInBounds j true) a' w' h5 (hg _ _ hgd hr hj hji) (fun k ok hk hki S9 hnk=>hfree k ok hk hki ?_ hnk) (ready_mono hr (ahX hji)) h3.1 ?_⟩
   ·by_cases hjk:j=k
    ·subst hjk;exact hun
    ·rw[getD_set_ne true hjk]at S9;exact S9
   ·rw[Array.setIfInBounds_comm _ _ hji]
    exact h3.2.2
end
section
variable {P : Program} {C CT : World -> Prop} {Q : Exit -> Act -> World -> Prop} {i0 : Nat}
def Dl(C CT:World->Prop)(i0:Nat)(listed:Array Bool)(w:World):Prop:=CT w/\(listed.getD i0 false=false->C w)
def bC(P:Program)(l:List Oper)(C CT:World->Prop)(i0:Nat)(Q:Exit->Act->World->Prop):Bool->List (Nat×Nat)->Act->World->Prop
 | _,[],a,w=>Q .normal a w
 | d,(i,0)::r,a,w=>d=false/\∃o,l[i]?=some o/\wpQuiet P l.toArray C (fun a'=>bC P l C CT i0 Q d r a' w) [o] a
 | d,(i,1)::r,a,w=>∃o,l[i]?=some o/\wpQuiet P l.toArray CT (fun a'=>bC P l C CT i0 Q d r a' w) [o] a
 | d,(i,_+2)::r,a,w=>wpOp P l.toArray Q i (fun a' w'=>(CT w'/\((d || Nat.beq i i0)=false->C w'))/\bC P l C CT i0 Q (d || Nat.beq i i0) r a' w') a w
def asF(r:List (Nat×Nat)):List (Nat×Bool):=r.map fun p=>(p.1,Nat.ble 2 p.2)
def Fp(L:List Inf)(i0:Nat)(r:List (Nat×Nat)):Bool:=match L[i0]? with
 | none=>false
 | some x=>r.all fun p=>Nat.ble 2 p.2 || (!(Nat.beq p.1 i0) && (Nat.beq p.2 1 || Nat.testBit x.dep p.1))
theorem iI{l:List Oper}(hi0:i0<l.length)(hs:Region.noSelect l.toArray=true)(hQ:∀c a d v w,Q (.panic c) (Act.put a d v) w->Q (.panic c) a w):∀(r:List (Nat×Nat)) (listed:Array Bool) (mask:Nat) (a:Act) (w:World),Dl C CT i0 listed w->Lst l.length listed mask ->
  qp (infos l) (asF r) mask=true->Fp (infos l) i0 r=true->bC P l C CT i0 Q (mask.testBit i0) r a w->wpAnyL P .any l.toArray (Dl C CT i0) Q r.length listed a w
 | [],listed,mask,a,w,_,hl,hB,_,h=>by
  simp only[asF,agm,qp,ahk]at hB;refine⟨?_,h⟩;rw[List.eq_nil_iff_forall_not_mem];intro j hj;obtain⟨h0,o,ho,_⟩:=mem_ready.1 hj;have hjl:j<l.length:=by have:=(afF.1 ho).1;simpa using this
  have hb:=hl.bit j hjl;rw[hB]at hb;have:(2 ^ (infos l).length-1).testBit j=true:=by rw[ahL];simp[infos,hjl]
  rw[this]at hb;rw[af4,hb]at h0
  cases h0
 | (i,b)::r,listed,mask,a,w,hC,hl,hB,hW,h=>by
  have hB0:=hB;simp only[asF,agd,qp]at hB
  cases hx:(infos l)[i]? with
  | none=>rw[hx]at hB;cases hB
  | some x =>
   rw[hx]at hB;simp only[afU,ag0,ahk]at hB;obtain⟨⟨hun,Fh⟩,hk,hB⟩:=hB;have hil:i<l.length:=by
    have:=(afW.1 hx).1
    simpa[infos]using this
   have ho:l[i]?=some l[i]:=afE hil;have hxe:x=iW l.toArray l[i]:=by
    simp only[infos,af8,ho,ag8,ahc]at hx;exact hx.symm
   have ho':l.toArray[i]?=some l[i]:=(by simp);have hgl:∀k,mask.testBit k=true->listed.getD k false=true:=fun k hk=>by
    rw[af4,hl.bit k (hl.lt k hk),hk];rfl
   have dU:i∈Region.ready .any l.toArray listed:=mem_ready.2 ⟨by rw[af4,hl.bit i hil,hun];rfl,l[i],ho',fun e he hb=>hgl _ (by
    rw[hxe]at Fh;exact Ar Fh (gW.2 ⟨e,he,hb,rfl⟩))⟩
   have hset:=hl.set hil;have hmb:∀k,(Nat.lor mask (2 ^ i)).testBit k=(mask.testBit k || decide (i=k)):=fun k=>by
    show(mask ||| 2 ^ i).testBit k=_
    rw[ah6,ahl]
   obtain⟨x0,hx0⟩:∃x0,(infos l)[i0]?=some x0:=⟨(infos l)[i0]'(by simpa[infos]using hi0),by simp[infos,hi0]⟩;have hW':Fp (infos l) i0 r=true:=by
    unfold Fp at hW⊢;rw[hx0]at hW⊢;simp only[List.all_cons,afU]at hW⊢;exact hW.2
   have hWi:(Nat.ble 2 b || (!(Nat.beq i i0) && (Nat.beq b 1 || Nat.testBit x0.dep i)))=true:=by
    unfold Fp at hW;rw[hx0]at hW;simp only[List.all_cons,afU]at hW;exact hW.1
   have free:∀(hf:qH i x mask (infos l) 0=true) (j:Nat) (oj:Oper),l.toArray[j]?=some oj->j≠i->listed.getD j true=false->(∀e∈oj.after,Region.binds .any e=true->e.on≠i)->l[i].apart l.toArray oj=true:=fun hf j oj hj hji hjun hno=>by
    have hjl:j<l.length:=(by have:=(afF.1 hj).1;simpa using this);have hje:(infos l)[j]?=some (iW l.toArray oj):=by
     have:l[j]?=some oj:=(by simpa using hj);simp[infos,this]
    rcases kP _ 0 hf j _ hje with h1|h1|h1|h1
    ·omega
    ·rw[af9]at h1
     rw[af4,hl.bit j hjl,h1]at hjun
     cases hjun
    ·obtain⟨e,he,hb,hon⟩:=gW.1 h1
     exact absurd hon (hno e he hb)
    ·rw[hxe]at h1;exact nK h1
   have hDi:i≠i0->∀listed w,Dl C CT i0 (listed.setIfInBounds i true) w↔Dl C CT i0 listed w:=fun hne listed w=>by
    unfold Dl;rw[getD_set_ne false hne]
   match b,hk,hB,h,hWi with
   | 0,hk,hB,h,hWi =>
    have hk:(x.plain && qH i x mask (infos l) 0)=true:=hk;simp only[afU]at hk;obtain⟨hp,hf⟩:=hk;have hWi:(!(Nat.beq i i0) && Nat.testBit x0.dep i)=true:=hWi;simp only[afU,ag0]at hWi;have hne:i≠i0:=fun e=>by rw[e]at hWi;simp at hWi
    obtain⟨hm0,o,ho2,h⟩:=h;obtain rfl:l[i]=o:=by rw[ho]at ho2;exact agc ho2
    have hq:qOp P l.toArray C i (fun a'=>bC P l C CT i0 Q (mask.testBit i0) r a' w) a:=(by unfold qOp;simp only[ho'];exact h);obtain⟨v,hy,hK⟩:=yieldsIn_of_qOp ho' hq;have Zn:x0=iW l.toArray l[i0]:=by
     have:l[i0]?=some l[i0]:=afE hi0;simp only[infos,af8,this,ag8,ahc]at hx0;exact hx0.symm
    have hd0:=hWi.2;rw[Zn]at hd0;obtain⟨e,he,hb,hon⟩:=gW.1 hd0;have Fq:∀listed,i∈Region.ready .any l.toArray listed->i0∉Region.ready .any l.toArray listed:=fun listed hr h0=>by
     obtain⟨_,o0,ho0,hall⟩:=mem_ready.1 h0;have:l.toArray[i0]?=some l[i0]:=(by simp[hi0]);rw[this]at ho0;obtain rfl:=agc ho0;have g1:=hall e he hb;have g0:=(mem_ready.1 hr).1;rw[hon]at g1;rcases ag6 i listed.size with h'|h'
     ·simp[h']at g0 g1;rw[g0]at g1;cases g1
     ·simp[agR h']at g1
    refine wpAnyL_first (Y:=C) (fun listed=>listed.getD i0 false=false) ho' (Region.noSelect_spec hs) (fun c a w=>hQ c a _ _ w) (fun listed w h1 h2=>h2.2 h1) (fun listed j h1 hr hj hji=>?_) (hDi hne) r.length listed a w hC ?_ (free hf) dU (jv (by rw[hxe]at hp;exact hp) hy) (iI hi0 hs hQ r _ _ _ w ((hDi hne _ _).2 hC) hset hB hW' ?_)
    ·rw[getD_set_ne false (fun e=>by subst e;exact Fq _ hr hj)]
     exact h1
    ·rw[af4,hl.bit i0 hi0,hm0];rfl
    ·rw[hmb,show decide (i=i0)=false by simpa using hne,Bool.or_false]
     exact hK
   | 1,hk,hB,h,hWi =>
    have hk:(x.plain && qH i x mask (infos l) 0)=true:=hk;simp only[afU]at hk;obtain⟨hp,hf⟩:=hk;have hWi:(!(Nat.beq i i0) && true)=true:=hWi;simp only[afU,ag0]at hWi;have hne:i≠i0:=fun e=>by rw[e]at hWi;simp at hWi
    obtain⟨o,ho2,h⟩:=h;obtain rfl:l[i]=o:=by rw[ho]at ho2;exact agc ho2
    have hq:qOp P l.toArray CT i (fun a'=>bC P l C CT i0 Q (mask.testBit i0) r a' w) a:=(by unfold qOp;simp only[ho'];exact h);obtain⟨v,hy,hK⟩:=yieldsIn_of_qOp ho' hq;refine wpAnyL_first (Y:=CT) (fun _=>True) ho' (Region.noSelect_spec hs) (fun c a w=>hQ c a _ _ w) (fun listed w _ h2=>h2.1) (fun _ _ _ _ _ _=>trivial) (hDi hne) r.length listed a w hC trivial (free hf) dU (jv (by rw[hxe]at hp;exact hp) hy) (iI hi0 hs hQ r _ _ _ w ((hDi hne _ _).2 hC) hset hB hW' ?_);rw[hmb,show decide (i=i0)=false by simpa using hne,Bool.or_false];exact hK
   | b+2,hk,hB,h,hWi =>
    refine⟨(fun h0=>by rw[h0]at dU;cases dU),fun j hj=>?_⟩;have hji:=Kw (r:=asF r) hl hB0 j hj;subst hji;have hbq:(mask.testBit i0 || Nat.beq j i0)=(Nat.lor mask (2 ^ j)).testBit i0:=by
     rw[hmb]
     congr 1
     rw[aif,ahk,afZ]
    rw[show bC P l C CT i0 Q (mask.testBit i0) ((j,b+2)::r) a w=wpOp P l.toArray Q j (fun a' w'=>(CT w'/\((mask.testBit i0 || Nat.beq j i0)=false->C w'))/\bC P l C CT i0 Q (mask.testBit i0 || Nat.beq j i0) r a' w') a w from rfl,hbq]at h;refine wpOp_mono (fun a' w' hk=>?_) h;have hd:Dl C CT i0 (listed.setIfInBounds j true) w':=⟨hk.1.1,fun h0=>hk.1.2 (by
     have:=hset.bit i0 hi0;rw[af4,this]at h0;exact h0)⟩
    exact⟨hd,iI hi0 hs hQ r _ _ a' w' hd hset hB hW' hk.2⟩
theorem dF{id:Nat}{a:Act}{w:World}{l:List Oper}(i0:Nat)(r:List (Nat×Nat))(L:List Inf)(hm:P.follows .mixedOrders=true)(hs:Region.noSelect l.toArray=true)(hL:infos l=L)(hlen:r.length=l.length)(hi0:i0<l.length)(hB:qp L (asF r) 0=true)(hW:Fp L i0 r=true)
  (hQ:∀c a d v w,Q (.panic c) (Act.put a d v) w->Q (.panic c) a w) (hC:CT w.drew/\C w.drew) (h:bC P l C CT i0 Q false r a w.drew):(Code.region id l.toArray true).wp P Q a w:=by
 refine wp_region_any hm ?_;have:=nM _ _ _ _ (iI (P:=P) (C:=C) (CT:=CT) (Q:=Q) hi0 hs hQ r _ 0 a w.drew ⟨hC.1,fun _=>hC.2⟩ (Lst.start _) (hL▸ hB) (hL▸ hW) (by simpa using h));rw[hlen]at this
 simpa using this
theorem bQ{l:List Oper}{i:Nat}{r:List (Nat×Nat)}{a:Act}{w:World}(o:Oper)(ho:l[i]?=some o)(h:wpQuiet P l.toArray C (fun a'=>bC P l C CT i0 Q false r a' w) [o] a):bC P l C CT i0 Q false ((i,0)::r) a w:=⟨rfl,o,ho,h⟩
theorem gG{l:List Oper}{d:Bool}{i:Nat}{r:List (Nat×Nat)}{a:Act}{w:World}(o:Oper)(ho:l[i]?=some o)(h:wpQuiet P l.toArray CT (fun a'=>bC P l C CT i0 Q d r a' w) [o] a):bC P l C CT i0 Q d ((i,1)::r) a w:=⟨o,ho,h⟩
theorem aV{l:List Oper}{d:Bool}{i:Nat}{r:List (Nat×Nat)}{a:Act}{w:World}(o:Oper)(ho:l[i]?=some o)(hw:Region.wanted o (yielded l.toArray a.tmps)=true)(h:Oper.wp P o a w (fun a' w'=>(CT w'/\((d || Nat.beq i i0)=false->C w'))/\bC P l C CT i0 Q (d || Nat.beq i i0) r a' w') Q):bC P l C CT i0 Q d ((i,2)::r) a w:=by
 show wpOp P l.toArray Q i (fun a' w'=>(CT w'/\((d || Nat.beq i i0)=false->C w'))/\bC P l C CT i0 Q (d || Nat.beq i i0) r a' w') a w
 unfold wpOp;have ho':l.toArray[i]?=some o:=by simpa using ho
 simp only[ho',hw,ain];exact .inl h
theorem dW{l:List Oper}{d:Bool}{i:Nat}{r:List (Nat×Nat)}{a:Act}{w:World}{o:Oper}{f:FuncId}{fn:Func}{c:Code}{xs:Array Operand}{ts:Array TypeId}{vs:Array Value}{R:Ending->World->Prop}(h:Calls P f vs w R)(ho:l[i]?=some o)
  (hop:o.op=.call {callee:=.value (.func f),args:=xs,argTypes:=ts}) (hw:Region.wanted o (yielded l.toArray a.tmps)=true) (hf:P.funcs[f]?=some fn) (hn:(fn.name == "runtime.NumGoroutine")=false) (hb:fn.body=some c) (hx:xs.map a.eval=vs)
  (hR:∀e w',R e w'->∃v,e=.returned v/\(CT w'/\((d || Nat.beq i i0)=false->C w'))/\bC P l C CT i0 Q (d || Nat.beq i i0) r (a.put o.dst v) w'):bC P l C CT i0 Q d ((i,2)::r) a w:=by
 refine aV o ho hw ?_;have hrun:(execOp a.eval o).run P w=.ok (.enter f (xs.map a.eval)) w:=by
  have h1:fn.name≠"runtime.NumGoroutine":=by simpa using hn
  simp[execOp,hop,resolve,invoke,Act.eval,callFunc,Deferred.ofValue,hf,h1,hb]
 unfold Oper.wp;rw[hrun];refine Calls.mono (hx▸ h) fun e w2 hk=>?_;obtain⟨v,rfl,h1,h2⟩:=hR _ _ hk;exact⟨h1,h2⟩
end
section
variable {P : Program} {Q : Exit -> Act -> World -> Prop} {n : Nat} {F : Fence} {ro : Option Nat}
theorem EP{C:World->Prop}{id:Nat}{a:Act}{w:World}{l:List Oper}(r:Plan)(L:List Inf)(hm:P.follows .mixedOrders=true)(hs:Region.noSelect l.toArray=true)(hnd:Fj l=true)(hL:infos l=L)(hB:jO L r 0 l.length=true)
  (hF:F={Fence.wide with round:=ro}) (hC:C w.drew) (h:aQ P l C (fun e a' w'=>e=.normal/\Q .normal a' w') r a w.drew):(Code.region id l.toArray true).wpIn F n P Q a w:=by
 refine Code.wpIn_mono (Q:=fun e a' w'=>e=.normal/\Q .normal a' w') ?_ ?_
 ·rintro e a' w' ⟨rfl,h⟩
  exact h
 refine wpIn_region_any hm ?_;have:=mG (n:=n) (Q:=fun e a' w'=>e=.normal/\Q .normal a' w') hF (fun i o c ho=>uD hnd i o c (by simpa using ho)) (by rintro⟨a,w,h,_⟩;cases h) _ _ _ _ (nI _ _ _ _ (fK (P:=P) (C:=C) hs (by rintro c a d v w ⟨h,_⟩;cases h) r l.length _ 0 a w.drew hC (Lst.start _) (hL▸ hB) h))
 simpa using this
theorem EO{C CT:World->Prop}{id:Nat}{a:Act}{w:World}{l:List Oper}(i0:Nat)(r:List (Nat×Nat))(L:List Inf)(hm:P.follows .mixedOrders=true)(hs:Region.noSelect l.toArray=true)(hnd:Fj l=true)(hL:infos l=L)(hlen:r.length=l.length)(hi0:i0<l.length)(hB:qp L (asF r) 0=true)(hW:Fp L i0 r=true)
  (hF:F={Fence.wide with round:=ro}) (hC:CT w.drew/\C w.drew) (h:bC P l C CT i0 (fun e a' w'=>e=.normal/\Q .normal a' w') false r a w.drew):(Code.region id l.toArray true).wpIn F n P Q a w:=by
 refine Code.wpIn_mono (Q:=fun e a' w'=>e=.normal/\Q .normal a' w') ?_ ?_
 ·rintro e a' w' ⟨rfl,h⟩
  exact h
 refine wpIn_region_any hm ?_;have:=mG (n:=n) (Q:=fun e a' w'=>e=.normal/\Q .normal a' w') hF (fun i o c ho=>uD hnd i o c (by simpa using ho)) (by rintro⟨a,w,h,_⟩;cases h) _ _ _ _ (nM _ _ _ _ (iI (P:=P) (C:=C) (CT:=CT) hi0 hs (by rintro c a d v w ⟨h,_⟩;cases h) r _ 0 a w.drew ⟨hC.1,fun _=>hC.2⟩ (Lst.start _) (hL▸ hB) (hL▸ hW) (by simpa using h)));rw[hlen]at this
 simpa using this
theorem Om{s:Code}{a:Act}{w:World}(R:Act->World->Prop)(first:s.wpIn F n P (fun e a' w'=>e=.normal/\R a' w') a w)(rest:∀a' w',R a' w'->Q .normal a' w'):s.wpIn F n P Q a w:=
 Code.wpIn_mono (by rintro e a' w' ⟨rfl,h⟩;exact rest _ _ h) first
end
end Go.Proofs.YtkjgogdkdejljaaGreatDoor.AX
namespace Go.Proofs.YtkjgogdkdejljaaGreatDoor.Df
section
open Go Go.Proofs Go.RowKit Go.Shelf
attribute [local go_sem] Oper.semAt_some
theorem ug{F:Fence}{m:Nat}{P:Program}{ops:Array Oper}{Q:Exit->Act->World->Prop}{a:Act}{w:World}{rest:List Oper}{t:TypeId}{x y:Operand}{ty:TypeId}{pos:String}{after:Array Edge}
 (h:wpListIn F m P ops Q ({dst:=none,op:=.store t x y,type:=ty,pos:=pos,after:=after,guard:=none}::rest) a w):
 wpListIn F m P ops Q ({dst:=none,op:=.store t x y,type:=ty,pos:=pos,after:=after,guard:=none}::rest) a w:=h
theorem info3':(Tryz.prog.info? 3).map (fun i=>(i.zero,i.size,i.bytes))=some (some (.int .i64 0),1,8):=by kernel_rfl
theorem JX{F:Fence}{n:Nat}{ops:Array Oper}{rest:List Oper}{o:Oper}{a:Act}{Q:Exit->Act->World->Prop}(W:World)(base:Nat)(v:Value)(pre l:List Int)(hgd:o.guard=none)(s y:Operand)
  (ho:o.op=.call {callee:=.builtin .append,args:=#[s,y],argTypes:=#[25,25]}) (hs:a.eval s=v) (hown:W.ownsRow base 3 1 v pre.length (pre.map (Value.int .i64))) (B c m:Nat) (hm:m=l.length) (hx:a.eval y=.slice (some ⟨B,0,none⟩) m c)
  (hc:∀j (h:j<l.length),W.cell? ⟨B,j,none⟩=some (.int .i64 l[j])) (hl:pre.length<=1000000) (hl2:l.length<=1000000) (hb:base<=W.heap.size)
  (h:∀v' w',w'.ownsRow base 3 1 v' (pre.length+l.length) (pre.map (Value.int .i64)++l.map (Value.int .i64))->W.grownBy w' v.ownBlock->(v'.ownBlock=v.ownBlock\/v'.ownBlock=some W.heap.size)->wpListIn F n Tryz.prog ops Q rest (a.put o.dst v') w'):wpListIn F n Tryz.prog ops Q (o::rest) a W:=by
 subst hm;obtain⟨ti,hi,hz0,hz1,hz2⟩:=info_parts info3';refine wpListIn_plain hgd fun K hK=>?_;obtain⟨v',w',hr,h2,h3,_,h5⟩:=run_append_own_at (P:=Tryz.prog) W base 25 o.type 3 ti (.int .i64 0) 1 8 Tryz.underlying25 hi hz0 hz1 hz2 rfl (by decide) v pre.length _ hown ⟨B,0,none⟩ l.length c (l.map (Value.int .i64)) (by simp)
  (fun j u hj=>by
   rw[addr_add,af9];obtain⟨hj',rfl⟩:=afW.1 hj;rw[ahi];exact hc j (by simpa using hj')) (fun u hu=>by
   obtain⟨k,_,rfl⟩:=agv.1 hu;rfl) (by unfold maxLen;omega) (by omega) hb
 unfold Oper.wpIn;refine⟨?_,?_⟩
 ·simp[Oper.about,ho,resolve,Target.leads,Sem.run_pure]
 ·rw[Oper.semAt_plain F _ _ (by rw[ho];intro c hc';cases hc')]
  simp[execOp,ho,resolve,invoke,builtin,hs,hx,hr,Result.andThen];exact hK _ _ (h v' w' h2 h3 h5)
def Mk(base:Nat)(W:World):List Deferred->Prop
 | []=>True
 | d::ds=>∃D,d={target:=.collected D,args:=#[]}/\base<=D/\W.heap[D]?=some (.deferred (some []))/\(∀d'∈ds,d'≠{target:=.collected D,args:=#[]})/\Mk base W ds
theorem Mk.mem{base:Nat}{W:World}: ∀{ds:List Deferred},Mk base W ds->∀d∈ds,∃D,d={target:=.collected D,args:=#[]}/\base<=D/\W.heap[D]?=some (.deferred (some []))
 | [],_,d,hd=>by cases hd
 | d0::ds,⟨D,h1,h2,h3,_,h5⟩,d,hd=>by
  rcases afX.1 hd with rfl|hd
  ·exact⟨D,h1,h2,h3⟩
  ·exact Mk.mem h5 d hd
theorem Mk.keep{base:Nat}{W W':World}: ∀{ds:List Deferred},Mk base W ds->(∀D,{target:=.collected D,args:=#[]}∈ds->W.heap[D]?=some (.deferred (some []))->W'.heap[D]?=some (.deferred (some [])))->Mk base W' ds
 | [],_,_=>trivial
 | d0::ds,⟨D,h1,h2,h3,h4,h5⟩,hk=>⟨D,h1,h2,hk D (by rw[h1];exact afS ..) h3,h4,h5.keep fun D' hD'=>hk D' (afV _ hD')⟩
structure Tk(base:Nat)(W W':World):Prop where
 low:Below base W W'
 same:∀(k:Nat)(o:Obj),W.heap[k]?=some o->o.isCells=true->W'.heap[k]?=some o
theorem wE{F:Fence}{n:Nat}{P:Program}{fn:Func}{tmps:Array Value}{R:Ending->World->Prop}{base:Nat}: ∀(ds:List Deferred)(W:World),Mk base W ds->(∀W',Tk base W W'->LeavesIn F n P fn tmps R [] .returning W')->LeavesInM F n P fn tmps R ds .returning W
 | [],W,_,h=>h W ⟨afI _ _,fun _ _ hk _=>hk⟩
 | d::ds,W,⟨D,h1,h2,h3,h4,h5⟩,h=>by
  subst h1;refine⟨by simp,.inl ⟨_,_,rfl,run_takeDeferred h3,?_⟩⟩;have hlow:Below base W (W.putObj D (.deferred none)):=(afI base W).grown (grownBy_putObj' W D _) (by have:=(afF.1 h3).1;omega) (fun k e=>by cases e;exact h2);refine wE ds _ (h5.keep fun D' hD' hk=>?_) fun W' hT=>h W' ⟨hlow.trans hT.low,fun k o hk hc=>hT.same k o ((World.putObj_heap_other (fun e=>?_)).trans hk) hc⟩
  ·exact (World.putObj_heap_other (fun e=>h4 _ hD' (by rw[e]))).trans hk
  ·subst e;rw[h3]at hk;cases hk;cases hc
theorem Mk.dk{base:Nat}{W W':World}{ds:List Deferred}(h:Mk base W ds)(hd:Dk W W'):Mk base W' ds:=h.keep fun D _ hD=>hd D hD
def ci(l:List Int):Array Value:=(l.map (Value.int .i64)).toArray
theorem KY(l:List Int)(j:Nat)(h:j<l.length):(ci l)[j]?=some (.int .i64 l[j]):=by simp[ci,h]
theorem Jl(l:List Int)(j:Nat)(t:Int):(ci l).setIfInBounds j (.int .i64 t)=ci (l.set j t):=by simp[ci,aiz]
theorem VK(w:World):(Instr.makeSlice 25 (.int .i64 256) (.int .i64 256)).run Tryz.prog w=.ok (.slice (some ⟨w.heap.size,0,none⟩) 256 256) (w.alloc (.cells (ci (List.replicate 256 0)) 3)):=by
 obtain⟨ti,hi,hz0,hz1,hz2⟩:=info_parts info3';have h:=run_makeSlice (P:=Tryz.prog) (w:=w) 25 3 ti (.int .i64 0) Tryz.underlying25 hi hz0 .i64 .i64 256 256 (by decide) (ah0 _) (by rw[hz1];decide) (by rw[hz2];decide) (by decide);rw[h];have e:madeCells (Value.int .i64 0).cells ((256:Int).toNat*ti.size)=ci (List.replicate 256 0):=by
  rw[hz1];refine air.1 ?_
  show(madeCells #[Value.int .i64 0] 256).toList=_
  rw[toList_madeCells_one];unfold ci;rw[List.map_replicate]
 rw[e];rfl
theorem BI{F:Fence}{m:Nat}{ops:Array Oper}{rest:List Oper}{a:Act}{Q:Exit->Act->World->Prop}{d:Option Tmp}{t:TypeId}{x y:Operand}{ty:TypeId}{pos:String}{after:Array Edge}{w w':World}{v1 v2 v:Value}
  (h1:a.eval x=v1) (h2:a.eval y=v2) (h:(Instr.makeSlice t v1 v2).run Tryz.prog w=.ok v w') (hK:wpListIn F m Tryz.prog ops Q rest (a.put d v) w'):
  wpListIn F m Tryz.prog ops Q ({dst:=d,op:=.makeSlice t x y,type:=ty,pos:=pos,after:=after,guard:=none}::rest) a w:=by
 refine wpListIn_plain rfl fun K hK'=>?_;unfold Oper.wpIn;refine⟨?_,?_⟩
 ·simp[Oper.about]
 ·rw[Oper.semAt_plain F _ _ (by intro c hc';cases hc')]
  simp only[execOp,h1,h2];rw[show(do let x <-Instr.makeSlice t v1 v2;pure (Next.value x):Sem Next).run Tryz.prog w=.ok (.value v) w' by simp[h]];exact hK' _ _ hK
theorem RQ(n:Nat)(hn:1<=n){b:Nat}(x:Kl){w0:World}(hT:TabAt w0)(hC:kL b x.a x.b x.c x.d w0)(hb:b<w0.heap.size)(h0:0<w0.heap.size)(l:Nat)(J:Nat->List Nat->World->Prop)(Jx:List Nat->World->Prop)(W:World)(hW:Below w0.heap.size w0 W)
  (hY:∀(pre:List Nat)(y H:Nat)(W1:World),J H pre W1->H<=W1.heap.size->y<256->YieldAt Fence.wide (n-1) Tryz.prog l #[.int .u8 (y:Nat)] W1 fun e W'=>(e=.returned (.bool true)/\J W'.heap.size (pre++[y]) W'/\AX.Keep (fun k=>k=0) H W1 W')\/(e=.returned (.bool false)/\Jx (pre++[y]) W'))
  (hJ:J W.heap.size [] W):CallsIn Fence.wide n Tryz.prog 110 #[.func (.yield l) #[] #[],.pointer (some ⟨b,0,none⟩)] W fun e W'=>(∃v,e=.returned v)/\((∃H xs,xs=x.by_/\J H xs W')\/(∃pre,True/\Jx pre W')):=by
 refine(uh Fence.wide n trivial trivial rfl hn l b 1 x.a x.b x.c x.d x.h (by decide) (fun pre W=>(∃H,J H pre W/\H<=W.heap.size)/\0<W.heap.size) Jx ?_ W (hT.below hW h0) (hC.below hW hb) ⟨⟨_,hJ,agq _⟩,afN h0 hW.size⟩).mono ?_
 ·rintro pre y W1 ⟨⟨H,hJ1,hH⟩,hp⟩ - hy
  refine(hY pre y H W1 hJ1 hH hy).mono ?_;rintro e W2 (⟨rfl,hJ2,hk⟩|⟨rfl,hJ2⟩)
  ·refine .inl ⟨rfl,⟨⟨_,hJ2,agq _⟩,afN hp hk.low.size⟩,hk.low.os,hk.low.tape,hk.low.output,hk.low.size,fun k hk1=>?_⟩
   obtain rfl:k=0:=by omega
   obtain⟨o,ho⟩:∃o,W1.heap[0]?=some o:=⟨_,agD hp⟩;rw[ho];exact hk.same 0 o ho (.inl rfl)
  ·exact .inr ⟨rfl,hJ2⟩
 ·rintro e W2 ⟨hv,(⟨ys,rfl,⟨H,hJ2,_⟩,_⟩|⟨pre,_,hJ2⟩)⟩
  ·exact⟨hv,.inl ⟨H,_,rfl,hJ2⟩⟩
  ·exact⟨hv,.inr ⟨pre,trivial,hJ2⟩⟩
end
section
open Go.Lib (hid)
open Go Go.Proofs Go.RowKit
attribute [local go_sem] Oper.semAt_some
def BAt(W:World)(B:Nat)(l:List Bool):Prop:=W.heap[B]?=some (.cells (l.map Value.bool).toArray 4 (0,0))
theorem BAt.lt{W:World}{B:Nat}{l:List Bool}(h:BAt W B l):B<W.heap.size:=(afF.1 h).1
theorem BAt.cell{W:World}{B:Nat}{l:List Bool}(h:BAt W B l)(j:Nat)(hj:j<l.length):W.cell? ⟨B,j,none⟩=some (.bool (l.getD j false)):=by
 have:Bx W B 4 (l.map Value.bool).toArray:=h;rw[this.cell,afG,afE hj];simp[hj]
def fZ(o:List Bool)(x:Int):Bool:=decide (0<=x) && o.getD x.toNat false
theorem PU{BO OB cp:Nat}{o:List Bool}{w:World}(x:Int)(h:w.cell? ⟨BO,0,none⟩=some (.slice (some ⟨OB,0,none⟩) o.length cp))(ho:BAt w OB o)(hx:x<o.length):
  Calls Tryz.prog 133 #[.int .i64 x,.pointer (some ⟨BO,0,none⟩)] w fun e w'=>e=.returned (.bool (fZ o x))/\w=w':=by
 by_cases h1:0<=x
 ·obtain⟨k,rfl⟩:∃k:Nat,x=(k:Int):=⟨x.toNat,by omega⟩
  have hc:=ho.cell k (by omega);have hg:fZ o (k:Int)=o.getD k false:=by unfold fZ;simp
  rw[hg];generalize o.getD k false=b at *;generalize o.length=n at *;clear ho hg;go_enter Tryz.func133,Tryz.ntmps133
  go_wp2
  go_ret
  exact⟨rfl,rfl⟩
 ·have hg:fZ o x=false:=by unfold fZ;simp;omega
  rw[hg];generalize o.length=n at *;clear ho hg;go_enter Tryz.func133,Tryz.ntmps133
  go_wp2
  go_ret
  exact⟨rfl,rfl⟩
def ac3(any:Bool)(w:World)(e:Ending)(w':World):Prop:=∃i:Int,e=.returned (.int .i64 i)/\decide (0<=i)=any/\w=w'
theorem Jg(l:List Int)(hl:l.length<=1000000){BO OB cp:Nat}{o:List Bool}(hin:∀x∈l,x<o.length)(a:Option Addr)(c:Nat)(w:World)(h:w.cell? ⟨BO,0,none⟩=some (.slice (some ⟨OB,0,none⟩) o.length cp))(ho:BAt w OB o)(hR:aH w a l):
  Calls Tryz.prog 76 #[.slice a l.length c,.func (.func 133) #[] #[.pointer (some ⟨BO,0,none⟩)]] w (ac3 (l.any (fZ o)) w):=by
 obtain⟨any,hany⟩:∃b,b=l.any (fZ o):=⟨_,rfl⟩;rw[<-hany];obtain⟨kd,hkd⟩:∃f:Nat->Int,f=fun k=>l.getD k 0:=⟨_,rfl⟩;have hget:∀k,k<l.length->kd k∈l:=fun k hk=>by rw[hkd];simp only;rw[afG,afE hk];exact agu hk
 have HF:Hid (∀k,k<l.length->fZ o (kd k)=true->any=true):=hid fun k hk h=>by rw[hany];exact ahO.2 ⟨_,hget k hk,h⟩
 have HT:Hid ((∀k,k<l.length->fZ o (kd k)=false)->any=false):=hid fun a=>by
  rw[hany,List.any_eq_false];intro x hx;obtain⟨k,hk,rfl⟩:=ag5 hx;have:=a k hk;rw[hkd]at this;simp only at this;rw[afG,afE hk,agr]at this;simp[this]
 have HR:Hid (∀j,j<l.length->∃b off,a=some ⟨b,off,none⟩/\b<w.heap.size/\w.cell? ⟨b,off+j,none⟩=some (.int .i64 (kd j))):=hid fun j hj=>by
  rw[hkd];obtain⟨b,off,e,h1,h2⟩:=hR.at hj;refine⟨b,off,e,h1,?_⟩;simp only;rw[h2,afG,afE hj,agr]
 have hc:=hid (fun k (hk:k<l.length)=>PU (kd k) h ho (hin _ (hget k hk)));clear hany hkd hR h hget hin;generalize l.length=N at *;clear ho;go_enter Tryz.func76,Tryz.ntmps76
 go_wp2
 go_loop [8] (fun i=>∃k:Nat,k<=N/\i=.int .i64 k/\Hid (∀j,j<k->fZ o (kd j)=false)) (fun i=>N-(RowKit.intOf i).toNat)
 case atStart=>exact⟨0,af0 _,rfl,hid fun j hj=>absurd hj (by omega)⟩
 case round =>
  obtain⟨k,hk,rfl,hg⟩:=hrel;rcases ag6 k N with hlt|hge
  ·obtain⟨b,off,rfl,hb,hcell⟩:=HR.out k hlt
   have hk0:(0:Int)<=(k:Int):=(by omega);have hk1:(k:Int)<(N:Int):=(by omega);have HE:=hid (HF.out k hlt);have HG:Hid (fZ o (kd k)=false->∀j,j<k+1->fZ o (kd j)=false):=hid fun h j hj=>by
    rcases ag6 j k with h1|h1
    ·exact hg.out j h1
    ·obtain rfl:j=k:=by omega
     exact h
   have hcx:=hc.out k hlt;generalize kd k=x at *;obtain⟨bx,hbx⟩:∃b,b=fZ o x:=⟨_,rfl⟩;rw[<-hbx]at hcx;have HX:=hid hbx;clear hbx
   cases bx with
   | false =>
    have HG':Hid (∀j,j<k+1->fZ o (kd j)=false):=hid (HG.out HX.out.symm);go_wp2_with (go_at_call 133;((with_reducible refine hcx.mono ?_);rintro e Wd ⟨rfl,rfl⟩))
    go_round
    case rel=>exact⟨k+1,by omega,by simp,HG'⟩
    case measure=>simp[RowKit.intOf];omega
   | true =>
    have HB:=hid (HE.out HX.out.symm);go_wp2_with (go_at_call 133;((with_reducible refine hcx.mono ?_);rintro e Wd ⟨rfl,rfl⟩))
    go_ret
    exact⟨_,rfl,by rw[HB.out];simp,rfl⟩
  ·obtain rfl:k=N:=by omega
   have HB:=hid (HT.out hg.out);go_wp2
   go_ret
   exact⟨_,rfl,by rw[HB.out];rfl,rfl⟩
theorem A8(l:List Int)(hl:l.length<=1000000){BO OB cp:Nat}{o:List Bool}(hin:∀x∈l,x<o.length)(a:Option Addr)(c:Nat)(w:World)(h:w.cell? ⟨BO,0,none⟩=some (.slice (some ⟨OB,0,none⟩) o.length cp))(ho:BAt w OB o)(hR:aH w a l):
  Calls Tryz.prog 38 #[.slice a l.length c,.func (.func 133) #[] #[.pointer (some ⟨BO,0,none⟩)]] w fun e w'=>e=.returned (.bool (l.any (fZ o)))/\w=w':=by
 have hk:=Jg l hl hin a c w h ho hR;generalize l.any (fZ o)=bad at *;clear hR h ho;go_enter Tryz.func38,Tryz.ntmps38
 go_wp2_with (go_at_call 76;((with_reducible refine hk.mono ?_);rintro e Wd ⟨i,rfl,hi,rfl⟩))
 exact afJ (v:=.bool bad) (by simp[results,Tryz.results38,go_sem]) rfl ⟨rfl,rfl⟩
def rowOf(next:List Int)(i:Nat):List Int:=(next.drop (256*i)).take 256
def lvS(next:List Int)(x:List Bool×Bool)(i:Nat):List Bool×Bool:=if x.1.getD i false=true then x else if (rowOf next i).any (fZ x.1)=true then (x.1.set i true,true)else x
def lvR(next:List Int)(o:List Bool)(k:Nat):List Bool×Bool:=(List.range k).foldl (lvS next) (o,false)
def lvL(next:List Int):Nat->List Bool->List Bool
 | 0,o=>o
 | f+1,o=>if (lvR next o o.length).2=true then lvL next f (lvR next o o.length).1 else (lvR next o o.length).1
def cF(o:List Bool):Nat:=o.count false
def kF(next rule:List Int):List Bool:=lvL next (rule.length+1) (rule.map fun r=>decide (0<=r))
theorem PV:∀(o:List Bool)(i:Nat),i<o.length->o.getD i false=false->cF (o.set i true)<cF o
 | [],i,h,_=>absurd h (agp _)
 | b::o,0,_,h=>by
  have:b=false:=by simpa using h
  subst this;simp[cF]
 | b::o,i+1,h,hf=>by
  have:=PV o i (by simpa using h) (by simpa using hf);unfold cF at *;simp only[afL,List.count_cons];omega
theorem UN(next:List Int)(x:List Bool×Bool)(i:Nat):(lvS next x i).1.length=x.1.length:=by
 unfold lvS;split
 ·rfl
 ·split
  ·simp
  ·rfl
theorem pR(next:List Int)(o:List Bool):∀k,(lvR next o k).1.length=o.length
 | 0=>rfl
 | k+1=>by
  unfold lvR;rw[ahQ,agI];exact (UN next _ k).trans (pR next o k)
theorem oz(next:List Int)(o:List Bool)(k:Nat):lvR next o (k+1)=lvS next (lvR next o k) k:=by
 unfold lvR;rw[ahQ,agI];rfl
theorem oC(next:List Int)(o:List Bool):∀k,k<=o.length->cF (lvR next o k).1<=cF o/\((lvR next o k).2=true->cF (lvR next o k).1<cF o)
 | 0,_=>⟨agq _,fun h=>by cases h⟩
 | k+1,hk=>by
  obtain⟨h1,h2⟩:=oC next o k (by omega)
  rw[oz];unfold lvS;split
  ·exact⟨h1,h2⟩
  ·split
   ·rename_i hf _
    have:=PV (lvR next o k).1 k (by rw[pR];omega) (by simpa using hf);exact⟨by simp only;omega,fun _=>by simp only;omega⟩
   ·exact⟨h1,h2⟩
theorem yQ(next:List Int):∀(f f':Nat)(o:List Bool),cF o<f->cF o<f'->lvL next f o=lvL next f' o
 | 0,_,_,h,_=>absurd h (agp _)
 | f+1,0,_,_,h=>absurd h (agp _)
 | f+1,f'+1,o,h,h'=>by
  unfold lvL;split
  ·rename_i hm
   have:=(oC next o o.length afD).2 hm;exact yQ next f f' _ (by omega) (by omega)
  ·rfl
theorem Xe(o:List Bool):cF o<=o.length:=List.count_le_length
theorem KW(next:List Int):∀(f:Nat)(o:List Bool),(lvL next f o).length=o.length
 | 0,_=>rfl
 | f+1,o=>by
  unfold lvL;split
  ·exact (KW next f _).trans (pR next o _)
  ·exact pR next o _
theorem PW(next rule:List Int):(kF next rule).length=rule.length:=by unfold kF;rw[KW];simp
theorem dX{next:List Int}{n i:Nat}(h:next.length=256*n)(hi:i<n):(rowOf next i).length=256:=by
 unfold rowOf;rw[agZ,List.length_drop,h];omega
theorem Nk{next:List Int}{j i:Nat}(hi:i<(rowOf next j).length)(h2:256*j+i<next.length):(rowOf next j)[i]=next[256*j+i]:=by
 have:(rowOf next j)[i]?=next[256*j+i]?:=by
  have h3:i<256:=by unfold rowOf at hi;rw[agZ]at hi;omega
  unfold rowOf;rw[ag1,afR h3,aii]
 rw[afE hi,afE h2]at this;exact agc this
theorem pU{next:List Int}{i:Nat}{x:Int}(h:x∈rowOf next i):x∈next:=List.mem_of_mem_drop (List.mem_of_mem_take h)
theorem BAt.set{W:World}{B:Nat}{l:List Bool}(h:BAt W B l)(i:Nat)(b:Bool):BAt (W.setCell ⟨B,i,none⟩ (.bool b)) B (l.set i b)/\(∀j,j≠B->(W.setCell ⟨B,i,none⟩ (.bool b)).heap[j]?=W.heap[j]?)/\W.frozen? ⟨B,i,none⟩=false:=by
 refine⟨?_,fun j hj=>heap_setCell_other W ⟨B,i,none⟩ j _ hj,?_⟩
 ·unfold BAt
  rw[heap_setCell_same W B i _ 4 (.bool b) h];simp[aiz]
 ·unfold BAt at h
  simp[World.frozen?,h]
theorem ac4(n:Nat)(hn:n<=1000)(w:World):(Instr.makeSlice 93 (.int .i64 n) (.int .i64 n)).run Tryz.prog w=.ok (.slice (some ⟨w.heap.size,0,none⟩) n n) (w.alloc (.cells (Array.replicate n (.bool false)) 4)):=by
 obtain⟨ti,hi,hz0,hz1,hz2⟩:=info_parts (show (Tryz.prog.info? 4).map (fun i=>(i.zero,i.size,i.bytes))=some (some (.bool false),1,1)by kernel_rfl);have h:=run_makeSlice (P:=Tryz.prog) (w:=w) 93 4 ti (.bool false) Tryz.underlying93 hi hz0 .i64 .i64 (n:Int) (n:Int) (by omega) (ah0 _) (by rw[hz1];simp;omega) (by rw[hz2];omega) (by omega);rw[afY]at h;rw[h];have e:madeCells (Value.bool false).cells (n*ti.size)=Array.replicate n (.bool false):=by
  rw[hz1,ah5];refine air.1 ?_
  show(madeCells #[Value.bool false] n).toList=_
  rw[toList_madeCells_one];simp
 rw[e]
structure Lq(W1:World)(OB BO n:Nat)(o:List Bool)(wz:World):Prop where
 ba:BAt wz OB o
 bo:Bx wz BO 93 #[.slice (some ⟨OB,0,none⟩) n n]
 lo:Below W1.heap.size W1 wz
 ln:o.length=n
theorem Lq.put{W1:World}{OB BO n:Nat}{o:List Bool}{wz:World}(h:Lq W1 OB BO n o wz)(hO:W1.heap.size<=OB)(hne:BO≠OB)(i:Nat)(b:Bool):Lq W1 OB BO n (o.set i b) (wz.setCell ⟨OB,i,none⟩ (.bool b)):=by
 obtain⟨h1,h2,_⟩:=h.ba.set i b;exact⟨h1,(h2 BO hne).trans h.bo,h.lo.setCell (p:=⟨OB,i,none⟩) hO _,by rw[agA];exact h.ln⟩
def isF:Value->Bool
 | .bool false=>true
 | _=>false
def cfW(W:World)(B:Nat):Nat:=match W.heap[B]? with
 | some (.cells cs _ _)=>cs.toList.countP isF
 | _=>0
theorem BAt.cf{W:World}{B:Nat}{l:List Bool}(h:BAt W B l):cfW W B=cF l:=by
 unfold cfW;rw[show W.heap[B]?=_ from h];unfold cF List.count;simp only[List.countP_map]
 congr 1
 funext b
 cases b<;>rfl
def Jh(next rule:List Int)(w:World)(e:Ending)(w':World):Prop:=∃OB cp,e=.returned (.slice (some ⟨OB,0,none⟩) rule.length cp)/\BAt w' OB (kF next rule)/\w.heap.size<=OB/\Below w.heap.size w w'
theorem Nl(next rule:List Int)(hok:okT next rule=true)(an ar:Option Addr)(cn cr:Nat)(hcn:next.length<=cn)(w:World)(hN:aH w an next)(hR:aH w ar rule):
  Calls Tryz.prog 112 #[.agg #[.slice an next.length cn,.slice ar rule.length cr]] w (Jh next rule w):=by
 have hok2:=hok;simp only[okT,afU,afZ]at hok2;obtain⟨g1,g2,g3,g4,g5⟩:=hok2;obtain⟨n,hn⟩:=afC rule.length;obtain⟨BX,hBX⟩:=afC w.heap.size;obtain⟨W0,hW0⟩:=afC (w.alloc (.cells #[.slice an next.length cn,.slice ar rule.length cr] 27));have hb0:Below w.heap.size w W0:=by rw[hW0];exact (afI w.heap.size w).alloc afD _
 have xb:Bx W0 BX 27 #[.slice an next.length cn,.slice ar rule.length cr]:=by rw[hW0,hBX];exact Bx.new w 27 _
 have hz0:W0.heap.size=BX+1:=by rw[hW0,hBX];simp
 have hN0:=hN.below hb0 afD;have hR0:=hR.below hb0 afD;have hch:=jQ next rule (by omega) (by omega) an ar cn cr W0 hN0 hR0
 rw[show eu next rule=0 from afR hok]at hch;obtain⟨L,hL⟩:=afC (kF next rule)
 unfold Jh;rw[<-hL];rw[<-hn]at xb hch hW0⊢;have y0:W0.cell? ⟨BX,0,none⟩=some (.slice an next.length cn):=xb.cell 0;have y1:W0.cell? ⟨BX,1,none⟩=some (.slice ar n cr):=xb.cell 1;obtain⟨nl,hnl⟩:=afC next.length
 rw[<-hnl]at xb hch y0 hW0⊢;have HOK:=hid hok;have HN:=hid hn;have HNL:=hid hnl;have HLL:=hid hL;have HN0:=hid hN0;have HR0:=hid hR0;have HB0:=hid hb0;have HXB:=hid xb;have HZ:=hid hz0;have HBX:=hid hBX;have hn1:n<=512:=by omega
 have hn2:nl=256*n:=by omega
 have HG5:=hid g5;have HN2:=hid hn2;clear hn2;have HCN:=hid (show nl<=cn by omega);clear hok g1 g2 g3 g4 g5 hN hR hn hnl hcn hL hN0 hR0 hb0 xb hz0;go_enter Tryz.func112,Tryz.ntmps112
 go_upto_region 1 with fail
 rw[<-hW0,<-hBX];clear hW0 hBX;go_upto_region 3 with (go_at_call 36;((with_reducible refine hch.mono ?_);rintro e W1 ⟨rfl,hb1⟩;have y0:=(hb1.cell (p:=⟨BX,0,none⟩) HXB.out.lt).trans y0;have y1:=(hb1.cell (p:=⟨BX,1,none⟩) HXB.out.lt).trans y1))
 have hN1:=HN0.out.below hb1 afD;have hR1:=HR0.out.below hb1 afD;have HN1:=hid hN1;have HR1:=hid hR1;have HB1:=hid hb1;obtain⟨OB,hOB⟩:=afC W1.heap.size;obtain⟨W3,hW3⟩:=afC ((W1.alloc (.cells (Array.replicate n (.bool false)) 4)).alloc (.cells #[.slice (some ⟨W1.heap.size,0,none⟩) n n] 93));have hq:Lq W1 OB (OB+1) n (List.replicate n false) W3:=by
  refine⟨?_,?_,?_,by simp⟩
  ·have h1:=((afI (W1.alloc (.cells (Array.replicate n (.bool false)) 4)).heap.size (W1.alloc (.cells (Array.replicate n (.bool false)) 4))).alloc afD (.cells #[.slice (some ⟨W1.heap.size,0,none⟩) n n] 93)).block W1.heap.size (by simp)
   unfold BAt;rw[hW3,hOB,h1,World.alloc_heap_new];simp
  ·have:=Bx.new (W1.alloc (.cells (Array.replicate n (.bool false)) 4)) 93 #[.slice (some ⟨W1.heap.size,0,none⟩) n n]
   rw[hW3,hOB]
   simpa using this
  ·rw[hW3];exact ((afI W1.heap.size W1).alloc afD _).alloc (by simp) _
 have y0:=(hq.lo.cell (p:=⟨BX,0,none⟩) (by have:=HXB.out.lt;have:=hb1.size;simp only;omega)).trans y0;have y1:=(hq.lo.cell (p:=⟨BX,1,none⟩) (by have:=HXB.out.lt;have:=hb1.size;simp only;omega)).trans y1;have HQ:=hid hq;have HOB:=hid hOB;have yO:BX<W1.heap.size:=by have:=HXB.out.lt;have:=hb1.size;omega
 have Ji:=hid yO;have hmk:=ac4 n (by omega) W1;clear hch hN1 hR1 hb1 hq yO;go_upto_region 4 with fail
 rw[<-hW3,<-hOB];clear hW3 hOB hmk;go_upto_region 5 with fail
 clear y0 y1;have PX:∃o,Lq W1 OB (OB+1) n o W3/\Hid (∀j,j<0->o[j]?=some (decide (0<=rule.getD j 0))):=⟨_,HQ.out,hid fun j hj=>absurd hj (agp _)⟩;clear HQ;go_loopw [18] (fun i wr=>∃k:Nat,i=.int .i64 k/\k<=n/\∃o,Lq W1 OB (OB+1) n o wr/\Hid (∀j,j<k->o[j]?=some (decide (0<=rule.getD j 0)))) (fun i _=>n-(RowKit.intOf i).toNat)
 case atStart=>exact⟨0,rfl,af0 _,PX⟩
 case round =>
  obtain⟨k,rfl,hk,o,hq,hp⟩:=hrel;have hk0:(0:Int)<=(k:Int):=by omega
  by_cases hlt:k<n
  ·have hk1:(k:Int)<(n:Int):=by omega
   obtain⟨rb,ro,rfl,hrb,hrc⟩:=(HR1.out.below hq.lo afD).at (j:=k) (by have:=HN.out;omega);have hrg:rule.getD k 0=rule[k]'(by have:=HN.out;omega):=(by rw[afG,afE (by have:=HN.out;omega),agr]);rw[<-hrg]at hrc;obtain⟨x,hx⟩:=afC (rule.getD k 0);rw[<-hx]at hrc;have HX:=hid hx;have hbo:=hq.bo.cell 0;have hbo:wr.cell? ⟨OB+1,0,none⟩=some (.slice (some ⟨OB,0,none⟩) n n):=hbo;have hoc:=hq.ba.cell k (by have:=hq.ln;omega);have hfz:=(hq.ba.set k false).2.2;have HQ:=hid hq;clear hx hrg hq hrb;go_wp2_with fail
   exact⟨⟨k+1,by simp,by omega,o.set k (decide (0<=x)),HQ.out.put (afT HOB.out.symm) (by omega) k _,hid (fun j hj=>by
    by_cases e:k=j
    ·subst e
     rw[agX (by have:=HQ.out.ln;omega),HX.out]
    ·rw[agM e]
     exact hp.out j (by omega))⟩,by simp[RowKit.intOf];omega⟩
  ·have hk1:¬(k:Int)<(n:Int):=by omega
   have ho:o=rule.map fun r=>decide (0<=r):=by
    refine agJ fun j=>?_
    by_cases hj:j<n
    ·rw[hp.out j (by omega),af8,afE (by have:=HN.out;omega),afG,afE (by have:=HN.out;omega)]
     rfl
    ·rw[af5 (by have:=hq.ln;omega),af5 (by rw[agf];have:=HN.out;omega)]
   have hL1:lvL next (cF o+1) o=L:=by
    rw[HLL.out];unfold kF;rw[<-ho];exact yQ next _ _ _ (ag9 _) (by have:=Xe o;have:=hq.ln;have:=HN.out;omega)
   have Np:∃(o:List Bool)(b:Bool),(Value.bool true)=.bool b/\Lq W1 OB (OB+1) n o wr/\Hid (if b=true then lvL next (cF o+1) o=L else o=L):=⟨o,true,rfl,hq,hid (by rw[afR rfl];exact hL1)⟩;clear hp ho hL1 hq;go_upto_region 10 with fail
   go_loopw [6] (fun v6 wr=>∃(o:List Bool)(b:Bool),v6=.bool b/\Lq W1 OB (OB+1) n o wr/\Hid (if b=true then lvL next (cF o+1) o=L else o=L)) (fun v6 wr=>match v6 with
    | .bool true=>cfW wr OB+1
    | _=>0)
   case atStart=>exact Np
   case round =>
    obtain⟨o,b,rfl,hq,hp⟩:=hrel;have hbo:wr.cell? ⟨OB+1,0,none⟩=some (.slice (some ⟨OB,0,none⟩) n n):=hq.bo.cell 0;have HQ:=hid hq;clear hq
    cases b
    ·go_wp2_with fail
     have hfin:Below w.heap.size w wr:=HB0.out.trans ((HB1.out.mono HB0.out.size).trans (HQ.out.lo.mono (by have:=Ji.out;have:=HBX.out;omega)));have hba:BAt wr OB L:=(by have:=hp.out;rw[afO (by decide)]at this;rw[<-this];exact HQ.out.ba);exact afJ (v:=.slice (some ⟨OB,0,none⟩) n n) (by simp[results,Tryz.results112,go_sem]) rfl ⟨OB,n,rfl,hba,by have:=Ji.out;have:=HBX.out;have:=HOB.out;omega,hfin⟩
    ·have hm0:cfW wr OB=cF o:=HQ.out.ba.cf
     have HM0:=hid hm0;have HP1:=hid (show lvL next (cF o+1) o=L by simpa using hp.out);clear hm0 hp;go_upto_region 13 with fail
     go_loopw [6,32] (fun v6 vi wq=>∃j:Nat,vi=.int .i64 j/\j<=n/\v6=.bool (lvR next o j).2/\Lq W1 OB (OB+1) n (lvR next o j).1 wq) (fun _ vi _=>n-(RowKit.intOf vi).toNat)
     case atStart=>exact⟨0,rfl,af0 _,rfl,HQ.out⟩
     case round =>
      obtain⟨j,rfl,hj,rfl,hq⟩:=hrel;have hj0:(0:Int)<=(j:Int):=by omega
      by_cases hlt:j<n
      ·have hj1:(j:Int)<(n:Int):=by omega
       obtain⟨y,hy⟩:=afC (lvR next o j)
       have hsucc:Hid (lvR next o (j+1)=lvS next y j):=hid (by rw[oz,hy]);rw[<-hy]at hq⊢;obtain⟨y1,y2⟩:=y;simp only at hq⊢;have hbo:wr.cell? ⟨OB+1,0,none⟩=some (.slice (some ⟨OB,0,none⟩) n n):=hq.bo.cell 0;have hoc:=hq.ba.cell j (by have:=hq.ln;omega);have hfz:=(hq.ba.set j false).2.2;obtain⟨bk,hbk⟩:∃b,b=y1.getD j false:=⟨_,rfl⟩;rw[<-hbk]at hoc;have HBK:=hid hbk;have HQ2:=hid hq;clear hy hq hbk
       cases bk
       ·have hnl:next.length=256*n:=by have:=HN2.out;have:=HNL.out;omega
        have hne:next≠[]:=fun e=>by rw[e]at hnl;simp at hnl;omega
        obtain⟨nb,no,rfl,hnb,hnc⟩:=(HN1.out.below HQ2.out.lo afD) hne;have hrow:aH wr (some ⟨nb,no+256*j,none⟩) (rowOf next j):=fun _=>⟨nb,no+256*j,rfl,hnb,fun i hi=>by
         have hi2:i<256:=(by rw[dX hnl hlt]at hi;exact hi);have:=hnc (256*j+i) (by omega);rw[<-ah1]at this;rw[this,Nk hi (by omega)]⟩
        have hin:∀x∈rowOf next j,x<(y1.length:Int):=fun x hx=>by
         have h1:=agk.1 HG5.out x (pU hx);have h2:=HQ2.out.ln;have h3:=HN.out;simp only[afU,afZ]at h1;omega
        have hcall:=fun c=>A8 (rowOf next j) (by rw[dX hnl hlt];decide) hin (some ⟨nb,no+256*j,none⟩) c wr (cp:=n) (by rw[HQ2.out.ln];exact hbo) HQ2.out.ba hrow;rw[dX hnl hlt]at hcall;obtain⟨bn,hbn⟩:∃b,b=(rowOf next j).any (fZ y1):=⟨_,rfl⟩;rw[<-hbn]at hcall;have HBN:=hid hbn;have hcall:Calls Tryz.prog 38 #[.slice (some ⟨nb,no+256*j,none⟩) (256*(j+1)-256*j) (cn-256*j),.func (.func 133) #[] #[.pointer (some ⟨OB+1,0,none⟩)]] wr fun e w'=>e=.returned (.bool bn)/\wr=w':=by
         have:=hcall (cn-256*j);rw[show 256*(j+1)-256*j=256 by omega];exact this
        have y0:=(HQ2.out.lo.cell (p:=⟨BX,0,none⟩) Ji.out).trans y0;have hlo1:(256:Int)*j<=256*((j:Int)+1):=(by omega);have hhi1:(256:Int)*((j:Int)+1)<=cn:=(by have:=HN2.out;have:=HCN.out;omega);have hlo0:(0:Int)<=256*((j:Int)+1):=(by omega);have Xf:(0:Int)<=256*(j:Int):=(by omega);have aeZ:(nl:Int)<=200000:=(by have:=HN2.out;omega);clear hnc hne hnl hrow hin hbn
        cases bn
        ·have hst:lvS next (y1,y2) j=(y1,y2):=by
          unfold lvS;rw[afO (by rw[<-HBK.out];decide),afO (by rw[<-HBN.out];decide)]
         have vg:Hid (∃j2:Nat,(Value.int .i64 ((j:Int)+1))=.int .i64 j2/\j2<=n/\(Value.bool y2)=.bool (lvR next o j2).2/\Lq W1 OB (OB+1) n (lvR next o j2).1 wr):=hid ⟨j+1,by simp,by omega,by rw[hsucc.out,hst],by rw[hsucc.out,hst];exact HQ2.out⟩;clear hst;go_wp2_with (go_at_call 38;((with_reducible refine hcall.mono ?_);rintro e Wd ⟨rfl,rfl⟩))
         exact⟨vg.out,by simp[RowKit.intOf];omega⟩
        ·have hst:lvS next (y1,y2) j=(y1.set j true,true):=by
          unfold lvS;rw[afO (by rw[<-HBK.out];decide),afR HBN.out.symm]
         have vg:Hid (∃j2:Nat,(Value.int .i64 ((j:Int)+1))=.int .i64 j2/\j2<=n/\(Value.bool true)=.bool (lvR next o j2).2/\Lq W1 OB (OB+1) n (lvR next o j2).1 (wr.setCell ⟨OB,j,none⟩ (.bool true))):=hid ⟨j+1,by simp,by omega,by rw[hsucc.out,hst],by rw[hsucc.out,hst];exact HQ2.out.put (afT HOB.out.symm) (by omega) j true⟩;clear hst;go_wp2_with (go_at_call 38;((with_reducible refine hcall.mono ?_);rintro e Wd ⟨rfl,rfl⟩))
         exact⟨vg.out,by simp[RowKit.intOf];omega⟩
       ·have hst:lvS next (y1,y2) j=(y1,y2):=afR HBK.out.symm
        have hrel:∃j2:Nat,(Value.int .i64 ((j:Int)+1))=.int .i64 j2/\j2<=n/\(Value.bool y2)=.bool (lvR next o j2).2/\Lq W1 OB (OB+1) n (lvR next o j2).1 wr:=⟨j+1,by simp,by omega,by rw[hsucc.out,hst],by rw[hsucc.out,hst];exact HQ2.out⟩;have vg:=hid hrel;clear hst hrel;go_wp2_with fail
        exact⟨vg.out,by simp[RowKit.intOf];omega⟩
      ·have hj1:¬(j:Int)<(n:Int):=by omega
       obtain rfl:j=n:=by omega
       obtain⟨y,hy⟩:=afC (lvR next o j)
       have hlen:o.length=j:=HQ.out.ln;have hrel:∃(o2:List Bool)(b:Bool),(Value.bool y.2)=.bool b/\Lq W1 OB (OB+1) j o2 wr/\Hid (if b=true then lvL next (cF o2+1) o2=L else o2=L):=by
        have hp1:=HP1.out;refine⟨y.1,y.2,rfl,hy▸ hq,hid ?_⟩;unfold lvL at hp1;rw[hlen,<-hy]at hp1;have hless:=(oC next o j (by omega)).2;rw[<-hy]at hless
        by_cases hm:y.2=true
        ·rw[afR hm]at hp1⊢
         rw[<-hp1];exact yQ next _ _ _ (ag9 _) (hless hm)
        ·rw[afO hm]at hp1⊢
         exact hp1
       have PY:(match Value.bool y.2 with| .bool true=>cfW wr OB+1|_=>0)<cF o+1:=by
        have hless:=(oC next o j (by omega)).2;rw[<-hy]at hless;have hcf:=hq.ba.cf;rw[<-hy]at hcf
        cases hm:y.2 with
        | true=>simp only;have:=hless hm;omega
        | false=>simp only;omega
       rw[<-hy];have vg:=hid hrel;have X3:=hid PY;clear hrel PY hq hy hlen;go_wp2_with fail
       exact⟨vg.out,by show _<cfW _ OB+1;rw[HM0.out];exact X3.out⟩
end
end Go.Proofs.YtkjgogdkdejljaaGreatDoor.Df
