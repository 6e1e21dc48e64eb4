import Derived.Test.YtkjgogdkdejljaaGreatDoorRg5
namespace Go.Proofs.YtkjgogdkdejljaaGreatDoor.AX
open Go
section
variable {P : Program} {ops : Array Oper} {md : Region.Mode} {D : Array Bool → World → Prop} {Q : Exit → Act → World → Prop}
def wpAnyL(P:Program)(md:Region.Mode)(ops:Array Oper)(D:Array Bool→World→Prop)(Q:Exit→Act→World→Prop):Nat→Array Bool→Act→World→Prop
 | 0,listed,a,w=>Region.ready md ops listed = []∧Q .normal a w
 | fuel+1,listed,a,w=>(Region.ready md ops listed = []→Q .normal a w) ∧
  ∀ i∈Region.ready md ops listed,wpOp P ops Q i (fun a' w'=>D (listed.setIfInBounds i true) w'∧wpAnyL P md ops D Q fuel (listed.setIfInBounds i true) a' w') a w
theorem kR:∀(fuel:Nat)(listed:Array Bool)(a:Act)(w:World),wpAnyL P md ops D Q fuel listed a w→wpAny P md ops Q fuel listed a w
 | 0,_,_,_,h=>h
 | fuel+1,_,_,_,h=>⟨h.1,fun i hi=>wpOp_mono (fun a' w' h'=>kR fuel _ a' w' h'.2) (h.2 i hi)⟩
theorem wpAnyL_first{i:Nat}{oi:Oper}{v:Value}{Y:World→Prop}(good:Array Bool→Prop)(hi:ops[i]?=some oi)(hsel:∀(j:Nat)(o:Oper) cs b,ops[j]?=some o→o.op ≠ .select cs b)
  (hQ:∀ c a w,Q (.panic c) (a.put oi.dst v) w→Q (.panic c) a w) (hY:∀ listed w,good listed→D listed w→Y w) (hg:∀ listed j,good listed→i∈Region.ready md ops listed→j∈Region.ready md ops listed→j≠i→good (listed.setIfInBounds j true))
  (hD:∀ listed w,D (listed.setIfInBounds i true) w↔D listed w):∀(fuel:Nat)(listed:Array Bool)(a:Act)(w:World),D listed w→good listed →
   (∀ j oj,ops[j]?=some oj→j≠i→listed.getD j true=false→(∀ e∈oj.after,Region.binds md e=true→e.on≠i)→oi.apart ops oj=true) →
   i∈Region.ready md ops listed→iX P ops Y oi v a→wpAnyL P md ops D Q fuel (listed.setIfInBounds i true) (a.put oi.dst v) w→wpAnyL P md ops D Q (fuel+1) listed a w
 | 0,listed,a,w,hC,hgd,_,hr,hy,H=>by
  refine⟨(fun h=>by rw[h] at hr;cases hr),fun j hj=>?_⟩
  by_cases hji:j=i
  ·subst hji;exact hy.at hi (hY _ _ hgd hC) ⟨(hD _ _).2 hC,H⟩
  ·have:=ready_mono hj hji
   rw[H.1] at this
   cases this
 | fuel+1,listed,a,w,hC,hgd,hfree,hr,hy,H=>by
  refine⟨(fun h=>by rw[h] at hr;cases hr),fun j hj=>?_⟩
  by_cases hji:j=i
  ·subst hji;exact hy.at hi (hY _ _ hgd hC) ⟨(hD _ _).2 hC,H⟩
  ·obtain⟨hun,oj,hoj,hall⟩:=mem_ready.1 hj
   have hno:∀ e∈oj.after,Region.binds md e=true→e.on≠i:=fun e he hb e1=>by
    have g1:=hall e he hb
    have g0:=(mem_ready.1 hr).1
    rw[e1] at g1
    rcases Nat.lt_or_ge i listed.size with h' | h'
    ·simp[h'] at g0 g1;rw[g0] at g1;cases g1
    ·simp[Array.getElem?_eq_none h'] at g1
   refine wpOp_mono (fun a' w' h3=>?_) (yJ hoj (hfree j oj hoj hji hun hno) (fun cs b=>hsel i oi cs b hi) (fun cs b=>hsel j oj cs b hoj) hQ hy (H.2 j (ready_mono hj hji)))
   have h4:=h3.2.1
   rw[Array.setIfInBounds_comm _ _ (Ne.symm hji)] at h4
   have h5:=(hD _ _).1 h4
   refine⟨h5,wpAnyL_first good hi hsel hQ hY hg hD fuel (listed.setIfInBounds j true) a' w' h5 (hg _ _ hgd hr hj hji) (fun k ok hk hki Ku hnk=>hfree k ok hk hki ?_ hnk) (ready_mono hr (Ne.symm hji)) h3.1 ?_⟩
   ·by_cases hjk:j=k
    ·subst hjk;exact hun
    ·rw[getD_set_ne true hjk] at Ku;exact Ku
   ·rw[Array.setIfInBounds_comm _ _ hji]
    exact h3.2.2
end
section
variable {P : Program} {C CT : World → Prop} {Q : Exit → Act → World → Prop} {i0 : Nat}
def Dl(C CT:World→Prop)(i0:Nat)(listed:Array Bool)(w:World):Prop:=CT w∧(listed.getD i0 false=false→C w)
def aY(P:Program)(l:List Oper)(C CT:World→Prop)(i0:Nat)(Q:Exit→Act→World→Prop):Bool→List (Nat×Nat)→Act→World→Prop
 | _,[],a,w=>Q .normal a w
 | d,(i,0)::r,a,w=>d=false∧∃ o,l[i]?=some o∧wpQuiet P l.toArray C (fun a'=>aY P l C CT i0 Q d r a' w) [o] a
 | d,(i,1)::r,a,w=>∃ o,l[i]?=some o∧wpQuiet P l.toArray CT (fun a'=>aY P l C CT i0 Q d r a' w) [o] a
 | d,(i,_+2)::r,a,w=>wpOp P l.toArray Q i (fun a' w'=>(CT w'∧((d || Nat.beq i i0)=false→C w'))∧aY P l C CT i0 Q (d || Nat.beq i i0) r a' w') a w
def asF(r:List (Nat×Nat)):List (Nat×Bool):=r.map fun p=>(p.1,Nat.ble 2 p.2)
def zX(L:List Inf)(i0:Nat)(r:List (Nat×Nat)):Bool:=match L[i0]? with
 | none=>false
 | some x=>r.all fun p=>Nat.ble 2 p.2 || (!(Nat.beq p.1 i0) && (Nat.beq p.2 1 || Nat.testBit x.dep p.1))
theorem fJ{l:List Oper}(hi0:i0<l.length)(hs:Region.noSelect l.toArray=true)(hQ:∀ c a d v w,Q (.panic c) (Act.put a d v) w→Q (.panic c) a w):∀ (r:List (Nat×Nat)) (listed:Array Bool) (mask:Nat) (a:Act) (w:World),Dl C CT i0 listed w→Lst l.length listed mask →
  mO (infos l) (asF r) mask=true→zX (infos l) i0 r=true→aY P l C CT i0 Q (mask.testBit i0) r a w→wpAnyL P .any l.toArray (Dl C CT i0) Q r.length listed a w
 | [],listed,mask,a,w,_,hl,hB,_,h=>by
  simp only[asF,List.map_nil,mO,Nat.beq_eq] at hB
  refine⟨?_,h⟩
  rw[List.eq_nil_iff_forall_not_mem]
  intro j hj
  obtain⟨h0,o,ho,_⟩:=mem_ready.1 hj
  have hjl:j<l.length:=by have:=(Array.getElem?_eq_some_iff.1 ho).1;simpa using this
  have hb:=hl.bit j hjl
  rw[hB] at hb
  have:(2 ^ (infos l).length-1).testBit j=true:=by rw[Nat.testBit_two_pow_sub_one];simp[infos,hjl]
  rw[this] at hb
  rw[Array.getD_eq_getD_getElem?,hb] at h0
  cases h0
 | (i,b)::r,listed,mask,a,w,hC,hl,hB,hW,h=>by
  have hB0:=hB
  simp only[asF,List.map_cons,mO] at hB
  cases hx:(infos l)[i]? with
  | none=>rw[hx] at hB;cases hB
  | some x =>
   rw[hx] at hB
   simp only[Bool.and_eq_true,Bool.not_eq_true',Nat.beq_eq] at hB
   obtain⟨⟨hun,zV⟩,hk,hB⟩:=hB
   have hil:i<l.length:=by
    have:=(List.getElem?_eq_some_iff.1 hx).1
    simpa[infos] using this
   have ho:l[i]?=some l[i]:=List.getElem?_eq_getElem hil
   have hxe:x=gy l.toArray l[i]:=by
    simp only[infos,List.getElem?_map,ho,Option.map_some,Option.some.injEq] at hx
    exact hx.symm
   have ho':l.toArray[i]?=some l[i]:=by simp
   have hgl:∀ k,mask.testBit k=true→listed.getD k false=true:=fun k hk=>by
    rw[Array.getD_eq_getD_getElem?,hl.bit k (hl.lt k hk),hk];rfl
   have dA:i∈Region.ready .any l.toArray listed:=mem_ready.2 ⟨by rw[Array.getD_eq_getD_getElem?,hl.bit i hil,hun];rfl,l[i],ho',fun e he hb=>hgl _ (by
    rw[hxe] at zV
    exact wm zV (fC.2 ⟨e,he,hb,rfl⟩))⟩
   have hset:=hl.set hil
   have hmb:∀ k,(Nat.lor mask (2 ^ i)).testBit k=(mask.testBit k || decide (i=k)):=fun k=>by
    show(mask ||| 2 ^ i).testBit k=_
    rw[Nat.testBit_or,Nat.testBit_two_pow]
   obtain⟨x0,hx0⟩:∃ x0,(infos l)[i0]?=some x0:=⟨(infos l)[i0]'(by simpa[infos] using hi0),by simp[infos,hi0]⟩
   have hW':zX (infos l) i0 r=true:=by
    unfold zX at hW ⊢
    rw[hx0] at hW ⊢
    simp only[List.all_cons,Bool.and_eq_true] at hW ⊢
    exact hW.2
   have hWi:(Nat.ble 2 b || (!(Nat.beq i i0) && (Nat.beq b 1 || Nat.testBit x0.dep i)))=true:=by
    unfold zX at hW
    rw[hx0] at hW
    simp only[List.all_cons,Bool.and_eq_true] at hW
    exact hW.1
   have free:∀ (hf:ng i x mask (infos l) 0=true) (j:Nat) (oj:Oper),l.toArray[j]?=some oj→j≠i→listed.getD j true=false→(∀ e∈oj.after,Region.binds .any e=true→e.on≠i)→l[i].apart l.toArray oj=true:=fun hf j oj hj hji hjun hno=>by
    have hjl:j<l.length:=by have:=(Array.getElem?_eq_some_iff.1 hj).1;simpa using this
    have hje:(infos l)[j]?=some (gy l.toArray oj):=by
     have:l[j]?=some oj:=by simpa using hj
     simp[infos,this]
    rcases jA _ 0 hf j _ hje with h1 | h1 | h1 | h1
    ·omega
    ·rw[Nat.zero_add] at h1
     rw[Array.getD_eq_getD_getElem?,hl.bit j hjl,h1] at hjun
     cases hjun
    ·obtain⟨e,he,hb,hon⟩:=fC.1 h1
     exact absurd hon (hno e he hb)
    ·rw[hxe] at h1;exact kQ h1
   have hDi:i≠i0→∀ listed w,Dl C CT i0 (listed.setIfInBounds i true) w↔Dl C CT i0 listed w:=fun hne listed w=>by
    unfold Dl
    rw[getD_set_ne false hne]
   match b,hk,hB,h,hWi with
   | 0,hk,hB,h,hWi =>
    have hk:(x.plain && ng i x mask (infos l) 0)=true:=hk
    simp only[Bool.and_eq_true] at hk
    obtain⟨hp,hf⟩:=hk
    have hWi:(!(Nat.beq i i0) && Nat.testBit x0.dep i)=true:=hWi
    simp only[Bool.and_eq_true,Bool.not_eq_true'] at hWi
    have hne:i≠i0:=fun e=>by rw[e] at hWi;simp at hWi
    obtain⟨hm0,o,ho2,h⟩:=h
    obtain rfl:l[i]=o:=by rw[ho] at ho2;exact Option.some.inj ho2
    have hq:qOp P l.toArray C i (fun a'=>aY P l C CT i0 Q (mask.testBit i0) r a' w) a:=by unfold qOp;simp only[ho'];exact h
    obtain⟨v,hy,hK⟩:=yieldsIn_of_qOp ho' hq
    have Rk:x0=gy l.toArray l[i0]:=by
     have:l[i0]?=some l[i0]:=List.getElem?_eq_getElem hi0
     simp only[infos,List.getElem?_map,this,Option.map_some,Option.some.injEq] at hx0
     exact hx0.symm
    have hd0:=hWi.2
    rw[Rk] at hd0
    obtain⟨e,he,hb,hon⟩:=fC.1 hd0
    have zY:∀ listed,i∈Region.ready .any l.toArray listed→i0∉Region.ready .any l.toArray listed:=fun listed hr h0=>by
     obtain⟨_,o0,ho0,hall⟩:=mem_ready.1 h0
     have:l.toArray[i0]?=some l[i0]:=by simp[hi0]
     rw[this] at ho0
     obtain rfl:=Option.some.inj ho0
     have g1:=hall e he hb
     have g0:=(mem_ready.1 hr).1
     rw[hon] at g1
     rcases Nat.lt_or_ge i listed.size with h' | h'
     ·simp[h'] at g0 g1;rw[g0] at g1;cases g1
     ·simp[Array.getElem?_eq_none h'] at g1
    refine wpAnyL_first (Y:=C) (fun listed=>listed.getD i0 false=false) ho' (Region.noSelect_spec hs) (fun c a w=>hQ c a _ _ w) (fun listed w h1 h2=>h2.2 h1) (fun listed j h1 hr hj hji=>?_) (hDi hne) r.length listed a w hC ?_ (free hf) dA (gY (by rw[hxe] at hp;exact hp) hy) (fJ hi0 hs hQ r _ _ _ w ((hDi hne _ _).2 hC) hset hB hW' ?_)
    ·rw[getD_set_ne false (fun e=>by subst e;exact zY _ hr hj)]
     exact h1
    ·rw[Array.getD_eq_getD_getElem?,hl.bit i0 hi0,hm0];rfl
    ·rw[hmb,show decide (i=i0)=false by simpa using hne,Bool.or_false]
     exact hK
   | 1,hk,hB,h,hWi =>
    have hk:(x.plain && ng i x mask (infos l) 0)=true:=hk
    simp only[Bool.and_eq_true] at hk
    obtain⟨hp,hf⟩:=hk
    have hWi:(!(Nat.beq i i0) && true)=true:=hWi
    simp only[Bool.and_eq_true,Bool.not_eq_true'] at hWi
    have hne:i≠i0:=fun e=>by rw[e] at hWi;simp at hWi
    obtain⟨o,ho2,h⟩:=h
    obtain rfl:l[i]=o:=by rw[ho] at ho2;exact Option.some.inj ho2
    have hq:qOp P l.toArray CT i (fun a'=>aY P l C CT i0 Q (mask.testBit i0) r a' w) a:=by unfold qOp;simp only[ho'];exact h
    obtain⟨v,hy,hK⟩:=yieldsIn_of_qOp ho' hq
    refine wpAnyL_first (Y:=CT) (fun _=>True) ho' (Region.noSelect_spec hs) (fun c a w=>hQ c a _ _ w) (fun listed w _ h2=>h2.1) (fun _ _ _ _ _ _=>trivial) (hDi hne) r.length listed a w hC trivial (free hf) dA (gY (by rw[hxe] at hp;exact hp) hy) (fJ hi0 hs hQ r _ _ _ w ((hDi hne _ _).2 hC) hset hB hW' ?_)
    rw[hmb,show decide (i=i0)=false by simpa using hne,Bool.or_false]
    exact hK
   | b+2,hk,hB,h,hWi =>
    refine⟨(fun h0=>by rw[h0] at dA;cases dA),fun j hj=>?_⟩
    have hji:=Et (r:=asF r) hl hB0 j hj
    subst hji
    have hbq:(mask.testBit i0 || Nat.beq j i0)=(Nat.lor mask (2 ^ j)).testBit i0:=by
     rw[hmb]
     congr 1
     rw[Bool.eq_iff_iff,Nat.beq_eq,decide_eq_true_eq]
    rw[show aY P l C CT i0 Q (mask.testBit i0) ((j,b+2)::r) a w=wpOp P l.toArray Q j (fun a' w'=>(CT w'∧((mask.testBit i0 || Nat.beq j i0)=false→C w'))∧aY P l C CT i0 Q (mask.testBit i0 || Nat.beq j i0) r a' w') a w from rfl,hbq] at h
    refine wpOp_mono (fun a' w' hk=>?_) h
    have hd:Dl C CT i0 (listed.setIfInBounds j true) w':=⟨hk.1.1,fun h0=>hk.1.2 (by
     have:=hset.bit i0 hi0
     rw[Array.getD_eq_getD_getElem?,this] at h0
     exact h0)⟩
    exact⟨hd,fJ hi0 hs hQ r _ _ a' w' hd hset hB hW' hk.2⟩
theorem bX{id:Nat}{a:Act}{w:World}{l:List Oper}(i0:Nat)(r:List (Nat×Nat))(L:List Inf)(hm:P.follows .mixedOrders=true)(hs:Region.noSelect l.toArray=true)(hL:infos l=L)(hlen:r.length=l.length)(hi0:i0<l.length)(hB:mO L (asF r) 0=true)(hW:zX L i0 r=true)
  (hQ:∀ c a d v w,Q (.panic c) (Act.put a d v) w→Q (.panic c) a w) (hC:CT w.drew∧C w.drew) (h:aY P l C CT i0 Q false r a w.drew):(Code.region id l.toArray true).wp P Q a w:=by
 refine wp_region_any hm ?_
 have:=kR _ _ _ _ (fJ (P:=P) (C:=C) (CT:=CT) (Q:=Q) hi0 hs hQ r _ 0 a w.drew ⟨hC.1,fun _=>hC.2⟩ (Lst.start _) (hL ▸ hB) (hL ▸ hW) (by simpa using h))
 rw[hlen] at this
 simpa using this
theorem bG{l:List Oper}{i:Nat}{r:List (Nat×Nat)}{a:Act}{w:World}(o:Oper)(ho:l[i]?=some o)(h:wpQuiet P l.toArray C (fun a'=>aY P l C CT i0 Q false r a' w) [o] a):aY P l C CT i0 Q false ((i,0)::r) a w:=⟨rfl,o,ho,h⟩
theorem eY{l:List Oper}{d:Bool}{i:Nat}{r:List (Nat×Nat)}{a:Act}{w:World}(o:Oper)(ho:l[i]?=some o)(h:wpQuiet P l.toArray CT (fun a'=>aY P l C CT i0 Q d r a' w) [o] a):aY P l C CT i0 Q d ((i,1)::r) a w:=⟨o,ho,h⟩
theorem aV{l:List Oper}{d:Bool}{i:Nat}{r:List (Nat×Nat)}{a:Act}{w:World}(o:Oper)(ho:l[i]?=some o)(hw:Region.wanted o (yielded l.toArray a.tmps)=true)(h:Oper.wp P o a w (fun a' w'=>(CT w'∧((d || Nat.beq i i0)=false→C w'))∧aY P l C CT i0 Q (d || Nat.beq i i0) r a' w') Q):aY P l C CT i0 Q d ((i,2)::r) a w:=by
 show wpOp P l.toArray Q i (fun a' w'=>(CT w'∧((d || Nat.beq i i0)=false→C w'))∧aY P l C CT i0 Q (d || Nat.beq i i0) r a' w') a w
 unfold wpOp
 have ho':l.toArray[i]?=some o:=by simpa using ho
 simp only[ho',hw,if_true]
 exact .inl h
theorem dB{l:List Oper}{d:Bool}{i:Nat}{r:List (Nat×Nat)}{a:Act}{w:World}{o:Oper}{f:FuncId}{fn:Func}{c:Code}{xs:Array Operand}{ts:Array TypeId}{vs:Array Value}{R:Ending→World→Prop}(h:Calls P f vs w R)(ho:l[i]?=some o)
  (hop:o.op = .call { callee := .value (.func f),args:=xs,argTypes:=ts }) (hw:Region.wanted o (yielded l.toArray a.tmps)=true) (hf:P.funcs[f]?=some fn) (hn:(fn.name == "runtime.NumGoroutine")=false) (hb:fn.body=some c) (hx:xs.map a.eval=vs)
  (hR:∀ e w',R e w'→∃ v,e = .returned v∧(CT w'∧((d || Nat.beq i i0)=false→C w'))∧aY P l C CT i0 Q (d || Nat.beq i i0) r (a.put o.dst v) w'):aY P l C CT i0 Q d ((i,2)::r) a w:=by
 refine aV o ho hw ?_
 have hrun:(execOp a.eval o).run P w = .ok (.enter f (xs.map a.eval)) w:=by
  have h1:fn.name≠"runtime.NumGoroutine":=by simpa using hn
  simp[execOp,hop,resolve,invoke,Act.eval,callFunc,Deferred.ofValue,hf,h1,hb]
 unfold Oper.wp
 rw[hrun]
 refine Calls.mono (hx ▸ h) fun e w2 hk=>?_
 obtain⟨v,rfl,h1,h2⟩:=hR _ _ hk
 exact⟨h1,h2⟩
end
end Go.Proofs.YtkjgogdkdejljaaGreatDoor.AX
namespace Go.Proofs.YtkjgogdkdejljaaGreatDoor.Rx
open Go Go.Proofs Go.RowKit
attribute [local go_sem] Oper.semAt_some
def FY:List (Nat×Bool):=[(0,false),(1,false),(2,false),(3,false),(4,false),(5,false),(6,false),(7,true),(8,false),(9,true)]
set_option maxRecDepth 100000 in
set_option maxHeartbeats 4000000 in
theorem Lh(NB n i c cr:Nat)(bs:Nat→Nat)(B off:Nat)(ev:Value)(nx:List (List Bool))(es:List En)(x:Nd)(hn:n≤1000)(hi:i<n)(hx:gH i x)(hk2:x.k=2)(hes:es.length=i)(_hwf:∀ (j:Nat) y,es[j]?=some y→nZ n (i+1) y)(w0 w:World)(hN:NAt w NB n (i+1) bs nx)(hE:EAt w ev n (i+1) bs es)
  (hB:B<w0.heap.size) (hX:XAt w0 B (off+i*6) x) (hlow:Below w0.heap.size w0 w) (Zo:∀ j,j<i+1→w0.heap.size≤bs j) :
  Calls Tryz.prog 124 #[.agg #[.slice (some ⟨B,off,none⟩) n cr,ev, .slice (some ⟨NB,0,none⟩) n c], .int .i64 i] w fun e w' =>
   CY w w' n (bT n es nx i x).2 e∧NAt w' NB n (i+1) bs (bT n es nx i x).1∧eH (fun k=>∃ j,j<i+1∧k=bs j) w w':=by
 have HK:=Lib.hid hk2
 clear hk2
 have HX:=Lib.hid hx
 clear hx
 obtain⟨s,hs⟩:∃ s,s=w.heap.size:=⟨_,rfl⟩
 have hNl:=hN.lt
 have hbb:=fun j (hj:j<i+1)=>hN.blt hi hj
 have hi0:(0:Int)≤(i:Int):=by omega
 have hi1:(i:Int)<(n:Int):=by omega
 have hB0:Below w.heap.size w (((w.alloc (.cells #[.slice (some ⟨B,off,none⟩) n cr,ev, .slice (some ⟨NB,0,none⟩) n c] 202)).alloc (.cells #[.bool false, .slice none 0 0, .slice none 0 0] 205)).alloc (.cells #[.int .i64 0, .int .u64 0, .int .u64 0, .int .u64 0, .int .u64 0, .slice none 0 0] 153)):=(((Below.refl _ w).alloc Nat.le.refl _).alloc (by simp) _).alloc (by simp<;>omega) _
 have x2:=((Bx.new w 202 #[.slice (some ⟨B,off,none⟩) n cr,ev, .slice (some ⟨NB,0,none⟩) n c]).alloc (.cells #[.bool false, .slice none 0 0, .slice none 0 0] 205)).alloc (.cells #[.int .i64 0, .int .u64 0, .int .u64 0, .int .u64 0, .int .u64 0, .slice none 0 0] 153)
 have x4:=(Bx.new (w.alloc (.cells #[.slice (some ⟨B,off,none⟩) n cr,ev, .slice (some ⟨NB,0,none⟩) n c] 202)) 205 #[.bool false, .slice none 0 0, .slice none 0 0]).alloc (.cells #[.int .i64 0, .int .u64 0, .int .u64 0, .int .u64 0, .int .u64 0, .slice none 0 0] 153)
 have x5:=Bx.new ((w.alloc (.cells #[.slice (some ⟨B,off,none⟩) n cr,ev, .slice (some ⟨NB,0,none⟩) n c] 202)).alloc (.cells #[.bool false, .slice none 0 0, .slice none 0 0] 205)) 153 #[.int .i64 0, .int .u64 0, .int .u64 0, .int .u64 0, .int .u64 0, .slice none 0 0]
 simp only[World.size_alloc] at x4 x5
 obtain⟨k0,k1,k2,k3,k4,kv,k5,hIR⟩:=hX
 have hIR:=hIR.old
 obtain⟨lk,ck,rfl,hK1,hK2⟩:=hIR
 have hBw:B<w.heap.size:=Nat.lt_of_lt_of_le hB hlow.size
 replace k0:=(hlow.cell (p:=⟨B,off+i*6,none⟩) hB).trans k0
 replace k1:=(hlow.cell (p:=⟨B,off+i*6+1,none⟩) hB).trans k1
 replace k2:=(hlow.cell (p:=⟨B,off+i*6+2,none⟩) hB).trans k2
 replace k3:=(hlow.cell (p:=⟨B,off+i*6+3,none⟩) hB).trans k3
 replace k4:=(hlow.cell (p:=⟨B,off+i*6+4,none⟩) hB).trans k4
 replace k5:=(hlow.cell (p:=⟨B,off+i*6+5,none⟩) hB).trans k5
 have hs5:=x5.lt
 go_enter Tryz.func124,Tryz.ntmps124
 go_wp2_with ((with_reducible refine bC ?_);refine AX.au (vs:=[.int .i64 x.k, .int .u64 x.a, .int .u64 x.b, .int .u64 x.c, .int .u64 x.d, .slice lk x.kids.length ck]) rfl rfl RJ x5 rfl rfl ?_;rintro W1 h3 h4 h5)
 have y5:Bx W1 (w.heap.size+1+1) 153 #[.int .i64 x.k, .int .u64 x.a, .int .u64 x.b, .int .u64 x.c, .int .u64 x.d, .slice lk x.kids.length ck]:=h3
 have y2:Bx W1 w.heap.size 202 #[.slice (some ⟨B,off,none⟩) n cr,ev, .slice (some ⟨NB,0,none⟩) n c]:=(h4 _ (by omega)).trans x2
 have y4:Bx W1 (w.heap.size+1) 205 #[.bool false, .slice none 0 0, .slice none 0 0]:=(h4 _ (by omega)).trans x4
 have hb2:Below w.heap.size w W1:=hB0.trans (AX.aj (by omega) (.inl (Array.getElem?_eq_some_iff.1 h3).1) h4 h5)
 clear h3 h4 h5 x2 x4 x5 hB0 hs5
 have hN1:=hN.below hb2 (hs ▸ hNl) (fun j hj=>hbb j hj)
 have hEw:=hE
 have hws:=hlow.size
 clear hBw
 have hs1:w.heap.size+3≤W1.heap.size:=by have:=y5.lt;omega
 rw[←hs] at hNl hbb y2 y4 y5 hb2 hs1 hws ⊢
 have jU:∀ m q,x.kids[m]?=some q→∃ B2 off2,lk=some ⟨B2,off2,none⟩∧B2<w0.heap.size∧w0.cell? ⟨B2,off2+m,none⟩=some (.int .i64 q):=by
  intro m q hq
  cases lk with
  | none=>have:=hK1 rfl;rw[this] at hq;simp at hq
  | some ad =>
   obtain⟨B2,off2,rfl,hB2,hKc⟩:=hK2 _ rfl (by intro e;rw[e] at hq;simp at hq)
   exact⟨B2,off2,rfl,hB2,hKc m q hq⟩
 have HS:=Lib.hid hs
 clear hs hN hE k0 k1 k2 k3 k4 k5 hK1 hK2
 obtain⟨e0,he0⟩:∃ e0,e0=(decide (x.k=1) || decide (x.k=3)):=⟨_,rfl⟩
 have HE0:=Lib.hid he0
 clear he0
 go_cut [6] from 16 to 32 (fun t6 wz=>∃ X F L:Nat,t6 = .pointer (some ⟨X,0,none⟩)∧Bx wz X 205 #[.bool e0, .slice (some ⟨F,0,none⟩) n n, .slice (some ⟨L,0,none⟩) n n]∧aH wz F (zeros n)∧aH wz L (zeros n)∧W1.heap.size≤F∧W1.heap.size≤L∧W1.heap.size≤X∧F≠L∧X≠F∧X≠L∧Below W1.heap.size W1 wz)
 case first =>
  have c5:=fun p=>AX.aD (show W1.cell? ⟨s+1+1,0,none⟩=some (.int .i64 x.k) from y5.cell 0) y5.lt p
  have c2:=fun p=>AX.aD (show W1.cell? ⟨s,0,none⟩=some (.slice (some ⟨B,off,none⟩) n cr) from y2.cell 0) y2.lt p
  have hW:Below W1.heap.size W1 W1.drew:=(Below.refl _ W1).drew
  clear y2 y4 y5 hN1 hEw hb2 hbb jU HX
  have HKf:=HK
  clear HK
  have hk2:=HKf.out
  have he0:=HE0.out
  rw[hk2] at he0
  clear HE0 HKf
  generalize x.k=kk at *
  obtain rfl:=hk2
  obtain rfl:e0=false:=he0.trans rfl
  clear he0
  all_goals
   refine AX.fK (C:=fun W=>∃ p:AX.BW W1,W=p.W) kC _ (by kernel_rfl) (by kernel_rfl) rfl (by kernel_rfl) (by intro c a d v w h;cases d<;>exact h) ⟨⟨W1.drew,hW⟩,rfl⟩ ?_
   unfold kC
   generalize W1.drew=Wd at *
   repeat (refine AX.aA _ (by rfl) ?_;go_big_quiet_step (fail);refine wpQuiet_nil ?_)
   refine⟨?_,?_,?_⟩
   ·obtain⟨W2,hm2,rF,hb2,hz2⟩:=aZ n hn Wd
    refine AX.ay _ (by rfl) (by rfl) ?_
    refine aL rfl rfl hm2 ?_
    have sF:=hW.size
    obtain⟨F,hF⟩:∃ F,F=Wd.heap.size:=⟨_,rfl⟩
    have hW2:Below W1.heap.size W1 W2:=hW.trans (hb2.mono hW.size)
    rw[←hF] at rF ⊢
    have hF1:=Nat.le_of_eq hF
    have hF2:=Nat.le_of_eq hF.symm
    clear hF hz2 hm2
    refine⟨⟨⟨W2,hW2⟩,rfl⟩,?_⟩
    simp only[Act.put,List.setIfInBounds_toArray,List.set_cons_succ,List.set_cons_zero]
    refine⟨?_,?_⟩
    ·obtain⟨W3,hm3,rL,hb3,hz3⟩:=aZ n hn W2
     refine AX.ay _ (by rfl) (by rfl) ?_
     refine aL rfl rfl hm3 ?_
     have sL:=hW2.size
     have qF3:=rF.lt
     replace rF:=rF.below hb3 rF.lt
     obtain⟨L,hL⟩:∃ L,L=W2.heap.size:=⟨_,rfl⟩
     have hW3:Below W1.heap.size W1 W3:=hW2.trans (hb3.mono hW2.size)
     rw[←hL] at rL ⊢
     have hL1:=Nat.le_of_eq hL
     have hL2:=Nat.le_of_eq hL.symm
     clear hL hz3 hm3
     refine⟨⟨⟨W3,hW3⟩,rfl⟩,?_⟩
     simp only[Act.put,List.setIfInBounds_toArray,List.set_cons_succ,List.set_cons_zero]
     refine AX.aA _ (by rfl) ?_;go_big_quiet_step (fail);refine wpQuiet_nil ?_
     refine AX.ay _ (by rfl) (by rfl) ?_
     unfold Oper.wp
     go_simp
     have rX:=Bx.new W3 205 #[.bool false, .slice none 0 0, .slice none 0 0]
     have hb4:Below W3.heap.size W3 (W3.alloc (.cells #[.bool false, .slice none 0 0, .slice none 0 0] 205)):=(Below.refl _ _).alloc Nat.le.refl _
     have sX:=hW3.size
     have qF4:=rF.lt
     replace rF:=rF.below hb4 rF.lt
     have qL4:=rL.lt
     replace rL:=rL.below hb4 rL.lt
     obtain⟨X,hX⟩:∃ X,X=W3.heap.size:=⟨_,rfl⟩
     generalize W3.alloc (.cells #[.bool false, .slice none 0 0, .slice none 0 0] 205)=W4 at *
     have hW4:Below W1.heap.size W1 W4:=hW3.trans (hb4.mono hW3.size)
     rw[←hX] at rX ⊢
     have hX1:=Nat.le_of_eq hX
     have hX2:=Nat.le_of_eq hX.symm
     clear hX
     refine⟨⟨⟨W4,hW4⟩,rfl⟩,?_⟩
     refine AX.ay _ (by rfl) (by rfl) ?_
     refine AX.aF (vs:=[.bool _, .slice (some ⟨F,0,none⟩) n n, .slice (some ⟨L,0,none⟩) n n]) rfl rfl gI rX rfl rfl ?_
     rintro W9 h3 h4 h5
     have qF:=rF.lt
     have qL:=rL.lt
     have qX:=rX.lt
     have hW9:Below W1.heap.size W1 W9:=hW4.trans (AX.aj (show W1.heap.size≤X by omega) (.inl (Array.getElem?_eq_some_iff.1 h3).1) h4 h5)
     refine⟨⟨⟨W9,hW9⟩,rfl⟩,?_⟩
     unfold AX.aQ
     go_wp2_with fail
     go_meet
     case rel=>exact⟨X,F,L,rfl,(by first | exact h3 | (rw[beq_eq_false_iff_ne.2 hk3] at h3;exact h3)),rF.same (h4 _ (by omega)),rL.same (h4 _ (by omega)),by omega,by omega,by omega,by omega,by omega,by omega,hW9⟩
    ·refine AX.ay _ (by rfl) (by rfl) ?_
     unfold Oper.wp
     go_simp
     have rX:=Bx.new W2 205 #[.bool false, .slice none 0 0, .slice none 0 0]
     have hb3:Below W2.heap.size W2 (W2.alloc (.cells #[.bool false, .slice none 0 0, .slice none 0 0] 205)):=(Below.refl _ _).alloc Nat.le.refl _
     have sX:=hW2.size
     have qF3:=rF.lt
     replace rF:=rF.below hb3 rF.lt
     obtain⟨X,hX⟩:∃ X,X=W2.heap.size:=⟨_,rfl⟩
     generalize W2.alloc (.cells #[.bool false, .slice none 0 0, .slice none 0 0] 205)=W3 at *
     have hW3:Below W1.heap.size W1 W3:=hW2.trans (hb3.mono hW2.size)
     rw[←hX] at rX ⊢
     have hX1:=Nat.le_of_eq hX
     have hX2:=Nat.le_of_eq hX.symm
     clear hX
     refine⟨⟨⟨W3,hW3⟩,rfl⟩,?_⟩
     obtain⟨W4,hm4,rL,hb4,hz4⟩:=aZ n hn W3
     refine AX.ay _ (by rfl) (by rfl) ?_
     refine aL rfl rfl hm4 ?_
     have sL:=hW3.size
     have qF4:=rF.lt
     replace rF:=rF.below hb4 rF.lt
     have qX4:=rX.lt
     replace rX:=rX.below hb4 rX.lt
     obtain⟨L,hL⟩:∃ L,L=W3.heap.size:=⟨_,rfl⟩
     have hW4:Below W1.heap.size W1 W4:=hW3.trans (hb4.mono hW3.size)
     rw[←hL] at rL ⊢
     have hL1:=Nat.le_of_eq hL
     have hL2:=Nat.le_of_eq hL.symm
     clear hL hz4 hm4
     refine⟨⟨⟨W4,hW4⟩,rfl⟩,?_⟩
     simp only[Act.put,List.setIfInBounds_toArray,List.set_cons_succ,List.set_cons_zero]
     refine AX.aA _ (by rfl) ?_;go_big_quiet_step (fail);refine wpQuiet_nil ?_
     refine AX.ay _ (by rfl) (by rfl) ?_
     refine AX.aF (vs:=[.bool _, .slice (some ⟨F,0,none⟩) n n, .slice (some ⟨L,0,none⟩) n n]) rfl rfl gI rX rfl rfl ?_
     rintro W9 h3 h4 h5
     have qF:=rF.lt
     have qL:=rL.lt
     have qX:=rX.lt
     have hW9:Below W1.heap.size W1 W9:=hW4.trans (AX.aj (show W1.heap.size≤X by omega) (.inl (Array.getElem?_eq_some_iff.1 h3).1) h4 h5)
     refine⟨⟨⟨W9,hW9⟩,rfl⟩,?_⟩
     unfold AX.aQ
     go_wp2_with fail
     go_meet
     case rel=>exact⟨X,F,L,rfl,(by first | exact h3 | (rw[beq_eq_false_iff_ne.2 hk3] at h3;exact h3)),rF.same (h4 _ (by omega)),rL.same (h4 _ (by omega)),by omega,by omega,by omega,by omega,by omega,by omega,hW9⟩
   ·obtain⟨W2,hm2,rL,hb2,hz2⟩:=aZ n hn Wd
    refine AX.ay _ (by rfl) (by rfl) ?_
    refine aL rfl rfl hm2 ?_
    have sL:=hW.size
    obtain⟨L,hL⟩:∃ L,L=Wd.heap.size:=⟨_,rfl⟩
    have hW2:Below W1.heap.size W1 W2:=hW.trans (hb2.mono hW.size)
    rw[←hL] at rL ⊢
    have hL1:=Nat.le_of_eq hL
    have hL2:=Nat.le_of_eq hL.symm
    clear hL hz2 hm2
    refine⟨⟨⟨W2,hW2⟩,rfl⟩,?_⟩
    simp only[Act.put,List.setIfInBounds_toArray,List.set_cons_succ,List.set_cons_zero]
    refine⟨?_,?_⟩
    ·obtain⟨W3,hm3,rF,hb3,hz3⟩:=aZ n hn W2
     refine AX.ay _ (by rfl) (by rfl) ?_
     refine aL rfl rfl hm3 ?_
     have sF:=hW2.size
     have qL3:=rL.lt
     replace rL:=rL.below hb3 rL.lt
     obtain⟨F,hF⟩:∃ F,F=W2.heap.size:=⟨_,rfl⟩
     have hW3:Below W1.heap.size W1 W3:=hW2.trans (hb3.mono hW2.size)
     rw[←hF] at rF ⊢
     have hF1:=Nat.le_of_eq hF
     have hF2:=Nat.le_of_eq hF.symm
     clear hF hz3 hm3
     refine⟨⟨⟨W3,hW3⟩,rfl⟩,?_⟩
     simp only[Act.put,List.setIfInBounds_toArray,List.set_cons_succ,List.set_cons_zero]
     refine AX.aA _ (by rfl) ?_;go_big_quiet_step (fail);refine wpQuiet_nil ?_
     refine AX.ay _ (by rfl) (by rfl) ?_
     unfold Oper.wp
     go_simp
     have rX:=Bx.new W3 205 #[.bool false, .slice none 0 0, .slice none 0 0]
     have hb4:Below W3.heap.size W3 (W3.alloc (.cells #[.bool false, .slice none 0 0, .slice none 0 0] 205)):=(Below.refl _ _).alloc Nat.le.refl _
     have sX:=hW3.size
     have qL4:=rL.lt
     replace rL:=rL.below hb4 rL.lt
     have qF4:=rF.lt
     replace rF:=rF.below hb4 rF.lt
     obtain⟨X,hX⟩:∃ X,X=W3.heap.size:=⟨_,rfl⟩
     generalize W3.alloc (.cells #[.bool false, .slice none 0 0, .slice none 0 0] 205)=W4 at *
     have hW4:Below W1.heap.size W1 W4:=hW3.trans (hb4.mono hW3.size)
     rw[←hX] at rX ⊢
     have hX1:=Nat.le_of_eq hX
     have hX2:=Nat.le_of_eq hX.symm
     clear hX
     refine⟨⟨⟨W4,hW4⟩,rfl⟩,?_⟩
     refine AX.ay _ (by rfl) (by rfl) ?_
     refine AX.aF (vs:=[.bool _, .slice (some ⟨F,0,none⟩) n n, .slice (some ⟨L,0,none⟩) n n]) rfl rfl gI rX rfl rfl ?_
     rintro W9 h3 h4 h5
     have qF:=rF.lt
     have qL:=rL.lt
     have qX:=rX.lt
     have hW9:Below W1.heap.size W1 W9:=hW4.trans (AX.aj (show W1.heap.size≤X by omega) (.inl (Array.getElem?_eq_some_iff.1 h3).1) h4 h5)
     refine⟨⟨⟨W9,hW9⟩,rfl⟩,?_⟩
     unfold AX.aQ
     go_wp2_with fail
     go_meet
     case rel=>exact⟨X,F,L,rfl,(by first | exact h3 | (rw[beq_eq_false_iff_ne.2 hk3] at h3;exact h3)),rF.same (h4 _ (by omega)),rL.same (h4 _ (by omega)),by omega,by omega,by omega,by omega,by omega,by omega,hW9⟩
    ·refine AX.ay _ (by rfl) (by rfl) ?_
     unfold Oper.wp
     go_simp
     have rX:=Bx.new W2 205 #[.bool false, .slice none 0 0, .slice none 0 0]
     have hb3:Below W2.heap.size W2 (W2.alloc (.cells #[.bool false, .slice none 0 0, .slice none 0 0] 205)):=(Below.refl _ _).alloc Nat.le.refl _
     have sX:=hW2.size
     have qL3:=rL.lt
     replace rL:=rL.below hb3 rL.lt
     obtain⟨X,hX⟩:∃ X,X=W2.heap.size:=⟨_,rfl⟩
     generalize W2.alloc (.cells #[.bool false, .slice none 0 0, .slice none 0 0] 205)=W3 at *
     have hW3:Below W1.heap.size W1 W3:=hW2.trans (hb3.mono hW2.size)
     rw[←hX] at rX ⊢
     have hX1:=Nat.le_of_eq hX
     have hX2:=Nat.le_of_eq hX.symm
     clear hX
     refine⟨⟨⟨W3,hW3⟩,rfl⟩,?_⟩
     obtain⟨W4,hm4,rF,hb4,hz4⟩:=aZ n hn W3
     refine AX.ay _ (by rfl) (by rfl) ?_
     refine aL rfl rfl hm4 ?_
     have sF:=hW3.size
     have qL4:=rL.lt
     replace rL:=rL.below hb4 rL.lt
     have qX4:=rX.lt
     replace rX:=rX.below hb4 rX.lt
     obtain⟨F,hF⟩:∃ F,F=W3.heap.size:=⟨_,rfl⟩
     have hW4:Below W1.heap.size W1 W4:=hW3.trans (hb4.mono hW3.size)
     rw[←hF] at rF ⊢
     have hF1:=Nat.le_of_eq hF
     have hF2:=Nat.le_of_eq hF.symm
     clear hF hz4 hm4
     refine⟨⟨⟨W4,hW4⟩,rfl⟩,?_⟩
     simp only[Act.put,List.setIfInBounds_toArray,List.set_cons_succ,List.set_cons_zero]
     refine AX.aA _ (by rfl) ?_;go_big_quiet_step (fail);refine wpQuiet_nil ?_
     refine AX.ay _ (by rfl) (by rfl) ?_
     refine AX.aF (vs:=[.bool _, .slice (some ⟨F,0,none⟩) n n, .slice (some ⟨L,0,none⟩) n n]) rfl rfl gI rX rfl rfl ?_
     rintro W9 h3 h4 h5
     have qF:=rF.lt
     have qL:=rL.lt
     have qX:=rX.lt
     have hW9:Below W1.heap.size W1 W9:=hW4.trans (AX.aj (show W1.heap.size≤X by omega) (.inl (Array.getElem?_eq_some_iff.1 h3).1) h4 h5)
     refine⟨⟨⟨W9,hW9⟩,rfl⟩,?_⟩
     unfold AX.aQ
     go_wp2_with fail
     go_meet
     case rel=>exact⟨X,F,L,rfl,(by first | exact h3 | (rw[beq_eq_false_iff_ne.2 hk3] at h3;exact h3)),rF.same (h4 _ (by omega)),rL.same (h4 _ (by omega)),by omega,by omega,by omega,by omega,by omega,by omega,hW9⟩
   ·refine AX.ay _ (by rfl) (by rfl) ?_
    unfold Oper.wp
    go_simp
    have rX:=Bx.new Wd 205 #[.bool false, .slice none 0 0, .slice none 0 0]
    have hb2:Below Wd.heap.size Wd (Wd.alloc (.cells #[.bool false, .slice none 0 0, .slice none 0 0] 205)):=(Below.refl _ _).alloc Nat.le.refl _
    have sX:=hW.size
    obtain⟨X,hX⟩:∃ X,X=Wd.heap.size:=⟨_,rfl⟩
    generalize Wd.alloc (.cells #[.bool false, .slice none 0 0, .slice none 0 0] 205)=W2 at *
    have hW2:Below W1.heap.size W1 W2:=hW.trans (hb2.mono hW.size)
    rw[←hX] at rX ⊢
    have hX1:=Nat.le_of_eq hX
    have hX2:=Nat.le_of_eq hX.symm
    clear hX
    refine⟨⟨⟨W2,hW2⟩,rfl⟩,?_⟩
    refine⟨?_,?_⟩
    ·obtain⟨W3,hm3,rF,hb3,hz3⟩:=aZ n hn W2
     refine AX.ay _ (by rfl) (by rfl) ?_
     refine aL rfl rfl hm3 ?_
     have sF:=hW2.size
     have qX3:=rX.lt
     replace rX:=rX.below hb3 rX.lt
     obtain⟨F,hF⟩:∃ F,F=W2.heap.size:=⟨_,rfl⟩
     have hW3:Below W1.heap.size W1 W3:=hW2.trans (hb3.mono hW2.size)
     rw[←hF] at rF ⊢
     have hF1:=Nat.le_of_eq hF
     have hF2:=Nat.le_of_eq hF.symm
     clear hF hz3 hm3
     refine⟨⟨⟨W3,hW3⟩,rfl⟩,?_⟩
     simp only[Act.put,List.setIfInBounds_toArray,List.set_cons_succ,List.set_cons_zero]
     obtain⟨W4,hm4,rL,hb4,hz4⟩:=aZ n hn W3
     refine AX.ay _ (by rfl) (by rfl) ?_
     refine aL rfl rfl hm4 ?_
     have sL:=hW3.size
     have qX4:=rX.lt
     replace rX:=rX.below hb4 rX.lt
     have qF4:=rF.lt
     replace rF:=rF.below hb4 rF.lt
     obtain⟨L,hL⟩:∃ L,L=W3.heap.size:=⟨_,rfl⟩
     have hW4:Below W1.heap.size W1 W4:=hW3.trans (hb4.mono hW3.size)
     rw[←hL] at rL ⊢
     have hL1:=Nat.le_of_eq hL
     have hL2:=Nat.le_of_eq hL.symm
     clear hL hz4 hm4
     refine⟨⟨⟨W4,hW4⟩,rfl⟩,?_⟩
     simp only[Act.put,List.setIfInBounds_toArray,List.set_cons_succ,List.set_cons_zero]
     refine AX.aA _ (by rfl) ?_;go_big_quiet_step (fail);refine wpQuiet_nil ?_
     refine AX.ay _ (by rfl) (by rfl) ?_
     refine AX.aF (vs:=[.bool _, .slice (some ⟨F,0,none⟩) n n, .slice (some ⟨L,0,none⟩) n n]) rfl rfl gI rX rfl rfl ?_
     rintro W9 h3 h4 h5
     have qF:=rF.lt
     have qL:=rL.lt
     have qX:=rX.lt
     have hW9:Below W1.heap.size W1 W9:=hW4.trans (AX.aj (show W1.heap.size≤X by omega) (.inl (Array.getElem?_eq_some_iff.1 h3).1) h4 h5)
     refine⟨⟨⟨W9,hW9⟩,rfl⟩,?_⟩
     unfold AX.aQ
     go_wp2_with fail
     go_meet
     case rel=>exact⟨X,F,L,rfl,(by first | exact h3 | (rw[beq_eq_false_iff_ne.2 hk3] at h3;exact h3)),rF.same (h4 _ (by omega)),rL.same (h4 _ (by omega)),by omega,by omega,by omega,by omega,by omega,by omega,hW9⟩
    ·obtain⟨W3,hm3,rL,hb3,hz3⟩:=aZ n hn W2
     refine AX.ay _ (by rfl) (by rfl) ?_
     refine aL rfl rfl hm3 ?_
     have sL:=hW2.size
     have qX3:=rX.lt
     replace rX:=rX.below hb3 rX.lt
     obtain⟨L,hL⟩:∃ L,L=W2.heap.size:=⟨_,rfl⟩
     have hW3:Below W1.heap.size W1 W3:=hW2.trans (hb3.mono hW2.size)
     rw[←hL] at rL ⊢
     have hL1:=Nat.le_of_eq hL
     have hL2:=Nat.le_of_eq hL.symm
     clear hL hz3 hm3
     refine⟨⟨⟨W3,hW3⟩,rfl⟩,?_⟩
     simp only[Act.put,List.setIfInBounds_toArray,List.set_cons_succ,List.set_cons_zero]
     obtain⟨W4,hm4,rF,hb4,hz4⟩:=aZ n hn W3
     refine AX.ay _ (by rfl) (by rfl) ?_
     refine aL rfl rfl hm4 ?_
     have sF:=hW3.size
     have qX4:=rX.lt
     replace rX:=rX.below hb4 rX.lt
     have qL4:=rL.lt
     replace rL:=rL.below hb4 rL.lt
     obtain⟨F,hF⟩:∃ F,F=W3.heap.size:=⟨_,rfl⟩
     have hW4:Below W1.heap.size W1 W4:=hW3.trans (hb4.mono hW3.size)
     rw[←hF] at rF ⊢
     have hF1:=Nat.le_of_eq hF
     have hF2:=Nat.le_of_eq hF.symm
     clear hF hz4 hm4
     refine⟨⟨⟨W4,hW4⟩,rfl⟩,?_⟩
     simp only[Act.put,List.setIfInBounds_toArray,List.set_cons_succ,List.set_cons_zero]
     refine AX.aA _ (by rfl) ?_;go_big_quiet_step (fail);refine wpQuiet_nil ?_
     refine AX.ay _ (by rfl) (by rfl) ?_
     refine AX.aF (vs:=[.bool _, .slice (some ⟨F,0,none⟩) n n, .slice (some ⟨L,0,none⟩) n n]) rfl rfl gI rX rfl rfl ?_
     rintro W9 h3 h4 h5
     have qF:=rF.lt
     have qL:=rL.lt
     have qX:=rX.lt
     have hW9:Below W1.heap.size W1 W9:=hW4.trans (AX.aj (show W1.heap.size≤X by omega) (.inl (Array.getElem?_eq_some_iff.1 h3).1) h4 h5)
     refine⟨⟨⟨W9,hW9⟩,rfl⟩,?_⟩
     unfold AX.aQ
     go_wp2_with fail
     go_meet
     case rel=>exact⟨X,F,L,rfl,(by first | exact h3 | (rw[beq_eq_false_iff_ne.2 hk3] at h3;exact h3)),rF.same (h4 _ (by omega)),rL.same (h4 _ (by omega)),by omega,by omega,by omega,by omega,by omega,by omega,hW9⟩
 case rest =>
  obtain⟨X,F,L,rfl,hX,hF,hL,hgF,hgL,hgX,hFL,hXF,hXL,hz⟩:=hcut
  have hk2:=HK.out
  rw[hk2] at y5
  rw[HE0.out,hk2] at hX
  have HV:Hid (bT n es nx i x=(nx,⟨false,(zeros n).set i true,(zeros n).set i true⟩)):=Lib.hid (by unfold bT;rw[if_pos hk2])
  simp only[show(decide ((2:Int)=1) || decide ((2:Int)=3))=false from rfl] at hX
  clear hk2 HK HE0 HX
  have z5:=y5.below hz y5.lt
  have z4:=y4.below hz y4.lt
  have hz2:Below s w wc:=hb2.trans (hz.mono (by omega))
  have hN2:=hN1.below hz hN1.lt (fun j hj=>hN1.blt hi hj)
  have kc:wc.cell? ⟨s+1+1,0,none⟩=some (.int .i64 2):=z5.cell 0
  clear y2 y4 y5 hN1 hEw jU
  have hFi:i<(zeros n).length:=by simp[zeros];exact hi
  have f0:=hF.at i false (by simp[zeros,hi])
  have ff:=hF.frozen i
  have l0:=hL.at i false (by simp[zeros,hi])
  have lf:=hL.frozen i
  go_wp2_with fail
  obtain⟨C,hCi,hCo⟩:∃ C:World→Prop,(∀ W,C W→Bx W X 205 #[.bool false, .slice (some ⟨F,0,none⟩) n n, .slice (some ⟨L,0,none⟩) n n])∧(∀ W,Bx W X 205 #[.bool false, .slice (some ⟨F,0,none⟩) n n, .slice (some ⟨L,0,none⟩) n n]→C W):=⟨_,fun _ h=>h,fun _ h=>h⟩
  have hW0:C wc.drew:=hCo _ hX
  haveI:Inhabited (AX.CW C):=⟨⟨_,hW0⟩⟩
  have c1:=fun p:AX.CW C=>(hCi _ p.h).three.2.1
  have c2:=fun p:AX.CW C=>(hCi _ p.h).three.2.2
  have HC:=Lib.hid hCo
  clear hCo hCi
  refine AX.eB (C:=fun W=>∃ p:AX.CW C,W=p.W) FY _ (by kernel_rfl) (by kernel_rfl) rfl (by kernel_rfl) (by kernel_rfl) (by intro c a d v w h;cases d<;>exact h) ⟨⟨_,hW0⟩,rfl⟩ ?_
  unfold FY
  have hX':Bx wc.drew X 205 #[.bool false, .slice (some ⟨F,0,none⟩) n n, .slice (some ⟨L,0,none⟩) n n]:=hX
  have hF':aH wc.drew F (zeros n):=hF
  have hL':aH wc.drew L (zeros n):=hL
  have z4':Bx wc.drew (s+1) 205 #[.bool false, .slice none 0 0, .slice none 0 0]:=z4
  have f0':wc.drew.cell? ⟨F,i,none⟩=some (.bool false):=f0
  have ff':wc.drew.frozen? ⟨F,i,none⟩=false:=ff
  have hz3:Below s w wc.drew:=hz2.drew
  have hN3:NAt wc.drew NB n (i+1) bs nx:=hN2.same rfl (fun _ _=>rfl)
  clear hX hF hL z4 f0 ff hz2 hN2 l0 lf z5 kc hz
  generalize wc.drew=Wd at *
  repeat (refine AX.bQ _ (by rfl) ?_;go_big_quiet_step (fail);refine wpQuiet_nil ?_)
  refine AX.jo _ (by rfl) (by rfl) ?_
  unfold Oper.wp
  go_simp
  have hF2:=hF'.set i true
  have hX2:Bx (Wd.setCell ⟨F,i,none⟩ (.bool true)) X 205 #[.bool false, .slice (some ⟨F,0,none⟩) n n, .slice (some ⟨L,0,none⟩) n n]:=hX'.other hXF
  have hL2:aH (Wd.setCell ⟨F,i,none⟩ (.bool true)) L (zeros n):=hL'.other (by omega)
  have z42:Bx (Wd.setCell ⟨F,i,none⟩ (.bool true)) (s+1) 205 #[.bool false, .slice none 0 0, .slice none 0 0]:=z4'.other (by omega)
  have hz4:=hz3.setCell (p:=⟨F,i,none⟩) (by simp;omega) (.bool true)
  have hN4:NAt (Wd.setCell ⟨F,i,none⟩ (.bool true)) NB n (i+1) bs nx:=hN3.same (Below.heap_setCell _ _ _ _ (show NB≠F by omega)) (fun j hj=>Below.heap_setCell _ _ _ _ (show bs j≠F by have:=hbb j hj;omega))
  clear hX' hF' hL' z4' f0' ff' hz3 hN3
  generalize Wd.setCell ⟨F,i,none⟩ (.bool true)=We at *
  refine⟨⟨⟨_,HC.out _ hX2⟩,rfl⟩,?_⟩
  have l0:=hL2.at i false (by simp[zeros,hi])
  have lf:=hL2.frozen i
  refine AX.bQ _ (by rfl) ?_;go_big_quiet_step (fail);refine wpQuiet_nil ?_
  refine AX.jo _ (by rfl) (by rfl) ?_
  unfold Oper.wp
  go_simp
  have hL3:=hL2.set i true
  have hX3:Bx (We.setCell ⟨L,i,none⟩ (.bool true)) X 205 #[.bool false, .slice (some ⟨F,0,none⟩) n n, .slice (some ⟨L,0,none⟩) n n]:=hX2.other hXL
  have hF3:aH (We.setCell ⟨L,i,none⟩ (.bool true)) F ((zeros n).set i true):=hF2.other (by omega)
  have z43:Bx (We.setCell ⟨L,i,none⟩ (.bool true)) (s+1) 205 #[.bool false, .slice none 0 0, .slice none 0 0]:=z42.other (by omega)
  have hz5:=hz4.setCell (p:=⟨L,i,none⟩) (by simp;omega) (.bool true)
  have hN5:NAt (We.setCell ⟨L,i,none⟩ (.bool true)) NB n (i+1) bs nx:=hN4.same (Below.heap_setCell _ _ _ _ (show NB≠L by omega)) (fun j hj=>Below.heap_setCell _ _ _ _ (show bs j≠L by have:=hbb j hj;omega))
  clear hX2 hF2 hL2 z42 l0 lf hz4 hN4
  generalize We.setCell ⟨L,i,none⟩ (.bool true)=Wf at *
  refine⟨⟨⟨_,HC.out _ hX3⟩,rfl⟩,?_⟩
  unfold AX.eu
  obtain⟨x0,x1,x2⟩:=hX3.three
  clear c1 c2
  go_wp2_with ((with_reducible refine bC ?_);refine AX.au (vs:=[.bool false, .slice (some ⟨F,0,none⟩) n n, .slice (some ⟨L,0,none⟩) n n]) rfl rfl gI z43 rfl rfl ?_;rintro W9 h3 h4 h5;have hz9:=hz5.trans (AX.aj (show s≤s+1 by omega) (.inl (Array.getElem?_eq_some_iff.1 h3).1) h4 h5);have hF9:=hF3.same (h4 _ (by omega));have hL9:=hL3.same (h4 _ (by omega));have hN9:NAt W9 NB n (i+1) bs nx:=hN5.same (h4 _ (by omega)) (fun j hj=>h4 _ (by have:=hbb j hj;omega));obtain⟨d0,d1,d2⟩:=Bx.three h3)
  have HSO:=HS.out
  refine bodyPost_ret (v := .agg #[.bool false, .slice (some ⟨F,0,none⟩) n n, .slice (some ⟨L,0,none⟩) n n]) (by simp[results,Tryz.results124,go_sem,d0,d1,d2]) rfl (by rw[HV.out];exact⟨⟨F,n,L,n,rfl,by omega,by omega,hFL,hF9,hL9⟩,hN9,eH.of_below (HS.out ▸ hz9)⟩)
end Go.Proofs.YtkjgogdkdejljaaGreatDoor.Rx
