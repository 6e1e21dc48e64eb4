import Derived.Test.YtkjgogdkdejljaaGreatDoorRxW7
namespace Go.Proofs.YtkjgogdkdejljaaGreatDoor.Rx
open Go Go.Proofs Go.RowKit
attribute [local go_sem] Oper.semAt_some
structure rJ(n M:Nat)(x:En):Prop where
 lf:x.f.length=n
 ll:x.l.length=n
 lm:∀ p,mem x.l p→p<M
theorem UO{n M:Nat}{a b:En}(ha:rJ n M a)(hb:rJ n M b):rJ n M (Af a b):=by
 refine⟨?_,?_,?_⟩
 ·show(if a.e=true then orS a.f b.f else a.f).length=n
  split
  ·rw[iL (by rw[ha.lf,hb.lf]),ha.lf]
  ·exact ha.lf
 ·show(if b.e=true then orS b.l a.l else b.l).length=n
  split
  ·rw[iL (by rw[ha.ll,hb.ll]),hb.ll]
  ·exact hb.ll
 ·intro p hp
  change mem (if b.e=true then orS b.l a.l else b.l) p at hp;split at hp
  ·rw[jR (by rw[ha.ll,hb.ll])] at hp
   exact hp.elim (hb.lm p) (ha.lm p)
  ·exact hb.lm p hp
theorem KY{n M:Nat}{a b:En}(ha:rJ n M a)(hb:rJ n M b):rJ n M (JA a b) :=
 ⟨by show(orS a.f b.f).length=n;rw[iL (by rw[ha.lf,hb.lf]),ha.lf],by show(orS a.l b.l).length=n;rw[iL (by rw[ha.ll,hb.ll]),ha.ll],fun p hp=>by
  change mem (orS a.l b.l) p at hp;rw[jR (by rw[ha.ll,hb.ll])] at hp;exact hp.elim (ha.lm p) (hb.lm p)⟩
theorem KX(n M:Nat)(e:Bool):rJ n M ⟨e,zeros n,zeros n⟩:=⟨by simp[zeros],by simp[zeros],fun p hp=>(iy n p hp).elim⟩
def EAt(W:World)(ev:Value)(n M:Nat)(bs:Nat→Nat)(es:List En):Prop:=∃(la:Option Addr)(c:Nat),ev = .slice la es.length c∧∀ j x,es[j]?=some x→∃ B off F cf L cl,la=some ⟨B,off,none⟩∧B<W.heap.size∧(∀ i,i<M→bs i≠B) ∧
 (W.cell? ⟨B,off+j*3,none⟩=some (.bool x.e)∧W.cell? ⟨B,off+j*3+1,none⟩=some (.slice (some ⟨F,0,none⟩) n cf)∧W.cell? ⟨B,off+j*3+2,none⟩=some (.slice (some ⟨L,0,none⟩) n cl))∧aJ W F x.f∧aJ W L x.l∧(∀ i,i<M→bs i≠F∧bs i≠L)
theorem dh{W W':World}{B o:Nat}(h:W'.heap[B]?=W.heap[B]?):W'.cell? ⟨B,o,none⟩=W.cell? ⟨B,o,none⟩:=by simp[World.cell?,h]
theorem EAt.iQ{W W':World}{ev:Value}{n M:Nat}{bs:Nat→Nat}{es:List En}(h:EAt W ev n M bs es)(hb:fV (fun k=>∃ i,i<M∧k=bs i) W W'):EAt W' ev n M bs es:=by
 obtain⟨la,c,e,h⟩:=h;refine⟨la,c,e,fun j x hj=>?_⟩;obtain⟨B,off,F,cf,L,cl,h1,h2,h3,⟨h4,h5,h6⟩,h7,h8,h9⟩:=h j x hj;have e1:=hb.same B h2 (by rintro⟨i,hi,e⟩;exact h3 i hi e.symm);exact⟨B,off,F,cf,L,cl,h1,Nat.lt_of_lt_of_le h2 hb.low.size,h3,⟨(dh e1).trans h4,(dh e1).trans h5,(dh e1).trans h6⟩,h7.iQ hb (by rintro⟨i,hi,e⟩;exact(h9 i hi).1 e.symm),h8.iQ hb (by rintro⟨i,hi,e⟩;exact(h9 i hi).2 e.symm),h9⟩
theorem bF(n:Nat)(hn:n≤1000)(w:World):∃ W0,(Instr.makeSlice 203 (.int .i64 n) (.int .i64 n)).run Tryz.prog w = .ok (.slice (some ⟨w.heap.size,0,none⟩) n n) W0∧aJ W0 w.heap.size (zeros n)∧Below w.heap.size w W0∧W0.heap.size=w.heap.size+1:=by
 obtain⟨ti,hi,hz0,hz1,hz2⟩:=info_parts RI;have h:=run_makeSlice (P:=Tryz.prog) (w:=w) 203 4 ti (.bool false) Tryz.underlying203 hi hz0 .i64 .i64 (n:Int) (n:Int) (by omega) (Int.le_refl _) (by rw[hz1];simp;omega) (by rw[hz2];omega) (by omega);refine⟨_,by rw[Int.toNat_natCast] at h;exact h,⟨_,World.alloc_heap_new w _,fun i b hb=>?_⟩,(Below.refl _ w).alloc Nat.le.refl _,by simp⟩;have hi':=lt_of_some hb;rw[zeros,List.length_replicate] at hi'
 show(madeCells #[Value.bool false] (n*ti.size))[i]?=_
 rw[hz1,Nat.mul_one];have:=Ih (.bool false) n i hi';rw[zeros,List.getElem?_replicate,if_pos hi'] at hb;rw[←Option.some.inj hb];exact this
theorem aN{Q:Exit→Act→World→Prop}{K:Act→World→Prop}{a:Act}{w w':World}{d:Option Tmp}{t:TypeId}{x y:Operand}{ty:TypeId}{pos:String}{after:Array Edge}{g:Option (Nat×Bool)}{v1 v2 v:Value}(h1:a.eval x=v1)(h2:a.eval y=v2)(h:(Instr.makeSlice t v1 v2).run Tryz.prog w = .ok v w')(hK:K (a.put d v) w') :
  Oper.wp Tryz.prog { dst:=d,op := .makeSlice t x y,type:=ty,pos:=pos,after:=after,guard:=g } a w K Q:=by
 unfold Oper.wp;simp only[execOp,h1,h2];rw[show(do let x ←Instr.makeSlice t v1 v2;pure (Next.value x):Sem Next).run Tryz.prog w = .ok (.value v) w' by simp[h]];exact hK
structure Nst(w0 w W:World)(s NB n i c cr B off:Nat)(bs:Nat→Nat)(ev kv:Value)(x:Nd)(nx:List (List Bool)):Prop where
 b2:Bx W s 202 #[.slice (some ⟨B,off,none⟩) n cr,ev, .slice (some ⟨NB,0,none⟩) n c]
 b4:Bx W (s+1) 205 #[.bool false, .slice none 0 0, .slice none 0 0]
 b5:Bx W (s+1+1) 153 #[.int .i64 x.k, .int .u64 x.a, .int .u64 x.b, .int .u64 x.c, .int .u64 x.d,kv]
 nat:NAt W NB n (i+1) bs nx
 but:fV (fun k=>∃ j,j<i+1∧k=bs j) w W
 low:Below w0.heap.size w0 W
theorem Nst.step{w0 w W W':World}{s NB n i c cr B off:Nat}{bs:Nat→Nat}{ev kv:Value}{x:Nd}{nx nx':List (List Bool)}(h:Nst w0 w W s NB n i c cr B off bs ev kv x nx)(hbb:∀ j,j<i+1→bs j<s)(hbs:∀ j,j<i+1→w0.heap.size≤bs j)
  (hb:fV (fun k=>∃ j,j<i+1∧k=bs j) W W') (hN:NAt W' NB n (i+1) bs nx'):Nst w0 w W' s NB n i c cr B off bs ev kv x nx' :=
 ⟨h.b2.iQ hb (by rintro⟨j,hj,e⟩;have:=hbb j hj;omega),h.b4.iQ hb (by rintro⟨j,hj,e⟩;have:=hbb j hj;omega),h.b5.iQ hb (by rintro⟨j,hj,e⟩;have:=hbb j hj;omega),hN,h.but.trans hb,h.low.trans (hb.below h.low.size (by rintro k ⟨j,hj,rfl⟩;exact hbs j hj))⟩
theorem Nst.turn{w0 w W W':World}{s NB n i c cr B off X:Nat}{bs:Nat→Nat}{ev kv:Value}{x:Nd}{nx:List (List Bool)}(h:Nst w0 w W s NB n i c cr B off bs ev kv x nx)(hbb:∀ j,j<i+1→bs j<s)(hNB:NB<s)(hs:w.heap.size≤s)(hw:w0.heap.size≤s)
    (hX:s+1+1<X) (hl:X<W'.heap.size) (h4:∀ k,k≠X→W'.heap[k]?=W.heap[k]?) (h5:AX.Same W W'):Nst w0 w W' s NB n i c cr B off bs ev kv x nx :=
  ⟨(h4 _ (by omega)).trans h.b2,(h4 _ (by omega)).trans h.b4,(h4 _ (by omega)).trans h.b5,h.nat.same (h4 _ (by omega)) (fun j hj=>h4 _ (by have:=hbb j hj;omega)),
   ⟨h.but.low.trans (AX.aj (Nat.zero_le _) (.inl hl) h4 h5),fun k hk hn=>(h4 k (by omega)).trans (h.but.same k hk hn)⟩,h.low.trans (AX.aj (by omega) (.inl hl) h4 h5)⟩
theorem Nst.lift{w0 w W W':World}{s NB n i c cr B off:Nat}{bs:Nat→Nat}{ev kv:Value}{x:Nd}{nx:List (List Bool)}(h:Nst w0 w W s NB n i c cr B off bs ev kv x nx)(hbb:∀ j,j<i+1→bs j<s)(hNB:NB<s)(hs:w.heap.size≤s)(hw:w0.heap.size≤s)(hb:Below (s+3) W W'):Nst w0 w W' s NB n i c cr B off bs ev kv x nx :=
  ⟨h.b2.below hb (by omega),h.b4.below hb (by omega),h.b5.below hb (by omega),h.nat.below hb (by omega) (fun j hj=>by have:=hbb j hj;omega),
   ⟨h.but.low.trans (hb.mono (Nat.zero_le _)),fun k hk hn=>(hb.block k (by omega)).trans (h.but.same k hk hn)⟩,h.low.trans (hb.mono (by omega))⟩
def mD:AX.Plan := .plain 0 (.plain 1 (.plain 2 (.plain 3 (.plain 4 (.plain 5 (.plain 6 (.plain 7 (.plain 8 (.plain 9 (.plain 10 (.plain 12 (.plain 13 (.plain 14 (.three 11 (.two 15 (.plain 16 (.one 17 (.one 18 (.nil)))) 17 (.one 15 (.plain 16 (.one 18 (.nil))))) 15 (.two 11 (.plain 16 (.one 17 (.one 18 (.nil)))) 17 (.one 11 (.plain 16 (.one 18 (.nil))))) 17 (.two 11 (.one 15 (.plain 16 (.one 18 (.nil)))) 15 (.one 11 (.plain 16 (.one 18 (.nil)))))))))))))))))))
end Go.Proofs.YtkjgogdkdejljaaGreatDoor.Rx
namespace Go.Proofs.YtkjgogdkdejljaaGreatDoor.AX
open Go
section
variable {P : Program} {ops : Array Oper} {md : Region.Mode} {C : World → Prop} {Q : Exit → Act → World → Prop} {K : Array Bool → Act → World → Prop} {i0 : Nat}
end
section
variable {P : Program} {C C2 : World → Prop} {Q : Exit → Act → World → Prop}
theorem Jy{l:List Oper}{i:Nat}{listed:Array Bool}{mask:Nat}{r:List (Nat×Bool)}(hl:Lst l.length listed mask)(hB:pY (infos l) ((i,true)::r) mask=true):∀ j∈Region.ready .any l.toArray listed,j=i:=by
 intro j hj;simp only[pY] at hB
 cases hx:(infos l)[i]? with
 | none=>rw[hx] at hB;cases hB
 | some x =>
  rw[hx] at hB;simp only[Bool.and_eq_true,Bool.not_eq_true',Nat.beq_eq] at hB;obtain⟨⟨hun,Ez⟩,hk,hB⟩:=hB;obtain⟨hj0,oj,hoj,hjd⟩:=mem_ready.1 hj;have hjl:j<l.length:=by have:=(Array.getElem?_eq_some_iff.1 hoj).1;simpa using this
  have hje:(infos l)[j]?=some (iK l.toArray oj):=by
   have:l[j]?=some oj:=(by simpa using hoj);simp[infos,this]
  rcases qZ _ 0 hk j _ hje with h1 | h1 | h1
  ·omega
  ·rw[Nat.zero_add] at h1
   rw[Array.getD_eq_getD_getElem?,hl.bit j hjl,h1] at hj0
   cases hj0
  ·refine(h1 (um fun k hk2=>?_)).elim
   obtain⟨e,he,hb,rfl⟩:=gV.1 hk2;have h2:=hjd e he hb
   cases hm:mask.testBit e.on with
   | true=>rfl
   | false =>
    rcases Nat.lt_or_ge e.on l.length with h3 | h3
    ·rw[Array.getD_eq_getD_getElem?,hl.bit _ h3,hm] at h2;cases h2
    ·rw[Array.getD_eq_getD_getElem?,Array.getElem?_eq_none (by rw[hl.size];exact h3)] at h2;cases h2
end
section
variable {P : Program} {C : World → Prop} {Q : Exit → Act → World → Prop} {K : Act → World → Prop}
end
section
variable {P : Program} {ops : Array Oper} {md : Region.Mode} {C CT : World → Prop} {Q : Exit → Act → World → Prop} {K : Array Bool → Act → World → Prop}
end
section
variable {P : Program} {ops : Array Oper} {md : Region.Mode} {D : Array Bool → World → Prop} {Q : Exit → Act → World → Prop}
def wpAnyL(P:Program)(md:Region.Mode)(ops:Array Oper)(D:Array Bool→World→Prop)(Q:Exit→Act→World→Prop):Nat→Array Bool→Act→World→Prop
 | 0,listed,a,w=>Region.ready md ops listed = []∧Q .normal a w
 | fuel+1,listed,a,w=>(Region.ready md ops listed = []→Q .normal a w) ∧
  ∀ i∈Region.ready md ops listed,wpOp P ops Q i (fun a' w'=>D (listed.setIfInBounds i true) w'∧wpAnyL P md ops D Q fuel (listed.setIfInBounds i true) a' w') a w
theorem ny:∀(fuel:Nat)(listed:Array Bool)(a:Act)(w:World),wpAnyL P md ops D Q fuel listed a w→wpAny P md ops Q fuel listed a w
 | 0,_,_,_,h=>h
 | fuel+1,_,_,_,h=>⟨h.1,fun i hi=>wpOp_mono (fun a' w' h'=>ny fuel _ a' w' h'.2) (h.2 i hi)⟩
theorem wpAnyL_first{i:Nat}{oi:Oper}{v:Value}{Y:World→Prop}(good:Array Bool→Prop)(hi:ops[i]?=some oi)(hsel:∀(j:Nat)(o:Oper) cs b,ops[j]?=some o→o.op ≠ .select cs b)
  (hQ:∀ c a w,Q (.panic c) (a.put oi.dst v) w→Q (.panic c) a w) (hY:∀ listed w,good listed→D listed w→Y w) (hg:∀ listed j,good listed→i∈Region.ready md ops listed→j∈Region.ready md ops listed→j≠i→good (listed.setIfInBounds j true))
  (hD:∀ listed w,D (listed.setIfInBounds i true) w↔D listed w):∀(fuel:Nat)(listed:Array Bool)(a:Act)(w:World),D listed w→good listed →
   (∀ j oj,ops[j]?=some oj→j≠i→listed.getD j true=false→(∀ e∈oj.after,Region.binds md e=true→e.on≠i)→oi.apart ops oj=true) →
   i∈Region.ready md ops listed→jP P ops Y oi v a→wpAnyL P md ops D Q fuel (listed.setIfInBounds i true) (a.put oi.dst v) w→wpAnyL P md ops D Q (fuel+1) listed a w
 | 0,listed,a,w,hC,hgd,_,hr,hy,H=>by
  refine⟨(fun h=>by rw[h] at hr;cases hr),fun j hj=>?_⟩
  by_cases hji:j=i
  ·subst hji;exact hy.at hi (hY _ _ hgd hC) ⟨(hD _ _).2 hC,H⟩
  ·have:=ready_mono hj hji
   rw[H.1] at this
   cases this
 | fuel+1,listed,a,w,hC,hgd,hfree,hr,hy,H=>by
  refine⟨(fun h=>by rw[h] at hr;cases hr),fun j hj=>?_⟩
  by_cases hji:j=i
  ·subst hji;exact hy.at hi (hY _ _ hgd hC) ⟨(hD _ _).2 hC,H⟩
  ·obtain⟨hun,oj,hoj,hall⟩:=mem_ready.1 hj
   have hno:∀ e∈oj.after,Region.binds md e=true→e.on≠i:=fun e he hb e1=>by
    have g1:=hall e he hb;have g0:=(mem_ready.1 hr).1;rw[e1] at g1;rcases Nat.lt_or_ge i listed.size with h' | h'
    ·simp[h'] at g0 g1;rw[g0] at g1;cases g1
    ·simp[Array.getElem?_eq_none h'] at g1
   refine wpOp_mono (fun a' w' h3=>?_) (CZ hoj (hfree j oj hoj hji hun hno) (fun cs b=>hsel i oi cs b hi) (fun cs b=>hsel j oj cs b hoj) hQ hy (H.2 j (ready_mono hj hji)));have h4:=h3.2.1;rw[Array.setIfInBounds_comm _ _ (Ne.symm hji)] at h4;have h5:=(hD _ _).1 h4;refine⟨h5,wpAnyL_first good hi hsel hQ hY hg hD fuel (listed.setIfInBounds j true) a' w' h5 (hg _ _ hgd hr hj hji) (fun k ok hk hki Qx hnk=>hfree k ok hk hki ?_ hnk) (ready_mono hr (Ne.symm hji)) h3.1 ?_⟩
   ·by_cases hjk:j=k
    ·subst hjk;exact hun
    ·rw[getD_set_ne true hjk] at Qx;exact Qx
   ·rw[Array.setIfInBounds_comm _ _ hji]
    exact h3.2.2
end
section
variable {P : Program} {C CT : World → Prop} {Q : Exit → Act → World → Prop} {i0 : Nat}
def Dl(C CT:World→Prop)(i0:Nat)(listed:Array Bool)(w:World):Prop:=CT w∧(listed.getD i0 false=false→C w)
def bD(P:Program)(l:List Oper)(C CT:World→Prop)(i0:Nat)(Q:Exit→Act→World→Prop):Bool→List (Nat×Nat)→Act→World→Prop
 | _,[],a,w=>Q .normal a w
 | d,(i,0)::r,a,w=>d=false∧∃ o,l[i]?=some o∧wpQuiet P l.toArray C (fun a'=>bD P l C CT i0 Q d r a' w) [o] a
 | d,(i,1)::r,a,w=>∃ o,l[i]?=some o∧wpQuiet P l.toArray CT (fun a'=>bD P l C CT i0 Q d r a' w) [o] a
 | d,(i,_+2)::r,a,w=>wpOp P l.toArray Q i (fun a' w'=>(CT w'∧((d || Nat.beq i i0)=false→C w'))∧bD P l C CT i0 Q (d || Nat.beq i i0) r a' w') a w
def asF(r:List (Nat×Nat)):List (Nat×Bool):=r.map fun p=>(p.1,Nat.ble 2 p.2)
def ED(L:List Inf)(i0:Nat)(r:List (Nat×Nat)):Bool:=match L[i0]? with
 | none=>false
 | some x=>r.all fun p=>Nat.ble 2 p.2 || (!(Nat.beq p.1 i0) && (Nat.beq p.2 1 || Nat.testBit x.dep p.1))
theorem iw{l:List Oper}(hi0:i0<l.length)(hs:Region.noSelect l.toArray=true)(hQ:∀ c a d v w,Q (.panic c) (Act.put a d v) w→Q (.panic c) a w):∀ (r:List (Nat×Nat)) (listed:Array Bool) (mask:Nat) (a:Act) (w:World),Dl C CT i0 listed w→Lst l.length listed mask →
  pY (infos l) (asF r) mask=true→ED (infos l) i0 r=true→bD P l C CT i0 Q (mask.testBit i0) r a w→wpAnyL P .any l.toArray (Dl C CT i0) Q r.length listed a w
 | [],listed,mask,a,w,_,hl,hB,_,h=>by
  simp only[asF,List.map_nil,pY,Nat.beq_eq] at hB;refine⟨?_,h⟩;rw[List.eq_nil_iff_forall_not_mem];intro j hj;obtain⟨h0,o,ho,_⟩:=mem_ready.1 hj;have hjl:j<l.length:=by have:=(Array.getElem?_eq_some_iff.1 ho).1;simpa using this
  have hb:=hl.bit j hjl;rw[hB] at hb;have:(2 ^ (infos l).length-1).testBit j=true:=by rw[Nat.testBit_two_pow_sub_one];simp[infos,hjl]
  rw[this] at hb;rw[Array.getD_eq_getD_getElem?,hb] at h0
  cases h0
 | (i,b)::r,listed,mask,a,w,hC,hl,hB,hW,h=>by
  have hB0:=hB;simp only[asF,List.map_cons,pY] at hB
  cases hx:(infos l)[i]? with
  | none=>rw[hx] at hB;cases hB
  | some x =>
   rw[hx] at hB;simp only[Bool.and_eq_true,Bool.not_eq_true',Nat.beq_eq] at hB;obtain⟨⟨hun,Ez⟩,hk,hB⟩:=hB;have hil:i<l.length:=by
    have:=(List.getElem?_eq_some_iff.1 hx).1
    simpa[infos] using this
   have ho:l[i]?=some l[i]:=List.getElem?_eq_getElem hil;have hxe:x=iK l.toArray l[i]:=by
    simp only[infos,List.getElem?_map,ho,Option.map_some,Option.some.injEq] at hx;exact hx.symm
   have ho':l.toArray[i]?=some l[i]:=(by simp);have hgl:∀ k,mask.testBit k=true→listed.getD k false=true:=fun k hk=>by
    rw[Array.getD_eq_getD_getElem?,hl.bit k (hl.lt k hk),hk];rfl
   have eu:i∈Region.ready .any l.toArray listed:=mem_ready.2 ⟨by rw[Array.getD_eq_getD_getElem?,hl.bit i hil,hun];rfl,l[i],ho',fun e he hb=>hgl _ (by
    rw[hxe] at Ez;exact Aa Ez (gV.2 ⟨e,he,hb,rfl⟩))⟩
   have hset:=hl.set hil;have hmb:∀ k,(Nat.lor mask (2 ^ i)).testBit k=(mask.testBit k || decide (i=k)):=fun k=>by
    show(mask ||| 2 ^ i).testBit k=_
    rw[Nat.testBit_or,Nat.testBit_two_pow]
   obtain⟨x0,hx0⟩:∃ x0,(infos l)[i0]?=some x0:=⟨(infos l)[i0]'(by simpa[infos] using hi0),by simp[infos,hi0]⟩;have hW':ED (infos l) i0 r=true:=by
    unfold ED at hW ⊢;rw[hx0] at hW ⊢;simp only[List.all_cons,Bool.and_eq_true] at hW ⊢;exact hW.2
   have hWi:(Nat.ble 2 b || (!(Nat.beq i i0) && (Nat.beq b 1 || Nat.testBit x0.dep i)))=true:=by
    unfold ED at hW;rw[hx0] at hW;simp only[List.all_cons,Bool.and_eq_true] at hW;exact hW.1
   have free:∀ (hf:qC i x mask (infos l) 0=true) (j:Nat) (oj:Oper),l.toArray[j]?=some oj→j≠i→listed.getD j true=false→(∀ e∈oj.after,Region.binds .any e=true→e.on≠i)→l[i].apart l.toArray oj=true:=fun hf j oj hj hji hjun hno=>by
    have hjl:j<l.length:=(by have:=(Array.getElem?_eq_some_iff.1 hj).1;simpa using this);have hje:(infos l)[j]?=some (iK l.toArray oj):=by
     have:l[j]?=some oj:=(by simpa using hj);simp[infos,this]
    rcases kL _ 0 hf j _ hje with h1 | h1 | h1 | h1
    ·omega
    ·rw[Nat.zero_add] at h1
     rw[Array.getD_eq_getD_getElem?,hl.bit j hjl,h1] at hjun
     cases hjun
    ·obtain⟨e,he,hb,hon⟩:=gV.1 h1
     exact absurd hon (hno e he hb)
    ·rw[hxe] at h1;exact ni h1
   have hDi:i≠i0→∀ listed w,Dl C CT i0 (listed.setIfInBounds i true) w↔Dl C CT i0 listed w:=fun hne listed w=>by
    unfold Dl;rw[getD_set_ne false hne]
   match b,hk,hB,h,hWi with
   | 0,hk,hB,h,hWi =>
    have hk:(x.plain && qC i x mask (infos l) 0)=true:=hk;simp only[Bool.and_eq_true] at hk;obtain⟨hp,hf⟩:=hk;have hWi:(!(Nat.beq i i0) && Nat.testBit x0.dep i)=true:=hWi;simp only[Bool.and_eq_true,Bool.not_eq_true'] at hWi;have hne:i≠i0:=fun e=>by rw[e] at hWi;simp at hWi
    obtain⟨hm0,o,ho2,h⟩:=h;obtain rfl:l[i]=o:=by rw[ho] at ho2;exact Option.some.inj ho2
    have hq:qOp P l.toArray C i (fun a'=>bD P l C CT i0 Q (mask.testBit i0) r a' w) a:=(by unfold qOp;simp only[ho'];exact h);obtain⟨v,hy,hK⟩:=yieldsIn_of_qOp ho' hq;have XZ:x0=iK l.toArray l[i0]:=by
     have:l[i0]?=some l[i0]:=List.getElem?_eq_getElem hi0;simp only[infos,List.getElem?_map,this,Option.map_some,Option.some.injEq] at hx0;exact hx0.symm
    have hd0:=hWi.2;rw[XZ] at hd0;obtain⟨e,he,hb,hon⟩:=gV.1 hd0;have EF:∀ listed,i∈Region.ready .any l.toArray listed→i0∉Region.ready .any l.toArray listed:=fun listed hr h0=>by
     obtain⟨_,o0,ho0,hall⟩:=mem_ready.1 h0;have:l.toArray[i0]?=some l[i0]:=(by simp[hi0]);rw[this] at ho0;obtain rfl:=Option.some.inj ho0;have g1:=hall e he hb;have g0:=(mem_ready.1 hr).1;rw[hon] at g1;rcases Nat.lt_or_ge i listed.size with h' | h'
     ·simp[h'] at g0 g1;rw[g0] at g1;cases g1
     ·simp[Array.getElem?_eq_none h'] at g1
    refine wpAnyL_first (Y:=C) (fun listed=>listed.getD i0 false=false) ho' (Region.noSelect_spec hs) (fun c a w=>hQ c a _ _ w) (fun listed w h1 h2=>h2.2 h1) (fun listed j h1 hr hj hji=>?_) (hDi hne) r.length listed a w hC ?_ (free hf) eu (je (by rw[hxe] at hp;exact hp) hy) (iw hi0 hs hQ r _ _ _ w ((hDi hne _ _).2 hC) hset hB hW' ?_)
    ·rw[getD_set_ne false (fun e=>by subst e;exact EF _ hr hj)]
     exact h1
    ·rw[Array.getD_eq_getD_getElem?,hl.bit i0 hi0,hm0];rfl
    ·rw[hmb,show decide (i=i0)=false by simpa using hne,Bool.or_false]
     exact hK
   | 1,hk,hB,h,hWi =>
    have hk:(x.plain && qC i x mask (infos l) 0)=true:=hk;simp only[Bool.and_eq_true] at hk;obtain⟨hp,hf⟩:=hk;have hWi:(!(Nat.beq i i0) && true)=true:=hWi;simp only[Bool.and_eq_true,Bool.not_eq_true'] at hWi;have hne:i≠i0:=fun e=>by rw[e] at hWi;simp at hWi
    obtain⟨o,ho2,h⟩:=h;obtain rfl:l[i]=o:=by rw[ho] at ho2;exact Option.some.inj ho2
    have hq:qOp P l.toArray CT i (fun a'=>bD P l C CT i0 Q (mask.testBit i0) r a' w) a:=(by unfold qOp;simp only[ho'];exact h);obtain⟨v,hy,hK⟩:=yieldsIn_of_qOp ho' hq;refine wpAnyL_first (Y:=CT) (fun _=>True) ho' (Region.noSelect_spec hs) (fun c a w=>hQ c a _ _ w) (fun listed w _ h2=>h2.1) (fun _ _ _ _ _ _=>trivial) (hDi hne) r.length listed a w hC trivial (free hf) eu (je (by rw[hxe] at hp;exact hp) hy) (iw hi0 hs hQ r _ _ _ w ((hDi hne _ _).2 hC) hset hB hW' ?_);rw[hmb,show decide (i=i0)=false by simpa using hne,Bool.or_false];exact hK
   | b+2,hk,hB,h,hWi =>
    refine⟨(fun h0=>by rw[h0] at eu;cases eu),fun j hj=>?_⟩;have hji:=Jy (r:=asF r) hl hB0 j hj;subst hji;have hbq:(mask.testBit i0 || Nat.beq j i0)=(Nat.lor mask (2 ^ j)).testBit i0:=by
     rw[hmb]
     congr 1
     rw[Bool.eq_iff_iff,Nat.beq_eq,decide_eq_true_eq]
    rw[show bD P l C CT i0 Q (mask.testBit i0) ((j,b+2)::r) a w=wpOp P l.toArray Q j (fun a' w'=>(CT w'∧((mask.testBit i0 || Nat.beq j i0)=false→C w'))∧bD P l C CT i0 Q (mask.testBit i0 || Nat.beq j i0) r a' w') a w from rfl,hbq] at h;refine wpOp_mono (fun a' w' hk=>?_) h;have hd:Dl C CT i0 (listed.setIfInBounds j true) w':=⟨hk.1.1,fun h0=>hk.1.2 (by
     have:=hset.bit i0 hi0;rw[Array.getD_eq_getD_getElem?,this] at h0;exact h0)⟩
    exact⟨hd,iw hi0 hs hQ r _ _ a' w' hd hset hB hW' hk.2⟩
theorem dH{id:Nat}{a:Act}{w:World}{l:List Oper}(i0:Nat)(r:List (Nat×Nat))(L:List Inf)(hm:P.follows .mixedOrders=true)(hs:Region.noSelect l.toArray=true)(hL:infos l=L)(hlen:r.length=l.length)(hi0:i0<l.length)(hB:pY L (asF r) 0=true)(hW:ED L i0 r=true)
  (hQ:∀ c a d v w,Q (.panic c) (Act.put a d v) w→Q (.panic c) a w) (hC:CT w.drew∧C w.drew) (h:bD P l C CT i0 Q false r a w.drew):(Code.region id l.toArray true).wp P Q a w:=by
 refine wp_region_any hm ?_;have:=ny _ _ _ _ (iw (P:=P) (C:=C) (CT:=CT) (Q:=Q) hi0 hs hQ r _ 0 a w.drew ⟨hC.1,fun _=>hC.2⟩ (Lst.start _) (hL ▸ hB) (hL ▸ hW) (by simpa using h));rw[hlen] at this
 simpa using this
theorem bT{l:List Oper}{i:Nat}{r:List (Nat×Nat)}{a:Act}{w:World}(o:Oper)(ho:l[i]?=some o)(h:wpQuiet P l.toArray C (fun a'=>bD P l C CT i0 Q false r a' w) [o] a):bD P l C CT i0 Q false ((i,0)::r) a w:=⟨rfl,o,ho,h⟩
theorem dS{l:List Oper}{d:Bool}{i:Nat}{r:List (Nat×Nat)}{a:Act}{w:World}(o:Oper)(ho:l[i]?=some o)(h:wpQuiet P l.toArray CT (fun a'=>bD P l C CT i0 Q d r a' w) [o] a):bD P l C CT i0 Q d ((i,1)::r) a w:=⟨o,ho,h⟩
theorem aW{l:List Oper}{d:Bool}{i:Nat}{r:List (Nat×Nat)}{a:Act}{w:World}(o:Oper)(ho:l[i]?=some o)(hw:Region.wanted o (yielded l.toArray a.tmps)=true)(h:Oper.wp P o a w (fun a' w'=>(CT w'∧((d || Nat.beq i i0)=false→C w'))∧bD P l C CT i0 Q (d || Nat.beq i i0) r a' w') Q):bD P l C CT i0 Q d ((i,2)::r) a w:=by
 show wpOp P l.toArray Q i (fun a' w'=>(CT w'∧((d || Nat.beq i i0)=false→C w'))∧bD P l C CT i0 Q (d || Nat.beq i i0) r a' w') a w
 unfold wpOp;have ho':l.toArray[i]?=some o:=by simpa using ho
 simp only[ho',hw,if_true];exact .inl h
theorem eF{l:List Oper}{d:Bool}{i:Nat}{r:List (Nat×Nat)}{a:Act}{w:World}{o:Oper}{f:FuncId}{fn:Func}{c:Code}{xs:Array Operand}{ts:Array TypeId}{vs:Array Value}{R:Ending→World→Prop}(h:Calls P f vs w R)(ho:l[i]?=some o)
  (hop:o.op = .call { callee := .value (.func f),args:=xs,argTypes:=ts }) (hw:Region.wanted o (yielded l.toArray a.tmps)=true) (hf:P.funcs[f]?=some fn) (hn:(fn.name == "runtime.NumGoroutine")=false) (hb:fn.body=some c) (hx:xs.map a.eval=vs)
  (hR:∀ e w',R e w'→∃ v,e = .returned v∧(CT w'∧((d || Nat.beq i i0)=false→C w'))∧bD P l C CT i0 Q (d || Nat.beq i i0) r (a.put o.dst v) w'):bD P l C CT i0 Q d ((i,2)::r) a w:=by
 refine aW o ho hw ?_;have hrun:(execOp a.eval o).run P w = .ok (.enter f (xs.map a.eval)) w:=by
  have h1:fn.name≠"runtime.NumGoroutine":=by simpa using hn
  simp[execOp,hop,resolve,invoke,Act.eval,callFunc,Deferred.ofValue,hf,h1,hb]
 unfold Oper.wp;rw[hrun];refine Calls.mono (hx ▸ h) fun e w2 hk=>?_;obtain⟨v,rfl,h1,h2⟩:=hR _ _ hk;exact⟨h1,h2⟩
end
end Go.Proofs.YtkjgogdkdejljaaGreatDoor.AX
