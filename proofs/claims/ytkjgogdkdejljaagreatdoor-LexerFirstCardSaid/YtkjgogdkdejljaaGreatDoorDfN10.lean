import Derived.Test.YtkjgogdkdejljaaGreatDoorRg1
import Derived.Shelf.SlSortCmp.WholeK
set_option maxRecDepth 100000
set_option maxHeartbeats 40000000
namespace Go.Proofs.YtkjgogdkdejljaaGreatDoor.AX
section
open Go
def bitsOf(l:List Nat):Nat:=l.foldl (fun m t=>m ||| 2 ^ t) 0
theorem DR(k:Nat):∀(l:List Nat)(m:Nat),(l.foldl (fun m t=>m ||| 2 ^ t) m).testBit k=(m.testBit k || decide (k∈l))
 | [],m=>by simp
 | t::l,m=>by
  rw[agw,DR k l,ah6,ahl]
  by_cases e:t=k
  ·subst e;simp
  ·have:¬k=t:=fun h=>e h.symm
   simp[e,this]
theorem jw(l:List Nat)(k:Nat):(bitsOf l).testBit k=decide (k∈l):=by unfold bitsOf;rw[DR];simp
def Kt(o:Oper):List Nat:=(o.after.toList.filter fun e=>Region.binds .any e).map (·.on)
def xq(o:Oper):List Nat:=o.dst.toList
structure Inf where
 dep:Nat
 dst:Nat
 look:Nat
 plain:Bool
def iW(ops:Array Oper)(o:Oper):Inf:=⟨bitsOf (Kt o),bitsOf (xq o),bitsOf (o.looksAt ops),Fe o.op⟩
def infos(l:List Oper):List Inf:=l.map (iW l.toArray)
def Fg(x y:Inf):Bool:=Nat.beq (Nat.land x.dst (Nat.lor y.look y.dst)) 0 && Nat.beq (Nat.land y.dst x.look) 0
def qH(i:Nat)(x:Inf)(mask:Nat):List Inf->Nat->Bool
 | [],_=>true
 | y::L,j=>(Nat.beq j i || (Nat.testBit mask j || (Nat.testBit y.dep i || Fg x y))) && qH i x mask L (j+1)
def Ig(i:Nat)(mask:Nat):List Inf->Nat->Bool
 | [],_=>true
 | y::L,j=>(Nat.beq j i || (Nat.testBit mask j || !(Nat.beq (Nat.land y.dep mask) y.dep))) && Ig i mask L (j+1)
def qp(L:List Inf):List (Nat×Bool)->Nat->Bool
 | [],mask=>Nat.beq mask (2 ^ L.length-1)
 | (i,b)::r,mask=>match L[i]? with
  | none=>false
  | some x=>(!(Nat.testBit mask i) && Nat.beq (Nat.land x.dep mask) x.dep) && ((match b with|true=>Ig i mask L 0|false=>x.plain && qH i x mask L 0) && qp L r (Nat.lor mask (2 ^ i)))
theorem kP{i:Nat}{x:Inf}{mask:Nat}: ∀(L:List Inf)(k:Nat),qH i x mask L k=true->∀j y,L[j]?=some y->k+j=i\/mask.testBit (k+j)=true\/y.dep.testBit i=true\/Fg x y=true
 | [],_,_,j,y,hj=>by simp at hj
 | z::L,k,h,0,y,hj=>by
  simp only[qH,afU,ahp,ahk]at h;obtain rfl:z=y:=by simpa using hj
  simpa using h.1
 | z::L,k,h,j+1,y,hj=>by
  simp only[qH,afU]at h;have:=kP L (k+1) h.2 j y (by simpa using hj)
  rwa [show k+1+j=k+(j+1)by omega]at this
theorem rH{i:Nat}{mask:Nat}: ∀(L:List Inf)(k:Nat),Ig i mask L k=true->∀j y,L[j]?=some y->k+j=i\/mask.testBit (k+j)=true\/Nat.land y.dep mask≠y.dep
 | [],_,_,j,y,hj=>by simp at hj
 | z::L,k,h,0,y,hj=>by
  simp only[Ig,afU,ahp,ahk,ag0]at h;obtain rfl:z=y:=by simpa using hj
  rcases h.1 with h1|h1|h1
  ·exact .inl (by simpa using h1)
  ·exact .inr (.inl (by simpa using h1))
  ·exact .inr (.inr fun e=>by rw[e]at h1;simp at h1)
 | z::L,k,h,j+1,y,hj=>by
  simp only[Ig,afU]at h;have:=rH L (k+1) h.2 j y (by simpa using hj)
  rwa [show k+1+j=k+(j+1)by omega]at this
theorem qI{a b:Nat}(h:Nat.land a b=0){k:Nat}(ha:a.testBit k=true):b.testBit k=false:=by
 have:(a &&& b).testBit k=false:=by rw[show a &&& b=Nat.land a b from rfl,h];simp
 rw[ahR,ha]at this
 simpa using this
theorem nK{ops:Array Oper}{x y:Oper}(h:Fg (iW ops x) (iW ops y)=true):x.apart ops y=true:=by
 simp only[Fg,afU,ahk,iW]at h;obtain⟨h1,h2⟩:=h;unfold Oper.apart;rw[afU]
 constructor
 ·cases hd:x.dst with
  | none=>rfl
  | some d =>
   have hb:(bitsOf (xq x)).testBit d=true:=(by rw[jw];simp[xq,hd]);have:=qI h1 hb;rw[show Nat.lor (bitsOf (y.looksAt ops)) (bitsOf (xq y))=bitsOf (y.looksAt ops) ||| bitsOf (xq y)from rfl,ah6,Bool.or_eq_false_iff,jw,jw]at this;obtain⟨g1,g2⟩:=this;simp only[afU,ag0,bne_iff_ne,ne_eq];refine⟨by simpa using g1,fun e=>?_⟩;rw[decide_eq_false_iff_not]at g2;exact g2 (by simp[xq,e])
 ·cases hd:y.dst with
  | none=>rfl
  | some d =>
   have hb:(bitsOf (xq y)).testBit d=true:=(by rw[jw];simp[xq,hd]);have:=qI h2 hb;rw[jw]at this
   simpa using this
theorem Ar{a m:Nat}(h:Nat.land a m=a){k:Nat}(ha:a.testBit k=true):m.testBit k=true:=by
 have:(a &&& m).testBit k=true:=by rw[show a &&& m=Nat.land a m from rfl,h];exact ha
 rw[ahR]at this;simp at this;exact this.2
theorem uz{a m:Nat}(h:∀k,a.testBit k=true->m.testBit k=true):Nat.land a m=a:=by
 show a &&& m=a
 apply ah8;intro k;rw[ahR]
 cases ha:a.testBit k with
 | false=>rfl
 | true=>rw[h k ha];rfl
structure Lst(n:Nat)(listed:Array Bool)(mask:Nat):Prop where
 size:listed.size=n
 bit:∀j,j<n->listed[j]?=some (mask.testBit j)
 lt:∀j,mask.testBit j=true->j<n
theorem Lst.start(n:Nat):Lst n (Array.replicate n false) 0:=⟨by simp,fun j hj=>by simp[hj],fun j h=>by simp at h⟩
theorem Lst.set{n:Nat}{listed:Array Bool}{mask i:Nat}(h:Lst n listed mask)(hi:i<n):Lst n (listed.setIfInBounds i true) (Nat.lor mask (2 ^ i)):=by
 have hb:∀j,(Nat.lor mask (2 ^ i)).testBit j=(mask.testBit j || decide (i=j)):=fun j=>by
  show(mask ||| 2 ^ i).testBit j=_
  rw[ah6,ahl]
 refine⟨by simp[h.size],fun j hj=>?_,fun j hj=>?_⟩
 ·rw[hb,agN]
  by_cases e:i=j
  ·subst e;simp[h.size,hi]
  ·simp[e,h.bit j hj]
 ·rw[hb]at hj
  simp at hj;rcases hj with hj|rfl
  ·exact h.lt j hj
  ·exact hi
section
variable {P : Program} {C : World -> Prop} {Q : Exit -> Act -> World -> Prop}
theorem gW{o:Oper}{k:Nat}: (bitsOf (Kt o)).testBit k=true↔∃e∈o.after,Region.binds .any e=true/\e.on=k:=by
 rw[jw];simp[Kt,aiB]
theorem rJ{l:List Oper}(hs:Region.noSelect l.toArray=true)(hQ:∀c a d v w,Q (.panic c) (Act.put a d v) w->Q (.panic c) a w):∀(r:List (Nat×Bool)) (listed:Array Bool) (mask:Nat) (a:Act) (w:World),C w->Lst l.length listed mask ->
  qp (infos l) r mask=true->fP P l C Q r a w->wI P .any l.toArray C Q r.length listed a w
 | [],listed,mask,a,w,_,hl,hB,h=>by
  simp only[qp,ahk]at hB;refine⟨?_,h⟩;rw[List.eq_nil_iff_forall_not_mem];intro j hj;obtain⟨h0,o,ho,_⟩:=mem_ready.1 hj;have hjl:j<l.length:=by have:=(afF.1 ho).1;simpa using this
  have hb:=hl.bit j hjl;rw[hB]at hb;have:(2 ^ (infos l).length-1).testBit j=true:=by rw[ahL];simp[infos,hjl]
  rw[this]at hb;rw[af4,hb]at h0
  cases h0
 | (i,b)::r,listed,mask,a,w,hC,hl,hB,h=>by
  simp only[qp]at hB
  cases hx:(infos l)[i]? with
  | none=>rw[hx]at hB;cases hB
  | some x =>
   rw[hx]at hB;simp only[afU,ag0,ahk]at hB;obtain⟨⟨hun,Fh⟩,hk,hB⟩:=hB;have hil:i<l.length:=by
    have:=(afW.1 hx).1
    simpa[infos]using this
   have ho:l[i]?=some l[i]:=afE hil;have hxe:x=iW l.toArray l[i]:=by
    simp only[infos,af8,ho,ag8,ahc]at hx;exact hx.symm
   have ho':l.toArray[i]?=some l[i]:=(by simp);have hgl:∀k,mask.testBit k=true->listed.getD k false=true:=fun k hk=>by
    rw[af4,hl.bit k (hl.lt k hk),hk];rfl
   have dU:i∈Region.ready .any l.toArray listed:=mem_ready.2 ⟨by rw[af4,hl.bit i hil,hun];rfl,l[i],ho',fun e he hb=>hgl _ (by
    rw[hxe]at Fh;exact Ar Fh (gW.2 ⟨e,he,hb,rfl⟩))⟩
   have hset:=hl.set hil
   cases b with
   | false =>
    simp only[afU]at hk;obtain⟨hp,hf⟩:=hk;obtain⟨o,ho2,h⟩:=h;obtain rfl:l[i]=o:=by rw[ho]at ho2;exact agc ho2
    have hq:qOp P l.toArray C i (fun a'=>fP P l C Q r a' w) a:=(by unfold qOp;simp only[ho'];exact h);obtain⟨v,hy,hK⟩:=yieldsIn_of_qOp ho' hq;refine nJ ho' (Region.noSelect_spec hs) (fun c a w=>hQ c a _ _ w) r.length listed a w hC (fun j oj hj hji hjun hno=>?_) dU (jv (by rw[hxe]at hp;exact hp) hy) (rJ hs hQ r _ _ _ w hC hset hB hK);have hjl:j<l.length:=(by have:=(afF.1 hj).1;simpa using this);have hje:(infos l)[j]?=some (iW l.toArray oj):=by
     have:l[j]?=some oj:=(by simpa using hj);simp[infos,this]
    rcases kP _ 0 hf j _ hje with h1|h1|h1|h1
    ·omega
    ·rw[af9]at h1
     rw[af4,hl.bit j hjl,h1]at hjun
     cases hjun
    ·obtain⟨e,he,hb,hon⟩:=gW.1 h1
     exact absurd hon (hno e he hb)
    ·rw[hxe]at h1;exact nK h1
   | true =>
    refine⟨(fun h0=>by rw[h0]at dU;cases dU),fun j hj=>?_⟩;obtain⟨hj0,oj,hoj,hjd⟩:=mem_ready.1 hj;have hjl:j<l.length:=(by have:=(afF.1 hoj).1;simpa using this);have hje:(infos l)[j]?=some (iW l.toArray oj):=by
     have:l[j]?=some oj:=(by simpa using hoj);simp[infos,this]
    have hji:j=i:=by
     rcases rH _ 0 hk j _ hje with h1|h1|h1
     ·omega
     ·rw[af9]at h1
      rw[af4,hl.bit j hjl,h1]at hj0
      cases hj0
     ·refine(h1 (uz fun k hk2=>?_)).elim
      obtain⟨e,he,hb,rfl⟩:=gW.1 hk2;have h2:=hjd e he hb
      cases hm:mask.testBit e.on with
      | true=>rfl
      | false =>
       rcases ag6 e.on l.length with h3|h3
       ·rw[af4,hl.bit _ h3,hm]at h2;cases h2
       ·rw[af4,agR (by rw[hl.size];exact h3)]at h2;cases h2
    subst hji;exact wpOp_mono (fun a' w' hk=>⟨hk.1,rJ hs hQ r _ _ a' w' hk.1 hset hB hk.2⟩) h
theorem gJ{id:Nat}{a:Act}{w:World}{l:List Oper}(r:List (Nat×Bool))(L:List Inf)(hm:P.follows .mixedOrders=true)(hs:Region.noSelect l.toArray=true)(hL:infos l=L)(hlen:r.length=l.length)(hB:qp L r 0=true)
  (hQ:∀c a d v w,Q (.panic c) (Act.put a d v) w->Q (.panic c) a w) (hC:C w.drew) (h:fP P l C Q r a w.drew):(Code.region id l.toArray true).wp P Q a w:=by
 refine wp_region_any hm ?_;have:=nI _ _ _ _ (rJ (P:=P) (C:=C) (Q:=Q) hs hQ r _ 0 a w.drew hC (Lst.start _) (hL▸ hB) h);rw[hlen]at this
 simpa using this
theorem kH{l:List Oper}{i:Nat}{r:List (Nat×Bool)}{a:Act}{w:World}(o:Oper)(ho:l[i]?=some o)(hw:Region.wanted o (yielded l.toArray a.tmps)=true)(h:Oper.wp P o a w (fun a' w'=>C w'/\fP P l C Q r a' w') Q):fP P l C Q ((i,true)::r) a w:=by
 unfold fP wpOp;have ho':l.toArray[i]?=some o:=by simpa using ho
 simp only[ho',hw,ain];exact .inl h
structure CW(C:World->Prop) where
 W:World
 h:C W
end
end
section
open Go Go.RowKit
structure BW(w:World) where
 W:World
 h:Below w.heap.size w W
instance (w:World):Inhabited (BW w):=⟨⟨w,afI _ w⟩⟩
theorem aF{P:Program}{id:Nat}{Q:Exit->Act->World->Prop}{a:Act}{w:World}{l:List Oper}(hm:P.follows .mixedOrders=true)(hB:Region.lexB .any l.toArray=true)
  (h:wpQuiet P l.toArray (fun w'=>∃p:BW w,w'=p.W) (fun a'=>∀w',(∃p:BW w,w'=p.W)->Q .normal a' w') l a):(Code.region id l.toArray true).wp P Q a w:=
 wp_region_quiet (C:=fun w'=>∃p:BW w,w'=p.W) hm hB ⟨⟨w.drew,(afI _ w).drew⟩,rfl⟩ (by simpa using h)
theorem dw{P:Program}{f:FuncId}{args:Array Value}{w:World}{p:BW w}{v:Value}
  (h:Calls P f args p.W fun e w'=>e=.returned v/\Below p.W.heap.size p.W w'):Calls P f args p.W fun e w''=>e=.returned v/\∃q:BW w,w''=q.W:=
 h.mono fun _ w' ⟨he,hb⟩=>⟨he,⟨w',p.h.trans (hb.mono p.h.size)⟩,rfl⟩
theorem aA{w:World}{b o:Nat}{v:Value}(h:w.cell? ⟨b,o,none⟩=some v)(hb:b<w.heap.size):∀p:BW w,p.W.cell? ⟨b,o,none⟩=some v:=fun p=>(p.h.cell (p:=⟨b,o,none⟩) hb).trans h
end
end Go.Proofs.YtkjgogdkdejljaaGreatDoor.AX
namespace Go.Proofs.YtkjgogdkdejljaaGreatDoor.Df
section
open Go.Lib (hid)
open Go Go.Proofs Go.RowKit
attribute [local go_sem] Oper.semAt_some
def LM:List (Nat×Bool):=[(0,false),(1,false),(2,false),(3,false),(4,false),(6,false),(5,true),(7,true)]
theorem lI{bad:List Nat}{base:Nat}{e:TypeId}{k:Nat}{v:Value}{n:Nat}{xs:List Value}{w w':World}(h:w.ownsRow base e k v n xs)(hc:Ch bad w w')(hb:∀g,v.ownBlock=some g->g∉bad):w'.ownsRow base e k v n xs:=by
 refine⟨h.1,?_⟩;rcases h.2 with hn|⟨g,cap,cur,rfl,hg,hh,rest⟩
 ·exact .inl hn
 ·exact .inr ⟨g,cap,cur,rfl,hg,(hc.same g (afF.1 hh).1 (hb g rfl)).trans hh,rest⟩
theorem Mkr.ch{W W':World}{base:Nat}{oth bad:List Nat}{M r:Nat}{x0 x1 x2:Value}{most:Nat}{sv:Value}{vals:List Value}{T:Sets}(h:Mkr W base oth M r x0 x1 x2 most sv vals T)(hc:Ch bad W W')(hb:∀b∈bad,b∈oth)(hM:M∉bad)(hr:r∉bad)(hg:∀g,sv.ownBlock=some g->g∉bad):Mkr W' base oth M r x0 x1 x2 most sv vals T where
 box:=hc.bx h.box hM
 own:=lI h.own hc hg
 vl:=h.vl
 row i v S hv hS:=(h.row i v S hv hS).ch (hc.mono fun b hm _=>by unfold aT;simp[hb b hm])
 map:=(hc.same r (afF.1 h.map).1 hr).trans h.map
 bM:=h.bM
 br:=h.br
 small:=h.small
theorem Mkr.below{W W':World}{base:Nat}{oth:List Nat}{M r:Nat}{x0 x1 x2:Value}{most:Nat}{sv:Value}{vals:List Value}{T:Sets}(h:Mkr W base oth M r x0 x1 x2 most sv vals T)(hb:Below W.heap.size W W'):Mkr W' base oth M r x0 x1 x2 most sv vals T:=
 h.ch (Ch.of_below hb []) (fun _ h=>by simp at h) (by simp) (by simp) (fun _ _=>by simp)
theorem SAt.step{M r:Nat}{sv sv':Value}{oth:List Nat}{X Y:World}{v:Value}{l:List Int}(h:SAt X (aT M r sv oth) v l)(hc:Ch (aT M r sv []) X Y)(hs:sv'.ownBlock=sv.ownBlock\/∃g,sv'.ownBlock=some g/\X.heap.size<=g):SAt Y (aT M r sv' oth) v l:=by
 have h1:SAt X (aT M r sv (sv'.ownBlock.toList++oth)) v l:=h.more fun k hk hlt=>by
  unfold aT at hk⊢;simp only[afX,af2,agz]at hk⊢;rcases hk with hk|hk|hk|hk|hk
  ·exact .inl hk
  ·exact .inr (.inl hk)
  ·exact .inr (.inr (.inl hk))
  ·rcases hs with hs|⟨g,hg,hge⟩
   ·rw[hs]at hk;exact .inr (.inr (.inl hk))
   ·rw[hg]at hk;cases hk;omega
  ·exact .inr (.inr (.inr hk))
 refine(h1.ch (hc.mono fun k hk _=>?_)).more fun k hk _=>?_
 ·unfold aT at hk⊢
  simp only[afX,af2,agz,agx,ahd]at hk⊢;rcases hk with hk|hk|hk
  ·exact .inl hk
  ·exact .inr (.inl hk)
  ·exact .inr (.inr (.inl hk))
 ·unfold aT at hk⊢
  simp only[afX,af2,agz]at hk⊢;rcases hk with hk|hk|hk|hk
  ·exact .inl hk
  ·exact .inr (.inl hk)
  ·exact .inr (.inr (.inr (.inl hk)))
  ·exact .inr (.inr (.inr (.inr hk)))
theorem Mkr.push{X W5 W6 W8:World}{base:Nat}{oth:List Nat}{M r:Nat}{x0 x1 x2:Value}{most:Nat}{sv:Value}{vals:List Value}{T:Sets}(h:Mkr X base oth M r x0 x1 x2 most sv vals T){S:List Int}{vS v':Value}(hS:SAt X (aT M r sv oth) vS S)(hSm:Small S)
  (h6:W5.ownsRow base 25 1 v' (T.length+1) (vals++[vS])) (h7:X.grownBy W5 sv.ownBlock) (h8:v'.ownBlock=sv.ownBlock\/v'.ownBlock=some X.heap.size) (g3:Bx W6 M 130 #[x0,x1,x2,.int .i64 most,v',.map (some r)]) (g4:∀k,k≠M->W6.heap[k]?=W5.heap[k]?) (hl:Below 0 W5 W6) (hc:Ch [r] W6 W8)
  (hm8:W8.heap[r]?=some (.map (eY 0 (T++[S])).toArray (T++[S]).length)):Mkr W8 base oth M r x0 x1 x2 most v' (vals++[vS]) (T++[S])/\Ch (aT M r sv []) X W8:=by
 have c1:Ch (aT M r sv []) X W5:=Ch.tX h7 fun g hg=>by unfold aT;simp[hg]
 have c2:Ch (aT M r sv []) X W6:=c1.trans (Ch.ni (A:=M) hl g4 (by unfold aT;simp));have c3:Ch (aT M r sv []) X W8:=c2.trans (hc.mono fun b hb _=>by unfold aT;simp at hb;simp[hb]);have h8':v'.ownBlock=sv.ownBlock\/∃g,v'.ownBlock=some g/\X.heap.size<=g:=h8.imp id fun e=>⟨_,e,agq _⟩;have hne:M∉[r]:=by simpa using h.ne
 have x5:Bx W5 M 130 _:=(h7.block M h.box.lt (fun e=>h.neM e.symm)).trans h.box;have o6:W6.ownsRow base 25 1 v' (T.length+1) (vals++[vS]):=lI h6 (Ch.ni (A:=M) (bad:=[M]) hl g4 (by simp)) fun g hg=>by
  obtain⟨cs,hcs⟩:=bU h6 g hg;intro hm;rw[afK.1 hm,show W5.heap[M]?=_ from x5]at hcs
  cases hcs
 have r5:W5.heap[r]?=some (.map (eY 0 T).toArray T.length):=(h7.block r (afF.1 h.map).1 (fun e=>h.ner e.symm)).trans h.map;have r6:W6.heap[r]?=some (.map (eY 0 T).toArray T.length):=(g4 r (fun e=>h.ne e.symm)).trans r5;refine⟨⟨hc.bx g3 hne,?_,?_,?_,hm8,h.bM,h.br,?_⟩,c3⟩
 ·rw[afP]
  refine lI o6 hc fun g hg hm=>?_;obtain⟨cs,hcs⟩:=bU o6 g hg;rw[afK.1 hm,r6]at hcs
  cases hcs
 ·simp[h.vl]
 ·intro i v U hv hU
  by_cases hi:i<T.length
  ·rw[af6 (by rw[h.vl];exact hi)]at hv
   rw[af6 hi]at hU;exact(h.row i v U hv hU).step c3 h8'
  ·rw[aga (by rw[h.vl];omega),h.vl]at hv
   rw[aga (by omega)]at hU;have e:i-T.length=0:=by
    have:=(afW.1 hU).1;simp at this;omega
   rw[e]at hv hU;simp at hv hU;subst hv;subst hU;exact hS.step c3 h8'
 ·intro U hU
  rcases af2.1 hU with hU|hU
  ·exact h.small U hU
  ·rw[afK.1 hU];exact hSm
theorem JV{a:Act}{K:Act->World->Prop}{Q:Exit->Act->World->Prop}{m kx v:Operand}{ty:TypeId}{pos:String}{after:Array Edge}{W:World}{r:Nat}{T:Sets}{S:List Int}{n:Nat}{ks:ByteArray}(hn:n=T.length)(hks:ks=⟨(jJ S).toArray⟩)
  (hm:a.eval m=.map (some r)) (hk:a.eval kx=.string ks) (hv:a.eval v=.int .i64 n) (hb:W.heap[r]?=some (.map (eY 0 T).toArray T.length)) (hS:Small S) (hT:∀U∈T,Small U) (hf:¬fi T S<T.length)
  (h:∀W',W'.heap[r]?=some (.map (eY 0 (T++[S])).toArray (T++[S]).length)->AX.But r W W'->K a W'):
  Oper.wp Tryz.prog {dst:=none,op:=.mapUpdate 128 m kx v,type:=ty,pos:=pos,after:=after,guard:=none} a W K Q:=by
 obtain⟨W',hr,h1,h2⟩:=abf hb hS hT hf;have hx:(execOp a.eval {dst:=none,op:=.mapUpdate 128 m kx v,type:=ty,pos:=pos,after:=after,guard:=none}).run Tryz.prog W=.ok .skip W':=by
  have hr':(Instr.mapUpdate 128 (.map (some r)) (.string ks) (.int .i64 n)).run Tryz.prog W=.ok () W':=by rw[hks,hn];exact hr
  simp only[execOp,hm,hk,hv,Sem.run_bind,hr'];rfl
 unfold Oper.wp;rw[hx];exact h _ h1 h2
def lJ(W:World)(base:Nat)(oth:List Nat)(M r:Nat)(x0 x1 x2:Value)(most:Nat)(sv:Value)(T:Sets)(S:List Int)(e:Ending)(W':World):Prop:=
 (mF most T S=none/\e=.returned (.tuple #[.int .i64 0,.bool false])/\Ch (aT M r sv []) W W') \/
 ∃t T1 sv' vals',mF most T S=some (t,T1)/\e=.returned (.tuple #[.int .i64 t,.bool true])/\Mkr W' base oth M r x0 x1 x2 most sv' vals' T1/\Ch (aT M r sv []) W W'/\(sv'.ownBlock=sv.ownBlock\/∃g,sv'.ownBlock=some g/\W.heap.size<=g)
theorem VH{P:Program}{ops:Array Oper}{Q:Exit->Act->World->Prop}{a:Act}{w:World}{rest:List Oper}{t:TypeId}{x y:Operand}{ty:TypeId}{pos:String}{after:Array Edge}(h:wpList P ops Q ({dst:=none,op:=.store t x y,type:=ty,pos:=pos,after:=after,guard:=none}::rest) a w):
 wpList P ops Q ({dst:=none,op:=.store t x y,type:=ty,pos:=pos,after:=after,guard:=none}::rest) a w:=h
theorem yg(most:Nat)(T:Sets)(S:List Int):mF most T S=if S=[]then some (-1,T)else if fi T S<T.length then some ((fi T S:Int),T)else if T.length=most then none else some ((T.length:Int),T++[S]):=rfl
theorem adH:AX.sizeT Tryz.prog 72=some 1:=by kernel_rfl
theorem Dv{W:World}{base:Nat}{oth:List Nat}{M r:Nat}{x0 x1 x2:Value}{most:Nat}{sv:Value}{vals:List Value}{T:Sets}(h:Mkr W base oth M r x0 x1 x2 most sv vals T){S:List Int}{vS:Value}(hS:SAt W (aT M r sv oth) vS S)(hSm:Small S)(hSl:S.length<=1000000)(hb:base<=W.heap.size)(hT:T.length<=1000):
  Calls Tryz.prog 62 #[.pointer (some ⟨M,0,none⟩),vS] W (lJ W base oth M r x0 x1 x2 most sv T S):=by
 have HM:=hid h;have HS:=hid hS;obtain⟨aS,cS,rfl,hSI⟩:=hS.VE;obtain⟨n,hn⟩:=afC S.length;have HN:=hid hn
 by_cases hS0:S=[]
 ·have ha:mF most T S=some (-1,T):=by unfold mF;rw[afR hS0]
  have hn0:n=0:=by rw[hn,hS0];rfl
  have HA:=hid ha;rw[<-hn];subst hn0;clear hn ha hS0 hSI hS h;go_enter Tryz.func62,Tryz.ntmps62
  go_wp2_with fail
  exact afJ (v:=.tuple #[.int .i64 (-1),.bool true]) (by simp[results,Tryz.results62,go_sem]) rfl (.inr ⟨-1,T,sv,vals,HA.out,rfl,HM.out,Ch.refl _ _,.inl rfl⟩)
 ·have hn1:0<n:=by rw[hn];exact List.length_pos_iff.2 hS0
  have hk:∀p:AX.BW W,Calls Tryz.prog 101 #[.slice aS n cS] p.W fun e w'=>e=.returned (.string ⟨(jJ S).toArray⟩)/\Below p.W.heap.size p.W w':=fun p=>by
   rw[hn];exact Xy S hSl hSm aS cS p.W (hSI.below p.h afD)
  have hm5:∀p:AX.BW W,p.W.cell? ⟨M,5,none⟩=some (.map (some r)):=fun p=>(h.box.below p.h h.box.lt).cell 5;have hrl:=(afF.1 h.map).1;have hlk:∀p:AX.BW W,(Instr.lookup 128 (.map (some r)) (.string ⟨(jJ S).toArray⟩) true).run Tryz.prog p.W=.ok (.tuple #[.int .i64 (if fi T S<T.length then (fi T S:Int)else 0),.bool (decide (fi T S<T.length))]) p.W:=fun p =>
   Y0 ((p.h.block r hrl).trans h.map) hSm h.small
  obtain⟨m,hm⟩:=afC T.length;obtain⟨f,hf⟩:=afC (fi T S);obtain⟨ks,hks⟩:∃ks:ByteArray,ks=⟨(jJ S).toArray⟩:=⟨_,rfl⟩;rw[<-hf,<-hm,<-hks]at hlk;rw[<-hks]at hk;have HMm:=hid hm;have HF:=hid hf;have HKS:=hid hks;have HSI:=hid hSI;have hMl:=h.box.lt;rw[<-hn];have hnz:((n:Int) == 0)=false:=by simp;omega
  by_cases hfm:f<m
  ·have ha:mF most T S=some ((f:Int),T):=by
    rw[yg,<-hf,<-hm,afO hS0,afR hfm]
   have HA:=hid ha;rw[afR hfm,agL hfm]at hlk;clear hm hf hks hSI hS h ha hS0 hn hrl;go_enter Tryz.func62,Tryz.ntmps62
   go_upto_region 3 with (fail)
   refine AX.aF (by kernel_rfl) (by kernel_rfl) ?_
   repeat (go_big_quiet_step (first|(go_at_call 101;with_reducible exact AX.dw (hk _))))
   refine afQ ?_;rintro W2 ⟨p,rfl⟩;obtain⟨W2,hb2⟩:=p;change Below _ _ _ at hb2;clear hk hm5 hlk;go_wp2_with fail
   exact afJ (v:=.tuple #[.int .i64 f,.bool true]) (by simp[results,Tryz.results62,go_sem]) rfl (.inr ⟨f,T,sv,vals,HA.out,rfl,HM.out.below hb2,Ch.of_below hb2 _,.inl rfl⟩)
  ·rw[afO hfm,agC hfm]at hlk
   obtain⟨sa,sc,hsv⟩:=aU h.own;rw[<-hm]at hsv;subst hsv;have hm4:∀X,Below W.heap.size W X->X.cell? ⟨M,4,none⟩=some (.slice sa m sc):=fun X hX=>(h.box.below hX h.box.lt).cell 4;have hm3:∀X,Below W.heap.size W X->X.cell? ⟨M,3,none⟩=some (.int .i64 most):=fun X hX=>(h.box.below hX h.box.lt).cell 3
   by_cases hmm:m=most
   ·have ha:mF most T S=none:=by
     rw[yg,<-hf,<-hm,afO hS0,afO hfm,afR hmm]
    have HA:=hid ha;subst hmm;clear hm hf hks hSI hS h ha hS0 hn hrl hfm;go_enter Tryz.func62,Tryz.ntmps62
    go_upto_region 3 with (fail)
    refine AX.aF (by kernel_rfl) (by kernel_rfl) ?_
    repeat (go_big_quiet_step (first|(go_at_call 101;with_reducible exact AX.dw (hk _))))
    refine afQ ?_;rintro W2 ⟨p,rfl⟩;obtain⟨W2,hb2⟩:=p;change Below _ _ _ at hb2;have g4:=hm4 _ hb2;have g3:=hm3 _ hb2;clear hk hm5 hlk hm4 hm3;go_wp2_with fail
    exact afJ (v:=.tuple #[.int .i64 0,.bool false]) (by simp[results,Tryz.results62,go_sem]) rfl (.inl ⟨HA.out,rfl,Ch.of_below hb2 _⟩)
   ·have ha:mF most T S=some ((m:Int),T++[S]):=by
     rw[yg,<-hf,<-hm,afO hS0,afO hfm,afO hmm]
    have HA:=hid ha;have HFM:=hid hfm;have hne:((m:Int) == (most:Int))=false:=(by simp;omega);rw[<-hm]at hT;have hvl:vals.length=m:=(by rw[hm];exact h.vl);clear hm hf hks hSI hS h ha hS0 hn hrl hfm hmm;go_enter Tryz.func62,Tryz.ntmps62
    go_upto_region 3 with (fail)
    refine AX.aF (by kernel_rfl) (by kernel_rfl) ?_
    repeat (go_big_quiet_step (first|(go_at_call 101;with_reducible exact AX.dw (hk _))))
    refine afQ ?_;rintro W2 ⟨p,rfl⟩;obtain⟨W2,hb2⟩:=p;change Below _ _ _ at hb2;have g4:=hm4 _ hb2;have g3:=hm3 _ hb2;clear hk hm5 hlk hm4 hm3;have HM2:=HM.out.below hb2;have hb9:base<=W2.heap.size:=agb hb hb2.size;have cB:=(Bx.new W2 25 #[.slice aS n cS]).cell 0;have hWa:=(afI W2.heap.size W2).alloc afD (.cells #[.slice aS n cS] 25);have HMa:=HM2.below hWa;have hm0:HMa.own=HMa.own:=rfl;have hown:=HMa.own;rw[<-HMm.out]at hown;have hba:base<=(W2.alloc (.cells #[.slice aS n cS] 25)).heap.size:=agb hb9 hWa.size;have hxb:=HMa.box;have abl:=HMa.neM;clear hm0;go_wp2_with (first
     | (at_builtin;refine RJ _ base (.slice sa m sc) vals (.slice aS n cS) rfl _ _ rfl rfl m hvl hown W2.heap.size 1 rfl cB rfl (by omega) hba ?_;intro v' W5 h6 h7 h8;have hx5:Bx W5 M 130 #[x0,x1,x2,.int .i64 most,.slice sa m sc,.map (some r)]:=(h7.block M hxb.lt (fun e=>abl e.symm)).trans hxb;obtain⟨lv,cv,rfl⟩:=aU h6)
     | ((with_reducible refine VH ?_);refine AX.aB (o:=4) (v:=.slice lv (m+1) cv) rfl rfl rfl adH hx5 (show 4<6 by decide) ?_;rintro W6 g3' g4' g5'))
    have hx6:Bx W6 M 130 #[x0,x1,x2,.int .i64 most,.slice lv (m+1) cv,.map (some r)]:=g3';have hl6:Below 0 W5 W6:=AX.ah (af0 _) (.inl hx6.lt) g4' g5';have r5:W5.heap[r]?=some (.map (eY 0 T).toArray T.length):=(h7.block r (afF.1 HMa.map).1 (fun e=>HMa.ner e.symm)).trans HMa.map;have r6:W6.heap[r]?=some (.map (eY 0 T).toArray T.length):=(g4' r (fun e=>HMa.ne e.symm)).trans r5;have hSa:SAt (W2.alloc (.cells #[.slice aS n cS] 25)) (aT M r (.slice sa m sc) oth) (.slice aS n cS) S:=by
     have:=HS.out.ch (Ch.of_below (hb2.trans (hWa.mono hb2.size)) _);rw[<-HN.out]at this;exact this
    have c6:Ch (aT M r (.slice sa m sc) oth) (W2.alloc (.cells #[.slice aS n cS] 25)) W6:=(Ch.tX h7 fun g hg=>by unfold aT;simp[hg]).trans (Ch.ni (A:=M) hl6 g4' (by unfold aT;simp));have hS6:=hSa.ch c6;have hMr:=HMa.ne;have hk6:∀X,Ch [r] W6 X->Calls Tryz.prog 101 #[.slice aS n cS] X fun e w'=>e=.returned (.string ks)/\Below X.heap.size X w':=fun X hX=>by
     obtain⟨a',c',he,hI⟩:=(hS6.ch (hX.mono fun b hb _=>by unfold aT;simp at hb;simp[hb])).VE
     cases he
     rw[HKS.out];have:=Xy S hSl hSm aS cS X hI;rw[<-HN.out]at this;exact this
    obtain⟨C,hCi,hCo⟩:∃C:World->Prop,(∀X,C X->Ch [r] W6 X)/\∀X,Ch [r] W6 X->C X:=⟨fun X=>Ch [r] W6 X,fun _ h=>h,fun _ h=>h⟩;have hC0:C W6.drew:=hCo _ (Ch.of_below (afI _ W6).drew _);haveI:Inhabited (AX.CW C):=⟨⟨_,hC0⟩⟩;have hc5:∀p:AX.CW C,p.W.cell? ⟨M,5,none⟩=some (.map (some r)):=fun p=>((hCi _ p.h).bx hx6 (by simpa using hMr)).cell 5;have HCi:=hid hCi;have HCo:=hid hCo;have abm:=hid HMa;have H6:=hid h6;have H8:=hid h8;have HSa:=hid hSa;clear h6 h8 g3' hx5 hxb hown abl hSa c6 hS6 HMa HM2 cB hCi hCo g3 g4 r5;refine AX.gJ (C:=fun W=>∃p:AX.CW C,W=p.W) LM _ (by kernel_rfl) (by kernel_rfl) rfl (by kernel_rfl) (by kernel_rfl) (by intro c a d v w h;cases d<;>exact h) ⟨⟨_,hC0⟩,rfl⟩ ?_;unfold LM
    repeat (refine AX.dD _ (by rfl) ?_;go_big_quiet_step (fail);refine afQ ?_)
    refine AX.pY (hk6 _ (HCi.out _ hC0)) (by rfl) (by rfl) (by rfl) Tryz.func101 (by kernel_rfl) (by rfl) (by simp only[agh,agd,agm];rfl) ?_;rintro e W7 ⟨rfl,hb7⟩;have c7:Ch [r] W6 W7:=(HCi.out _ hC0).trans (Ch.of_below hb7 _);have r7:W7.heap[r]?=some (.map (eY 0 T).toArray T.length):=(hb7.block r (afF.1 r6).1).trans r6;refine⟨_,rfl,⟨⟨_,HCo.out _ c7⟩,rfl⟩,?_⟩;simp only[Act.put,afH,afL,afM];refine AX.kH _ (by rfl) (by rfl) ?_;refine JV HMm.out HKS.out (by rfl) (by rfl) (by rfl) r7 hSm abm.out.small (by rw[<-HMm.out,<-HF.out];exact HFM.out) ?_;intro W8 hm8 hb8;have c8:Ch [r] W6 W8:=c7.trans (Ch.wB hb8 (by simp));refine⟨⟨⟨_,HCo.out _ c8⟩,rfl⟩,?_⟩;have hp:=abm.out.push HSa.out hSm (v':=.slice lv (m+1) cv) (by rw[<-HMm.out];exact H6.out) h7 H8.out hx6 g4' hl6 c8 hm8;have abn:Ch (aT M r (.slice sa m sc) []) W (W2.alloc (.cells #[.slice aS n cS] 25)):=Ch.of_below (hb2.trans (hWa.mono hb2.size)) _;have HP:=hid hp;have hzz:W.heap.size<=(W2.alloc (.cells #[.slice aS n cS] 25)).heap.size:=agb hb2.size hWa.size;have HWa:=hid abn;have HZ:=hid hzz;clear hp abn hzz hk6 hc5;unfold AX.fP;go_wp2_with fail
    exact afJ (v:=.tuple #[.int .i64 m,.bool true]) (by simp[results,Tryz.results62,go_sem]) rfl (.inr ⟨m,T++[S],_,_,HA.out,rfl,HP.out.1,HWa.out.trans HP.out.2,H8.out.imp id fun e=>⟨_,e,HZ.out⟩⟩)
end
section
open Go Go.Proofs Go.RowKit Go.Shelf
attribute [local go_sem] Oper.semAt_some
theorem kL.below{n b a0 a1 a2 a3:Nat}{w w':World}(h:kL b a0 a1 a2 a3 w)(hb:Below n w w')(hn:b<n):kL b a0 a1 a2 a3 w':=
 ⟨(hb.cell (p:=⟨b,0,none⟩) hn).trans h.1,(hb.cell (p:=⟨b,1,none⟩) hn).trans h.2.1,(hb.cell (p:=⟨b,2,none⟩) hn).trans h.2.2.1,(hb.cell (p:=⟨b,3,none⟩) hn).trans h.2.2.2⟩
theorem Ac(a0 a1 a2 a3:Nat)(w:World):
  Calls Tryz.prog 67 #[.agg #[.int .u64 a0,.int .u64 a1,.int .u64 a2,.int .u64 a3]] w fun e w'=>e=.returned (.func (.func 110) #[] #[.pointer (some ⟨w.heap.size,0,none⟩)])/\w'=w.alloc (.cells #[.int .u64 a0,.int .u64 a1,.int .u64 a2,.int .u64 a3] 116):=by
 go_enter Tryz.func67,Tryz.ntmps67
 go_wp2
 go_ret
 exact⟨rfl,rfl⟩
def BD(n:Nat)(w w':World):Prop:=Below n w w'/\w'.drawn=w.drawn
theorem BD.refl(n:Nat)(w:World):BD n w w:=⟨afI _ _,rfl⟩
theorem BD.alloc{n:Nat}{w w':World}(h:BD n w w')(hn:n<=w'.heap.size)(o:Obj):BD n w (w'.alloc o):=⟨h.1.alloc hn o,h.2⟩
theorem BD.setCell{n:Nat}{w w':World}(h:BD n w w')(B i:Nat)(hn:n<=B)(v:Value):BD n w (w'.setCell ⟨B,i,none⟩ v):=⟨h.1.setCell (p:=⟨B,i,none⟩) hn v,h.2⟩
theorem BD.putObj{n:Nat}{w w':World}(h:BD n w w')(l:Nat)(hn:n<=l)(o:Obj):BD n w (w'.putObj l o):=
 ⟨h.1.trans ⟨rfl,rfl,rfl,by simp[World.putObj],fun k hk=>World.putObj_heap_other (by omega)⟩,h.2⟩
theorem BD.grow{w w':World}(h:BD w.heap.size w w'):∃os,w'=Go.Sort.grow w os:=by
 obtain⟨⟨h1,h2,h3,h4,h5⟩,h6⟩:=h;refine⟨w'.heap.extract w.heap.size w'.heap.size,?_⟩;have hh:w'.heap=w.heap++w'.heap.extract w.heap.size w'.heap.size:=by
  apply Array.ext_getElem?;intro i;rw[Array.getElem?_append];split
  ·exact h5 i (by assumption)
  ·rw[Array.getElem?_extract]
   split
   ·congr 1
    omega
   ·exact agR (by omega)
 cases w
 cases w'
 simp only[Go.Sort.grow]at *;subst h1 h2 h3 h6
 congr 1
def lst(l:List Nat):Nat:=l.headD 0
theorem VU(a0 a1 a2 a3 k:Nat)(hk:k<=256):∃t,ig a0 a1 a2 a3=upB a0 a1 a2 a3 k++t:=by
 have e:List.range 256=List.range k++(List.range (256-k)).map (k + ·):=by
  rw[<-List.range_add]
  congr 1
  omega
 unfold ig upB;rw[e,List.filter_append];exact⟨_,rfl⟩
theorem J5{g:Operand}{assign body:Code}{Q:Exit->Act->World->Prop}{a:Act}{W4:World}{b:Nat}{t:Tmp}(hg:a.eval g=.func (.func 110) #[] #[.pointer (some ⟨b,0,none⟩)])
  (a0 a1 a2 a3:Nat) (hw:wlt a0 a1 a2 a3) (hT:TabAt W4) (hC:kL b a0 a1 a2 a3 W4) (hb:b<W4.heap.size) (h0:0<W4.heap.size) (I:Nat->World->Prop)
  (hI:∀x W l o,I x W->W4.heap.size<=l->I x (W.putObj l o))
  (Zh:∀(l x:Nat)(W:World)(K:Act->World->Prop),x<256 ->
   (∀a1:Act,(∀Wb,BD W4.heap.size W4 Wb->body.wpIn (Fence.wide.inRound l) 2 Tryz.prog (fun e _ W'=>e=.ret/\I x W'/\∀k,W4.heap.size<=k->W'.heap[k]?=Wb.heap[k]?) a1 Wb)->K a1 W) ->
   assign.wpIn (Fence.wide.inRound l) 2 Tryz.prog (Exit.then K (fun _ _ _=>False)) {tmps:=a.tmps.setIfInBounds t (.int .u8 x),defers:=[]} W)
  (hdone:ig a0 a1 a2 a3=[]->∀(D:Nat)(W:World),W4.heap.size<=D->BD W4.heap.size W4 W->W.heap[D]?=some (.deferred (some []))->Q .normal {a with defers:={target:=.collected D,args:=#[]}::a.defers} W)
  (hstop:∀(x D:Nat)(W:World),ig a0 a1 a2 a3=x::(ig a0 a1 a2 a3).tail->W4.heap.size<=D->I x W->W.heap[D]?=some (.deferred (some []))->Code.ret.wpIn Fence.wide 4 Tryz.prog Q {a with defers:={target:=.collected D,args:=#[]}::a.defers} W):
  (Code.rangeFunc g #[t] assign body).wpIn Fence.wide 4 Tryz.prog Q a W4:=by
 have eg:∀args w,(callFunc 110 args).run Tryz.prog w=.ok (.enter 110 args) w:=enters_of Tryz.func110 (by kernel_rfl) rfl;refine wpIn_rangeFunc ?_;intro fn hfn;obtain⟨rec,hrec⟩:∃rec:LoopState->Option Code->Loop,rec=fun st pe=>{state:=st,pending:=pe,fn,tmps:=a.tmps,params:=#[t],assign,body,defers:=W4.heap.size}:=⟨_,rfl⟩;obtain⟨W6,hW6⟩:∃W6,(W4.alloc (.deferred (some []))).alloc (.loop (rec .ready none))=W6:=⟨_,rfl⟩;have hL:W6.heap[W4.heap.size+1]?=some (.loop (rec .ready none)):=by
  rw[<-hW6];have:=World.alloc_heap_new (W4.alloc (.deferred (some []))) (.loop (rec .ready none));rwa [World.size_alloc]at this
 have hD:W6.heap[W4.heap.size]?=some (.deferred (some [])):=by
  rw[<-hW6];exact (Below.heap_alloc _ _ _ (by simp)).trans (World.alloc_heap_new W4 _)
 have hB6:BD W4.heap.size W4 W6:=by rw[<-hW6];exact ((BD.refl _ W4).alloc afD _).alloc (by simp) _
 refine⟨W4.heap.size+1,[{target:=.collected W4.heap.size,args:=#[]}],W6,{target:=.fn (.func 110) #[.pointer (some ⟨b,0,none⟩)],args:=#[.func (.yield (W4.heap.size+1)) #[] #[]]},W6,110,
  #[.func (.yield (W4.heap.size+1)) #[] #[],.pointer (some ⟨b,0,none⟩)],W6,?_,?_,fun _ _=>trivial,?_,fun _=>by decide,?_⟩
 ·rw[<-hW6,hrec];exact run_enterLoop_outer _ _ _ _ _
 ·simp only[resolve,hg]
  simp[go_sem]
 ·simp[invoke,go_sem,eg]
 have hT6:TabAt W6:=hT.below hB6.1 h0;have hC6:kL b a0 a1 a2 a3 W6:=hC.below hB6.1 hb;refine(uh Fence.wide 3 trivial trivial rfl (by decide) (W4.heap.size+1) b 1 a0 a1 a2 a3 hw (by decide) (fun pre W=>pre=[]/\W=W6)
  (fun pre W=>∃x,pre=[x]/\I x W/\W.heap[W4.heap.size+1]?=some (.loop (rec .done (some .ret)))/\W.heap[W4.heap.size]?=some (.deferred (some []))) ?_ W6 hT6 hC6 ⟨rfl,rfl⟩).mono ?_
 ·rintro pre x W ⟨rfl,rfl⟩ - hx
  refine⟨fn,_,assign,body,by have:=run_yield (P:=Tryz.prog) (args:=#[.int .u8 (x:Nat)]) hL (by rw[hrec];rfl);rw[hrec]at this;refine this.trans ?_;simp,roundIn_of_wpIn hfn (Zh _ x W _ hx fun a1 hb1=>⟨_,run_beginRound hL (by rw[hrec]),?_⟩)⟩;have hl2:(W.putObj (W4.heap.size+1) (.loop {rec .ready none with state:=.busy})).heap[W4.heap.size+1]?=some (.loop {rec .ready none with state:=.busy}):=World.putObj_heap_same (afF.1 hL).1;have hk2:(W.putObj (W4.heap.size+1) (.loop {rec .ready none with state:=.busy})).heap[W4.heap.size]?=some (.deferred (some [])):=(World.putObj_heap_other (by omega)).trans hD;refine wpIn_mono (hb1 _ (hB6.putObj _ (by omega) _)) ?_;rintro e a3 W3 ⟨rfl,hi,hk⟩;have hl3:=(hk _ (by omega)).trans hl2;refine⟨_,_,run_endRound _ hl3,.inr ⟨rfl,x,rfl,hI _ _ _ _ hi (by omega),?_,?_⟩⟩
  ·rw[hrec];rw[hrec]at hl3;exact World.putObj_heap_same (afF.1 hl3).1
  ·exact (World.putObj_heap_other (by omega)).trans ((hk _ (by omega)).trans hk2)
 ·rintro e W2 ⟨⟨v,rfl⟩,(⟨ys,hys,rfl,rfl⟩|⟨pre,⟨k,hk,hp⟩,x,rfl,hi,hl,hd⟩)⟩
  ·exact⟨none,_,by have:=run_endLoop (P:=Tryz.prog) hL (by rw[hrec];simp);rw[hrec]at this;exact this,hdone hys.symm _ _ afD (hB6.putObj _ (by omega) _) ((World.putObj_heap_other (by omega)).trans hD)⟩
  ·refine⟨some .ret,_,by have:=run_endLoop (P:=Tryz.prog) hl (by rw[hrec];simp);rw[hrec]at this;exact this,hstop x _ _ ?_ afD (hI _ _ _ _ hi (by omega)) ((World.putObj_heap_other (by omega)).trans hd)⟩
   obtain⟨tl,ht⟩:=VU a0 a1 a2 a3 k hk;rw[<-hp]at ht;rw[ht];rfl
theorem G9(a0 a1 a2 a3:Nat)(hw:wlt a0 a1 a2 a3)(w:World)(hp:0<w.heap.size)(hT:TabAt w):
  Calls Tryz.prog 65 #[.agg #[.int .u64 a0,.int .u64 a1,.int .u64 a2,.int .u64 a3]] w fun e w'=>e=.returned (.tuple #[.int .u8 (lst (ig a0 a1 a2 a3):Nat),.bool !(ig a0 a1 a2 a3).isEmpty])/\BD w.heap.size w w':=by
 refine(callsIn_wide (n:=4)).1 ?_;have h1:1<=4:=by omega
 have hE:=fun W=>callsIn_wide (n:=3) |>.2 (Ac a0 a1 a2 a3 W);have h26:Fence.wide.fn 67:=trivial;have HE:=Lib.hid hE;clear hE;obtain⟨W4,hW4⟩:=afC ((((w.alloc (.cells #[.int .u64 a0,.int .u64 a1,.int .u64 a2,.int .u64 a3] 116)).alloc (.cells #[.int .u8 0] 5)).alloc (.cells #[.bool false] 4)).alloc (.cells #[.int .u64 a0,.int .u64 a1,.int .u64 a2,.int .u64 a3] 116));have hsz:W4.heap.size=w.heap.size+1+1+1+1:=by rw[hW4];simp
 have hB4:BD w.heap.size w W4:=by rw[hW4];exact ((((BD.refl _ w).alloc afD _).alloc (by simp) _).alloc (by simp;omega) _).alloc (by simp;omega) _
 have b1:Boxed W4 (w.heap.size+1) 5 (.int .u8 0):=by
  have:=Boxed.new (w.alloc (.cells #[.int .u64 a0,.int .u64 a1,.int .u64 a2,.int .u64 a3] 116)) 5 (.int .u8 0);simp only[World.size_alloc]at this;rw[hW4];exact(this.alloc _).alloc _
 have b2:Boxed W4 (w.heap.size+1+1) 4 (.bool false):=by
  have:=Boxed.new ((w.alloc (.cells #[.int .u64 a0,.int .u64 a1,.int .u64 a2,.int .u64 a3] 116)).alloc (.cells #[.int .u8 0] 5)) 4 (.bool false);simp only[World.size_alloc]at this;rw[hW4];exact this.alloc _
 have hC4:kL (w.heap.size+1+1+1) a0 a1 a2 a3 W4:=by rw[hW4];exact⟨by go_simp,by go_simp,by go_simp,by go_simp⟩
 have hT4:=hT.below hB4.1 hp;have HW:=Lib.hid hW4;have HS:=Lib.hid hsz;clear hW4 hsz hT;refine callsIn_of_wp_marks (F:=Fence.wide) Tryz.func65 rfl trivial ?_ rfl;simp only[Tryz.ntmps65,ahG,agl,ahJ,Nat.reduceAdd,Nat.reduceSub,ahA,ahB,ahU,ahK,ahq,ahs];gi_wp2_with (gi_at_call 67;refine (HE.out _).mono ?_;rintro e w' ⟨rfl,rfl⟩)
 rw[<-HW.out];refine J5 (b:=w.heap.size+1+1+1) (by rfl) a0 a1 a2 a3 hw hT4 hC4 (by rw[HS.out];omega) (by rw[HS.out];omega)
  (fun x W=>BD w.heap.size w W/\Boxed W (w.heap.size+1) 5 (.int .u8 (x:Nat))/\Boxed W (w.heap.size+1+1) 4 (.bool true)) ?_ ?_ ?_ ?_
 ·rintro x W l o ⟨h1,h2,h3⟩ hl
  rw[HS.out]at hl;exact⟨h1.putObj _ (by omega) _,(World.putObj_heap_other (by omega)).trans h2,(World.putObj_heap_other (by omega)).trans h3⟩
 ·intro l x W K hx hK
  gi_wp2
  intro Wb hWb;have hs4:=HS.out;have d1:Boxed Wb (w.heap.size+1) 5 (.int .u8 0):=(hWb.1.block _ (by omega)).trans b1;have d2:Boxed Wb (w.heap.size+1+1) 4 (.bool false):=(hWb.1.block _ (by omega)).trans b2;have c1:=d1.cell;have f1:=d1.frozen;have c2:=d2.cell;have f2:=d2.frozen;gi_wp2
  refine⟨⟨?_,?_,?_⟩,?_⟩
  ·have hB:BD w.heap.size w Wb:=⟨hB4.1.trans (hWb.1.mono (by omega)),hWb.2.trans hB4.2⟩
   exact(hB.setCell _ _ (by omega) _).setCell _ _ (by omega) _
  ·exact(d1.set _).other (by omega) _
  ·exact(d2.other (by omega) _).set _
  ·intro k hk
   rw[Below.heap_setCell _ _ _ _ (by show k≠w.heap.size+1+1;omega),Below.heap_setCell _ _ _ _ (by show k≠w.heap.size+1;omega)]
 ·intro he D W hD hB hk
  have hs4:=HS.out;have d1:Boxed W (w.heap.size+1) 5 (.int .u8 0):=(hB.1.block _ (by omega)).trans b1;have d2:Boxed W (w.heap.size+1+1) 4 (.bool false):=(hB.1.block _ (by omega)).trans b2;have c1:=d1.cell;have f1:=d1.frozen;have c2:=d2.cell;have f2:=d2.frozen;have hBW:BD w.heap.size w W:=⟨hB4.1.trans (hB.1.mono (by omega)),hB.2.trans hB4.2⟩;gi_wp2
  have e1:=(d1.set (.int .u8 0)).other (show w.heap.size+1≠w.heap.size+1+1 by omega) (.bool false);have e2:=(d2.other (show w.heap.size+1+1≠w.heap.size+1 by omega) (.int .u8 0)).set (.bool false);have hK':=((KeepsOthers.setCell W ⟨w.heap.size+1,0,none⟩ (.int .u8 0)).trans (KeepsOthers.setCell _ ⟨w.heap.size+1+1,0,none⟩ (.bool false))).same D _ hk rfl;have hB2:=(hBW.setCell (w.heap.size+1) 0 (by omega) (.int .u8 0)).setCell (w.heap.size+1+1) 0 (by omega) (.bool false);generalize ((W.setCell ⟨w.heap.size+1,0,none⟩ (.int .u8 0)).setCell ⟨w.heap.size+1+1,0,none⟩ (.bool false))=W1 at e1 e2 hK' hB2⊢;refine⟨by simp,.inl ⟨_,_,rfl,run_takeDeferred hK',?_⟩⟩;have g1:=cell_kept e1.cell (grownBy_putObj' W1 D (.deferred none)) (fun r e=>by cases e;exact⟨_,hK',rfl⟩);have g2:=cell_kept e2.cell (grownBy_putObj' W1 D (.deferred none)) (fun r e=>by cases e;exact⟨_,hK',rfl⟩);refine⟨.tuple #[.int .u8 (lst (ig a0 a1 a2 a3):Nat),.bool !(ig a0 a1 a2 a3).isEmpty],?_,rfl,hB2.putObj _ (by omega) _⟩;rw[he];simp[results,Tryz.f36,go_sem,g1,g2,lst]
 ·rintro x D W hx hD ⟨hBW,e1,e2⟩ hk
  have hs4:=HS.out;gi_wp2
  refine⟨by simp,.inl ⟨_,_,rfl,run_takeDeferred hk,?_⟩⟩;have g1:=cell_kept e1.cell (grownBy_putObj' W D (.deferred none)) (fun r e=>by cases e;exact⟨_,hk,rfl⟩);have g2:=cell_kept e2.cell (grownBy_putObj' W D (.deferred none)) (fun r e=>by cases e;exact⟨_,hk,rfl⟩);refine⟨.tuple #[.int .u8 (lst (ig a0 a1 a2 a3):Nat),.bool !(ig a0 a1 a2 a3).isEmpty],?_,rfl,hBW.putObj _ (by omega) _⟩;rw[hx];simp[results,Tryz.f36,go_sem,g1,g2,lst]
end
section
open Go Go.Proofs Go.RowKit Go.Shelf Go.Lib Go.Sort
attribute [local go_sem] Oper.semAt_some
def zQ(a b:Nat):Int:=if a<b then -1 else if b<a then 1 else 0
def bI(x:Kl):List Value:=[.int .u64 (x.a:Nat),.int .u64 (x.b:Nat),.int .u64 (x.c:Nat),.int .u64 (x.d:Nat)]
theorem Oc(a b:Nat)(w:World):Calls Tryz.prog 107 #[.int .u8 (a:Nat),.int .u8 (b:Nat)] w fun e w'=>e=.returned (.int .i64 (zQ a b))/\w'=w:=by
 by_cases h1:a<b
 ·have e:zQ a b = -1:=by simp[zQ,h1]
  rw[e];have d1:decide ((a:Int)<(b:Int))=true:=by simp;omega
  go_enter Tryz.func107,Tryz.ntmps107
  go_wp2
  go_ret
  exact⟨rfl,rfl⟩
 ·by_cases h2:b<a
  ·have e:zQ a b=1:=by simp[zQ,h1,h2]
   rw[e];have d1:decide ((a:Int)<(b:Int))=false:=(by simp;omega);have d2:decide ((b:Int)<(a:Int))=true:=(by simp;omega);go_enter Tryz.func107,Tryz.ntmps107
   go_wp2
   go_ret
   exact⟨rfl,rfl⟩
  ·have e:zQ a b=0:=by simp[zQ,h1,h2]
   rw[e];have d1:decide ((a:Int)<(b:Int))=false:=(by simp;omega);have d2:decide ((b:Int)<(a:Int))=false:=(by simp;omega);go_enter Tryz.func107,Tryz.ntmps107
   go_wp2
   go_ret
   exact⟨rfl,rfl⟩
theorem EI(x:Kl)(w:World)(hp:0<w.heap.size)(hT:TabAt w):Calls Tryz.prog 65 #[.agg (bI x).toArray] w fun e w'=>e=.returned (.tuple #[.int .u8 (x.low:Nat),.bool !x.by_.isEmpty])/\BD w.heap.size w w':=
 G9 x.a x.b x.c x.d x.h w hp hT
theorem Oe(x y:Kl)(w:World)(hp:0<w.heap.size)(hT:TabAt w):Calls Tryz.prog 106 #[.agg (bI x).toArray,.agg (bI y).toArray] w fun e w'=>e=.returned (.int .i64 (zQ x.low y.low))/\BD w.heap.size w w':=by
 have hl:∀W,Hid (BD w.heap.size w W)->Calls Tryz.prog 65 _ W _:=fun W h=>EI x W (afN hp h.out.1.size) (hT.below h.out.1 hp);have hr:∀W,Hid (BD w.heap.size w W)->Calls Tryz.prog 65 _ W _:=fun W h=>EI y W (afN hp h.out.1.size) (hT.below h.out.1 hp);have hc:=Oc x.low y.low;have HL:=Lib.hid hl;have HR:=Lib.hid hr;clear hl hr;obtain⟨xa,xb,xc,xd,xh⟩:=x;obtain⟨ya,yb,yc,yd,yh⟩:=y;simp only[bI]at *;generalize (⟨xa,xb,xc,xd,xh⟩:Kl).low=p at *;generalize (⟨ya,yb,yc,yd,yh⟩:Kl).low=q at *;generalize (⟨xa,xb,xc,xd,xh⟩:Kl).by_=px at *;generalize (⟨ya,yb,yc,yd,yh⟩:Kl).by_=qx at *;generalize zQ p q=r at *;have HC:=Lib.hid hc;clear hc;obtain⟨W1,hW1⟩:=afC ((w.alloc (.cells #[.int .u64 (xa:Nat),.int .u64 (xb:Nat),.int .u64 (xc:Nat),.int .u64 (xd:Nat)] 116)).alloc (.cells #[.int .u64 (ya:Nat),.int .u64 (yb:Nat),.int .u64 (yc:Nat),.int .u64 (yd:Nat)] 116));have hB1:BD w.heap.size w W1:=by rw[hW1];exact ((BD.refl _ w).alloc afD _).alloc (by simp) _
 have c2:kL (w.heap.size+1) ya yb yc yd W1:=by rw[hW1];exact⟨by go_simp,by go_simp,by go_simp,by go_simp⟩
 have hs1:W1.heap.size=w.heap.size+1+1:=by rw[hW1];simp
 have HW:=Lib.hid hW1;clear hW1;go_enter Tryz.func106,Tryz.ntmps106
 go_wp2_with fail
 rw[<-HW.out];refine (HL.out _ hB1).mono ?_;rintro e W2 ⟨rfl,hB2⟩;have c3:=c2.below hB2.1 (by omega);have hB2':BD w.heap.size w W2:=⟨hB1.1.trans (hB2.1.mono (by omega)),hB2.2.trans hB1.2⟩;obtain⟨d0,d1,d2,d3⟩:=c3;go_wp2_with fail
 refine (HR.out _ hB2').mono ?_;rintro e W3 ⟨rfl,hB3⟩;have adC:BD w.heap.size w W3:=⟨hB2'.1.trans (hB3.1.mono hB2'.1.size),hB3.2.trans hB2'.2⟩;clear d0 d1 d2 d3;go_wp2_with (go_at_call 107;refine (HC.out _).mono ?_;rintro e w' ⟨rfl,rfl⟩)
 go_ret
 exact⟨rfl,adC⟩
end
end Go.Proofs.YtkjgogdkdejljaaGreatDoor.Df
