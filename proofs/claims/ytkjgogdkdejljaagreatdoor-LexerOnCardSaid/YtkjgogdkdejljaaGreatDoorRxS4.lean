import Derived.Test.YtkjgogdkdejljaaGreatDoorRxQ0
set_option maxRecDepth 100000
set_option maxHeartbeats 40000000
namespace Go.Proofs.YtkjgogdkdejljaaGreatDoor.Rx
open Go Go.Proofs Go.RowKit
attribute [local go_sem] Oper.semAt_some
def bJ(W:World)(base:Nat)(v:Value)(l:List Int):Prop:=W.ownsRow base 3 1 v l.length (l.map (Value.int .i64))
theorem Rh{ops:Array Oper}{rest:List Oper}{o:Oper}{a:Act}{Q:Exit→Act→World→Prop}(W:World)(base:Nat)(v:Value)(pre:List Int)(x:Int)(hgd:o.guard=none)(s y:Operand)
  (ho:o.op = .call { callee := .builtin .append,args:=#[s,y],argTypes:=#[25,25] }) (hs:a.eval s=v) (hown:bJ W base v pre) (B c:Nat) (hx:a.eval y = .slice (some ⟨B,0,none⟩) 1 c)
  (hc:W.cell? ⟨B,0,none⟩=some (.int .i64 x)) (hl:pre.length≤100000) (hb:base≤W.heap.size)
  (h:∀ v' w',bJ w' base v' (pre++[x])→W.grownBy w' v.ownBlock→(v'.ownBlock=v.ownBlock∨v'.ownBlock=some W.heap.size)→wpList Tryz.prog ops Q rest (a.put o.dst v') w'):wpList Tryz.prog ops Q (o::rest) a W:=by
 obtain⟨ti,hi,hz0,hz1,hz2⟩:=info_parts info3';refine wpList_append_own_at (P:=Tryz.prog) (w:=W) hgd s y 25 ho base 3 ti (.int .i64 0) 1 8 Tryz.underlying25 hi hz0 hz1 hz2 rfl (by decide) v pre.length _ hs hown ⟨B,0,none⟩ 1 c [.int .i64 x] hx rfl
  (fun j u hj=>by
   rw[addr_add,Nat.zero_add]
   cases j with
   | zero=>simp at hj;rw[←hj];exact hc
   | succ j=>simp at hj) (fun u hu=>by rw[List.mem_singleton.1 hu];rfl) (by unfold maxLen;omega) (by omega) hb ?_
 intro v' w' h1 h2 _ h4;refine h v' w' ?_ h2 h4;unfold bJ;rw[List.length_append,List.map_append];exact h1
theorem UK:(Tryz.prog.info? 153).map (fun i=>(i.zero,i.size,i.bytes))=some (some (.agg #[.int .i64 0, .int .u64 0, .int .u64 0, .int .u64 0, .int .u64 0, .slice none 0 0]),6,64):=by kernel_rfl
structure NL where
 x:Nd
 kv:Value
def NC(y:NL):List Value:=[.int .i64 y.x.k, .int .u64 (y.x.a:Nat), .int .u64 (y.x.b:Nat), .int .u64 (y.x.c:Nat), .int .u64 (y.x.d:Nat),y.kv]
def Ba(W:World)(base:Nat)(v:Value)(l:List NL):Prop:=W.ownsRow base 153 6 v l.length (l.flatMap NC)
def KAt(W:World)(own:Option Nat)(kv:Value)(l:List Int):Prop:=(kv = .slice none 0 0∧l = [])∨∃ B c cs,kv = .slice (some ⟨B,0,none⟩) l.length (l.length+c)∧W.heap[B]?=some (.cells cs 3 (0,0))∧some B≠own∧∀ i x,l[i]?=some x→W.cell? ⟨B,i,none⟩=some (.int .i64 x)
theorem KAt.ird{W:World}{own:Option Nat}{kv:Value}{l:List Int}(h:KAt W own kv l):IRd W kv l:=by
 rcases h with ⟨rfl,rfl⟩ | ⟨B,c,cs,rfl,h1,_,h3⟩
 ·exact⟨none,0,rfl,fun _=>rfl,fun a e=>by cases e⟩
 ·refine⟨some ⟨B,0,none⟩,c,rfl,(fun e=>by cases e),fun a e _=>?_⟩
  obtain rfl:=Option.some.inj e;exact⟨B,0,rfl,(Array.getElem?_eq_some_iff.1 h1).1,fun i x hx=>by rw[Nat.zero_add];exact h3 i x hx⟩
theorem KAt.same{W W':World}{own own':Option Nat}{kv:Value}{l:List Int}(h:KAt W own kv l)(h1:∀ B cs,W.heap[B]?=some (.cells cs 3 (0,0))→some B≠own→W'.heap[B]?=W.heap[B]?∧some B≠own'):KAt W' own' kv l:=by
 rcases h with h | ⟨B,c,cs,rfl,g1,g2,g3⟩
 ·exact .inl h
 ·obtain⟨e1,e2⟩:=h1 B cs g1 g2
  exact .inr ⟨B,c,cs,rfl,e1.trans g1,e2,fun i x hx=>(dh e1).trans (g3 i x hx)⟩
theorem KAt.vP{W:World}{base:Nat}{v:Value}{l:List Int}{own:Option Nat}(h:bJ W base v l)(hn:∀ g,v.ownBlock=some g→some g≠own):KAt W own v l:=by
 rcases h.2 with ⟨rfl,h0⟩ | ⟨g,cap,cur,rfl,hg,hh,rest⟩
 ·exact .inl ⟨rfl,List.eq_nil_of_length_eq_zero h0⟩
 ·refine .inr ⟨g,cap-l.length,cur,by rw[show l.length+(cap-l.length)=cap by have:=rest.1;omega],hh,hn g rfl,fun i x hx=>?_⟩
  have:=World.ownsRow.cells h (g:=g) rfl i (.int .i64 x) (by rw[List.getElem?_map,hx];rfl)
  rwa [addr_add,Nat.zero_add] at this
theorem Ba.ac5{W:World}{base:Nat}{own:Option Nat}{v:Value}{l:List NL}(h:Ba W base v l)(hk:∀ y∈l,KAt W own y.kv y.x.kids):jk W v (l.map (·.x)):=by
 rcases h.2 with ⟨e,hn⟩ | ⟨g,cap,cur,e,hg,hh,rest⟩
 ·obtain rfl:l = []:=List.eq_nil_of_length_eq_zero hn
  exact⟨none,0,e,fun _=>rfl,fun a e=>by cases e⟩
 ·refine⟨some ⟨g,0,none⟩,cap,by rw[e,List.length_map],(fun e=>by cases e),fun a ea _=>?_⟩
  obtain rfl:=Option.some.inj ea;refine⟨g,0,rfl,(Array.getElem?_eq_some_iff.1 hh).1,fun i x hx=>?_⟩;rw[List.getElem?_map] at hx
  cases hy:l[i]? with
  | none=>rw[hy] at hx;cases hx
  | some y =>
   rw[hy] at hx;obtain rfl:y.x=x:=by simpa using hx
   have hc:∀ q v,(NC y)[q]?=some v→W.cell? ⟨g,0+i*6+q,none⟩=some v:=fun q v hv=>by
    have:=World.ownsRow.cells h (g:=g) (by rw[e];rfl) (i*6+q) v (flat_get NC 6 (fun _=>rfl) l i y hy q v hv);rw[addr_add,Nat.zero_add] at this;rw[Nat.zero_add];exact this
   exact⟨hc 0 _ rfl,hc 1 _ rfl,hc 2 _ rfl,hc 3 _ rfl,hc 4 _ rfl,y.kv,hc 5 _ rfl,(hk y (List.mem_of_getElem? hy)).ird⟩
def nH(f:Value×Value):List Value:=[f.1,f.2]
def jA(W:World)(base:Nat)(v:Value)(l:List (Value×Value)):Prop:=W.ownsRow base 165 2 v l.length (l.flatMap nH)
def dQ(t:TypeId)(W W':World):Prop:=∀(j:Nat)(cs:Array Value)(e:TypeId),W.heap[j]?=some (.cells cs e (0,0))→e≠t→W'.heap[j]?=W.heap[j]?
theorem aC{W W':World}{base:Nat}{e t:TypeId}{size n:Nat}{v:Value}{xs:List Value}(h:W.ownsRow base e size v n xs)(hs:dQ t W W')(hne:e≠t):W'.ownsRow base e size v n xs :=
 bY h fun g hg=>by obtain⟨cs,hc⟩:=iF h g hg;exact hs g cs e hc hne
theorem KAt.aY{W W':World}{own:Option Nat}{kv:Value}{l:List Int}{t:TypeId}(h:KAt W own kv l)(hs:dQ t W W')(hne:(3:Nat)≠t):KAt W' own kv l :=
 h.same fun B cs hB hn=>⟨hs B cs 3 hB hne,hn⟩
theorem aZ{W W':World}{base:Nat}{t:TypeId}{size n:Nat}{v:Value}{xs:List Value}(h:W.ownsRow base t size v n xs)(hg:W.grownBy W' v.ownBlock):dQ t W W' :=
 fun j _ _ hj hne=>hg.block j (Array.getElem?_eq_some_iff.1 hj).1 (uJ h hj hne)
theorem aT{W W':World}{B:Nat}{t:TypeId}{cs:Array Value}(hB:W.heap[B]?=some (.cells cs t (0,0)))(h:∀ j,j≠B→W'.heap[j]?=W.heap[j]?):dQ t W W' :=
 fun j cs' e hj hne=>h j fun e'=>by subst e';rw[hB] at hj;cases hj;exact hne rfl
theorem QX{W W':World}{B:Nat}{t:TypeId}{cs:Array Value}(hB:W.heap[B]?=some (.cells cs t (0,0)))(h:AX.But B W W'):dQ t W W' :=
 fun j cs' e hj hne=>h.same j (Array.getElem?_eq_some_iff.1 hj).1 fun e'=>by subst e';rw[hB] at hj;cases hj;exact hne rfl
def Apart(u v:Value):Prop:=∀ g,u.ownBlock=some g→v.ownBlock≠some g
theorem Apart.symm{u v:Value}(h:Apart u v):Apart v u:=fun g hg hg'=>h g hg' hg
structure St(w W:World)(Rb:Nat)(s:ByteArray)(at_ e:Int)(rv sv:Value)(r:List NL)(fs:List (Value×Value))(rows:List (Value×List Int)):Prop where
 low:Below w.heap.size w W
 rb:w.heap.size≤Rb
 rd:Rdr W Rb s at_ rv sv e
 ro:Ba W w.heap.size rv r
 so:jA W w.heap.size sv fs
 io:∀ p∈rows,bJ W w.heap.size p.1 p.2
 dis:rows.Pairwise fun p q=>Apart p.1 q.1
 ka:∀ y∈r,KAt W none y.kv y.x.kids
 kd:∀ y∈r,∀ p∈rows,Apart p.1 y.kv
 kb:∀ y∈r,∀ g,y.kv.ownBlock=some g→w.heap.size≤g
section
variable {w W W' : World} {Rb : Nat} {s : ByteArray} {at_ e : Int} {rv sv : Value} {r : List NL} {fs : List (Value × Value)} {rows : List (Value × List Int)}
theorem St.below(h:St w W Rb s at_ e rv sv r fs rows)(hb:Below W.heap.size W W'):St w W' Rb s at_ e rv sv r fs rows :=
 ⟨h.low.trans (hb.mono h.low.size),h.rb,h.rd.below hb h.rd.lt,bY h.ro (fun g e=>hb.block _ (World.ownsRow.lt h.ro g e).2),bY h.so (fun g e=>hb.block _ (World.ownsRow.lt h.so g e).2),
  fun p hp=>bY (h.io p hp) (fun g e=>hb.block _ (World.ownsRow.lt (h.io p hp) g e).2),h.dis,fun y hy=>(h.ka y hy).same fun _ _ hB hn=>⟨hb.block _ (Array.getElem?_eq_some_iff.1 hB).1,hn⟩,h.kd,h.kb⟩
theorem St.box{at2 e2:Int}(h:St w W Rb s at_ e rv sv r fs rows)(hb:AX.But Rb W W')(hR:Rdr W' Rb s at2 rv sv e2):St w W' Rb s at2 e2 rv sv r fs rows:=by
 have hs:dQ 168 W W':=QX h.rd hb;exact⟨h.low.trans (((fV.vN (S:=fun j=>j=Rb) hb rfl).below h.low.size (fun k hk=>by rw[hk];exact h.rb))),h.rb,hR,aC h.ro hs (by decide),aC h.so hs (by decide),fun p hp=>aC (h.io p hp) hs (by decide),h.dis,fun y hy=>(h.ka y hy).aY hs (by decide),h.kd,h.kb⟩
theorem St.node{W1 W2:World}{rv':Value}(h:St w W Rb s at_ e rv sv r fs rows)(y:NL)(hk:KAt W none y.kv y.x.kids)(hd:∀ p∈rows,Apart p.1 y.kv)(hkb:∀ g,y.kv.ownBlock=some g→w.heap.size≤g)(hn:Ba W1 w.heap.size rv' (r++[y]))(hg:W.grownBy W1 rv.ownBlock)
  (hR:Rdr W2 Rb s at_ rv' sv e) (h4:∀ j,j≠Rb→W2.heap[j]?=W1.heap[j]?) (h5:AX.Same W1 W2):St w W2 Rb s at_ e rv' sv (r++[y]) fs rows:=by
 have s1:dQ 153 W W1:=aZ h.ro hg;have hR1:Rdr W1 Rb s at_ rv sv e:=(s1 Rb _ 168 h.rd (by decide)).trans h.rd;have s2:dQ 168 W1 W2:=aT hR1 h4;have b1:=(Below.refl w.heap.size W).grown hg h.low.size fun j ej=>(World.ownsRow.lt h.ro j ej).1;have b2:=AX.aj (n:=w.heap.size) h.rb (.inl hR.lt) h4 h5;refine⟨h.low.trans (b1.trans b2),h.rb,hR,aC hn s2 (by decide),aC (aC h.so s1 (by decide)) s2 (by decide),fun p hp=>aC (aC (h.io p hp) s1 (by decide)) s2 (by decide),h.dis,fun z hz=>?_,fun z hz=>?_,fun z hz=>?_⟩
 ·rcases List.mem_append.1 hz with hz | hz
  ·exact ((h.ka z hz).aY s1 (by decide)).aY s2 (by decide)
  ·rw[List.mem_singleton.1 hz];exact(hk.aY s1 (by decide)).aY s2 (by decide)
 ·rcases List.mem_append.1 hz with hz | hz
  ·exact h.kd z hz
  ·rw[List.mem_singleton.1 hz];exact hd
 ·rcases List.mem_append.1 hz with hz | hz
  ·exact h.kb z hz
  ·rw[List.mem_singleton.1 hz];exact hkb
theorem St.drop{p:Value×List Int}(h:St w W Rb s at_ e rv sv r fs (p::rows)):St w W Rb s at_ e rv sv r fs rows :=
 ⟨h.low,h.rb,h.rd,h.ro,h.so,fun q hq=>h.io q (List.mem_cons_of_mem _ hq),(List.pairwise_cons.1 h.dis).2,h.ka,fun y hy q hq=>h.kd y hy q (List.mem_cons_of_mem _ hq),h.kb⟩
theorem St.kids{p:Value×List Int}(h:St w W Rb s at_ e rv sv r fs (p::rows)):KAt W none p.1 p.2∧(∀ q∈rows,Apart q.1 p.1)∧∀ g,p.1.ownBlock=some g→w.heap.size≤g :=
 ⟨KAt.vP (h.io p (List.mem_cons_self ..)) (fun g _=>by simp),fun q hq=>((List.pairwise_cons.1 h.dis).1 q hq).symm,fun g hg=>(World.ownsRow.lt (h.io p (List.mem_cons_self ..)) g hg).1⟩
theorem St.perm{rows':List (Value×List Int)}(h:St w W Rb s at_ e rv sv r fs rows)(p:rows.Perm rows'):St w W Rb s at_ e rv sv r fs rows' :=
 ⟨h.low,h.rb,h.rd,h.ro,h.so,fun q hq=>h.io q (p.mem_iff.2 hq),p.pairwise h.dis Apart.symm,h.ka,fun y hy q hq=>h.kd y hy q (p.mem_iff.2 hq),h.kb⟩
theorem St.num{v v':Value}{l l':List Int}(h:St w W Rb s at_ e rv sv r fs ((v,l)::rows))(ho:bJ W' w.heap.size v' l')(hg:W.grownBy W' v.ownBlock)(hat:v'.ownBlock=v.ownBlock∨v'.ownBlock=some W.heap.size):St w W' Rb s at_ e rv sv r fs ((v',l')::rows):=by
 have hv:=h.io (v,l) (List.mem_cons_self ..);have s1:dQ 3 W W':=aZ hv hg;have b1:=(Below.refl w.heap.size W).grown hg h.low.size fun j ej=>(World.ownsRow.lt hv j ej).1;have hd:=(List.pairwise_cons.1 h.dis).1;have hap:∀ u:Value,(∀ g,u.ownBlock=some g→g<W.heap.size)→Apart v u→Apart v' u:=fun u hu hau g hgv hgu=>by
  rcases hat with e1 | e1
  ·exact hau g (e1 ▸ hgv) hgu
  ·rw[e1] at hgv
   have:=hu g hgu;have:=Option.some.inj hgv;omega
 refine⟨h.low.trans b1,h.rb,(s1 Rb _ 168 h.rd (by decide)).trans h.rd,aC h.ro s1 (by decide),aC h.so s1 (by decide),fun q hq=>?_,?_,fun y hy=>?_,fun y hy q hq=>?_,h.kb⟩
 ·rcases List.mem_cons.1 hq with rfl | hq
  ·exact ho
  ·refine bY (h.io q (List.mem_cons_of_mem _ hq)) fun g eg=>hg.block g (World.ownsRow.lt (h.io q (List.mem_cons_of_mem _ hq)) g eg).2 fun e'=>hd q hq g e'.symm eg
 ·refine List.pairwise_cons.2 ⟨fun q hq=>hap q.1 (fun g eg=>(World.ownsRow.lt (h.io q (List.mem_cons_of_mem _ hq)) g eg).2) (hd q hq),(List.pairwise_cons.1 h.dis).2⟩
 ·rcases h.ka y hy with hk | ⟨B,c,cs,e1,e2,e3,e4⟩
  ·exact .inl hk
  ·have e5:=hg.block B (Array.getElem?_eq_some_iff.1 e2).1 (fun e'=>h.kd y hy (v,l) (List.mem_cons_self ..) B e'.symm (by rw[e1];rfl))
   exact .inr ⟨B,c,cs,e1,e5.trans e2,e3,fun i x hx=>(dh e5).trans (e4 i x hx)⟩
 ·rcases List.mem_cons.1 hq with rfl | hq
  ·refine hap y.kv (fun g eg=>?_) (h.kd y hy (v,l) (List.mem_cons_self ..))
   rcases h.ka y hy with ⟨e1,_⟩ | ⟨B,c,cs,e1,e2,e3,e4⟩
   ·rw[e1] at eg;simp[Value.ownBlock] at eg
   ·rw[e1] at eg
    have:B=g:=(by simpa[Value.ownBlock] using eg);rw[←this];exact (Array.getElem?_eq_some_iff.1 e2).1
  ·exact h.kd y hy q (List.mem_cons_of_mem _ hq)
theorem St.empty(h:St w W Rb s at_ e rv sv r fs rows):St w W Rb s at_ e rv sv r fs ((.slice none 0 0,[])::rows):=by
 have hn:∀ u,Apart (.slice none 0 0) u:=fun u g hg=>by simp[Value.ownBlock] at hg
 refine⟨h.low,h.rb,h.rd,h.ro,h.so,fun q hq=>?_,List.pairwise_cons.2 ⟨fun q _=>hn _,h.dis⟩,h.ka,fun y hy q hq=>?_,h.kb⟩
 ·rcases List.mem_cons.1 hq with rfl | hq
  ·exact World.ownsRow_nil _ _ _ _
  ·exact h.io q hq
 ·rcases List.mem_cons.1 hq with rfl | hq
  ·exact hn _
  ·exact h.kd y hy q hq
def vC(b:Nat)(W:World)(v:Value)(r:List Nd):Prop:=∀ W',W.heap.size≤W'.heap.size→(∀ j,b≤j→j<W.heap.size→W'.heap[j]?=W.heap[j]?)→jk W' v r
theorem vC.row{b:Nat}{v:Value}{r:List Nd}(h:vC b W v r):jk W v r:=h W Nat.le.refl fun _ _ _=>rfl
theorem St.far(h:St w W Rb s at_ e rv sv r fs rows):vC w.heap.size W rv (r.map (·.x)):=fun W' _ hk=>by
 have ho:Ba W' w.heap.size rv r:=bY h.ro fun g hg=>hk g (World.ownsRow.lt h.ro g hg).1 (World.ownsRow.lt h.ro g hg).2;refine ho.ac5 (own:=none) fun y hy=>?_;rcases h.ka y hy with h1 | ⟨B,c,cs,e1,e2,e3,e4⟩
 ·exact .inl h1
 ·have e5:=hk B (h.kb y hy B (by rw[e1];rfl)) (Array.getElem?_eq_some_iff.1 e2).1
  exact .inr ⟨B,c,cs,e1,e5.trans e2,e3,fun i x hx=>(dh e5).trans (e4 i x hx)⟩
theorem jA.block{base:Nat}(h:jA W base sv fs)(hn:fs≠[]):∃ Sb c cs,sv = .slice (some ⟨Sb,0,none⟩) fs.length c∧W.heap[Sb]?=some (.cells cs 165 (0,0))∧base≤Sb∧fs.length*2≤cs.size∧cs.toList.take (fs.length*2)=fs.flatMap nH:=by
 rcases h.2 with ⟨_,h0⟩ | ⟨g,cap,cur,e1,hg,hh,hc1,hc2,hc3,hc4⟩
 ·exact absurd (List.eq_nil_of_length_eq_zero h0) hn
 ·exact⟨g,cap,cur,e1,hh,hg,by rw[hc3];exact Nat.mul_le_mul_right _ hc1,hc4⟩
theorem KT(l:List (Value×Value)):(l.flatMap nH).length=l.length*2:=Gj nH 2 (fun _=>rfl) l
theorem St.top{f:Value×Value}{Sb c:Nat}(h:St w W Rb s at_ e rv sv r (fs++[f]) rows)(hsv:sv = .slice (some ⟨Sb,0,none⟩) (fs.length+1) c) :
  W.cell? ⟨Sb,fs.length*2,none⟩=some f.1∧W.cell? ⟨Sb,fs.length*2+1,none⟩=some f.2:=by
 have hc:∀ q v,(nH f)[q]?=some v→W.cell? ⟨Sb,fs.length*2+q,none⟩=some v:=fun q v hv=>by
  have:=World.ownsRow.cells h.so (g:=Sb) (by rw[hsv];rfl) (fs.length*2+q) v (flat_get nH 2 (fun _=>rfl) _ fs.length f (by simp) q v hv)
  rwa [addr_add,Nat.zero_add] at this
 exact⟨hc 0 _ rfl,hc 1 _ rfl⟩
end
theorem KAt.low{W W':World}{kv:Value}{l:List Int}(h:KAt W none kv l)(hb:Below W.heap.size W W'):KAt W' none kv l:=h.same fun _ _ hB hn=>⟨hb.block _ (Array.getElem?_eq_some_iff.1 hB).1,hn⟩
theorem KAt.form{W:World}{own:Option Nat}{kv:Value}{l:List Int}(h:KAt W own kv l):∃ la c,kv = .slice la l.length c:=by
 rcases h with ⟨e,e2⟩ | ⟨B,c,cs,e,_⟩
 ·exact⟨none,0,by rw[e,e2];rfl⟩
 ·exact⟨_,_,e⟩
theorem Ba.form{W:World}{base:Nat}{v:Value}{l:List NL}(h:Ba W base v l):∃ la c,v = .slice la l.length c:=by
 rcases h.2 with ⟨e,h0⟩ | ⟨g,cap,cur,e,_⟩
 ·exact⟨none,0,by rw[h0];exact e⟩
 ·exact⟨_,_,e⟩
theorem bJ.form{W:World}{base:Nat}{v:Value}{l:List Int}(h:bJ W base v l):∃ la c,v = .slice la l.length c:=by
 rcases h.2 with ⟨e,h0⟩ | ⟨g,cap,cur,e,_⟩
 ·exact⟨none,0,by rw[h0];exact e⟩
 ·exact⟨_,_,e⟩
theorem aaU:AX.sizeT Tryz.prog 44=some 1:=by kernel_rfl
theorem Bf{o:Oper}{a:Act}{K:Act→World→Prop}{Q:Exit→Act→World→Prop}{W:World}(base:Nat)(v:Value)(l:List NL)(y:NL)(s x:Operand)
  (ho:o.op = .call { callee := .builtin .append,args:=#[s,x],argTypes:=#[44,44] }) (hs:a.eval s=v) (hown:Ba W base v l) (B c:Nat) (hx:a.eval x = .slice (some ⟨B,0,none⟩) 1 c)
  (hc:Bx W B 153 (NC y).toArray) (hyk:y.kv.oneCell'=true) (hl:l.length≤100000) (hb:base≤W.heap.size)
  (h:∀ v' w',Ba w' base v' (l++[y])→W.grownBy w' v.ownBlock→K (a.put o.dst v') w'):o.wp Tryz.prog a W K Q:=by
 obtain⟨ti,hi,hz0,hz1,hz2⟩:=info_parts UK;refine wp_append_own (P:=Tryz.prog) (w:=W) s x 44 ho base 153 ti (.agg #[.int .i64 0, .int .u64 0, .int .u64 0, .int .u64 0, .int .u64 0, .slice none 0 0]) 6 64 Tryz.underlying44 hi hz0 hz1 hz2 rfl (by decide) v l.length _ hs hown ⟨B,0,none⟩ 1 c (NC y) hx rfl
  (fun j u hj=>by rw[addr_add,Nat.zero_add,hc.cell];simpa using hj) (fun u hu=>by
   simp only[NC,List.mem_cons,List.not_mem_nil,or_false] at hu;rcases hu with rfl | rfl | rfl | rfl | rfl | rfl<;>first | rfl | exact hyk) (by unfold maxLen;omega) (by omega) hb ?_
 intro v' w' h1 h2 _;refine h v' w' ?_ h2;unfold Ba;rw[List.length_append,List.flatMap_append]
 simpa using h1
section
variable {w W : World} {Rb : Nat} {s : ByteArray} {at_ e : Int} {rv sv : Value} {r : List NL} {fs : List (Value × Value)} {rows : List (Value × List Int)}
def JJ(k:Int)(c:C4)(l:List Int):Nd:=⟨k,c.a,c.b,c.c,c.d,l⟩
theorem KU(k:Int)(c:C4)(kv:Value)(kids:List Int)(h:St w W Rb s at_ e rv sv r fs rows)(hk:KAt W none kv kids)(hd:∀ p∈rows,Apart p.1 kv)(hkb:∀ g,kv.ownBlock=some g→w.heap.size≤g)(hl:r.length≤10000) :
  Calls Tryz.prog 120 #[.pointer (some ⟨Rb,0,none⟩), .int .i64 k,c.v,kv] W fun x W'=>x = .returned (.int .i64 r.length)∧∃ rv',St w W' Rb s at_ e rv' sv (r++[⟨JJ k c kids,kv⟩]) fs rows:=by
 obtain⟨lk,ck,rfl⟩:=hk.form;obtain⟨ca,cb,cc,cd⟩:=c;unfold C4.v;dsimp only;have hb0:=(Below.refl W.heap.size W).alloc Nat.le.refl (.cells #[.int .u64 ca, .int .u64 cb, .int .u64 cc, .int .u64 cd] 116);have h0:=h.below hb0;have hB0:=Bx.new W 116 #[.int .u64 ca, .int .u64 cb, .int .u64 cc, .int .u64 cd];have hk0:=hk.low hb0;clear hb0 h hk;go_enter Tryz.func120,Tryz.ntmps120
 go_wp2_with fail
 obtain⟨Bc,hBc⟩:∃ Bc,Bc=W.heap.size:=⟨_,rfl⟩;rw[←hBc] at hB0 ⊢;clear hBc;generalize W.alloc (.cells #[.int .u64 ca, .int .u64 cb, .int .u64 cc, .int .u64 cd] 116)=W0 at *;have hbd:=(Below.refl W0.heap.size W0).drew;have h0d:=h0.below hbd;have hBd:=hB0.below hbd hB0.lt;have hkd:=hk0.low hbd;obtain⟨C,hCi,hCo⟩:∃ C:World→Prop,(∀ Z,C Z→Rdr Z Rb s at_ rv sv e∧Bx Z Bc 116 #[.int .u64 ca, .int .u64 cb, .int .u64 cc, .int .u64 cd])∧(∀ Z,Rdr Z Rb s at_ rv sv e∧Bx Z Bc 116 #[.int .u64 ca, .int .u64 cb, .int .u64 cc, .int .u64 cd]→C Z):=⟨_,fun _ h=>h,fun _ h=>h⟩;have hW0:C W0.drew:=hCo _ ⟨h0d.rd,hBd⟩;haveI:Inhabited (AX.CW C):=⟨⟨_,hW0⟩⟩;haveI:Inhabited (AX.CW fun _=>True):=⟨⟨w,trivial⟩⟩;have a2:=fun p:AX.CW C=>(Bx.fiv (hCi _ p.h).1).2.2.1;have b0:∀ p:AX.CW C,p.W.cell? ⟨Bc,0,none⟩=some (.int .u64 ca):=fun p=>(hCi _ p.h).2.cell 0;have b1:∀ p:AX.CW C,p.W.cell? ⟨Bc,1,none⟩=some (.int .u64 cb):=fun p=>(hCi _ p.h).2.cell 1;have b2:∀ p:AX.CW C,p.W.cell? ⟨Bc,2,none⟩=some (.int .u64 cc):=fun p=>(hCi _ p.h).2.cell 2;have b3:∀ p:AX.CW C,p.W.cell? ⟨Bc,3,none⟩=some (.int .u64 cd):=fun p=>(hCi _ p.h).2.cell 3;have HC:=Lib.hid hCo;clear hCo hCi;refine AX.dH (C:=fun W=>∃ p:AX.CW C,W=p.W) (CT:=fun W=>∃ p:AX.CW fun _=>True,W=p.W) 13 [(0,0),(1,0),(2,0),(3,0),(4,0),(5,0),(6,0),(7,0),(8,0),(9,2),(10,2),(11,1),(12,0),(13,2)] _ (by kernel_rfl) (by kernel_rfl) rfl (by kernel_rfl) (by decide) (by kernel_rfl) (by kernel_rfl) (by intro c a d v w h;cases d<;>exact h) ⟨⟨⟨_,trivial⟩,rfl⟩,⟨⟨_,hW0⟩,rfl⟩⟩ ?_;clear h0 hB0 hk0 hW0 hbd;generalize W0.drew=W1 at *
 repeat ((first | refine AX.bT _ (by rfl) ?_ | refine AX.dS _ (by rfl) ?_);go_big_quiet_step (fail);refine wpQuiet_nil ?_)
 refine AX.aW _ (by rfl) (by rfl) ?_;unfold Oper.wp;go_simp
 have hB7:=Bx.new W1 153 #[.int .i64 k, .int .u64 ca, .int .u64 cb, .int .u64 cc, .int .u64 cd, .slice lk kids.length ck];have hb7:Below W1.heap.size W1 (W1.alloc (.cells #[.int .i64 k, .int .u64 ca, .int .u64 cb, .int .u64 cc, .int .u64 cd, .slice lk kids.length ck] 153)):=(Below.refl _ _).alloc Nat.le.refl _;have h7:=h0d.below hb7;have Ya:=hBd.below hb7 hBd.lt;have hk7:=hkd.low hb7;clear h0d hBd hkd hb7;obtain⟨Bn,hBn⟩:∃ Bn,Bn=W1.heap.size:=⟨_,rfl⟩;rw[←hBn] at hB7 ⊢;clear hBn;generalize W1.alloc (.cells #[.int .i64 k, .int .u64 ca, .int .u64 cb, .int .u64 cc, .int .u64 cd, .slice lk kids.length ck] 153)=W7 at *;refine⟨⟨⟨⟨W7,trivial⟩,rfl⟩,fun _=>⟨⟨W7,HC.out _ ⟨h7.rd,Ya⟩⟩,rfl⟩⟩,?_⟩;simp only[show Nat.beq 9 13=false from rfl];refine AX.aW _ (by rfl) (by rfl) ?_;refine Bf w.heap.size rv r ⟨JJ k ⟨ca,cb,cc,cd⟩ kids, .slice lk kids.length ck⟩ _ _ rfl rfl h7.ro Bn 1 rfl hB7 rfl (by omega) h7.low.size ?_;intro v' W8 hR8 hg8;have s8:dQ 153 W7 W8:=aZ h7.ro hg8;have hr8:Rdr W8 Rb s at_ rv sv e:=(s8 Rb _ 168 h7.rd (by decide)).trans h7.rd;have aaV:Bx W8 Bc 116 #[.int .u64 ca, .int .u64 cb, .int .u64 cc, .int .u64 cd]:=(s8 Bc _ 116 Ya (by decide)).trans Ya;refine⟨⟨⟨⟨W8,trivial⟩,rfl⟩,fun _=>⟨⟨W8,HC.out _ ⟨hr8,aaV⟩⟩,rfl⟩⟩,?_⟩;simp only[Act.put,List.setIfInBounds_toArray,List.set_cons_succ,List.set_cons_zero]
 repeat ((first | refine AX.bT _ (by rfl) ?_ | refine AX.dS _ (by rfl) ?_);go_big_quiet_step (fail);refine wpQuiet_nil ?_)
 refine AX.aW _ (by rfl) (by rfl) ?_;obtain⟨lv,cv,hv'⟩:=hR8.form;refine AX.aI (o:=2) (v:=v') rfl rfl (by rw[hv'];rfl) aaU hr8 (show 2<5 by decide) ?_;rintro W9 h3 h4 h5;have hr9:Rdr W9 Rb s at_ v' sv e:=h3;have h9:=h7.node ⟨JJ k ⟨ca,cb,cc,cd⟩ kids, .slice lk kids.length ck⟩ hk7 hd hkb hR8 hg8 hr9 h4 h5;refine⟨⟨⟨⟨W9,trivial⟩,rfl⟩,fun h=>by cases h⟩,?_⟩;clear h7 hR8 hg8 hr8 aaV h3 h4 h5 HC s8;unfold AX.bD;have c2:=(Bx.fiv hr9).2.2.1;rw[hv'] at c2;have hlen:(r++[(⟨JJ k ⟨ca,cb,cc,cd⟩ kids, .slice lk kids.length ck⟩:NL)]).length=r.length+1:=by simp
 rw[hlen] at c2;go_wp2_with fail
 exact bodyPost_ret (v := .int .i64 r.length) (by simp[results,Tryz.results120,go_sem]) rfl ⟨rfl,_,h9⟩
end
theorem bJ.cells{W:World}{base:Nat}{v:Value}{l:List Int}(h:bJ W base v l)(hn:l≠[]):∃ g c cs,v = .slice (some ⟨g,0,none⟩) l.length c∧W.heap[g]?=some (.cells cs 3 (0,0))∧base≤g∧l.length≤cs.size∧∀ i x,l[i]?=some x→W.cell? ⟨g,i,none⟩=some (.int .i64 x):=by
 rcases h.2 with ⟨e,h0⟩ | ⟨g,cap,cur,e,hg,hh,hc1,hc2,hc3,hc4⟩
 ·exact absurd (List.eq_nil_of_length_eq_zero h0) hn
 ·refine⟨g,cap,cur,e,hh,hg,by rw[hc3];omega,fun i x hx=>?_⟩
  have:=World.ownsRow.cells h (g:=g) (by rw[e];rfl) i (.int .i64 x) (by rw[List.getElem?_map,hx];rfl)
  rwa [addr_add,Nat.zero_add] at this
theorem KW(r:List NL)(k:Int)(c:C4)(kids:List Int)(kv:Value):(r++[(⟨JJ k c kids,kv⟩:NL)]).map (·.x)=(mkI (r.map (·.x)) ⟨k,c⟩ kids).1∧(mkI (r.map (·.x)) ⟨k,c⟩ kids).2=(r.length:Int):=by
 constructor
 ·rw[List.map_append];rfl
 ·simp[mkI]
section
variable {w W : World} {Rb : Nat} {s : ByteArray} {at_ e : Int} {rv sv : Value} {r : List NL} {fs : List (Value × Value)} {rows : List (Value × List Int)}
theorem QZ(k:Int)(kv:Value)(l:List Int)(h:St w W Rb s at_ e rv sv r fs ((kv,l)::rows))(hl:r.length≤10000) :
  Calls Tryz.prog 122 #[.pointer (some ⟨Rb,0,none⟩), .int .i64 k,kv] W fun x W'=>x = .returned (.int .i64 (dA mkI (r.map (·.x)) k l).2)∧∃ rv' r',St w W' Rb s at_ e rv' sv r' fs rows∧r'.map (·.x)=(dA mkI (r.map (·.x)) k l).1:=by
 have hz:C4.v .zero = .agg #[.int .u64 0, .int .u64 0, .int .u64 0, .int .u64 0]:=rfl;obtain⟨hk,hap,hkb⟩:KAt W none kv l∧(∀ q∈rows,Apart q.1 kv)∧∀ g,kv.ownBlock=some g→w.heap.size≤g:=h.kids
 match l,h,hk with
 | [],h,hk =>
  obtain⟨la,c,hkv⟩:=hk.form;subst hkv;have hp:=KU 1 .zero (.slice none 0 0) [] h.drop (.inl ⟨rfl,rfl⟩) (fun p _ g _=>by simp[Value.ownBlock]) (fun g hg=>by simp[Value.ownBlock] at hg) hl;rw[hz] at hp;have e0:((([]:List Int).length:Nat):Int)=0:=rfl;obtain⟨m1,m2⟩:=KW r 1 .zero [] (.slice none 0 0);go_enter Tryz.func122,Tryz.ntmps122
  go_wp2_with (go_at_call 120;(with_reducible refine hp.mono ?_);rintro x W1 ⟨rfl,rv1,h1⟩)
  exact bodyPost_ret (v := .int .i64 r.length) (by simp[results,Tryz.results122,go_sem]) rfl ⟨by simp only[dA,h5];rw[m2],_,_,h1,m1⟩
 | [x],h,hk =>
  have h0:bJ W w.heap.size kv [x]:=h.io _ (List.mem_cons_self ..);obtain⟨g,c,cs,rfl,hg,_,_,hc⟩:=h0.cells (by simp);have c0:=hc 0 x rfl;have hgl:=(Array.getElem?_eq_some_iff.1 hg).1;have e0:((([x]:List Int).length:Nat):Int)=1:=rfl;go_enter Tryz.func122,Tryz.ntmps122
  go_wp2_with fail
  exact bodyPost_ret (v := .int .i64 x) (by simp[results,Tryz.results122,go_sem]) rfl ⟨rfl,_,_,h.drop,rfl⟩
 | x::y::l,h,hk =>
  obtain⟨la,c,hkv⟩:=hk.form;have hp:=KU k .zero kv (x::y::l) h.drop hk hap hkb hl;rw[hz] at hp;obtain⟨m1,m2⟩:=KW r k .zero (x::y::l) kv;obtain⟨n,hn⟩:∃ n,n=(x::y::l).length:=⟨_,rfl⟩;have hn2:2≤n:=by rw[hn];simp
  rw[←hn] at hkv;subst hkv;have e0:¬((n:Int)=0):=by omega
  have e1:¬((n:Int)=1):=by omega
  have HN:=Lib.hid hn;clear hn;go_enter Tryz.func122,Tryz.ntmps122
  go_wp2_with (go_at_call 120;(with_reducible refine hp.mono ?_);rintro z W1 ⟨rfl,rv1,h1⟩)
  exact bodyPost_ret (v := .int .i64 r.length) (by simp[results,Tryz.results122,go_sem]) rfl ⟨by simp only[dA,h5];rw[m2],_,_,h1,m1⟩
end
theorem Bg{o:Oper}{a:Act}{K:Act→World→Prop}{Q:Exit→Act→World→Prop}{W:World}(base:Nat)(v:Value)(l:List Int)(y:Int)(s x:Operand)
  (ho:o.op = .call { callee := .builtin .append,args:=#[s,x],argTypes:=#[25,25] }) (hs:a.eval s=v) (hown:bJ W base v l) (B c:Nat) (hx:a.eval x = .slice (some ⟨B,0,none⟩) 1 c)
  (hc:W.cell? ⟨B,0,none⟩=some (.int .i64 y)) (hl:l.length≤100000) (hb:base≤W.heap.size)
  (h:∀ v' w',bJ w' base v' (l++[y])→W.grownBy w' v.ownBlock→(v'.ownBlock=v.ownBlock∨v'.ownBlock=some W.heap.size)→K (a.put o.dst v') w'):o.wp Tryz.prog a W K Q:=by
 obtain⟨ti,hi,hz0,hz1,hz2⟩:=info_parts info3';obtain⟨v',w',hr,h2,h3,h4,h5⟩:=run_append_own_at (P:=Tryz.prog) W base 25 o.type 3 ti (.int .i64 0) 1 8 Tryz.underlying25 hi hz0 hz1 hz2 rfl (by decide) v l.length _ hown ⟨B,0,none⟩ 1 c [.int .i64 y] rfl
  (fun j u hj=>by
   rw[addr_add,Nat.zero_add]
   cases j with
   | zero=>simp at hj;rw[←hj];exact hc
   | succ j=>simp at hj) (fun u hu=>by rw[List.mem_singleton.1 hu];rfl) (by unfold maxLen;omega) (by omega) hb
 unfold Oper.wp execOp;simp only[ho,resolve,invoke,builtin,Sem.run_bind,Sem.run_pure,Result.andThen_ok,List.map_toArray,List.map_cons,List.map_nil,hs,hx,hr];refine h v' w' ?_ h3 h5;unfold bJ;rw[List.length_append,List.map_append];exact h2
theorem Q5:AX.sizeT Tryz.prog 25=some 1:=by kernel_rfl
theorem jA.set{W W':World}{base Sb c q:Nat}{fs:List (Value×Value)}{f f':Value×Value}{cs:Array Value}{v:Value}(h:jA W base (.slice (some ⟨Sb,0,none⟩) (fs.length+1) c) (fs++[f]))(hc:W.heap[Sb]?=some (.cells cs 165 (0,0)))
  (h':W'.heap[Sb]?=some (.cells (cs.setIfInBounds (fs.length*2+q) v) 165 (0,0))) (hq:q<2) (he:nH f'=(nH f).set q v):jA W' base (.slice (some ⟨Sb,0,none⟩) (fs.length+1) c) (fs++[f']):=by
 rcases h.2 with ⟨e1,_⟩ | ⟨g,cap,cur,e1,hg,hh,hc1,hc2,hc3,hc4⟩
 ·cases e1
 ·obtain⟨rfl,rfl⟩:Sb=g∧c=cap:=by
   injection e1 with a1 a2 a3
   injection a1 with a1
   injection a1 with a1
   exact⟨a1,a3⟩
  rw[hc] at hh;obtain rfl:cs=cur:=by cases hh;rfl
  have hlen:(fs++[f']).length=(fs++[f]).length:=by simp
  have hl2:(fs++[f]).length*2=fs.length*2+2:=by simp;omega
  refine⟨by rw[KT], .inr ⟨Sb,c,_,by simp,hg,h',by rw[hlen];exact hc1,hc2,by rw[Array.size_setIfInBounds];exact hc3,?_⟩⟩;rw[hlen,hl2];rw[hl2] at hc4;apply List.ext_getElem?;intro i;rw[List.getElem?_take,Array.toList_setIfInBounds,List.getElem?_set];have h4:∀ i,i<fs.length*2+2→cs.toList[i]?=((fs++[f]).flatMap nH)[i]?:=fun i hi=>by rw[←hc4,List.getElem?_take,if_pos hi]
  have hsz:fs.length*2+2≤cs.toList.length:=by
   have:cs.toList.length=c*2:=(by rw[Array.length_toList];exact hc3);rw[this];have:(fs++[f]).length*2≤c*2:=Nat.mul_le_mul_right 2 hc1;simp at this;omega
  have hap:∀ z:Value×Value,∀ i,((fs++[z]).flatMap nH)[i]?=if i<fs.length*2 then (fs.flatMap nH)[i]? else (nH z)[i-fs.length*2]?:=fun z i=>by
   rw[List.flatMap_append,List.getElem?_append,KT];simp
  rw[hap]
  by_cases hi:i<fs.length*2+2
  ·rw[if_pos hi]
   by_cases hi2:fs.length*2+q=i
   ·rw[if_pos hi2,if_pos (by omega),if_neg (by omega),he,←hi2,Nat.add_sub_cancel_left,List.getElem?_set]
    rw[if_pos rfl,if_pos (by simpa[nH] using hq)]
   ·rw[if_neg hi2,h4 i hi,hap]
    by_cases hi3:i<fs.length*2
    ·rw[if_pos hi3,if_pos hi3]
    ·rw[if_neg hi3,if_neg hi3,he,List.getElem?_set,if_neg (by omega)]
  ·rw[if_neg hi,if_neg (by omega),List.getElem?_eq_none (by simp[nH];omega)]
section
variable {w W W' : World} {Rb : Nat} {s : ByteArray} {at_ e : Int} {rv sv : Value} {r : List NL} {fs : List (Value × Value)} {rows : List (Value × List Int)}
theorem St.set{Sb c q:Nat}{f f':Value×Value}{cs:Array Value}{v:Value}(h:St w W Rb s at_ e rv (.slice (some ⟨Sb,0,none⟩) (fs.length+1) c) r (fs++[f]) rows)(hc:W.heap[Sb]?=some (.cells cs 165 (0,0)))
  (h3:W'.heap[Sb]?=some (.cells (cs.setIfInBounds (fs.length*2+q) v) 165 (0,0))) (h4:∀ j,j≠Sb→W'.heap[j]?=W.heap[j]?) (h5:AX.Same W W') (hq:q<2) (he:nH f'=(nH f).set q v):St w W' Rb s at_ e rv (.slice (some ⟨Sb,0,none⟩) (fs.length+1) c) r (fs++[f']) rows:=by
 have s1:dQ 165 W W':=aT hc h4;have hb:=(World.ownsRow.lt h.so Sb rfl).1;exact⟨h.low.trans (AX.aj (n:=w.heap.size) hb (.inl (Array.getElem?_eq_some_iff.1 h3).1) h4 h5),h.rb,(s1 Rb _ 168 h.rd (by decide)).trans h.rd,aC h.ro s1 (by decide),h.so.set hc h3 hq he,
  fun p hp=>aC (h.io p hp) s1 (by decide),h.dis,fun y hy=>(h.ka y hy).aY s1 (by decide),h.kd,h.kb⟩
theorem St.Q7{Sb n c:Nat}(h:St w W Rb s at_ e rv (.slice (some ⟨Sb,0,none⟩) n c) r fs rows):∃ cs,W.heap[Sb]?=some (.cells cs 165 (0,0))∧fs.length*2≤cs.size:=by
 rcases h.so.2 with ⟨e1,_⟩ | ⟨g,cap,cur,e1,hg,hh,hc1,hc2,hc3,hc4⟩
 ·cases e1
 ·obtain rfl:Sb=g:=by
   injection e1 with a1 a2 a3
   injection a1 with a1
   injection a1 with a1
  exact⟨cur,hh,by rw[hc3];exact Nat.mul_le_mul_right _ hc1⟩
def UL(w W':World)(Rb:Nat)(s:ByteArray)(at_ e:Int)(Sb c:Nat)(fs:List (Value×Value))(A:List Int)(rows:List (Value×List Int))(z:List Nd×Int):Prop :=
 ∃ rv' r' av',St w W' Rb s at_ e rv' (.slice (some ⟨Sb,0,none⟩) (fs.length+1) c) r' (fs++[(av', .slice none 0 0)]) ((av',A++[z.2])::rows)∧r'.map (·.x)=z.1
theorem VB{Sb c:Nat}(av iv:Value)(A I:List Int)(h:St w W Rb s at_ e rv (.slice (some ⟨Sb,0,none⟩) (fs.length+1) c) r (fs++[(av,iv)]) ((av,A)::(iv,I)::rows))(hl:r.length≤10000)(hA:A.length≤10000)(hf:fs.length≤900) :
  Calls Tryz.prog 117 #[.pointer (some ⟨Rb,0,none⟩)] W fun x W'=>x = .returned (.tuple #[])∧UL w W' Rb s at_ e Sb c fs A rows (dA mkI (r.map (·.x)) 3 I):=by
 obtain⟨n,hn⟩:∃ n,n=fs.length:=⟨_,rfl⟩;rw[←hn] at hf;have HN:=Lib.hid hn;have ht:=QO Rb Sb (fs.length+1) c (by omega) (by omega) s at_ rv e W h.rd;rw[←hn,Nat.add_sub_cancel] at ht;obtain⟨la,ca,rfl⟩:=bJ.form (show bJ W w.heap.size av A from h.io (av,A) (List.mem_cons_self ..));obtain⟨li,ci,rfl⟩:=bJ.form (show bJ W w.heap.size iv I from h.io (iv,I) (List.mem_cons_of_mem _ (List.mem_cons_self ..)));clear hn;go_enter Tryz.func117,Tryz.ntmps117
 go_wp2_with (go_at_call 123;(with_reducible refine ht.mono ?_);rintro x W1 ⟨rfl,hb1⟩)
 have h1:=h.below hb1;clear h hb1 ht;have hbd:=(Below.refl W1.heap.size W1).drew;have h1d:=h1.below hbd;obtain⟨C,hCi,hCo⟩:∃ C:World→Prop,(∀ Z,C Z→Z.cell? ⟨Sb,n*2,none⟩=some (.slice la A.length ca)∧Z.cell? ⟨Sb,n*2+1,none⟩=some (.slice li I.length ci))∧(∀ Z,Z.cell? ⟨Sb,n*2,none⟩=some (.slice la A.length ca)∧Z.cell? ⟨Sb,n*2+1,none⟩=some (.slice li I.length ci)→C Z):=⟨_,fun _ h=>h,fun _ h=>h⟩;have hW0:C W1.drew:=hCo _ (by rw[HN.out];exact h1d.top rfl);haveI:Inhabited (AX.CW C):=⟨⟨_,hW0⟩⟩;haveI:Inhabited (AX.CW fun _=>True):=⟨⟨w,trivial⟩⟩;have a0:=fun p:AX.CW C=>(hCi _ p.h).1;have a1:=fun p:AX.CW C=>(hCi _ p.h).2;have HC:=Lib.hid hCo;clear hCo hCi;refine AX.dH (C:=fun W=>∃ p:AX.CW C,W=p.W) (CT:=fun W=>∃ p:AX.CW fun _=>True,W=p.W) 16 [(0,0),(1,1),(2,0),(3,0),(4,0),(5,0),(6,0),(7,0),(8,0),(9,0),(10,0),(11,2),(12,2),(13,2),(14,1),(15,0),(16,2),(17,1),(18,1),(19,2)] _ (by kernel_rfl) (by kernel_rfl) rfl (by kernel_rfl) (by decide) (by kernel_rfl) (by kernel_rfl) (by intro c a d v w h;cases d<;>exact h) ⟨⟨⟨_,trivial⟩,rfl⟩,⟨⟨_,hW0⟩,rfl⟩⟩ ?_;clear hW0 hbd h1;generalize W1.drew=Wd at *
 repeat ((first | refine AX.bT _ (by rfl) ?_ | refine AX.dS _ (by rfl) ?_);go_big_quiet_step (fail);refine wpQuiet_nil ?_)
 have hm:=QZ 3 (.slice li I.length ci) I (h1d.perm (List.Perm.swap _ _ _)) hl;refine AX.eF hm (by rfl) (by rfl) (by rfl) Tryz.func122 (by kernel_rfl) (by rfl) (by simp only[List.map_toArray,List.map_cons,List.map_nil];rfl) ?_;rintro e2 W2 ⟨rfl,rv2,r2,h2,hr2⟩;refine⟨_,rfl,⟨⟨⟨W2,trivial⟩,rfl⟩,fun _=>⟨⟨W2,HC.out _ (by rw[HN.out];exact h2.top rfl)⟩,rfl⟩⟩,?_⟩;simp only[Act.put,List.setIfInBounds_toArray,List.set_cons_succ,List.set_cons_zero];have HR2:=Lib.hid hr2;clear hm h1d hr2;obtain⟨qi,hqi⟩:∃ qi,qi=(dA mkI (r.map (·.x)) 3 I).2:=⟨_,rfl⟩;rw[←hqi];have HQ:=Lib.hid hqi;clear hqi;refine AX.aW _ (by rfl) (by rfl) ?_;unfold Oper.wp;go_simp
 have hB7:=(Bx.new W2 3 #[.int .i64 qi]).cell 0;have hb7:Below W2.heap.size W2 (W2.alloc (.cells #[.int .i64 qi] 3)):=(Below.refl _ _).alloc Nat.le.refl _;have h7:=h2.below hb7;clear h2 hb7;obtain⟨Bn,hBn⟩:∃ Bn,Bn=W2.heap.size:=⟨_,rfl⟩;rw[←hBn] at hB7 ⊢;clear hBn;generalize W2.alloc (.cells #[.int .i64 qi] 3)=W7 at *;refine⟨⟨⟨⟨W7,trivial⟩,rfl⟩,fun _ _=>⟨⟨W7,HC.out _ (by rw[HN.out];exact h7.top rfl)⟩,rfl⟩⟩,?_⟩;simp only[show Nat.beq 11 16=false from rfl,show Nat.beq 12 16=false from rfl,Bool.or_self];refine AX.aW _ (by rfl) (by rfl) ?_;refine Bg w.heap.size (.slice la A.length ca) A qi _ _ rfl rfl (h7.io _ (List.mem_cons_self ..)) Bn 1 rfl hB7 (by omega) h7.low.size ?_;intro v' W8 hR8 hg8 Yb;have h8:=h7.num hR8 hg8 Yb;refine⟨⟨⟨⟨W8,trivial⟩,rfl⟩,fun _=>⟨⟨W8,HC.out _ (by rw[HN.out];exact h8.top rfl)⟩,rfl⟩⟩,?_⟩;simp only[Act.put,List.setIfInBounds_toArray,List.set_cons_succ,List.set_cons_zero]
 repeat ((first | refine AX.bT _ (by rfl) ?_ | refine AX.dS _ (by rfl) ?_);go_big_quiet_step (fail);refine wpQuiet_nil ?_)
 refine AX.aW _ (by rfl) (by rfl) ?_;obtain⟨lv,cv,hv'⟩:=hR8.form;obtain⟨cs8,hs8,hz8⟩:=h8.Q7;have ac8:n*2+2≤cs8.size:=by have:=HN.out;simp at hz8;omega
 refine AX.aI (o:=n*2) (v:=v') rfl rfl (by rw[hv'];rfl) Q5 hs8 (by omega) ?_;rintro W9 h3 h4 h5;have h9:=h8.set (q:=0) (v:=v') (f':=(v', .slice li I.length ci)) hs8 (by rw[←HN.out];exact h3) h4 h5 (by decide) rfl;refine⟨⟨⟨⟨W9,trivial⟩,rfl⟩,fun h=>by cases h⟩,?_⟩
 repeat ((first | refine AX.bT _ (by rfl) ?_ | refine AX.dS _ (by rfl) ?_);go_big_quiet_step (fail);refine wpQuiet_nil ?_)
 refine AX.aW _ (by rfl) (by rfl) ?_;refine AX.aI (o:=n*2+1) (v := .slice none 0 0) rfl rfl rfl Q5 h3 (by rw[Array.size_setIfInBounds];omega) ?_;rintro W10 g3 g4 g5;have h10:=h9.set (q:=1) (v := .slice none 0 0) (f':=(v', .slice none 0 0)) h3 (by rw[←HN.out];exact g3) g4 g5 (by decide) rfl;refine⟨⟨⟨⟨W10,trivial⟩,rfl⟩,fun h=>by cases h⟩,?_⟩;clear h7 hR8 hg8 h3 h4 h5 HC h8 h9 g3 g4 g5 hs8 hz8 ac8;unfold AX.bD;go_wp2_with fail
 exact bodyPost_end (v := .tuple #[]) (by simp[results,Tryz.results117,go_sem]) rfl ⟨rfl,rv2,r2,v',by rw[←HQ.out];exact h10,HR2.out⟩
end
end Go.Proofs.YtkjgogdkdejljaaGreatDoor.Rx
