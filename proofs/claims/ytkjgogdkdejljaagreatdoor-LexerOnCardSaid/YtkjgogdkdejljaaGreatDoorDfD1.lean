import Derived.Test.YtkjgogdkdejljaaGreatDoorDfN17
set_option maxRecDepth 100000
set_option maxHeartbeats 40000000
namespace Go.Proofs.YtkjgogdkdejljaaGreatDoor.Df
section
open Go Go.Proofs Go.RowKit
attribute [local go_sem] Oper.semAt_some
theorem Ue{l:List Kl}{p q:Kl}(hp:p∈parts l)(hq:q∈parts l)(h:p.low=q.low):p=q:=by
 have ok:=sV l;obtain⟨i,hi,rfl⟩:=List.getElem_of_mem hp;obtain⟨j,hj,rfl⟩:=List.getElem_of_mem hq;have nz:∀ k (hk:k<(parts l).length),∃ x,x<256∧(parts l)[k].has x=true:=fun k hk=>ok.some _ (List.getElem_mem hk);obtain⟨x,hx,h1⟩:=nz i hi;obtain⟨y,hy,h2⟩:=nz j hj;obtain⟨a1,a2,_⟩:=tN hx h1;obtain⟨b1,b2,_⟩:=tN hy h2;rw[h] at a2;have:=oK ok hi hj b1 a2 b2;subst this;rfl
def spl(l:List Kl):List Kl:=(parts l).mergeSort fun x y=>decide (x.low≤y.low)
theorem OE{l d:List Kl}(h:d.Perm (parts l))(hs:d.Pairwise fun x y=>x.low≤y.low):d=spl l:=by
 have tr:∀ a b c:Kl,decide (a.low≤b.low)=true→decide (b.low≤c.low)=true→decide (a.low≤c.low)=true:=fun a b c h1 h2=>by simp only[decide_eq_true_eq] at *;omega
 have tzo:∀ a b:Kl,(decide (a.low≤b.low) || decide (b.low≤a.low))=true:=fun a b=>by simp only[Bool.or_eq_true,decide_eq_true_eq];omega
 refine List.Perm.eq_of_pairwise (le:=fun a b:Kl=>decide (a.low≤b.low)=true) (fun a b ha hb h1 h2=>?_) (hs.imp fun h=>by simpa using h) (List.pairwise_mergeSort tr tzo _) (h.trans (List.mergeSort_perm _ _).symm);simp only[decide_eq_true_eq] at h1 h2;exact Ue (h.mem_iff.1 ha) ((List.mergeSort_perm _ _).mem_iff.1 hb) (by omega)
theorem Gp(l:List Kl):(spl l).Perm (parts l):=List.mergeSort_perm _ _
theorem qN(l:List Kl):fG l (spl l):=(sV l).perm (Gp l)
theorem IU(l:List Kl):(spl l).Pairwise fun x y=>x.low≤y.low:=by
 have tr:∀ a b c:Kl,decide (a.low≤b.low)=true→decide (b.low≤c.low)=true→decide (a.low≤c.low)=true:=fun a b c h1 h2=>by simp only[decide_eq_true_eq] at *;omega
 have tzo:∀ a b:Kl,(decide (a.low≤b.low) || decide (b.low≤a.low))=true:=fun a b=>by simp only[Bool.or_eq_true,decide_eq_true_eq];omega
 exact (List.pairwise_mergeSort tr tzo (parts l)).imp fun h=>by simpa using h
theorem Jf{w:World}{a:Option Addr}{l:List Kl}(h:Iz w a l)(h0:l≠[]):∃ B off,a=some ⟨B,off,none⟩∧B<w.heap.size∧jE w B off l:=by
 obtain⟨B,off,h1,h2,h3⟩:=h h0;refine⟨B,off,h1,h2,fun i hi j v hv=>?_⟩;obtain⟨c0,c1,c2,c3⟩:=h3 i hi;simp only[bI] at hv
 match j,hv with
 | 0,hv=>simp at hv;subst hv;exact c0
 | 1,hv=>simp at hv;subst hv;exact c1
 | 2,hv=>simp at hv;subst hv;exact c2
 | 3,hv=>simp at hv;subst hv;exact c3
 | j+4,hv=>simp at hv
theorem Uf(l:List Kl)(hl:l.length≤1024)(la:Option Addr)(c:Nat)(w:World)(hp:0<w.heap.size)(hT:TabAt w)(hL:Iz w la l) :
  Calls Tryz.prog 63 #[.slice la l.length c] w fun e w'=>∃ g cap,e = .returned (.slice (some ⟨g,0,none⟩) (spl l).length cap)∧w.heap.size≤g∧g<w'.heap.size∧jE w' g 0 (spl l)∧Below w.heap.size w w' :=
 (Gm l hl la c w hp hT (Jf hL)).mono fun e w' ⟨g,cap,d,h1,h2,h3,h4,h5,h6,h7⟩=>by
  have:=OE h4 h5;subst this;exact⟨g,cap,h1,h2,h3,h6,h7⟩
def Dk(X Y:World):Prop:=∀ k:Nat,X.heap[k]?=some (Obj.deferred (some []))→Y.heap[k]?=some (Obj.deferred (some []))
theorem Dk.trans{X Y Z:World}(h:Dk X Y)(k:Dk Y Z):Dk X Z:=fun i hi=>k i (h i hi)
theorem Dk.of_below{X Y:World}(h:Below X.heap.size X Y):Dk X Y:=fun k hk=>(h.block k (Array.getElem?_eq_some_iff.1 hk).1).trans hk
theorem Dk.Ky{bad:List Nat}{X Y:World}(h:Ch bad X Y)(hb:∀ k∈bad,k<X.heap.size→X.heap[k]?≠some (.deferred (some []))):Dk X Y:=fun k hk =>
 (h.same k (Array.getElem?_eq_some_iff.1 hk).1 (fun hm=>hb k hm (Array.getElem?_eq_some_iff.1 hk).1 hk)).trans hk
structure Bs(w W:World)(x0 x1 x2:Value)(U R4 D M r ga:Nat)(d:List Kl)(most:Nat)(oth:List Nat)(sv nv rv:Value)(vals:List Value)(T:Sets)(next rule:List Int):Prop where
 low:Below w.heap.size w W
 mkr:Mkr W w.heap.size oth M r x0 x1 x2 most sv vals T
 ub:Bx W U 74 #[x0,x1,x2]
 rb:Bx W R4 27 #[.slice none 0 0, .slice none 0 0]
 db:Bx W D 27 #[nv,rv]
 al:jE W ga 0 d
 gl:ga<W.heap.size
 no:W.ownsRow w.heap.size 3 1 nv next.length (next.map (Value.int .i64))
 ro:W.ownsRow w.heap.size 3 1 rv rule.length (rule.map (Value.int .i64))
 ap:∀ g,nv.ownBlock=some g→rv.ownBlock≠some g
 nU:U∉aX M r sv oth
 nR:R4∉aX M r sv oth
 nA:ga∉aX M r sv oth
 oD:D∈oth
 oN:∀ g,nv.ownBlock=some g→g∈oth
 oR:∀ g,rv.ownBlock=some g→g∈oth
 lo:∀ k∈oth,w.heap.size≤k
theorem gZ{M r:Nat}{sv:Value}{oth:List Nat}{k:Nat}(h:k∈aX M r sv []):k∈aX M r sv oth:=by
 unfold aX at *;simp only[List.mem_cons,List.mem_append,Option.mem_toList,List.not_mem_nil,or_false] at *;rcases h with h | h | h
 ·exact .inl h
 ·exact .inr (.inl h)
 ·exact .inr (.inr (.inl h))
theorem Gq{M r:Nat}{sv:Value}{oth:List Nat}{k:Nat}(h:k∈oth):k∈aX M r sv oth:=by unfold aX;simp[h]
theorem mQ{M r:Nat}{sv sv':Value}{oth:List Nat}{X:World}{k:Nat}(h:k∉aX M r sv oth)(hk:k<X.heap.size)(hs:sv'.ownBlock=sv.ownBlock∨∃ g,sv'.ownBlock=some g∧X.heap.size≤g):k∉aX M r sv' oth:=fun hm=>h (by
 unfold aX at *;simp only[List.mem_cons,List.mem_append,Option.mem_toList] at *;rcases hm with hm | hm | hm | hm
 ·exact .inl hm
 ·exact .inr (.inl hm)
 ·rcases hs with hs | ⟨g,hg,hge⟩
  ·rw[hs] at hm;exact .inr (.inr (.inl hm))
  ·rw[hg] at hm;cases hm;omega
 ·exact .inr (.inr (.inr hm)))
theorem qW{M r:Nat}{sv:Value}{oth:List Nat}{k z:Nat}(h:k∉aX M r sv oth)(hz:k≠z):k∉aX M r sv (z::oth):=fun hm=>h (by
 unfold aX at *;simp only[List.mem_cons,List.mem_append,Option.mem_toList] at *;rcases hm with hm | hm | hm | hm | hm
 ·exact .inl hm
 ·exact .inr (.inl hm)
 ·exact .inr (.inr (.inl hm))
 ·exact absurd hm hz
 ·exact .inr (.inr (.inr hm)))
theorem Mkr.typ{W:World}{base:Nat}{oth:List Nat}{M r:Nat}{x0 x1 x2:Value}{most:Nat}{sv:Value}{vals:List Value}{T:Sets}(h:Mkr W base oth M r x0 x1 x2 most sv vals T){k:Nat}(hk:k∈aX M r sv []):(∃ cs,W.heap[k]?=some (.cells cs 130 (0,0)))∨(∃ es c,W.heap[k]?=some (.map es c))∨∃ cs,W.heap[k]?=some (.cells cs 25 (0,0)):=by
 unfold aX at hk;simp only[List.mem_cons,List.mem_append,Option.mem_toList,List.not_mem_nil,or_false] at hk;rcases hk with rfl | rfl | hk
 ·exact .inl ⟨_,h.box⟩
 ·exact .inr (.inl ⟨_,_,h.map⟩)
 ·exact .inr (.inr (bQ h.own k hk))
theorem Mkr.qA{W:World}{base:Nat}{oth:List Nat}{M r:Nat}{x0 x1 x2:Value}{most:Nat}{sv:Value}{vals:List Value}{T:Sets}(h:Mkr W base oth M r x0 x1 x2 most sv vals T){k:Nat}{cs:Array Value}{t:TypeId}(hk:W.heap[k]?=some (.cells cs t (0,0)))(h1:t≠130)(h2:t≠25):k∉aX M r sv []:=fun hm=>by
 rcases h.typ hm with ⟨cs',e⟩ | ⟨es,c,e⟩ | ⟨cs',e⟩
 ·rw[hk] at e;cases e;exact h1 rfl
 ·rw[hk] at e;cases e
 ·rw[hk] at e;cases e;exact h2 rfl
theorem Mkr.dk{W W':World}{base:Nat}{oth:List Nat}{M r:Nat}{x0 x1 x2:Value}{most:Nat}{sv:Value}{vals:List Value}{T:Sets}(h:Mkr W base oth M r x0 x1 x2 most sv vals T)(hc:Ch (aX M r sv []) W W'):Dk W W':=Dk.Ky hc fun k hk _ e=>by
 rcases h.typ hk with ⟨cs',e'⟩ | ⟨es,c,e'⟩ | ⟨cs',e'⟩<;>(rw[e] at e';cases e')
theorem jE.ch{bad:List Nat}{X Y:World}{B off:Nat}{l:List Kl}(h:jE X B off l)(hc:Ch bad X Y)(hB:B<X.heap.size)(hn:B∉bad):jE Y B off l:=fun i hi j v hv=>(hc.cell hB hn _).trans (h i hi j v hv)
section
variable {w W W' : World} {x0 x1 x2 : Value} {U R4 D M r ga : Nat} {d : List Kl} {most : Nat} {oth : List Nat} {sv nv rv : Value} {vals : List Value} {T : Sets} {next rule : List Int}
theorem Bs.nD(h:Bs w W x0 x1 x2 U R4 D M r ga d most oth sv nv rv vals T next rule):D∉aX M r sv []:=h.mkr.qA h.db (by decide) (by decide)
theorem Bs.nN(h:Bs w W x0 x1 x2 U R4 D M r ga d most oth sv nv rv vals T next rule):∀ g,nv.ownBlock=some g→g∉aX M r sv []:=fun g hg=>by
 obtain⟨cs,hc⟩:=bQ h.no g hg;exact h.mkr.qA hc (by decide) (by decide)
theorem Bs.nRv(h:Bs w W x0 x1 x2 U R4 D M r ga d most oth sv nv rv vals T next rule):∀ g,rv.ownBlock=some g→g∉aX M r sv []:=fun g hg=>by
 obtain⟨cs,hc⟩:=bQ h.ro g hg;exact h.mkr.qA hc (by decide) (by decide)
theorem Bs.state(h:Bs w W x0 x1 x2 U R4 D M r ga d most oth sv nv rv vals T next rule){sv':Value}{vals':List Value}{T':Sets}(hm:Mkr W' w.heap.size oth M r x0 x1 x2 most sv' vals' T')(hc:Ch (aX M r sv []) W W')(hs:sv'.ownBlock=sv.ownBlock∨∃ g,sv'.ownBlock=some g∧W.heap.size≤g) :
  Bs w W' x0 x1 x2 U R4 D M r ga d most oth sv' nv rv vals' T' next rule where
 low:=h.low.trans (hc.below h.low.size fun b hb=>by
  unfold aX at hb;simp only[List.mem_cons,List.mem_append,Option.mem_toList,List.not_mem_nil,or_false] at hb;rcases hb with rfl | rfl | hb
  ·exact h.mkr.bM
  ·exact h.mkr.br
  ·exact(h.mkr.own.lt b hb).1)
 mkr:=hm
 ub:=hc.bx h.ub fun hb=>h.nU (gZ hb)
 rb:=hc.bx h.rb fun hb=>h.nR (gZ hb)
 db:=hc.bx h.db h.nD
 al:=h.al.ch hc h.gl fun hb=>h.nA (gZ hb)
 gl:=Nat.lt_of_lt_of_le h.gl hc.low.size
 no:=lu h.no hc h.nN
 ro:=lu h.ro hc h.nRv
 ap:=h.ap
 nU:=mQ h.nU h.ub.lt hs
 nR:=mQ h.nR h.rb.lt hs
 nA:=mQ h.nA h.gl hs
 oD:=h.oD
 oN:=h.oN
 oR:=h.oR
 lo:=h.lo
theorem Bs.below(h:Bs w W x0 x1 x2 U R4 D M r ga d most oth sv nv rv vals T next rule)(hb:Below W.heap.size W W'):Bs w W' x0 x1 x2 U R4 D M r ga d most oth sv nv rv vals T next rule :=
 h.state (h.mkr.below hb) (Ch.of_below hb _) (.inl rfl)
theorem tV{M r:Nat}{sv:Value}{oth zG:List Nat}{k:Nat}(h:k∉aX M r sv oth)(hk:k∈zG→k∈oth):k∉aX M r sv zG:=fun hm=>h (by
 unfold aX at *;simp only[List.mem_cons,List.mem_append,Option.mem_toList] at *;rcases hm with hm | hm | hm | hm
 ·exact .inl hm
 ·exact .inr (.inl hm)
 ·exact .inr (.inr (.inl hm))
 ·exact .inr (.inr (.inr (hk hm))))
theorem Bs.more(h:Bs w W x0 x1 x2 U R4 D M r ga d most oth sv nv rv vals T next rule)(zG:List Nat)(h1:∀ k∈zG,k<W.heap.size→k∈oth)(h2:∀ k∈oth,k∈zG)(h3:∀ k∈zG,w.heap.size≤k):Bs w W x0 x1 x2 U R4 D M r ga d most zG sv nv rv vals T next rule where
 low:=h.low
 mkr:={ h.mkr with
  row:=fun i v S hv hS=>(h.mkr.row i v S hv hS).more fun k hk hlt=>by
   refine Decidable.byContradiction fun hn=>tV hn (fun hm=>h1 k hm hlt) hk }
 ub:=h.ub
 rb:=h.rb
 db:=h.db
 al:=h.al
 gl:=h.gl
 no:=h.no
 ro:=h.ro
 ap:=h.ap
 nU:=tV h.nU fun hm=>h1 _ hm h.ub.lt
 nR:=tV h.nR fun hm=>h1 _ hm h.rb.lt
 nA:=tV h.nA fun hm=>h1 _ hm h.gl
 oD:=h2 _ h.oD
 oN g hg:=h2 _ (h.oN g hg)
 oR g hg:=h2 _ (h.oR g hg)
 lo:=h3
theorem Bs.row(h:Bs w W x0 x1 x2 U R4 D M r ga d most oth sv nv rv vals T next rule){g:Nat}{cs:Array Value}(hg:g∈oth)(hcs:W.heap[g]?=some (.cells cs 3 (0,0)))(hN:nv.ownBlock≠some g)(hR:rv.ownBlock≠some g)(hc:Ch [g] W W'):Bs w W' x0 x1 x2 U R4 D M r ga d most oth sv nv rv vals T next rule:=by
 have hn:=h.mkr.qA hcs (by decide) (by decide);have hM:M∉[g]:=by
  intro e;rw[List.mem_singleton] at e;subst e;exact hn (by unfold aX;simp)
 have hr:r∉[g]:=by
  intro e;rw[List.mem_singleton] at e;subst e;exact hn (by unfold aX;simp)
 have hs:∀ b,sv.ownBlock=some b→b∉[g]:=fun b hb e=>by
  rw[List.mem_singleton] at e;subst e;exact hn (by unfold aX;simp[hb])
 have hne:∀ k,k∉aX M r sv oth→k∉[g]:=fun k hk e=>by
  rw[List.mem_singleton] at e;subst e;exact hk (Gq hg)
 exact { h with
  low:=h.low.trans (hc.below h.low.size fun b hb=>by rw[List.mem_singleton.1 hb];exact h.lo g hg)
  mkr:=h.mkr.ch hc (fun b hb=>by rw[List.mem_singleton.1 hb];exact hg) hM hr hs
  ub:=hc.bx h.ub (hne _ h.nU)
  rb:=hc.bx h.rb (hne _ h.nR)
  db:=hc.bx h.db (fun e=>by rw[List.mem_singleton] at e;subst e;have:=h.db;rw[show W.heap[_]?=_ from this] at hcs;cases hcs)
  al:=h.al.ch hc h.gl (hne _ h.nA)
  gl:=Nat.lt_of_lt_of_le h.gl hc.low.size
  no:=lu h.no hc fun b hb e=>by rw[List.mem_singleton] at e;subst e;exact hN hb
  ro:=lu h.ro hc fun b hb e=>by rw[List.mem_singleton] at e;subst e;exact hR hb }
theorem Bs.push{W5 W6:World}(b:Bool)(h:Bs w W x0 x1 x2 U R4 D M r ga d most oth sv nv rv vals T next rule){v':Value}{l:List Int}
  (h6:W5.ownsRow w.heap.size 3 1 v' ((if b then rule else next).length+l.length) ((if b then rule else next).map (Value.int .i64)++l.map (Value.int .i64))) (h7:W.grownBy W5 (if b then rv else nv).ownBlock) (h8:v'.ownBlock=(if b then rv else nv).ownBlock∨v'.ownBlock=some W.heap.size)
  (g3:Bx W6 D 27 (if b then #[nv,v'] else #[v',rv])) (g4:∀ k,k≠D→W6.heap[k]?=W5.heap[k]?) (hl:Below 0 W5 W6) :
  Bs w W6 x0 x1 x2 U R4 D M r ga d most (v'.ownBlock.toList++oth) sv (if b then nv else v') (if b then v' else rv) vals T (if b then next else next++l) (if b then rule++l else rule)∧Dk W W6:=by
 have hv5:∀ g,v'.ownBlock=some g→w.heap.size≤g:=fun g hg=>(h6.lt g hg).1;have h:=h.more (v'.ownBlock.toList++oth) (fun k hk hlt=>by
  rcases List.mem_append.1 hk with hk | hk
  ·rw[Option.mem_toList] at hk
   rcases h8 with e | e
   ·rw[e] at hk;cases b;exact h.oN k hk;exact h.oR k hk
   ·rw[e] at hk;cases hk;omega
  ·exact hk) (fun k hk=>List.mem_append_right _ hk) (fun k hk=>by
  rcases List.mem_append.1 hk with hk | hk
  ·exact hv5 k (Option.mem_toList.1 hk)
  ·exact h.lo k hk)
 have vO':∀ g,v'.ownBlock=some g→g∈v'.ownBlock.toList++oth:=fun g hg=>List.mem_append_left _ (Option.mem_toList.2 hg);generalize v'.ownBlock.toList++oth=zG at h vO';have hown:W.ownsRow w.heap.size 3 1 (if b then rv else nv) (if b then rule else next).length ((if b then rule else next).map (Value.int .i64)):=by cases b;exact h.no;exact h.ro
 have hO:∀ g,(if b then rv else nv).ownBlock=some g→g∈zG:=by cases b;exact h.oN;exact h.oR
 obtain⟨bad,hbad⟩:∃ bad:List Nat,bad=D::(if b then rv else nv).ownBlock.toList:=⟨_,rfl⟩;have hbo:∀ k∈bad,k∈zG:=fun k hk=>by
  rw[hbad,List.mem_cons,Option.mem_toList] at hk;rcases hk with rfl | hk
  ·exact h.oD
  ·exact hO k hk
 have hbn:∀ k∈bad,k∉aX M r sv []:=fun k hk=>by
  rw[hbad,List.mem_cons,Option.mem_toList] at hk;rcases hk with rfl | hk
  ·exact h.nD
  ·cases b
   ·exact h.nN k hk
   ·exact h.nRv k hk
 have c1:Ch bad W W5:=Ch.tK h7 fun g hg=>by rw[hbad];simp[hg]
 have c2:Ch bad W W6:=c1.trans (Ch.mP (A:=D) hl g4 (by rw[hbad];simp));have hne:∀ k,k∉aX M r sv zG→k∉bad:=fun k hk e=>hk (Gq (hbo k e));have hx5:Bx W5 D 27 #[nv,rv]:=(h7.block D h.db.lt (fun e=>by
  obtain⟨cs,hc⟩:=bQ hown D e.symm;rw[show W.heap[D]?=_ from h.db] at hc
  cases hc)).trans h.db
 have o6:W6.ownsRow w.heap.size 3 1 v' ((if b then rule else next).length+l.length) ((if b then rule else next).map (Value.int .i64)++l.map (Value.int .i64)):=lu h6 (Ch.mP (A:=D) (bad:=[D]) hl g4 (by simp)) fun g hg e=>by
  obtain⟨cs,hc⟩:=bQ h6 g hg;rw[List.mem_singleton.1 e,show W5.heap[D]?=_ from hx5] at hc
  cases hc
 have hM:M∉bad:=fun e=>hbn M e (by unfold aX;simp);have hr:r∉bad:=fun e=>hbn r e (by unfold aX;simp);have hs:∀ g,sv.ownBlock=some g→g∉bad:=fun g hg e=>hbn g e (by unfold aX;simp[hg]);have other:∀ g,(if b then nv else rv).ownBlock=some g→g∉bad:=fun g hg e=>by
  rw[hbad,List.mem_cons,Option.mem_toList] at e;rcases e with rfl | e
  ·cases b
   ·obtain⟨cs,hc⟩:=bQ h.ro _ hg
    rw[show W.heap[_]?=_ from h.db] at hc
    cases hc
   ·obtain⟨cs,hc⟩:=bQ h.no _ hg
    rw[show W.heap[_]?=_ from h.db] at hc
    cases hc
  ·cases b
   ·exact h.ap g e hg
   ·exact h.ap g hg e
 have vO:=vO';have hlow:Below w.heap.size w W6:=h.low.trans (c2.below h.low.size fun k hk=>h.lo k (hbo k hk));have hmk:=h.mkr.ch c2 hbo hM hr hs;have hap:∀ g,v'.ownBlock=some g→(if b then nv else rv).ownBlock≠some g:=fun g hg e=>by
  rcases h8 with e8 | e8
  ·rw[e8] at hg
   cases b
   ·exact h.ap g hg e
   ·exact h.ap g e hg
  ·rw[e8] at hg
   cases hg
   cases b
   ·have:=(h.ro.lt _ e).2;omega
   ·have:=(h.no.lt _ e).2;omega
 refine⟨?_,Dk.Ky c2 fun k hk _ e=>?_⟩
 ·cases b
  ·exact { h with
    low:=hlow
    mkr:=hmk
    ub:=c2.bx h.ub (hne _ h.nU)
    rb:=c2.bx h.rb (hne _ h.nR)
    db:=g3
    al:=h.al.ch c2 h.gl (hne _ h.nA)
    gl:=Nat.lt_of_lt_of_le h.gl c2.low.size
    no:=by rw[if_neg Bool.false_ne_true,if_neg Bool.false_ne_true,List.length_append,List.map_append];exact o6
    ro:=lu h.ro c2 other
    ap:=hap
    oN:=vO }
  ·exact { h with
    low:=hlow
    mkr:=hmk
    ub:=c2.bx h.ub (hne _ h.nU)
    rb:=c2.bx h.rb (hne _ h.nR)
    db:=g3
    al:=h.al.ch c2 h.gl (hne _ h.nA)
    gl:=Nat.lt_of_lt_of_le h.gl c2.low.size
    no:=lu h.no c2 other
    ro:=by rw[if_pos rfl,if_pos rfl,List.length_append,List.map_append];exact o6
    ap:=fun g hg e=>hap g e hg
    oR:=vO }
 ·rw[hbad,List.mem_cons,Option.mem_toList] at hk
  rcases hk with rfl | hk
  ·rw[show W.heap[_]?=_ from h.db] at e;cases e
  ·obtain⟨cs,hc⟩:=bQ hown k hk
   rw[hc] at e;cases e
end
end
section
open Go Kl
def nK(rw:List Int)(t:Int)(xs:List Nat):List Int:=xs.foldl (fun l x=>l.set x t) rw
theorem Jj(rw:List Int)(t:Int)(xs:List Nat)(x:Nat):nK rw t (xs++[x])=(nK rw t xs).set x t:=by simp[nK]
theorem CP(rw:List Int)(t:Int):∀ xs:List Nat,(nK rw t xs).length=rw.length:=by
 intro xs
 induction xs generalizing rw with
 | nil=>rfl
 | cons x xs ih=>exact(ih (rw.set x t)).trans (by simp)
theorem GI(t:Int):∀(xs:List Nat)(rw:List Int)(x:Nat),x<rw.length→(nK rw t xs).getD x 0=if x∈xs then t else rw.getD x 0
 | [],rw,x,_=>by simp[nK]
 | y::xs,rw,x,h=>by
  show(nK (rw.set y t) t xs).getD x 0=_
  rw[GI t xs (rw.set y t) x (by simpa using h)]
  by_cases hx:x∈xs
  ·rw[if_pos hx,if_pos (List.mem_cons_of_mem _ hx)]
  ·rw[if_neg hx]
   by_cases e:x=y
   ·subst e
    rw[if_pos (List.mem_cons_self ..)];simp[List.getD_eq_getElem?_getD,List.getElem?_set,h]
   ·rw[if_neg (by simp[hx,e])]
    simp[List.getD_eq_getElem?_getD,List.getElem?_set,Ne.symm e]
structure Rw(d:List Kl)(ts:List Int)(j:Nat)(rw:List Int):Prop where
 len:rw.length=256
 at_:∀ x,x<256→fF d x<j→rw.getD x 0=ts.getD (fF d x) 0
theorem Rw.start(d:List Kl):Rw d [] 0 (List.replicate 256 0):=⟨List.length_replicate ..,fun _ _ h=>absurd h (Nat.not_lt_zero _)⟩
theorem Rw.step{l d:List Kl}(hP:fG l d){ts rw:List Int}{j:Nat}(h:Rw d ts j rw)(hts:ts.length=j)(hj:j<d.length)(t:Int):Rw d (ts++[t]) (j+1) (nK rw t (d[j]).by_):=by
 refine⟨by rw[CP,h.len],fun x hx hc=>?_⟩;rw[GI _ _ _ _ (by rw[h.len];exact hx)];obtain⟨hl,hh⟩:=zL hP hx
 by_cases e:fF d x=j
 ·have hm:x∈(d[j]).by_:=Kl.zx.2 ⟨hx,by simp only[←e];exact hh⟩
  rw[if_pos hm,e,List.getD_eq_getElem?_getD,List.getElem?_append_right (by omega),hts];simp
 ·have hm:x∉(d[j]).by_:=fun hm=>e (oK hP hl hj hx hh (Kl.zx.1 hm).2)
  rw[if_neg hm,h.at_ x hx (by omega),List.getD_eq_getElem?_getD,List.getD_eq_getElem?_getD,List.getElem?_append_left (by omega)]
theorem Rw.done{l d:List Kl}(hP:fG l d){ts rw:List Int}(h:Rw d ts d.length rw):rw=(List.range 256).map fun x=>ts.getD (fF d x) 0:=by
 refine List.ext_getElem (by simp[h.len]) fun x h1 h2=>?_;have hx:x<256:=by rw[h.len] at h1;exact h1
 obtain⟨hl,_⟩:=zL hP hx;have:=h.at_ x hx hl;rw[List.getD_eq_getElem?_getD,List.getElem?_eq_getElem h1] at this
 simpa using this
theorem Gy(cls:Nat→Nat)(tss:List (List Int))(ts:List Int):dI cls (tss++[ts])=dI cls tss++(List.range 256).map fun x=>ts.getD (cls x) 0:=by simp[dI]
theorem zN{most:Nat}{f:Nat→List Int} : ∀(bs cs:List Nat)(T:Sets),rowB most f (bs++cs) T=match rowB most f bs T with
  | none=>none
  | some (ts,T1)=>match rowB most f cs T1 with
   | none=>none
   | some (us,T2)=>some (ts++us,T2)
 | [],cs,T=>by
  simp only[List.nil_append,rowB]
  cases rowB most f cs T with
  | none=>rfl
  | some p=>rfl
 | b::bs,cs,T=>by
  simp only[List.cons_append,rowB]
  cases lU most T (f b) with
  | none=>rfl
  | some p =>
   obtain⟨t,T1⟩:=p;simp only[zN bs cs T1]
   cases rowB most f bs T1 with
   | none=>rfl
   | some p =>
    obtain⟨ts,T2⟩:=p;simp only
    cases rowB most f cs T2 with
    | none=>rfl
    | some p=>rfl
theorem MO{most:Nat}{f:Nat→List Int}{bs:List Nat}{j b:Nat}{T0 T1 T2:Sets}{ts:List Int}{t:Int}(h:rowB most f (bs.take j) T0=some (ts,T1))(hb:bs[j]?=some b)(ha:lU most T1 (f b)=some (t,T2)):rowB most f (bs.take (j+1)) T0=some (ts++[t],T2):=by
 obtain⟨hj,rfl⟩:=List.getElem?_eq_some_iff.1 hb;rw[List.take_succ_eq_append_getElem hj,zN,h];simp only[rowB,ha]
theorem ML{most:Nat}{f:Nat→List Int}{bs:List Nat}{j b:Nat}{T0 T1:Sets}{ts:List Int}(h:rowB most f (bs.take j) T0=some (ts,T1))(hb:bs[j]?=some b)(ha:lU most T1 (f b)=none):rowB most f bs T0=none:=by
 obtain⟨hj,rfl⟩:=List.getElem?_eq_some_iff.1 hb;have e:bs=bs.take j++bs[j]::bs.drop (j+1):=by
  rw[←List.drop_eq_getElem_cons hj,List.take_append_drop]
 rw[e,zN,h];simp only[rowB,ha]
def qY(most:Nat)(f:List Int→Nat→List Int)(fO:List Nat)(T0:Sets)(i:Nat)(tss:List (List Int))(T:Sets):Prop :=
 kY most f fO (most+1) 0 T0=match kY most f fO (most+1-i) i T with
  | none=>none
  | some (us,T2)=>some (tss++us,T2)
theorem qY.start(most:Nat)(f:List Int→Nat→List Int)(fO:List Nat)(T0:Sets):qY most f fO T0 0 [] T0:=by
 unfold qY;rw[Nat.sub_zero]
 cases kY most f fO (most+1) 0 T0 with
 | none=>rfl
 | some p=>rfl
theorem qY.next{most:Nat}{f:List Int→Nat→List Int}{fO:List Nat}{T0 T T1:Sets}{i:Nat}{tss:List (List Int)}{ts:List Int}(h:qY most f fO T0 i tss T)(hi:i<T.length)(hm:T.length≤most)(hr:rowB most (f (T.getD i [])) fO T=some (ts,T1)):qY most f fO T0 (i+1) (tss++[ts]) T1:=by
 unfold qY at *;rw[h,show most+1-i=(most-i)+1 by omega,kY,if_pos hi,hr];simp only;rw[show most+1-(i+1)=most-i by omega]
 cases kY most f fO (most-i) (i+1) T1 with
 | none=>rfl
 | some p=>simp
theorem qY.none{most:Nat}{f:List Int→Nat→List Int}{fO:List Nat}{T0 T:Sets}{i:Nat}{tss:List (List Int)}(h:qY most f fO T0 i tss T)(hi:i<T.length)(hm:T.length≤most)(hr:rowB most (f (T.getD i [])) fO T=Option.none):kY most f fO (most+1) 0 T0=Option.none:=by
 unfold qY at h;rw[h,show most+1-i=(most-i)+1 by omega,kY,if_pos hi,hr]
theorem qY.done{most:Nat}{f:List Int→Nat→List Int}{fO:List Nat}{T0 T:Sets}{i:Nat}{tss:List (List Int)}(h:qY most f fO T0 i tss T)(hi:¬i<T.length)(hm:i≤most):kY most f fO (most+1) 0 T0=some (tss,T):=by
 unfold qY at h;rw[h,show most+1-i=(most-i)+1 by omega,kY,if_neg hi];simp
theorem Qi{most:Nat}{T T1:Sets}{S:List Int}{t:Int}(h:lU most T S=some (t,T1)):∀ U∈T1,U∈T∨U=S:=by
 unfold lU at h;split at h
 ·cases h;exact fun U hU => .inl hU
 split at h
 ·cases h;exact fun U hU => .inl hU
 split at h
 ·cases h
 ·cases h
  intro U hU;rcases List.mem_append.1 hU with hU | hU
  ·exact .inl hU
  ·exact .inr (List.mem_singleton.1 hU)
end
section
open Go Go.Proofs Go.RowKit Go.Shelf
attribute [local go_sem] Oper.semAt_some
theorem fJ{F:Fence}{m:Nat}{P:Program}{ops:Array Oper}{Q:Exit→Act→World→Prop}{a:Act}{w:World}{rest:List Oper}{t:TypeId}{x y:Operand}{ty:TypeId}{pos:String}{after:Array Edge}
 (h:wpListIn F m P ops Q ({ dst:=none,op := .store t x y,type:=ty,pos:=pos,after:=after,guard:=none }::rest) a w) :
 wpListIn F m P ops Q ({ dst:=none,op := .store t x y,type:=ty,pos:=pos,after:=after,guard:=none }::rest) a w:=h
theorem info3':(Tryz.prog.info? 3).map (fun i=>(i.zero,i.size,i.bytes))=some (some (.int .i64 0),1,8):=by kernel_rfl
theorem Jg{F:Fence}{n:Nat}{ops:Array Oper}{rest:List Oper}{o:Oper}{a:Act}{Q:Exit→Act→World→Prop}(W:World)(base:Nat)(v:Value)(pre l:List Int)(hgd:o.guard=none)(s y:Operand)
  (ho:o.op = .call { callee := .builtin .append,args:=#[s,y],argTypes:=#[25,25] }) (hs:a.eval s=v) (hown:W.ownsRow base 3 1 v pre.length (pre.map (Value.int .i64))) (B c m:Nat) (hm:m=l.length) (hx:a.eval y = .slice (some ⟨B,0,none⟩) m c)
  (hc:∀ j (h:j<l.length),W.cell? ⟨B,j,none⟩=some (.int .i64 l[j])) (hl:pre.length≤1000000) (hl2:l.length≤1000000) (hb:base≤W.heap.size)
  (h:∀ v' w',w'.ownsRow base 3 1 v' (pre.length+l.length) (pre.map (Value.int .i64)++l.map (Value.int .i64))→W.grownBy w' v.ownBlock→(v'.ownBlock=v.ownBlock∨v'.ownBlock=some W.heap.size)→wpListIn F n Tryz.prog ops Q rest (a.put o.dst v') w'):wpListIn F n Tryz.prog ops Q (o::rest) a W:=by
 subst hm;obtain⟨ti,hi,hz0,hz1,hz2⟩:=info_parts info3';refine wpListIn_plain hgd fun K hK=>?_;obtain⟨v',w',hr,h2,h3,_,h5⟩:=run_append_own_at (P:=Tryz.prog) W base 25 o.type 3 ti (.int .i64 0) 1 8 Tryz.underlying25 hi hz0 hz1 hz2 rfl (by decide) v pre.length _ hown ⟨B,0,none⟩ l.length c (l.map (Value.int .i64)) (by simp)
  (fun j u hj=>by
   rw[addr_add,Nat.zero_add];obtain⟨hj',rfl⟩:=List.getElem?_eq_some_iff.1 hj;rw[List.getElem_map];exact hc j (by simpa using hj')) (fun u hu=>by
   obtain⟨k,_,rfl⟩:=List.mem_map.1 hu;rfl) (by unfold maxLen;omega) (by omega) hb
 unfold Oper.wpIn;refine⟨?_,?_⟩
 ·simp[Oper.about,ho,resolve,Target.leads,Sem.run_pure]
 ·rw[Oper.semAt_plain F _ _ (by rw[ho];intro c hc';cases hc')]
  simp[execOp,ho,resolve,invoke,builtin,hs,hx,hr,Result.andThen];exact hK _ _ (h v' w' h2 h3 h5)
def Mk(base:Nat)(W:World):List Deferred→Prop
 | []=>True
 | d::ds=>∃ D,d = { target := .collected D,args:=#[] }∧base≤D∧W.heap[D]?=some (.deferred (some []))∧(∀ d'∈ds,d'≠{ target := .collected D,args:=#[] })∧Mk base W ds
theorem Mk.mem{base:Nat}{W:World} : ∀ {ds:List Deferred},Mk base W ds→∀ d∈ds,∃ D,d = { target := .collected D,args:=#[] }∧base≤D∧W.heap[D]?=some (.deferred (some []))
 | [],_,d,hd=>by cases hd
 | d0::ds,⟨D,h1,h2,h3,_,h5⟩,d,hd=>by
  rcases List.mem_cons.1 hd with rfl | hd
  ·exact⟨D,h1,h2,h3⟩
  ·exact Mk.mem h5 d hd
theorem Mk.keep{base:Nat}{W W':World} : ∀ {ds:List Deferred},Mk base W ds→(∀ D,{ target := .collected D,args:=#[] }∈ds→W.heap[D]?=some (.deferred (some []))→W'.heap[D]?=some (.deferred (some [])))→Mk base W' ds
 | [],_,_=>trivial
 | d0::ds,⟨D,h1,h2,h3,h4,h5⟩,hk=>⟨D,h1,h2,hk D (by rw[h1];exact List.mem_cons_self ..) h3,h4,h5.keep fun D' hD'=>hk D' (List.mem_cons_of_mem _ hD')⟩
structure Tk(base:Nat)(W W':World):Prop where
 low:Below base W W'
 same:∀(k:Nat)(o:Obj),W.heap[k]?=some o→o.isCells=true→W'.heap[k]?=some o
theorem vT{F:Fence}{n:Nat}{P:Program}{fn:Func}{tmps:Array Value}{R:Ending→World→Prop}{base:Nat} : ∀(ds:List Deferred)(W:World),Mk base W ds→(∀ W',Tk base W W'→LeavesIn F n P fn tmps R [] .returning W')→LeavesInM F n P fn tmps R ds .returning W
 | [],W,_,h=>h W ⟨Below.refl _ _,fun _ _ hk _=>hk⟩
 | d::ds,W,⟨D,h1,h2,h3,h4,h5⟩,h=>by
  subst h1;refine⟨by simp, .inl ⟨_,_,rfl,run_takeDeferred h3,?_⟩⟩;have hlow:Below base W (W.putObj D (.deferred none)):=(Below.refl base W).grown (grownBy_putObj' W D _) (by have:=(Array.getElem?_eq_some_iff.1 h3).1;omega) (fun k e=>by cases e;exact h2);refine vT ds _ (h5.keep fun D' hD' hk=>?_) fun W' hT=>h W' ⟨hlow.trans hT.low,fun k o hk hc=>hT.same k o ((World.putObj_heap_other (fun e=>?_)).trans hk) hc⟩
  ·exact (World.putObj_heap_other (fun e=>h4 _ hD' (by rw[e]))).trans hk
  ·subst e;rw[h3] at hk;cases hk;cases hc
theorem Mk.dk{base:Nat}{W W':World}{ds:List Deferred}(h:Mk base W ds)(hd:Dk W W'):Mk base W' ds:=h.keep fun D _ hD=>hd D hD
def ci(l:List Int):Array Value:=(l.map (Value.int .i64)).toArray
theorem JY(l:List Int)(j:Nat)(h:j<l.length):(ci l)[j]?=some (.int .i64 l[j]):=by simp[ci,h]
theorem IJ(l:List Int)(j:Nat)(t:Int):(ci l).setIfInBounds j (.int .i64 t)=ci (l.set j t):=by simp[ci,List.map_set]
theorem Ug(w:World):(Instr.makeSlice 25 (.int .i64 256) (.int .i64 256)).run Tryz.prog w = .ok (.slice (some ⟨w.heap.size,0,none⟩) 256 256) (w.alloc (.cells (ci (List.replicate 256 0)) 3)):=by
 obtain⟨ti,hi,hz0,hz1,hz2⟩:=info_parts info3';have h:=run_makeSlice (P:=Tryz.prog) (w:=w) 25 3 ti (.int .i64 0) Tryz.underlying25 hi hz0 .i64 .i64 256 256 (by decide) (Int.le_refl _) (by rw[hz1];decide) (by rw[hz2];decide) (by decide);rw[h];have e:madeCells (Value.int .i64 0).cells ((256:Int).toNat*ti.size)=ci (List.replicate 256 0):=by
  rw[hz1];refine Array.toList_inj.1 ?_
  show(madeCells #[Value.int .i64 0] 256).toList=_
  rw[toList_madeCells_one];unfold ci;rw[List.map_replicate]
 rw[e];rfl
theorem AU{F:Fence}{m:Nat}{ops:Array Oper}{rest:List Oper}{a:Act}{Q:Exit→Act→World→Prop}{d:Option Tmp}{t:TypeId}{x y:Operand}{ty:TypeId}{pos:String}{after:Array Edge}{w w':World}{v1 v2 v:Value}
  (h1:a.eval x=v1) (h2:a.eval y=v2) (h:(Instr.makeSlice t v1 v2).run Tryz.prog w = .ok v w') (hK:wpListIn F m Tryz.prog ops Q rest (a.put d v) w') :
  wpListIn F m Tryz.prog ops Q ({ dst:=d,op := .makeSlice t x y,type:=ty,pos:=pos,after:=after,guard:=none }::rest) a w:=by
 refine wpListIn_plain rfl fun K hK'=>?_;unfold Oper.wpIn;refine⟨?_,?_⟩
 ·simp[Oper.about]
 ·rw[Oper.semAt_plain F _ _ (by intro c hc';cases hc')]
  simp only[execOp,h1,h2];rw[show(do let x ←Instr.makeSlice t v1 v2;pure (Next.value x):Sem Next).run Tryz.prog w = .ok (.value v) w' by simp[h]];exact hK' _ _ hK
theorem P7(n:Nat)(hn:1≤n){b:Nat}(x:Kl){w0:World}(hT:TabAt w0)(hC:kH b x.a x.b x.c x.d w0)(hb:b<w0.heap.size)(h0:0<w0.heap.size)(l:Nat)(J:Nat→List Nat→World→Prop)(Jx:List Nat→World→Prop)(W:World)(hW:Below w0.heap.size w0 W)
  (hY:∀(pre:List Nat)(y H:Nat)(W1:World),J H pre W1→H≤W1.heap.size→y<256→YieldAt Fence.wide (n-1) Tryz.prog l #[.int .u8 (y:Nat)] W1 fun e W'=>(e = .returned (.bool true)∧J W'.heap.size (pre++[y]) W'∧AX.Keep (fun k=>k=0) H W1 W')∨(e = .returned (.bool false)∧Jx (pre++[y]) W'))
  (hJ:J W.heap.size [] W):CallsIn Fence.wide n Tryz.prog 110 #[.func (.yield l) #[] #[], .pointer (some ⟨b,0,none⟩)] W fun e W'=>(∃ v,e = .returned v)∧((∃ H xs,xs=x.by_∧J H xs W')∨(∃ pre,True∧Jx pre W')):=by
 refine(lW Fence.wide n trivial trivial rfl hn l b 1 x.a x.b x.c x.d x.h (by decide) (fun pre W=>(∃ H,J H pre W∧H≤W.heap.size)∧0<W.heap.size) Jx ?_ W (hT.below hW h0) (hC.below hW hb) ⟨⟨_,hJ,Nat.le_refl _⟩,Nat.lt_of_lt_of_le h0 hW.size⟩).mono ?_
 ·rintro pre y W1 ⟨⟨H,hJ1,hH⟩,hp⟩ - hy
  refine(hY pre y H W1 hJ1 hH hy).mono ?_;rintro e W2 (⟨rfl,hJ2,hk⟩ | ⟨rfl,hJ2⟩)
  ·refine .inl ⟨rfl,⟨⟨_,hJ2,Nat.le_refl _⟩,Nat.lt_of_lt_of_le hp hk.low.size⟩,hk.low.os,hk.low.tape,hk.low.output,hk.low.size,fun k hk1=>?_⟩
   obtain rfl:k=0:=by omega
   obtain⟨o,ho⟩:∃ o,W1.heap[0]?=some o:=⟨_,Array.getElem?_eq_getElem hp⟩;rw[ho];exact hk.same 0 o ho (.inl rfl)
  ·exact .inr ⟨rfl,hJ2⟩
 ·rintro e W2 ⟨hv,(⟨ys,rfl,⟨H,hJ2,_⟩,_⟩ | ⟨pre,_,hJ2⟩)⟩
  ·exact⟨hv, .inl ⟨H,_,rfl,hJ2⟩⟩
  ·exact⟨hv, .inr ⟨pre,trivial,hJ2⟩⟩
end
section
open Go.Lib (hid)
open Go Go.Proofs Go.RowKit
attribute [local go_sem] Oper.semAt_some
def BAt(W:World)(B:Nat)(l:List Bool):Prop:=W.heap[B]?=some (.cells (l.map Value.bool).toArray 4 (0,0))
theorem BAt.lt{W:World}{B:Nat}{l:List Bool}(h:BAt W B l):B<W.heap.size:=(Array.getElem?_eq_some_iff.1 h).1
theorem BAt.cell{W:World}{B:Nat}{l:List Bool}(h:BAt W B l)(j:Nat)(hj:j<l.length):W.cell? ⟨B,j,none⟩=some (.bool (l.getD j false)):=by
 have:Bx W B 4 (l.map Value.bool).toArray:=h;rw[this.cell,List.getD_eq_getElem?_getD,List.getElem?_eq_getElem hj];simp[hj]
def iT(o:List Bool)(x:Int):Bool:=decide (0≤x) && o.getD x.toNat false
theorem Om{BO OB cp:Nat}{o:List Bool}{w:World}(x:Int)(h:w.cell? ⟨BO,0,none⟩=some (.slice (some ⟨OB,0,none⟩) o.length cp))(ho:BAt w OB o)(hx:x<o.length) :
  Calls Tryz.prog 133 #[.int .i64 x, .pointer (some ⟨BO,0,none⟩)] w fun e w'=>e = .returned (.bool (iT o x))∧w=w':=by
 by_cases h1:0≤x
 ·obtain⟨k,rfl⟩:∃ k:Nat,x=(k:Int):=⟨x.toNat,by omega⟩
  have hc:=ho.cell k (by omega);have hg:iT o (k:Int)=o.getD k false:=by unfold iT;simp
  rw[hg];generalize o.getD k false=b at *;generalize o.length=n at *;clear ho hg;go_enter Tryz.func133,Tryz.ntmps133
  go_wp2
  go_ret
  exact⟨rfl,rfl⟩
 ·have hg:iT o x=false:=by unfold iT;simp;omega
  rw[hg];generalize o.length=n at *;clear ho hg;go_enter Tryz.func133,Tryz.ntmps133
  go_wp2
  go_ret
  exact⟨rfl,rfl⟩
def abA(any:Bool)(w:World)(e:Ending)(w':World):Prop:=∃ i:Int,e = .returned (.int .i64 i)∧decide (0≤i)=any∧w=w'
theorem IB(l:List Int)(hl:l.length≤1000000){BO OB cp:Nat}{o:List Bool}(hin:∀ x∈l,x<o.length)(a:Option Addr)(c:Nat)(w:World)(h:w.cell? ⟨BO,0,none⟩=some (.slice (some ⟨OB,0,none⟩) o.length cp))(ho:BAt w OB o)(hR:aK w a l) :
  Calls Tryz.prog 76 #[.slice a l.length c, .func (.func 133) #[] #[.pointer (some ⟨BO,0,none⟩)]] w (abA (l.any (iT o)) w):=by
 obtain⟨any,hany⟩:∃ b,b=l.any (iT o):=⟨_,rfl⟩;rw[←hany];obtain⟨kd,hkd⟩:∃ f:Nat→Int,f=fun k=>l.getD k 0:=⟨_,rfl⟩;have hget:∀ k,k<l.length→kd k∈l:=fun k hk=>by rw[hkd];simp only;rw[List.getD_eq_getElem?_getD,List.getElem?_eq_getElem hk];exact List.getElem_mem hk
 have HF:Hid (∀ k,k<l.length→iT o (kd k)=true→any=true):=hid fun k hk h=>by rw[hany];exact List.any_eq_true.2 ⟨_,hget k hk,h⟩
 have HT:Hid ((∀ k,k<l.length→iT o (kd k)=false)→any=false):=hid fun a=>by
  rw[hany,List.any_eq_false];intro x hx;obtain⟨k,hk,rfl⟩:=List.getElem_of_mem hx;have:=a k hk;rw[hkd] at this;simp only at this;rw[List.getD_eq_getElem?_getD,List.getElem?_eq_getElem hk,Option.getD_some] at this;simp[this]
 have HR:Hid (∀ j,j<l.length→∃ b off,a=some ⟨b,off,none⟩∧b<w.heap.size∧w.cell? ⟨b,off+j,none⟩=some (.int .i64 (kd j))):=hid fun j hj=>by
  rw[hkd];obtain⟨b,off,e,h1,h2⟩:=hR.at hj;refine⟨b,off,e,h1,?_⟩;simp only;rw[h2,List.getD_eq_getElem?_getD,List.getElem?_eq_getElem hj,Option.getD_some]
 have hc:=hid (fun k (hk:k<l.length)=>Om (kd k) h ho (hin _ (hget k hk)));clear hany hkd hR h hget hin;generalize l.length=N at *;clear ho;go_enter Tryz.func76,Tryz.ntmps76
 go_wp2
 go_loop [8] (fun i=>∃ k:Nat,k≤N∧i = .int .i64 k∧Hid (∀ j,j<k→iT o (kd j)=false)) (fun i=>N-(intOf i).toNat)
 case atStart=>exact⟨0,Nat.zero_le _,rfl,hid fun j hj=>absurd hj (by omega)⟩
 case round =>
  obtain⟨k,hk,rfl,hg⟩:=hrel;rcases Nat.lt_or_ge k N with hlt | hge
  ·obtain⟨b,off,rfl,hb,hcell⟩:=HR.out k hlt
   have hk0:(0:Int)≤(k:Int):=(by omega);have hk1:(k:Int)<(N:Int):=(by omega);have HE:=hid (HF.out k hlt);have HG:Hid (iT o (kd k)=false→∀ j,j<k+1→iT o (kd j)=false):=hid fun h j hj=>by
    rcases Nat.lt_or_ge j k with h1 | h1
    ·exact hg.out j h1
    ·obtain rfl:j=k:=by omega
     exact h
   have hcx:=hc.out k hlt;generalize kd k=x at *;obtain⟨bx,hbx⟩:∃ b,b=iT o x:=⟨_,rfl⟩;rw[←hbx] at hcx;have HX:=hid hbx;clear hbx
   cases bx with
   | false =>
    have HG':Hid (∀ j,j<k+1→iT o (kd j)=false):=hid (HG.out HX.out.symm);go_wp2_with (go_at_call 133;((with_reducible refine hcx.mono ?_);rintro e Wd ⟨rfl,rfl⟩))
    go_round
    case rel=>exact⟨k+1,by omega,by simp,HG'⟩
    case measure=>simp[intOf];omega
   | true =>
    have HB:=hid (HE.out HX.out.symm);go_wp2_with (go_at_call 133;((with_reducible refine hcx.mono ?_);rintro e Wd ⟨rfl,rfl⟩))
    go_ret
    exact⟨_,rfl,by rw[HB.out];simp,rfl⟩
  ·obtain rfl:k=N:=by omega
   have HB:=hid (HT.out hg.out);go_wp2
   go_ret
   exact⟨_,rfl,by rw[HB.out];rfl,rfl⟩
theorem Az(l:List Int)(hl:l.length≤1000000){BO OB cp:Nat}{o:List Bool}(hin:∀ x∈l,x<o.length)(a:Option Addr)(c:Nat)(w:World)(h:w.cell? ⟨BO,0,none⟩=some (.slice (some ⟨OB,0,none⟩) o.length cp))(ho:BAt w OB o)(hR:aK w a l) :
  Calls Tryz.prog 38 #[.slice a l.length c, .func (.func 133) #[] #[.pointer (some ⟨BO,0,none⟩)]] w fun e w'=>e = .returned (.bool (l.any (iT o)))∧w=w':=by
 have hk:=IB l hl hin a c w h ho hR;generalize l.any (iT o)=bad at *;clear hR h ho;go_enter Tryz.func38,Tryz.ntmps38
 go_wp2_with (go_at_call 76;((with_reducible refine hk.mono ?_);rintro e Wd ⟨i,rfl,hi,rfl⟩))
 exact bodyPost_ret (v := .bool bad) (by simp[results,Tryz.results38,go_sem]) rfl ⟨rfl,rfl⟩
end
end Go.Proofs.YtkjgogdkdejljaaGreatDoor.Df
