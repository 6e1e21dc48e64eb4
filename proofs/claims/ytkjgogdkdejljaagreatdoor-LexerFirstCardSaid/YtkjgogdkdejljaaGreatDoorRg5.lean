import Derived.Test.YtkjgogdkdejljaaGreatDoorDfN17
namespace Go.Proofs.YtkjgogdkdejljaaGreatDoor.Df
section
open Go Go.Proofs Go.RowKit
attribute [local go_sem] Oper.semAt_some
theorem VI{l:List Kl}{p q:Kl}(hp:p∈parts l)(hq:q∈parts l)(h:p.low=q.low):p=q:=by
 have ok:=tu l;obtain⟨i,hi,rfl⟩:=ag5 hp;obtain⟨j,hj,rfl⟩:=ag5 hq;have nz:∀k (hk:k<(parts l).length),∃x,x<256/\(parts l)[k].has x=true:=fun k hk=>ok.some _ (agu hk);obtain⟨x,hx,h1⟩:=nz i hi;obtain⟨y,hy,h2⟩:=nz j hj;obtain⟨a1,a2,_⟩:=tY hx h1;obtain⟨b1,b2,_⟩:=tY hy h2;rw[h]at a2;have:=oU ok hi hj b1 a2 b2;subst this;rfl
def spl(l:List Kl):List Kl:=(parts l).mergeSort fun x y=>decide (x.low<=y.low)
theorem Qb{l d:List Kl}(h:d.Perm (parts l))(hs:d.Pairwise fun x y=>x.low<=y.low):d=spl l:=by
 have tr:∀a b c:Kl,decide (a.low<=b.low)=true->decide (b.low<=c.low)=true->decide (a.low<=c.low)=true:=fun a b c h1 h2=>by simp only[afZ]at *;omega
 have tzo:∀a b:Kl,(decide (a.low<=b.low) || decide (b.low<=a.low))=true:=fun a b=>by simp only[ahp,afZ];omega
 refine List.Perm.eq_of_pairwise (le:=fun a b:Kl=>decide (a.low<=b.low)=true) (fun a b ha hb h1 h2=>?_) (hs.imp fun h=>by simpa using h) (List.pairwise_mergeSort tr tzo _) (h.trans (aie _ _).symm);simp only[afZ]at h1 h2;exact VI (h.mem_iff.1 ha) ((aie _ _).mem_iff.1 hb) (by omega)
theorem Hq(l:List Kl):(spl l).Perm (parts l):=aie _ _
theorem qU(l:List Kl):fB l (spl l):=(tu l).perm (Hq l)
theorem Jv(l:List Kl):(spl l).Pairwise fun x y=>x.low<=y.low:=by
 have tr:∀a b c:Kl,decide (a.low<=b.low)=true->decide (b.low<=c.low)=true->decide (a.low<=c.low)=true:=fun a b c h1 h2=>by simp only[afZ]at *;omega
 have tzo:∀a b:Kl,(decide (a.low<=b.low) || decide (b.low<=a.low))=true:=fun a b=>by simp only[ahp,afZ];omega
 exact (List.pairwise_mergeSort tr tzo (parts l)).imp fun h=>by simpa using h
theorem JW{w:World}{a:Option Addr}{l:List Kl}(h:Jf w a l)(h0:l≠[]):∃B off,a=some ⟨B,off,none⟩/\B<w.heap.size/\jM w B off l:=by
 obtain⟨B,off,h1,h2,h3⟩:=h h0;refine⟨B,off,h1,h2,fun i hi j v hv=>?_⟩;obtain⟨c0,c1,c2,c3⟩:=h3 i hi;simp only[bI]at hv
 match j,hv with
 | 0,hv=>simp at hv;subst hv;exact c0
 | 1,hv=>simp at hv;subst hv;exact c1
 | 2,hv=>simp at hv;subst hv;exact c2
 | 3,hv=>simp at hv;subst hv;exact c3
 | j+4,hv=>simp at hv
theorem VJ(l:List Kl)(hl:l.length<=1024)(la:Option Addr)(c:Nat)(w:World)(hp:0<w.heap.size)(hT:TabAt w)(hL:Jf w la l):
  Calls Tryz.prog 63 #[.slice la l.length c] w fun e w'=>∃g cap,e=.returned (.slice (some ⟨g,0,none⟩) (spl l).length cap)/\w.heap.size<=g/\g<w'.heap.size/\jM w' g 0 (spl l)/\Below w.heap.size w w':=
 (Hl l hl la c w hp hT (JW hL)).mono fun e w' ⟨g,cap,d,h1,h2,h3,h4,h5,h6,h7⟩=>by
  have:=Qb h4 h5;subst this;exact⟨g,cap,h1,h2,h3,h6,h7⟩
def Dk(X Y:World):Prop:=∀k:Nat,X.heap[k]?=some (Obj.deferred (some []))->Y.heap[k]?=some (Obj.deferred (some []))
theorem Dk.trans{X Y Z:World}(h:Dk X Y)(k:Dk Y Z):Dk X Z:=fun i hi=>k i (h i hi)
theorem Dk.of_below{X Y:World}(h:Below X.heap.size X Y):Dk X Y:=fun k hk=>(h.block k (afF.1 hk).1).trans hk
theorem Dk.LP{bad:List Nat}{X Y:World}(h:Ch bad X Y)(hb:∀k∈bad,k<X.heap.size->X.heap[k]?≠some (.deferred (some []))):Dk X Y:=fun k hk =>
 (h.same k (afF.1 hk).1 (fun hm=>hb k hm (afF.1 hk).1 hk)).trans hk
structure Bs(w W:World)(x0 x1 x2:Value)(U R4 D M r ga:Nat)(d:List Kl)(most:Nat)(oth:List Nat)(sv nv rv:Value)(vals:List Value)(T:Sets)(next rule:List Int):Prop where
 low:Below w.heap.size w W
 mkr:Mkr W w.heap.size oth M r x0 x1 x2 most sv vals T
 ub:Bx W U 74 #[x0,x1,x2]
 rb:Bx W R4 27 #[.slice none 0 0,.slice none 0 0]
 db:Bx W D 27 #[nv,rv]
 al:jM W ga 0 d
 gl:ga<W.heap.size
 no:W.ownsRow w.heap.size 3 1 nv next.length (next.map (Value.int .i64))
 ro:W.ownsRow w.heap.size 3 1 rv rule.length (rule.map (Value.int .i64))
 ap:∀g,nv.ownBlock=some g->rv.ownBlock≠some g
 nU:U∉aT M r sv oth
 nR:R4∉aT M r sv oth
 nA:ga∉aT M r sv oth
 oD:D∈oth
 oN:∀g,nv.ownBlock=some g->g∈oth
 oR:∀g,rv.ownBlock=some g->g∈oth
 lo:∀k∈oth,w.heap.size<=k
theorem iD{M r:Nat}{sv:Value}{oth:List Nat}{k:Nat}(h:k∈aT M r sv []):k∈aT M r sv oth:=by
 unfold aT at *;simp only[afX,af2,agz,agx,ahd]at *;rcases h with h|h|h
 ·exact .inl h
 ·exact .inr (.inl h)
 ·exact .inr (.inr (.inl h))
theorem Hr{M r:Nat}{sv:Value}{oth:List Nat}{k:Nat}(h:k∈oth):k∈aT M r sv oth:=by unfold aT;simp[h]
theorem ny{M r:Nat}{sv sv':Value}{oth:List Nat}{X:World}{k:Nat}(h:k∉aT M r sv oth)(hk:k<X.heap.size)(hs:sv'.ownBlock=sv.ownBlock\/∃g,sv'.ownBlock=some g/\X.heap.size<=g):k∉aT M r sv' oth:=fun hm=>h (by
 unfold aT at *;simp only[afX,af2,agz]at *;rcases hm with hm|hm|hm|hm
 ·exact .inl hm
 ·exact .inr (.inl hm)
 ·rcases hs with hs|⟨g,hg,hge⟩
  ·rw[hs]at hm;exact .inr (.inr (.inl hm))
  ·rw[hg]at hm;cases hm;omega
 ·exact .inr (.inr (.inr hm)))
theorem rE{M r:Nat}{sv:Value}{oth:List Nat}{k z:Nat}(h:k∉aT M r sv oth)(hz:k≠z):k∉aT M r sv (z::oth):=fun hm=>h (by
 unfold aT at *;simp only[afX,af2,agz]at *;rcases hm with hm|hm|hm|hm|hm
 ·exact .inl hm
 ·exact .inr (.inl hm)
 ·exact .inr (.inr (.inl hm))
 ·exact absurd hm hz
 ·exact .inr (.inr (.inr hm)))
theorem Mkr.typ{W:World}{base:Nat}{oth:List Nat}{M r:Nat}{x0 x1 x2:Value}{most:Nat}{sv:Value}{vals:List Value}{T:Sets}(h:Mkr W base oth M r x0 x1 x2 most sv vals T){k:Nat}(hk:k∈aT M r sv []):(∃cs,W.heap[k]?=some (.cells cs 130 (0,0)))\/(∃es c,W.heap[k]?=some (.map es c))\/∃cs,W.heap[k]?=some (.cells cs 25 (0,0)):=by
 unfold aT at hk;simp only[afX,af2,agz,agx,ahd]at hk;rcases hk with rfl|rfl|hk
 ·exact .inl ⟨_,h.box⟩
 ·exact .inr (.inl ⟨_,_,h.map⟩)
 ·exact .inr (.inr (bU h.own k hk))
theorem Mkr.qG{W:World}{base:Nat}{oth:List Nat}{M r:Nat}{x0 x1 x2:Value}{most:Nat}{sv:Value}{vals:List Value}{T:Sets}(h:Mkr W base oth M r x0 x1 x2 most sv vals T){k:Nat}{cs:Array Value}{t:TypeId}(hk:W.heap[k]?=some (.cells cs t (0,0)))(h1:t≠130)(h2:t≠25):k∉aT M r sv []:=fun hm=>by
 rcases h.typ hm with ⟨cs',e⟩|⟨es,c,e⟩|⟨cs',e⟩
 ·rw[hk]at e;cases e;exact h1 rfl
 ·rw[hk]at e;cases e
 ·rw[hk]at e;cases e;exact h2 rfl
theorem Mkr.dk{W W':World}{base:Nat}{oth:List Nat}{M r:Nat}{x0 x1 x2:Value}{most:Nat}{sv:Value}{vals:List Value}{T:Sets}(h:Mkr W base oth M r x0 x1 x2 most sv vals T)(hc:Ch (aT M r sv []) W W'):Dk W W':=Dk.LP hc fun k hk _ e=>by
 rcases h.typ hk with ⟨cs',e'⟩|⟨es,c,e'⟩|⟨cs',e'⟩<;>(rw[e]at e';cases e')
theorem jM.ch{bad:List Nat}{X Y:World}{B off:Nat}{l:List Kl}(h:jM X B off l)(hc:Ch bad X Y)(hB:B<X.heap.size)(hn:B∉bad):jM Y B off l:=fun i hi j v hv=>(hc.cell hB hn _).trans (h i hi j v hv)
section
variable {w W W' : World} {x0 x1 x2 : Value} {U R4 D M r ga : Nat} {d : List Kl} {most : Nat} {oth : List Nat} {sv nv rv : Value} {vals : List Value} {T : Sets} {next rule : List Int}
theorem Bs.nD(h:Bs w W x0 x1 x2 U R4 D M r ga d most oth sv nv rv vals T next rule):D∉aT M r sv []:=h.mkr.qG h.db (by decide) (by decide)
theorem Bs.nN(h:Bs w W x0 x1 x2 U R4 D M r ga d most oth sv nv rv vals T next rule):∀g,nv.ownBlock=some g->g∉aT M r sv []:=fun g hg=>by
 obtain⟨cs,hc⟩:=bU h.no g hg;exact h.mkr.qG hc (by decide) (by decide)
theorem Bs.nRv(h:Bs w W x0 x1 x2 U R4 D M r ga d most oth sv nv rv vals T next rule):∀g,rv.ownBlock=some g->g∉aT M r sv []:=fun g hg=>by
 obtain⟨cs,hc⟩:=bU h.ro g hg;exact h.mkr.qG hc (by decide) (by decide)
theorem Bs.state(h:Bs w W x0 x1 x2 U R4 D M r ga d most oth sv nv rv vals T next rule){sv':Value}{vals':List Value}{T':Sets}(hm:Mkr W' w.heap.size oth M r x0 x1 x2 most sv' vals' T')(hc:Ch (aT M r sv []) W W')(hs:sv'.ownBlock=sv.ownBlock\/∃g,sv'.ownBlock=some g/\W.heap.size<=g):
  Bs w W' x0 x1 x2 U R4 D M r ga d most oth sv' nv rv vals' T' next rule where
 low:=h.low.trans (hc.below h.low.size fun b hb=>by
  unfold aT at hb;simp only[afX,af2,agz,agx,ahd]at hb;rcases hb with rfl|rfl|hb
  ·exact h.mkr.bM
  ·exact h.mkr.br
  ·exact(h.mkr.own.lt b hb).1)
 mkr:=hm
 ub:=hc.bx h.ub fun hb=>h.nU (iD hb)
 rb:=hc.bx h.rb fun hb=>h.nR (iD hb)
 db:=hc.bx h.db h.nD
 al:=h.al.ch hc h.gl fun hb=>h.nA (iD hb)
 gl:=afN h.gl hc.low.size
 no:=lI h.no hc h.nN
 ro:=lI h.ro hc h.nRv
 ap:=h.ap
 nU:=ny h.nU h.ub.lt hs
 nR:=ny h.nR h.rb.lt hs
 nA:=ny h.nA h.gl hs
 oD:=h.oD
 oN:=h.oN
 oR:=h.oR
 lo:=h.lo
theorem Bs.below(h:Bs w W x0 x1 x2 U R4 D M r ga d most oth sv nv rv vals T next rule)(hb:Below W.heap.size W W'):Bs w W' x0 x1 x2 U R4 D M r ga d most oth sv nv rv vals T next rule:=
 h.state (h.mkr.below hb) (Ch.of_below hb _) (.inl rfl)
theorem tZ{M r:Nat}{sv:Value}{oth zZ:List Nat}{k:Nat}(h:k∉aT M r sv oth)(hk:k∈zZ->k∈oth):k∉aT M r sv zZ:=fun hm=>h (by
 unfold aT at *;simp only[afX,af2,agz]at *;rcases hm with hm|hm|hm|hm
 ·exact .inl hm
 ·exact .inr (.inl hm)
 ·exact .inr (.inr (.inl hm))
 ·exact .inr (.inr (.inr (hk hm))))
theorem Bs.more(h:Bs w W x0 x1 x2 U R4 D M r ga d most oth sv nv rv vals T next rule)(zZ:List Nat)(h1:∀k∈zZ,k<W.heap.size->k∈oth)(h2:∀k∈oth,k∈zZ)(h3:∀k∈zZ,w.heap.size<=k):Bs w W x0 x1 x2 U R4 D M r ga d most zZ sv nv rv vals T next rule where
 low:=h.low
 mkr:={h.mkr with
  row:=fun i v S hv hS=>(h.mkr.row i v S hv hS).more fun k hk hlt=>by
   refine Decidable.byContradiction fun hn=>tZ hn (fun hm=>h1 k hm hlt) hk}
 ub:=h.ub
 rb:=h.rb
 db:=h.db
 al:=h.al
 gl:=h.gl
 no:=h.no
 ro:=h.ro
 ap:=h.ap
 nU:=tZ h.nU fun hm=>h1 _ hm h.ub.lt
 nR:=tZ h.nR fun hm=>h1 _ hm h.rb.lt
 nA:=tZ h.nA fun hm=>h1 _ hm h.gl
 oD:=h2 _ h.oD
 oN g hg:=h2 _ (h.oN g hg)
 oR g hg:=h2 _ (h.oR g hg)
 lo:=h3
theorem Bs.row(h:Bs w W x0 x1 x2 U R4 D M r ga d most oth sv nv rv vals T next rule){g:Nat}{cs:Array Value}(hg:g∈oth)(hcs:W.heap[g]?=some (.cells cs 3 (0,0)))(hN:nv.ownBlock≠some g)(hR:rv.ownBlock≠some g)(hc:Ch [g] W W'):Bs w W' x0 x1 x2 U R4 D M r ga d most oth sv nv rv vals T next rule:=by
 have hn:=h.mkr.qG hcs (by decide) (by decide);have hM:M∉[g]:=by
  intro e;rw[afK]at e;subst e;exact hn (by unfold aT;simp)
 have hr:r∉[g]:=by
  intro e;rw[afK]at e;subst e;exact hn (by unfold aT;simp)
 have hs:∀b,sv.ownBlock=some b->b∉[g]:=fun b hb e=>by
  rw[afK]at e;subst e;exact hn (by unfold aT;simp[hb])
 have hne:∀k,k∉aT M r sv oth->k∉[g]:=fun k hk e=>by
  rw[afK]at e;subst e;exact hk (Hr hg)
 exact {h with
  low:=h.low.trans (hc.below h.low.size fun b hb=>by rw[afK.1 hb];exact h.lo g hg)
  mkr:=h.mkr.ch hc (fun b hb=>by rw[afK.1 hb];exact hg) hM hr hs
  ub:=hc.bx h.ub (hne _ h.nU)
  rb:=hc.bx h.rb (hne _ h.nR)
  db:=hc.bx h.db (fun e=>by rw[afK]at e;subst e;have:=h.db;rw[show W.heap[_]?=_ from this]at hcs;cases hcs)
  al:=h.al.ch hc h.gl (hne _ h.nA)
  gl:=afN h.gl hc.low.size
  no:=lI h.no hc fun b hb e=>by rw[afK]at e;subst e;exact hN hb
  ro:=lI h.ro hc fun b hb e=>by rw[afK]at e;subst e;exact hR hb}
theorem Bs.push{W5 W6:World}(b:Bool)(h:Bs w W x0 x1 x2 U R4 D M r ga d most oth sv nv rv vals T next rule){v':Value}{l:List Int}
  (h6:W5.ownsRow w.heap.size 3 1 v' ((if b then rule else next).length+l.length) ((if b then rule else next).map (Value.int .i64)++l.map (Value.int .i64))) (h7:W.grownBy W5 (if b then rv else nv).ownBlock) (h8:v'.ownBlock=(if b then rv else nv).ownBlock\/v'.ownBlock=some W.heap.size)
  (g3:Bx W6 D 27 (if b then #[nv,v']else #[v',rv])) (g4:∀k,k≠D->W6.heap[k]?=W5.heap[k]?) (hl:Below 0 W5 W6):
  Bs w W6 x0 x1 x2 U R4 D M r ga d most (v'.ownBlock.toList++oth) sv (if b then nv else v') (if b then v' else rv) vals T (if b then next else next++l) (if b then rule++l else rule)/\Dk W W6:=by
 have hv5:∀g,v'.ownBlock=some g->w.heap.size<=g:=fun g hg=>(h6.lt g hg).1;have h:=h.more (v'.ownBlock.toList++oth) (fun k hk hlt=>by
  rcases af2.1 hk with hk|hk
  ·rw[agz]at hk
   rcases h8 with e|e
   ·rw[e]at hk;cases b;exact h.oN k hk;exact h.oR k hk
   ·rw[e]at hk;cases hk;omega
  ·exact hk) (fun k hk=>agP _ hk) (fun k hk=>by
  rcases af2.1 hk with hk|hk
  ·exact hv5 k (agz.1 hk)
  ·exact h.lo k hk)
 have vO':∀g,v'.ownBlock=some g->g∈v'.ownBlock.toList++oth:=fun g hg=>agY _ (agz.2 hg);generalize v'.ownBlock.toList++oth=zZ at h vO';have hown:W.ownsRow w.heap.size 3 1 (if b then rv else nv) (if b then rule else next).length ((if b then rule else next).map (Value.int .i64)):=by cases b;exact h.no;exact h.ro
 have hO:∀g,(if b then rv else nv).ownBlock=some g->g∈zZ:=by cases b;exact h.oN;exact h.oR
 obtain⟨bad,hbad⟩:∃bad:List Nat,bad=D::(if b then rv else nv).ownBlock.toList:=⟨_,rfl⟩;have hbo:∀k∈bad,k∈zZ:=fun k hk=>by
  rw[hbad,afX,agz]at hk;rcases hk with rfl|hk
  ·exact h.oD
  ·exact hO k hk
 have hbn:∀k∈bad,k∉aT M r sv []:=fun k hk=>by
  rw[hbad,afX,agz]at hk;rcases hk with rfl|hk
  ·exact h.nD
  ·cases b
   ·exact h.nN k hk
   ·exact h.nRv k hk
 have c1:Ch bad W W5:=Ch.tX h7 fun g hg=>by rw[hbad];simp[hg]
 have c2:Ch bad W W6:=c1.trans (Ch.ni (A:=D) hl g4 (by rw[hbad];simp));have hne:∀k,k∉aT M r sv zZ->k∉bad:=fun k hk e=>hk (Hr (hbo k e));have hx5:Bx W5 D 27 #[nv,rv]:=(h7.block D h.db.lt (fun e=>by
  obtain⟨cs,hc⟩:=bU hown D e.symm;rw[show W.heap[D]?=_ from h.db]at hc
  cases hc)).trans h.db
 have o6:W6.ownsRow w.heap.size 3 1 v' ((if b then rule else next).length+l.length) ((if b then rule else next).map (Value.int .i64)++l.map (Value.int .i64)):=lI h6 (Ch.ni (A:=D) (bad:=[D]) hl g4 (by simp)) fun g hg e=>by
  obtain⟨cs,hc⟩:=bU h6 g hg;rw[afK.1 e,show W5.heap[D]?=_ from hx5]at hc
  cases hc
 have hM:M∉bad:=fun e=>hbn M e (by unfold aT;simp);have hr:r∉bad:=fun e=>hbn r e (by unfold aT;simp);have hs:∀g,sv.ownBlock=some g->g∉bad:=fun g hg e=>hbn g e (by unfold aT;simp[hg]);have other:∀g,(if b then nv else rv).ownBlock=some g->g∉bad:=fun g hg e=>by
  rw[hbad,afX,agz]at e;rcases e with rfl|e
  ·cases b
   ·obtain⟨cs,hc⟩:=bU h.ro _ hg
    rw[show W.heap[_]?=_ from h.db]at hc
    cases hc
   ·obtain⟨cs,hc⟩:=bU h.no _ hg
    rw[show W.heap[_]?=_ from h.db]at hc
    cases hc
  ·cases b
   ·exact h.ap g e hg
   ·exact h.ap g hg e
 have vO:=vO';have hlow:Below w.heap.size w W6:=h.low.trans (c2.below h.low.size fun k hk=>h.lo k (hbo k hk));have hmk:=h.mkr.ch c2 hbo hM hr hs;have hap:∀g,v'.ownBlock=some g->(if b then nv else rv).ownBlock≠some g:=fun g hg e=>by
  rcases h8 with e8|e8
  ·rw[e8]at hg
   cases b
   ·exact h.ap g hg e
   ·exact h.ap g e hg
  ·rw[e8]at hg
   cases hg
   cases b
   ·have:=(h.ro.lt _ e).2;omega
   ·have:=(h.no.lt _ e).2;omega
 refine⟨?_,Dk.LP c2 fun k hk _ e=>?_⟩
 ·cases b
  ·exact {h with
    low:=hlow
    mkr:=hmk
    ub:=c2.bx h.ub (hne _ h.nU)
    rb:=c2.bx h.rb (hne _ h.nR)
    db:=g3
    al:=h.al.ch c2 h.gl (hne _ h.nA)
    gl:=afN h.gl c2.low.size
    no:=by rw[afO Bool.false_ne_true,afO Bool.false_ne_true,afP,agt];exact o6
    ro:=lI h.ro c2 other
    ap:=hap
    oN:=vO}
  ·exact {h with
    low:=hlow
    mkr:=hmk
    ub:=c2.bx h.ub (hne _ h.nU)
    rb:=c2.bx h.rb (hne _ h.nR)
    db:=g3
    al:=h.al.ch c2 h.gl (hne _ h.nA)
    gl:=afN h.gl c2.low.size
    no:=lI h.no c2 other
    ro:=by rw[afR rfl,afR rfl,afP,agt];exact o6
    ap:=fun g hg e=>hap g e hg
    oR:=vO}
 ·rw[hbad,afX,agz]at hk
  rcases hk with rfl|hk
  ·rw[show W.heap[_]?=_ from h.db]at e;cases e
  ·obtain⟨cs,hc⟩:=bU hown k hk
   rw[hc]at e;cases e
end
end
section
open Go Kl
def nV(rw:List Int)(t:Int)(xs:List Nat):List Int:=xs.foldl (fun l x=>l.set x t) rw
theorem J3(rw:List Int)(t:Int)(xs:List Nat)(x:Nat):nV rw t (xs++[x])=(nV rw t xs).set x t:=by simp[nV]
theorem Dy(rw:List Int)(t:Int):∀xs:List Nat,(nV rw t xs).length=rw.length:=by
 intro xs
 induction xs generalizing rw with
 | nil=>rfl
 | cons x xs ih=>exact(ih (rw.set x t)).trans (by simp)
theorem Ib(t:Int):∀(xs:List Nat)(rw:List Int)(x:Nat),x<rw.length->(nV rw t xs).getD x 0=if x∈xs then t else rw.getD x 0
 | [],rw,x,_=>by simp[nV]
 | y::xs,rw,x,h=>by
  show(nV (rw.set y t) t xs).getD x 0=_
  rw[Ib t xs (rw.set y t) x (by simpa using h)]
  by_cases hx:x∈xs
  ·rw[afR hx,afR (afV _ hx)]
  ·rw[afO hx]
   by_cases e:x=y
   ·subst e
    rw[afR (afS ..)];simp[afG,agE,h]
   ·rw[afO (by simp[hx,e])]
    simp[afG,agE,ahX e]
structure Rw(d:List Kl)(ts:List Int)(j:Nat)(rw:List Int):Prop where
 len:rw.length=256
 at_:∀x,x<256->eX d x<j->rw.getD x 0=ts.getD (eX d x) 0
theorem Rw.start(d:List Kl):Rw d [] 0 (List.replicate 256 0):=⟨List.length_replicate ..,fun _ _ h=>absurd h (agp _)⟩
theorem Rw.step{l d:List Kl}(hP:fB l d){ts rw:List Int}{j:Nat}(h:Rw d ts j rw)(hts:ts.length=j)(hj:j<d.length)(t:Int):Rw d (ts++[t]) (j+1) (nV rw t (d[j]).by_):=by
 refine⟨by rw[Dy,h.len],fun x hx hc=>?_⟩;rw[Ib _ _ _ _ (by rw[h.len];exact hx)];obtain⟨hl,hh⟩:=Af hP hx
 by_cases e:eX d x=j
 ·have hm:x∈(d[j]).by_:=Kl.zO.2 ⟨hx,by simp only[<-e];exact hh⟩
  rw[afR hm,e,afG,aga (by omega),hts];simp
 ·have hm:x∉(d[j]).by_:=fun hm=>e (oU hP hl hj hx hh (Kl.zO.1 hm).2)
  rw[afO hm,h.at_ x hx (by omega),afG,afG,af6 (by omega)]
theorem Rw.done{l d:List Kl}(hP:fB l d){ts rw:List Int}(h:Rw d ts d.length rw):rw=(List.range 256).map fun x=>ts.getD (eX d x) 0:=by
 refine List.ext_getElem (by simp[h.len]) fun x h1 h2=>?_;have hx:x<256:=by rw[h.len]at h1;exact h1
 obtain⟨hl,_⟩:=Af hP hx;have:=h.at_ x hx hl;rw[afG,afE h1]at this
 simpa using this
theorem H7(cls:Nat->Nat)(tss:List (List Int))(ts:List Int):dB cls (tss++[ts])=dB cls tss++(List.range 256).map fun x=>ts.getD (cls x) 0:=by simp[dB]
theorem Ah{most:Nat}{f:Nat->List Int}: ∀(bs cs:List Nat)(T:Sets),rowB most f (bs++cs) T=match rowB most f bs T with
  | none=>none
  | some (ts,T1)=>match rowB most f cs T1 with
   | none=>none
   | some (us,T2)=>some (ts++us,T2)
 | [],cs,T=>by
  simp only[ahq,rowB]
  cases rowB most f cs T with
  | none=>rfl
  | some p=>rfl
 | b::bs,cs,T=>by
  simp only[ahs,rowB]
  cases mF most T (f b)with
  | none=>rfl
  | some p =>
   obtain⟨t,T1⟩:=p;simp only[Ah bs cs T1]
   cases rowB most f bs T1 with
   | none=>rfl
   | some p =>
    obtain⟨ts,T2⟩:=p;simp only
    cases rowB most f cs T2 with
    | none=>rfl
    | some p=>rfl
theorem Ot{most:Nat}{f:Nat->List Int}{bs:List Nat}{j b:Nat}{T0 T1 T2:Sets}{ts:List Int}{t:Int}(h:rowB most f (bs.take j) T0=some (ts,T1))(hb:bs[j]?=some b)(ha:mF most T1 (f b)=some (t,T2)):rowB most f (bs.take (j+1)) T0=some (ts++[t],T2):=by
 obtain⟨hj,rfl⟩:=afW.1 hb;rw[agy hj,Ah,h];simp only[rowB,ha]
theorem Oo{most:Nat}{f:Nat->List Int}{bs:List Nat}{j b:Nat}{T0 T1:Sets}{ts:List Int}(h:rowB most f (bs.take j) T0=some (ts,T1))(hb:bs[j]?=some b)(ha:mF most T1 (f b)=none):rowB most f bs T0=none:=by
 obtain⟨hj,rfl⟩:=afW.1 hb;have e:bs=bs.take j++bs[j]::bs.drop (j+1):=by
  rw[<-ahw hj,List.take_append_drop]
 rw[e,Ah,h];simp only[rowB,ha]
def rG(most:Nat)(f:List Int->Nat->List Int)(fD:List Nat)(T0:Sets)(i:Nat)(tss:List (List Int))(T:Sets):Prop:=
 lD most f fD (most+1) 0 T0=match lD most f fD (most+1-i) i T with
  | none=>none
  | some (us,T2)=>some (tss++us,T2)
theorem rG.start(most:Nat)(f:List Int->Nat->List Int)(fD:List Nat)(T0:Sets):rG most f fD T0 0 [] T0:=by
 unfold rG;rw[Nat.sub_zero]
 cases lD most f fD (most+1) 0 T0 with
 | none=>rfl
 | some p=>rfl
theorem rG.next{most:Nat}{f:List Int->Nat->List Int}{fD:List Nat}{T0 T T1:Sets}{i:Nat}{tss:List (List Int)}{ts:List Int}(h:rG most f fD T0 i tss T)(hi:i<T.length)(hm:T.length<=most)(hr:rowB most (f (T.getD i [])) fD T=some (ts,T1)):rG most f fD T0 (i+1) (tss++[ts]) T1:=by
 unfold rG at *;rw[h,show most+1-i=(most-i)+1 by omega,lD,afR hi,hr];simp only;rw[show most+1-(i+1)=most-i by omega]
 cases lD most f fD (most-i) (i+1) T1 with
 | none=>rfl
 | some p=>simp
theorem rG.none{most:Nat}{f:List Int->Nat->List Int}{fD:List Nat}{T0 T:Sets}{i:Nat}{tss:List (List Int)}(h:rG most f fD T0 i tss T)(hi:i<T.length)(hm:T.length<=most)(hr:rowB most (f (T.getD i [])) fD T=Option.none):lD most f fD (most+1) 0 T0=Option.none:=by
 unfold rG at h;rw[h,show most+1-i=(most-i)+1 by omega,lD,afR hi,hr]
theorem rG.done{most:Nat}{f:List Int->Nat->List Int}{fD:List Nat}{T0 T:Sets}{i:Nat}{tss:List (List Int)}(h:rG most f fD T0 i tss T)(hi:¬i<T.length)(hm:i<=most):lD most f fD (most+1) 0 T0=some (tss,T):=by
 unfold rG at h;rw[h,show most+1-i=(most-i)+1 by omega,lD,afO hi];simp
theorem Sv{most:Nat}{T T1:Sets}{S:List Int}{t:Int}(h:mF most T S=some (t,T1)):∀U∈T1,U∈T\/U=S:=by
 unfold mF at h;split at h
 ·cases h;exact fun U hU =>.inl hU
 split at h
 ·cases h;exact fun U hU =>.inl hU
 split at h
 ·cases h
 ·cases h
  intro U hU;rcases af2.1 hU with hU|hU
  ·exact .inl hU
  ·exact .inr (afK.1 hU)
end
end Go.Proofs.YtkjgogdkdejljaaGreatDoor.Df
namespace Go.Proofs.YtkjgogdkdejljaaGreatDoor.AX
section
open Go Go.RowKit
section
variable {P : Program} {Q : Exit -> Act -> World -> Prop} {n : Nat} {F : Fence} {ro : Option Nat}
theorem Ku(hF:F={Fence.wide with round:=ro}){row:String}{args:Array Value}{w:World}{R:Value->World->Prop}(h:Rows P row args w R):RowsIn F n P row args w R:=by
 subst hF;exact fun c cs _=>let ⟨v,w',r,s⟩:=h c cs;⟨v,w',r,stepsIn_wide.2 s⟩
theorem Ih(hF:F={Fence.wide with round:=ro}){f:FuncId}{args:Array Value}{w:World}{R:Ending->World->Prop}(h:Calls P f args w R):CallsIn F n P f args w R:=by
 subst hF;exact(callsIn_wide (n:=n)).2 h
theorem Kv(hF:F={Fence.wide with round:=ro}){o:Oper}{a:Act}{w:World}{K:Act->World->Prop}(hd:∀c,o.op ≠ .defer c)(h:o.wp P a w K Q):o.wpIn F n P a w K Q:=by
 refine⟨fun _ _=>by rw[hF];trivial,?_⟩;rw[Oper.semAt_eq _ _ _ hd];unfold Oper.wp at h;generalize (execOp a.eval o).run P w=r at *
 cases r with
 | ok x w' =>
  cases x<;>simp only[Oper.upon,Oper.uponIn]at h⊢ <;>
   first
    | exact h
    | exact⟨fun e=>(by rw[hF]at e;simp[Fence.wide]at e),Ih hF h⟩
    | exact⟨fun e=>(by rw[hF]at e;simp[Fence.wide]at e),Ku hF h⟩
 | halt x w'=>cases x<;>simp only[Oper.upon,Oper.uponIn]at h⊢<;>exact h
theorem mG(hF:F={Fence.wide with round:=ro}){ops:Array Oper}{md:Region.Mode}(hd:∀(i:Nat)(o:Oper) c,ops[i]?=some o->o.op ≠ .defer c)(hLO:¬LetsOut Q):∀(fuel:Nat)(listed:Array Bool)(a:Act)(w:World),
  wpAny P md ops Q fuel listed a w->wpAnyIn F n P md ops Q fuel listed a w
 | 0,_,_,_,h=>h
 | fuel+1,listed,a,w,h=>⟨h.1,fun i hi=>by
  have h1:=h.2 i hi;unfold wpOp at h1;unfold wpOpIn
  cases ho:ops[i]? with
  | none=>simp only[ho]at h1⊢;exact mG hF hd hLO fuel _ _ _ h1
  | some o =>
   simp only[ho]at h1⊢;split
   ·rename_i hw
    rw[afR hw]at h1;rcases h1 with h1|h1
    ·exact Oper.wpIn_mono (fun a' w' hk=>mG hF hd hLO fuel _ a' w' hk) (Kv hF (hd i o · ho) h1)
    ·exact(hLO h1.2).elim
   ·rename_i hw
    rw[afO hw]at h1;exact⟨fun _ _=>by rw[hF];trivial,mG hF hd hLO fuel _ _ _ h1⟩⟩
def Ii(o:Op):Bool:=match o with| .defer _=>false|_=>true
def Fj(l:List Oper):Bool:=l.all fun o=>Ii o.op
theorem uD{l:List Oper}(h:Fj l=true)(i:Nat)(o:Oper)(c:Call)(ho:l[i]?=some o):o.op ≠ .defer c:=fun e=>by
 have h1:=agk.1 h o (af7 ho);rw[e]at h1;exact absurd h1 (by simp[Ii])
end
end
section
open Go
inductive Plan
 | nil
 | plain (i:Nat) (r:Plan)
 | one (i:Nat) (r:Plan)
 | two (i:Nat) (r:Plan) (j:Nat) (s:Plan)
 | three (i:Nat) (r:Plan) (j:Nat) (s:Plan) (k:Nat) (t:Plan)
def xu(is:List Nat)(mask:Nat):List Inf->Nat->Bool
 | [],_=>true
 | y::L,j=>(is.any (Nat.beq j) || (Nat.testBit mask j || !(Nat.beq (Nat.land y.dep mask) y.dep))) && xu is mask L (j+1)
def upF(L:List Inf)(i mask:Nat):Bool:=match L[i]? with
 | none=>false
 | some x=>!(Nat.testBit mask i) && Nat.beq (Nat.land x.dep mask) x.dep
def jO(L:List Inf):Plan->Nat->Nat->Bool
 | .nil,mask,n=>Nat.beq mask (2 ^ L.length-1) && Nat.beq n 0
 | .plain i r,mask,n=>match L[i]?,n with
  | some x,n+1=>upF L i mask && (x.plain && qH i x mask L 0 && jO L r (Nat.lor mask (2 ^ i)) n)
  | _,_=>false
 | .one i r,mask,n=>match n with
  | n+1=>upF L i mask && (xu [i] mask L 0 && jO L r (Nat.lor mask (2 ^ i)) n)
  | _=>false
 | .two i r j s,mask,n=>match n with
  | n+1=>upF L i mask && upF L j mask && (xu [i,j] mask L 0 && (jO L r (Nat.lor mask (2 ^ i)) n && jO L s (Nat.lor mask (2 ^ j)) n))
  | _=>false
 | .three i r j s k t,mask,n=>match n with
  | n+1=>upF L i mask && upF L j mask && upF L k mask && (xu [i,j,k] mask L 0 && (jO L r (Nat.lor mask (2 ^ i)) n && (jO L s (Nat.lor mask (2 ^ j)) n && jO L t (Nat.lor mask (2 ^ k)) n)))
  | _=>false
theorem Au{is:List Nat}{mask:Nat}: ∀(L:List Inf)(k:Nat),xu is mask L k=true->∀j y,L[j]?=some y->k+j∈is\/mask.testBit (k+j)=true\/Nat.land y.dep mask≠y.dep
 | [],_,_,j,y,hj=>by simp at hj
 | z::L,k,h,0,y,hj=>by
  simp only[xu,afU,ahp,ag0,ahO]at h;obtain rfl:z=y:=by simpa using hj
  rcases h.1 with ⟨x,h1,h2⟩|h1|h1
  ·exact .inl (by rw[ahk]at h2;rw[agV,h2];exact h1)
  ·exact .inr (.inl (by simpa using h1))
  ·exact .inr (.inr fun e=>by rw[e]at h1;simp at h1)
 | z::L,k,h,j+1,y,hj=>by
  simp only[xu,afU]at h;have:=Au L (k+1) h.2 j y (by simpa using hj)
  rwa [show k+1+j=k+(j+1)by omega]at this
section
variable {P : Program} {C : World -> Prop} {Q : Exit -> Act -> World -> Prop}
def aQ(P:Program)(l:List Oper)(C:World->Prop)(Q:Exit->Act->World->Prop):Plan->Act->World->Prop
 | .nil,a,w=>Q .normal a w
 | .plain i r,a,w=>∃o,l[i]?=some o/\wpQuiet P l.toArray C (fun a'=>aQ P l C Q r a' w) [o] a
 | .one i r,a,w=>wpOp P l.toArray Q i (fun a' w'=>C w'/\aQ P l C Q r a' w') a w
 | .two i r j s,a,w=>wpOp P l.toArray Q i (fun a' w'=>C w'/\aQ P l C Q r a' w') a w/\wpOp P l.toArray Q j (fun a' w'=>C w'/\aQ P l C Q s a' w') a w
 | .three i r j s k t,a,w=>wpOp P l.toArray Q i (fun a' w'=>C w'/\aQ P l C Q r a' w') a w/\wpOp P l.toArray Q j (fun a' w'=>C w'/\aQ P l C Q s a' w') a w/\wpOp P l.toArray Q k (fun a' w'=>C w'/\aQ P l C Q t a' w') a w
theorem jY{l:List Oper}{i mask:Nat}{listed:Array Bool}(hl:Lst l.length listed mask)(h:upF (infos l) i mask=true):i<l.length/\i∈Region.ready .any l.toArray listed:=by
 unfold upF at h
 cases hx:(infos l)[i]? with
 | none=>rw[hx]at h;cases h
 | some x =>
  rw[hx]at h;simp only[afU,ag0,ahk]at h;obtain⟨hun,Fh⟩:=h;have hil:i<l.length:=by
   have:=(afW.1 hx).1
   simpa[infos]using this
  have ho:l[i]?=some l[i]:=afE hil;have hxe:x=iW l.toArray l[i]:=by
   simp only[infos,af8,ho,ag8,ahc]at hx;exact hx.symm
  have ho':l.toArray[i]?=some l[i]:=by simp
  have hgl:∀k,mask.testBit k=true->listed.getD k false=true:=fun k hk=>by
   rw[af4,hl.bit k (hl.lt k hk),hk];rfl
  exact⟨hil,mem_ready.2 ⟨by rw[af4,hl.bit i hil,hun];rfl,l[i],ho',fun e he hb=>hgl _ (by
   rw[hxe]at Fh;exact Ar Fh (gW.2 ⟨e,he,hb,rfl⟩))⟩⟩
theorem Aw{l:List Oper}{is:List Nat}{mask:Nat}{listed:Array Bool}(hl:Lst l.length listed mask)(hk:xu is mask (infos l) 0=true){j:Nat}(hj:j∈Region.ready .any l.toArray listed):j∈is:=by
 obtain⟨hj0,oj,hoj,hjd⟩:=mem_ready.1 hj;have hjl:j<l.length:=by have:=(afF.1 hoj).1;simpa using this
 have hje:(infos l)[j]?=some (iW l.toArray oj):=by
  have:l[j]?=some oj:=by simpa using hoj
  simp[infos,this]
 rcases Au _ 0 hk j _ hje with h1|h1|h1
 ·rwa [af9]at h1
 ·rw[af9]at h1
  rw[af4,hl.bit j hjl,h1]at hj0
  cases hj0
 ·refine(h1 (uz fun k hk2=>?_)).elim
  obtain⟨e,he,hb,rfl⟩:=gW.1 hk2;have h2:=hjd e he hb
  cases hm:mask.testBit e.on with
  | true=>rfl
  | false =>
   rcases ag6 e.on l.length with h3|h3
   ·rw[af4,hl.bit _ h3,hm]at h2;cases h2
   ·rw[af4,agR (by rw[hl.size];exact h3)]at h2;cases h2
theorem fK{l:List Oper}(hs:Region.noSelect l.toArray=true)(hQ:∀c a d v w,Q (.panic c) (Act.put a d v) w->Q (.panic c) a w):∀(r:Plan)(n:Nat)(listed:Array Bool)(mask:Nat)(a:Act)(w:World),C w->Lst l.length listed mask ->
  jO (infos l) r mask n=true->aQ P l C Q r a w->wI P .any l.toArray C Q n listed a w
 | .nil,n,listed,mask,a,w,_,hl,hB,h=>by
  simp only[jO,ahk,afU]at hB;obtain⟨hB,rfl⟩:=hB;refine⟨?_,h⟩;rw[List.eq_nil_iff_forall_not_mem];intro j hj;obtain⟨h0,o,ho,_⟩:=mem_ready.1 hj;have hjl:j<l.length:=by have:=(afF.1 ho).1;simpa using this
  have hb:=hl.bit j hjl;rw[hB]at hb;have:(2 ^ (infos l).length-1).testBit j=true:=by rw[ahL];simp[infos,hjl]
  rw[this]at hb;rw[af4,hb]at h0
  cases h0
 | .plain i r,n,listed,mask,a,w,hC,hl,hB,h=>by
  unfold jO at hB
  cases hx:(infos l)[i]? with
  | none=>rw[hx]at hB;cases hB
  | some x =>
   rw[hx]at hB
   cases n with
   | zero=>cases hB
   | succ n =>
    simp only[afU]at hB;obtain⟨hu,⟨hp,hf⟩,hB⟩:=hB;obtain⟨hil,dU⟩:=jY hl hu;have ho:l[i]?=some l[i]:=afE hil;have hxe:x=iW l.toArray l[i]:=by
     simp only[infos,af8,ho,ag8,ahc]at hx;exact hx.symm
    have ho':l.toArray[i]?=some l[i]:=(by simp);obtain⟨o,ho2,h⟩:=h;obtain rfl:l[i]=o:=by rw[ho]at ho2;exact agc ho2
    have hq:qOp P l.toArray C i (fun a'=>aQ P l C Q r a' w) a:=(by unfold qOp;simp only[ho'];exact h);obtain⟨v,hy,hK⟩:=yieldsIn_of_qOp ho' hq;refine nJ ho' (Region.noSelect_spec hs) (fun c a w=>hQ c a _ _ w) n listed a w hC (fun j oj hj hji hjun hno=>?_) dU (jv (by rw[hxe]at hp;exact hp) hy) (fK hs hQ r n _ _ _ w hC (hl.set hil) hB hK);have hjl:j<l.length:=(by have:=(afF.1 hj).1;simpa using this);have hje:(infos l)[j]?=some (iW l.toArray oj):=by
     have:l[j]?=some oj:=(by simpa using hj);simp[infos,this]
    rcases kP _ 0 hf j _ hje with h1|h1|h1|h1
    ·omega
    ·rw[af9]at h1
     rw[af4,hl.bit j hjl,h1]at hjun
     cases hjun
    ·obtain⟨e,he,hb,hon⟩:=gW.1 h1
     exact absurd hon (hno e he hb)
    ·rw[hxe]at h1;exact nK h1
 | .one i r,n,listed,mask,a,w,hC,hl,hB,h=>by
  cases n with
  | zero=>cases hB
  | succ n =>
   simp only[jO,afU]at hB;obtain⟨hu,ho,hB⟩:=hB;obtain⟨hil,dU⟩:=jY hl hu;refine⟨(fun h0=>by rw[h0]at dU;cases dU),fun j hj=>?_⟩;have:=Aw hl ho hj;simp only[afX,agx,ahd]at this;subst this;exact wpOp_mono (fun a' w' hk=>⟨hk.1,fK hs hQ r n _ _ a' w' hk.1 (hl.set hil) hB hk.2⟩) h
 | .two i r j s,n,listed,mask,a,w,hC,hl,hB,h=>by
  cases n with
  | zero=>cases hB
  | succ n =>
   simp only[jO,afU]at hB;obtain⟨⟨hu,hv⟩,ho,hB,hB2⟩:=hB;obtain⟨hil,dU⟩:=jY hl hu;obtain⟨hjl,_⟩:=jY hl hv;refine⟨(fun h0=>by rw[h0]at dU;cases dU),fun x hx=>?_⟩;have:=Aw hl ho hx;simp only[afX,agx,ahd]at this;rcases this with rfl|rfl
   ·exact wpOp_mono (fun a' w' hk=>⟨hk.1,fK hs hQ r n _ _ a' w' hk.1 (hl.set hil) hB hk.2⟩) h.1
   ·exact wpOp_mono (fun a' w' hk=>⟨hk.1,fK hs hQ s n _ _ a' w' hk.1 (hl.set hjl) hB2 hk.2⟩) h.2
 | .three i r j s k t,n,listed,mask,a,w,hC,hl,hB,h=>by
  cases n with
  | zero=>cases hB
  | succ n =>
   simp only[jO,afU]at hB;obtain⟨⟨⟨hu,hv⟩,hz⟩,ho,hB,hB2,hB3⟩:=hB;obtain⟨hil,dU⟩:=jY hl hu;obtain⟨hjl,_⟩:=jY hl hv;obtain⟨hkl,_⟩:=jY hl hz;refine⟨(fun h0=>by rw[h0]at dU;cases dU),fun x hx=>?_⟩;have:=Aw hl ho hx;simp only[afX,agx,ahd]at this;rcases this with rfl|rfl|rfl
   ·exact wpOp_mono (fun a' w' hk=>⟨hk.1,fK hs hQ r n _ _ a' w' hk.1 (hl.set hil) hB hk.2⟩) h.1
   ·exact wpOp_mono (fun a' w' hk=>⟨hk.1,fK hs hQ s n _ _ a' w' hk.1 (hl.set hjl) hB2 hk.2⟩) h.2.1
   ·exact wpOp_mono (fun a' w' hk=>⟨hk.1,fK hs hQ t n _ _ a' w' hk.1 (hl.set hkl) hB3 hk.2⟩) h.2.2
theorem gI{id:Nat}{a:Act}{w:World}{l:List Oper}(r:Plan)(L:List Inf)(hm:P.follows .mixedOrders=true)(hs:Region.noSelect l.toArray=true)(hL:infos l=L)(hB:jO L r 0 l.length=true)
  (hQ:∀c a d v w,Q (.panic c) (Act.put a d v) w->Q (.panic c) a w) (hC:C w.drew) (h:aQ P l C Q r a w.drew):(Code.region id l.toArray true).wp P Q a w:=by
 refine wp_region_any hm ?_;have:=nI _ _ _ _ (fK (P:=P) (C:=C) (Q:=Q) hs hQ r l.length _ 0 a w.drew hC (Lst.start _) (hL▸ hB) h)
 simpa using this
theorem ay{l:List Oper}{i:Nat}{r:Plan}{a:Act}{w:World}(o:Oper)(ho:l[i]?=some o)(h:wpQuiet P l.toArray C (fun a'=>aQ P l C Q r a' w) [o] a):aQ P l C Q (.plain i r) a w:=⟨o,ho,h⟩
theorem au{l:List Oper}{i:Nat}{K:Act->World->Prop}{a:Act}{w:World}(o:Oper)(ho:l[i]?=some o)(hw:Region.wanted o (yielded l.toArray a.tmps)=true)(h:Oper.wp P o a w K Q):wpOp P l.toArray Q i K a w:=by
 unfold wpOp;have ho':l.toArray[i]?=some o:=by simpa using ho
 simp only[ho',hw,ain];exact .inl h
theorem dA{l:List Oper}{i:Nat}{K:Act->World->Prop}{a:Act}{w:World}{o:Oper}{f:FuncId}{fn:Func}{c:Code}{xs:Array Operand}{ts:Array TypeId}{vs:Array Value}{R:Ending->World->Prop}(h:Calls P f vs w R)(ho:l[i]?=some o)
  (hop:o.op=.call {callee:=.value (.func f),args:=xs,argTypes:=ts}) (hw:Region.wanted o (yielded l.toArray a.tmps)=true) (hf:P.funcs[f]?=some fn) (hn:(fn.name == "runtime.NumGoroutine")=false) (hb:fn.body=some c) (hx:xs.map a.eval=vs)
  (hR:∀e w',R e w'->∃v,e=.returned v/\K (a.put o.dst v) w'):wpOp P l.toArray Q i K a w:=by
 refine au o ho hw ?_;have hrun:(execOp a.eval o).run P w=.ok (.enter f (xs.map a.eval)) w:=by
  have h1:fn.name≠"runtime.NumGoroutine":=by simpa using hn
  simp[execOp,hop,resolve,invoke,Act.eval,callFunc,Deferred.ofValue,hf,h1,hb]
 unfold Oper.wp;rw[hrun];refine Calls.mono (hx▸ h) fun e w2 hk=>?_;obtain⟨v,rfl,h1⟩:=hR _ _ hk;exact h1
end
section
variable {P : Program} {ops : Array Oper} {md : Region.Mode} {C : World -> Prop} {Q : Exit -> Act -> World -> Prop} {K : Array Bool -> Act -> World -> Prop} {i0 : Nat}
end
section
variable {P : Program} {C C2 : World -> Prop} {Q : Exit -> Act -> World -> Prop}
theorem Kw{l:List Oper}{i:Nat}{listed:Array Bool}{mask:Nat}{r:List (Nat×Bool)}(hl:Lst l.length listed mask)(hB:qp (infos l) ((i,true)::r) mask=true):∀j∈Region.ready .any l.toArray listed,j=i:=by
 intro j hj;simp only[qp]at hB
 cases hx:(infos l)[i]? with
 | none=>rw[hx]at hB;cases hB
 | some x =>
  rw[hx]at hB;simp only[afU,ag0,ahk]at hB;obtain⟨⟨hun,Fh⟩,hk,hB⟩:=hB;obtain⟨hj0,oj,hoj,hjd⟩:=mem_ready.1 hj;have hjl:j<l.length:=by have:=(afF.1 hoj).1;simpa using this
  have hje:(infos l)[j]?=some (iW l.toArray oj):=by
   have:l[j]?=some oj:=(by simpa using hoj);simp[infos,this]
  rcases rH _ 0 hk j _ hje with h1|h1|h1
  ·omega
  ·rw[af9]at h1
   rw[af4,hl.bit j hjl,h1]at hj0
   cases hj0
  ·refine(h1 (uz fun k hk2=>?_)).elim
   obtain⟨e,he,hb,rfl⟩:=gW.1 hk2;have h2:=hjd e he hb
   cases hm:mask.testBit e.on with
   | true=>rfl
   | false =>
    rcases ag6 e.on l.length with h3|h3
    ·rw[af4,hl.bit _ h3,hm]at h2;cases h2
    ·rw[af4,agR (by rw[hl.size];exact h3)]at h2;cases h2
end
section
variable {P : Program} {C : World -> Prop} {Q : Exit -> Act -> World -> Prop} {K : Act -> World -> Prop}
end
section
variable {P : Program} {ops : Array Oper} {md : Region.Mode} {C CT : World -> Prop} {Q : Exit -> Act -> World -> Prop} {K : Array Bool -> Act -> World -> Prop}
end
end
end Go.Proofs.YtkjgogdkdejljaaGreatDoor.AX
