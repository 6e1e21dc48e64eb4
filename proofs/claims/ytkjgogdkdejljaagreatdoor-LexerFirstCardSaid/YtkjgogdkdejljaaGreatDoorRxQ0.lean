import Derived.Test.YtkjgogdkdejljaaGreatDoorRxA4
import Derived.Test.YtkjgogdkdejljaaGreatDoorRxW9
import Derived.Test.YtkjgogdkdejljaaGreatDoorRxW10
set_option maxHeartbeats 40000000
namespace Go.Proofs.YtkjgogdkdejljaaGreatDoor.Rx
section
variable {r : List Nd}
theorem mJ(n:Nat):(zeros n).length=n:=by simp[zeros]
theorem qA.of'{H:Nat->Int->Prop}{n:Nat}{P P':Nat->Prop}{G G':Nat->Nat->Prop}{A:Lg}{x:En}(h:qA H n P G A x)(hP:∀p,P p->P' p)(hG:∀p q,G' p q↔G p q):qA H n P' G' A x:=
 ⟨h.lf,h.ll,h.good.of hP agO (fun _=>agO) (fun _=>agO) hG (fun _=>agO)⟩
theorem pI{H:Nat->Int->Prop}{n m:Nat}{ends:List En}{nx:List (List Bool)}{x:Nd}{mM:List Lg}{Pk:Int->Nat->Prop}{Gk:Int->Nat->Nat->Prop}
  (hm:m<n) (hx:iM m x) (hH:∀c,H m c↔x.has c=true) (hR:Rows n (m+1) nx)
  (hk:∀k∈x.kids,qA H n (Pk k) (Gk k) (mM.getD k.toNat gu) (en ends k)) (hpw:x.kids.Pairwise (fun k k'=>∀p,Pk k p->Pk k' p->False)) (hb:∀k∈x.kids,∀p,Pk k p->p<m+1):
  ∃D:Nat->Nat->Prop,Rows n (m+1) (cO n ends nx m x).1/\(∀p q,rM (cO n ends nx m x).1 p q↔rM nx p q\/D p q) /\
   qA H n (fun p=>p=m\/∃k∈x.kids,Pk k p) (fun p q=>(∃k∈x.kids,Gk k p q)\/D p q) (uG mM x) (cO n ends nx m x).2:=by
 have hM:m+1<=n:=hm
 by_cases h2:x.k=2
 ·have e:x.kids=[]:=by
   have:=hx.high;rw[iO,afR (.inr h2)]at this;exact agB (by omega)
  rw[show cO n ends nx m x=(nx,⟨false,(zeros n).set m true,(zeros n).set m true⟩)by unfold cO;rw[afR h2]];rw[show uG mM x=fun s=>∃c,s=[c]/\x.has c=true by unfold uG;rw[afR h2]];refine⟨fun _ _=>False,hR,fun p q=>by simp,by simp[zeros],by simp[zeros],(OJ (H:=H) m).of (fun p hp =>.inl hp) (by simp) (fun p=>mem_set n m p hm) (fun p=>mem_set n m p hm) (fun p q=>by simp[e]) (fun s=>?_)⟩;simp[hH]
 by_cases h3:x.k=3
 ·rw[show cO n ends nx m x=x.kids.foldl (jA ends) (nx,⟨true,zeros n,zeros n⟩)by unfold cO;rw[afO h2,afR h3]]
  rw[show uG mM x=x.kids.foldl (fun A k=>Fv A (mM.getD k.toNat gu)) qy by unfold uG;rw[afO h2,afR h3]];have h0:qA H n (fun _=>False) (fun _ _=>False) qy ⟨true,zeros n,zeros n⟩:=
   ⟨mJ n,mJ n,(Ij (H:=H)).of (fun _ h=>h) (by simp) (fun p=>aip (iJ n p) id) (fun p=>aip (iJ n p) id) (fun _ _=>agO) (fun _=>agO)⟩
  obtain⟨D,a,b,c⟩:=Il hM x.kids nx _ _ _ _ hR h0 hk (fun _ _ _ h=>h.elim) hpw (fun _ h=>h.elim) hb;exact⟨D,a,b,c.of' (fun p hp=>hp.elim (fun h=>h.elim) .inr) (fun p q=>by simp)⟩
 ·have h0:qA H n (fun _=>False) (fun _ _=>False) (if x.k=1 then qy else gu) ⟨decide (x.k=1),zeros n,zeros n⟩:=by
   refine⟨mJ n,mJ n,?_⟩
   by_cases h1:x.k=1
   ·rw[afR h1]
    exact (Ij (H:=H)).of (fun _ h=>h) (by simp[h1]) (fun p=>aip (iJ n p) id) (fun p=>aip (iJ n p) id) (fun _ _=>agO) (fun _=>agO)
   ·rw[afO h1]
    exact (OH (H:=H)).of (fun _ h=>h) (by simp[h1]) (fun p=>aip (iJ n p) id) (fun p=>aip (iJ n p) id) (fun _ _=>agO) (fun _=>agO)
  have hy:=Io x.kids _ _ _ _ h0 hk (fun _ _ _ h=>h.elim) hpw;have ev:cO n ends nx m x=(if x.k=5\/x.k=6 then kS nx (x.kids.foldl (iF ends) ⟨decide (x.k=1),zeros n,zeros n⟩).l (x.kids.foldl (iF ends) ⟨decide (x.k=1),zeros n,zeros n⟩).f else nx,
    ⟨if x.k=5\/x.k=7 then true else (x.kids.foldl (iF ends) ⟨decide (x.k=1),zeros n,zeros n⟩).e,(x.kids.foldl (iF ends) ⟨decide (x.k=1),zeros n,zeros n⟩).f,(x.kids.foldl (iF ends) ⟨decide (x.k=1),zeros n,zeros n⟩).l⟩):=by
   unfold cO;rw[afO h2,afO h3]
  rw[ev];have el:uG mM x=if x.k=5 then qJ (x.kids.foldl (fun A k=>lor A (mM.getD k.toNat gu)) (if x.k=1 then qy else gu))else if x.k=6 then Fv (x.kids.foldl (fun A k=>lor A (mM.getD k.toNat gu)) (if x.k=1 then qy else gu)) (qJ (x.kids.foldl (fun A k=>lor A (mM.getD k.toNat gu)) (if x.k=1 then qy else gu)))else if x.k=7 then lor (x.kids.foldl (fun A k=>lor A (mM.getD k.toNat gu)) (if x.k=1 then qy else gu)) qy else (x.kids.foldl (fun A k=>lor A (mM.getD k.toNat gu)) (if x.k=1 then qy else gu)):=by
   unfold uG;rw[afO h2,afO h3]
  rw[el];clear ev el
  revert hy
  generalize x.kids.foldl (iF ends) ⟨decide (x.k=1),zeros n,zeros n⟩=y;generalize x.kids.foldl (fun A k=>lor A (mM.getD k.toNat gu)) (if x.k=1 then qy else gu)=A;intro hy;have hP:∀p,(False\/∃k∈x.kids,Pk k p)->(p=m\/∃k∈x.kids,Pk k p):=fun p h=>h.elim (fun h=>h.elim) .inr;have hf:=hR.fol hM hy.ll hy.lf (fun p hp=>by
   rcases hy.good.l p hp with h|⟨k,hk',h⟩
   ·exact h.elim
   ·exact hb k hk' p h)
  by_cases h5:x.k=5
  ·rw[afR (.inl h5),afR (.inl h5),afR h5]
   exact⟨fun p q=>mem y.l p/\mem y.f q,hf.1,hf.2,hy.lf,hy.ll,(DT hy.good).of hP (by simp) (fun _=>agO) (fun _=>agO) (fun p q=>by simp) (fun _=>agO)⟩
  by_cases h6:x.k=6
  ·rw[afR (.inr h6),afO (by omega),afO h5,afR h6]
   exact⟨fun p q=>mem y.l p/\mem y.f q,hf.1,hf.2,hy.lf,hy.ll,(OL hy.good).of hP (by simp) (fun _=>agO) (fun _=>agO) (fun p q=>by simp) (fun _=>agO)⟩
  rw[afO (by omega),afO h5,afO h6]
  by_cases h7:x.k=7
  ·rw[afR (.inr h7),afR h7]
   exact⟨fun _ _=>False,hR,fun p q=>by simp,hy.lf,hy.ll,(Ky hy.good).of hP (by simp) (fun _=>agO) (fun _=>agO) (fun p q=>by simp) (fun _=>agO)⟩
  ·rw[afO (by omega),afO h7]
   exact⟨fun _ _=>False,hR,fun p q=>by simp,hy.lf,hy.ll,hy.good.of hP (by simp) (fun _=>agO) (fun _=>agO) (fun p q=>by simp) (fun _=>agO)⟩
def XE(r:List Nd)(p:Nat)(c:Int):Prop:=(r.getD p default).has c=true
structure Inv(r:List Nd)(m:Nat)(s:List En×List (List Bool)):Prop where
 le:s.1.length=m
 rows:Rows r.length m s.2
 c:∃C:Nat->Nat->Nat->Prop,(∀p q,rM s.2 p q↔∃j,j<m/\C j p q) /\
  ∀i,i<m->qA (XE r) r.length (fun p=>kT r p i) (fun p q=>∃j,kT r j i/\C j p q) ((allL r m).getD i gu) (en s.1 (i:Int))
theorem L9(ok:dL r):∀m,m<=r.length->Inv r m (fQ r m)
  | 0,_=>⟨rfl,⟨by simp[fQ],fun p row h=>by
      simp only[fQ,ahI]at h;split at h
      · simp at h;subst h;rfl
      · simp at h⟩,fun _ _ _=>False,fun p q=>by
      simp only[fQ,rM,mem,ahI]
      constructor
      · rintro⟨row,h,h'⟩
        split at h
        · simp at h;subst h;simp at h'
        · simp at h
      · rintro⟨j,h,_⟩;omega,fun i hi=>by omega⟩
  | m+1,hm=>by
    obtain⟨le,rows,C,c1,c2⟩:=L9 ok m (by omega);have hmr:r[m]?=some (r.getD m default):=by
      rw[afG,afE (by omega)];rfl
    have hx:=ok.nd m _ hmr;have hR:Rows r.length (m+1) ((fQ r m).2.set m (zeros r.length)):=by
      refine⟨by rw[agA];exact rows.len,fun p row h=>?_⟩;rw[agE]at h
      by_cases e:m=p
      · subst e
        rw[afR rfl,afR (by rw[rows.len];omega)]at h;rw[<-agc h,mJ,afR (by omega)]
      · rw[afO e]at h
        rw[rows.row p row h]
        by_cases e':p<m
        · rw[afR e',afR (by omega)]
        · rw[afO e',afO (by omega)]
    have hm0:∀p q,rM ((fQ r m).2.set m (zeros r.length)) p q↔rM (fQ r m).2 p q:=by
      intro p q;unfold rM;rw[agE]
      by_cases e:m=p
      · subst e
        rw[afR rfl,afR (by rw[rows.len];omega)]
        constructor
        · rintro⟨row,h,h'⟩
          rw[<-agc h]at h';exact(iJ _ _ h').elim
        · rintro⟨row,h,h'⟩
          have:=rows.row m row h;rw[afO (by omega)]at this;rw[agB this]at h';simp[mem]at h'
      · rw[afO e]
    have hkk:∀k∈(r.getD m default).kids,0<=k/\k<m:=fun k hk=>hx.kids k hk;have hpar:∀k∈(r.getD m default).kids,Par r k.toNat m:=fun k hk=>⟨_,hmr,by rw[show ((k.toNat:Nat):Int)=k by have:=hkk k hk;omega];exact hk⟩;obtain⟨D,d1,d2,d3⟩:=pI (H:=XE r) (mM:=allL r m) (ends:=(fQ r m).1) (Pk:=fun k p=>kT r p k.toNat) (Gk:=fun k p q=>∃j,kT r j k.toNat/\C j p q) (by omega:m<r.length) hx (fun c=>agO) hR
      (fun k hk=>by
        have h1:=hkk k hk;have:=c2 k.toNat (by omega);rw[show ((k.toNat:Nat):Int)=k by omega]at this;exact this)
      ((KC ok hmr).imp_of_mem (fun {k k'} hk hk' hne p h h'=>hne (by
        have h1:=hkk k hk;have h2:=hkk k' hk';have:=KD ok (hpar k hk) (hpar k' hk') h h';omega)))
      (fun k hk p hp=>by
        have h1:=hkk k hk;have:=hp.le ok;omega)
    refine⟨by simp[fQ,le],d1,fun j p q=>if j=m then D p q else C j p q,?_,?_⟩
    · intro p q
      show rM (cO _ _ _ _ _).1 p q↔_
      rw[d2,hm0,c1]
      constructor
      · rintro (⟨j,hj,h⟩|h)
        · exact⟨j,by omega,by dsimp only;rw[afO (by omega)];exact h⟩
        · exact⟨m,by omega,by dsimp only;rw[afR rfl];exact h⟩
      · rintro⟨j,hj,h⟩
        by_cases e:j=m
        · rw[afR e]at h;exact .inr h
        · rw[afO e]at h;exact .inl ⟨j,by omega,h⟩
    · intro i hi
      by_cases e:i=m
      · subst e
        have e1:(allL r (i+1)).getD i gu=uG (allL r i) (r.getD i default):=by
          simp only[allL];rw[afG,aga (by rw[uH];omega),uH];simp
        have e2:en (fQ r (i+1)).1 (i:Int)=(cO r.length (fQ r i).1 ((fQ r i).2.set i (zeros r.length)) i (r.getD i default)).2:=by
          simp only[fQ,en];rw[afG,aga (by rw[le];simp),le];simp
        rw[e1,e2];refine d3.of' ?_ ?_
        · rintro p (rfl|⟨k,hk,hp⟩)
          · exact .refl _
          · exact hp.snoc (hpar k hk)
        · intro p q
          constructor
          · rintro⟨j,hj,h⟩
            by_cases e:j=i
            · rw[afR e]at h;exact .inr h
            · rw[afO e]at h
              rcases hj.last with rfl|⟨k,⟨x,hx',hk⟩,hd⟩
              · exact(e rfl).elim
              · rw[hmr]at hx'
                have:=agc hx';subst this;exact .inl ⟨k,hk,j,by simpa using hd,h⟩
          · rintro (⟨k,hk,j,hj,h⟩|h)
            · refine⟨j,hj.snoc (hpar k hk),?_⟩
              have h1:=hj.le ok;have h2:=hkk k hk;dsimp only at h2⊢;rw[afO (by omega)];exact h
            · exact⟨i,.refl _,by dsimp only;rw[afR rfl];exact h⟩
      · have e1:(allL r (m+1)).getD i gu=(allL r m).getD i gu:=by
          simp only[allL];rw[afG,af6 (by rw[uH];omega),afG]
        have e2:en (fQ r (m+1)).1 (i:Int)=en (fQ r m).1 (i:Int):=by
          simp only[fQ,en];rw[afG,af6 (by rw[le];simp;omega),afG]
        rw[e1,e2];refine(c2 i (by omega)).of' (fun p hp=>hp) ?_;intro p q
        constructor
        · rintro⟨j,hj,h⟩
          have:=hj.le ok;rw[afO (by omega)]at h;exact⟨j,hj,h⟩
        · rintro⟨j,hj,h⟩
          have:=hj.le ok;exact⟨j,hj,by dsimp only;rw[afO (by omega)];exact h⟩
variable {r : List Nd}
theorem Tt(r:List Nd)(may:List Bool)(c:Int):(BK r may c).length=r.length:=by simp[BK]
structure fC(out:List Nd)(roots:List Int):Prop where
 nd:∀i x,out[i]?=some x->iM i x
 one:∀j:Nat,j<out.length->(aY out).count (j:Int)+roots.count (j:Int)=1
 roots:∀k∈roots,0<=k/\k<out.length
theorem nP:∀{out:List Nd} {n:Nat},(∀i x,out[i]?=some x->iM (n+i) x)->∀k∈aY out,0<=k/\k+1<n+out.length
 | [],_,_,k,hk=>by simp[aY]at hk
 | x::out,n,h,k,hk=>by
  rw[iK,af2]at hk;rcases hk with hk|hk
  ·have:=(h 0 x rfl).kids k hk
   simp;omega
  ·have:=nP (out:=out) (n:=n+1) (fun i y hy=>by have:=h (i+1) y (by simpa using hy);rwa [show n+1+i=n+(i+1)by omega]) k hk
   simp;omega
theorem BL(a b:List Nd):aY (a++b)=aY a++aY b:=by simp[aY]
end
section
open Go Go.Proofs Go.RowKit
attribute [local go_sem] Oper.semAt_some
theorem ZI(NB n i c cr:Nat)(bs:Nat->Nat)(B off:Nat)(ev:Value)(nx:List (List Bool))(es:List En)(x:Nd)(hn:n<=1000)(hi:i<n)(hx:iM i x)(hes:es.length=i)(hwf:∀(j:Nat) y,es[j]?=some y->rY n (i+1) y)(w0 w:World)(hN:NAt w NB n (i+1) bs nx)(hE:EAt w ev n (i+1) bs es)
  (hB:B<w0.heap.size) (hX:XAt w0 B (off+i*6) x) (hlow:Below w0.heap.size w0 w) (hbs:∀j,j<i+1->w0.heap.size<=bs j):
  Calls Tryz.prog 124 #[.agg #[.slice (some ⟨B,off,none⟩) n cr,ev,.slice (some ⟨NB,0,none⟩) n c],.int .i64 i] w fun e w' =>
   IL w w' n (cO n es nx i x).2 e/\NAt w' NB n (i+1) bs (cO n es nx i x).1/\fM (fun k=>∃j,j<i+1/\k=bs j) w w':=by
 by_cases h2:x.k=2
 ·exact Ug NB n i c cr bs B off ev nx es x hn hi hx h2 hes hwf w0 w hN hE hB hX hlow hbs
 ·by_cases h3:x.k=3
  ·exact Ub NB n i c cr bs B off ev nx es x hn hi hx h3 hes hwf w0 w hN hE hB hX hlow hbs
  ·exact Ue NB n i c cr bs B off ev nx es x hn hi hx ⟨h2,h3⟩ hes hwf w0 w hN hE hB hX hlow hbs
theorem Hf{α: Type}(enc: α->List Value)(k:Nat)(hk:∀x,(enc x).length=k)(l:List α):(l.flatMap enc).length=l.length*k:=by
 induction l with
 | nil=>simp
 | cons x l ih=>rw[agG,afP,ih,hk,agl,aiA,ait];omega
theorem flat_get{α: Type}(enc: α->List Value)(k:Nat)(hk:∀x,(enc x).length=k):∀(l:List α)(i:Nat)(x: α)(_:l[i]?=some x)(j:Nat)(v:Value),(enc x)[j]?=some v->(l.flatMap enc)[i*k+j]?=some v
 | [],i,x,h,_,_,_=>by simp at h
 | y::l,0,x,h,j,v,hv=>by
  simp at h;subst h;have hj:j<(enc y).length:=(afW.1 hv).1;rw[agG,aia,af9,af6 hj];exact hv
 | y::l,i+1,x,h,j,v,hv=>by
  have e:(i+1)*k+j=k+(i*k+j):=by rw[aiA,ait];omega
  rw[agG,e,aga (by rw[hk];omega),hk,Nat.add_sub_cancel_left];exact flat_get enc k hk l i x (by simpa using h) j v hv
structure EL where
 x:En
 F:Nat
 cf:Nat
 L:Nat
 cl:Nat
def KP(n:Nat)(y:EL):List Value:=[.bool y.x.e,.slice (some ⟨y.F,0,none⟩) n y.cf,.slice (some ⟨y.L,0,none⟩) n y.cl]
def BU(w:World)(base n:Nat)(v:Value)(l:List EL):Prop:=w.ownsRow base 205 3 v l.length (l.flatMap (KP n))
theorem iq{w:World}{base:Nat}{e:TypeId}{size n:Nat}{v:Value}{xs:List Value}(h:w.ownsRow base e size v n xs)(g:Nat)(hg:v.ownBlock=some g):∃cur,w.heap[g]?=some (.cells cur e (0,0)):=by
 rcases h.2 with ⟨rfl,_⟩|⟨g',cap,cur,rfl,_,hh,_⟩
 ·cases hg
 ·cases hg;exact⟨cur,hh⟩
theorem bP{w w':World}{base:Nat}{e:TypeId}{size n:Nat}{v:Value}{xs:List Value}(h:w.ownsRow base e size v n xs)(he:∀g,v.ownBlock=some g->w'.heap[g]?=w.heap[g]?):w'.ownsRow base e size v n xs:=by
 refine⟨h.1,?_⟩;rcases h.2 with ⟨rfl,hn⟩|⟨g,cap,cur,rfl,hg,hh,rest⟩
 ·exact .inl ⟨rfl,hn⟩
 ·exact .inr ⟨g,cap,cur,rfl,hg,(he g rfl).trans hh,rest⟩
theorem uP{w:World}{base:Nat}{e t:TypeId}{size n B:Nat}{v:Value}{xs:List Value}{cs:Array Value}(h:w.ownsRow base e size v n xs)(hB:w.heap[B]?=some (.cells cs t (0,0)))(ht:t≠e):some B≠v.ownBlock:=fun hg=>by
 obtain⟨cur,hc⟩:=iq h B hg.symm;rw[hB]at hc
 cases hc
 exact ht rfl
theorem aJ.KQ{w:World}{base:Nat}{size n B:Nat}{v:Value}{xs:List Value}{l:List Bool}(hB:aJ w B l)(h:w.ownsRow base 205 size v n xs):some B≠v.ownBlock:=by
 obtain⟨cs,hc,_⟩:=hB;exact uP h hc (by decide)
theorem NAt.grow{W W':World}{NB n k U:Nat}{bs:Nat->Nat}{nx:List (List Bool)}(h:NAt W NB n k bs nx)(hk:k<n){cs:Array Value}(hcs:W.heap[NB]?=some (.cells cs 203 (0,0)))(hN:W'.heap[NB]?=some (.cells (cs.setIfInBounds k (.slice (some ⟨U,0,none⟩) n n)) 203 (0,0)))
  (hU:aJ W' U (zeros n)) (hnew:∀j,j<k->bs j≠U) (hNU:NB≠U) (hsame:∀j,j<k->W'.heap[bs j]?=W.heap[bs j]?):NAt W' NB n (k+1) (fun j=>if j=k then U else bs j) (nx.set k (zeros n)):=by
 obtain⟨cs',h1,h2,h3⟩:=h.cells;obtain rfl:cs=cs':=by rw[hcs]at h1;cases h1;rfl
 refine⟨by rw[agA,h.len],⟨_,hN,by simp[h2],fun i hi=>?_⟩,fun i row hi hr=>?_,fun i j hi hj e=>?_,fun i hi=>?_⟩
 ·rw[agN]
  by_cases e:i=k
  ·subst e;rw[afR rfl,afR (by omega),afR rfl]
  ·rw[afO (fun x=>e x.symm),h3 i (by omega),afO e]
 ·rw[agE]at hr
  by_cases e:i=k
  ·subst e
   rw[afR rfl,afR (by rw[h.len];omega)]at hr;rw[afR rfl,<-agc hr];exact⟨hU,by simp[zeros]⟩
  ·rw[afO (fun x=>e x.symm)]at hr
   rw[afO e];obtain⟨a,b⟩:=h.row i row (by omega) hr;exact⟨a.same (hsame i (by omega)),b⟩
 ·by_cases e1:i=k<;>by_cases e2:j=k
  ·omega
  ·simp only[afR e1,afO e2]at e;exact absurd e.symm (hnew j (by omega))
  ·simp only[afR e2,afO e1]at e;exact absurd e (hnew i (by omega))
  ·simp only[afO e1,afO e2]at e;exact h.inj i j (by omega) (by omega) e
 ·by_cases e:i=k
  ·simp only[afR e];exact fun x=>hNU x.symm
  ·simp only[afO e];exact h.nb i (by omega)
theorem Uh{r:List Nd}(ok:dL r){m:Nat}(hm:m<=r.length)(j:Nat)(y:En)(h:(fQ r m).1[j]?=some y):rY r.length (m+1) y:=by
 obtain⟨le,rows,C,c1,c2⟩:=L9 ok m hm;have hj:=lt_of_some h;rw[le]at hj;have hE:=c2 j hj;have e:en (fQ r m).1 (j:Int)=y:=by unfold en;rw[afG,afY,h];rfl
 rw[e]at hE;exact⟨hE.lf,hE.ll,fun p hp=>by have:=(hE.good.l p hp).le ok;omega⟩
structure Mst(w W:World)(Mb NB n k:Nat)(bs:Nat->Nat)(rv ev:Value)(l:List EL)(nx:List (List Bool)):Prop where
 mb:Bx W Mb 202 #[rv,ev,.slice (some ⟨NB,0,none⟩) n n]
 nat:NAt W NB n k bs nx
 row:BU W w.heap.size n ev l
 sets:∀y∈l,(aJ W y.F y.x.f/\aJ W y.L y.x.l)/\(w.heap.size<=y.F/\w.heap.size<=y.L)/\∀i,i<k->bs i≠y.F/\bs i≠y.L
 low:Below w.heap.size w W
 bsl:∀i,i<k->w.heap.size<=bs i
 nbl:w.heap.size<=NB
 mbl:w.heap.size<=Mb
theorem Mst.eat{w W:World}{Mb NB n k:Nat}{bs:Nat->Nat}{rv ev:Value}{l:List EL}{nx:List (List Bool)}(h:Mst w W Mb NB n k bs rv ev l nx):EAt W ev n k bs (l.map (·.x)):=by
 have hbl:=fun i (hi:i<k) (row:List Bool) (hr:nx[i]?=some row)=>(h.nat.row i row hi hr).1;rcases h.row.2 with ⟨e,hn⟩|⟨g,cap,cur,e,hg,hh,rest⟩
 ·obtain rfl:l=[]:=agB hn
  exact⟨none,0,e,fun j x hj=>by simp at hj⟩
 ·refine⟨some ⟨g,0,none⟩,cap,by rw[e,agf],fun j x hj=>?_⟩
  rw[af8]at hj
  cases hy:l[j]? with
  | none=>rw[hy]at hj;cases hj
  | some y =>
   rw[hy]at hj;obtain rfl:y.x=x:=by simpa using hj
   obtain⟨⟨a1,a2⟩,_,a3⟩:=h.sets y (af7 hy);have hc:∀q v,(KP n y)[q]?=some v->W.cell? ⟨g,0+j*3+q,none⟩=some v:=fun q v hv=>by
    have:=World.ownsRow.cells h.row (g:=g) (by rw[e];rfl) (j*3+q) v (flat_get (KP n) 3 (fun _=>rfl) l j y hy q v hv);rw[addr_add,af9]at this;rw[af9];exact this
   refine⟨g,0,y.F,y.cf,y.L,y.cl,rfl,(afF.1 hh).1,fun i hi=>?_,⟨hc 0 _ rfl,hc 1 _ rfl,hc 2 _ rfl⟩,a1,a2,a3⟩;intro hb;obtain⟨row,hr⟩:∃row,nx[i]?=some row:=by
    cases hx:nx[i]? with
    | some row=>exact⟨row,rfl⟩
    | none =>
     exfalso;obtain⟨cs,c1,c2,c3⟩:=h.nat.cells;have h3:=c3 i hi;have:=(afF.1 h3).1;have:=h.nat.len;rw[List.getElem?_eq_none_iff]at hx;omega
   exact(hbl i hi row hr).KQ h.row (by rw[hb,e];rfl)
theorem NAt.ZJ{W:World}{NB n k:Nat}{bs:Nat->Nat}{nx:List (List Bool)}(h:NAt W NB n k bs nx)(i:Nat)(hi:i<k):∃row,aJ W (bs i) row:=by
 obtain⟨cs,c1,c2,c3⟩:=h.cells;have h3:=(afF.1 (c3 i hi)).1;have h4:i<nx.length:=by rw[h.len];omega
 exact⟨_,(h.row i _ hi (afE h4)).1⟩
theorem aJ.DZ{W:World}{B B':Nat}{l:List Bool}{t:TypeId}{cs:Array Value}(h:aJ W B l)(h':Bx W B' t cs)(ht:t≠4):B≠B':=fun e=>by
 subst e;obtain⟨cs',hc,_⟩:=h;have h2:W.heap[B]?=_:=h';rw[hc]at h2
 cases h2
 exact ht rfl
theorem BU.DZ{W:World}{base n B:Nat}{v:Value}{l:List EL}{t:TypeId}{cs:Array Value}(h:BU W base n v l)(h':Bx W B t cs)(ht:t≠205):some B≠v.ownBlock:=uP h h' ht
theorem NAt.lt'{W:World}{NB n k:Nat}{bs:Nat->Nat}{nx:List (List Bool)}(h:NAt W NB n k bs nx)(i:Nat)(hi:i<k):bs i<W.heap.size:=by
 obtain⟨row,hr⟩:=h.ZJ i hi;exact hr.lt
theorem Mst.below{w W W':World}{Mb NB n k:Nat}{bs:Nat->Nat}{rv ev:Value}{l:List EL}{nx:List (List Bool)}(h:Mst w W Mb NB n k bs rv ev l nx)(hb:Below W.heap.size W W'):Mst w W' Mb NB n k bs rv ev l nx:=
  ⟨h.mb.below hb h.mb.lt,h.nat.below hb h.nat.lt (fun i hi=>h.nat.lt' i hi),bP h.row (fun g e=>hb.block _ (World.ownsRow.lt h.row g e).2),
   fun y hy=>⟨⟨(h.sets y hy).1.1.below hb (h.sets y hy).1.1.lt,(h.sets y hy).1.2.below hb (h.sets y hy).1.2.lt⟩,(h.sets y hy).2⟩,h.low.trans (hb.mono h.low.size),h.bsl,h.nbl,h.mbl⟩
theorem Mst.next{w W W1 W2:World}{Mb NB n k U:Nat}{bs:Nat->Nat}{rv ev:Value}{l:List EL}{nx:List (List Bool)}(h:Mst w W Mb NB n k bs rv ev l nx)(hk:k<n)(hU:U=W.heap.size)(hb:Below W.heap.size W W1)(hR:aJ W1 U (zeros n)){cs:Array Value}(hcs:W1.heap[NB]?=some (.cells cs 203 (0,0)))
  (h3:W2.heap[NB]?=some (.cells (cs.setIfInBounds k (.slice (some ⟨U,0,none⟩) n n)) 203 (0,0))) (h4:∀j,j≠NB->W2.heap[j]?=W1.heap[j]?) (h5:AX.Same W1 W2):Mst w W2 Mb NB n (k+1) (fun j=>if j=k then U else bs j) rv ev l (nx.set k (zeros n)):=by
 have h1:=h.below hb;have hlow:=h.low.size;have hbt:=AX.ah (n:=w.heap.size) h.nbl (.inl (afF.1 h3).1) h4 h5;have hnb:∀j,j<k->bs j≠NB:=fun j hj=>h1.nat.nb j hj;have hNl:=h.nat.lt;have hM:Mb≠NB:=fun e=>by
  have:=h1.mb;unfold Bx at this;rw[e,hcs]at this
  cases this
 refine⟨(h4 _ hM).trans h1.mb,h1.nat.grow hk hcs h3 (hR.same (h4 _ (by omega))) (fun j hj=>by have:=h.nat.lt' j hj;omega) (by omega) (fun j hj=>h4 _ (hnb j hj)),bP h1.row (fun g e=>h4 _ (fun e'=>uP h1.row hcs (by decide) (e'▸ e.symm))),fun y hy=>?_,h1.low.trans hbt,fun i hi=>?_,h.nbl,h.mbl⟩
 ·obtain⟨⟨a1,a2⟩,⟨a3,a4⟩,a5⟩:=h1.sets y hy
  obtain⟨⟨b1,b2⟩,_,_⟩:=h.sets y hy;have e1:y.F≠NB:=fun e=>by obtain⟨cs',hc,_⟩:=a1;rw[e,hcs]at hc;cases hc
  have e2:y.L≠NB:=fun e=>by obtain⟨cs',hc,_⟩:=a2;rw[e,hcs]at hc;cases hc
  refine⟨⟨a1.same (h4 _ e1),a2.same (h4 _ e2)⟩,⟨a3,a4⟩,fun i hi=>?_⟩
  by_cases e:i=k
  ·simp only[afR e]
   have:=b1.lt;have:=b2.lt;exact⟨by omega,by omega⟩
  ·simp only[afO e];exact a5 i (by omega)
 ·by_cases e:i=k
  ·simp only[afR e];omega
  ·simp only[afO e];exact h.bsl i (by omega)
theorem Mst.called{w W W':World}{Mb NB n k:Nat}{bs:Nat->Nat}{rv ev:Value}{l:List EL}{nx nx':List (List Bool)}(h:Mst w W Mb NB n k bs rv ev l nx)(hb:fM (fun q=>∃i,i<k/\q=bs i) W W')(hN:NAt W' NB n k bs nx'):Mst w W' Mb NB n k bs rv ev l nx':=by
 have hbr:=fun i hi=>h.nat.ZJ i hi;refine⟨h.mb.jf hb (by rintro⟨i,hi,e⟩;obtain⟨row,hr⟩:=hbr i hi;exact hr.DZ h.mb (by decide) e.symm),hN,bP h.row (fun g e=>hb.same _ (World.ownsRow.lt h.row g e).2 (by rintro⟨i,hi,e'⟩;obtain⟨row,hr⟩:=hbr i hi;exact hr.KQ h.row (by rw[<-e',e]))),fun y hy=>?_,
  h.low.trans (hb.below h.low.size (by rintro q ⟨i,hi,rfl⟩;exact h.bsl i hi)),h.bsl,h.nbl,h.mbl⟩
 obtain⟨⟨a1,a2⟩,a3,a5⟩:=h.sets y hy;exact⟨⟨a1.jf hb (by rintro⟨i,hi,e⟩;exact(a5 i hi).1 e.symm),a2.jf hb (by rintro⟨i,hi,e⟩;exact(a5 i hi).2 e.symm)⟩,a3,a5⟩
theorem Mst.push{w W W1 W2:World}{Mb NB n k:Nat}{bs:Nat->Nat}{rv ev v':Value}{l:List EL}{nx:List (List Bool)}(h:Mst w W Mb NB n k bs rv ev l nx)(y:EL)(hy:(aJ W y.F y.x.f/\aJ W y.L y.x.l)/\(w.heap.size<=y.F/\w.heap.size<=y.L)/\∀i,i<k->bs i≠y.F/\bs i≠y.L)
  (hR:BU W1 w.heap.size n v' (l++[y])) (hg:W.grownBy W1 ev.ownBlock) (h3:W2.heap[Mb]?=some (.cells #[rv,v',.slice (some ⟨NB,0,none⟩) n n] 202 (0,0))) (h4:∀j,j≠Mb->W2.heap[j]?=W1.heap[j]?) (h5:AX.Same W1 W2):Mst w W2 Mb NB n k bs rv v' (l++[y]) nx:=by
 have hb1:=(afI w.heap.size W).grown hg h.low.size fun j ej=>(World.ownsRow.lt h.row j ej).1;have hb2:=AX.ah (n:=w.heap.size) h.mbl (.inl (afF.1 h3).1) h4 h5;have hm1:Bx W1 Mb 202 #[rv,ev,.slice (some ⟨NB,0,none⟩) n n]:=(hg.block Mb h.mb.lt (BU.DZ h.row h.mb (by decide))).trans h.mb;have same:∀(B:Nat)(row:List Bool),aJ W B row->W2.heap[B]?=W.heap[B]?:=fun B row hr=>(h4 B (hr.DZ h.mb (by decide))).trans (hg.block B hr.lt (hr.KQ h.row));have hset:∀z:EL,((aJ W z.F z.x.f/\aJ W z.L z.x.l)/\(w.heap.size<=z.F/\w.heap.size<=z.L)/\∀i,i<k->bs i≠z.F/\bs i≠z.L)->((aJ W2 z.F z.x.f/\aJ W2 z.L z.x.l)/\(w.heap.size<=z.F/\w.heap.size<=z.L)/\∀i,i<k->bs i≠z.F/\bs i≠z.L):=fun z hz =>
  ⟨⟨hz.1.1.same (same _ _ hz.1.1),hz.1.2.same (same _ _ hz.1.2)⟩,hz.2⟩
 refine⟨h3,?_,bP hR (fun g e=>h4 _ (fun e'=>BU.DZ hR hm1 (by decide) (e'▸ e.symm))),fun z hz=>?_,h.low.trans (hb1.trans hb2),h.bsl,h.nbl,h.mbl⟩
 ·obtain⟨cs,c1,c2,c3⟩:=h.nat.cells
  have hne:NB≠Mb:=fun e=>by have:=h.mb;unfold Bx at this;rw[<-e,c1]at this;cases this
  exact h.nat.same ((h4 _ hne).trans (hg.block _ h.nat.lt (uP h.row c1 (by decide)))) (fun i hi=>by obtain⟨row,hr⟩:=h.nat.ZJ i hi;exact same _ _ hr)
 ·rcases af2.1 hz with hz|hz
  ·exact hset z (h.sets z hz)
  ·rw[afK.1 hz];exact hset y hy
theorem WR(n:Nat)(hn:n<=1000)(w:World):∃(W0:World)(cs:Array Value),(Instr.makeSlice 199 (.int .i64 n) (.int .i64 n)).run Tryz.prog w=.ok (.slice (some ⟨w.heap.size,0,none⟩) n n) W0/\W0.heap[w.heap.size]?=some (.cells cs 203 (0,0))/\cs.size=n/\Below w.heap.size w W0/\W0.heap.size=w.heap.size+1:=by
 obtain⟨ti,hi,hz0,hz1,hz2⟩:=info_parts (show (Tryz.prog.info? 203).map (fun i=>(i.zero,i.size,i.bytes))=some (some (.slice none 0 0),1,24)by kernel_rfl);have h:=run_makeSlice (P:=Tryz.prog) (w:=w) 199 203 ti (.slice none 0 0) (by kernel_rfl) hi hz0 .i64 .i64 (n:Int) (n:Int) (by omega) (ah0 _) (by rw[hz1];simp;omega) (by rw[hz2];omega) (by omega);exact⟨_,_,by rw[afY]at h;exact h,World.alloc_heap_new w _,by simp[madeCells,hz1],(afI _ w).alloc afD _,by simp⟩
theorem WS:(Tryz.prog.info? 205).map (fun i=>(i.zero,i.size,i.bytes))=some (some (.agg #[.bool false,.slice none 0 0,.slice none 0 0]),3,56):=by kernel_rfl
theorem Ui(n:Nat)(l:List EL):∀v∈l.flatMap (KP n),v.oneCell'=true:=by
 intro v hv;obtain⟨x,_,hx⟩:=aht.1 hv;simp only[KP,afX,agx,ahd]at hx;rcases hx with rfl|rfl|rfl<;>rfl
theorem BZ{o:Oper}{a:Act}{K:Act->World->Prop}{Q:Exit->Act->World->Prop}{W:World}(base n:Nat)(v:Value)(l:List EL)(y:EL)(s x:Operand)
  (ho:o.op=.call {callee:=.builtin .append,args:=#[s,x],argTypes:=#[200,200]}) (hs:a.eval s=v) (hown:BU W base n v l) (B c:Nat) (hx:a.eval x=.slice (some ⟨B,0,none⟩) 1 c)
  (hc:Bx W B 205 (KP n y).toArray) (hl:l.length<=1000) (hb:base<=W.heap.size)
  (h:∀v' w',BU w' base n v' (l++[y])->W.grownBy w' v.ownBlock->K (a.put o.dst v') w'):o.wp Tryz.prog a W K Q:=by
 obtain⟨ti,hi,hz0,hz1,hz2⟩:=info_parts WS;refine wp_append_own (P:=Tryz.prog) (w:=W) s x 200 ho base 205 ti (.agg #[.bool false,.slice none 0 0,.slice none 0 0]) 3 56 Tryz.underlying200 hi hz0 hz1 hz2 rfl (by decide) v l.length _ hs hown ⟨B,0,none⟩ 1 c (KP n y) hx rfl
  (fun j u hj=>by rw[addr_add,af9,hc.cell];simpa using hj) (fun u hu=>Ui n [y] u (by simpa using hu)) (by unfold maxLen;omega) (by omega) hb ?_
 intro v' w' h1 h2 _;refine h v' w' ?_ h2;unfold BU;rw[afP,ag7]
 simpa using h1
theorem Bx.fiv{w:World}{B:Nat}{t:TypeId}{v0 v1 v2 v3 v4:Value}(h:Bx w B t #[v0,v1,v2,v3,v4]):w.cell? ⟨B,0,none⟩=some v0/\w.cell? ⟨B,1,none⟩=some v1/\w.cell? ⟨B,2,none⟩=some v2/\w.cell? ⟨B,3,none⟩=some v3/\w.cell? ⟨B,4,none⟩=some v4:=⟨h.cell 0,h.cell 1,h.cell 2,h.cell 3,h.cell 4⟩
def Rdr(W:World)(Rb:Nat)(s:ByteArray)(at_:Int)(rv sv:Value)(e:Int):Prop:=Bx W Rb 168 #[.string s,.int .i64 at_,rv,sv,.int .i64 e]
def dh(n:Nat)(at_ e:Int):Bool:=e == 0 && decide (at_<n)
theorem AP(Rb:Nat)(s:ByteArray)(at_:Int)(rv sv:Value)(e:Int)(w:World)(hR:Rdr w Rb s at_ rv sv e):
  Calls Tryz.prog 89 #[.pointer (some ⟨Rb,0,none⟩)] w fun x w'=>x=.returned (.bool (dh s.size at_ e))/\Below w.heap.size w w':=by
 obtain⟨c0,c1,c2,c3,c4⟩:=Bx.fiv hR;have d0:=AX.aA c0 hR.lt;have d1:=AX.aA c1 hR.lt;have d4:=AX.aA c4 hR.lt
 by_cases he:e=0
 ·subst he
  go_enter Tryz.func89,Tryz.ntmps89
  go_wp2_with fail
  refine AX.aF (by kernel_rfl) (by kernel_rfl) ?_
  repeat (go_big_quiet_step (fail))
  refine afQ ?_;rintro w' ⟨p,rfl⟩;go_wp2_with fail
  exact afJ (v:=.bool (dh s.size at_ 0)) (by simp[results,Tryz.results89,go_sem,dh]) rfl ⟨rfl,p.h⟩
 ·go_enter Tryz.func89,Tryz.ntmps89
  go_wp2_with fail
  refine AX.aF (by kernel_rfl) (by kernel_rfl) ?_
  repeat (go_big_quiet_step (fail))
  simp only[agn.2 he]
  repeat (go_big_quiet_step (fail))
  refine afQ ?_;rintro w' ⟨p,rfl⟩;go_wp2_with fail
  have hm:dh s.size at_ e=false:=by simp[dh,he]
  exact afJ (v:=.bool false) (by simp[results,Tryz.results89,go_sem]) rfl ⟨by rw[hm],p.h⟩
def gQ(p:Int×Int)(at_ e:Int):Int×Int:=if p.2=0 then (at_,e)else p
theorem lK(Rb:Nat)(s:ByteArray)(at_:Int)(rv sv:Value)(e:Int)(a2 e2:Int)(w:World)(hR:Rdr w Rb s at_ rv sv e):
  Calls Tryz.prog 91 #[.pointer (some ⟨Rb,0,none⟩),.int .i64 a2,.int .i64 e2] w fun x w'=>x=.returned (.tuple #[])/\Rdr w' Rb s (gQ (at_,e) a2 e2).1 rv sv (gQ (at_,e) a2 e2).2/\AX.But Rb w w':=by
 obtain⟨c0,c1,c2,c3,c4⟩:=Bx.fiv hR
 by_cases he:e=0
 ·subst he
  have h1:=(Bx.set hR 4 (.int .i64 e2)).set 1 (.int .i64 a2);have f1:=hR.frozen 1;have f4:=hR.frozen 4;have hb:=(iZ w Rb 4 (.int .i64 e2)).trans (iZ (w.setCell ⟨Rb,4,none⟩ (.int .i64 e2)) Rb 1 (.int .i64 a2));go_enter Tryz.func91,Tryz.ntmps91
  go_wp2
  exact bodyPost_end (v:=.tuple #[]) (by simp[results,Tryz.results91,go_sem]) rfl ⟨rfl,h1,hb⟩
 ·have hf:gQ (at_,e) a2 e2=(at_,e):=afO he
  rw[hf];go_enter Tryz.func91,Tryz.ntmps91
  go_wp2
  exact bodyPost_end (v:=.tuple #[]) (by simp[results,Tryz.results91,go_sem]) rfl ⟨rfl,hR,AX.But.refl _ _⟩
theorem TI(Rb Sb n c:Nat)(hn:1<=n)(hn2:n<=1000)(s:ByteArray)(at_:Int)(rv:Value)(e:Int)(w:World)(hR:Rdr w Rb s at_ rv (.slice (some ⟨Sb,0,none⟩) n c) e):
  Calls Tryz.prog 123 #[.pointer (some ⟨Rb,0,none⟩)] w fun x w'=>x=.returned (.pointer (some ⟨Sb,(n-1)*2,none⟩))/\Below w.heap.size w w':=by
 obtain⟨c0,c1,c2,c3,c4⟩:=Bx.fiv hR;have d3:=AX.aA c3 hR.lt;have hk:((n:Int)-1).toNat=n-1:=by omega
 have hk0:(0:Int)<=(n:Int)-1:=by omega
 have hk1:(n:Int)-1<(n:Int):=by omega
 go_enter Tryz.func123,Tryz.ntmps123
 go_wp2_with fail
 refine AX.aF (by kernel_rfl) (by kernel_rfl) ?_
 repeat (go_big_quiet_step (fail))
 refine afQ ?_;rintro w' ⟨p,rfl⟩;go_wp2_with fail
 exact afJ (v:=.pointer (some ⟨Sb,(n-1)*2,none⟩)) (by simp[results,Tryz.results123,go_sem]) rfl ⟨rfl,p.h⟩
end
section
open Go
structure C4 where
 a:Nat
 b:Nat
 c:Nat
 d:Nat
def C4.zero:C4:=⟨0,0,0,0⟩
def C4.v(x:C4):Value:=.agg #[.int .u64 x.a,.int .u64 x.b,.int .u64 x.c,.int .u64 x.d]
structure C4.Wd(x:C4):Prop where
 a:x.a<18446744073709551616
 b:x.b<18446744073709551616
 c:x.c<18446744073709551616
 d:x.d<18446744073709551616
theorem C4.Md:C4.zero.Wd:=⟨by decide,by decide,by decide,by decide⟩
structure H5 where
 k:Int
 w:C4
def h5(k:Int):H5:=⟨k,.zero⟩
abbrev Fr(α: Type):=List α×List α
section
variable {σ α : Type} (mk : σ -> H5 -> List α -> σ × α)
def cu(st: σ)(k:Int):List α->σ×α
 | []=>mk st (h5 1) []
 | [x]=>(st,x)
 | x::y::l=>mk st (h5 k) (x::y::l)
def fE(st: σ)(A I:List α): σ×α:=cu mk (cu mk st 3 I).1 4 (A++[(cu mk st 3 I).2])
end
def mkI(r:List Nd)(h:H5)(l:List Int):List Nd×Int:=(r++[⟨h.k,h.w.a,h.w.b,h.w.c,h.w.d,l⟩],(r.length:Int))
structure Cd where
 k:Int
 w:C4
 n:Nat
def mkC(_:Unit)(h:H5)(l:List (List Cd)):Unit×List Cd:=((),⟨h.k,h.w,l.length⟩::l.flatten)
end
end Go.Proofs.YtkjgogdkdejljaaGreatDoor.Rx
