import Derived.Test.YtkjgogdkdejljaaGreatDoorDfB2
set_option maxRecDepth 100000
set_option maxHeartbeats 40000000
namespace Go.Proofs.YtkjgogdkdejljaaGreatDoor.Df
open Go Go.Proofs Go.RowKit
attribute [local go_sem] Oper.semAt_some
theorem MS{d s:Nat}{D S:List Int}(w:World)(hne:d≠s)(hD:aN w d D)(hS:aN w s S):
  Calls Tryz.prog 127 #[.map (some d),.map (some s)] w fun e w'=>e=.returned (.tuple #[])/\aN w' d (jF D S)/\AX.But d w w':=by
 obtain⟨ks,hM,hks⟩:=hS;obtain⟨ds,hN,hds⟩:=hD;have hKS:=Lib.hid hks;have hDS:=Lib.hid hds;clear hks hds;go_enter Tryz.func127,Tryz.ntmps127
 go_wp2_with (first|(at_range;refine lq _ rfl _ rfl s ks rfl hM ?_;intro w0 hrg hb0 hs0)|fail)
 go_frame
 obtain⟨It,hIt⟩:=afC w.heap.size;have hdI:d≠It:=by have:=hN.lt;omega
 have hN0:=hN.same (hb0.block d hN.lt);have lS:AX.But d w w0:=AX.But.of_below hb0;rw[<-hIt]at hrg⊢;have HIt:=Lib.hid hIt;clear hIt hb0 hs0 hN hM;go_loopw [9] (fun _ wr=>∃dn dk,jP wr It s ks dn/\MAt wr d dk/\Hid (∀x,x∈dk↔x∈D\/x∈dn)/\AX.But d w wr) (fun _ wr=>lft wr It s)
 case atStart=>exact⟨[],ds,hrg,hN0,Lib.hid (fun x=>by rw[hDS.out];simp),lS⟩
 case round =>
  obtain⟨dn,dk,qo,hN',hmem,hb'⟩:=hrel;go_wp2_with (at_next;refine mW _ rfl _ rfl It s ks dn rfl qo ?_ ?_)
  ·intro hall
   have hfin:aN wr d (jF D S):=⟨dk,hN',fun x=>by
    rw[hmem.out x,lM];refine or_congr agO ⟨fun h=>?_,fun h=>hall x ((hKS.out x).2 h)⟩;obtain⟨_,_,_,_,_,_,_,_,_,_,_,_,_,_,_,h11⟩:=qo;exact(hKS.out x).1 (h11 x h)⟩
   clear qo hN' hmem hall;go_wp2_with fail
   exact bodyPost_end (v:=.tuple #[]) (by simp[results,Tryz.results127,go_sem]) rfl ⟨rfl,hfin,hb'⟩
  ·intro k W1 hk hnd hrg1 hb1 hz1 hs1 hl1 hen
   have hN1:=hN'.same (hs1 d hdI);have hA:=(afI W1.heap.size W1).alloc afD (.cells #[] 125);have hI1:=hrg1.lt;have hrg2:=hrg1.same (hA.block s hI1.2.1) (hA.block It hI1.1);have hN2:=hN1.same (hA.block d hN1.lt);have hl2:lft (W1.alloc (.cells #[] 125)) It s<lft wr It s:=(by rw[rZ (hA.block s hI1.2.1) (hA.block It hI1.1)];exact hl1);have hB2:AX.But d w (W1.alloc (.cells #[] 125)):=⟨hb'.low.trans (hb1.trans (hA.mono (af0 _))),fun j hj hjd=>(hA.block j (by have:=hb'.low.size;omega)).trans ((hs1 j (by have:=HIt.out;omega)).trans (hb'.same j hj hjd))⟩;have Z9:Hid (∀x,x∈lg dk k↔x∈D\/x∈dn++[k]):=Lib.hid fun x=>by
    rw[FM,hmem.out x,af2,afK]
    constructor
    ·rintro (h|h|h)<;>simp[h]
    ·rintro (h|h|h)<;>simp[h]
   clear hrg1 hN1 hb1 hs1 hl1 hA hmem qo hN' hb' hk hnd;go_wp2_with (at_mapUpdate;refine FN _ d dk k rfl rfl rfl hN2 ?_;intro W2 hN3 hz2 hb2 hs2)
   go_roundw
   case rel=>exact⟨_,_,hrg2.same (hs2 s hne.symm) (hs2 It hdI.symm),hN3,Z9,⟨hB2.low.trans hb2,fun j hj hjd=>(hs2 j hjd).trans (hB2.same j hj hjd)⟩⟩
   case measure=>rw[rZ (hs2 s hne.symm) (hs2 It hdI.symm)];exact hl2
def Uw(w:World)(A B:List Int)(e:Ending)(w':World):Prop:=∃r,e=.returned (.map (some r))/\w.heap.size<=r/\aN w' r (jF A B)/\Below w.heap.size w w'
theorem lT{ra rb b o c:Nat}{A B:List Int}(w:World)(hA:aN w ra A)(hB:aN w rb B)(hb:b<w.heap.size)(h0:w.cell? ⟨b,o,none⟩=some (.map (some ra)))(h1:w.cell? ⟨b,o+1,none⟩=some (.map (some rb))):
  Calls Tryz.prog 97 #[.slice (some ⟨b,o,none⟩) 2 c] w (Uw w A B):=by
 have hr:=aN.new w;have hz:=(afI w.heap.size w).alloc afD (.map #[] 0);obtain⟨r,hrr⟩:=afC w.heap.size;have har:ra<r:=by rw[hrr];exact hA.lt
 have hbr:rb<r:=by rw[hrr];exact hB.lt
 have aeP:b<r:=by rw[hrr];exact hb
 have hA':=hA.below hz afD;have hB':=hB.below hz afD;have h0':=(hz.cell (p:=⟨b,o,none⟩) hb).trans h0;have h1':=(hz.cell (p:=⟨b,o+1,none⟩) hb).trans h1;have hsz:w.heap.size<=(w.alloc (.map #[] 0)).heap.size:=hz.size;rw[<-hrr]at hr;have hc:∀W (S T:List Int) (x:Nat),x<r->aN W r S->aN W x T->Calls Tryz.prog 127 #[.map (some r),.map (some x)] W fun e w'=>e=.returned (.tuple #[])/\aN w' r (jF S T)/\AX.But r W w':=fun W S T x hx h1 h2=>MS W (by omega) h1 h2;have HR:=Lib.hid hrr;clear hA hB h0 h1 hb;have hmk:=fun W=>FQ W;go_enter Tryz.func97,Tryz.ntmps97
 go_upto_region 2 with fail
 rw[<-hrr];obtain⟨W0,hW0⟩:=afC (w.alloc (.map #[] 0));rw[<-hW0]at hr hz hA' hB' h0' h1' hsz⊢;clear hrr hW0 hmk;go_wp2_with fail
 go_loopw [9] (fun i wr=>∃(n:Nat)(S:List Int),i=.int .i64 n/\(n=0/\S=[]\/n=1/\S=jF [] A\/n=2/\S=jF (jF [] A) B)/\aN wr r S/\AX.But r W0 wr) (fun i _=>2-(RowKit.intOf i).toNat)
 case atStart=>exact⟨0,[],rfl,.inl ⟨rfl,rfl⟩,hr,AX.But.refl _ _⟩
 case round =>
  obtain⟨n,S,rfl,hn,hS,hb'⟩:=hrel;have hrW:r<W0.heap.size:=hr.lt;have k0:=(show wr.cell? ⟨b,o,none⟩=W0.cell? ⟨b,o,none⟩by unfold World.cell?;rw[hb'.same b (by omega) (by omega)]).trans h0';have k1:=(show wr.cell? ⟨b,o+1,none⟩=W0.cell? ⟨b,o+1,none⟩by unfold World.cell?;rw[hb'.same b (by omega) (by omega)]).trans h1';have ka:=hA'.same (hb'.same ra (by omega) (by omega));have kb:=hB'.same (hb'.same rb (by omega) (by omega));rcases hn with ⟨rfl,rfl⟩|⟨rfl,rfl⟩|⟨rfl,rfl⟩
  ·have h2:=hc wr _ _ ra har hS ka
   clear hc;go_wp2_with (go_at_call 127;((with_reducible refine h2.mono ?_);rintro e W3 ⟨rfl,hS3,hb3⟩))
   go_roundw
   case rel=>exact⟨1,_,rfl,.inr (.inl ⟨rfl,rfl⟩),hS3,hb'.trans hb3⟩
   case measure=>decide
  ·have h2:=hc wr _ _ rb hbr hS kb
   clear hc;go_wp2_with (go_at_call 127;((with_reducible refine h2.mono ?_);rintro e W3 ⟨rfl,hS3,hb3⟩))
   go_roundw
   case rel=>exact⟨2,_,rfl,.inr (.inr ⟨rfl,rfl⟩),hS3,hb'.trans hb3⟩
   case measure=>decide
  ·clear hc
   go_wp2_with fail
   have hB9:Below w.heap.size w wr:=hz.trans ⟨hb'.low.os,hb'.low.tape,hb'.low.output,hb'.low.size,fun j hj=>hb'.same j (by omega) (by have:=HR.out;omega)⟩;exact afJ (v:=.map (some r)) (by simp[results,Tryz.results97,go_sem]) rfl ⟨r,rfl,afT HR.out.symm,hS.eqv (fun x=>by rw[lM,lM,lM];simp),hB9⟩
end Go.Proofs.YtkjgogdkdejljaaGreatDoor.Df
namespace Go.Proofs.YtkjgogdkdejljaaGreatDoor.AX
open Go
section
variable {P : Program} {C CT : World -> Prop} {Q : Exit -> Act -> World -> Prop} {i0 : Nat}
def iw(L:List Inf)(m:Nat):List Nat:=(List.range L.length).filter fun i=>upF L i m
def iH(P:Program)(l:List Oper)(C CT:World->Prop)(K:Act->Prop):List (Nat×Bool)->Act->Prop
 | [],a=>K a
 | (i,b)::r,a=>∃o,l[i]?=some o/\wpQuiet P l.toArray (if b then C else CT) (fun a'=>iH P l C CT K r a') [o] a
def OE(L:List Inf)(i0:Nat):List (Nat×Bool)->Nat->Nat->Bool
 | [],mask,e=>Nat.beq mask e
 | (i,b)::r,mask,e=>match L[i]?,L[i0]? with
  | some x,some x0=>(upF L i mask && (x.plain && qH i x mask L 0)) && ((!(Nat.beq i i0) && (!b || Nat.testBit x0.dep i)) && OE L i0 r (Nat.lor mask (2 ^ i)) e)
  | _,_=>false
theorem OG{l:List Oper}(hi0:i0<l.length)(hs:Region.noSelect l.toArray=true)(hQ:∀c a d v w,Q (.panic c) (Act.put a d v) w->Q (.panic c) a w)(N:Nat->Nat->Act->World->Prop)(tail:List (Nat×Nat))(mE:Nat)
  (ht:qp (infos l) (asF tail) mE=true) (hf:Fp (infos l) i0 tail=true)
  (hN:∀n m a w,N n m a w->(C w/\CT w/\m.testBit i0=false)/\((m=mE/\n=tail.length/\bC P l C CT i0 Q false tail a w)\/(∃k,n=k+1/\iw (infos l) m≠[]/\∀i∈iw (infos l) m,i≠i0/\wpOp P l.toArray Q i (fun a' w'=>N k (Nat.lor m (2 ^ i)) a' w') a w))):
  ∀(n:Nat)(listed:Array Bool)(mask:Nat)(a:Act)(w:World),Lst l.length listed mask->N n mask a w->wpAnyL P .any l.toArray (Dl C CT i0) Q n listed a w:=by
 intro n
 induction n with
 | zero =>
  intro listed mask a w hl h;obtain⟨⟨h1,h2,h3⟩,⟨rfl,h4,h5⟩|⟨k,h4,_⟩⟩:=hN _ _ _ _ h
  ·have:=iI (P:=P) (C:=C) (CT:=CT) (Q:=Q) hi0 hs hQ tail listed mask a w ⟨h2,fun _=>h1⟩ hl ht hf (by rw[h3];exact h5)
   rw[<-h4]at this;exact this
  ·omega
 | succ n ih =>
  intro listed mask a w hl h;obtain⟨⟨h1,h2,h3⟩,⟨rfl,h4,h5⟩|⟨k,h4,h5,h6⟩⟩:=hN _ _ _ _ h
  ·have:=iI (P:=P) (C:=C) (CT:=CT) (Q:=Q) hi0 hs hQ tail listed mask a w ⟨h2,fun _=>h1⟩ hl ht hf (by rw[h3];exact h5)
   rw[<-h4]at this;exact this
  ·obtain rfl:n=k:=by omega
   refine⟨fun h0=>?_,fun j hj=>?_⟩
   ·obtain⟨i,hi⟩:=List.exists_mem_of_ne_nil _ h5
    have hu:=(aiu.1 hi).2;have:=(jY hl hu).2;rw[h0]at this
    cases this
   ·obtain⟨hj0,oj,hoj,hjd⟩:=mem_ready.1 hj
    have hjl:j<l.length:=(by have:=(afF.1 hoj).1;simpa using this);have hje:(infos l)[j]?=some (iW l.toArray oj):=by
     have:l[j]?=some oj:=(by simpa using hoj);simp[infos,this]
    have hu:upF (infos l) j mask=true:=by
     unfold upF;rw[hje];simp only[afU,ag0,ahk]
     constructor
     ·rw[af4,hl.bit j hjl]at hj0
      exact hj0
     ·refine uz fun k hk2=>?_
      obtain⟨e,he,hb,rfl⟩:=gW.1 hk2;have h2:=hjd e he hb
      cases hm:mask.testBit e.on with
      | true=>rfl
      | false =>
       rcases ag6 e.on l.length with h3|h3
       ·rw[af4,hl.bit _ h3,hm]at h2;cases h2
       ·rw[af4,agR (by rw[hl.size];exact h3)]at h2;cases h2
    have hmem:j∈iw (infos l) mask:=aiu.2 ⟨agH.2 (by simpa[infos]using hjl),hu⟩;obtain⟨hne,hw⟩:=h6 j hmem;refine wpOp_mono (fun a' w' hk=>?_) hw;have hset:=hl.set hjl;obtain⟨⟨g1,g2,g3⟩,_⟩:=hN _ _ _ _ hk;exact⟨⟨g2,fun _=>g1⟩,ih _ _ a' w' hset hk⟩
theorem nO{l:List Oper}(hi0:i0<l.length)(hs:Region.noSelect l.toArray=true)(hQ:∀c a d v w,Q (.panic c) (Act.put a d v) w->Q (.panic c) a w)(n e:Nat)(w:World)(hCw:C w)(hCT:CT w)(he:e.testBit i0=false)(K:Act->Prop)
  (hK:∀a listed,Lst l.length listed e->K a->wpAnyL P .any l.toArray (Dl C CT i0) Q n listed a w):
  ∀(r:List (Nat×Bool)) (listed:Array Bool) (mask:Nat) (a:Act),Lst l.length listed mask->mask.testBit i0=false->OE (infos l) i0 r mask e=true->iH P l C CT K r a->wpAnyL P .any l.toArray (Dl C CT i0) Q (r.length+n) listed a w
 | [],listed,mask,a,hl,_,hB,h=>by
  simp only[OE,ahk]at hB;subst hB;rw[ahJ,af9];exact hK a listed hl h
 | (i,b)::r,listed,mask,a,hl,hm0,hB,h=>by
  simp only[OE]at hB;obtain⟨x0,hx0⟩:∃x0,(infos l)[i0]?=some x0:=⟨(infos l)[i0]'(by simpa[infos]using hi0),by simp[infos,hi0]⟩
  cases hx:(infos l)[i]? with
  | none=>rw[hx]at hB;cases hB
  | some x =>
   rw[hx,hx0]at hB;simp only[afU,ag0,ahp]at hB;obtain⟨⟨hu,hp,hf⟩,⟨hne0,hd0⟩,hB⟩:=hB;obtain⟨hil,dU⟩:=jY hl hu;have hne:i≠i0:=fun e=>by rw[e]at hne0;simp at hne0
   have ho:l[i]?=some l[i]:=afE hil;have hxe:x=iW l.toArray l[i]:=by
    simp only[infos,af8,ho,ag8,ahc]at hx;exact hx.symm
   have ho':l.toArray[i]?=some l[i]:=(by simp);have hset:=hl.set hil;have hDi:∀listed w,Dl C CT i0 (listed.setIfInBounds i true) w↔Dl C CT i0 listed w:=fun listed w=>by
    unfold Dl;rw[getD_set_ne false hne]
   obtain⟨o,ho2,h⟩:=h;obtain rfl:l[i]=o:=by rw[ho]at ho2;exact agc ho2
   have hm1:(Nat.lor mask (2 ^ i)).testBit i0=false:=by
    show(mask ||| 2 ^ i).testBit i0=_
    rw[ah6,ahl,hm0]
    simpa using hne
   have hfree:∀(j:Nat)(oj:Oper),l.toArray[j]?=some oj->j≠i->listed.getD j true=false->(∀e∈oj.after,Region.binds .any e=true->e.on≠i)->l[i].apart l.toArray oj=true:=fun j oj hj hji hjun hno=>by
    have hjl:j<l.length:=(by have:=(afF.1 hj).1;simpa using this);have hje:(infos l)[j]?=some (iW l.toArray oj):=by
     have:l[j]?=some oj:=(by simpa using hj);simp[infos,this]
    rcases kP _ 0 hf j _ hje with h1|h1|h1|h1
    ·omega
    ·rw[af9]at h1
     rw[af4,hl.bit j hjl,h1]at hjun
     cases hjun
    ·obtain⟨e,he,hb,hon⟩:=gW.1 h1
     exact absurd hon (hno e he hb)
    ·rw[hxe]at h1;exact nK h1
   rw[agl,show r.length+1+n=(r.length+n)+1 by omega]
   cases b with
   | false =>
    have h:wpQuiet P l.toArray CT (fun a'=>iH P l C CT K r a') [l[i]] a:=h;have hq:qOp P l.toArray CT i (fun a'=>iH P l C CT K r a') a:=(by unfold qOp;simp only[ho'];exact h);obtain⟨v,hy,hK2⟩:=yieldsIn_of_qOp ho' hq;exact wpAnyL_first (Y:=CT) (fun _=>True) ho' (Region.noSelect_spec hs) (fun c a w=>hQ c a _ _ w) (fun listed w _ h2=>h2.1) (fun _ _ _ _ _ _=>trivial) hDi (r.length+n) listed a w ⟨hCT,fun _=>hCw⟩ trivial hfree dU (jv (by rw[hxe]at hp;exact hp) hy) (nO hi0 hs hQ n e w hCw hCT he K hK r _ _ _ hset hm1 hB hK2)
   | true =>
    have h:wpQuiet P l.toArray C (fun a'=>iH P l C CT K r a') [l[i]] a:=h;have hq:qOp P l.toArray C i (fun a'=>iH P l C CT K r a') a:=(by unfold qOp;simp only[ho'];exact h);obtain⟨v,hy,hK2⟩:=yieldsIn_of_qOp ho' hq;have Zn:x0=iW l.toArray l[i0]:=by
     have:l[i0]?=some l[i0]:=afE hi0;simp only[infos,af8,this,ag8,ahc]at hx0;exact hx0.symm
    have hd0:=hd0.resolve_left (by decide);rw[Zn]at hd0;obtain⟨ed,hed,hb,hon⟩:=gW.1 hd0;have Fq:∀listed,i∈Region.ready .any l.toArray listed->i0∉Region.ready .any l.toArray listed:=fun listed hr h0=>by
     obtain⟨_,o0,ho0,hall⟩:=mem_ready.1 h0;have:l.toArray[i0]?=some l[i0]:=(by simp[hi0]);rw[this]at ho0;obtain rfl:=agc ho0;have g1:=hall ed hed hb;have g0:=(mem_ready.1 hr).1;rw[hon]at g1;rcases ag6 i listed.size with h'|h'
     ·simp[h']at g0 g1;rw[g0]at g1;cases g1
     ·simp[agR h']at g1
    refine wpAnyL_first (Y:=C) (fun listed=>listed.getD i0 false=false) ho' (Region.noSelect_spec hs) (fun c a w=>hQ c a _ _ w) (fun listed w h1 h2=>h2.2 h1) (fun listed j h1 hr hj hji=>?_) hDi (r.length+n) listed a w ⟨hCT,fun _=>hCw⟩ ?_ hfree dU (jv (by rw[hxe]at hp;exact hp) hy) (nO hi0 hs hQ n e w hCw hCT he K hK r _ _ _ hset hm1 hB hK2)
    ·rw[getD_set_ne false (fun e=>by subst e;exact Fq _ hr hj)]
     exact h1
    ·rw[af4,hl.bit i0 hi0,hm0];rfl
theorem yI{id:Nat}{a:Act}{w:World}{l:List Oper}(i0:Nat)(r:List (Nat×Bool))(tail:List (Nat×Nat))(m0 mE n:Nat)(N:Nat->Nat->Act->World->Prop)(L:List Inf)(hm:P.follows .mixedOrders=true)(hs:Region.noSelect l.toArray=true)(hL:infos l=L)(hi0:i0<l.length)(hlen:r.length+n=l.length)
  (hp:OE L i0 r 0 m0=true) (he:m0.testBit i0=false) (ht:qp L (asF tail) mE=true) (hf:Fp L i0 tail=true) (hQ:∀c a d v w,Q (.panic c) (Act.put a d v) w->Q (.panic c) a w) (hC:CT w.drew/\C w.drew)
  (hN:∀n m a w,N n m a w->(C w/\CT w/\m.testBit i0=false)/\((m=mE/\n=tail.length/\bC P l C CT i0 Q false tail a w)\/(∃k,n=k+1/\iw L m≠[]/\∀i∈iw L m,i≠i0/\wpOp P l.toArray Q i (fun a' w'=>N k (Nat.lor m (2 ^ i)) a' w') a w)))
  (h:iH P l C CT (fun a=>N n m0 a w.drew) r a):(Code.region id l.toArray true).wp P Q a w:=by
 subst hL;refine wp_region_any hm ?_;have:=nM _ _ _ _ (nO (P:=P) (C:=C) (CT:=CT) (Q:=Q) hi0 hs hQ n m0 w.drew hC.2 hC.1 he _ (fun a listed hl h=>OG (P:=P) (C:=C) (CT:=CT) (Q:=Q) hi0 hs hQ N tail mE ht hf hN n listed m0 a w.drew hl h) r _ 0 a (Lst.start _) (by simp) hp h);rw[hlen]at this
 simpa using this
theorem wS{id:Nat}{a:Act}{w:World}{l:List Oper}(fr:Act->(Nat->Value)->Act)(A0:Act->Prop)(Kx:Nat->Nat->(Nat->Value)->World->Prop)(Fin:(Nat->Value)->World->Prop)(i0:Nat)(r:List (Nat×Bool))(tail:List (Nat×Nat))(m0 mE n:Nat)(L:List Inf)
  (hm:P.follows .mixedOrders=true) (hs:Region.noSelect l.toArray=true) (hL:infos l=L) (hi0:i0<l.length) (hlen:r.length+n=l.length)
  (hp:OE L i0 r 0 m0=true) (he:m0.testBit i0=false) (ht:qp L (asF tail) mE=true) (hf:Fp L i0 tail=true) (hQ:∀c a d v w,Q (.panic c) (Act.put a d v) w->Q (.panic c) a w) (hC:CT w.drew/\C w.drew)
  (hN:∀a0,A0 a0->(∀v w,Fin v w->Q .normal (fr a0 v) w)->∀n m v w,Kx n m v w->(C w/\CT w/\m.testBit i0=false)/\((m=mE/\n=tail.length/\bC P l C CT i0 Q false tail (fr a0 v) w) \/
   (∃k,n=k+1/\iw L m≠[]/\∀i∈iw L m,i≠i0/\wpOp P l.toArray Q i (fun a' w'=>∃v',a'=fr a0 v'/\Kx k (Nat.lor m (2 ^ i)) v' w') (fr a0 v) w)))
  (h:iH P l C CT (fun a=>∃a0 v,A0 a0/\(∀v w,Fin v w->Q .normal (fr a0 v) w)/\a=fr a0 v/\Kx n m0 v w.drew) r a):(Code.region id l.toArray true).wp P Q a w:=by
 refine yI (C:=C) (CT:=CT) i0 r tail m0 mE n (fun n m a w=>∃a0 v,A0 a0/\(∀v w,Fin v w->Q .normal (fr a0 v) w)/\a=fr a0 v/\Kx n m v w) L hm hs hL hi0 hlen hp he ht hf hQ hC ?_ ?_
 ·rintro n m _ w ⟨a0,v,h1,h2,rfl,h3⟩
  obtain⟨h4,h5|⟨k,h5,h6,h7⟩⟩:=hN a0 h1 h2 n m v w h3
  ·exact⟨h4,.inl h5⟩
  ·refine⟨h4,.inr ⟨k,h5,h6,fun i hi=>?_⟩⟩
   obtain⟨h8,h9⟩:=h7 i hi;exact⟨h8,wpOp_mono (fun a' w' h=>by obtain⟨v',e,hk⟩:=h;exact⟨a0,v',h1,h2,e,hk⟩) h9⟩
 ·exact h
theorem D9{l:List Oper}{K:Act->Prop}{i:Nat}{r:List (Nat×Bool)}{a:Act}(o:Oper)(ho:l[i]?=some o)(h:wpQuiet P l.toArray C (fun a'=>iH P l C CT K r a') [o] a):iH P l C CT K ((i,true)::r) a:=⟨o,ho,h⟩
theorem Uy{l:List Oper}{K:Act->Prop}{i:Nat}{r:List (Nat×Bool)}{a:Act}(o:Oper)(ho:l[i]?=some o)(h:wpQuiet P l.toArray CT (fun a'=>iH P l C CT K r a') [o] a):iH P l C CT K ((i,false)::r) a:=⟨o,ho,h⟩
end
end Go.Proofs.YtkjgogdkdejljaaGreatDoor.AX
namespace Go.Proofs.YtkjgogdkdejljaaGreatDoor.Df
section
open Go Go.Proofs Go.RowKit
attribute [local go_sem] Oper.semAt_some
def D7(W:World)(base:Nat)(v:Value)(l:List Kl):Prop:=W.ownsRow base 116 4 v l.length (l.flatMap bI)
def bG(W:World)(base:Nat)(v:Value)(l:List Int):Prop:=W.ownsRow base 3 1 v l.length (l.map (Value.int .i64))
def jG(W:World)(base:Nat)(v:Value)(ms:List Nat):Prop:=W.ownsRow base 112 1 v ms.length (ms.map fun r=>Value.map (some r))
theorem iq{w:World}{base:Nat}{e:TypeId}{size n:Nat}{v:Value}{xs:List Value}(h:w.ownsRow base e size v n xs)(g:Nat)(hg:v.ownBlock=some g):∃cur,w.heap[g]?=some (.cells cur e (0,0)):=bU h g hg
theorem bP{w w':World}{base:Nat}{e:TypeId}{size n:Nat}{v:Value}{xs:List Value}(h:w.ownsRow base e size v n xs)(he:∀g,v.ownBlock=some g->w'.heap[g]?=w.heap[g]?):w'.ownsRow base e size v n xs:=by
 refine⟨h.1,?_⟩;rcases h.2 with ⟨rfl,hn⟩|⟨g,cap,cur,rfl,hg,hh,rest⟩
 ·exact .inl ⟨rfl,hn⟩
 ·exact .inr ⟨g,cap,cur,rfl,hg,(he g rfl).trans hh,rest⟩
theorem aZ{w w':World}{base:Nat}{e:TypeId}{size n:Nat}{v:Value}{xs:List Value}(h:w.ownsRow base e size v n xs)(hb:Below w.heap.size w w'):w'.ownsRow base e size v n xs:=
 bP h fun g hg=>by obtain⟨cur,hc⟩:=iq h g hg;exact hb.block g (afF.1 hc).1
def dH(t:TypeId)(W W':World):Prop:=∀(j:Nat)(o:Obj),W.heap[j]?=some o->(∀cs,o ≠ .cells cs t (0,0))->W'.heap[j]?=W.heap[j]?
theorem aC{W W':World}{base:Nat}{e t:TypeId}{size n:Nat}{v:Value}{xs:List Value}(h:W.ownsRow base e size v n xs)(hs:dH t W W')(hne:e≠t):W'.ownsRow base e size v n xs:=
 bP h fun g hg=>by
  obtain⟨cs,hc⟩:=iq h g hg;exact hs g _ hc fun cs' e'=>by cases e';exact hne rfl
theorem aX{W W':World}{base:Nat}{t:TypeId}{size n:Nat}{v:Value}{xs:List Value}(h:W.ownsRow base t size v n xs)(hg:W.grownBy W' v.ownBlock):dH t W W':=fun j o hj hne =>
 hg.block j (afF.1 hj).1 fun e=>by
  obtain⟨cs,hc⟩:=iq h j e.symm;rw[hj]at hc
  cases hc
  exact hne cs rfl
theorem Bx.aW{W W':World}{B:Nat}{e t:TypeId}{cs:Array Value}(h:Bx W B e cs)(hs:dH t W W')(hne:e≠t):Bx W' B e cs:=(hs B _ h fun cs' e'=>by cases e';exact hne rfl).trans h
theorem aN.aW{W W':World}{r:Nat}{S:List Int}{t:TypeId}(h:aN W r S)(hs:dH t W W'):aN W' r S:=by
 obtain⟨es,c,hm⟩:=h.map;exact h.same (hs r _ hm fun cs e=>by cases e)
theorem aP{W W':World}{B:Nat}{t:TypeId}{cs:Array Value}(hB:W.heap[B]?=some (.cells cs t (0,0)))(h:∀j,j≠B->W'.heap[j]?=W.heap[j]?):dH t W W':=
 fun j o hj hne=>h j fun e'=>by subst e';rw[hB]at hj;cases hj;exact hne _ rfl
def ours(t:TypeId):Prop:=t=110\/t=116\/t=3\/t=112
structure Kp(base:Nat)(W W':World):Prop where
 low:Below base W W'
 keep:∀(k:Nat)(o:Obj),W.heap[k]?=some o->(∀cs t,ours t->o ≠ .cells cs t (0,0))->W'.heap[k]?=W.heap[k]?
theorem Kp.trans{base:Nat}{X Y Z:World}(h:Kp base X Y)(k:Kp base Y Z):Kp base X Z:=⟨h.low.trans k.low,fun i o hi hn=>by
 have h1:=h.keep i o hi hn;exact(k.keep i o (h1.trans hi) hn).trans h1⟩
theorem Kp.of_below{base:Nat}{X Y:World}(h:Below X.heap.size X Y)(hb:base<=X.heap.size):Kp base X Y:=⟨h.mono hb,fun k _ hk _=>h.block k (afF.1 hk).1⟩
theorem Kp.pJ{base:Nat}{X Y:World}{t:TypeId}(hl:Below base X Y)(h:dH t X Y)(ht:ours t):Kp base X Y:=⟨hl,fun k o hk hn=>h k o hk fun cs=>hn cs t ht⟩
theorem aN.kp{base:Nat}{W W':World}{r:Nat}{S:List Int}(h:aN W r S)(hs:Kp base W W'):aN W' r S:=by
 obtain⟨es,c,hm⟩:=h.map;exact h.same (hs.keep r _ hm fun cs t _ e=>by cases e)
theorem Bx.kp{base:Nat}{W W':World}{B:Nat}{e:TypeId}{cs:Array Value}(h:Bx W B e cs)(hs:Kp base W W')(hne:¬ours e):Bx W' B e cs:=(hs.keep B _ h fun cs' t ht e'=>by cases e';exact hne ht).trans h
structure Bd(base:Nat)(W:World)(Bb:Nat)(cv rv sv:Value)(s:NS)(ms:List Nat):Prop where
 low:base<=Bb
 box:Bx W Bb 110 #[cv,.slice none 0 0,rv,sv]
 c:D7 W base cv s.cl
 r:bG W base rv s.ru
 sw:jG W base sv ms
 n1:ms.length=s.cl.length
 n2:s.nx.length=s.cl.length
 n3:s.ru.length=s.cl.length
 set:∀(i r:Nat)(S:List Int),ms[i]?=some r->s.nx[i]?=some S->aN W r S
theorem Bd.below{base:Nat}{W W':World}{Bb:Nat}{cv rv sv:Value}{s:NS}{ms:List Nat}(h:Bd base W Bb cv rv sv s ms)(hb:Below W.heap.size W W'):Bd base W' Bb cv rv sv s ms:=
 ⟨h.low,h.box.below hb h.box.lt,aZ h.c hb,aZ h.r hb,aZ h.sw hb,h.n1,h.n2,h.n3,fun i r S h1 h2=>(h.set i r S h1 h2).below hb afD⟩
theorem Pg:(Tryz.prog.info? 116).map (fun i=>(i.zero,i.size,i.bytes))=some (some (.agg #[.int .u64 0,.int .u64 0,.int .u64 0,.int .u64 0]),4,32):=by kernel_rfl
theorem Ph:(Tryz.prog.info? 3).map (fun i=>(i.zero,i.size,i.bytes))=some (some (.int .i64 0),1,8):=by kernel_rfl
theorem Pj:(Tryz.prog.info? 112).map (fun i=>(i.zero,i.size,i.bytes))=some (some (.map none),1,8):=by kernel_rfl
section
variable {o : Oper} {a : Act} {K : Act -> World -> Prop} {Q : Exit -> Act -> World -> Prop} {W : World}
theorem I4(base:Nat)(v:Value)(l:List Kl)(y:Kl)(s x:Operand)
  (ho:o.op=.call {callee:=.builtin .append,args:=#[s,x],argTypes:=#[71,71]}) (hs:a.eval s=v) (hown:D7 W base v l) (B c:Nat) (hx:a.eval x=.slice (some ⟨B,0,none⟩) 1 c)
  (hc:Bx W B 116 (bI y).toArray) (hl:l.length<=1000000) (hb:base<=W.heap.size)
  (h:∀v' w',D7 w' base v' (l++[y])->W.grownBy w' v.ownBlock->K (a.put o.dst v') w'):o.wp Tryz.prog a W K Q:=by
 obtain⟨ti,hi,hz0,hz1,hz2⟩:=info_parts Pg;obtain⟨v',w',hr,h2,h3,h4,h5⟩:=run_append_own_at (P:=Tryz.prog) W base 71 o.type 116 ti (.agg #[.int .u64 0,.int .u64 0,.int .u64 0,.int .u64 0]) 4 32 Tryz.underlying71 hi hz0 hz1 hz2 rfl (by decide) v l.length _ hown ⟨B,0,none⟩ 1 c (bI y) rfl
  (fun j u hj=>by rw[addr_add,af9,hc.cell];simpa using hj) (fun u hu=>by
   simp only[bI,afX,agx,ahd]at hu;rcases hu with rfl|rfl|rfl|rfl<;>rfl) (by unfold maxLen;omega) (by omega) hb
 unfold Oper.wp execOp;simp only[ho,resolve,invoke,builtin,Sem.run_bind,Sem.run_pure,Result.andThen_ok,agh,agd,agm,hs,hx,hr];refine h v' w' ?_ h3;unfold D7;rw[afP,ag7]
 simpa using h2
theorem I5(base:Nat)(v:Value)(l:List Int)(y:Int)(s x:Operand)
  (ho:o.op=.call {callee:=.builtin .append,args:=#[s,x],argTypes:=#[25,25]}) (hs:a.eval s=v) (hown:bG W base v l) (B c:Nat) (hx:a.eval x=.slice (some ⟨B,0,none⟩) 1 c)
  (hc:Bx W B 3 #[.int .i64 y]) (hl:l.length<=1000000) (hb:base<=W.heap.size)
  (h:∀v' w',bG w' base v' (l++[y])->W.grownBy w' v.ownBlock->K (a.put o.dst v') w'):o.wp Tryz.prog a W K Q:=by
 obtain⟨ti,hi,hz0,hz1,hz2⟩:=info_parts Ph;obtain⟨v',w',hr,h2,h3,h4,h5⟩:=run_append_own_at (P:=Tryz.prog) W base 25 o.type 3 ti (.int .i64 0) 1 8 Tryz.underlying25 hi hz0 hz1 hz2 rfl (by decide) v l.length _ hown ⟨B,0,none⟩ 1 c [.int .i64 y] rfl
  (fun j u hj=>by rw[addr_add,af9,hc.cell];simpa using hj) (fun u hu=>by rw[afK.1 hu];rfl) (by unfold maxLen;omega) (by omega) hb
 unfold Oper.wp execOp;simp only[ho,resolve,invoke,builtin,Sem.run_bind,Sem.run_pure,Result.andThen_ok,agh,agd,agm,hs,hx,hr];refine h v' w' ?_ h3;unfold bG;rw[afP,agt];exact h2
theorem I7(base:Nat)(v:Value)(l:List Nat)(y:Nat)(s x:Operand)
  (ho:o.op=.call {callee:=.builtin .append,args:=#[s,x],argTypes:=#[108,108]}) (hs:a.eval s=v) (hown:jG W base v l) (B c:Nat) (hx:a.eval x=.slice (some ⟨B,0,none⟩) 1 c)
  (hc:Bx W B 112 #[.map (some y)]) (hl:l.length<=1000000) (hb:base<=W.heap.size)
  (h:∀v' w',jG w' base v' (l++[y])->W.grownBy w' v.ownBlock->K (a.put o.dst v') w'):o.wp Tryz.prog a W K Q:=by
 obtain⟨ti,hi,hz0,hz1,hz2⟩:=info_parts Pj;obtain⟨v',w',hr,h2,h3,h4,h5⟩:=run_append_own_at (P:=Tryz.prog) W base 108 o.type 112 ti (.map none) 1 8 Tryz.underlying108 hi hz0 hz1 hz2 rfl (by decide) v l.length _ hown ⟨B,0,none⟩ 1 c [.map (some y)] rfl
  (fun j u hj=>by rw[addr_add,af9,hc.cell];simpa using hj) (fun u hu=>by rw[afK.1 hu];rfl) (by unfold maxLen;omega) (by omega) hb
 unfold Oper.wp execOp;simp only[ho,resolve,invoke,builtin,Sem.run_bind,Sem.run_pure,Result.andThen_ok,agh,agd,agm,hs,hx,hr];refine h v' w' ?_ h3;unfold jG;rw[afP,agt];exact h2
end
end
section
open Go Go.Proofs Go.RowKit
section
variable {ops : Array Oper} {rest : List Oper} {a : Act} {w : World} {Q : Exit -> Act -> World -> Prop} {dst : Option Tmp} {ty : TypeId} {pos : String} {after : Array Edge} {s x xm xk xv : Operand}
theorem jH(h:wpList Tryz.prog ops Q ({dst:=dst,op:=.call {callee:=.builtin .append,args:=#[s,x],argTypes:=#[25,25]},type:=ty,pos:=pos,after:=after,guard:=none}::rest) a w):wpList Tryz.prog ops Q ({dst:=dst,op:=.call {callee:=.builtin .append,args:=#[s,x],argTypes:=#[25,25]},type:=ty,pos:=pos,after:=after,guard:=none}::rest) a w:=h
theorem Ef(h:wpList Tryz.prog ops Q ({dst:=dst,op:=.lookup 100 xm xk true,type:=ty,pos:=pos,after:=after,guard:=none}::rest) a w):wpList Tryz.prog ops Q ({dst:=dst,op:=.lookup 100 xm xk true,type:=ty,pos:=pos,after:=after,guard:=none}::rest) a w:=h
theorem iP{r:Nat}{k:Int}{v:Value}(hm:a.eval xm=.map (some r))(hk:a.eval xk=.int .i64 k)(hr:(Instr.lookup 100 (.map (some r)) (.int .i64 k) true).run Tryz.prog w=.ok v w)(h:wpList Tryz.prog ops Q rest (a.put dst v) w):wpList Tryz.prog ops Q ({dst:=dst,op:=.lookup 100 xm xk true,type:=ty,pos:=pos,after:=after,guard:=none}::rest) a w:=by
 refine Go.Great.wpList_readTo rfl dst rfl v ?_ h;unfold execOp;simp only[hm,hk];simp[hr]
theorem Jq(h:wpList Tryz.prog ops Q ({dst:=none,op:=.mapUpdate 100 xm xk xv,type:=ty,pos:=pos,after:=after,guard:=none}::rest) a w):wpList Tryz.prog ops Q ({dst:=none,op:=.mapUpdate 100 xm xk xv,type:=ty,pos:=pos,after:=after,guard:=none}::rest) a w:=h
theorem qC{r:Nat}{T:List Int}{k:Int}(hm:a.eval xm=.map (some r))(hk:a.eval xk=.int .i64 k)(hv:a.eval xv=.int .i64 T.length)(hb:w.heap[r]?=some (.map (dJ 0 T).toArray T.length))(hn:T.Nodup)(hno:¬fx T k<T.length)
  (h:∀W',W'.heap[r]?=some (.map (dJ 0 (T++[k])).toArray (T++[k]).length)->AX.But r w W'->wpList Tryz.prog ops Q rest a W'):wpList Tryz.prog ops Q ({dst:=none,op:=.mapUpdate 100 xm xk xv,type:=ty,pos:=pos,after:=after,guard:=none}::rest) a w:=by
 obtain⟨W',hr,h1,h2⟩:=Qh hb hn hno;refine wpList_plain rfl fun K hK=>?_;have hx:(execOp a.eval {dst:=none,op:=.mapUpdate 100 xm xk xv,type:=ty,pos:=pos,after:=after,guard:=none}).run Tryz.prog w=.ok .skip W':=by
  simp only[execOp,hm,hk,hv,Sem.run_bind,hr];rfl
 unfold Oper.wp;rw[hx];exact hK _ _ (h _ h1 h2)
end
theorem Gj{W:World}{base SB:Nat}{x:Int}(h:Bx W SB 3 (ci [x]))(hb:base<=SB):bG W base (.slice (some ⟨SB,0,none⟩) 1 1) [x]:=
 ⟨rfl,.inr ⟨SB,1,ci [x],rfl,hb,h,agq _,by decide,by simp[ci],by simp[ci]⟩⟩
theorem qR{o:Oper}{a:Act}{K:Act->World->Prop}{Q:Exit->Act->World->Prop}{W:World}(base:Nat)(v:Value)(l:List Int)(y:Int)(s x:Operand)
  (ho:o.op=.call {callee:=.builtin .append,args:=#[s,x],argTypes:=#[25,25]}) (hs:a.eval s=v) (hown:bG W base v l) (B c:Nat) (hx:a.eval x=.slice (some ⟨B,0,none⟩) 1 c)
  (hc:Bx W B 3 #[.int .i64 y]) (hl:l.length<=1000000) (hb:base<=W.heap.size)
  (h:∀v' w',bG w' base v' (l++[y])->W.grownBy w' v.ownBlock->(v'.ownBlock=v.ownBlock\/v'.ownBlock=some W.heap.size)->K (a.put o.dst v') w'):o.wp Tryz.prog a W K Q:=by
 obtain⟨ti,hi,hz0,hz1,hz2⟩:=info_parts Ph;obtain⟨v',w',hr,h2,h3,h4,h5⟩:=run_append_own_at (P:=Tryz.prog) W base 25 o.type 3 ti (.int .i64 0) 1 8 Tryz.underlying25 hi hz0 hz1 hz2 rfl (by decide) v l.length _ hown ⟨B,0,none⟩ 1 c [.int .i64 y] rfl
  (fun j u hj=>by rw[addr_add,af9,hc.cell];simpa using hj) (fun u hu=>by rw[afK.1 hu];rfl) (by unfold maxLen;omega) (by omega) hb
 unfold Oper.wp execOp;simp only[ho,resolve,invoke,builtin,Sem.run_bind,Sem.run_pure,Result.andThen_ok,agh,agd,agm,hs,hx,hr];refine h v' w' ?_ h3 h5;unfold bG;rw[afP,agt];exact h2
theorem bT{ops:Array Oper}{rest:List Oper}{a:Act}{w:World}{Q:Exit->Act->World->Prop}{dst:Option Tmp}{ty:TypeId}{pos:String}{after:Array Edge}{s x:Operand}(base:Nat)(v:Value)(l:List Int)(y:Int)(hs:a.eval s=v)(hown:bG w base v l)(B c:Nat)(hx:a.eval x=.slice (some ⟨B,0,none⟩) 1 c)(hc:Bx w B 3 #[.int .i64 y])(hl:l.length<=1000000)(hb:base<=w.heap.size)
  (h:∀v' w',bG w' base v' (l++[y])->w.grownBy w' v.ownBlock->(v'.ownBlock=v.ownBlock\/v'.ownBlock=some w.heap.size)->wpList Tryz.prog ops Q rest (a.put dst v') w'):wpList Tryz.prog ops Q ({dst:=dst,op:=.call {callee:=.builtin .append,args:=#[s,x],argTypes:=#[25,25]},type:=ty,pos:=pos,after:=after,guard:=none}::rest) a w:=
 wpList_plain rfl fun K hK=>qR base v l y s x rfl hs hown B c hx hc hl hb fun v' w' h1 h2 h3=>hK _ _ (h v' w' h1 h2 h3)
theorem mX{W W':World}{base:Nat}{v:Value}{l:List Int}{b:Option Nat}(h:bG W base v l)(hg:W.grownBy W' b)(hne:∀g,v.ownBlock=some g->b≠some g):bG W' base v l:=
 bP h fun g hv=>hg.block g (World.ownsRow.lt h g hv).2 fun e=>hne g hv e.symm
def Apt(v u:Value):Prop:=∀g,v.ownBlock=some g->u.ownBlock≠some g
theorem Apt.symm{v u:Value}(h:Apt v u):Apt u v:=fun g h1 h2=>h g h2 h1
theorem Apt.grow{W:World}{base:Nat}{v v' u:Value}{l:List Int}(h:Apt v u)(hu:bG W base u l)(hv:v'.ownBlock=v.ownBlock\/v'.ownBlock=some W.heap.size):Apt v' u:=fun g h1 h2=>by
 rcases hv with hv|hv
 ·exact h g (hv▸ h1) h2
 ·have:=(World.ownsRow.lt hu g h2).2
  rw[hv]at h1
  cases h1
  omega
structure Rw3(base:Nat)(sv nv rv:Value)(st nx ru:List Int)(wz:World):Prop where
 s:bG wz base sv st
 n:bG wz base nv nx
 r:bG wz base rv ru
 sn:Apt sv nv
 sr:Apt sv rv
 nr:Apt nv rv
section
variable {base : Nat} {sv nv rv : Value} {st nx ru : List Int} {wz wy : World}
theorem Rw3.low(h:Rw3 base sv nv rv st nx ru wz)(hb:Below wz.heap.size wz wy):Rw3 base sv nv rv st nx ru wy:=⟨aZ h.s hb,aZ h.n hb,aZ h.r hb,h.sn,h.sr,h.nr⟩
theorem Rw3.aW{t:TypeId}(h:Rw3 base sv nv rv st nx ru wz)(hs:dH t wz wy)(hne:(3:TypeId)≠t):Rw3 base sv nv rv st nx ru wy:=⟨aC h.s hs hne,aC h.n hs hne,aC h.r hs hne,h.sn,h.sr,h.nr⟩
theorem Rw3.U1{v':Value}{l:List Int}(h:Rw3 base sv nv rv st nx ru wz)(ho:bG wy base v' l)(hg:wz.grownBy wy sv.ownBlock)(hv:v'.ownBlock=sv.ownBlock\/v'.ownBlock=some wz.heap.size):Rw3 base v' nv rv l nx ru wy:=
 ⟨ho,mX h.n hg h.sn.symm,mX h.r hg h.sr.symm,h.sn.grow h.n hv,h.sr.grow h.r hv,h.nr⟩
theorem Rw3.ade{v':Value}{l:List Int}(h:Rw3 base sv nv rv st nx ru wz)(ho:bG wy base v' l)(hg:wz.grownBy wy nv.ownBlock)(hv:v'.ownBlock=nv.ownBlock\/v'.ownBlock=some wz.heap.size):Rw3 base sv v' rv st l ru wy:=
 ⟨mX h.s hg h.sn,ho,mX h.r hg h.nr.symm,(h.sn.symm.grow h.s hv).symm,h.sr,h.nr.grow h.r hv⟩
theorem Rw3.adf{v':Value}{l:List Int}(h:Rw3 base sv nv rv st nx ru wz)(ho:bG wy base v' l)(hg:wz.grownBy wy rv.ownBlock)(hv:v'.ownBlock=rv.ownBlock\/v'.ownBlock=some wz.heap.size):Rw3 base sv nv v' st nx l wy:=
 ⟨mX h.s hg h.sr,mX h.n hg h.nr,ho,h.sn,(h.sr.symm.grow h.s hv).symm,(h.nr.symm.grow h.n hv).symm⟩
end
theorem iy{W:World}{base:Nat}{v:Value}{l:List Int}(h:bG W base v l):∃la c,v=.slice la l.length c/\l.length<=c/\aH W la l:=by
 rcases h.2 with ⟨e,hn⟩|⟨g,cap,cur,e,_,_,hc,_⟩
 ·have:l=[]:=ag2.1 hn
  subst this;exact⟨none,0,e,agq _,fun h=>absurd rfl h⟩
 ·subst e
  refine⟨_,_,rfl,hc,fun _=>⟨g,0,rfl,(World.ownsRow.lt h g rfl).2,fun j hj=>?_⟩⟩;have:=World.ownsRow.cellAt h j (by omega);rw[af9,this,af8,afE hj];rfl
theorem sS{W:World}{base:Nat}{v:Value}{l:List Int}(h:bG W base v l)(hl:0<l.length):∃g c,v=.slice (some ⟨g,0,none⟩) l.length c/\∀j,j<l.length->W.cell? ⟨g,j,none⟩=some (.int .i64 (l.getD j 0)):=by
 rcases h.2 with ⟨e,hn⟩|⟨g,cap,cur,e,_,_,hc,_⟩
 ·omega
 ·subst e
  refine⟨g,cap,rfl,fun j hj=>?_⟩;have:=World.ownsRow.cellAt h j (by omega);rw[this,af8,afE hj,afG,afE hj];rfl
theorem fO{W:World}{base:Nat}{e:TypeId}{k:Nat}{v:Value}{n:Nat}{xs:List Value}(h:W.ownsRow base e k v n xs):v.oneCell'=true:=by
 rcases h.2 with ⟨e,_⟩|⟨g,cap,cur,e,_⟩<;>rw[e]<;>rfl
theorem CO{W:World}{base M:Nat}{v:Value}{l:List Int}{es:Array MapEntry}{c:Nat}(h:bG W base v l)(hM:W.heap[M]?=some (.map es c)):v.ownBlock≠some M:=fun e=>by
 obtain⟨cs,hc⟩:=iq h M e;rw[hM]at hc
 cases hc
theorem bJ{ops:Array Oper}{Q:Exit->Act->World->Prop}{a:Act}{w:World}{rest:List Oper}{t:TypeId}{x y:Operand}{ty:TypeId}{pos:String}{after:Array Edge}(h:wpList Tryz.prog ops Q ({dst:=none,op:=.store t x y,type:=ty,pos:=pos,after:=after,guard:=none}::rest) a w):
 wpList Tryz.prog ops Q ({dst:=none,op:=.store t x y,type:=ty,pos:=pos,after:=after,guard:=none}::rest) a w:=h
theorem Jr:AX.sizeT Tryz.prog 27=some 2:=by kernel_rfl
theorem oJ:AX.sizeT Tryz.prog 25=some 1:=by kernel_rfl
structure Lw(W2:World)(OX M:Nat)(T:List Int)(sv nv rv:Value)(st nx ru:List Int)(wz:World):Prop where
 ox:Bx wz OX 27 #[nv,rv]
 mp:wz.heap[M]?=some (.map (dJ 0 T).toArray T.length)
 rw:Rw3 W2.heap.size sv nv rv st nx ru wz
 lo:Below W2.heap.size W2 wz
 og:W2.heap.size<=OX
 mg:W2.heap.size<=M
section
variable {W2 wz wy wx : World} {OX M : Nat} {T : List Int} {sv nv rv v' : Value} {st nx ru l : List Int}
theorem Lw.mlt(h:Lw W2 OX M T sv nv rv st nx ru wz):M<wz.heap.size:=(afF.1 h.mp).1
theorem Lw.ne(h:Lw W2 OX M T sv nv rv st nx ru wz):M≠OX:=fun e=>by
 have h1:=h.mp;rw[e,show wz.heap[OX]?=_ from h.ox]at h1
 cases h1
theorem Lw.low(h:Lw W2 OX M T sv nv rv st nx ru wz)(hb:Below wz.heap.size wz wy):Lw W2 OX M T sv nv rv st nx ru wy:=
 ⟨h.ox.below hb h.ox.lt,(hb.block M h.mlt).trans h.mp,h.rw.low hb,h.lo.trans (hb.mono h.lo.size),h.og,h.mg⟩
theorem Lw.gro{v:Value}{k:List Int}(h:Lw W2 OX M T sv nv rv st nx ru wz)(hv:bG wz W2.heap.size v k)(hg:wz.grownBy wy v.ownBlock):Bx wy OX 27 #[nv,rv]/\wy.heap[M]?=some (.map (dJ 0 T).toArray T.length)/\Below W2.heap.size W2 wy:=
 ⟨h.ox.aW (aX hv hg) (by decide),(hg.block M h.mlt fun e=>CO hv h.mp e.symm).trans h.mp,h.lo.grown hg h.lo.size fun k hk=>(World.ownsRow.lt hv k hk).1⟩
theorem Lw.U1(h:Lw W2 OX M T sv nv rv st nx ru wz)(ho:bG wy W2.heap.size v' l)(hg:wz.grownBy wy sv.ownBlock)(hv:v'.ownBlock=sv.ownBlock\/v'.ownBlock=some wz.heap.size):Lw W2 OX M T v' nv rv l nx ru wy:=
 ⟨(h.gro h.rw.s hg).1,(h.gro h.rw.s hg).2.1,h.rw.U1 ho hg hv,(h.gro h.rw.s hg).2.2,h.og,h.mg⟩
theorem Lw.Js(h:Lw W2 OX M T sv nv rv st nx ru wz)(ho:bG wy W2.heap.size v' l)(hg:wz.grownBy wy nv.ownBlock)(hv:v'.ownBlock=nv.ownBlock\/v'.ownBlock=some wz.heap.size)(x:Bx wx OX 27 #[v',rv])(g4:∀j,j≠OX->wx.heap[j]?=wy.heap[j]?)(g5:AX.Same wy wx):Lw W2 OX M T sv v' rv st l ru wx:=
 ⟨x,(g4 M h.ne).trans (h.gro h.rw.n hg).2.1,(h.rw.ade ho hg hv).aW (aP (h.gro h.rw.n hg).1 g4) (by decide),(h.gro h.rw.n hg).2.2.trans (AX.ah h.og (.inl x.lt) g4 g5),h.og,h.mg⟩
theorem Lw.aaF(h:Lw W2 OX M T sv nv rv st nx ru wz)(ho:bG wy W2.heap.size v' l)(hg:wz.grownBy wy rv.ownBlock)(hv:v'.ownBlock=rv.ownBlock\/v'.ownBlock=some wz.heap.size)(x:Bx wx OX 27 #[nv,v'])(g4:∀j,j≠OX->wx.heap[j]?=wy.heap[j]?)(g5:AX.Same wy wx):Lw W2 OX M T sv nv v' st nx l wx:=
 ⟨x,(g4 M h.ne).trans (h.gro h.rw.r hg).2.1,(h.rw.adf ho hg hv).aW (aP (h.gro h.rw.r hg).1 g4) (by decide),(h.gro h.rw.r hg).2.2.trans (AX.ah h.og (.inl x.lt) g4 g5),h.og,h.mg⟩
theorem Lw.upd{T':List Int}(h:Lw W2 OX M T sv nv rv st nx ru wz)(hm:wy.heap[M]?=some (.map (dJ 0 T').toArray T'.length))(hb:AX.But M wz wy):Lw W2 OX M T' sv nv rv st nx ru wy:=
 have k:∀{v:Value} {l:List Int},bG wz W2.heap.size v l->bG wy W2.heap.size v l:=fun hv=>bP hv fun g hg=>hb.same g (World.ownsRow.lt hv g hg).2 fun e=>CO hv h.mp (e▸ hg)
 ⟨(hb.same OX h.ox.lt fun e=>h.ne e.symm).trans h.ox,hm,⟨k h.rw.s,k h.rw.n,k h.rw.r,h.rw.sn,h.rw.sr,h.rw.nr⟩,h.lo.trans (hb.below h.lo.size h.mg),h.og,h.mg⟩
end
end
end Go.Proofs.YtkjgogdkdejljaaGreatDoor.Df
