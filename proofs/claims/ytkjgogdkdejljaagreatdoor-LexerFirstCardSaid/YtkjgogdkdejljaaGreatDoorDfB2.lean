import Derived.Test.YtkjgogdkdejljaaGreatDoorRxQ1
namespace Go.Proofs.YtkjgogdkdejljaaGreatDoor.Rx
open Go
def hdC(x:Nd):Cd:=⟨x.k,⟨x.a,x.b,x.c,x.d⟩,x.kids.length⟩
def KE(acc:List (List Cd))(x:Nd):List (List Cd):=acc++[hdC x::x.kids.flatMap (fun k=>acc.getD k.toNat [])]
def qj(r:List Nd):List (List Cd):=r.foldl KE []
def cZ(r:List Nd)(k:Int):List Cd:=(qj r).getD k.toNat []
theorem AB(r:List Nd)(x:Nd):qj (r++[x])=qj r++[hdC x::x.kids.flatMap (cZ r)]:=by
 unfold qj;rw[agI];rfl
theorem qK:∀(r:List Nd)(acc:List (List Cd)),(r.foldl KE acc).length=acc.length+r.length
 | [],acc=>rfl
 | x::r,acc=>by
  rw[agw,qK r,agl];simp[KE];omega
theorem wK(r:List Nd):(qj r).length=r.length:=by
 unfold qj;rw[qK];simp
theorem Wh(r:List Nd)(x:Nd)(k:Int)(h:0<=k/\k<r.length):cZ (r++[x]) k=cZ r k:=by
 unfold cZ;rw[AB,afG,af6 (by rw[wK];omega),afG]
theorem Tv(r:List Nd)(x:Nd):cZ (r++[x]) (r.length:Int)=hdC x::x.kids.flatMap (cZ r):=by
 unfold cZ;rw[AB,afG,aga (by rw[wK];omega),wK,afY,aho];rfl
theorem Tz(r:List Nd)(k:Int)(h:0<=k/\k<r.length):∀t:List Nd,cZ (r++t) k=cZ r k:=by
 intro t
 induction t generalizing r with
 | nil=>rw[aha]
 | cons x t ih =>
  rw[show r++x::t=(r++[x])++t by simp,ih _ (by simp;omega),Wh _ _ _ h]
def codeOf(r:List Nd):List Cd:=cZ r ((r.length:Int)-1)
def inR(r:List Nd)(l:List Int):Prop:=∀k∈l,0<=k/\k<r.length
theorem Mc(r:List Nd)(h:H5)(l:List Int):∃t,(mkI r h l).1=r++t:=⟨_,rfl⟩
theorem pF(r:List Nd)(k:Int)(l:List Int):∃t,(cu mkI r k l).1=r++t:=by
 match l with
 | []=>exact⟨_,rfl⟩
 | [x]=>exact⟨[],by simp[cu]⟩
 | x::y::l=>exact⟨_,rfl⟩
theorem yw(r:List Nd)(h:H5)(l:List Int):cZ (mkI r h l).1 (mkI r h l).2=(mkC () h (l.map (cZ r))).2:=by
 show cZ (r++[_]) (r.length:Int)=_
 rw[Tv];simp[mkC,hdC,List.flatMap]
theorem wL(r:List Nd)(k:Int)(l:List Int)(h:inR r l):cZ (cu mkI r k l).1 (cu mkI r k l).2=(cu mkC () k (l.map (cZ r))).2:=by
 match l with
 | []=>exact yw r _ []
 | [x]=>rfl
 | x::y::l=>exact yw r _ _
theorem jy{r r':List Nd}(h:∃t,r'=r++t){l:List Int}(hl:inR r l):l.map (cZ r')=l.map (cZ r):=by
 obtain⟨t,rfl⟩:=h;exact aic fun k hk=>Tz r k (hl k hk) t
theorem Wi{r r':List Nd}(h:∃t,r'=r++t){l:List Int}(hl:inR r l):inR r' l:=by
 obtain⟨t,rfl⟩:=h;intro k hk;have:=hl k hk;simp;omega
theorem Wq(r:List Nd)(k:Int)(l:List Int)(h:inR r l):inR (cu mkI r k l).1 [(cu mkI r k l).2]:=by
 match l with
 | []=>intro j hj;rw[afK.1 hj];simp only[cu,mkI,afP,ags];omega
 | [x]=>exact h
 | x::y::l=>intro j hj;rw[afK.1 hj];simp only[cu,mkI,afP,ags];omega
theorem OM{r r' r'':List Nd}(h:∃t,r'=r++t)(g:∃t,r''=r'++t):∃t,r''=r++t:=by
 obtain⟨t,rfl⟩:=h;obtain⟨u,rfl⟩:=g;exact⟨t++u,by simp⟩
theorem Ws{r:List Nd}{l m:List Int}(h:inR r l)(g:inR r m):inR r (l++m):=fun k hk=>by
 rcases af2.1 hk with hk|hk
 ·exact h k hk
 ·exact g k hk
theorem uI{r:List Nd}{l m:List Int}(h:inR r (l++m)):inR r l:=fun k hk=>h k (agY _ hk)
theorem DU{r:List Nd}{l m:List Int}(h:inR r (l++m)):inR r m:=fun k hk=>h k (agP _ hk)
theorem TA(r:List Nd)(A I:List Int):∃t,(fE mkI r A I).1=r++t:=OM (pF r 3 I) (pF _ _ _)
theorem DV(r:List Nd)(A I:List Int)(hA:inR r A)(hI:inR r I):cZ (fE mkI r A I).1 (fE mkI r A I).2=(fE mkC () (A.map (cZ r)) (I.map (cZ r))).2:=by
 unfold fE;rw[wL _ _ _ (Ws (Wi (pF r 3 I) hA) (Wq r 3 I hI)),agt,jy (pF r 3 I) hA,agd,agm,wL r 3 I hI]
def ab3(r:List Nd)(f:Fr Int):Prop:=inR r f.1/\inR r f.2
def OO(r:List Nd)(f:Fr Int):Fr (List Cd):=(f.1.map (cZ r),f.2.map (cZ r))
def rV(x:Ms (List Nd) Int):Ms Unit (List Cd):=⟨(),x.a,x.e,x.A.map (cZ x.st),x.I.map (cZ x.st),x.f.map (OO x.st)⟩
def eP(x:Ms (List Nd) Int):List Int:=x.A++x.I++x.f.flatMap (fun f=>f.1++f.2)
theorem Iq{x:Ms (List Nd) Int}(h:inR x.st (eP x)):inR x.st x.A/\inR x.st x.I/\∀f∈x.f,ab3 x.st f:=
 ⟨uI (uI h),DU (uI h),fun f hf=>⟨fun k hk=>h k (agP _ (aht.2 ⟨f,hf,agY _ hk⟩)),fun k hk=>h k (agP _ (aht.2 ⟨f,hf,agP _ hk⟩))⟩⟩
theorem uJ{r r':List Nd}(h:∃t,r'=r++t){f:List (Fr Int)}(hf:∀y∈f,ab3 r y):f.map (OO r')=f.map (OO r):=
 aic fun y hy=>by unfold OO;rw[jy h (hf y hy).1,jy h (hf y hy).2]
theorem wM(x:Ms (List Nd) Int)(k:Int)(h:inR x.st (eP x)):rV (eG mkI x k)=eG mkC (rV x) k:=by
 obtain⟨hA,hI,hf⟩:=Iq h;unfold eG
 cases e:x.I.getLast? with
 | none=>simp only[rV,List.getLast?_map,e,Option.map_none]
 | some y =>
  have hext:=Mc x.st (h5 k) [y];simp only[rV,List.getLast?_map,e,ag8,Ms.mk.injEq,aiD];refine⟨jy hext hA,?_,uJ hext hf⟩;rw[agt,jy hext (fun q hq=>hI q (List.dropLast_subset _ hq)),List.map_dropLast,agd,agm,yw];rfl
theorem TD(s:ByteArray)(x:Ms (List Nd) Int)(h:inR x.st (eP x)):rV (stepG mkI s x)=stepG mkC s (rV x):=by
 obtain⟨hA,hI,hf⟩:=Iq h;have ea:(rV x).a=x.a:=rfl;unfold stepG;rw[ea];split
 ·have hext:=pF x.st 3 x.I
  simp only[rV,Ms.mk.injEq,aiD];refine⟨?_,rfl,uJ hext hf⟩;rw[agt,jy hext hA,agd,agm,wL _ _ _ hI]
 split
 ·simp only[rV,OO,agd,agm]
 split
 ·cases e:x.f with
  | nil=>simp only[rV,e,agm]
  | cons y f =>
   obtain⟨B,J⟩:=y;have hext:=TA x.st x.A x.I;have hy:=hf (B,J) (by rw[e];exact afS ..);simp only[rV,e,agd,OO,Ms.mk.injEq,aiD];refine⟨jy hext hy.1,?_,uJ hext (fun z hz=>hf z (by rw[e];exact afV _ hz))⟩;rw[agt,jy hext hy.2,agd,agm,DV _ _ _ hA hI]
 split
 ·rfl
 split
 ·exact wM x 5 h
 split
 ·exact wM x 6 h
 split
 ·exact wM x 7 h
 ·have hext:=Mc x.st ⟨2,(fV s (x.a+1) (bg s x.a)).1⟩ []
  simp only[rV,Ms.mk.injEq,aiD];refine⟨jy hext hA,?_,uJ hext hf⟩;rw[agt,jy hext hI,agd,agm,yw];rfl
theorem fC.perm{out:List Nd}{R R':List Int}(h:fC out R)(p:R.Perm R'):fC out R':=
 ⟨h.nd,fun j hj=>by rw[<-p.count_eq];exact h.one j hj,fun k hk=>h.roots k (p.mem_iff.2 hk)⟩
theorem fC.inR{out:List Nd}{R:List Int}(h:fC out R):inR out R:=h.roots
theorem fC.put{out:List Nd}{h:H5}{l rest:List Int}(H:fC out (l++rest))(hk:1<=h.k/\h.k<=7)(hl:mQ h.k<=l.length)(hh:(l.length:Int)<=iO h.k)(hc:h.k≠2->h.w=.zero):fC (mkI out h l).1 ((mkI out h l).2::rest):=by
 unfold mkI;refine⟨?_,?_,?_⟩
 ·intro i x hx
  by_cases hi:i<out.length
  ·rw[af6 hi]at hx
   exact H.nd i x hx
  ·rw[aga (by omega)]at hx
   by_cases e:i=out.length
   ·subst e
    simp at hx;subst hx;exact⟨hk,hl,hh,fun hn=>by rw[hc hn];exact⟨rfl,rfl,rfl,rfl⟩,fun k hk=>H.roots k (agY _ hk)⟩
   ·rw[af5 (by simp;omega)]at hx;simp at hx
 ·intro j hj
  simp only[afP,ags]at hj;rw[BL,ahC,List.count_cons];have e1:(aY [(⟨h.k,h.w.a,h.w.b,h.w.c,h.w.d,l⟩:Nd)])=l:=by simp[aY]
  rw[e1]
  by_cases hi:j<out.length
  ·have:=H.one j hi
   rw[ahC]at this;rw[afO (by simp;omega)];omega
  ·obtain rfl:j=out.length:=by omega
   have h1:(aY out).count (out.length:Int)=0:=agS (fun hm=>by
    have:=nP (n:=0) (fun i x hx=>by simpa using H.nd i x hx) _ hm;omega)
   have h2:l.count (out.length:Int)=0:=agS (fun hm=>by have:=H.roots _ (agY _ hm);omega);have h3:rest.count (out.length:Int)=0:=agS (fun hm=>by have:=H.roots _ (agP _ hm);omega);rw[h1,h2,h3,afR (by simp)]
 ·intro k hk
  simp only[afX,afP,ags]at hk⊢;rcases hk with rfl|hk
  ·omega
  ·have:=H.roots k (agP _ hk)
   omega
theorem fC.many{out:List Nd}{l rest:List Int}(H:fC out (l++rest))(k:Int)(hk:k=3\/k=4)(hl:l.length<=512):fC (cu mkI out k l).1 ((cu mkI out k l).2::rest)/\(cu mkI out k l).1.length<=out.length+1:=by
 match l with
 | []=>exact⟨H.put (h:=h5 1) (by decide) (by decide) (by decide) (fun _=>rfl),by simp[cu,mkI]⟩
 | [x]=>exact⟨H,by simp[cu]⟩
 | x::y::l =>
  refine⟨H.put (h:=h5 k) ?_ ?_ ?_ (fun _=>rfl),by simp[cu,mkI]⟩
  ·rcases hk with rfl|rfl<;>decide
  ·rcases hk with rfl|rfl<;>simp[h5,mQ]<;>omega
  ·rcases hk with rfl|rfl<;>simp[h5,iO]<;>simp at hl<;>omega
theorem fC.XF{out:List Nd}{A I rest:List Int}(H:fC out (A++I++rest))(hA:A.length<=511)(hI:I.length<=512):fC (fE mkI out A I).1 ((fE mkI out A I).2::rest)/\(fE mkI out A I).1.length<=out.length+2:=by
 obtain⟨h1,h2⟩:=(H.perm (R':=I++(A++rest)) (by rw[<-agi];exact List.Perm.append_right _ List.perm_append_comm)).many 3 (.inl rfl) hI;obtain⟨h3,h4⟩:=(h1.perm (R':=(A++[(cu mkI out 3 I).2])++rest) (by
  rw[agi,ahn];exact List.perm_middle.symm)).many 4 (.inr rfl) (by simp;omega)
 exact⟨h3,by unfold fE;omega⟩
structure BM(s:ByteArray)(x:Ms (List Nd) Int):Prop where
 fo:fC x.st (eP x)
 rl:(eP x).length<=x.a
 sl:x.st.length<=2*x.a
 al:x.a<=s.size
 fl:x.f.length<=x.a
theorem pV(s:ByteArray)(a:Nat)(c:Int)(ha:a<=s.size):(fV s a c).1.Wd/\(fV s a c).2.1<=s.size/\((fV s a c).2.2=0->a<=(fV s a c).2.1):=by
 unfold fV;split
 ·unfold kQ
  obtain⟨nt,hnt⟩:=afC ((dh s.size a 0 && (bg s a == 94)));obtain⟨a1,ha1⟩:=afC ((if nt then a+1 else a));have h1:a<=a1/\a1<=s.size:=by
   rw[ha1]
   cases nt with
   | false=>simp;exact ha
   | true =>
    have:dh s.size a 0=true:=by
     have:=hnt.symm;rw[afU]at this;exact this.1
    have:=(bY.1 this).2;simp;omega
  simp only[<-hnt,<-ha1];obtain⟨g1,g2,g3⟩:=Ir s (s.size-a1) a1 0 .zero h1.2 C4.Md;split
  ·rename_i hm
   have hm:=bY.1 hm;refine⟨?_,hm.2,fun _=>?_⟩
   ·cases nt<;>simp[g2,g2.not]
   ·have:=g3 (by omega) hm.1
    show a<=_+1
    omega
  ·refine⟨g2,?_,fun h=>?_⟩
   ·show(if _ then _ else _)<=_
    split<;>omega
   ·exfalso
    simp only at h;split at h
    ·cases h
    ·exact absurd h (by assumption)
 split
 ·exact⟨(C4.wO _).not,ha,fun _=>agq _⟩
 split
 ·obtain⟨v,k,e,h1,h2,h3,h4⟩:=rW s a ha
  rw[h1];exact⟨C4.wO _,h3,fun h=>by have:=h4 h;simp;omega⟩
 ·exact⟨C4.wO _,ha,fun _=>agq _⟩
theorem TF(s:ByteArray):BM s (nX []):=⟨⟨fun i x h=>by simp[nX]at h,fun j h=>by simp[nX]at h,fun k h=>by simp[eP,nX]at h⟩,by simp[eP,nX],by simp[nX],af0 _,by simp[nX]⟩
theorem KF{α: Type}{l:List α}{y: α}(h:l.getLast?=some y):l=l.dropLast++[y]:=by
 have hne:l≠[]:=by rintro rfl;simp at h
 rw[List.getLast?_eq_some_getLast hne]at h;have:=List.dropLast_concat_getLast hne;rw[agc h]at this;exact this.symm
theorem AL{s:ByteArray}{x:Ms (List Nd) Int}(h:BM s x)(hal:x.a<s.size)(k:Int)(hk:k=5\/k=6\/k=7)(he:(eG mkI x k).e=0):BM s (eG mkI x k):=by
 unfold eG at he⊢
 cases e:x.I.getLast? with
 | none=>simp[e]at he
 | some y =>
  simp only;have hs:=KF e;obtain⟨D,hD⟩:=afC x.I.dropLast;rw[<-hD]at hs⊢;have hfo:=h.fo;have hrl:=h.rl;unfold eP at hfo hrl;rw[hs]at hfo hrl;have hp:fC x.st ([y]++(x.A++D++x.f.flatMap (fun f=>f.1++f.2))):=hfo.perm (by
   rw[<-agi x.A D [y],agi (x.A++D) [y],ahn];exact List.perm_middle)
  have h1:=hp.put (h:=h5 k) (by rcases hk with rfl|rfl|rfl<;>simp[h5]) (by rcases hk with rfl|rfl|rfl<;>simp[h5,mQ]) (by rcases hk with rfl|rfl|rfl<;>simp[h5,iO]) (fun _=>rfl);refine⟨?_,?_,?_,hal,ah3 h.fl⟩
  ·show fC (mkI x.st (h5 k) [y]).1 (x.A++(D++[(mkI x.st (h5 k) [y]).2])++x.f.flatMap (fun f=>f.1++f.2))
   refine h1.perm ?_;rw[<-agi x.A D,agi (x.A++D) [_],ahn];exact List.perm_middle.symm
  ·show(x.A++(D++[(mkI x.st (h5 k) [y]).2])++x.f.flatMap (fun f=>f.1++f.2)).length<=x.a+1
   simp only[afP,ags]at hrl⊢;omega
  ·show(mkI x.st (h5 k) [y]).1.length<=2*(x.a+1)
   have:=h.sl;simp[mkI];omega
theorem step_ok{s:ByteArray}{x:Ms (List Nd) Int}(h:BM s x)(hs:s.size<=256)(hal:x.a<s.size)(_he:x.e=0)(he2:(stepG mkI s x).e=0):BM s (stepG mkI s x):=by
 have hfo:=h.fo;have hrl:=h.rl;have hsl:=h.sl;unfold eP at hfo hrl;simp only[afP]at hrl;unfold stepG at he2⊢;split
 ·obtain⟨h1,h2⟩:=(hfo.perm (R':=x.I++(x.A++x.f.flatMap (fun f=>f.1++f.2))) (by rw[<-agi];exact List.Perm.append_right _ List.perm_append_comm)).many 3 (.inl rfl) (by omega)
  refine⟨h1.perm ?_,?_,?_,hal,ah3 h.fl⟩
  ·simp only[eP,aha]
   rw[agi,ahn];exact List.perm_middle.symm
  ·simp[eP]at hrl⊢;omega
  ·show(cu mkI x.st 3 x.I).1.length<=2*(x.a+1)
   omega
 rw[afO (by assumption)]at he2;split
 ·refine⟨?_,?_,?_,hal,Nat.succ_le_succ h.fl⟩
  ·simpa[eP]using hfo
  ·simp[eP]at hrl⊢;omega
  ·show _<=2*(x.a+1)
   have:x.st.length<=2*x.a:=hsl
   show x.st.length<=_
   omega
 rw[afO (by assumption)]at he2;split
 ·rw[afR (by assumption)]at he2
  cases e:x.f with
  | nil=>rw[e]at he2;simp at he2
  | cons y f =>
   obtain⟨B,J⟩:=y;simp only;rw[e]at hfo hrl;obtain⟨h1,h2⟩:=hfo.XF (by omega) (by omega);refine⟨h1.perm ?_,?_,?_,hal,by have:=h.fl;rw[e]at this;simp at this⊢;omega⟩
   ·simp only[eP,agG]
    rw[<-agi B J [_],agi (B++J) [_],ahn];exact List.perm_middle.symm
   ·simp[eP]at hrl⊢;omega
   ·show(fE mkI x.st x.A x.I).1.length<=2*(x.a+1)
    omega
 rw[afO (by assumption)]at he2;split
 ·rw[afR (by assumption)]at he2;cases he2
 rw[afO (by assumption)]at he2;split
 ·rw[afR (by assumption)]at he2
  exact AL h hal 5 (.inl rfl) he2
 rw[afO (by assumption)]at he2;split
 ·rw[afR (by assumption)]at he2
  exact AL h hal 6 (.inr (.inl rfl)) he2
 rw[afO (by assumption)]at he2;split
 ·rw[afR (by assumption)]at he2
  exact AL h hal 7 (.inr (.inr rfl)) he2
 rw[afO (by assumption)]at he2;obtain⟨t1,t2,t3⟩:=pV s (x.a+1) (bg s x.a) hal;have t3:=t3 he2;have hp:fC x.st ([]++(x.A++x.I++x.f.flatMap (fun f=>f.1++f.2))):=hfo;have h1:=hp.put (h:=⟨2,(fV s (x.a+1) (bg s x.a)).1⟩) (by simp) (by simp[mQ]) (by simp[iO]) (fun h=>absurd rfl h);refine⟨h1.perm ?_,?_,?_,t2,by have:=h.fl;show x.f.length<=(fV s (x.a+1) (bg s x.a)).2.1;omega⟩
 ·simp only[eP]
  rw[<-agi x.A x.I,agi (x.A++x.I) [_],ahn];exact List.perm_middle.symm
 ·simp only[eP,afP,ags]
  omega
 ·simp only[mkI,afP,ags]
  omega
def OQ(acc:List (List Int))(x:Nd):List (List Int):=acc++[(acc.length:Int)::x.kids.flatMap (fun k=>acc.getD k.toNat [])]
def wP(r:List Nd):List (List Int):=r.foldl OQ []
def jE(r:List Nd)(k:Int):List Int:=(wP r).getD k.toNat []
theorem uK:∀(r:List Nd)(acc:List (List Int)),(r.foldl OQ acc).length=acc.length+r.length
 | [],acc=>rfl
 | x::r,acc=>by
  rw[agw,uK r,agl];simp[OQ];omega
theorem uM(r:List Nd):(wP r).length=r.length:=by
 unfold wP;rw[uK];simp
theorem DW(r:List Nd)(x:Nd):wP (r++[x])=wP r++[(r.length:Int)::x.kids.flatMap (jE r)]:=by
 have h:=uM r;unfold wP at h⊢;rw[agI]
 show r.foldl OQ []++[((r.foldl OQ []).length:Int)::x.kids.flatMap (fun k=>(r.foldl OQ []).getD k.toNat [])]=_
 rw[h];rfl
theorem Me(r:List Nd)(k:Int)(h:0<=k/\k<r.length):∀t:List Nd,jE (r++t) k=jE r k:=by
 intro t
 induction t generalizing r with
 | nil=>rw[aha]
 | cons x t ih =>
  rw[show r++x::t=(r++[x])++t by simp,ih _ (by simp;omega)];unfold jE;rw[DW,afG,af6 (by rw[uM];omega),afG]
theorem TG{r:List Nd}{i:Nat}{x:Nd}(hx:r[i]?=some x):∃t,r=(r.take i++[x])++t/\(r.take i).length=i:=by
 have hi:=(afW.1 hx).1;have hx':=(afW.1 hx).2;refine⟨r.drop (i+1),?_,by rw[agZ];omega⟩;rw[<-hx',agi,ahn,List.getElem_cons_drop,List.take_append_drop]
theorem pre_eq{r:List Nd}{i:Nat}{x:Nd}(hx:r[i]?=some x)(hk:∀k∈x.kids,0<=k/\k<(i:Int)):jE r (i:Int)=(i:Int)::x.kids.flatMap (jE r):=by
 obtain⟨t,ht,hl⟩:=TG hx;generalize r.take i=p at ht hl;subst ht;have h1:jE (p++[x]++t) (i:Int)=jE (p++[x]) (i:Int):=Me _ _ (by simp;omega) t;have h2:jE (p++[x]) (i:Int)=(i:Int)::x.kids.flatMap (jE p):=by
  unfold jE;rw[DW,afG,aga (by rw[uM];omega),uM,hl];simp;rfl
 rw[h1,h2]
 congr 1
 rw[List.flatMap_def,List.flatMap_def]
 congr 1
 refine aic fun k hk'=>?_;have:=hk k hk';rw[agi,Me p k (by omega)]
def sm(f:Nat->Nat):Nat->Nat
 | 0=>0
 | n+1=>sm f n+f n
def sk(f:Nat->Nat):List Int->Nat
 | []=>0
 | k::ks=>f k.toNat+sk f ks
theorem DX(f:Nat->Nat):∀a b:List Int,sk f (a++b)=sk f a+sk f b
 | [],b=>by simp[sk]
 | k::a,b=>by rw[ahs,sk,sk,DX f a b];omega
theorem AO{f g:Nat->Nat}: ∀n,(∀j,j<n->f j=g j)->sm f n=sm g n
 | 0,_=>rfl
 | n+1,h=>by rw[sm,sm,AO n (fun j hj=>h j (by omega)),h n (ag9 n)]
theorem Iu(f:Nat->Nat)(c:Nat->Nat)(k:Nat):∀n,sm (fun j=>(c j+if k=j then 1 else 0)*f j) n=sm (fun j=>c j*f j) n+if k<n then f k else 0
 | 0=>by simp[sm]
 | n+1=>by
  rw[sm,sm,Iu f c k n]
  by_cases h1:k<n
  ·have h2:¬k=n:=by omega
   have h3:k<n+1:=(by omega);simp only[afR h1,afO h2,afR h3,agV];omega
  ·by_cases h2:k=n
   ·have h3:k<n+1:=by omega
    simp only[afO h1,afR h2,afR h3];rw[aiA,ait,h2];omega
   ·have h3:¬k<n+1:=by omega
    simp only[afO h1,afO h2,afO h3,agV]
theorem Iw(f:Nat->Nat)(n:Nat):∀ks:List Int,(∀k∈ks,0<=k/\k<n)->sk f ks=sm (fun j=>ks.count (j:Int)*f j) n
 | [],_=>by
  have:∀n,sm (fun j=>List.count (j:Int) [] * f j) n=0:=by
   intro n
   induction n with
   | zero=>rfl
   | succ n ih=>rw[sm,ih];simp
  rw[this];rfl
 | k::ks,h=>by
  have hk:=h k (afS ..);rw[sk,Iw f n ks (fun q hq=>h q (afV _ hq))];rw[show sm (fun j=>(k::ks).count (j:Int)*f j) n=sm (fun j=>(ks.count (j:Int)+if k.toNat=j then 1 else 0)*f j) n from AO n fun j _=>by
   congr 1
   rw[List.count_cons]
   congr 1
   by_cases e:k.toNat=j
   ·rw[afR e,afR (by simp;omega)]
   ·rw[afO e,afO (by simp;omega)]]
  rw[Iu,afR (by omega)];omega
theorem MB(f:Int->List Int):∀ks:List Int,(∀k∈ks,0<=k)->(ks.flatMap f).length=sk (fun j=>(f (j:Int)).length) ks
 | [],_=>rfl
 | k::ks,h=>by
  have hk:=h k (afS ..);rw[agG,afP,sk,MB f ks (fun q hq=>h q (afV _ hq)),ahW hk]
theorem MC{r:List Nd}(ok:∀i x,r[i]?=some x->iM i x):∀m,m<=r.length->sm (fun j=>(jE r (j:Int)).length) m=m+sk (fun j=>(jE r (j:Int)).length) (aY (r.take m))
 | 0,_=>by simp[sm,aY,sk]
 | m+1,h=>by
  obtain⟨x,hx⟩:∃x,r[m]?=some x:=⟨_,afE (by omega)⟩;have hk:=(ok m x hx).kids;rw[sm,MC ok m (by omega),pre_eq hx hk,xw r m x hx,DX,agl,MB _ x.kids (fun k hk'=>(hk k hk').1)];omega
theorem UD{r:List Nd}(ok:dL r):(jE r ((r.length:Int)-1)).length=r.length:=by
 obtain⟨n,hn⟩:∃n,r.length=n+1:=⟨r.length-1,by have:=ok.one;omega⟩;have h1:=MC ok.nd r.length afD;have hb:=nP (n:=0) (fun i x hx=>by simpa using ok.nd i x hx);rw[agK,Iw _ r.length _ (fun k hk=>by have:=hb k hk;omega),hn,sm,sm]at h1;have hz:(aY r).count (n:Int)=0:=agS (fun hm=>by have:=hb _ hm;omega);rw[hz,aia,agV]at h1;have h2:sm (fun j=>(aY r).count (j:Int)*(jE r (j:Int)).length) n=sm (fun j=>(jE r (j:Int)).length) n:=AO n fun j hj=>by
  rw[ok.once j (by omega),ait]
 rw[h2]at h1;rw[show ((r.length:Int)-1)=(n:Int)by omega];omega
end Go.Proofs.YtkjgogdkdejljaaGreatDoor.Rx
namespace Go.Proofs.YtkjgogdkdejljaaGreatDoor.Df
section
open Rx (Nd dL iM jE pre_eq)
def FC(x:Int):List Int->List Int
 | []=>[x]
 | y::l=>if x<y then x::y::l else if x=y then y::l else y::FC x l
def jF(a b:List Int):List Int:=b.foldl (fun l x=>FC x l) a
abbrev Srt(l:List Int):Prop:=l.Pairwise (· < ·)
theorem yE{x y:Int}: ∀{l:List Int},y∈FC x l↔y=x\/y∈l
 | []=>by simp[FC]
 | z::l=>by
  unfold FC;split
  ·simp
  ·split
   ·rename_i h;subst h;simp
   ·rw[afX,yE,afX]
    constructor
    ·rintro (h|h|h)<;>simp[h]
    ·rintro (h|h|h)<;>simp[h]
theorem FD{x:Int}: ∀{l:List Int},Srt l->Srt (FC x l)
 | [],_=>ahu _ _
 | z::l,h=>by
  obtain⟨h1,h2⟩:=agF.1 h;unfold FC;split
  ·rename_i hx
   refine agF.2 ⟨fun y hy=>?_,h⟩;rcases afX.1 hy with rfl|hy
   ·exact hx
   ·exact Int.lt_trans hx (h1 y hy)
  ·split
   ·exact h
   ·rename_i a b
    refine agF.2 ⟨fun y hy=>?_,FD h2⟩;rcases yE.1 hy with rfl|hy
    ·omega
    ·exact h1 y hy
theorem lM{y:Int}: ∀{b a:List Int},y∈jF a b↔y∈a\/y∈b
 | [],a=>by simp[jF]
 | x::b,a=>by
  show y∈jF (FC x a) b↔_
  rw[lM,yE,afX]
  constructor
  ·rintro ((h|h)|h)<;>simp[h]
  ·rintro (h|h|h)<;>simp[h]
theorem FH:∀{b a:List Int},Srt a->Srt (jF a b)
 | [],_,h=>h
 | x::b,a,h=>FH (b:=b) (FD h)
theorem acP{a b:List Int}(ha:Srt a)(hb:Srt b)(h:∀x,x∈a↔x∈b):a=b:=by
 have na:a.Nodup:=ha.imp fun h e=>by omega
 have nb:b.Nodup:=hb.imp fun h e=>by omega
 refine List.Perm.eq_of_pairwise (le:=fun x y:Int=>x<y) (fun x y _ _ h1 h2=>by omega) ha hb ?_;exact (List.perm_ext_iff_of_nodup na nb).2 h
theorem Ut{a:List Int}(ha:Srt a){n:Nat}(h:∀x∈a,0<=x/\x<n):a.length<=n:=by
 have na:a.Nodup:=ha.imp fun h e=>by omega
 have:=agQ (l₂:=(List.range n).map fun i:Nat=>(i:Int)) na fun x hx=>by
  have:=h x hx;rw[agv];exact⟨x.toNat,by rw[agH];omega,by omega⟩
 simpa using this
structure NS where
 cl:List Kl
 nx:List (List Int)
 ru:List Int
structure Pl where
 e:Bool
 f:List Int
 l:List Int
def NS.push(s:NS)(c:Kl):NS:=⟨s.cl++[c],s.nx++[[]],s.ru++[-1]⟩
def lN(nx:List (List Int))(L F:List Int):List (List Int):=(List.range nx.length).map fun j:Nat=>if (j:Int)∈L then jF (nx.getD j []) F else nx.getD j []
def NS.join(s:NS)(L F:List Int):NS:=⟨s.cl,lN s.nx L F,s.ru⟩
def Z8(p q:Pl):Pl:=⟨p.e && q.e,if p.e then jF p.f q.f else p.f,if q.e then jF p.l q.l else q.l⟩
def behind(s:NS)(p q:Pl):NS×Pl:=(s.join p.l q.f,Z8 p q)
def MR(p q:Pl):Pl:=⟨p.e || q.e,jF p.f q.f,jF p.l q.l⟩
def klN(x:Nd):Kl:=⟨x.a % 18446744073709551616,x.b % 18446744073709551616,x.c % 18446744073709551616,x.d % 18446744073709551616,yF (aiq _ (by decide)) (aiq _ (by decide)) (aiq _ (by decide)) (aiq _ (by decide))⟩
def jA(n:Int->NS->NS×Pl)(t:NS×Pl)(k:Int):NS×Pl:=behind (n k t.1).1 t.2 (n k t.1).2
def iF(n:Int->NS->NS×Pl)(t:NS×Pl)(k:Int):NS×Pl:=((n k t.1).1,MR t.2 (n k t.1).2)
def aO(r:List Nd):Nat->Int->NS->NS×Pl
 | 0,_,s=>(s,⟨false,[],[]⟩)
 | f+1,i,s =>
  let x:=r.getD i.toNat default
  if x.k=1 then (s,⟨true,[],[]⟩)
  else if x.k=2 then (s.push (klN x),⟨false,[(s.cl.length:Int)],[(s.cl.length:Int)]⟩)
  else if x.k=3 then x.kids.tail.foldl (jA (aO r f)) (aO r f (x.kids.getD 0 0) s)
  else if x.k=4 then x.kids.foldl (iF (aO r f)) (s,⟨false,[],[]⟩)
  else
   let y:=aO r f (x.kids.getD 0 0) s
   (if x.k=7 then y.1 else y.1.join y.2.l y.2.f,⟨y.2.e || !decide (x.k=6),y.2.f,y.2.l⟩)
structure In(n:Nat)(l:List Int):Prop where
 s:Srt l
 i:∀x∈l,1<=x/\x<(n:Int)
theorem In.nil(n:Nat):In n []:=⟨List.Pairwise.nil,by simp⟩
theorem In.mono{n m:Nat}{l:List Int}(h:In n l)(hm:n<=m):In m l:=⟨h.s,fun x hx=>by have:=h.i x hx;omega⟩
theorem In.uni{n:Nat}{a b:List Int}(ha:In n a)(hb:In n b):In n (jF a b):=⟨FH ha.s,fun x hx=>by
 rcases lM.1 hx with h|h
 ·exact ha.i x h
 ·exact hb.i x h⟩
structure iG(s:NS):Prop where
 one:1<=s.cl.length
 nx:s.nx.length=s.cl.length
 ru:s.ru.length=s.cl.length
 zero:s.cl.head?=some Kl.zero
 up:∀l∈s.nx,In s.cl.length l
 rule:∀r∈s.ru,-1<=r/\r<16
structure FI(n:Nat)(p:Pl):Prop where
 f:In n p.f
 l:In n p.l
theorem iG.push{s:NS}(h:iG s)(c:Kl):iG (s.push c):=by
 refine⟨by simp[NS.push],by simp[NS.push,h.nx],by simp[NS.push,h.ru],?_,fun l hl=>?_,fun r hr=>?_⟩
 ·have:=h.zero
  cases e:s.cl with
  | nil=>rw[e]at this;cases this
  | cons a t=>rw[e]at this;simpa[NS.push,e]using this
 ·have e:(s.push c).cl.length=s.cl.length+1:=by simp[NS.push]
  rw[e];rcases af2.1 hl with hl|hl
  ·exact(h.up l hl).mono (ahS _)
  ·rw[afK.1 hl];exact In.nil _
 ·rcases af2.1 hr with hr|hr
  ·exact h.rule r hr
  ·rw[afK.1 hr];omega
theorem lQ(nx:List (List Int))(L F:List Int):(lN nx L F).length=nx.length:=by simp[lN]
theorem iG.join{s:NS}(h:iG s)(L:List Int){F:List Int}(hF:In s.cl.length F):iG (s.join L F):=by
 refine⟨h.one,(lQ _ _ _).trans h.nx,h.ru,h.zero,fun l hl=>?_,h.rule⟩;obtain⟨j,hj,rfl⟩:=agv.1 hl;have hj:j<s.nx.length:=agH.1 hj;have hm:s.nx.getD j []∈s.nx:=by
  rw[afG,afE hj,agr];exact agu hj
 show In s.cl.length _
 split
 ·exact(h.up _ hm).uni hF
 ·exact h.up _ hm
theorem FI.mono{n m:Nat}{p:Pl}(h:FI n p)(hm:n<=m):FI m p:=⟨h.f.mono hm,h.l.mono hm⟩
theorem FI.beh{n:Nat}{p q:Pl}(hp:FI n p)(hq:FI n q):FI n (Z8 p q):=⟨by
 show In n (if p.e then jF p.f q.f else p.f)
 split
 ·exact hp.f.uni hq.f
 ·exact hp.f,by
 show In n (if q.e then jF p.l q.l else q.l)
 split
 ·exact hp.l.uni hq.l
 ·exact hq.l⟩
def szN(r:List Nd)(i:Int):Nat:=(jE r i).length
def szK(r:List Nd)(ks:List Int):Nat:=(ks.map (szN r)).sum
theorem WY{r:List Nd}(ok:dL r){i:Nat}(hi:i<r.length):szN r (i:Int)=1+szK r (r.getD i default).kids:=by
 have hx:r[i]?=some (r.getD i default):=by rw[afG,afE hi,agr]
 unfold szN szK;rw[pre_eq hx (ok.nd i _ hx).kids,agl,List.length_flatMap];rw[Nat.add_comm];rfl
structure NdP(s:NS)(y:NS×Pl)(m:Nat):Prop where
 ok:iG y.1
 pl:FI y.1.cl.length y.2
 up:s.cl.length<=y.1.cl.length
 most:y.1.cl.length<=s.cl.length+m
 ru:∃t,y.1.ru=s.ru++t
theorem NdP.cat{r:List Nd}{n:Int->NS->NS×Pl}{s0:NS}: ∀(ks:List Int)(t:NS×Pl)(m:Nat),NdP s0 t m->(∀k∈ks,∀s,iG s->NdP s (n k s) (szN r k))->NdP s0 (ks.foldl (jA n) t) (m+szK r ks)
 | [],t,m,h,_=>by simpa[szK]using h
 | k::ks,t,m,h,hn=>by
  have h1:=hn k (afS ..) t.1 h.ok;have h2:NdP s0 (jA n t k) (m+szN r k):=by
   obtain⟨a,ha⟩:=h.ru;obtain⟨b,hb⟩:=h1.ru;refine⟨h1.ok.join _ h1.pl.f,(h.pl.mono h1.up).beh h1.pl,agb h.up h1.up,?_,a++b,?_⟩
   ·have:=h.most;have:=h1.most
    show(n k t.1).1.cl.length<=_
    omega
   ·show(n k t.1).1.ru=_
    rw[hb,ha,agi]
  have:=NdP.cat ks (jA n t k) _ h2 fun k' hk'=>hn k' (afV _ hk');rw[agw];have e:m+szK r (k::ks)=m+szN r k+szK r ks:=by simp[szK];omega
  rw[e];exact this
theorem NdP.alt{r:List Nd}{n:Int->NS->NS×Pl}{s0:NS}: ∀(ks:List Int)(t:NS×Pl)(m:Nat),NdP s0 t m->(∀k∈ks,∀s,iG s->NdP s (n k s) (szN r k))->NdP s0 (ks.foldl (iF n) t) (m+szK r ks)
 | [],t,m,h,_=>by simpa[szK]using h
 | k::ks,t,m,h,hn=>by
  have h1:=hn k (afS ..) t.1 h.ok;have h2:NdP s0 (iF n t k) (m+szN r k):=by
   obtain⟨a,ha⟩:=h.ru;obtain⟨b,hb⟩:=h1.ru;refine⟨h1.ok,⟨(h.pl.mono h1.up).f.uni h1.pl.f,(h.pl.mono h1.up).l.uni h1.pl.l⟩,agb h.up h1.up,?_,a++b,?_⟩
   ·have:=h.most;have:=h1.most
    show(n k t.1).1.cl.length<=_
    omega
   ·show(n k t.1).1.ru=_
    rw[hb,ha,agi]
  have:=NdP.alt ks (iF n t k) _ h2 fun k' hk'=>hn k' (afV _ hk');rw[agw];have e:m+szK r (k::ks)=m+szN r k+szK r ks:=by simp[szK];omega
  rw[e];exact this
theorem pI{r:List Nd}(ok:dL r):∀(f i:Nat),i<f->i<r.length->∀s,iG s->NdP s (aO r f (i:Int) s) (szN r (i:Int))
 | 0,_,h,_,_,_=>absurd h (agp _)
 | f+1,i,hf,hi,s,hs=>by
  have hx:r[i]?=some (r.getD i default):=by rw[afG,afE hi,agr]
  have nd:=ok.nd i _ hx;have hsz:=WY ok hi;have jl:∀k∈(r.getD i default).kids,∀s,iG s->NdP s (aO r f k s) (szN r k):=fun k hk s hs=>by
   have:=nd.kids k hk;obtain⟨j,rfl⟩:∃j:Nat,k=(j:Int):=⟨k.toNat,by omega⟩;exact pI ok f j (by omega) (by omega) s hs
  rw[hsz];unfold aO;rw[afY];generalize r.getD i default=x at *;have hlow:=nd.low;simp only;split
  ·exact⟨hs,⟨In.nil _,In.nil _⟩,agq _,Nat.le_add_right _ _,[],by simp⟩
  split
  ·have h1:In (s.push (klN x)).cl.length [(s.cl.length:Int)]:=⟨ahu _ _,fun y hy=>by
    have:=hs.one;rw[afK.1 hy];simp[NS.push];omega⟩
   exact⟨hs.push _,⟨h1,h1⟩,by simp[NS.push],by simp[NS.push],[-1],rfl⟩
  split
  ·rename_i h3
   have h2:0<x.kids.length:=by
    rw[h3]at hlow;simp[Rx.mQ]at hlow;omega
   cases e:x.kids with
   | nil=>rw[e]at h2;simp at h2
   | cons k ks =>
    rw[e]at jl;have h0:=jl k (afS ..) s hs;have:=NdP.cat ks _ _ h0 fun k' hk'=>jl k' (afV _ hk')
    show NdP s (List.foldl (jA (aO r f)) (aO r f k s) ks) _
    refine⟨this.ok,this.pl,this.up,?_,this.ru⟩;have h5:=this.most;simp only[szK,agd,List.sum_cons]at h5⊢;omega
  split
  ·have h0:NdP s (s,⟨false,[],[]⟩) 0:=⟨hs,⟨In.nil _,In.nil _⟩,agq _,agq _,[],by simp⟩
   have:=NdP.alt x.kids _ _ h0 jl;exact⟨this.ok,this.pl,this.up,by have:=this.most;omega,this.ru⟩
  ·rename_i n1 n2 n3 n4
   have hk:=nd.k;have h2:0<x.kids.length:=by
    have:x.k=5\/x.k=6\/x.k=7:=(by omega);simp[Rx.mQ,n1,n2,n3,n4,this]at hlow;omega
   cases e:x.kids with
   | nil=>rw[e]at h2;simp at h2
   | cons k ks =>
    rw[e]at jl;have h0:=jl k (afS ..) s hs;have hm:=h0.most;have hj:∀y:NS,y=(if x.k=7 then (aO r f k s).1 else (aO r f k s).1.join (aO r f k s).2.l (aO r f k s).2.f)->iG y/\y.cl=(aO r f k s).1.cl/\y.ru=(aO r f k s).1.ru:=by
     intro y hy;rw[hy];split
     ·exact⟨h0.ok,rfl,rfl⟩
     ·exact⟨h0.ok.join _ h0.pl.f,rfl,rfl⟩
    obtain⟨j1,j2,j3⟩:=hj _ rfl
    show NdP s (if x.k=7 then (aO r f k s).1 else (aO r f k s).1.join (aO r f k s).2.l (aO r f k s).2.f,⟨(aO r f k s).2.e || !decide (x.k=6),(aO r f k s).2.f,(aO r f k s).2.l⟩) _
    refine⟨j1,?_,?_,?_,?_⟩
    ·rw[j2];exact⟨h0.pl.f,h0.pl.l⟩
    ·rw[j2];exact h0.up
    ·rw[j2]
     simp only[szK,agd,List.sum_cons];omega
    ·rw[j3];exact h0.ru
end
section
open Go Go.Proofs Go.RowKit
attribute [local go_sem] Oper.semAt_some
def MAt(W:World)(r:Nat)(ks:List Int):Prop:=∃es clock,W.heap[r]?=some (.map es clock)/\es.toList.map (·.key)=ks.map (Value.int .i64)/\(∀x∈es.toList,x.val=.agg #[])/\MapKept.Stamped es clock
theorem MAt.hat{W:World}{r:Nat}{ks:List Int}(h:MAt W r ks):HAt W r ks:=by
 obtain⟨es,c,h1,h2,_,h3⟩:=h;exact⟨es,c,h1,h2,h3⟩
theorem MAt.lt{W:World}{r:Nat}{ks:List Int}(h:MAt W r ks):r<W.heap.size:=h.hat.lt
theorem MAt.same{W W':World}{r:Nat}{ks:List Int}(h:MAt W r ks)(he:W'.heap[r]?=W.heap[r]?):MAt W' r ks:=by
 obtain⟨es,c,h1,h2⟩:=h;exact⟨es,c,he.trans h1,h2⟩
theorem MAt.nodup{W:World}{r:Nat}{ks:List Int}(h:MAt W r ks):ks.Nodup:=by
 obtain⟨es,c,_,h2,_,h3⟩:=h;have h4:(es.toList.map (·.key)).Nodup:=ahb.2 (((MapKept.stamped_iff es c).1 h3).2.2);rw[h2]at h4;exact (ahb.1 h4).imp fun hne e=>hne (by rw[e])
theorem FK{es:Array MapEntry}{ks:List Int}(hk:es.toList.map (·.key)=ks.map (Value.int .i64)):∀x∈es.toList,∃k∈ks,x.key=.int .i64 k:=fun x hx=>by
 have:x.key∈es.toList.map (·.key):=ahj hx;rw[hk,agv]at this;obtain⟨n,h1,e⟩:=this;exact⟨n,h1,e.symm⟩
theorem MAt.put{W:World}{r:Nat}{ks:List Int}(h:MAt W r ks)(k:Int):∃W',(Instr.mapUpdate 112 (.map (some r)) (.int .i64 k) (.agg #[])).run Tryz.prog W=.ok () W'/\MAt W' r (lg ks k)/\W'.heap.size=W.heap.size/\Below 0 W W'/\∀j,j≠r->W'.heap[j]?=W.heap[j]?:=by
 obtain⟨es,clock,hb,hk,hv,hs⟩:=h;have hks:∀x∈es.toList,MapKept.IsKey (.int .i64) x.key:=fun x hx=>by
  obtain⟨n,_,e⟩:=FK hk x hx;rw[e];rfl
 have hm:Tryz.prog.underlying 112=some (.map 3 125):=Tryz.underlying112;have hd:Tryz.prog.underlying 3=some (.int .i64):=Tryz.underlying3;have hkk:MapKept.IsKey (.int .i64) (Value.int .i64 k):=rfl;rcases MapKept.findNow_spec hkk es.toList 0 hks with ⟨h1,h2⟩|⟨j,e,h1,h2,h3⟩
 ·refine⟨{W with heap:=W.heap.setIfInBounds r (.map (es.push {key:=.int .i64 k,val:=.agg #[],born:=clock}) (clock+1))},?_,⟨_,_,(MapKept.heap_set hb).1,?_,?_,MapKept.stamped_push hs h2⟩,by simp,⟨rfl,rfl,rfl,by simp,fun j hj=>absurd hj (agp _)⟩,(MapKept.heap_set hb).2⟩
  ·simp[Instr.mapUpdate,run_underlying hm,MapKept.run_getObj_map hb,MapKept.run_checkKey hd hkk,MapKept.run_findKey hd h1,MapKept.run_setObj_map _ hb,Result.andThen]
  ·have hn:k∉ks:=fun hmem=>by
    have:Value.int .i64 k∈es.toList.map (·.key):=(by rw[hk];exact ahj hmem);obtain⟨x,hx,e⟩:=agv.1 this;exact h2 x hx e
   unfold lg;rw[afO hn];simp[hk]
  ·intro x hx
   rw[Array.toList_push,af2]at hx;rcases hx with hx|hx
   ·exact hv x hx
   ·rw[afK.1 hx]
 ·have hj:es[j]?=some e:=by simpa using h2
  have hkey:∀e',es[j]?=some e'->({e' with key:=.int .i64 k,val:=.agg #[]}: MapEntry).key=e'.key:=fun e' he'=>by rw[hj]at he';cases he';exact h3.symm
  refine⟨{W with heap:=W.heap.setIfInBounds r (.map (es.modify j fun e=>{e with key:=.int .i64 k,val:=.agg #[]}) clock)},?_,⟨_,_,(MapKept.heap_set hb).1,?_,?_,MapKept.stamped_modify hs _ _ (fun _ _=>rfl) (fun e' _ he'=>hkey e' he')⟩,by simp,⟨rfl,rfl,rfl,by simp,fun j hj=>absurd hj (agp _)⟩,(MapKept.heap_set hb).2⟩
  ·simp[Instr.mapUpdate,run_underlying hm,MapKept.run_getObj_map hb,MapKept.run_checkKey hd hkk,MapKept.run_findKey hd h1,hj,h3,MapKept.run_keyThatStays hkk,MapKept.run_setObj_map _ hb,Result.andThen]
  ·rw[MapKept.modify_keys _ _ hkey,hk]
   have hn:k∈ks:=by
    have:e.key∈es.toList.map (·.key):=ahj (af7 h2);rw[h3,hk]at this;obtain⟨x,hx,e2⟩:=agv.1 this
    cases e2
    exact hx
   unfold lg;rw[afR hn]
  ·intro x hx
   rw[Array.mem_toList_iff,Array.mem_iff_getElem]at hx;obtain⟨i,hi,rfl⟩:=hx;rw[Array.getElem_modify];split
   ·rfl
   ·exact hv _ (by simp)
theorem FM(ks:List Int)(k x:Int):x∈lg ks k↔x=k\/x∈ks:=by
 unfold lg;split
 ·rename_i h
  exact⟨.inr,fun h'=>h'.elim (fun e=>by rw[e];exact h) id⟩
 ·rw[af2,afK]
  exact⟨fun h=>h.symm,fun h=>h.symm⟩
def aN(W:World)(r:Nat)(S:List Int):Prop:=∃ks,MAt W r ks/\∀x,x∈ks↔x∈S
theorem aN.lt{W:World}{r:Nat}{S:List Int}(h:aN W r S):r<W.heap.size:=by obtain⟨_,h,_⟩:=h;exact h.lt
theorem aN.same{W W':World}{r:Nat}{S:List Int}(h:aN W r S)(he:W'.heap[r]?=W.heap[r]?):aN W' r S:=by obtain⟨ks,h,h2⟩:=h;exact⟨ks,h.same he,h2⟩
theorem aN.below{n:Nat}{W W':World}{r:Nat}{S:List Int}(h:aN W r S)(hb:Below n W W')(hn:W.heap.size<=n):aN W' r S:=h.same (hb.block r (afN h.lt hn))
theorem aN.eqv{W:World}{r:Nat}{S T:List Int}(h:aN W r S)(he:∀x,x∈S↔x∈T):aN W r T:=by obtain⟨ks,h,h2⟩:=h;exact⟨ks,h,fun x=>(h2 x).trans (he x)⟩
theorem aN.new(W:World):aN (W.alloc (.map #[] 0)) W.heap.size []:=⟨[],⟨#[],0,(MapKept.heap_alloc W _).1,rfl,by simp,MapKept.stamped_empty 0⟩,fun _=>agO⟩
theorem aN.map{W:World}{r:Nat}{S:List Int}(h:aN W r S):∃es c,W.heap[r]?=some (.map es c):=by obtain⟨_,⟨es,c,h,_⟩,_⟩:=h;exact⟨es,c,h⟩
theorem Cb:∀{l:List MapEntry},l.Pairwise (fun x y=>x.key≠y.key)->∀{x y:MapEntry},x∈l->y∈l->x.key=y.key->x=y
 | [],_,_,_,hx,_,_=>by cases hx
 | e::l,h,x,y,hx,hy,hk=>by
  obtain⟨h1,h2⟩:=agF.1 h;rcases afX.1 hx with a|a<;>rcases afX.1 hy with b|b
  ·rw[a,b]
  ·exact absurd (by rw[<-a];exact hk) (h1 _ b)
  ·exact absurd (by rw[<-b];exact hk.symm) (h1 _ a)
  ·exact Cb h2 a b hk
def jP(W:World)(It r:Nat)(ks dn:List Int):Prop:=∃es clock since seen c0,W.heap[r]?=some (.map es clock)/\es.toList.map (·.key)=ks.map (Value.int .i64)/\(∀x∈es.toList,x.val=.agg #[])/\MapKept.Stamped es clock /\
 W.heap[It]?=some (.mapIter (some r) since seen c0)/\(∀x∈es.toList,x.born<since)/\since<=c0/\since<=clock/\(∀x∈es.toList,∀k,x.key=.int .i64 k->(k∈dn↔seen.contains x.born=true))/\dn.Nodup/\∀k∈dn,k∈ks
theorem jP.lt{W:World}{It r:Nat}{ks dn:List Int}(h:jP W It r ks dn):It<W.heap.size/\r<W.heap.size/\It≠r:=by
 obtain⟨es,c,s,se,c0,h1,_,_,_,h5,_⟩:=h;refine⟨(afF.1 h5).1,(afF.1 h1).1,fun e=>?_⟩;rw[e,h1]at h5
 cases h5
theorem jP.same{W W':World}{It r:Nat}{ks dn:List Int}(h:jP W It r ks dn)(h1:W'.heap[r]?=W.heap[r]?)(h2:W'.heap[It]?=W.heap[It]?):jP W' It r ks dn:=by
 obtain⟨es,c,s,se,c0,g1,g2,g3,g4,g5,g6⟩:=h;exact⟨es,c,s,se,c0,h1.trans g1,g2,g3,g4,h2.trans g5,g6⟩
theorem O9{W:World}{r:Nat}{ks:List Int}(h:MAt W r ks):∃W',(Instr.range 112 (.map (some r))).run Tryz.prog W=.ok (.pointer (some ⟨W.heap.size,0,none⟩)) W'/\jP W' W.heap.size r ks []/\Below W.heap.size W W'/\W'.heap.size=W.heap.size+1:=by
 have hl:=h.lt;obtain⟨es,c,h1,h2,h3,h4⟩:=h;refine⟨_,run_range_map W 112 3 125 r es c Tryz.underlying112 h1,⟨es,c,c,#[],c,((MapKept.heap_alloc W _).2 r hl).trans h1,h2,h3,h4,(MapKept.heap_alloc W _).1,h4.1,agq _,agq _,fun x _ k _=>by simp,aix,by simp⟩,(afI _ W).alloc afD _,by simp⟩
def lft(W:World)(It r:Nat):Nat:=
 match W.heap[r]?,W.heap[It]? with
 | some (.map es _),some (.mapIter _ _ seen _)=>(leftOf es seen).size
 | _,_=>0
theorem rZ{W W':World}{It r:Nat}(h1:W'.heap[r]?=W.heap[r]?)(h2:W'.heap[It]?=W.heap[It]?):lft W' It r=lft W It r:=by unfold lft;rw[h1,h2]
theorem Uu{W:World}{It r:Nat}{ks dn:List Int}(h:jP W It r ks dn)(ty:TypeId):
  ((∀k∈ks,k∈dn)/\(Instr.next (.pointer (some ⟨It,0,none⟩)) false ty).run Tryz.prog W=.ok (.tuple #[.bool false]) W) \/
  ∃k W',k∈ks/\k∉dn/\(Instr.next (.pointer (some ⟨It,0,none⟩)) false ty).run Tryz.prog W=.ok (.tuple #[.bool true,.int .i64 k,.agg #[]]) W'/\jP W' It r ks (dn++[k])/\Below 0 W W'/\W'.heap.size=W.heap.size/\(∀j,j≠It->W'.heap[j]?=W.heap[j]?)/\lft W' It r<lft W It r /\
   (Instr.entry (.pointer (some ⟨It,0,none⟩))).run Tryz.prog W'=.ok (.tuple #[.int .i64 k,.agg #[]]) W':=by
 have hne:=h.lt.2.2;obtain⟨es,c,s,se,c0,g1,g2,g3,g4,g5,g6,g7,g8,g9,g10,g11⟩:=h;rcases run_next_at (P:=Tryz.prog) W ty It r s c0 se es c g5 g1 g6 g7 with ⟨h0,hrun⟩|⟨e,he,w1,hal,hrun⟩
 ·refine .inl ⟨fun k hk=>?_,hrun⟩
  have:Value.int .i64 k∈es.toList.map (·.key):=by rw[g2];exact ahj hk
  obtain⟨x,hx,e⟩:=agv.1 this;exact(g9 x hx k e).2 (all_seen es se h0 x hx)
 ·obtain⟨hem,hes⟩:=mem_left he
  obtain⟨k,hk1,hk2⟩:=FK g2 e hem;rw[hk2,g3 e hem]at hrun;have hnd:k∉dn:=fun hd=>by
   rw[(g9 e hem k hk2).1 hd]at hes
   cases hes
  have g5':w1.heap[It]?=some (.mapIter (some r) s se c0):=by rcases hal with rfl|rfl<;>exact g5
  have g1':w1.heap[r]?=some (.map es c):=by rcases hal with rfl|rfl<;>exact g1
  have hset:=MapKept.heap_set (o':=.mapIter (some r) s (se.push e.born) c) g5';have hst:=(MapKept.stamped_iff es c).1 g4;have hr':(ChangeMaps.setBlock w1 It (.mapIter (some r) s (se.push e.born) c)).heap[r]?=some (.map es c):=(hset.2 r (fun e=>hne e.symm)).trans g1';refine .inr ⟨k,_,hk1,hnd,hrun,⟨es,c,s,se.push e.born,c,hr',g2,g3,g4,hset.1,g6,g8,g8,fun x hx k' hk'=>?_,?_,fun k' hk'=>?_⟩,?_,?_,?_,?_,?_⟩
  ·rw[contains_push,af2,afK,g9 x hx k' hk',ahp]
   refine or_congr agO ?_;rw[ahe]
   constructor
   ·intro e1
    have hkeq:x.key=e.key:=(by rw[hk',hk2,e1]);rw[Cb hst.2.2 hx hem hkeq]
   ·intro hb
    have:=born_inj hst.2.1 hx hem hb;rw[this,hk2]at hk'
    cases hk'
    rfl
  ·exact ahD.2 ⟨g10,by simp,fun a ha b hb=>by rw[afK.1 hb];exact fun e=>hnd (e▸ ha)⟩
  ·rcases af2.1 hk' with h|h
   ·exact g11 k' h
   ·rw[afK.1 h];exact hk1
  ·rcases hal with rfl|rfl<;>exact⟨rfl,rfl,rfl,by simp[ChangeMaps.setBlock],fun j hj=>absurd hj (agp _)⟩
  ·rcases hal with rfl|rfl<;>simp[ChangeMaps.setBlock]
  ·intro j hj
   rcases hal with rfl|rfl<;>exact hset.2 j hj
  ·have:=left_shrinks es se e he
   unfold lft;rw[hr',show (ChangeMaps.setBlock w1 It (.mapIter (some r) s (se.push e.born) c)).heap[It]?=_ from hset.1,g1,g5];exact this
  ·have:=run_entry_at (P:=Tryz.prog) _ It r s se es c e hset.1 hr' hem hst.2.1
   rw[hk2,g3 e hem]at this;exact this
section
variable {ops : Array Oper} {rest : List Oper} {o : Oper} {a : Act} {Q : Exit -> Act -> World -> Prop} (W : World)
theorem lq(hg:o.guard=none)(m:Operand)(hop:o.op=Op.range 112 m)(r:Nat)(ks:List Int)(hm:a.eval m=.map (some r))(h:MAt W r ks)
  (hK:∀W',jP W' W.heap.size r ks []->Below W.heap.size W W'->W'.heap.size=W.heap.size+1->wpList Tryz.prog ops Q rest (a.put o.dst (.pointer (some ⟨W.heap.size,0,none⟩))) W'):
  wpList Tryz.prog ops Q (o::rest) a W:=by
 refine wpList_plain hg fun K' hK'=>?_;obtain⟨w',hrun,r1,r2,r3⟩:=O9 h;unfold Oper.wp;simp[execOp,hop,hm,hrun,Result.andThen];exact hK' _ _ (hK w' r1 r2 r3)
theorem mW(hg:o.guard=none)(it:Operand)(hop:o.op=Op.next it false)(It r:Nat)(ks dn:List Int)(hit:a.eval it=.pointer (some ⟨It,0,none⟩))(h:jP W It r ks dn)
  (hDone:(∀k∈ks,k∈dn)->wpList Tryz.prog ops Q rest (a.put o.dst (.tuple #[.bool false])) W)
  (hMore:∀k W',k∈ks->k∉dn->jP W' It r ks (dn++[k])->Below 0 W W'->W'.heap.size=W.heap.size->(∀j,j≠It->W'.heap[j]?=W.heap[j]?)->lft W' It r<lft W It r ->
   (Instr.entry (.pointer (some ⟨It,0,none⟩))).run Tryz.prog W'=.ok (.tuple #[.int .i64 k,.agg #[]]) W'->wpList Tryz.prog ops Q rest (a.put o.dst (.tuple #[.bool true,.int .i64 k,.agg #[]])) W'):
  wpList Tryz.prog ops Q (o::rest) a W:=by
 refine wpList_plain hg fun K' hK'=>?_;unfold Oper.wp;rcases Uu h o.type with ⟨hd,hrun⟩|⟨k,W',h1,h2,hrun,h3,h4,h5,h6,h7,h8⟩
 ·simp[execOp,hop,hit,hrun,Result.andThen]
  exact hK' _ _ (hDone hd)
 ·simp[execOp,hop,hit,hrun,Result.andThen]
  exact hK' _ _ (hMore k W' h1 h2 h3 h4 h5 h6 h7 h8)
theorem FN{m kx v:Operand}{ty:TypeId}{pos:String}{after:Array Edge}(r:Nat)(ks:List Int)(k:Int)
  (hm:a.eval m=.map (some r)) (hk:a.eval kx=.int .i64 k) (hv:a.eval v=.agg #[]) (hH:MAt W r ks)
  (h:∀W',MAt W' r (lg ks k)->W'.heap.size=W.heap.size->Below 0 W W'->(∀j,j≠r->W'.heap[j]?=W.heap[j]?)->wpList Tryz.prog ops Q rest a W'):
  wpList Tryz.prog ops Q ({dst:=none,op:=.mapUpdate 112 m kx v,type:=ty,pos:=pos,after:=after,guard:=none}::rest) a W:=by
 obtain⟨W',hr,h1,h2,h3,h4⟩:=hH.put k;refine wpList_plain rfl fun K hK=>?_;have hx:(execOp a.eval {dst:=none,op:=.mapUpdate 112 m kx v,type:=ty,pos:=pos,after:=after,guard:=none}).run Tryz.prog W=.ok .skip W':=by
  simp only[execOp,hm,hk,hv,Sem.run_bind,hr];rfl
 unfold Oper.wp;rw[hx];exact hK _ _ (h _ h1 h2 h3 h4)
theorem FP{m kx v:Operand}{ty:TypeId}{pos:String}{after:Array Edge}(r:Nat)(ks:List Int)(k:Int)
  (hm:a.eval m=.map (some r)) (hk:a.eval kx=.int .i64 k) (hv:a.eval v=.agg #[]) (hH:MAt W r ks)
  (h:∀W',MAt W' r (lg ks k)->W'.heap.size=W.heap.size->Below 0 W W'->(∀j,j≠r->W'.heap[j]?=W.heap[j]?)->wpList Tryz.prog ops Q rest a W'):
  wpList Tryz.prog ops Q ({dst:=none,op:=.insert 112 m kx v,type:=ty,pos:=pos,after:=after,guard:=none}::rest) a W:=by
 obtain⟨W',hr,h1,h2,h3,h4⟩:=hH.put k;refine wpList_plain rfl fun K hK=>?_;have hx:(execOp a.eval {dst:=none,op:=.insert 112 m kx v,type:=ty,pos:=pos,after:=after,guard:=none}).run Tryz.prog W=.ok .skip W':=by
  simp only[execOp,hm,hk,hv,Sem.run_bind,hr];rfl
 unfold Oper.wp;rw[hx];exact hK _ _ (h _ h1 h2 h3 h4)
end
end
end Go.Proofs.YtkjgogdkdejljaaGreatDoor.Df
