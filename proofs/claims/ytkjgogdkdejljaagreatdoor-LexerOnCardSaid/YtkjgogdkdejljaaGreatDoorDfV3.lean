import Derived.Test.YtkjgogdkdejljaaGreatDoorRxR11
namespace Go.Proofs.YtkjgogdkdejljaaGreatDoor.Rx
open Go
section
variable {σ α : Type} (mk : σ → H5 → List α → σ × α)
structure Ms(σ α : Type) where
 st : σ
 a:Nat
 e:Int
 A:List α
 I:List α
 f:List (Fr α)
def fA(x:Ms σ α)(k:Int):Ms σ α :=
 match x.I.getLast? with
 | none=>{ x with e:=7 }
 | some y=>{ x with st:=(mk x.st (h5 k) [y]).1,a:=x.a+1,I:=x.I.dropLast++[(mk x.st (h5 k) [y]).2] }
def stepG(s:ByteArray)(x:Ms σ α):Ms σ α :=
 if bC s x.a=124 then { x with st:=(dA mk x.st 3 x.I).1,a:=x.a+1,A:=x.A++[(dA mk x.st 3 x.I).2],I:=[] }
 else if bC s x.a=40 then { x with a:=x.a+1,A:=[],I:=[],f:=(x.A,x.I)::x.f }
 else if bC s x.a=41 then
  match x.f with
  | []=>{ x with e:=7 }
  | (B,J)::f=>⟨(fP mk x.st x.A x.I).1,x.a+1,x.e,B,J++[(fP mk x.st x.A x.I).2],f⟩
 else if bC s x.a=93 then { x with e:=7 }
 else if bC s x.a=42 then fA mk x 5
 else if bC s x.a=43 then fA mk x 6
 else if bC s x.a=63 then fA mk x 7
 else
  let t:=gq s (x.a+1) (bC s x.a)
  { x with st:=(mk x.st ⟨2,t.1⟩ []).1,a:=t.2.1,e:=t.2.2,I:=x.I++[(mk x.st ⟨2,t.1⟩ []).2] }
def nP(st : σ):Ms σ α:=⟨st,0,0,[],[],[]⟩
inductive Reach (s:ByteArray):Ms σ α→Ms σ α→Prop where
 | refl (x:Ms σ α):Reach s x x
 | more {x y:Ms σ α} : Reach s x y→dG s.size y.a y.e=true→Reach s x (stepG mk s y)
end
def hdC(x:Nd):Cd:=⟨x.k,⟨x.a,x.b,x.c,x.d⟩,x.kids.length⟩
def JE(acc:List (List Cd))(x:Nd):List (List Cd):=acc++[hdC x::x.kids.flatMap (fun k=>acc.getD k.toNat [])]
def pU(r:List Nd):List (List Cd):=r.foldl JE []
def dB(r:List Nd)(k:Int):List Cd:=(pU r).getD k.toNat []
theorem Ag(r:List Nd)(x:Nd):pU (r++[x])=pU r++[hdC x::x.kids.flatMap (dB r)]:=by
 unfold pU;rw[List.foldl_append];rfl
theorem qH:∀(r:List Nd)(acc:List (List Cd)),(r.foldl JE acc).length=acc.length+r.length
 | [],acc=>rfl
 | x::r,acc=>by
  rw[List.foldl_cons,qH r,List.length_cons];simp[JE];omega
theorem vZ(r:List Nd):(pU r).length=r.length:=by
 unfold pU;rw[qH];simp
theorem Uz(r:List Nd)(x:Nd)(k:Int)(h:0≤k∧k<r.length):dB (r++[x]) k=dB r k:=by
 unfold dB;rw[Ag,List.getD_eq_getElem?_getD,List.getElem?_append_left (by rw[vZ];omega),List.getD_eq_getElem?_getD]
theorem QH(r:List Nd)(x:Nd):dB (r++[x]) (r.length:Int)=hdC x::x.kids.flatMap (dB r):=by
 unfold dB;rw[Ag,List.getD_eq_getElem?_getD,List.getElem?_append_right (by rw[vZ];omega),vZ,Int.toNat_natCast,Nat.sub_self];rfl
theorem QI(r:List Nd)(k:Int)(h:0≤k∧k<r.length):∀ t:List Nd,dB (r++t) k=dB r k:=by
 intro t
 induction t generalizing r with
 | nil=>rw[List.append_nil]
 | cons x t ih =>
  rw[show r++x::t=(r++[x])++t by simp,ih _ (by simp;omega),Uz _ _ _ h]
def codeOf(r:List Nd):List Cd:=dB r ((r.length:Int)-1)
def inR(r:List Nd)(l:List Int):Prop:=∀ k∈l,0≤k∧k<r.length
theorem KL(r:List Nd)(h:H5)(l:List Int):∃ t,(mkI r h l).1=r++t:=⟨_,rfl⟩
theorem oU(r:List Nd)(k:Int)(l:List Int):∃ t,(dA mkI r k l).1=r++t:=by
 match l with
 | []=>exact⟨_,rfl⟩
 | [x]=>exact⟨[],by simp[dA]⟩
 | x::y::l=>exact⟨_,rfl⟩
theorem xO(r:List Nd)(h:H5)(l:List Int):dB (mkI r h l).1 (mkI r h l).2=(mkC () h (l.map (dB r))).2:=by
 show dB (r++[_]) (r.length:Int)=_
 rw[QH];simp[mkC,hdC,List.flatMap]
theorem wu(r:List Nd)(k:Int)(l:List Int)(h:inR r l):dB (dA mkI r k l).1 (dA mkI r k l).2=(dA mkC () k (l.map (dB r))).2:=by
 match l with
 | []=>exact xO r _ []
 | [x]=>rfl
 | x::y::l=>exact xO r _ _
theorem ji{r r':List Nd}(h:∃ t,r'=r++t){l:List Int}(hl:inR r l):l.map (dB r')=l.map (dB r):=by
 obtain⟨t,rfl⟩:=h;exact List.map_congr_left fun k hk=>QI r k (hl k hk) t
theorem UA{r r':List Nd}(h:∃ t,r'=r++t){l:List Int}(hl:inR r l):inR r' l:=by
 obtain⟨t,rfl⟩:=h;intro k hk;have:=hl k hk;simp;omega
theorem UC(r:List Nd)(k:Int)(l:List Int)(h:inR r l):inR (dA mkI r k l).1 [(dA mkI r k l).2]:=by
 match l with
 | []=>intro j hj;rw[List.mem_singleton.1 hj];simp only[dA,mkI,List.length_append,List.length_singleton];omega
 | [x]=>exact h
 | x::y::l=>intro j hj;rw[List.mem_singleton.1 hj];simp only[dA,mkI,List.length_append,List.length_singleton];omega
theorem Ns{r r' r'':List Nd}(h:∃ t,r'=r++t)(g:∃ t,r''=r'++t):∃ t,r''=r++t:=by
 obtain⟨t,rfl⟩:=h;obtain⟨u,rfl⟩:=g;exact⟨t++u,by simp⟩
theorem UD{r:List Nd}{l m:List Int}(h:inR r l)(g:inR r m):inR r (l++m):=fun k hk=>by
 rcases List.mem_append.1 hk with hk | hk
 ·exact h k hk
 ·exact g k hk
theorem uz{r:List Nd}{l m:List Int}(h:inR r (l++m)):inR r l:=fun k hk=>h k (List.mem_append_left _ hk)
theorem Dh{r:List Nd}{l m:List Int}(h:inR r (l++m)):inR r m:=fun k hk=>h k (List.mem_append_right _ hk)
theorem QJ(r:List Nd)(A I:List Int):∃ t,(fP mkI r A I).1=r++t:=Ns (oU r 3 I) (oU _ _ _)
theorem Di(r:List Nd)(A I:List Int)(hA:inR r A)(hI:inR r I):dB (fP mkI r A I).1 (fP mkI r A I).2=(fP mkC () (A.map (dB r)) (I.map (dB r))).2:=by
 unfold fP;rw[wu _ _ _ (UD (UA (oU r 3 I) hA) (UC r 3 I hI)),List.map_append,ji (oU r 3 I) hA,List.map_cons,List.map_nil,wu r 3 I hI]
def aaF(r:List Nd)(f:Fr Int):Prop:=inR r f.1∧inR r f.2
def Nu(r:List Nd)(f:Fr Int):Fr (List Cd):=(f.1.map (dB r),f.2.map (dB r))
def rG(x:Ms (List Nd) Int):Ms Unit (List Cd):=⟨(),x.a,x.e,x.A.map (dB x.st),x.I.map (dB x.st),x.f.map (Nu x.st)⟩
def fB(x:Ms (List Nd) Int):List Int:=x.A++x.I++x.f.flatMap (fun f=>f.1++f.2)
theorem He{x:Ms (List Nd) Int}(h:inR x.st (fB x)):inR x.st x.A∧inR x.st x.I∧∀ f∈x.f,aaF x.st f :=
 ⟨uz (uz h),Dh (uz h),fun f hf=>⟨fun k hk=>h k (List.mem_append_right _ (List.mem_flatMap.2 ⟨f,hf,List.mem_append_left _ hk⟩)),fun k hk=>h k (List.mem_append_right _ (List.mem_flatMap.2 ⟨f,hf,List.mem_append_right _ hk⟩))⟩⟩
theorem uD{r r':List Nd}(h:∃ t,r'=r++t){f:List (Fr Int)}(hf:∀ y∈f,aaF r y):f.map (Nu r')=f.map (Nu r) :=
 List.map_congr_left fun y hy=>by unfold Nu;rw[ji h (hf y hy).1,ji h (hf y hy).2]
theorem wB(x:Ms (List Nd) Int)(k:Int)(h:inR x.st (fB x)):rG (fA mkI x k)=fA mkC (rG x) k:=by
 obtain⟨hA,hI,hf⟩:=He h;unfold fA
 cases e:x.I.getLast? with
 | none=>simp only[rG,List.getLast?_map,e,Option.map_none]
 | some y =>
  have hext:=KL x.st (h5 k) [y];simp only[rG,List.getLast?_map,e,Option.map_some,Ms.mk.injEq,true_and];refine⟨ji hext hA,?_,uD hext hf⟩;rw[List.map_append,ji hext (fun q hq=>hI q (List.dropLast_subset _ hq)),List.map_dropLast,List.map_cons,List.map_nil,xO];rfl
theorem QK(s:ByteArray)(x:Ms (List Nd) Int)(h:inR x.st (fB x)):rG (stepG mkI s x)=stepG mkC s (rG x):=by
 obtain⟨hA,hI,hf⟩:=He h;have ea:(rG x).a=x.a:=rfl;unfold stepG;rw[ea];split
 ·have hext:=oU x.st 3 x.I
  simp only[rG,Ms.mk.injEq,true_and];refine⟨?_,rfl,uD hext hf⟩;rw[List.map_append,ji hext hA,List.map_cons,List.map_nil,wu _ _ _ hI]
 split
 ·simp only[rG,Nu,List.map_cons,List.map_nil]
 split
 ·cases e:x.f with
  | nil=>simp only[rG,e,List.map_nil]
  | cons y f =>
   obtain⟨B,J⟩:=y;have hext:=QJ x.st x.A x.I;have hy:=hf (B,J) (by rw[e];exact List.mem_cons_self ..);simp only[rG,e,List.map_cons,Nu,Ms.mk.injEq,true_and];refine⟨ji hext hy.1,?_,uD hext (fun z hz=>hf z (by rw[e];exact List.mem_cons_of_mem _ hz))⟩;rw[List.map_append,ji hext hy.2,List.map_cons,List.map_nil,Di _ _ _ hA hI]
 split
 ·rfl
 split
 ·exact wB x 5 h
 split
 ·exact wB x 6 h
 split
 ·exact wB x 7 h
 ·have hext:=KL x.st ⟨2,(gq s (x.a+1) (bC s x.a)).1⟩ []
  simp only[rG,Ms.mk.injEq,true_and];refine⟨ji hext hA,?_,uD hext hf⟩;rw[List.map_append,ji hext hI,List.map_cons,List.map_nil,xO];rfl
theorem fM.perm{out:List Nd}{R R':List Int}(h:fM out R)(p:R.Perm R'):fM out R' :=
 ⟨h.nd,fun j hj=>by rw[←p.count_eq];exact h.one j hj,fun k hk=>h.roots k (p.mem_iff.2 hk)⟩
theorem fM.inR{out:List Nd}{R:List Int}(h:fM out R):inR out R:=h.roots
theorem fM.put{out:List Nd}{h:H5}{l rest:List Int}(H:fM out (l++rest))(hk:1≤h.k∧h.k≤7)(hl:nV h.k≤l.length)(hh:(l.length:Int)≤jl h.k)(hc:h.k≠2→h.w = .zero):fM (mkI out h l).1 ((mkI out h l).2::rest):=by
 unfold mkI;refine⟨?_,?_,?_⟩
 ·intro i x hx
  by_cases hi:i<out.length
  ·rw[List.getElem?_append_left hi] at hx
   exact H.nd i x hx
  ·rw[List.getElem?_append_right (by omega)] at hx
   by_cases e:i=out.length
   ·subst e
    simp at hx;subst hx;exact⟨hk,hl,hh,fun hn=>by rw[hc hn];exact⟨rfl,rfl,rfl,rfl⟩,fun k hk=>H.roots k (List.mem_append_left _ hk)⟩
   ·rw[List.getElem?_eq_none (by simp;omega)] at hx;simp at hx
 ·intro j hj
  simp only[List.length_append,List.length_singleton] at hj;rw[AZ,List.count_append,List.count_cons];have e1:(bg [(⟨h.k,h.w.a,h.w.b,h.w.c,h.w.d,l⟩:Nd)])=l:=by simp[bg]
  rw[e1]
  by_cases hi:j<out.length
  ·have:=H.one j hi
   rw[List.count_append] at this;rw[if_neg (by simp;omega)];omega
  ·obtain rfl:j=out.length:=by omega
   have h1:(bg out).count (out.length:Int)=0:=List.count_eq_zero_of_not_mem (fun hm=>by
    have:=nG (n:=0) (fun i x hx=>by simpa using H.nd i x hx) _ hm;omega)
   have h2:l.count (out.length:Int)=0:=List.count_eq_zero_of_not_mem (fun hm=>by have:=H.roots _ (List.mem_append_left _ hm);omega);have h3:rest.count (out.length:Int)=0:=List.count_eq_zero_of_not_mem (fun hm=>by have:=H.roots _ (List.mem_append_right _ hm);omega);rw[h1,h2,h3,if_pos (by simp)]
 ·intro k hk
  simp only[List.mem_cons,List.length_append,List.length_singleton] at hk ⊢;rcases hk with rfl | hk
  ·omega
  ·have:=H.roots k (List.mem_append_right _ hk)
   omega
theorem fM.many{out:List Nd}{l rest:List Int}(H:fM out (l++rest))(k:Int)(hk:k=3∨k=4)(hl:l.length≤512):fM (dA mkI out k l).1 ((dA mkI out k l).2::rest)∧(dA mkI out k l).1.length≤out.length+1:=by
 match l with
 | []=>exact⟨H.put (h:=h5 1) (by decide) (by decide) (by decide) (fun _=>rfl),by simp[dA,mkI]⟩
 | [x]=>exact⟨H,by simp[dA]⟩
 | x::y::l =>
  refine⟨H.put (h:=h5 k) ?_ ?_ ?_ (fun _=>rfl),by simp[dA,mkI]⟩
  ·rcases hk with rfl | rfl<;>decide
  ·rcases hk with rfl | rfl<;>simp[h5,nV]<;>omega
  ·rcases hk with rfl | rfl<;>simp[h5,jl]<;>simp at hl<;>omega
theorem fM.Vy{out:List Nd}{A I rest:List Int}(H:fM out (A++I++rest))(hA:A.length≤511)(hI:I.length≤512):fM (fP mkI out A I).1 ((fP mkI out A I).2::rest)∧(fP mkI out A I).1.length≤out.length+2:=by
 obtain⟨h1,h2⟩:=(H.perm (R':=I++(A++rest)) (by rw[←List.append_assoc];exact List.Perm.append_right _ List.perm_append_comm)).many 3 (.inl rfl) hI;obtain⟨h3,h4⟩:=(h1.perm (R':=(A++[(dA mkI out 3 I).2])++rest) (by
  rw[List.append_assoc,List.singleton_append];exact List.perm_middle.symm)).many 4 (.inr rfl) (by simp;omega)
 exact⟨h3,by unfold fP;omega⟩
structure A8(s:ByteArray)(x:Ms (List Nd) Int):Prop where
 fo:fM x.st (fB x)
 rl:(fB x).length≤x.a
 sl:x.st.length≤2*x.a
 al:x.a≤s.size
 fl:x.f.length≤x.a
theorem pG(s:ByteArray)(a:Nat)(c:Int)(ha:a≤s.size):(gq s a c).1.Wd∧(gq s a c).2.1≤s.size∧((gq s a c).2.2=0→a≤(gq s a c).2.1):=by
 unfold gq;split
 ·unfold kM
  obtain⟨nt,hnt⟩:∃ nt,nt=(dG s.size a 0 && (bC s a == 94)):=⟨_,rfl⟩;obtain⟨a1,ha1⟩:∃ a1,a1=(if nt then a+1 else a):=⟨_,rfl⟩;have h1:a≤a1∧a1≤s.size:=by
   rw[ha1]
   cases nt with
   | false=>simp;exact ha
   | true =>
    have:dG s.size a 0=true:=by
     have:=hnt.symm;rw[Bool.and_eq_true] at this;exact this.1
    have:=(cZ.1 this).2;simp;omega
  simp only[←hnt,←ha1];obtain⟨g1,g2,g3⟩:=Hf s (s.size-a1) a1 0 .zero h1.2 C4.KN;split
  ·rename_i hm
   have hm:=cZ.1 hm;refine⟨?_,hm.2,fun _=>?_⟩
   ·cases nt<;>simp[g2,g2.not]
   ·have:=g3 (by omega) hm.1
    show a≤_+1
    omega
  ·refine⟨g2,?_,fun h=>?_⟩
   ·show(if _ then _ else _)≤_
    split<;>omega
   ·exfalso
    simp only at h;split at h
    ·cases h
    ·exact absurd h (by assumption)
 split
 ·exact⟨(C4.wC _).not,ha,fun _=>Nat.le_refl _⟩
 split
 ·obtain⟨v,k,e,h1,h2,h3,h4⟩:=rH s a ha
  rw[h1];exact⟨C4.wC _,h3,fun h=>by have:=h4 h;simp;omega⟩
 ·exact⟨C4.wC _,ha,fun _=>Nat.le_refl _⟩
theorem QM(s:ByteArray):A8 s (nP []):=⟨⟨fun i x h=>by simp[nP] at h,fun j h=>by simp[nP] at h,fun k h=>by simp[fB,nP] at h⟩,by simp[fB,nP],by simp[nP],Nat.zero_le _,by simp[nP]⟩
theorem JF{α : Type}{l:List α}{y : α}(h:l.getLast?=some y):l=l.dropLast++[y]:=by
 have hne:l≠[]:=by rintro rfl;simp at h
 rw[List.getLast?_eq_some_getLast hne] at h;have:=List.dropLast_concat_getLast hne;rw[Option.some.inj h] at this;exact this.symm
theorem Ah{s:ByteArray}{x:Ms (List Nd) Int}(h:A8 s x)(hal:x.a<s.size)(k:Int)(hk:k=5∨k=6∨k=7)(he:(fA mkI x k).e=0):A8 s (fA mkI x k):=by
 unfold fA at he ⊢
 cases e:x.I.getLast? with
 | none=>simp[e] at he
 | some y =>
  simp only;have hs:=JF e;obtain⟨D,hD⟩:∃ D,D=x.I.dropLast:=⟨_,rfl⟩;rw[←hD] at hs ⊢;have hfo:=h.fo;have hrl:=h.rl;unfold fB at hfo hrl;rw[hs] at hfo hrl;have hp:fM x.st ([y]++(x.A++D++x.f.flatMap (fun f=>f.1++f.2))):=hfo.perm (by
   rw[←List.append_assoc x.A D [y],List.append_assoc (x.A++D) [y],List.singleton_append];exact List.perm_middle)
  have h1:=hp.put (h:=h5 k) (by rcases hk with rfl | rfl | rfl<;>simp[h5]) (by rcases hk with rfl | rfl | rfl<;>simp[h5,nV]) (by rcases hk with rfl | rfl | rfl<;>simp[h5,jl]) (fun _=>rfl);refine⟨?_,?_,?_,hal,Nat.le_succ_of_le h.fl⟩
  ·show fM (mkI x.st (h5 k) [y]).1 (x.A++(D++[(mkI x.st (h5 k) [y]).2])++x.f.flatMap (fun f=>f.1++f.2))
   refine h1.perm ?_;rw[←List.append_assoc x.A D,List.append_assoc (x.A++D) [_],List.singleton_append];exact List.perm_middle.symm
  ·show(x.A++(D++[(mkI x.st (h5 k) [y]).2])++x.f.flatMap (fun f=>f.1++f.2)).length≤x.a+1
   simp only[List.length_append,List.length_singleton] at hrl ⊢;omega
  ·show(mkI x.st (h5 k) [y]).1.length≤2*(x.a+1)
   have:=h.sl;simp[mkI];omega
theorem step_ok{s:ByteArray}{x:Ms (List Nd) Int}(h:A8 s x)(hs:s.size≤256)(hal:x.a<s.size)(_he:x.e=0)(he2:(stepG mkI s x).e=0):A8 s (stepG mkI s x):=by
 have hfo:=h.fo;have hrl:=h.rl;have hsl:=h.sl;unfold fB at hfo hrl;simp only[List.length_append] at hrl;unfold stepG at he2 ⊢;split
 ·obtain⟨h1,h2⟩:=(hfo.perm (R':=x.I++(x.A++x.f.flatMap (fun f=>f.1++f.2))) (by rw[←List.append_assoc];exact List.Perm.append_right _ List.perm_append_comm)).many 3 (.inl rfl) (by omega)
  refine⟨h1.perm ?_,?_,?_,hal,Nat.le_succ_of_le h.fl⟩
  ·simp only[fB,List.append_nil]
   rw[List.append_assoc,List.singleton_append];exact List.perm_middle.symm
  ·simp[fB] at hrl ⊢;omega
  ·show(dA mkI x.st 3 x.I).1.length≤2*(x.a+1)
   omega
 rw[if_neg (by assumption)] at he2;split
 ·refine⟨?_,?_,?_,hal,Nat.succ_le_succ h.fl⟩
  ·simpa[fB] using hfo
  ·simp[fB] at hrl ⊢;omega
  ·show _≤2*(x.a+1)
   have:x.st.length≤2*x.a:=hsl
   show x.st.length≤_
   omega
 rw[if_neg (by assumption)] at he2;split
 ·rw[if_pos (by assumption)] at he2
  cases e:x.f with
  | nil=>rw[e] at he2;simp at he2
  | cons y f =>
   obtain⟨B,J⟩:=y;simp only;rw[e] at hfo hrl;obtain⟨h1,h2⟩:=hfo.Vy (by omega) (by omega);refine⟨h1.perm ?_,?_,?_,hal,by have:=h.fl;rw[e] at this;simp at this ⊢;omega⟩
   ·simp only[fB,List.flatMap_cons]
    rw[←List.append_assoc B J [_],List.append_assoc (B++J) [_],List.singleton_append];exact List.perm_middle.symm
   ·simp[fB] at hrl ⊢;omega
   ·show(fP mkI x.st x.A x.I).1.length≤2*(x.a+1)
    omega
 rw[if_neg (by assumption)] at he2;split
 ·rw[if_pos (by assumption)] at he2;cases he2
 rw[if_neg (by assumption)] at he2;split
 ·rw[if_pos (by assumption)] at he2
  exact Ah h hal 5 (.inl rfl) he2
 rw[if_neg (by assumption)] at he2;split
 ·rw[if_pos (by assumption)] at he2
  exact Ah h hal 6 (.inr (.inl rfl)) he2
 rw[if_neg (by assumption)] at he2;split
 ·rw[if_pos (by assumption)] at he2
  exact Ah h hal 7 (.inr (.inr rfl)) he2
 rw[if_neg (by assumption)] at he2;obtain⟨t1,t2,t3⟩:=pG s (x.a+1) (bC s x.a) hal;have t3:=t3 he2;have hp:fM x.st ([]++(x.A++x.I++x.f.flatMap (fun f=>f.1++f.2))):=hfo;have h1:=hp.put (h:=⟨2,(gq s (x.a+1) (bC s x.a)).1⟩) (by simp) (by simp[nV]) (by simp[jl]) (fun h=>absurd rfl h);refine⟨h1.perm ?_,?_,?_,t2,by have:=h.fl;show x.f.length≤(gq s (x.a+1) (bC s x.a)).2.1;omega⟩
 ·simp only[fB]
  rw[←List.append_assoc x.A x.I,List.append_assoc (x.A++x.I) [_],List.singleton_append];exact List.perm_middle.symm
 ·simp only[fB,List.length_append,List.length_singleton]
  omega
 ·simp only[mkI,List.length_append,List.length_singleton]
  omega
def Nv(acc:List (List Int))(x:Nd):List (List Int):=acc++[(acc.length:Int)::x.kids.flatMap (fun k=>acc.getD k.toNat [])]
def wE(r:List Nd):List (List Int):=r.foldl Nv []
def jw(r:List Nd)(k:Int):List Int:=(wE r).getD k.toNat []
theorem uF:∀(r:List Nd)(acc:List (List Int)),(r.foldl Nv acc).length=acc.length+r.length
 | [],acc=>rfl
 | x::r,acc=>by
  rw[List.foldl_cons,uF r,List.length_cons];simp[Nv];omega
theorem uG(r:List Nd):(wE r).length=r.length:=by
 unfold wE;rw[uF];simp
theorem Dj(r:List Nd)(x:Nd):wE (r++[x])=wE r++[(r.length:Int)::x.kids.flatMap (jw r)]:=by
 have h:=uG r;unfold wE at h ⊢;rw[List.foldl_append]
 show r.foldl Nv []++[((r.foldl Nv []).length:Int)::x.kids.flatMap (fun k=>(r.foldl Nv []).getD k.toNat [])]=_
 rw[h];rfl
theorem KO(r:List Nd)(k:Int)(h:0≤k∧k<r.length):∀ t:List Nd,jw (r++t) k=jw r k:=by
 intro t
 induction t generalizing r with
 | nil=>rw[List.append_nil]
 | cons x t ih =>
  rw[show r++x::t=(r++[x])++t by simp,ih _ (by simp;omega)];unfold jw;rw[Dj,List.getD_eq_getElem?_getD,List.getElem?_append_left (by rw[uG];omega),List.getD_eq_getElem?_getD]
theorem QN{r:List Nd}{i:Nat}{x:Nd}(hx:r[i]?=some x):∃ t,r=(r.take i++[x])++t∧(r.take i).length=i:=by
 have hi:=(List.getElem?_eq_some_iff.1 hx).1;have hx':=(List.getElem?_eq_some_iff.1 hx).2;refine⟨r.drop (i+1),?_,by rw[List.length_take];omega⟩;rw[←hx',List.append_assoc,List.singleton_append,List.getElem_cons_drop,List.take_append_drop]
theorem pre_eq{r:List Nd}{i:Nat}{x:Nd}(hx:r[i]?=some x)(hk:∀ k∈x.kids,0≤k∧k<(i:Int)):jw r (i:Int)=(i:Int)::x.kids.flatMap (jw r):=by
 obtain⟨t,ht,hl⟩:=QN hx;generalize r.take i=p at ht hl;subst ht;have h1:jw (p++[x]++t) (i:Int)=jw (p++[x]) (i:Int):=KO _ _ (by simp;omega) t;have h2:jw (p++[x]) (i:Int)=(i:Int)::x.kids.flatMap (jw p):=by
  unfold jw;rw[Dj,List.getD_eq_getElem?_getD,List.getElem?_append_right (by rw[uG];omega),uG,hl];simp;rfl
 rw[h1,h2]
 congr 1
 rw[List.flatMap_def,List.flatMap_def]
 congr 1
 refine List.map_congr_left fun k hk'=>?_;have:=hk k hk';rw[List.append_assoc,KO p k (by omega)]
def sm(f:Nat→Nat):Nat→Nat
 | 0=>0
 | n+1=>sm f n+f n
def sk(f:Nat→Nat):List Int→Nat
 | []=>0
 | k::ks=>f k.toNat+sk f ks
theorem Dn(f:Nat→Nat):∀ a b:List Int,sk f (a++b)=sk f a+sk f b
 | [],b=>by simp[sk]
 | k::a,b=>by rw[List.cons_append,sk,sk,Dn f a b];omega
theorem Ai{f g:Nat→Nat} : ∀ n,(∀ j,j<n→f j=g j)→sm f n=sm g n
 | 0,_=>rfl
 | n+1,h=>by rw[sm,sm,Ai n (fun j hj=>h j (by omega)),h n (Nat.lt_succ_self n)]
theorem Hg(f:Nat→Nat)(c:Nat→Nat)(k:Nat):∀ n,sm (fun j=>(c j+if k=j then 1 else 0)*f j) n=sm (fun j=>c j*f j) n+if k<n then f k else 0
 | 0=>by simp[sm]
 | n+1=>by
  rw[sm,sm,Hg f c k n]
  by_cases h1:k<n
  ·have h2:¬k=n:=by omega
   have h3:k<n+1:=(by omega);simp only[if_pos h1,if_neg h2,if_pos h3,Nat.add_zero];omega
  ·by_cases h2:k=n
   ·have h3:k<n+1:=by omega
    simp only[if_neg h1,if_pos h2,if_pos h3];rw[Nat.add_mul,Nat.one_mul,h2];omega
   ·have h3:¬k<n+1:=by omega
    simp only[if_neg h1,if_neg h2,if_neg h3,Nat.add_zero]
theorem Hl(f:Nat→Nat)(n:Nat):∀ ks:List Int,(∀ k∈ks,0≤k∧k<n)→sk f ks=sm (fun j=>ks.count (j:Int)*f j) n
 | [],_=>by
  have:∀ n,sm (fun j=>List.count (j:Int) [] * f j) n=0:=by
   intro n
   induction n with
   | zero=>rfl
   | succ n ih=>rw[sm,ih];simp
  rw[this];rfl
 | k::ks,h=>by
  have hk:=h k (List.mem_cons_self ..);rw[sk,Hl f n ks (fun q hq=>h q (List.mem_cons_of_mem _ hq))];rw[show sm (fun j=>(k::ks).count (j:Int)*f j) n=sm (fun j=>(ks.count (j:Int)+if k.toNat=j then 1 else 0)*f j) n from Ai n fun j _=>by
   congr 1
   rw[List.count_cons]
   congr 1
   by_cases e:k.toNat=j
   ·rw[if_pos e,if_pos (by simp;omega)]
   ·rw[if_neg e,if_neg (by simp;omega)]]
  rw[Hg,if_pos (by omega)];omega
theorem KP(f:Int→List Int):∀ ks:List Int,(∀ k∈ks,0≤k)→(ks.flatMap f).length=sk (fun j=>(f (j:Int)).length) ks
 | [],_=>rfl
 | k::ks,h=>by
  have hk:=h k (List.mem_cons_self ..);rw[List.flatMap_cons,List.length_append,sk,KP f ks (fun q hq=>h q (List.mem_cons_of_mem _ hq)),Int.toNat_of_nonneg hk]
theorem KQ{r:List Nd}(ok:∀ i x,r[i]?=some x→iO i x):∀ m,m≤r.length→sm (fun j=>(jw r (j:Int)).length) m=m+sk (fun j=>(jw r (j:Int)).length) (bg (r.take m))
 | 0,_=>by simp[sm,bg,sk]
 | m+1,h=>by
  obtain⟨x,hx⟩:∃ x,r[m]?=some x:=⟨_,List.getElem?_eq_getElem (by omega)⟩;have hk:=(ok m x hx).kids;rw[sm,KQ ok m (by omega),pre_eq hx hk,wR r m x hx,Dn,List.length_cons,KP _ x.kids (fun k hk'=>(hk k hk').1)];omega
theorem Sl{r:List Nd}(ok:eP r):(jw r ((r.length:Int)-1)).length=r.length:=by
 obtain⟨n,hn⟩:∃ n,r.length=n+1:=⟨r.length-1,by have:=ok.one;omega⟩;have h1:=KQ ok.nd r.length Nat.le.refl;have hb:=nG (n:=0) (fun i x hx=>by simpa using ok.nd i x hx);rw[List.take_length,Hl _ r.length _ (fun k hk=>by have:=hb k hk;omega),hn,sm,sm] at h1;have hz:(bg r).count (n:Int)=0:=List.count_eq_zero_of_not_mem (fun hm=>by have:=hb _ hm;omega);rw[hz,Nat.zero_mul,Nat.add_zero] at h1;have h2:sm (fun j=>(bg r).count (j:Int)*(jw r (j:Int)).length) n=sm (fun j=>(jw r (j:Int)).length) n:=Ai n fun j hj=>by
  rw[ok.once j (by omega),Nat.one_mul]
 rw[h2] at h1;rw[show ((r.length:Int)-1)=(n:Int) by omega];omega
end Go.Proofs.YtkjgogdkdejljaaGreatDoor.Rx
namespace Go.Proofs.YtkjgogdkdejljaaGreatDoor.Df
section
open Rx (Nd eP iO jw pre_eq)
def EJ(x:Int):List Int→List Int
 | []=>[x]
 | y::l=>if x<y then x::y::l else if x=y then y::l else y::EJ x l
def jy(a b:List Int):List Int:=b.foldl (fun l x=>EJ x l) a
abbrev Srt(l:List Int):Prop:=l.Pairwise (· < ·)
theorem xW{x y:Int} : ∀ {l:List Int},y∈EJ x l↔y=x∨y∈l
 | []=>by simp[EJ]
 | z::l=>by
  unfold EJ;split
  ·simp
  ·split
   ·rename_i h;subst h;simp
   ·rw[List.mem_cons,xW,List.mem_cons]
    constructor
    ·rintro (h | h | h)<;>simp[h]
    ·rintro (h | h | h)<;>simp[h]
theorem EK{x:Int} : ∀ {l:List Int},Srt l→Srt (EJ x l)
 | [],_=>List.pairwise_singleton _ _
 | z::l,h=>by
  obtain⟨h1,h2⟩:=List.pairwise_cons.1 h;unfold EJ;split
  ·rename_i hx
   refine List.pairwise_cons.2 ⟨fun y hy=>?_,h⟩;rcases List.mem_cons.1 hy with rfl | hy
   ·exact hx
   ·exact Int.lt_trans hx (h1 y hy)
  ·split
   ·exact h
   ·rename_i a b
    refine List.pairwise_cons.2 ⟨fun y hy=>?_,EK h2⟩;rcases xW.1 hy with rfl | hy
    ·omega
    ·exact h1 y hy
theorem lF{y:Int} : ∀ {b a:List Int},y∈jy a b↔y∈a∨y∈b
 | [],a=>by simp[jy]
 | x::b,a=>by
  show y∈jy (EJ x a) b↔_
  rw[lF,xW,List.mem_cons]
  constructor
  ·rintro ((h | h) | h)<;>simp[h]
  ·rintro (h | h | h)<;>simp[h]
theorem EM:∀ {b a:List Int},Srt a→Srt (jy a b)
 | [],_,h=>h
 | x::b,a,h=>EM (b:=b) (EK h)
theorem abl{a b:List Int}(ha:Srt a)(hb:Srt b)(h:∀ x,x∈a↔x∈b):a=b:=by
 have na:a.Nodup:=ha.imp fun h e=>by omega
 have nb:b.Nodup:=hb.imp fun h e=>by omega
 refine List.Perm.eq_of_pairwise (le:=fun x y:Int=>x<y) (fun x y _ _ h1 h2=>by omega) ha hb ?_;exact (List.perm_ext_iff_of_nodup na nb).2 h
theorem RQ{a:List Int}(ha:Srt a){n:Nat}(h:∀ x∈a,0≤x∧x<n):a.length≤n:=by
 have na:a.Nodup:=ha.imp fun h e=>by omega
 have:=List.Nodup.length_le_of_subset (l₂:=(List.range n).map fun i:Nat=>(i:Int)) na fun x hx=>by
  have:=h x hx;rw[List.mem_map];exact⟨x.toNat,by rw[List.mem_range];omega,by omega⟩
 simpa using this
structure NS where
 cl:List Kl
 nx:List (List Int)
 ru:List Int
structure Pl where
 e:Bool
 f:List Int
 l:List Int
def NS.push(s:NS)(c:Kl):NS:=⟨s.cl++[c],s.nx++[[]],s.ru++[-1]⟩
def lG(nx:List (List Int))(L F:List Int):List (List Int):=(List.range nx.length).map fun j:Nat=>if (j:Int)∈L then jy (nx.getD j []) F else nx.getD j []
def NS.join(s:NS)(L F:List Int):NS:=⟨s.cl,lG s.nx L F,s.ru⟩
def YE(p q:Pl):Pl:=⟨p.e && q.e,if p.e then jy p.f q.f else p.f,if q.e then jy p.l q.l else q.l⟩
def behind(s:NS)(p q:Pl):NS×Pl:=(s.join p.l q.f,YE p q)
def Lj(p q:Pl):Pl:=⟨p.e || q.e,jy p.f q.f,jy p.l q.l⟩
def klN(x:Nd):Kl:=⟨x.a % 18446744073709551616,x.b % 18446744073709551616,x.c % 18446744073709551616,x.d % 18446744073709551616,yg (Nat.mod_lt _ (by decide)) (Nat.mod_lt _ (by decide)) (Nat.mod_lt _ (by decide)) (Nat.mod_lt _ (by decide))⟩
def jV(n:Int→NS→NS×Pl)(t:NS×Pl)(k:Int):NS×Pl:=behind (n k t.1).1 t.2 (n k t.1).2
def iE(n:Int→NS→NS×Pl)(t:NS×Pl)(k:Int):NS×Pl:=((n k t.1).1,Lj t.2 (n k t.1).2)
def aU(r:List Nd):Nat→Int→NS→NS×Pl
 | 0,_,s=>(s,⟨false,[],[]⟩)
 | f+1,i,s =>
  let x:=r.getD i.toNat default
  if x.k=1 then (s,⟨true,[],[]⟩)
  else if x.k=2 then (s.push (klN x),⟨false,[(s.cl.length:Int)],[(s.cl.length:Int)]⟩)
  else if x.k=3 then x.kids.tail.foldl (jV (aU r f)) (aU r f (x.kids.getD 0 0) s)
  else if x.k=4 then x.kids.foldl (iE (aU r f)) (s,⟨false,[],[]⟩)
  else
   let y:=aU r f (x.kids.getD 0 0) s
   (if x.k=7 then y.1 else y.1.join y.2.l y.2.f,⟨y.2.e || !decide (x.k=6),y.2.f,y.2.l⟩)
structure In(n:Nat)(l:List Int):Prop where
 s:Srt l
 i:∀ x∈l,1≤x∧x<(n:Int)
theorem In.nil(n:Nat):In n []:=⟨List.Pairwise.nil,by simp⟩
theorem In.mono{n m:Nat}{l:List Int}(h:In n l)(hm:n≤m):In m l:=⟨h.s,fun x hx=>by have:=h.i x hx;omega⟩
theorem In.uni{n:Nat}{a b:List Int}(ha:In n a)(hb:In n b):In n (jy a b):=⟨EM ha.s,fun x hx=>by
 rcases lF.1 hx with h | h
 ·exact ha.i x h
 ·exact hb.i x h⟩
structure ig(s:NS):Prop where
 one:1≤s.cl.length
 nx:s.nx.length=s.cl.length
 ru:s.ru.length=s.cl.length
 zero:s.cl.head?=some Kl.zero
 up:∀ l∈s.nx,In s.cl.length l
 rule:∀ r∈s.ru,-1≤r∧r<16
structure EN(n:Nat)(p:Pl):Prop where
 f:In n p.f
 l:In n p.l
theorem ig.push{s:NS}(h:ig s)(c:Kl):ig (s.push c):=by
 refine⟨by simp[NS.push],by simp[NS.push,h.nx],by simp[NS.push,h.ru],?_,fun l hl=>?_,fun r hr=>?_⟩
 ·have:=h.zero
  cases e:s.cl with
  | nil=>rw[e] at this;cases this
  | cons a t=>rw[e] at this;simpa[NS.push,e] using this
 ·have e:(s.push c).cl.length=s.cl.length+1:=by simp[NS.push]
  rw[e];rcases List.mem_append.1 hl with hl | hl
  ·exact(h.up l hl).mono (Nat.le_succ _)
  ·rw[List.mem_singleton.1 hl];exact In.nil _
 ·rcases List.mem_append.1 hr with hr | hr
  ·exact h.rule r hr
  ·rw[List.mem_singleton.1 hr];omega
theorem lH(nx:List (List Int))(L F:List Int):(lG nx L F).length=nx.length:=by simp[lG]
theorem ig.join{s:NS}(h:ig s)(L:List Int){F:List Int}(hF:In s.cl.length F):ig (s.join L F):=by
 refine⟨h.one,(lH _ _ _).trans h.nx,h.ru,h.zero,fun l hl=>?_,h.rule⟩;obtain⟨j,hj,rfl⟩:=List.mem_map.1 hl;have hj:j<s.nx.length:=List.mem_range.1 hj;have hm:s.nx.getD j []∈s.nx:=by
  rw[List.getD_eq_getElem?_getD,List.getElem?_eq_getElem hj,Option.getD_some];exact List.getElem_mem hj
 show In s.cl.length _
 split
 ·exact(h.up _ hm).uni hF
 ·exact h.up _ hm
theorem EN.mono{n m:Nat}{p:Pl}(h:EN n p)(hm:n≤m):EN m p:=⟨h.f.mono hm,h.l.mono hm⟩
theorem EN.beh{n:Nat}{p q:Pl}(hp:EN n p)(hq:EN n q):EN n (YE p q):=⟨by
 show In n (if p.e then jy p.f q.f else p.f)
 split
 ·exact hp.f.uni hq.f
 ·exact hp.f,by
 show In n (if q.e then jy p.l q.l else q.l)
 split
 ·exact hp.l.uni hq.l
 ·exact hq.l⟩
def szN(r:List Nd)(i:Int):Nat:=(jw r i).length
def szK(r:List Nd)(ks:List Int):Nat:=(ks.map (szN r)).sum
theorem U5{r:List Nd}(ok:eP r){i:Nat}(hi:i<r.length):szN r (i:Int)=1+szK r (r.getD i default).kids:=by
 have hx:r[i]?=some (r.getD i default):=by rw[List.getD_eq_getElem?_getD,List.getElem?_eq_getElem hi,Option.getD_some]
 unfold szN szK;rw[pre_eq hx (ok.nd i _ hx).kids,List.length_cons,List.length_flatMap];rw[Nat.add_comm];rfl
structure NdP(s:NS)(y:NS×Pl)(m:Nat):Prop where
 ok:ig y.1
 pl:EN y.1.cl.length y.2
 up:s.cl.length≤y.1.cl.length
 most:y.1.cl.length≤s.cl.length+m
 ru:∃ t,y.1.ru=s.ru++t
theorem NdP.cat{r:List Nd}{n:Int→NS→NS×Pl}{s0:NS} : ∀(ks:List Int)(t:NS×Pl)(m:Nat),NdP s0 t m→(∀ k∈ks,∀ s,ig s→NdP s (n k s) (szN r k))→NdP s0 (ks.foldl (jV n) t) (m+szK r ks)
 | [],t,m,h,_=>by simpa[szK] using h
 | k::ks,t,m,h,hn=>by
  have h1:=hn k (List.mem_cons_self ..) t.1 h.ok;have h2:NdP s0 (jV n t k) (m+szN r k):=by
   obtain⟨a,ha⟩:=h.ru;obtain⟨b,hb⟩:=h1.ru;refine⟨h1.ok.join _ h1.pl.f,(h.pl.mono h1.up).beh h1.pl,Nat.le_trans h.up h1.up,?_,a++b,?_⟩
   ·have:=h.most;have:=h1.most
    show(n k t.1).1.cl.length≤_
    omega
   ·show(n k t.1).1.ru=_
    rw[hb,ha,List.append_assoc]
  have:=NdP.cat ks (jV n t k) _ h2 fun k' hk'=>hn k' (List.mem_cons_of_mem _ hk');rw[List.foldl_cons];have e:m+szK r (k::ks)=m+szN r k+szK r ks:=by simp[szK];omega
  rw[e];exact this
theorem NdP.alt{r:List Nd}{n:Int→NS→NS×Pl}{s0:NS} : ∀(ks:List Int)(t:NS×Pl)(m:Nat),NdP s0 t m→(∀ k∈ks,∀ s,ig s→NdP s (n k s) (szN r k))→NdP s0 (ks.foldl (iE n) t) (m+szK r ks)
 | [],t,m,h,_=>by simpa[szK] using h
 | k::ks,t,m,h,hn=>by
  have h1:=hn k (List.mem_cons_self ..) t.1 h.ok;have h2:NdP s0 (iE n t k) (m+szN r k):=by
   obtain⟨a,ha⟩:=h.ru;obtain⟨b,hb⟩:=h1.ru;refine⟨h1.ok,⟨(h.pl.mono h1.up).f.uni h1.pl.f,(h.pl.mono h1.up).l.uni h1.pl.l⟩,Nat.le_trans h.up h1.up,?_,a++b,?_⟩
   ·have:=h.most;have:=h1.most
    show(n k t.1).1.cl.length≤_
    omega
   ·show(n k t.1).1.ru=_
    rw[hb,ha,List.append_assoc]
  have:=NdP.alt ks (iE n t k) _ h2 fun k' hk'=>hn k' (List.mem_cons_of_mem _ hk');rw[List.foldl_cons];have e:m+szK r (k::ks)=m+szN r k+szK r ks:=by simp[szK];omega
  rw[e];exact this
theorem rM{r:List Nd}(ok:eP r):∀ (f i:Nat),i<f→i<r.length→∀ s,ig s→NdP s (aU r f (i:Int) s) (szN r (i:Int))
 | 0,_,h,_,_,_=>absurd h (Nat.not_lt_zero _)
 | f+1,i,hf,hi,s,hs=>by
  have hx:r[i]?=some (r.getD i default):=by rw[List.getD_eq_getElem?_getD,List.getElem?_eq_getElem hi,Option.getD_some]
  have nd:=ok.nd i _ hx;have hsz:=U5 ok hi;have lI:∀ k∈(r.getD i default).kids,∀ s,ig s→NdP s (aU r f k s) (szN r k):=fun k hk s hs=>by
   have:=nd.kids k hk;obtain⟨j,rfl⟩:∃ j:Nat,k=(j:Int):=⟨k.toNat,by omega⟩;exact rM ok f j (by omega) (by omega) s hs
  rw[hsz];unfold aU;rw[Int.toNat_natCast];generalize r.getD i default=x at *;have hlow:=nd.low;simp only;split
  ·exact⟨hs,⟨In.nil _,In.nil _⟩,Nat.le_refl _,Nat.le_add_right _ _,[],by simp⟩
  split
  ·have h1:In (s.push (klN x)).cl.length [(s.cl.length:Int)]:=⟨List.pairwise_singleton _ _,fun y hy=>by
    have:=hs.one;rw[List.mem_singleton.1 hy];simp[NS.push];omega⟩
   exact⟨hs.push _,⟨h1,h1⟩,by simp[NS.push],by simp[NS.push],[-1],rfl⟩
  split
  ·rename_i h3
   have h2:0<x.kids.length:=by
    rw[h3] at hlow;simp[Rx.nV] at hlow;omega
   cases e:x.kids with
   | nil=>rw[e] at h2;simp at h2
   | cons k ks =>
    rw[e] at lI;have h0:=lI k (List.mem_cons_self ..) s hs;have:=NdP.cat ks _ _ h0 fun k' hk'=>lI k' (List.mem_cons_of_mem _ hk')
    show NdP s (List.foldl (jV (aU r f)) (aU r f k s) ks) _
    refine⟨this.ok,this.pl,this.up,?_,this.ru⟩;have h5:=this.most;simp only[szK,List.map_cons,List.sum_cons] at h5 ⊢;omega
  split
  ·have h0:NdP s (s,⟨false,[],[]⟩) 0:=⟨hs,⟨In.nil _,In.nil _⟩,Nat.le_refl _,Nat.le_refl _,[],by simp⟩
   have:=NdP.alt x.kids _ _ h0 lI;exact⟨this.ok,this.pl,this.up,by have:=this.most;omega,this.ru⟩
  ·rename_i n1 n2 n3 n4
   have hk:=nd.k;have h2:0<x.kids.length:=by
    have:x.k=5∨x.k=6∨x.k=7:=(by omega);simp[Rx.nV,n1,n2,n3,n4,this] at hlow;omega
   cases e:x.kids with
   | nil=>rw[e] at h2;simp at h2
   | cons k ks =>
    rw[e] at lI;have h0:=lI k (List.mem_cons_self ..) s hs;have hm:=h0.most;have hj:∀ y:NS,y=(if x.k=7 then (aU r f k s).1 else (aU r f k s).1.join (aU r f k s).2.l (aU r f k s).2.f)→ig y∧y.cl=(aU r f k s).1.cl∧y.ru=(aU r f k s).1.ru:=by
     intro y hy;rw[hy];split
     ·exact⟨h0.ok,rfl,rfl⟩
     ·exact⟨h0.ok.join _ h0.pl.f,rfl,rfl⟩
    obtain⟨j1,j2,j3⟩:=hj _ rfl
    show NdP s (if x.k=7 then (aU r f k s).1 else (aU r f k s).1.join (aU r f k s).2.l (aU r f k s).2.f,⟨(aU r f k s).2.e || !decide (x.k=6),(aU r f k s).2.f,(aU r f k s).2.l⟩) _
    refine⟨j1,?_,?_,?_,?_⟩
    ·rw[j2];exact⟨h0.pl.f,h0.pl.l⟩
    ·rw[j2];exact h0.up
    ·rw[j2]
     simp only[szK,List.map_cons,List.sum_cons];omega
    ·rw[j3];exact h0.ru
end
section
def zJ(s:Int)(ts:List Int):Int:=ts.foldl (fun a t=>if t=a then a+1 else a) s
theorem vU(s t:Int)(ts:List Int):zJ s (t::ts)=zJ (if t=s then s+1 else s) ts:=rfl
theorem Eo:∀(ts:List Int)(s:Int),s≤zJ s ts
 | [],s=>Int.le_refl s
 | t::ts,s=>by
  rw[vU];split
  ·have:=Eo ts (s+1);omega
  ·exact Eo ts s
def Ql(s:Int)(ts:List Int):Prop:=∀ j (h:j<ts.length),ts[j]≤zJ s (ts.take j)
structure Lay(fO:List Nat)(cls:Nat→Nat):Prop where
 lt:∀ x,x<256→cls x<fO.length
 le:∀ x (h:x<256),fO[cls x]'(lt x h)≤x
 low:∀ j (h:j<fO.length),fO[j] < 256∧cls fO[j]=j
 inc:∀ i j (hi:i<fO.length) (hj:j<fO.length),i<j→fO[i] < fO[j]
structure acT(fO:List Nat)(cls:Nat→Nat)(m:Nat)(ts:Nat→List Int)(s:Nat→Int)(next:List Int):Prop where
 s0:s 0=1
 len:∀ k,k<m→(ts k).length=fO.length
 good:∀ k,k<m→Ql (s k) (ts k)
 nxt:∀ k,k<m→s (k+1)=zJ (s k) (ts k)
 lt:∀ k:Nat,k<m→(k:Int)<s k
 fin:s m=(m:Int)
 row:∀ k,k<m→∀ x,x<256→next.getD (256*k+x) 0=(ts k).getD (cls x) 0
abbrev Sets:=List (List Int)
def lU(most:Nat)(T:Sets)(S:List Int):Option (Int×Sets) :=
 if S = [] then some (-1,T)
 else if T.findIdx (fun U=>U == S)<T.length then some ((T.findIdx (fun U=>U == S):Int),T)
 else if T.length=most then none
 else some ((T.length:Int),T++[S])
def rowB(most:Nat)(f:Nat→List Int):List Nat→Sets→Option (List Int×Sets)
 | [],T=>some ([],T)
 | b::bs,T=>match lU most T (f b) with
  | none=>none
  | some (t,T1)=>match rowB most f bs T1 with
   | none=>none
   | some (ts,T2)=>some (t::ts,T2)
def kY(most:Nat)(f:List Int→Nat→List Int)(fO:List Nat):Nat→Nat→Sets→Option (List (List Int)×Sets)
 | 0,_,T=>some ([],T)
 | n+1,i,T=>if i<T.length then
   match rowB most (f (T.getD i [])) fO T with
   | none=>none
   | some (ts,T1)=>match kY most f fO n (i+1) T1 with
    | none=>none
    | some (tss,T2)=>some (ts::tss,T2)
  else some ([],T)
theorem KA{most:Nat}{T T1:Sets}{S:List Int}{t:Int}(h:lU most T S=some (t,T1))(hm:T.length≤most):t≤(T.length:Int)∧(T1.length:Int)=(if t=(T.length:Int) then (T.length:Int)+1 else T.length)∧T1.length≤most ∧ -1≤t∧t<T1.length∧∃ R,T1=T++R:=by
 unfold lU at h;split at h
 ·obtain⟨rfl,rfl⟩:(-1:Int)=t∧T=T1:=by simpa using h
  refine⟨by omega,?_,hm,by omega,by omega,[],by simp⟩;rw[if_neg (by omega)]
 split at h
 ·rename_i hlt
  obtain⟨rfl,rfl⟩:((T.findIdx (fun U=>U == S):Nat):Int)=t∧T=T1:=by simpa using h
  refine⟨by omega,?_,hm,by omega,by omega,[],by simp⟩;rw[if_neg (by omega)]
 split at h
 ·cases h
 ·rename_i hne
  obtain⟨rfl,rfl⟩:(T.length:Int)=t∧T++[S]=T1:=by simpa using h
  refine⟨by omega,?_,by simp;omega,by omega,by simp;omega,[S],rfl⟩;rw[if_pos rfl];simp
theorem Em{most:Nat}{f:Nat→List Int} : ∀ {bs:List Nat} {T T2:Sets} {ts:List Int},rowB most f bs T=some (ts,T2)→T.length≤most →
  ts.length=bs.length∧Ql (T.length:Int) ts∧(T2.length:Int)=zJ (T.length:Int) ts∧T2.length≤most∧(∀ t∈ts,-1≤t∧t<(T2.length:Int))∧∃ R,T2=T++R
 | [],T,T2,ts,h,hm=>by
  obtain⟨rfl,rfl⟩ : []=ts∧T=T2:=by simpa[rowB] using h
  exact⟨rfl,fun j hj=>by simp at hj,rfl,hm,fun t ht=>by simp at ht,[],by simp⟩
 | b::bs,T,T2,ts,h,hm=>by
  unfold rowB at h
  cases h1:lU most T (f b) with
  | none=>rw[h1] at h;cases h
  | some p =>
   obtain⟨t,T1⟩:=p;rw[h1] at h;dsimp only at h
   cases h2:rowB most f bs T1 with
   | none=>rw[h2] at h;cases h
   | some p =>
    obtain⟨ts',T2'⟩:=p;rw[h2] at h;dsimp only at h;obtain⟨rfl,rfl⟩:t::ts'=ts∧T2'=T2:=by simpa using h
    obtain⟨a1,a2,a3,a4,a5,R1,a6⟩:=KA h1 hm;obtain⟨b1,b2,b3,b4,b5,R2,b6⟩:=Em h2 a3;have hge:=Eo ts' (T1.length:Int);refine⟨by simp[b1],fun j hj=>?_,?_,b4,fun u hu=>?_,R1++R2,by rw[b6,a6,List.append_assoc]⟩
    ·cases j with
     | zero=>exact a1
     | succ j =>
      have:=b2 j (by simpa using hj);rw[List.take_succ_cons,vU,←a2];exact this
    ·rw[vU,←a2]
     exact b3
    ·rcases List.mem_cons.1 hu with rfl | hu
     ·exact⟨a4,by omega⟩
     ·exact b5 u hu
def sOf(s:Int)(tss:List (List Int)):Nat→Int
 | 0=>s
 | k+1=>zJ (sOf s tss k) (tss.getD k [])
theorem zK(s:Int)(ts:List Int)(tss:List (List Int)):∀ k,sOf s (ts::tss) (k+1)=sOf (zJ s ts) tss k
 | 0=>rfl
 | k+1=>by
  show zJ (sOf s (ts::tss) (k+1)) (tss.getD k [])=zJ (sOf (zJ s ts) tss k) (tss.getD k [])
  rw[zK s ts tss k]
theorem DT{most:Nat}{f:List Int→Nat→List Int}{fO:List Nat} : ∀ {n i:Nat} {T T2:Sets} {tss:List (List Int)},kY most f fO n i T=some (tss,T2)→T.length≤most→i≤T.length→most<n+i →
  i+tss.length=T2.length∧T2.length≤most∧sOf T.length tss tss.length=(T2.length:Int)∧(∃ R,T2=T++R)∧∀ k,k<tss.length→(tss.getD k []).length=fO.length∧Ql (sOf T.length tss k) (tss.getD k [])∧((i+k:Nat):Int)<sOf T.length tss k∧∀ t∈tss.getD k [],-1≤t∧t<(T2.length:Int)
 | 0,i,T,T2,tss,h,hm,hi,hn=>by omega
 | n+1,i,T,T2,tss,h,hm,hi,hn=>by
  unfold kY at h;split at h
  ·rename_i hlt
   cases h1:rowB most (f (T.getD i [])) fO T with
   | none=>rw[h1] at h;cases h
   | some p =>
    obtain⟨ts,T1⟩:=p;rw[h1] at h;dsimp only at h
    cases h2:kY most f fO n (i+1) T1 with
    | none=>rw[h2] at h;cases h
    | some p =>
     obtain⟨acU,T2'⟩:=p;rw[h2] at h;dsimp only at h;obtain⟨rfl,rfl⟩:ts::acU=tss∧T2'=T2:=by simpa using h
     obtain⟨a1,a2,a3,a4,a5,R1,a6⟩:=Em h1 hm;have hle:T.length≤T1.length:=(by rw[a6,List.length_append];omega);obtain⟨b1,b2,b3,⟨R2,b4⟩,b5⟩:=DT h2 a4 (by omega) (by omega);have hle2:T1.length≤T2'.length:=(by rw[b4,List.length_append];omega);refine⟨by simp;omega,b2,?_,⟨R1++R2,by rw[b4,a6,List.append_assoc]⟩,fun k hk=>?_⟩
     ·rw[List.length_cons,zK,←a3]
      exact b3
     ·cases k with
      | zero =>
       refine⟨a1,a2,(by show ((i+0:Nat):Int)<(T.length:Int);omega),fun t ht=>?_⟩;have:=a5 t ht;exact⟨this.1,by omega⟩
      | succ k =>
       have:=b5 k (by simpa using hk);rw[zK,←a3];refine⟨this.1,this.2.1,?_,this.2.2.2⟩;have h3:=this.2.2.1;rw[show i+(k+1)=i+1+k by omega];exact h3
  ·rename_i hlt
   obtain⟨rfl,rfl⟩ : []=tss∧T=T2:=by simpa using h
   exact⟨by simp;omega,hm,rfl,⟨[],by simp⟩,fun k hk=>by simp at hk⟩
def dI(cls:Nat→Nat)(tss:List (List Int)):List Int:=tss.flatMap fun ts=>(List.range 256).map fun x=>ts.getD (cls x) 0
theorem vF(cls:Nat→Nat):∀ (tss:List (List Int)) (k x:Nat),k<tss.length→x<256→(dI cls tss).getD (256*k+x) 0=(tss.getD k []).getD (cls x) 0
 | [],_,_,h,_=>by simp at h
 | ts::tss,0,x,_,hx=>by
  unfold dI;rw[List.flatMap_cons,List.getD_eq_getElem?_getD,List.getElem?_append_left (by simp;omega)];simp[hx]
 | ts::tss,k+1,x,h,hx=>by
  have ih:=vF cls tss k x (by simpa using h) hx;unfold dI at ih ⊢;rw[List.flatMap_cons,List.getD_eq_getElem?_getD,List.getElem?_append_right (by simp;omega),←List.getD_eq_getElem?_getD];rw[show 256*(k+1)+x-((List.range 256).map fun x=>ts.getD (cls x) 0).length=256*k+x by simp;omega];exact ih
theorem qO(cls:Nat→Nat):∀ tss:List (List Int),(dI cls tss).length=256*tss.length
 | []=>rfl
 | ts::tss=>by
  have ih:=qO cls tss;unfold dI at ih ⊢;rw[List.flatMap_cons,List.length_append,ih];simp;omega
theorem Zh{most:Nat}{f:List Int→Nat→List Int}{fO:List Nat}(cls:Nat→Nat){S0:List Int}{tss:List (List Int)}{T:Sets}(h:kY most f fO (most+1) 0 [S0]=some (tss,T))(hm:1≤most) :
  acT fO cls T.length (fun k=>tss.getD k []) (sOf 1 tss) (dI cls tss)∧tss.length=T.length:=by
 obtain⟨h1,h2,h3,_,h5⟩:=DT h (by simpa using hm) (by simp) (by omega);rw[Nat.zero_add] at h1;simp only[List.length_cons,List.length_nil,Nat.zero_add] at h3 h5;refine⟨⟨rfl,fun k hk=>(h5 k (by omega)).1,fun k hk=>(h5 k (by omega)).2.1,fun k hk=>rfl,fun k hk=>by have:=(h5 k (by omega)).2.2.1;simpa using this,?_,fun k hk x hx=>vF cls tss k x (by omega) hx⟩,h1⟩;rw[←h1];exact h3.trans (by rw[h1])
end
end Go.Proofs.YtkjgogdkdejljaaGreatDoor.Df
