import Derived.Test.YtkjgogdkdejljaaGreatDoorY
import Derived.RangeFuncNested
import Derived.Lib.TrailingZeros
namespace Go.Proofs.YtkjgogdkdejljaaGreatDoor.Df
def Ad(s:Int)(ts:List Int):Int:=ts.foldl (fun a t=>if t=a then a+1 else a) s
theorem wF(s t:Int)(ts:List Int):Ad s (t::ts)=Ad (if t=s then s+1 else s) ts:=rfl
theorem EX:∀(ts:List Int)(s:Int),s<=Ad s ts
 | [],s=>ah0 s
 | t::ts,s=>by
  rw[wF];split
  ·have:=EX ts (s+1);omega
  ·exact EX ts s
def SC(s:Int)(ts:List Int):Prop:=∀j (h:j<ts.length),ts[j]<=Ad s (ts.take j)
structure Lay(fD:List Nat)(cls:Nat->Nat):Prop where
 lt:∀x,x<256->cls x<fD.length
 le:∀x (h:x<256),fD[cls x]'(lt x h)<=x
 low:∀j (h:j<fD.length),fD[j] < 256/\cls fD[j]=j
 inc:∀i j (hi:i<fD.length) (hj:j<fD.length),i<j->fD[i] < fD[j]
structure ad9(fD:List Nat)(cls:Nat->Nat)(m:Nat)(ts:Nat->List Int)(s:Nat->Int)(next:List Int):Prop where
 s0:s 0=1
 len:∀k,k<m->(ts k).length=fD.length
 good:∀k,k<m->SC (s k) (ts k)
 nxt:∀k,k<m->s (k+1)=Ad (s k) (ts k)
 lt:∀k:Nat,k<m->(k:Int)<s k
 fin:s m=(m:Int)
 row:∀k,k<m->∀x,x<256->next.getD (256*k+x) 0=(ts k).getD (cls x) 0
abbrev Sets:=List (List Int)
def mF(most:Nat)(T:Sets)(S:List Int):Option (Int×Sets):=
 if S=[]then some (-1,T)
 else if T.findIdx (fun U=>U == S)<T.length then some ((T.findIdx (fun U=>U == S):Int),T)
 else if T.length=most then none
 else some ((T.length:Int),T++[S])
def rowB(most:Nat)(f:Nat->List Int):List Nat->Sets->Option (List Int×Sets)
 | [],T=>some ([],T)
 | b::bs,T=>match mF most T (f b)with
  | none=>none
  | some (t,T1)=>match rowB most f bs T1 with
   | none=>none
   | some (ts,T2)=>some (t::ts,T2)
def lD(most:Nat)(f:List Int->Nat->List Int)(fD:List Nat):Nat->Nat->Sets->Option (List (List Int)×Sets)
 | 0,_,T=>some ([],T)
 | n+1,i,T=>if i<T.length then
   match rowB most (f (T.getD i [])) fD T with
   | none=>none
   | some (ts,T1)=>match lD most f fD n (i+1) T1 with
    | none=>none
    | some (tss,T2)=>some (ts::tss,T2)
  else some ([],T)
theorem LU{most:Nat}{T T1:Sets}{S:List Int}{t:Int}(h:mF most T S=some (t,T1))(hm:T.length<=most):t<=(T.length:Int)/\(T1.length:Int)=(if t=(T.length:Int)then (T.length:Int)+1 else T.length)/\T1.length<=most /\ -1<=t/\t<T1.length/\∃R,T1=T++R:=by
 unfold mF at h;split at h
 ·obtain⟨rfl,rfl⟩:(-1:Int)=t/\T=T1:=by simpa using h
  refine⟨by omega,?_,hm,by omega,by omega,[],by simp⟩;rw[afO (by omega)]
 split at h
 ·rename_i hlt
  obtain⟨rfl,rfl⟩:((T.findIdx (fun U=>U == S):Nat):Int)=t/\T=T1:=by simpa using h
  refine⟨by omega,?_,hm,by omega,by omega,[],by simp⟩;rw[afO (by omega)]
 split at h
 ·cases h
 ·rename_i hne
  obtain⟨rfl,rfl⟩:(T.length:Int)=t/\T++[S]=T1:=by simpa using h
  refine⟨by omega,?_,by simp;omega,by omega,by simp;omega,[S],rfl⟩;rw[afR rfl];simp
theorem EW{most:Nat}{f:Nat->List Int}: ∀{bs:List Nat} {T T2:Sets} {ts:List Int},rowB most f bs T=some (ts,T2)->T.length<=most ->
  ts.length=bs.length/\SC (T.length:Int) ts/\(T2.length:Int)=Ad (T.length:Int) ts/\T2.length<=most/\(∀t∈ts,-1<=t/\t<(T2.length:Int))/\∃R,T2=T++R
 | [],T,T2,ts,h,hm=>by
  obtain⟨rfl,rfl⟩: []=ts/\T=T2:=by simpa[rowB]using h
  exact⟨rfl,fun j hj=>by simp at hj,rfl,hm,fun t ht=>by simp at ht,[],by simp⟩
 | b::bs,T,T2,ts,h,hm=>by
  unfold rowB at h
  cases h1:mF most T (f b)with
  | none=>rw[h1]at h;cases h
  | some p =>
   obtain⟨t,T1⟩:=p;rw[h1]at h;dsimp only at h
   cases h2:rowB most f bs T1 with
   | none=>rw[h2]at h;cases h
   | some p =>
    obtain⟨ts',T2'⟩:=p;rw[h2]at h;dsimp only at h;obtain⟨rfl,rfl⟩:t::ts'=ts/\T2'=T2:=by simpa using h
    obtain⟨a1,a2,a3,a4,a5,R1,a6⟩:=LU h1 hm;obtain⟨b1,b2,b3,b4,b5,R2,b6⟩:=EW h2 a3;have hge:=EX ts' (T1.length:Int);refine⟨by simp[b1],fun j hj=>?_,?_,b4,fun u hu=>?_,R1++R2,by rw[b6,a6,agi]⟩
    ·cases j with
     | zero=>exact a1
     | succ j =>
      have:=b2 j (by simpa using hj);rw[List.take_succ_cons,wF,<-a2];exact this
    ·rw[wF,<-a2]
     exact b3
    ·rcases afX.1 hu with rfl|hu
     ·exact⟨a4,by omega⟩
     ·exact b5 u hu
def sOf(s:Int)(tss:List (List Int)):Nat->Int
 | 0=>s
 | k+1=>Ad (sOf s tss k) (tss.getD k [])
theorem Ae(s:Int)(ts:List Int)(tss:List (List Int)):∀k,sOf s (ts::tss) (k+1)=sOf (Ad s ts) tss k
 | 0=>rfl
 | k+1=>by
  show Ad (sOf s (ts::tss) (k+1)) (tss.getD k [])=Ad (sOf (Ad s ts) tss k) (tss.getD k [])
  rw[Ae s ts tss k]
theorem xP{most:Nat}{f:List Int->Nat->List Int}{fD:List Nat}: ∀{n i:Nat} {T T2:Sets} {tss:List (List Int)},lD most f fD n i T=some (tss,T2)->T.length<=most->i<=T.length->most<n+i ->
  i+tss.length=T2.length/\T2.length<=most/\sOf T.length tss tss.length=(T2.length:Int)/\(∃R,T2=T++R)/\∀k,k<tss.length->(tss.getD k []).length=fD.length/\SC (sOf T.length tss k) (tss.getD k [])/\((i+k:Nat):Int)<sOf T.length tss k/\∀t∈tss.getD k [],-1<=t/\t<(T2.length:Int)
 | 0,i,T,T2,tss,h,hm,hi,hn=>by omega
 | n+1,i,T,T2,tss,h,hm,hi,hn=>by
  unfold lD at h;split at h
  ·rename_i hlt
   cases h1:rowB most (f (T.getD i [])) fD T with
   | none=>rw[h1]at h;cases h
   | some p =>
    obtain⟨ts,T1⟩:=p;rw[h1]at h;dsimp only at h
    cases h2:lD most f fD n (i+1) T1 with
    | none=>rw[h2]at h;cases h
    | some p =>
     obtain⟨aea,T2'⟩:=p;rw[h2]at h;dsimp only at h;obtain⟨rfl,rfl⟩:ts::aea=tss/\T2'=T2:=by simpa using h
     obtain⟨a1,a2,a3,a4,a5,R1,a6⟩:=EW h1 hm;have hle:T.length<=T1.length:=(by rw[a6,afP];omega);obtain⟨b1,b2,b3,⟨R2,b4⟩,b5⟩:=xP h2 a4 (by omega) (by omega);have hle2:T1.length<=T2'.length:=(by rw[b4,afP];omega);refine⟨by simp;omega,b2,?_,⟨R1++R2,by rw[b4,a6,agi]⟩,fun k hk=>?_⟩
     ·rw[agl,Ae,<-a3]
      exact b3
     ·cases k with
      | zero =>
       refine⟨a1,a2,(by show ((i+0:Nat):Int)<(T.length:Int);omega),fun t ht=>?_⟩;have:=a5 t ht;exact⟨this.1,by omega⟩
      | succ k =>
       have:=b5 k (by simpa using hk);rw[Ae,<-a3];refine⟨this.1,this.2.1,?_,this.2.2.2⟩;have h3:=this.2.2.1;rw[show i+(k+1)=i+1+k by omega];exact h3
  ·rename_i hlt
   obtain⟨rfl,rfl⟩: []=tss/\T=T2:=by simpa using h
   exact⟨by simp;omega,hm,rfl,⟨[],by simp⟩,fun k hk=>by simp at hk⟩
def dB(cls:Nat->Nat)(tss:List (List Int)):List Int:=tss.flatMap fun ts=>(List.range 256).map fun x=>ts.getD (cls x) 0
theorem vJ(cls:Nat->Nat):∀(tss:List (List Int)) (k x:Nat),k<tss.length->x<256->(dB cls tss).getD (256*k+x) 0=(tss.getD k []).getD (cls x) 0
 | [],_,_,h,_=>by simp at h
 | ts::tss,0,x,_,hx=>by
  unfold dB;rw[agG,afG,af6 (by simp;omega)];simp[hx]
 | ts::tss,k+1,x,h,hx=>by
  have ih:=vJ cls tss k x (by simpa using h) hx;unfold dB at ih⊢;rw[agG,afG,aga (by simp;omega),<-afG];rw[show 256*(k+1)+x-((List.range 256).map fun x=>ts.getD (cls x) 0).length=256*k+x by simp;omega];exact ih
theorem qV(cls:Nat->Nat):∀tss:List (List Int),(dB cls tss).length=256*tss.length
 | []=>rfl
 | ts::tss=>by
  have ih:=qV cls tss;unfold dB at ih⊢;rw[agG,afP,ih];simp;omega
theorem aaK{most:Nat}{f:List Int->Nat->List Int}{fD:List Nat}(cls:Nat->Nat){S0:List Int}{tss:List (List Int)}{T:Sets}(h:lD most f fD (most+1) 0 [S0]=some (tss,T))(hm:1<=most):
  ad9 fD cls T.length (fun k=>tss.getD k []) (sOf 1 tss) (dB cls tss)/\tss.length=T.length:=by
 obtain⟨h1,h2,h3,_,h5⟩:=xP h (by simpa using hm) (by simp) (by omega);rw[af9]at h1;simp only[agl,ahJ,af9]at h3 h5;refine⟨⟨rfl,fun k hk=>(h5 k (by omega)).1,fun k hk=>(h5 k (by omega)).2.1,fun k hk=>rfl,fun k hk=>by have:=(h5 k (by omega)).2.2.1;simpa using this,?_,fun k hk x hx=>vJ cls tss k x (by omega) hx⟩,h1⟩;rw[<-h1];exact h3.trans (by rw[h1])
def tN(n:Nat)(nx:List (List Int))(has:Nat->Nat->Bool)(S:List Int)(b:Nat):List Int:=
 ((List.range n).filter fun t:Nat=>S.any (fun k=>(nx.getD k.toNat []).contains (t:Int)) && has t b).map fun t:Nat=>(t:Int)
def ji(ru:List Int)(out k:Int):Int:=if 0<=k/\k<(ru.length:Int)then (if 0<=ru.getD k.toNat (-1)/\(out<0\/ru.getD k.toNat (-1)<out)then ru.getD k.toNat (-1)else out)else out
def lX(ru:List Int)(S:List Int):Int:=S.foldl (ji ru) (-1)
def fF(ru:List Int)(T:Sets):List Int:=T.map (lX ru)
theorem Jw(ru:List Int)(hr:∀r∈ru,-1<=r/\r<16)(S:List Int): -1<=lX ru S/\lX ru S<16:=by
 have:∀(S:List Int)(o:Int),-1<=o/\o<16 -> -1<=S.foldl (ji ru) o/\S.foldl (ji ru) o<16:=by
  intro S
  induction S with
  | nil=>intro o h;exact h
  | cons k S ih =>
   intro o h;refine ih _ ?_;unfold ji;split
   ·rename_i hk
    split
    ·have hm:ru.getD k.toNat (-1)∈ru:=by
      rw[afG,afE (by omega)];exact agu _
     exact hr _ hm
    ·exact h
   ·exact h
 exact this S (-1) (by omega)
def lg(ks:List Int)(t:Int):List Int:=if t∈ks then ks else ks++[t]
def rC(has:Int->Bool)(ks l:List Int):List Int:=l.foldl (fun ks t=>if has t then lg ks t else ks) ks
def oW(nx:List (List Int))(has:Int->Bool)(S ks:List Int):List Int:=S.foldl (fun ks q=>rC has ks (nx.getD q.toNat [])) ks
theorem SE{ks:List Int}{t x:Int}: x∈lg ks t↔x∈ks\/x=t:=by
 unfold lg;split
 ·rename_i h
  exact⟨.inl,fun h2=>h2.elim id fun e=>e▸ h⟩
 ·simp
theorem J6{ks:List Int}{t:Int}(h:ks.Nodup):(lg ks t).Nodup:=by
 unfold lg;split
 ·exact h
 ·rename_i hn
  refine ahD.2 ⟨h,by simp,?_⟩;intro a ha b hb;rw[afK.1 hb];intro e;exact hn (e▸ ha)
theorem Ia{has:Int->Bool}: ∀{l ks:List Int} {x:Int},x∈rC has ks l↔x∈ks\/(x∈l/\has x=true)
 | [],ks,x=>by simp[rC]
 | t::l,ks,x=>by
  show x∈rC has (if has t then lg ks t else ks) l↔_
  rw[Ia]
  by_cases ht:has t=true
  ·rw[afR ht,SE,afX]
   constructor
   ·rintro ((h|rfl)|⟨h1,h2⟩)
    ·exact .inl h
    ·exact .inr ⟨.inl rfl,ht⟩
    ·exact .inr ⟨.inr h1,h2⟩
   ·rintro (h|⟨rfl|h1,h2⟩)
    ·exact .inl (.inl h)
    ·exact .inl (.inr rfl)
    ·exact .inr ⟨h1,h2⟩
  ·rw[afO ht,afX]
   constructor
   ·rintro (h|⟨h1,h2⟩)
    ·exact .inl h
    ·exact .inr ⟨.inr h1,h2⟩
   ·rintro (h|⟨rfl|h1,h2⟩)
    ·exact .inl h
    ·exact absurd h2 ht
    ·exact .inr ⟨h1,h2⟩
theorem Ag{has:Int->Bool}: ∀{l ks:List Int},ks.Nodup->(rC has ks l).Nodup
 | [],ks,h=>h
 | t::l,ks,h=>by
  show(rC has (if has t then lg ks t else ks) l).Nodup
  refine Ag ?_;split
  ·exact J6 h
  ·exact h
theorem Dz{nx:List (List Int)}{has:Int->Bool}: ∀{S ks:List Int} {x:Int},x∈oW nx has S ks↔x∈ks\/((∃q∈S,x∈nx.getD q.toNat [])/\has x=true)
 | [],ks,x=>by simp[oW]
 | q::S,ks,x=>by
  show x∈oW nx has S (rC has ks (nx.getD q.toNat []))↔_
  rw[Dz,Ia]
  constructor
  ·rintro ((h|⟨h1,h2⟩)|⟨⟨p,hp,h1⟩,h2⟩)
   ·exact .inl h
   ·exact .inr ⟨⟨q,afS ..,h1⟩,h2⟩
   ·exact .inr ⟨⟨p,afV _ hp,h1⟩,h2⟩
  ·rintro (h|⟨⟨p,hp,h1⟩,h2⟩)
   ·exact .inl (.inl h)
   ·rcases afX.1 hp with rfl|hp
    ·exact .inl (.inr ⟨h1,h2⟩)
    ·exact .inr ⟨⟨p,hp,h1⟩,h2⟩
theorem wZ{nx:List (List Int)}{has:Int->Bool}: ∀{S ks:List Int},ks.Nodup->(oW nx has S ks).Nodup
 | [],ks,h=>h
 | q::S,ks,h=>wZ (S:=S) (Ag h)
theorem DC{n:Nat}{nx:List (List Int)}{h:Nat->Nat->Bool}{S:List Int}{b:Nat}{x:Int}: x∈tN n nx h S b↔∃m:Nat,x=(m:Int)/\m<n/\(∃q∈S,(m:Int)∈nx.getD q.toNat [])/\h m b=true:=by
 unfold tN;simp only[agv,aiu,agH,afU,ahO,List.contains_iff_mem]
 constructor
 ·rintro⟨m,⟨h1,h2,h3⟩,rfl⟩
  exact⟨m,rfl,h1,h2,h3⟩
 ·rintro⟨m,rfl,h1,h2,h3⟩
  exact⟨m,⟨h1,h2,h3⟩,rfl⟩
theorem tV(n:Nat)(nx:List (List Int))(h:Nat->Nat->Bool)(S:List Int)(b:Nat):(tN n nx h S b).Pairwise (· < ·):=by
 unfold tN;refine ahb.2 ((List.Pairwise.filter _ List.pairwise_lt_range).imp fun h=>?_);exact Int.ofNat_lt.2 h
theorem wu(n:Nat)(nx:List (List Int))(h:Nat->Nat->Bool)(S:List Int)(b:Nat):(tN n nx h S b).length<=n:=by
 unfold tN;rw[agf];exact agb (List.length_filter_le _ _) (by simp)
theorem zX{n:Nat}{nx:List (List Int)}{h:Nat->Nat->Bool}{S:List Int}{b:Nat}{x:Int}(hx:x∈tN n nx h S b):0<=x/\x<n:=by
 obtain⟨m,rfl,h1,_⟩:=DC.1 hx;omega
theorem JR{n:Nat}{nx:List (List Int)}{h:Nat->Nat->Bool}{S:List Int}{b:Nat}(hin:∀l∈nx,∀x∈l,0<=x/\x<(n:Int)):(oW nx (fun t=>h t.toNat b) S []).Perm (tN n nx h S b):=by
 refine (List.perm_ext_iff_of_nodup (wZ .nil) ((tV n nx h S b).imp fun h e=>by omega)).2 fun x=>?_;rw[Dz,DC];simp only[agx,false_or]
 constructor
 ·rintro⟨⟨q,hq,h1⟩,h2⟩
  have hb:0<=x/\x<(n:Int):=by
   rw[afG]at h1
   cases hg:nx[q.toNat]? with
   | none=>rw[hg]at h1;simp at h1
   | some l=>rw[hg]at h1;exact hin l (af7 hg) x h1
  have e:((x.toNat:Nat):Int)=x:=by omega
  exact⟨x.toNat,e.symm,by omega,⟨q,hq,by rw[e];exact h1⟩,h2⟩
 ·rintro⟨m,rfl,h1,⟨q,hq,h2⟩,h3⟩
  exact⟨⟨q,hq,h2⟩,by rw[afY];exact h3⟩
theorem VD{l ss:List Int}(h:ss.Perm l)(hl:l.Pairwise (· < ·)):ss.mergeSort (fun x y=>decide (x<=y))=l:=by
 have tr:∀a b c:Int,decide (a<=b)=true->decide (b<=c)=true->decide (a<=c)=true:=fun a b c h1 h2=>by simp only[afZ]at *;omega
 have tzo:∀a b:Int,(decide (a<=b) || decide (b<=a))=true:=fun a b=>by simp only[ahp,afZ];omega
 refine List.Perm.eq_of_pairwise (le:=fun a b:Int=>decide (a<=b)=true) (fun a b _ _ h1 h2=>?_) (List.pairwise_mergeSort tr tzo ss) (hl.imp fun h=>by simp only[afZ];omega) ((aie ss _).trans h);simp only[afZ]at h1 h2;omega
end Go.Proofs.YtkjgogdkdejljaaGreatDoor.Df
namespace Go.Proofs.YtkjgogdkdejljaaGreatDoor.AX
open Go Go.RowKit
structure But(A:Nat)(X Y:World):Prop where
 low:Below 0 X Y
 same:∀k,k<X.heap.size->k≠A->Y.heap[k]?=X.heap[k]?
theorem But.refl(A:Nat)(X:World):But A X X:=⟨afI _ _,fun _ _ _=>rfl⟩
theorem But.trans{A:Nat}{X Y Z:World}(h:But A X Y)(k:But A Y Z):But A X Z:=⟨h.low.trans k.low,fun i hi hA=>(k.same i (afN hi h.low.size) hA).trans (h.same i hi hA)⟩
theorem But.of_below{A:Nat}{X Y:World}(h:Below X.heap.size X Y):But A X Y:=⟨h.mono (af0 _),fun k hk _=>h.block k hk⟩
theorem But.below{A n:Nat}{X Y:World}(h:But A X Y)(hn:n<=X.heap.size)(hA:n<=A):Below n X Y:=⟨h.low.os,h.low.tape,h.low.output,h.low.size,fun k hk=>h.same k (by omega) (by omega)⟩
structure Lets(A B:Nat)(X Y:World):Prop where
 low:Below 0 X Y
 same:∀k o,X.heap[k]?=some o->k≠A->(k<B\/o.isCells=true)->Y.heap[k]?=some o
theorem But.lets{A:Nat}{X Y:World}(h:But A X Y)(B:Nat):Lets A B X Y:=⟨h.low,fun k _ hk hA _=>(h.same k (afF.1 hk).1 hA).trans hk⟩
theorem Lets.alloc(A B:Nat)(X:World)(o:Obj):Lets A B X (X.alloc o):=(But.of_below ((afI _ X).alloc afD o)).lets B
theorem Lets.put{A B l:Nat}{X:World}{o:Obj}(o':Obj)(h:X.heap[l]?=some o)(hc:o.isCells=false)(hB:B<=l):Lets A B X (X.putObj l o'):=
  ⟨(afI 0 X).grown (grownBy_putObj' X l o') (af0 _) (fun k e=>af0 _),fun k u hk hA hu=>by
    have hne:k≠l:=fun e=>by subst e;rw[h]at hk;cases hk;rcases hu with hu|hu<;>first|omega|(rw[hc]at hu;cases hu)
    exact (World.putObj_heap_other hne).trans hk⟩
structure Keep(B:Nat->Prop)(H:Nat)(X Y:World):Prop where
 low:Below 0 X Y
 same:∀k o,X.heap[k]?=some o->(B k\/(H<=k/\o.isCells=true))->Y.heap[k]?=some o
theorem Keep.refl(B:Nat->Prop)(H:Nat)(X:World):Keep B H X X:=⟨afI _ _,fun _ _ h _=>h⟩
theorem Keep.trans{B:Nat->Prop}{H:Nat}{X Y Z:World}(h:Keep B H X Y)(k:Keep B H Y Z):Keep B H X Z:=⟨h.low.trans k.low,fun i o hi ho=>k.same i o (h.same i o hi ho) ho⟩
theorem Keep.put{B:Nat->Prop}{H l:Nat}{X:World}{o:Obj}(o':Obj)(h:X.heap[l]?=some o)(hc:o.isCells=false)(hB:¬B l):Keep B H X (X.putObj l o'):=
  ⟨(afI 0 X).grown (grownBy_putObj' X l o') (af0 _) (fun k e=>af0 _),fun k u hk hu=>by
    have hne:k≠l:=fun e=>by subst e;rw[h]at hk;cases hk;rcases hu with hu|hu<;>first|exact hB hu|(rw[hc]at hu;cases hu.2)
    exact (World.putObj_heap_other hne).trans hk⟩
theorem Keep.of_below{B:Nat->Prop}{H:Nat}{X Y:World}(h:Below X.heap.size X Y):Keep B H X Y:=⟨h.mono (af0 _),fun k _ hk _=>(h.block k (afF.1 hk).1).trans hk⟩
section
variable {F : Fence} {n : Nat} {P : Program}
theorem OA{l m:Nat}{r:Loop}{W:World}{args:Array Value}{R:Ending->World->Prop}(hl:W.heap[l]?=some (.loop r))(hs:r.state=.ready)(hz:args.size=r.params.size)(hf:F.fn r.fn)(C:Act->World->Prop)
  (ha:∀K:Act->World->Prop,(∀a' W',C a' W'->K a' W')->r.assign.wpIn (F.inRound l) m P (Exit.then K (fun _ _ _=>False)) {tmps:=(r.params.zip args).foldl (fun t (p,v)=>t.setIfInBounds p v) r.tmps,defers:=[]} W)
  (hC:∀a' W',C a' W'->W'.heap[l]?=some (.loop r)/\r.body.wpIn (F.inRound l) m P (roundPost P l R) a' (W'.putObj l (.loop {r with state:=.busy}))):YieldAt F m P l args W R:=
 ⟨_,_,_,_,run_yield hl hz,roundIn_of_wpIn hf (ha _ fun a' W' h=>⟨_,run_beginRound (hC a' W' h).1 hs,(hC a' W' h).2⟩)⟩
theorem Dx{α: Type}{g:Operand}{ps:Array Tmp}{assign body:Code}{Q:Exit->Act->World->Prop}{a:Act}{w:World}(hro:F.round=none)(h1:1<=n){gf:Nat}{lb:Array Value}(hg:a.eval g=.func (.func gf) #[] lb)(hFg:F.fn gf)
  (eg:∀args w,(callFunc gf args).run P w=.ok (.enter gf args) w) {A:Nat} (hA:A<w.heap.size) {encs: α->Array Value} (hps:∀x,(encs x).size=ps.size) {B:Nat->Prop} (hB:∀k,B k->k<w.heap.size) {S Sp:List α->Prop} {Pp:List α->α->Prop}
  (hseq:∀(l:Nat)(J:Nat->List α->World->Prop)(Jx:List α->World->Prop)(W:World),Below w.heap.size w W->(∀H s X Y,J H s X->But A X Y->J H s Y)->(∀H H' s X,J H s X->H<=H'->J H' s X)->(∀s X Y,Jx s X->But A X Y->Jx s Y) ->
   (∀pre x H W1,J H pre W1->H<=W1.heap.size->Pp pre x->YieldAt F (n-1-1) P l (encs x) W1 fun e W'=>(e=.returned (.bool true)/\J W'.heap.size (pre++[x]) W'/\Keep B H W1 W')\/(e=.returned (.bool false)/\Jx (pre++[x]) W')) ->
   J W.heap.size [] W->CallsIn F (n-1) P gf (#[.func (.yield l) #[] #[]]++lb) W fun e W'=>(∃v,e=.returned v)/\((∃H xs,S xs/\J H xs W')\/(∃pre,Sp pre/\Jx pre W')))
  (I:Nat->List α->World->Prop) (Ix:Code->List α->World->Prop) (hI:∀H s X Y,I H s X->Lets A w.heap.size X Y->I H s Y) (hIm:∀H H' s X,I H s X->H<=H'->I H' s X) (hIx:∀c s X Y,Ix c s X->Lets A w.heap.size X Y->Ix c s Y) (h0:I w.heap.size [] w) (Ax: α->Act->World->Prop) (hAx:∀x a' X Y,Ax x a' X->Lets A w.heap.size X Y->Ax x a' Y)
  (hassign:∀(l:Nat)(pre:List α)(x: α)(H:Nat)(W:World)(K:Act->World->Prop),I H pre W->H<=W.heap.size->(∀a' W',KeepsFrom w.heap.size W W'->Keep B H W W'->I H pre W'->Ax x a' W'->K a' W') ->
   assign.wpIn (F.inRound l) (n-1-1) P (Exit.then K (fun _ _ _=>False)) {tmps:=(ps.zip (encs x)).foldl (fun t (p,v)=>t.setIfInBounds p v) a.tmps,defers:=[]} W)
  (hbody:∀(l:Nat)(pre:List α)(x: α)(a':Act)(H:Nat)(W:World),I H pre W->H<=W.heap.size->Ax x a' W->Pp pre x->body.wpIn (F.inRound l) (n-1-1) P (ownPostG w.heap.size (Keep B H) (fun s W=>I W.heap.size s W) Ix (pre++[x]) W) a' W)
  (hdone:∀(D H:Nat)(xs:List α)(W:World),w.heap.size<=D->S xs->I H xs W->W.heap[D]?=some (.deferred (some []))->Q .normal {a with defers:={target:=.collected D,args:=#[]}::a.defers} W)
  (hstop:∀(D:Nat)(c:Code)(pre:List α)(W:World),w.heap.size<=D->Sp pre->Ix c pre W->W.heap[D]?=some (.deferred (some []))->c.wpIn F n P Q {a with defers:={target:=.collected D,args:=#[]}::a.defers} W):
  (Code.rangeFunc g ps assign body).wpIn F n P Q a w:=by
 refine wpIn_rangeFunc fun fn hfn=>?_;rw[hro];have hout:=run_enterLoop_outer (P:=P) (w:=w) fn a.tmps ps assign body;generalize hr:({state:=.ready,pending:=none,fn:=fn,tmps:=a.tmps,params:=ps,assign:=assign,body:=body,defers:=w.heap.size}: Loop)=r at hout;have hr1:r.state=.ready:=by rw[<-hr]
 have hr2:r.params=ps:=by rw[<-hr]
 have hr3:r.fn=fn:=by rw[<-hr]
 have hr4:r.assign=assign:=by rw[<-hr]
 have hr5:r.body=body:=by rw[<-hr]
 have hr6:r.tmps=a.tmps:=by rw[<-hr]
 have hr7:r.pending=none:=by rw[<-hr]
 clear hr;have hD:(w.alloc (.deferred (some []))).heap[w.heap.size]?=some (.deferred (some [])):=World.alloc_heap_new w _;have hBD:Below w.heap.size w (w.alloc (.deferred (some []))):=(afI _ w).alloc afD _;have hID:=hI _ _ _ _ h0 (Lets.alloc A w.heap.size w (.deferred (some [])));have hzD:(w.alloc (.deferred (some []))).heap.size=w.heap.size+1:=by simp
 generalize w.alloc (.deferred (some []))=V at *;have hL:(V.alloc (.loop r)).heap[w.heap.size+1]?=some (.loop r):=by rw[<-hzD];exact World.alloc_heap_new V _
 have hD1:(V.alloc (.loop r)).heap[w.heap.size]?=some (.deferred (some [])):=(Below.heap_alloc _ _ _ (by omega)).trans hD;have hB1:Below w.heap.size w (V.alloc (.loop r)):=hBD.alloc (by omega) _;have hI1:=hI _ _ _ _ hID (Lets.alloc A w.heap.size V (.loop r));generalize V.alloc (.loop r)=V1 at *;refine⟨w.heap.size+1,_,V1,{target:=.fn (.func gf) lb,args:=#[.func (.yield (w.heap.size+1)) #[] #[]]},V1,gf,#[.func (.yield (w.heap.size+1)) #[] #[]]++lb,V1,hout,?_,?_,?_,fun _=>h1,?_⟩
 ·simp only[resolve,hg]
  simp[go_sem]
 ·intro f' hf'
  simp[Target.leads]at hf';subst hf';exact hFg
 ·simp[invoke,go_sem,eg]
 have bs:∀{X Y:World} {k:Nat} {o:Obj},But A X Y->X.heap[k]?=some o->k≠A->Y.heap[k]?=some o:=fun h hk hne=>(h.same _ (afF.1 hk).1 hne).trans hk;refine(hseq (w.heap.size+1) (fun H pre W=>(I H pre W/\W.heap[w.heap.size+1]?=some (.loop r))/\W.heap[w.heap.size]?=some (.deferred (some [])))
  (fun pre W=>(∃c,Ix c pre W/\W.heap[w.heap.size+1]?=some (.loop {r with state:=.done,pending:=some c}))/\W.heap[w.heap.size]?=some (.deferred (some []))) V1 hB1
  (fun H s X Y h hb=>⟨⟨hI _ _ _ _ h.1.1 (hb.lets _),bs hb h.1.2 (by omega)⟩,bs hb h.2 (by omega)⟩) (fun H H' s X h hH=>⟨⟨hIm _ _ _ _ h.1.1 hH,h.1.2⟩,h.2⟩)
  (fun s X Y ⟨⟨c,h,hl⟩,hk⟩ hb=>⟨⟨c,hIx _ _ _ _ h (hb.lets _),bs hb hl (by omega)⟩,bs hb hk (by omega)⟩) ?_ ⟨⟨hIm _ _ _ _ hI1 hB1.size,hL⟩,hD1⟩).mono ?_
 ·rintro pre x H W ⟨⟨hi,hl⟩,hk⟩ hHW hlen
  refine OA hl hr1 (by rw[hr2];exact hps x) (by rw[hr3];exact hfn) (fun a' Wa=>(KeepsFrom w.heap.size W Wa/\Keep B H W Wa)/\I H pre Wa/\Ax x a' Wa) (fun K hK=>by rw[hr2,hr4,hr6];exact hassign _ pre x H W K hi hHW (fun a' Wa h1 h2 h3 h4=>hK a' Wa ⟨⟨h1,h2⟩,h3,h4⟩)) ?_;rintro a' Wa ⟨⟨hkf,hkp⟩,hia,hax⟩;replace hl:=hkf.same _ _ (by omega) hl rfl;replace hk:=hkf.same _ _ afD hk rfl;have hHa:=agb hHW hkf.size;clear hkf hi;refine⟨hl,?_⟩;have hlt:=(afF.1 hl).1;have hlets:=Lets.put (A:=A) (B:=w.heap.size) (.loop {r with state:=.busy}) hl rfl (by omega);have hnB:¬B (w.heap.size+1):=fun h=>by have:=hB _ h;omega
  have hk1:=hkp.trans (Keep.put (B:=B) (H:=H) (.loop {r with state:=.busy}) hl rfl hnB);have hl1:(Wa.putObj (w.heap.size+1) (.loop {r with state:=.busy})).heap[w.heap.size+1]?=some (.loop {r with state:=.busy}):=World.putObj_heap_same hlt;have hd1:(Wa.putObj (w.heap.size+1) (.loop {r with state:=.busy})).heap[w.heap.size]?=some (.deferred (some [])):=(World.putObj_heap_other (by omega)).trans hk;have hi1:=hI _ _ _ _ hia hlets;have hH1:=agb hHa hlets.low.size;have aef:=hAx _ _ _ _ hax hlets;generalize Wa.putObj (w.heap.size+1) (.loop {r with state:=.busy})=W1 at *;have hwalk:=hbody (w.heap.size+1) pre x a' H W1 hi1 hH1 aef hlen;rw[<-hr5]at hwalk;refine wpIn_mono hwalk ?_;have key:∀(W2:World)(jump:Option Code),KeepsFrom w.heap.size W1 W2->W2.heap[w.heap.size+1]?=some (.loop {r with state:=.busy})/\W2.heap[w.heap.size]?=some (.deferred (some [])):=fun W2 jump hk2=>⟨hk2.same _ _ (by omega) hl1 rfl,hk2.same _ _ afD hd1 rfl⟩;have put:∀(W2:World)(o:Obj),W2.heap[w.heap.size+1]?=some (.loop {r with state:=.busy})->W2.heap[w.heap.size]?=some (.deferred (some []))->(W2.putObj (w.heap.size+1) o).heap[w.heap.size+1]?=some o/\(W2.putObj (w.heap.size+1) o).heap[w.heap.size]?=some (.deferred (some [])):=
   fun W2 o h2 h3=>⟨World.putObj_heap_same (afF.1 h2).1,(World.putObj_heap_other (by omega)).trans h3⟩
  rintro e a3 W2 hp
  cases e with
  | normal =>
   obtain⟨q1,q2,q3⟩:=hp;obtain⟨e1,e2⟩:=key W2 none q1;have e3:=run_endRound (P:=P) none e1;have e4:({({r with state:=.busy}: Loop)with state:=if (none:Option Code).isNone then .ready else .done,pending:=none}: Loop)=r:=(by cases r;simp_all);rw[e4]at e3;obtain⟨e5,e6⟩:=put W2 (.loop r) e1 e2;exact⟨_,_,e3,.inl ⟨rfl,⟨⟨hIm _ _ _ _ (hI _ _ _ _ q3 (Lets.put _ e1 rfl (by omega))) (Lets.put (A:=A) (B:=w.heap.size) (.loop r) e1 rfl (by omega)).low.size,e5⟩,e6⟩,(hk1.trans q2).trans (Keep.put _ e1 rfl hnB)⟩⟩
  | ret =>
   obtain⟨q1,q3⟩:=hp;obtain⟨e1,e2⟩:=key W2 none q1;obtain⟨e5,e6⟩:=put W2 (.loop {r with state:=.done,pending:=some .ret}) e1 e2;exact⟨_,_,run_endRound (P:=P) (some .ret) e1,.inr ⟨rfl,⟨.ret,hIx _ _ _ _ q3 (Lets.put _ e1 rfl (by omega)),e5⟩,e6⟩⟩
  | exit id =>
   obtain⟨q1,q3⟩:=hp;obtain⟨e1,e2⟩:=key W2 none q1;obtain⟨e5,e6⟩:=put W2 (.loop {r with state:=.done,pending:=some (.exit id)}) e1 e2;exact⟨_,_,run_endRound (P:=P) (some (.exit id)) e1,.inr ⟨rfl,⟨.exit id,hIx _ _ _ _ q3 (Lets.put _ e1 rfl (by omega)),e5⟩,e6⟩⟩
  | goto t =>
   obtain⟨q1,q3⟩:=hp;obtain⟨e1,e2⟩:=key W2 none q1;obtain⟨e5,e6⟩:=put W2 (.loop {r with state:=.done,pending:=some (.goto t)}) e1 e2;exact⟨_,_,run_endRound (P:=P) (some (.goto t)) e1,.inr ⟨rfl,⟨.goto t,hIx _ _ _ _ q3 (Lets.put _ e1 rfl (by omega)),e5⟩,e6⟩⟩
  | panic ch=>exact hp.elim
  | outgrown=>exact hp.elim
 ·rintro e W2 ⟨⟨v,rfl⟩,(⟨H,xs,hS,⟨hi,hl⟩,hk⟩|⟨pre,hSp,⟨c,hi,hl⟩,hk⟩)⟩
  ·have e3:=run_endLoop (P:=P) hl (by rw[hr1];simp)
   rw[hr7]at e3;exact⟨none,_,e3,hdone _ H xs _ afD hS (hI _ _ _ _ hi (Lets.put _ hl rfl (by omega))) ((World.putObj_heap_other (by omega)).trans hk)⟩
  ·exact⟨some c,_,run_endLoop (P:=P) hl (by simp),hstop _ c pre _ afD hSp (hIx _ _ _ _ hi (Lets.put _ hl rfl (by omega))) ((World.putObj_heap_other (by omega)).trans hk)⟩
end
end Go.Proofs.YtkjgogdkdejljaaGreatDoor.AX
namespace Go.Proofs.YtkjgogdkdejljaaGreatDoor.Df
open Go
def wd(a b c d i:Nat):Nat:=if i=0 then a else if i=1 then b else if i=2 then c else d
def hasB(a b c d x:Nat):Bool:=(wd a b c d (x / 64)).testBit (x % 64)
def upB(a b c d n:Nat):List Nat:=(List.range n).filter (hasB a b c d)
def ig(a b c d:Nat):List Nat:=upB a b c d 256
theorem GZ(a b c d n:Nat):upB a b c d (n+1)=upB a b c d n++(if hasB a b c d n then [n]else []):=by
 unfold upB;rw[ahQ,List.filter_append];congr 1;simp[List.filter_cons]
theorem zN(a b c d n:Nat):∀k,(∀j,j<k->hasB a b c d (n+j)=false)->upB a b c d (n+k)=upB a b c d n
 | 0,_=>rfl
 | k+1,h=>by
  rw[<-ah1,GZ,h k (by omega),zN a b c d n k (fun j hj=>h j (by omega))];simp
theorem xU(a b c d n:Nat):(upB a b c d n).length<=n:=by
 have:=List.length_filter_le (hasB a b c d) (List.range n)
 simpa[upB]using this
theorem oP(x:Nat)(h0:x≠0)(h:x<18446744073709551616):Lib.ctz 64 x<64/\x.testBit (Lib.ctz 64 x)=true/\∀j,j<Lib.ctz 64 x->x.testBit j=false:=by
 obtain⟨m,hm,hk⟩:=Lib.ctzFrom_spec 64 x (by omega) (by simpa using h);have e:Lib.ctz 64 x=Lib.ctzFrom 64 x:=by simp[Lib.ctz,h0]
 rw[e];refine⟨hk,?_,fun j hj=>?_⟩
 ·rw[hm,ahH]
  simp[<-hm]
 ·rw[hm,ahH]
  have:¬Lib.ctzFrom 64 x<=j:=by omega
  simp[this]
theorem sZ(x:Nat)(h0:x≠0)(h:x<18446744073709551616):x &&& (x-1)<x/\∀j,(x &&& (x-1)).testBit j=(decide (Lib.ctz 64 x+1<=j) && x.testBit j):=by
 obtain⟨m,hm,hk⟩:=Lib.ctzFrom_spec 64 x (by omega) (by simpa using h);have e:Lib.ctz 64 x=Lib.ctzFrom 64 x:=by simp[Lib.ctz,h0]
 rw[e];generalize Lib.ctzFrom 64 x=k at hm hk;have hp:0<2 ^ k:=Nat.two_pow_pos k;have e1:x-1=2 ^ k*(2*m)+(2 ^ k-1):=by rw[hm,Nat.mul_add];omega
 have key:∀j,(x &&& (x-1)).testBit j=(decide (k+1<=j) && x.testBit j):=by
  intro j;rw[ahR]
  by_cases h1:j<k
  ·have:x.testBit j=false:=by
    rw[hm,ahH];have:¬k<=j:=(by omega);simp[this]
   simp[this]
  ·obtain⟨i,rfl⟩:∃i,j=k+i:=⟨j-k,by omega⟩
   have hx:x.testBit (k+i)=(2*m+1).testBit i:=(by rw[hm,ahH];simp);have hx1:(x-1).testBit (k+i)=(2*m).testBit i:=by
    rw[e1,Nat.testBit_two_pow_mul_add _ (by omega)];have:¬k+i<k:=(by omega);simp[this]
   rw[hx,hx1]
   cases i with
   | zero=>simp[Nat.testBit_zero]
   | succ i =>
    rw[Nat.testBit_succ,Nat.testBit_succ];have d1:(2*m+1) / 2=m:=(by omega);have d2:2*m / 2=m:=(by omega);rw[d1,d2];simp
 refine⟨?_,key⟩;have hle:x &&& (x-1)<=x:=Nat.and_le_left;have hne:x &&& (x-1)≠x:=by
  intro hh;have h1:=key k;rw[hh]at h1;have:x.testBit k=true:=by rw[hm,ahH];simp
  rw[this]at h1;simp at h1;omega
 omega
theorem xW(a b c d k t x:Nat)(h0:x≠0)(hx:x<18446744073709551616)(h:∀j,x.testBit j=(decide (t<=j) && (wd a b c d k).testBit j)):
  t<=Lib.ctz 64 x/\upB a b c d (64*k+(Lib.ctz 64 x+1))=upB a b c d (64*k+t)++[64*k+Lib.ctz 64 x]:=by
 obtain⟨hk,h1,h2⟩:=oP x h0 hx;have ht':t<=Lib.ctz 64 x:=by
  rw[h]at h1;simp at h1;exact h1.1
 refine⟨ht',?_⟩;have hb:∀j,j<64->hasB a b c d (64*k+j)=(wd a b c d k).testBit j:=fun j hj=>by
  unfold hasB;have e1:(64*k+j) / 64=k:=by omega
  have e2:(64*k+j) % 64=j:=by omega
  rw[e1,e2]
 have hw:∀j,t<=j->j<Lib.ctz 64 x->(wd a b c d k).testBit j=false:=fun j h3 h4=>by
  have:=h2 j h4;rw[h]at this
  simpa[h3]using this
 rw[<-ah1,GZ];have e:=zN a b c d (64*k+t) (Lib.ctz 64 x-t) (fun j hj=>by
  have:64*k+t+j=64*k+(t+j):=by omega
  rw[this,hb _ (by omega)];exact hw _ (by omega) (by omega))
 have e3:64*k+t+(Lib.ctz 64 x-t)=64*k+Lib.ctz 64 x:=by omega
 rw[e3]at e;rw[e,hb _ hk];rw[h]at h1;have h1:=h1;simp at h1;rw[afR h1.2]
theorem xX(a b c d k t:Nat)(ht:t<=64)(h:∀j,(0:Nat).testBit j=(decide (t<=j) && (wd a b c d k).testBit j)):
  upB a b c d (64*(k+1))=upB a b c d (64*k+t):=by
 have e:=zN a b c d (64*k+t) (64-t) (fun j hj=>by
  unfold hasB;have e1:(64*k+t+j) / 64=k:=by omega
  have e2:(64*k+t+j) % 64=t+j:=by omega
  rw[e1,e2];have:=h (t+j);simp at this;exact this)
 rw[<-e]
 congr 1
 omega
theorem left_step{x t c v:Nat}(h:∀j,x.testBit j=(decide (t<=j) && v.testBit j))(hd:∀j,(x &&& (x-1)).testBit j=(decide (c+1<=j) && x.testBit j))(ht:t<=c):
  ∀j,(x &&& (x-1)).testBit j=(decide (c+1<=j) && v.testBit j):=fun j=>by
 rw[hd,h]
 by_cases h1:c+1<=j
 ·have h2:t<=j:=by omega
  simp[h1,h2]
 ·simp[h1]
def cw(l:List Nat)(i:Nat):Nat:=l.foldl (fun w b=>if b / 64=i then w ||| 2 ^ (b % 64)else w) 0
theorem EF(l:List Nat)(b i:Nat):cw (l++[b]) i=if b / 64=i then cw l i ||| 2 ^ (b % 64)else cw l i:=by simp[cw]
theorem lH(i:Nat):cw [] i=0:=rfl
theorem gX(l:List Nat)(i:Nat):cw l i<18446744073709551616:=by
 unfold cw
 suffices h:∀(l:List Nat)(w:Nat),w<2 ^ 64->l.foldl (fun w b=>if b / 64=i then w ||| 2 ^ (b % 64)else w) w<2 ^ 64 from by simpa using h l 0 (by decide)
 intro l
 induction l with
 | nil=>intro w h;exact h
 | cons b l ih =>
  intro w h;rw[agw];apply ih;split
  ·exact ahV h (ahf (by decide) (aiq _ (by decide)))
  ·exact h
theorem Rk(i j:Nat)(hj:j<64)(l:List Nat):(cw l i).testBit j=decide (64*i+j∈l):=by
 unfold cw
 suffices h:∀(l:List Nat)(w:Nat),(l.foldl (fun w b=>if b / 64=i then w ||| 2 ^ (b % 64)else w) w).testBit j=(w.testBit j || decide (64*i+j∈l))from by simpa using h l 0
 intro l
 induction l with
 | nil=>intro w;simp
 | cons b l ih =>
  intro w;rw[agw,ih]
  by_cases hb:b / 64=i
  ·rw[afR hb,ah6,ahl]
   by_cases hm:b % 64=j
   ·have:64*i+j=b:=by omega
    simp[hm,this]
   ·have:¬ 64*i+j=b:=by omega
    simp[hm,this]
  ·rw[afO hb]
   have:¬ 64*i+j=b:=(by omega);simp[this]
theorem aa7(l:List Nat)(i:Nat)(hi:i<4):wd (cw l 0) (cw l 1) (cw l 2) (cw l 3) i=cw l i:=by
 obtain rfl|rfl|rfl|rfl:i=0\/i=1\/i=2\/i=3:=by omega
 all_goals rfl
theorem YQ(l:List Nat)(b:Nat)(hb:b<256):hasB (cw l 0) (cw l 1) (cw l 2) (cw l 3) b=decide (b∈l):=by
 unfold hasB;rw[aa7 l _ (by omega),Rk _ _ (by omega)];have:64*(b / 64)+b % 64=b:=by omega
 rw[this]
theorem G5{x y:Nat}(hx:x<18446744073709551616)(hy:y<18446744073709551616)(h:∀j,j<64->x.testBit j=y.testBit j):x=y:=by
 apply ah8;intro j;rcases ag6 j 64 with hj|hj
 ·exact h j hj
 ·have e:18446744073709551616<=2 ^ j:=agb (by decide:18446744073709551616<=2 ^ 64) (Nat.pow_le_pow_right (by decide) hj)
  rw[Nat.testBit_lt_two_pow (afN hx e),Nat.testBit_lt_two_pow (afN hy e)]
theorem EG{a b c d n x:Nat}: x∈upB a b c d n↔x<n/\hasB a b c d x=true:=by
 unfold upB;rw[aiu];simp
theorem vW(a b c d i j:Nat)(hj:j<64):hasB a b c d (64*i+j)=(wd a b c d i).testBit j:=by
 unfold hasB;have e1:(64*i+j) / 64=i:=by omega
 have e2:(64*i+j) % 64=j:=by omega
 rw[e1,e2]
theorem aa8(a b c d i:Nat)(hi:i<4)(hw:∀k,wd a b c d k<18446744073709551616):cw (ig a b c d) i=wd a b c d i:=
 G5 (gX _ _) (hw i) fun j hj=>by
  rw[Rk i j hj];unfold ig;rw[<-vW a b c d i j hj]
  cases h:hasB a b c d (64*i+j)with
  | true=>simpa using EG.2 ⟨by omega,h⟩
  | false=>simpa using fun hm=>by rw[(EG.1 hm).2]at h;cases h
def wlt(a0 a1 a2 a3:Nat):Prop:=∀k,wd a0 a1 a2 a3 k<18446744073709551616
def rng(low high:Nat):List Nat:=List.range' low (high+1-low)
theorem LH{low high x:Nat}: x∈rng low high↔low<=x/\x<=high:=by
 unfold rng;rw[List.mem_range'_1];omega
def nw(a:Nat):Nat:=18446744073709551615 ^^^ a
theorem oQ(a:Nat)(h:a<18446744073709551616):nw a<18446744073709551616:=Nat.xor_lt_two_pow (n:=64) (by decide) h
theorem Rn(j:Nat)(hj:j<64):(18446744073709551615:Nat).testBit j=true:=by
 rw[show (18446744073709551615:Nat)=2 ^ 64-1 from by decide,ahL]
 simpa using hj
theorem YR(a j:Nat)(hj:j<64):(nw a).testBit j = !a.testBit j:=by
 unfold nw;rw[Nat.testBit_xor,Rn j hj];simp
theorem yF{a0 a1 a2 a3:Nat}(h0:a0<18446744073709551616)(h1:a1<18446744073709551616)(h2:a2<18446744073709551616)(h3:a3<18446744073709551616):wlt a0 a1 a2 a3:=fun k=>by
 unfold wd;split;exact h0;split;exact h1;split;exact h2;exact h3
section
variable {a0 a1 a2 a3 b0 b1 b2 b3 : Nat}
theorem YS(h:wlt a0 a1 a2 a3):wlt (nw a0) (nw a1) (nw a2) (nw a3):=yF (oQ _ (h 0)) (oQ _ (h 1)) (oQ _ (h 2)) (oQ _ (h 3))
theorem Vp(k:wlt b0 b1 b2 b3):wlt (a0 &&& b0) (a1 &&& b1) (a2 &&& b2) (a3 &&& b3):=
 yF (ail (n:=64) _ (k 0)) (ail (n:=64) _ (k 1)) (ail (n:=64) _ (k 2)) (ail (n:=64) _ (k 3))
theorem YT(i:Nat):wd (a0 &&& b0) (a1 &&& b1) (a2 &&& b2) (a3 &&& b3) i=wd a0 a1 a2 a3 i &&& wd b0 b1 b2 b3 i:=by
 unfold wd;split;rfl;split;rfl;split<;>rfl
theorem Ro(x:Nat):hasB (a0 &&& b0) (a1 &&& b1) (a2 &&& b2) (a3 &&& b3) x=(hasB a0 a1 a2 a3 x && hasB b0 b1 b2 b3 x):=by
 unfold hasB;rw[YT,ahR]
end
structure Kl where
 a:Nat
 b:Nat
 c:Nat
 d:Nat
 h:wlt a b c d
namespace Kl
open Go.Proofs.YtkjgogdkdejljaaGreatDoor
def zero:Kl:=⟨0,0,0,0,yF (by decide) (by decide) (by decide) (by decide)⟩
instance:Inhabited Kl:=⟨zero⟩
def has(x:Kl)(i:Nat):Bool:=hasB x.a x.b x.c x.d i
def by_(x:Kl):List Nat:=ig x.a x.b x.c x.d
def and(x y:Kl):Kl:=⟨x.a &&& y.a,x.b &&& y.b,x.c &&& y.c,x.d &&& y.d,Vp y.h⟩
def not(x:Kl):Kl:=⟨nw x.a,nw x.b,nw x.c,nw x.d,YS x.h⟩
def ofL(l:List Nat):Kl:=⟨cw l 0,cw l 1,cw l 2,cw l 3,yF (gX _ _) (gX _ _) (gX _ _) (gX _ _)⟩
def full:Kl:=ofL (rng 0 255)
def isZ(x:Kl):Bool:=x.a == 0 && (x.b == 0 && (x.c == 0 && x.d == 0))
theorem Vq{x y:Kl}(h0:x.a=y.a)(h1:x.b=y.b)(h2:x.c=y.c)(h3:x.d=y.d):x=y:=by
 cases x;cases y;simp only at h0 h1 h2 h3;subst h0 h1 h2 h3;rfl
theorem Vr{x y:Kl}(h:∀i,i<256->x.has i=y.has i):x=y:=by
 have key:∀k,k<4->wd x.a x.b x.c x.d k=wd y.a y.b y.c y.d k:=fun k hk =>
  G5 (x.h k) (y.h k) fun j hj=>by
   rw[<-vW _ _ _ _ k j hj,<-vW _ _ _ _ k j hj];exact h _ (by omega)
 exact Vq (key 0 (by decide)) (key 1 (by decide)) (key 2 (by decide)) (key 3 (by decide))
theorem kW(x y:Kl)(i:Nat):(x.and y).has i=(x.has i && y.has i):=Ro i
theorem xZ(x:Kl)(i:Nat)(hi:i<256):x.not.has i = !x.has i:=by
 show hasB (nw x.a) (nw x.b) (nw x.c) (nw x.d) i=_
 unfold has hasB;have e:wd (nw x.a) (nw x.b) (nw x.c) (nw x.d) (i / 64)=nw (wd x.a x.b x.c x.d (i / 64)):=by unfold wd;split;rfl;split;rfl;split<;>rfl
 rw[e,YR _ _ (by omega)]
theorem Vs(l:List Nat)(i:Nat)(hi:i<256):(ofL l).has i=decide (i∈l):=YQ l i hi
theorem G6(i:Nat)(hi:i<256):full.has i=true:=by
 unfold full;rw[Vs _ i hi];simp only[LH];simp;omega
theorem G7(i:Nat):zero.has i=false:=by
 have e:wd 0 0 0 0 (i / 64)=0:=by unfold wd;split;rfl;split;rfl;split<;>rfl
 show hasB 0 0 0 0 i=false
 unfold hasB;rw[e];simp
theorem tq(x:Kl):x.isZ=true↔x=zero:=by
 unfold isZ;simp only[afU,ahe];exact⟨fun ⟨h0,h1,h2,h3⟩=>Vq h0 h1 h2 h3,fun h=>by subst h;exact⟨rfl,rfl,rfl,rfl⟩⟩
theorem zO{x:Kl}{i:Nat}: i∈x.by_↔i<256/\x.has i=true:=EG
theorem EH{x:Kl}(h:x.isZ=false):∃i,i<256/\x.has i=true:=by
 false_or_by_contra
 rename_i hn;have:x=zero:=Vr fun i hi=>by
  rw[G7]
  cases hx:x.has i with
  | false=>rfl
  | true=>exact(hn ⟨i,hi,hx⟩).elim
 rw[(tq x).2 this]at h
 cases h
theorem Dn{x:Kl}{i:Nat}(h:x.has i=true):x.isZ=false:=by
 cases hz:x.isZ with
 | false=>rfl
 | true=>rw[(tq x).1 hz,G7]at h;cases h
def low(x:Kl):Nat:=x.by_.headD 0
theorem Vt{x:Kl}{i:Nat}(h:x.has i=true)(hi:i<256):x.low∈x.by_/\x.low<=i:=by
 have hm:i∈x.by_:=zO.2 ⟨hi,h⟩;have hs:x.by_.Pairwise (· < ·):=by
  unfold by_ ig upB;exact List.Pairwise.filter _ List.pairwise_lt_range
 unfold low
 cases hx:x.by_ with
 | nil=>rw[hx]at hm;cases hm
 | cons y l =>
  rw[hx]at hm hs;refine⟨afS,?_⟩;rcases afX.1 hm with rfl|hm
  ·exact agq _
  ·exact ahh ((agF.1 hs).1 _ hm)
theorem Rt(x:Kl):x.low<256:=by
 unfold low
 cases h:x.by_ with
 | nil=>decide
 | cons y l=>exact(zO.1 (h▸ afS:y∈x.by_)).1
end Kl
open Kl
def halves(c x:Kl):List Kl:=(if (x.and c).isZ then []else [x.and c])++(if (x.and c.not).isZ then []else [x.and c.not])
def stp(out:List Kl)(c:Kl):List Kl:=out.flatMap (halves c)
def parts(l:List Kl):List Kl:=l.foldl stp [full]
def Apart(l:List Kl)(p q:Kl):Prop:=∀i j,i<256->j<256->p.has i=true->q.has j=true->∃c∈l,c.has i≠c.has j
structure fB(l out:List Kl):Prop where
 some:∀p∈out,∃i,i<256/\p.has i=true
 same:∀p∈out,∀i j,i<256->j<256->p.has i=true->p.has j=true->∀c∈l,c.has i=c.has j
 apart:out.Pairwise (Apart l)
 all:∀i,i<256->∃p∈out,p.has i=true
theorem kK{c x p:Kl}: p∈halves c x↔(p=x.and c\/p=x.and c.not)/\p.isZ=false:=by
 unfold halves;rw[af2]
 constructor
 ·rintro (h|h)
  ·split at h
   ·cases h
   ·rename_i hz
    obtain rfl:=afK.1 h;exact⟨.inl rfl,by simpa using hz⟩
  ·split at h
   ·cases h
   ·rename_i hz
    obtain rfl:=afK.1 h;exact⟨.inr rfl,by simpa using hz⟩
 ·rintro⟨rfl|rfl,h⟩
  ·exact .inl (by rw[afO (by simp[h])];exact afK.2 rfl)
  ·exact .inr (by rw[afO (by simp[h])];exact afK.2 rfl)
theorem mZ{c x p:Kl}(h:p∈halves c x){i:Nat}(hi:p.has i=true):x.has i=true:=by
 rcases (kK.1 h).1 with rfl|rfl<;>rw[kW]at hi<;>simp at hi<;>exact hi.1
theorem JK(c x:Kl):(halves c x).length<=2:=by
 unfold halves;rw[afP];split<;>split<;>simp
theorem fB.start:fB [] [full] where
 some p hp:=by obtain rfl:=afK.1 hp;exact⟨0,by decide,G6 0 (by decide)⟩
 same p hp i j _ _ _ _ c hc:=by cases hc
 apart:=ahu _ _
 all i hi:=⟨full,afK.2 rfl,G6 i hi⟩
theorem fB.step{l out:List Kl}(h:fB l out)(c:Kl):fB (l++[c]) (stp out c) where
 some p hp:=by
  obtain⟨x,_,hp⟩:=aht.1 hp;exact EH (kK.1 hp).2
 same p hp i j hi hj h1 h2 c' hc':=by
  obtain⟨x,hx,hp⟩:=aht.1 hp;rcases af2.1 hc' with hc'|hc'
  ·exact h.same x hx i j hi hj (mZ hp h1) (mZ hp h2) c' hc'
  ·obtain rfl:=afK.1 hc'
   rcases (kK.1 hp).1 with rfl|rfl
   ·rw[kW]at h1 h2;simp at h1 h2;rw[h1.2,h2.2]
   ·rw[kW,xZ _ _ hi]at h1;rw[kW,xZ _ _ hj]at h2;simp at h1 h2;rw[h1.2,h2.2]
 apart:=by
  unfold stp;rw[List.pairwise_flatMap];refine⟨fun x hx=>?_,h.apart.imp fun {x y} hxy p hp q hq i j hi hj h1 h2=>?_⟩
  ·have hpq:Apart (l++[c]) (x.and c) (x.and c.not):=fun i j hi hj h1 h2=>by
    refine⟨c,af2.2 (.inr (afK.2 rfl)),?_⟩;rw[kW]at h1;rw[kW,xZ _ _ hj]at h2;simp at h1 h2;rw[h1.2,h2.2];decide
   unfold halves;split<;>split
   ·exact List.Pairwise.nil
   ·exact ahu _ _
   ·exact ahu _ _
   ·exact List.Pairwise.cons (fun y hy=>by obtain rfl:=afK.1 hy;exact hpq) (ahu _ _)
  ·obtain⟨c',hc',hne⟩:=hxy i j hi hj (mZ hp h1) (mZ hq h2)
   exact⟨c',af2.2 (.inl hc'),hne⟩
 all i hi:=by
  obtain⟨x,hx,hxi⟩:=h.all i hi
  cases hc:c.has i with
  | true =>
   have hh:(x.and c).has i=true:=(by rw[kW,hxi,hc];rfl);exact⟨_,aht.2 ⟨x,hx,kK.2 ⟨.inl rfl,Dn hh⟩⟩,hh⟩
  | false =>
   have hh:(x.and c.not).has i=true:=(by rw[kW,xZ _ _ hi,hxi,hc];rfl);exact⟨_,aht.2 ⟨x,hx,kK.2 ⟨.inr rfl,Dn hh⟩⟩,hh⟩
theorem Vu(out:List Kl)(c:Kl):(stp out c).length<=2*out.length:=by
 unfold stp
 induction out with
 | nil=>simp
 | cons x l ih=>rw[agG,afP,agl];have:=JK c x;omega
theorem JL(l:List Kl)(c:Kl):parts (l++[c])=stp (parts l) c:=by simp[parts]
theorem fB.more:∀(l:List Kl) {l0 out:List Kl},fB l0 out->fB (l0++l) (l.foldl stp out)
 | [],l0,out,h=>by rw[aha];exact h
 | c::l,l0,out,h=>by
  have:=fB.more l (h.step c)
  rwa [agi]at this
theorem tu(l:List Kl):fB l (parts l):=fB.more l .start
theorem fB.perm{l out out':List Kl}(h:fB l out)(hp:out'.Perm out):fB l out' where
 some p hm:=h.some p (hp.mem_iff.1 hm)
 same p hm:=h.same p (hp.mem_iff.1 hm)
 apart:=hp.symm.pairwise h.apart fun {p q} hpq i j hi hj h1 h2=>by
  obtain⟨c,hc,hne⟩:=hpq j i hj hi h2 h1;exact⟨c,hc,fun e=>hne e.symm⟩
 all i hi:=by
  obtain⟨p,hm,hh⟩:=h.all i hi;exact⟨p,hp.mem_iff.2 hm,hh⟩
end Go.Proofs.YtkjgogdkdejljaaGreatDoor.Df
