import Derived.Test.YtkjgogdkdejljaaGreatDoorDfE3
import Derived.Test.YtkjgogdkdejljaaGreatDoorDfN23
set_option maxRecDepth 100000
set_option maxHeartbeats 40000000
namespace Go.Proofs.YtkjgogdkdejljaaGreatDoor.Df
section
open Go Go.Proofs Go.RowKit
open Rx (Nd dL iM)
structure Bt(N:Nf)(most:Nat)(tss:List (List Int))(T:Sets):Prop where
 len:tss.length=T.length
 most:T.length<=most
 one:1<=T.length
 bd:∀i,i<256*T.length -> -1<=(dB (eX (spl N.cl)) tss).getD i 0/\(dB (eX (spl N.cl)) tss).getD i 0<(T.length:Int)
theorem getD_mem{l:List Int}{i:Nat}(h:i<l.length):l.getD i 0∈l:=by
 rw[afG,afE h];exact agu h
theorem Bt.of{N:Nf}{most:Nat}(hm:1<=most){tss:List (List Int)}{T:Sets}(h:lD most (jL N) (eF (spl N.cl)) (most+1) 0 [[0]]=some (tss,T)):Bt N most tss T:=by
 obtain⟨h1,h2,h3,⟨R,h4⟩,h5⟩:=xP h (by simpa using hm) (by simp) (by omega);obtain⟨r,hl⟩:=aaK (eX (spl N.cl)) h hm;refine⟨hl,h2,by rw[h4];simp,fun i hi=>?_⟩;obtain⟨k,x,hx,rfl⟩:∃k x,x<256/\i=256*k+x:=⟨i / 256,i % 256,aiq _ (by decide),by omega⟩;have hk:k<T.length:=by omega
 have L:=Yq (qU N.cl) (Jv N.cl);rw[vJ _ _ _ _ (by omega) hx];obtain⟨a1,_,_,a4⟩:=h5 k (by omega);have hlt:eX (spl N.cl) x<(tss.getD k []).length:=by rw[a1];exact L.lt x hx
 exact a4 _ (getD_mem hlt)
theorem Bt.ok{N:Nf}(o:yN N){most:Nat}(hm:most<=512){tss:List (List Int)}{T:Sets}(h:Bt N most tss T):okT (dB (eX (spl N.cl)) tss) (fF N.ru T)=true:=by
 have hl:(fF N.ru T).length=T.length:=by unfold fF;simp
 have h1:=h.one;have h2:=h.most;have hn:(dB (eX (spl N.cl)) tss).length=256*T.length:=by rw[qV,h.len]
 unfold okT inR;simp only[afU,afZ,agk];refine⟨by omega,by omega,by omega,fun x hx=>?_,fun x hx=>?_⟩
 ·unfold fF at hx
  obtain⟨S,_,rfl⟩:=agv.1 hx;exact Jw N.ru o.rule S
 ·obtain⟨i,hi,rfl⟩:=List.mem_iff_getElem.1 hx
  have:=h.bd i (by omega);rw[afG,afE hi,agr]at this;rw[hl];exact this
theorem Qw{n:Int->NS->NS×Pl}(hn:∀k s,∀x∈(n k s).1.ru,x∈s.ru\/x = -1):∀(ks:List Int)(t:NS×Pl),∀x∈(ks.foldl (jA n) t).1.ru,x∈t.1.ru\/x = -1
 | [],t,x,h =>.inl h
 | k::ks,t,x,h=>by
  rcases Qw hn ks _ x h with h|h
  ·exact hn k t.1 x h
  ·exact .inr h
theorem Qx{n:Int->NS->NS×Pl}(hn:∀k s,∀x∈(n k s).1.ru,x∈s.ru\/x = -1):∀(ks:List Int)(t:NS×Pl),∀x∈(ks.foldl (iF n) t).1.ru,x∈t.1.ru\/x = -1
 | [],t,x,h =>.inl h
 | k::ks,t,x,h=>by
  rcases Qx hn ks _ x h with h|h
  ·exact hn k t.1 x h
  ·exact .inr h
theorem pW(r:List Nd):∀(f:Nat)(i:Int)(s:NS),∀x∈(aO r f i s).1.ru,x∈s.ru\/x = -1
 | 0,i,s,x,h =>.inl h
 | f+1,i,s,x,h=>by
  unfold aO at h;simp only at h;split at h
  ·exact .inl h
  split at h
  ·rcases af2.1 h with h|h
   ·exact .inl h
   ·exact .inr (afK.1 h)
  split at h
  ·rcases Qw (pW r f) _ _ x h with h|h
   ·exact pW r f _ _ x h
   ·exact .inr h
  split at h
  ·exact Qx (pW r f) _ _ x h
  ·split at h
   ·exact pW r f _ _ x h
   ·exact pW r f _ _ x h
theorem Qy(rs:List (List Nd)):∀j,∀x∈(lu rs j).ru,-1<=x/\x<(j:Int)
 | 0,x,h=>by
  have h:x∈[(-1:Int)]:=h;rw[afK.1 h];omega
 | j+1,x,h=>by
  have hn:=pW (rs.getD j []) (rs.getD j []).length (((rs.getD j []).length-1:Nat):Int) (lu rs j);have hih:=Qy rs j;have h:x∈(xC (lu rs j) j (rs.getD j [])).ru:=h;unfold xC at h;generalize aO (rs.getD j []) (rs.getD j []).length (((rs.getD j []).length-1:Nat):Int) (lu rs j)=y at h hn;have hy:∀x∈y.1.ru,-1<=x/\x<(j:Int):=fun x hx=>by
   rcases hn x hx with h|h
   ·exact hih x h
   ·omega
  have h2:∀x∈(sJ (y.1.join [0] y.2.f) y.2.l j).ru,-1<=x/\x<((j+1:Nat):Int):=fun x hx=>by
   obtain⟨k,hk,rfl⟩:=agv.1 hx;have hk:k<y.1.ru.length:=agH.1 hk;split
   ·omega
   ·have:=hy (y.1.ru.getD k 0) (getD_mem hk)
    change -1<=y.1.ru.getD k 0/\y.1.ru.getD k 0<_;omega
  unfold yL at h;split at h
  ·rcases List.mem_or_eq_of_mem_set h with h|h
   ·exact h2 x h
   ·omega
  ·exact h2 x h
theorem Xl{next rule part:List Int}(hok:okT next rule=true)(Pr:Int->Prop)(hPr:∀r∈rule,Pr r):∀(f i:Nat)(x:List Int×List Int)(ru:List Int),LsI part rule.length x.1 x.2->(∀r∈ru,Pr r)->∀r∈(lsL next rule part f i x ru).2,Pr r
 | 0,i,x,ru,_,hr=>hr
 | f+1,i,x,ru,h,hr=>by
  have hok2:=hok;simp only[okT,afU,afZ]at hok2;obtain⟨g1,g2,g3,g4,g5⟩:=hok2;unfold lsL;split
  ·rename_i hlt
   have hs:=h.in_ (x.1.getD i 0) (getD_mem hlt);obtain⟨h1,h2,h3⟩:=LsI.steps (rowOf next (x.1.getD i 0).toNat) h fun t ht=>by
    have:=agk.1 g5 t (pU ht);simp only[afU,afZ]at this;exact this.2
   refine Xl hok Pr hPr f (i+1) _ _ h1 fun r hm=>?_;rcases af2.1 hm with hm|hm
   ·exact hr r hm
   ·rw[afK.1 hm]
    exact hPr _ (getD_mem (by omega))
  ·exact hr
theorem Qz{next rule:List Int}(hok:okT next rule=true)(Pr:Int->Prop)(hPr:∀r∈rule,Pr r):∀r∈(bD next rule).2,Pr r:=by
 have hok2:=hok;simp only[okT,afU,afZ]at hok2;exact Xl hok Pr hPr _ 0 _ _ ⟨by simp,by simp,fun s hs=>by rw[afK.1 hs];omega,by simp⟩ (by simp)
def zq(R:List Rl):List ByteArray:=R.map (·.nm)
def jI(R:List Rl):List (List Nd):=R.map fun x=>(rdP x.re).1
def kdP(R:List Rl):List Int×Int:=R.foldl (fun k x=>if x.tr=true then (k.1++[-1],k.2)else (k.1++[k.2],k.2+1)) ([],0)
def Gg(R:List Rl):Prop:=∀j x,R[j]?=some x->(jh (zq (R.take j)) x).2=0
def nfP(R:List Rl):Nf:=⟨(uY (jI R)).cl,(uY (jI R)).nx,(uY (jI R)).ru⟩
structure oI(R:List Rl)(tss:List (List Int))(T:Sets):Prop where
 ne:R≠[]
 ok:Gg R
 cl:(nfP R).cl.length<=1024
 bl:lD 512 (jL (nfP R)) (eF (spl (nfP R).cl)) 513 0 [[0]]=some (tss,T)
def lF(R:List Rl)(tss:List (List Int))(T:Sets):List Int×List Int:=bD (dB (eX (spl (nfP R).cl)) tss) (fF (nfP R).ru T)
theorem zu(R:List Rl)(x:Rl):kdP (R++[x])=if x.tr=true then ((kdP R).1++[-1],(kdP R).2)else ((kdP R).1++[(kdP R).2],(kdP R).2+1):=by
 unfold kdP;rw[agI];rfl
theorem vK:∀(n:Nat)(R:List Rl),R.length=n->(kdP R).1.length=n/\0<=(kdP R).2/\(kdP R).2<=n/\∀k∈(kdP R).1,-1<=k/\k<(kdP R).2
 | 0,R,h=>by
  obtain rfl:=ag2.1 h;exact⟨rfl,ah0 _,ah0 _,fun k hk=>by cases hk⟩
 | n+1,R,h=>by
  obtain⟨A,x,rfl⟩:∃A x,R=A++[x]:=⟨R.dropLast,R.getLast (by intro e;subst e;simp at h),(List.dropLast_concat_getLast _).symm⟩;obtain⟨h1,h2,h3,h4⟩:=vK n A (by simp at h;exact h);rw[zu];split
  ·refine⟨by simp[h1],h2,by show(kdP A).2<=_;omega,fun k hk=>?_⟩
   rcases af2.1 hk with hk|hk
   ·exact h4 k hk
   ·rw[afK.1 hk];exact⟨by omega,by show -1<(kdP A).2;omega⟩
  ·refine⟨by simp[h1],by show 0<=(kdP A).2+1;omega,by show(kdP A).2+1<=_;omega,fun k hk=>?_⟩
   rcases af2.1 hk with hk|hk
   ·have:=h4 k hk
    show _/\k<(kdP A).2+1
    omega
   ·rw[afK.1 hk];show _/\(kdP A).2<(kdP A).2+1;omega
end
section
open Go Go.Proofs Go.RowKit
open Rx (Nd dL iM Ms mkI nX dh bY Reads kG)
theorem zx{s:ByteArray}{b:Ms (List Nd) Int}: ∀(F:Nat)(x:Ms (List Nd) Int),Rx.Reach mkI s b x->Rx.Reach mkI s b (runM s F x)
 | 0,x,h=>h
 | F+1,x,h=>by
  unfold runM;split
  ·rename_i hm
   exact zx F _ (.more h hm)
  ·exact h
theorem CU{s:ByteArray}: ∀(F:Nat)(x:Ms (List Nd) Int),yZ s x<=F->dh s.size (runM s F x).a (runM s F x).e=false
 | 0,x,h=>by
  unfold yZ at h;refine agU.2 fun hm=>?_;obtain⟨h1,h2⟩:=bY.1 hm;change x.e=0 at h1;rw[afR h1]at h;omega
 | F+1,x,h=>by
  unfold runM;split
  ·rename_i hm
   obtain⟨h1,h2⟩:=bY.1 hm;refine CU F _ ?_;unfold yZ at h⊢;rw[afR h1]at h;split
   ·rename_i h0
    have:=Rx.Em mkI s x h1 h2 h0;omega
   ·omega
  ·rename_i hm
   exact agU.2 hm
theorem Gu{s:ByteArray}(hs:s.size<=256):Reads s (wU s):=by
 have h:=zx (s:=s) (s.size+1) (nX []) (.refl _);refine⟨h,CU _ _ ?_,(Rx.Gv hs h).1⟩
 show(if (0:Int)=0 then s.size-0+1 else 0)<=_
 rw[afR rfl];omega
theorem aaL{s:ByteArray}(hs:s.size<=254)(h:(rdP s).2=0):dL (rdP s).1/\∀y∈(rdP s).1,y.Wd:=by
 obtain⟨h1,h2⟩:=Qo h;have hr:=Gu (s:=s) (by omega);rw[h2];exact⟨(Rx.CQ hs hr h1).ok,Le hr⟩
theorem vM{names:List ByteArray}{x:Rl}(h:(jh names x).2=0):(rdP x.re).2=0/\(jh names x).1=(rdP x.re).1/\Rx.gY (rdP x.re).1 []=false:=by
 unfold jh at h⊢;split at h
 ·cases h
 split at h
 ·cases h
 rename_i h1 h2;rw[afO h1,afO h2]
 by_cases h0:(rdP x.re).2=0
 ·rw[afR h0]at h
  refine⟨h0,rfl,agU.2 fun hm=>?_⟩;rw[afR hm]at h
  cases h
 ·rw[afO h0]at h
  exact absurd h h0
theorem Es{R:List Rl}(h:Gg R)(hs:∀x∈R,x.re.size<=254):(∀r∈jI R,dL r)/\∀r∈jI R,∀y∈r,y.Wd:=by
 have:∀r∈jI R,dL r/\∀y∈r,y.Wd:=fun r hr=>by
  obtain⟨x,hx,rfl⟩:=agv.1 hr;obtain⟨j,hj⟩:=ahv hx;exact aaL (hs x hx) (vM (h j x hj)).1
 exact⟨fun r hr=>(this r hr).1,fun r hr=>(this r hr).2⟩
theorem QA{R:List Rl}(h:Gg R)(hs:∀x∈R,x.re.size<=254)(hl:R.length<=16)(hc:(nfP R).cl.length<=1024):yN (nfP R):=by
 have hlen:(jI R).length=R.length:=agf _;exact(yM (Es h hs).1 (by omega) (jI R).length afD).1.nf hc
theorem Ee{R:List Rl}{tss:List (List Int)}{T:Sets}(h:oI R tss T)(hs:∀x∈R,x.re.size<=254)(hl:R.length<=16):
  okT (dB (eX (spl (nfP R).cl)) tss) (fF (nfP R).ru T)=true/\Lx.okL (lF R tss T).1 (lF R tss T).2 (kdP R).1 (kdP R).2=true:=by
 have o:=QA h.ok hs hl h.cl;have hB:=Bt.of (by decide) h.bl;have h1:=hB.ok o afD;have h2:=yV h1;obtain⟨k1,k2,k3,k4⟩:=vK _ R rfl;have hlen:(jI R).length=R.length:=agf _;have hr:∀r∈(nfP R).ru,-1<=r/\r<(R.length:Int):=fun r hr=>by
  have:=Qy (jI R) (jI R).length r hr;omega
 have hne:0<R.length:=List.length_pos_iff.2 h.ne;have hf:∀S,lX (nfP R).ru S<(R.length:Int):=fun S=>by
  have:∀(S:List Int)(o:Int),o<(R.length:Int)->S.foldl (ji (nfP R).ru) o<(R.length:Int):=by
   intro S
   induction S with
   | nil=>intro o h;exact h
   | cons k S ih =>
    intro o h;refine ih _ ?_;unfold ji;split
    ·have hz:∀i,(nfP R).ru.getD i (-1)<(R.length:Int):=fun i=>by
      rw[afG]
      cases hi:(nfP R).ru[i]? with
      | none=>simp only[Option.getD_none];omega
      | some v=>exact(hr v (af7 hi)).2
     split
     ·exact hz _
     ·exact h
    ·exact h
  exact this S (-1) (by omega)
 refine⟨h1,?_⟩;have h4:∀r∈(lF R tss T).2,r<(R.length:Int):=Qz h1 (fun r=>r<(R.length:Int)) fun r hm=>by
  obtain⟨S,_,rfl⟩:=agv.1 hm;exact hf S
 unfold Lx.okL;simp only[afU,afZ];refine⟨h2,k2,by omega,?_,agk.2 fun r hm=>?_⟩
 ·unfold Lx.inR
  refine agk.2 fun k hk=>?_;have:=k4 k hk;simp only[afU,afZ];exact this
 ·have:=h4 r hm
  rw[afZ,k1];exact this
end
section
open Go Go.Proofs Go.RowKit
open Rx (Nd dL iM jB vI)
attribute [local go_sem] Oper.semAt_some
theorem Gi:AX.sizeT Tryz.prog 29=some 4:=by kernel_rfl
theorem mY:AX.sizeT Tryz.prog 30=some 1:=by kernel_rfl
def wV:Array Value:=#[.slice none 0 0,.slice none 0 0,.slice none 0 0,.int .i64 0]
def Yr(L:Nat)(er:Int)(W:World)(e:Ending)(w':World):Prop:=e=.returned (.tuple #[])/\((er=0/\w'=W)\/(er≠0/\Bx w' L 29 wV/\(∀j,j≠L->w'.heap[j]?=W.heap[j]?)/\AX.Same W w'))
theorem Yt(E L:Nat)(er:Int)(cs:Array Value)(W:World)(hE:Bx W E 30 #[.int .i64 er])(hL:Bx W L 29 cs)(hc:cs.size=4):
  CallsD Tryz.prog 28 #[.pointer (some ⟨E,0,none⟩),.pointer (some ⟨L,0,none⟩)] .returning W fun e u' w'=>u'=.returning/\Yr L er W e w':=by
 have c0:W.cell? ⟨E,0,none⟩=some (.int .i64 er):=hE.cell 0;have HL:=Lib.hid hL;clear hE hL
 by_cases h0:er=0
 ·subst h0
  go_enter_d Tryz.func28,Tryz.ntmps28
  go_wp2_with fail
  exact bodyPost_end (v:=.tuple #[]) (by simp[results,Tryz.results28,go_sem]) rfl (by exact⟨rfl,.inl ⟨rfl,rfl⟩⟩)
 ·have hd:decide (er=0)=false:=agC h0
  go_enter_d Tryz.func28,Tryz.ntmps28
  go_wp2_with ((with_reducible refine bJ ?_);refine AX.aj (vs:=[.slice none 0 0,.slice none 0 0,.slice none 0 0,.int .i64 0]) rfl rfl Gi HL.out hc rfl ?_;rintro W9 g3 g4 g5)
  exact bodyPost_end (v:=.tuple #[]) (by simp[results,Tryz.results28,go_sem]) rfl (by exact⟨rfl,.inr ⟨h0,g3,g4,g5⟩⟩)
def RIn(S:Nat->Prop)(W:World)(v:Value)(r:List Nd):Prop:=v.oneCell'=true/\∀W',W.heap.size<=W'.heap.size->(∀k,S k->W'.heap[k]?=W.heap[k]?)->jB W' v r
theorem RIn.go{S S':Nat->Prop}{W W2:World}{v:Value}{r:List Nd}(h:RIn S W v r)(hs:W.heap.size<=W2.heap.size)(hk:∀k,S k->W2.heap[k]?=W.heap[k]?)(hS:∀k,S k->S' k):RIn S' W2 v r:=
 ⟨h.1,fun W' h1 h2=>h.2 W' (agb hs h1) fun k hk'=>(h2 k (hS k hk')).trans (hk k hk')⟩
theorem RIn.row{S:Nat->Prop}{W:World}{v:Value}{r:List Nd}(h:RIn S W v r):jB W v r:=h.2 W afD fun _ _=>rfl
theorem RIn.of{W W':World}{v:Value}{r:List Nd}(S:Nat->Prop)(h:vI W.heap.size W' v r)(ho:v.oneCell'=true):RIn (fun k=>S k\/(W.heap.size<=k/\k<W'.heap.size)) W' v r:=
 ⟨ho,fun W2 h1 h2=>h W2 h1 fun j hj hlt=>h2 j (.inr ⟨hj,hlt⟩)⟩
structure Lb(w:World)(L E M:Nat)(names:List ByteArray)(kd:List Int×Int)(vals:List Value)(rs:List (List Nd))(av kv:Value)(S:Nat->Prop)(wz:World):Prop where
 lo:Below w.heap.size w wz
 lb:Bx wz L 29 #[.slice none 0 0,.slice none 0 0,kv,.int .i64 kd.2]
 eb:Bx wz E 30 #[.int .i64 0]
 mp:wz.heap[M]?=some (.map (dQ 0 names).toArray names.length)
 ao:wz.ownsRow w.heap.size 44 1 av vals.length vals
 ko:bG wz w.heap.size kv kd.1
 vl:vals.length=rs.length
 vr:∀(j:Nat) v r,vals[j]?=some v->rs[j]?=some r->RIn S wz v r
 sd:∀k,S k->k<wz.heap.size/\k≠L/\k≠M/\av.ownBlock≠some k/\kv.ownBlock≠some k
 bl:w.heap.size<=L
 bm:w.heap.size<=M
section
variable {w wz wy wx : World} {L E M : Nat} {names : List ByteArray} {kd : List Int × Int} {vals : List Value} {rs : List (List Nd)} {av kv v' : Value} {S : Nat -> Prop}
theorem Lb.mlt(h:Lb w L E M names kd vals rs av kv S wz):M<wz.heap.size:=(afF.1 h.mp).1
theorem nom{W:World}{B M:Nat}{t:TypeId}{cs:Array Value}{es:Array MapEntry}{c:Nat}(h:Bx W B t cs)(hM:W.heap[M]?=some (.map es c)):B≠M:=fun e=>by
 subst e;rw[show W.heap[B]?=_ from h]at hM
 cases hM
theorem xQ{W:World}{base M:Nat}{e:TypeId}{k:Nat}{v:Value}{n:Nat}{xs:List Value}{es:Array MapEntry}{c:Nat}(h:W.ownsRow base e k v n xs)(hM:W.heap[M]?=some (.map es c)):v.ownBlock≠some M:=fun e=>by
 obtain⟨cs,hc⟩:=iq h M e;rw[hM]at hc
 cases hc
theorem Lb.low(h:Lb w L E M names kd vals rs av kv S wz)(hb:Below wz.heap.size wz wy):Lb w L E M names kd vals rs av kv S wy:=
 ⟨h.lo.trans (hb.mono h.lo.size),h.lb.below hb h.lb.lt,h.eb.below hb h.eb.lt,(hb.block M h.mlt).trans h.mp,aZ h.ao hb,aZ h.ko hb,h.vl,
  fun j v r h1 h2=>(h.vr j v r h1 h2).go hb.size (fun k hk=>hb.block k (h.sd k hk).1) fun _ hk=>hk,
  fun k hk=>⟨afN (h.sd k hk).1 hb.size,(h.sd k hk).2⟩,h.bl,h.bm⟩
theorem Lb.rule{names':List ByteArray}(h:Lb w L E M names kd vals rs av kv S wz)(hb:AX.But M wz wy)(hm:wy.heap[M]?=some (.map (dQ 0 names').toArray names'.length)):
  Lb w L E M names' kd vals rs av kv (fun k=>S k\/(wz.heap.size<=k/\k<wy.heap.size)) wy:=
 ⟨h.lo.trans (hb.below h.lo.size h.bm),(hb.same L h.lb.lt (nom h.lb h.mp)).trans h.lb,(hb.same E h.eb.lt (nom h.eb h.mp)).trans h.eb,hm,
  bP h.ao fun g hg=>hb.same g (World.ownsRow.lt h.ao g hg).2 fun e=>xQ h.ao h.mp (e▸ hg),
  bP h.ko fun g hg=>hb.same g (World.ownsRow.lt h.ko g hg).2 fun e=>xQ h.ko h.mp (e▸ hg),h.vl,
  fun j v r h1 h2=>(h.vr j v r h1 h2).go hb.low.size (fun k hk=>hb.same k (h.sd k hk).1 (h.sd k hk).2.2.1) fun _ hk =>.inl hk,
  fun k hk=>by
   have hs:=hb.low.size;rcases hk with hk|⟨h1,h2⟩
   ·exact⟨afN (h.sd k hk).1 hs,(h.sd k hk).2⟩
   ·have:=h.lb.lt
    have:=h.mlt;exact⟨h2,by omega,by omega,fun e=>by have:=(World.ownsRow.lt h.ao k e).2;omega,fun e=>by have:=(World.ownsRow.lt h.ko k e).2;omega⟩,h.bl,h.bm⟩
theorem Gw{a b:Option Nat}{k n:Nat}(h:b=a\/b=some n)(hk:k<n)(ha:a≠some k):b≠some k:=by
 rcases h with h|h
 ·rw[h];exact ha
 ·rw[h];intro e;cases e;omega
theorem Lb.adn{v:Value}{r:List Nd}(h:Lb w L E M names kd vals rs av kv S wz)(hr:RIn S wz v r)(ho:wy.ownsRow w.heap.size 44 1 v' (vals++[v]).length (vals++[v]))(hg:wz.grownBy wy av.ownBlock)(hv:v'.ownBlock=av.ownBlock\/v'.ownBlock=some wz.heap.size):
  Lb w L E M names kd (vals++[v]) (rs++[r]) v' kv S wy:=by
 have hs:dH 44 wz wy:=aX h.ao hg;have hk:∀k,S k->wy.heap[k]?=wz.heap[k]?:=fun k hk=>hg.block k (h.sd k hk).1 fun e=>(h.sd k hk).2.2.2.1 e.symm;refine⟨h.lo.grown hg h.lo.size fun k e=>(World.ownsRow.lt h.ao k e).1,h.lb.aW hs (by decide),h.eb.aW hs (by decide),(hg.block M h.mlt fun e=>xQ h.ao h.mp e.symm).trans h.mp,ho,aC h.ko hs (by decide),by simp[h.vl],fun j v0 r0 h1 h2=>?_,fun k hk=>⟨afN (h.sd k hk).1 hg.size,(h.sd k hk).2.1,(h.sd k hk).2.2.1,Gw hv (h.sd k hk).1 (h.sd k hk).2.2.2.1,(h.sd k hk).2.2.2.2⟩,h.bl,h.bm⟩
 by_cases hj:j<vals.length
 ·rw[af6 hj]at h1
  rw[af6 (by rw[<-h.vl];exact hj)]at h2;exact(h.vr j v0 r0 h1 h2).go hg.size hk fun _ hk=>hk
 ·have hj2:j=vals.length:=by
   have:=(afW.1 h1).1;simp at this;omega
  subst hj2;rw[aga afD,aho]at h1;rw[h.vl,aga afD,aho]at h2;simp at h1 h2;subst h1 h2;exact hr.go hg.size hk fun _ hk=>hk
theorem Lb.num{n:Int}(h:Lb w L E M names kd vals rs av kv S wz)(x:Bx wx L 29 #[.slice none 0 0,.slice none 0 0,kv,.int .i64 n])(g4:∀j,j≠L->wx.heap[j]?=wz.heap[j]?)(g5:AX.Same wz wx):
  Lb w L E M names (kd.1,n) vals rs av kv S wx:=by
 have hs:dH 29 wz wx:=aP h.lb g4;have hb:Below w.heap.size wz wx:=AX.ah h.bl (.inl x.lt) g4 g5;exact⟨h.lo.trans hb,x,h.eb.aW hs (by decide),(g4 M (nom h.lb h.mp).symm).trans h.mp,aC h.ao hs (by decide),aC h.ko hs (by decide),h.vl,fun j v0 r0 h1 h2=>(h.vr j v0 r0 h1 h2).go hb.size (fun k hk=>g4 k (h.sd k hk).2.1) fun _ hk=>hk,
  fun k hk=>⟨afN (h.sd k hk).1 hb.size,(h.sd k hk).2⟩,h.bl,h.bm⟩
theorem Lb.aaM{l:List Int}(h:Lb w L E M names kd vals rs av kv S wz)(ho:bG wy w.heap.size v' l)(hg:wz.grownBy wy kv.ownBlock)(hv:v'.ownBlock=kv.ownBlock\/v'.ownBlock=some wz.heap.size)
  (x:Bx wx L 29 #[.slice none 0 0,.slice none 0 0,v',.int .i64 kd.2]) (g4:∀j,j≠L->wx.heap[j]?=wy.heap[j]?) (g5:AX.Same wy wx):Lb w L E M names (l,kd.2) vals rs av v' S wx:=by
 have hs:dH 3 wz wy:=aX h.ko hg;have hl:=h.lb.aW hs (by decide);have hs2:dH 29 wy wx:=aP hl g4;have hb:Below w.heap.size wy wx:=AX.ah h.bl (.inl x.lt) g4 g5;have hM:wy.heap[M]?=some (.map (dQ 0 names).toArray names.length):=(hg.block M h.mlt fun e=>xQ h.ko h.mp e.symm).trans h.mp;refine⟨(h.lo.grown hg h.lo.size fun k e=>(World.ownsRow.lt h.ko k e).1).trans hb,x,(h.eb.aW hs (by decide)).aW hs2 (by decide),(g4 M (nom hl hM).symm).trans hM,aC (aC h.ao hs (by decide)) hs2 (by decide),aC ho hs2 (by decide),h.vl,fun j v0 r0 h1 h2=>(h.vr j v0 r0 h1 h2).go (agb hg.size hb.size) (fun k hk=>(g4 k (h.sd k hk).2.1).trans (hg.block k (h.sd k hk).1 fun e=>(h.sd k hk).2.2.2.2 e.symm)) fun _ hk=>hk,
  fun k hk=>⟨afN (afN (h.sd k hk).1 hg.size) hb.size,(h.sd k hk).2.1,(h.sd k hk).2.2.1,(h.sd k hk).2.2.2.1,Gw hv (h.sd k hk).1 (h.sd k hk).2.2.2.2⟩,h.bl,h.bm⟩
theorem Lb.rows(h:Lb w L E M names kd vals rs av kv S wz):∃la c,av=.slice la rs.length c/\PK wz la rs:=by
 rcases h.ao.2 with ⟨e,hn⟩|⟨g,cap,cur,e,hg,hh,_⟩
 ·have hz:rs.length=0:=by rw[<-h.vl];exact hn
  refine⟨none,0,by rw[e,hz],fun i r hr=>?_⟩;have:=(afW.1 hr).1;omega
 ·refine⟨some ⟨g,0,none⟩,cap,by rw[e,h.vl],fun i r hr=>?_⟩
  have hi:=(afW.1 hr).1;have hv:vals[i]?=some (vals[i]'(by rw[h.vl];exact hi)):=afE _;have hR:=h.vr i _ r hv hr;have hc:=World.ownsRow.cells h.ao (g:=g) (by rw[e];rfl) i _ hv;rw[addr_add]at hc;exact⟨g,0,rfl,(afF.1 hh).1,_,hR.1,hc,hR.row⟩
end
theorem Yu:(Tryz.prog.info? 44).map (fun i=>(i.zero,i.size,i.bytes))=some (some (.slice none 0 0),1,24):=by kernel_rfl
section
variable {ops : Array Oper} {rest : List Oper} {a : Act} {W : World} {Q : Exit -> Act -> World -> Prop} {dst : Option Tmp} {ty : TypeId} {pos : String} {after : Array Edge} {s x : Operand}
theorem Yv(h:wpList Tryz.prog ops Q ({dst:=dst,op:=.call {callee:=.builtin .append,args:=#[s,x],argTypes:=#[68,68]},type:=ty,pos:=pos,after:=after,guard:=none}::rest) a W):wpList Tryz.prog ops Q ({dst:=dst,op:=.call {callee:=.builtin .append,args:=#[s,x],argTypes:=#[68,68]},type:=ty,pos:=pos,after:=after,guard:=none}::rest) a W:=h
theorem Et(base:Nat)(v:Value)(l:List Value)(y:Value)(hs:a.eval s=v)(hown:W.ownsRow base 44 1 v l.length l)(B c:Nat)(hx:a.eval x=.slice (some ⟨B,0,none⟩) 1 c)
  (hc:Bx W B 44 #[y]) (hy:y.oneCell'=true) (hl:l.length<=1000000) (hb:base<=W.heap.size)
  (h:∀v' w',w'.ownsRow base 44 1 v' (l++[y]).length (l++[y])->W.grownBy w' v.ownBlock->(v'.ownBlock=v.ownBlock\/v'.ownBlock=some W.heap.size)->wpList Tryz.prog ops Q rest (a.put dst v') w'):wpList Tryz.prog ops Q ({dst:=dst,op:=.call {callee:=.builtin .append,args:=#[s,x],argTypes:=#[68,68]},type:=ty,pos:=pos,after:=after,guard:=none}::rest) a W:=by
 obtain⟨ti,hi,hz0,hz1,hz2⟩:=info_parts Yu;obtain⟨v',w',hr,h2,h3,h4,h5⟩:=run_append_own_at (P:=Tryz.prog) W base 68 ty 44 ti (.slice none 0 0) 1 24 Tryz.underlying68 hi hz0 hz1 hz2 rfl (by decide) v l.length _ hown ⟨B,0,none⟩ 1 c [y] rfl
  (fun j u hj=>by rw[addr_add,af9,hc.cell];simpa using hj) (fun u hu=>by rw[afK.1 hu];exact hy) (by unfold maxLen;omega) (by omega) hb
 refine wpList_plain rfl fun K hK=>?_;unfold Oper.wp execOp;simp only[resolve,invoke,builtin,Sem.run_bind,Sem.run_pure,Result.andThen_ok,agh,agd,agm,hs,hx,hr];refine hK _ _ (h v' w' ?_ h3 h5);rw[afP];exact h2
end
end
end Go.Proofs.YtkjgogdkdejljaaGreatDoor.Df
