import Derived.Test.YtkjgogdkdejljaaGreatDoorLxL32
import Derived.Laws.Cover1
set_option maxRecDepth 100000
set_option maxHeartbeats 40000000
namespace Go.Proofs.YtkjgogdkdejljaaGreatDoor.Df
section
open Go.Lib (hid)
open Go Go.Proofs Go.RowKit
attribute [local go_sem] Oper.semAt_some
structure oL(w:World)(next rule:List Int)(an ar:Option Addr):Prop where
 T:Tb next rule
 m:rule.length<=512
 hN:aH w an next
 hR:aH w ar rule
theorem oL.below{n:Nat}{w w':World}{next rule:List Int}{an ar:Option Addr}(h:oL w next rule an ar)(hb:Below n w w')(hn:w.heap.size<=n):oL w' next rule an ar:=⟨h.T,h.m,h.hN.below hb hn,h.hR.below hb hn⟩
theorem oL.of{w:World}{next rule:List Int}{an ar:Option Addr}(hok:okT next rule=true)(hN:aH w an next)(hR:aH w ar rule):oL w next rule an ar:=by
 refine⟨Tb.of hok,?_,hN,hR⟩;simp only[okT,afU,afZ]at hok;exact hok.2.1
theorem oL.nxt{w:World}{next rule:List Int}{an ar:Option Addr}(h:oL w next rule an ar){k:Nat}(hk:k<256*rule.length):∃b off,an=some ⟨b,off,none⟩/\b<w.heap.size/\w.cell? ⟨b,off+k,none⟩=some (.int .i64 (next.getD k 0)):=by
 have hl:k<next.length:=by rw[h.T.len];exact hk
 obtain⟨b,off,h1,h2,h3⟩:=h.hN.at hl;exact⟨b,off,h1,h2,by rw[h3];simp[hl]⟩
theorem oL.rul{w:World}{next rule:List Int}{an ar:Option Addr}(h:oL w next rule an ar){k:Nat}(hk:k<rule.length):∃b off,ar=some ⟨b,off,none⟩/\b<w.heap.size/\w.cell? ⟨b,off+k,none⟩=some (.int .i64 (rule.getD k 0)):=by
 obtain⟨b,off,h1,h2,h3⟩:=h.hR.at hk;exact⟨b,off,h1,h2,by rw[h3];simp[hk]⟩
def gy(next:List Int)(n i b:Nat):Int:=if i=n then (n:Int)else if next.getD (256*i+b) 0<0 then (n:Int)else next.getD (256*i+b) 0
theorem zJ{next rule:List Int}(T:Tb next rule){i b:Nat}(hi:i<=rule.length)(hb:b<256):0<=gy next rule.length i b/\gy next rule.length i b<=(rule.length:Int):=by
 unfold gy;split
 ·omega
 ·have:=T.nb (256*i+b) (by omega)
  split<;>omega
theorem Q8{next rule:List Int}{an ar:Option Addr}{w:World}(cn cr:Nat)(h:oL w next rule an ar)(i c:Nat)(hi:i<=rule.length)(hc:c<256):
  Calls Tryz.prog 51 #[.agg #[.slice an next.length cn,.slice ar rule.length cr],.int .i64 i,.int .i64 c] w fun e w'=>e=.returned (.int .i64 (gy next rule.length i c))/\Below w.heap.size w w':=by
 have hB:=(afI w.heap.size w).alloc afD (.cells #[.slice an next.length cn,.slice ar rule.length cr] 27);have hT:=h.below hB afD;obtain⟨rv,hrv⟩:=afC (gy next rule.length i c)
 have HV:=hid hrv;rw[<-hrv];clear hrv
 by_cases h0:i=rule.length
 ·have hv:Hid (rv=(rule.length:Int)):=hid (by rw[HV.out];unfold gy;rw[afR h0])
  have e1:((i:Int) == (rule.length:Int))=true:=ahe.2 (by omega);have e2:(i:Int)=(rule.length:Int):=by omega
  clear h hT hi h0;generalize next.length=N at *
  generalize rule.length=R at *;go_enter Tryz.func51,Tryz.ntmps51
  go_wp2_with fail
  exact afJ (v:=.int .i64 R) (by simp[results,Tryz.results51,go_sem]) rfl ⟨by rw[hv.out],hB⟩
 ·obtain⟨b,off,rfl,hb,hcell⟩:=hT.nxt (k:=256*i+c) (by omega)
  have hbd:=h.T.nb (256*i+c) (by omega);have hz:next.length<=131072:=by rw[h.T.len];have:=h.m;omega
  have hv:Hid (rv=if next.getD (256*i+c) 0<0 then (rule.length:Int)else next.getD (256*i+c) 0):=hid (by rw[HV.out];unfold gy;rw[afO h0]);have e1:((i:Int) == (rule.length:Int))=false:=agn.2 (by omega);have e2:¬(i:Int)=(rule.length:Int):=by omega
  have hm:=h.m;have k2:256*(i:Int)+(c:Int)<(next.length:Int):=by have:=h.T.len;omega
  have k1:(0:Int)<=256*(i:Int)+(c:Int):=by omega
  have k3:(256*(i:Int)+(c:Int)).toNat=256*i+c:=by omega
  have k4:(i:Int)<=512:=by omega
  have k5:(c:Int)<256:=by omega
  generalize next.getD (256*i+c) 0=x at *
  clear h hT hi h0 HV;generalize next.length=N at *
  generalize rule.length=R at *
  by_cases hx:x<0
  ·have hv2:rv=(R:Int):=by rw[hv.out,afR hx]
   have HV2:=hid hv2;clear hv hv2;go_enter Tryz.func51,Tryz.ntmps51
   go_wp2_with fail
   exact afJ (v:=.int .i64 R) (by simp[results,Tryz.results51,go_sem]) rfl ⟨by rw[HV2.out],hB⟩
  ·have hv2:rv=x:=by rw[hv.out,afO hx]
   have HV2:=hid hv2;clear hv hv2;go_enter Tryz.func51,Tryz.ntmps51
   go_wp2_with fail
   exact afJ (v:=.int .i64 x) (by simp[results,Tryz.results51,go_sem]) rfl ⟨by rw[HV2.out],hB⟩
theorem NW{next rule:List Int}{an ar:Option Addr}{w:World}(cn cr:Nat)(h:oL w next rule an ar)(i c:Nat)(hi:i<rule.length)(hc:c<256):
  Calls Tryz.prog 52 #[.agg #[.slice an next.length cn,.slice ar rule.length cr],.int .i64 i,.int .i64 c] w fun e w'=>e=.returned (.int .i64 (nxt next (i:Int) c))/\Below w.heap.size w w':=by
 have hB:=(afI w.heap.size w).alloc afD (.cells #[.slice an next.length cn,.slice ar rule.length cr] 27);have hT:=h.below hB afD;have hv:nxt next (i:Int) c=next.getD (256*i+c) 0:=by unfold nxt;rw[afO (by omega),afY]
 rw[hv];clear hv;obtain⟨b,off,rfl,hb,hcell⟩:=hT.nxt (k:=256*i+c) (by omega);simp only[World.size_alloc]at hb;have hm:=h.m;have k0:¬(i:Int)<0:=by omega
 have k2:256*(i:Int)+(c:Int)<(next.length:Int):=by have:=h.T.len;omega
 have k1:(0:Int)<=256*(i:Int)+(c:Int):=by omega
 have k3:(256*(i:Int)+(c:Int)).toNat=256*i+c:=by omega
 have k4:(i:Int)<=512:=by omega
 have k5:(c:Int)<256:=by omega
 generalize next.getD (256*i+c) 0=x at *
 clear h hT hi;generalize next.length=N at *
 generalize rule.length=R at *;go_enter Tryz.func52,Tryz.ntmps52
 go_wp2_with fail
 exact afJ (v:=.int .i64 x) (by simp[results,Tryz.results52,go_sem]) rfl ⟨rfl,hB⟩
theorem LC{next rule:List Int}{an ar:Option Addr}{w:World}(cn cr:Nat)(h:oL w next rule an ar):
  Calls Tryz.prog 49 #[.agg #[.slice an next.length cn,.slice ar rule.length cr]] w fun e w'=>e=.returned (.int .i64 0)/\Below w.heap.size w w':=by
 obtain⟨W0,hW0⟩:=afC (w.alloc (.cells #[.slice an next.length cn,.slice ar rule.length cr] 27));have hB:=(afI w.heap.size w).alloc afD (.cells #[.slice an next.length cn,.slice ar rule.length cr] 27);have xb:=Bx.new w 27 #[.slice an next.length cn,.slice ar rule.length cr];rw[<-hW0]at hB xb;have hT:=h.below hB afD;have P1:Hid (∀k,k<next.length->∃b off,an=some ⟨b,off,none⟩/\b<W0.heap.size/\W0.cell? ⟨b,off+k,none⟩=some (.int .i64 (next.getD k 0))):=hid fun k hk=>hT.nxt (by rw[<-h.T.len];exact hk);have P2:Hid (∀k,k<rule.length->∃b off,ar=some ⟨b,off,none⟩/\b<W0.heap.size/\W0.cell? ⟨b,off+k,none⟩=some (.int .i64 (rule.getD k 0))):=hid fun k hk=>hT.rul hk;have Q1:Hid (∀k,k<next.length -> -1<=next.getD k 0/\next.getD k 0<(rule.length:Int)):=hid fun k hk=>h.T.nb k (by rw[<-h.T.len];exact hk);have Q2:Hid (∀k,k<rule.length -> -1<=rule.getD k 0/\rule.getD k 0<16):=hid fun k hk=>h.T.rb k hk;have hl:=h.T.len;have h1:=h.T.one;have hm:=h.m;obtain⟨gn,hgn⟩:∃g:Nat->Int,g=fun k=>next.getD k 0:=⟨_,rfl⟩
 obtain⟨gr,hgr⟩:∃g:Nat->Int,g=fun k=>rule.getD k 0:=⟨_,rfl⟩;replace P1:Hid (∀k,k<next.length->∃b off,an=some ⟨b,off,none⟩/\b<W0.heap.size/\W0.cell? ⟨b,off+k,none⟩=some (.int .i64 (gn k))):=by rw[hgn];exact P1
 replace P2:Hid (∀k,k<rule.length->∃b off,ar=some ⟨b,off,none⟩/\b<W0.heap.size/\W0.cell? ⟨b,off+k,none⟩=some (.int .i64 (gr k))):=by rw[hgr];exact P2
 replace Q1:Hid (∀k,k<next.length -> -1<=gn k/\gn k<(rule.length:Int)):=by rw[hgn];exact Q1
 replace Q2:Hid (∀k,k<rule.length -> -1<=gr k/\gr k<16):=by rw[hgr];exact Q2
 clear h hT hgn hgr;obtain⟨X,hX⟩:=afC w.heap.size;rw[<-hX]at xb;generalize next.length=N at *
 generalize rule.length=R at *;have d0:W0.cell? ⟨X,0,none⟩=some (.slice an N cn):=xb.cell 0;have d1:W0.cell? ⟨X,1,none⟩=some (.slice ar R cr):=xb.cell 1;have a1:¬(R:Int)<1:=by omega
 have a2:¬(512:Int)<(R:Int):=by omega
 have a3:((N:Int) != 256*(R:Int))=false:=by rw[hl];simp
 have a4:(N:Int)=256*(R:Int):=by omega
 have HL:=hid hl;have hR5:(R:Int)<=512:=by omega
 have hN7:(N:Int)<=131072:=by omega
 clear hl;go_enter Tryz.func49,Tryz.ntmps49
 go_upto_region 1 with fail
 rw[<-hW0,<-hX];clear hW0 hX xb;go_upto_region 5 with fail
 clear a3 a4;go_loopw [4] (fun v wr=>∃i:Nat,v=.int .i64 i/\i<=R/\wr=W0) (fun v _=>R-(RowKit.intOf v).toNat)
 case atStart=>exact⟨0,rfl,af0 _,rfl⟩
 case round =>
  obtain⟨i,rfl,hi,rfl⟩:=hrel;have i0:(0:Int)<=(i:Int):=by omega
  by_cases hlt:i<R
  ·have i1:(i:Int)<(R:Int):=by omega
   obtain⟨b,off,rfl,hb,hc⟩:=P2.out i hlt;obtain⟨c1,c2⟩:=Q2.out i hlt;generalize gr i=x at hc c1 c2;have c3:¬x < -1:=(by omega);have c4:¬(16:Int)<=x:=(by omega);go_wp2_with fail
   exact⟨⟨i+1,by simp,by omega,trivial⟩,by simp[RowKit.intOf];omega⟩
  ·have i1:¬(i:Int)<(R:Int):=by omega
   go_upto_region 10 with fail
   go_loopw [5] (fun v w2=>∃i:Nat,v=.int .i64 i/\i<=N/\w2=wr) (fun v _=>N-(RowKit.intOf v).toNat)
   case atStart=>exact⟨0,rfl,af0 _,rfl⟩
   case round =>
    obtain⟨j,rfl,hj,rfl⟩:=hrel;have j0:(0:Int)<=(j:Int):=by omega
    by_cases hlt2:j<N
    ·have j1:(j:Int)<(N:Int):=by omega
     obtain⟨b,off,rfl,hb,hc⟩:=P1.out j hlt2;obtain⟨c1,c2⟩:=Q1.out j hlt2;generalize gn j=x at hc c1 c2;have c3:¬x < -1:=(by omega);have c4:¬(R:Int)<=x:=(by omega);go_wp2_with fail
     exact⟨⟨j+1,by simp,by omega,trivial⟩,by simp[RowKit.intOf];omega⟩
    ·have j1:¬(j:Int)<(N:Int):=by omega
     go_wp2_with fail
     exact afJ (v:=.int .i64 0) (by simp[results,Tryz.results49,go_sem]) rfl ⟨rfl,hB⟩
end
section
open Go Go.Proofs Go.RowKit
def dJ:Nat->List Int->List MapEntry
 | _,[]=>[]
 | o,k::T=>{key:=.int .i64 k,val:=.int .i64 (o:Int),born:=o}::dJ (o+1) T
theorem yY:∀(o:Nat)(T:List Int)(k:Int),dJ o (T++[k])=dJ o T++[{key:=.int .i64 k,val:=.int .i64 ((o+T.length:Nat):Int),born:=o+T.length}]
 | o,[],k=>by simp[dJ]
 | o,u::T,k=>by
  show _::dJ (o+1) (T++[k])=_::(dJ (o+1) T++_)
  rw[yY (o+1) T k,agl,show o+1+T.length=o+(T.length+1)by omega]
theorem vG:∀(o:Nat)(T:List Int)(j:Nat)(e:MapEntry),(dJ o T)[j]?=some e->∃k,T[j]?=some k/\e.key=.int .i64 k/\e.val=.int .i64 ((o+j:Nat):Int)
 | _,[],j,e,h=>by simp[dJ]at h
 | o,k::T,0,e,h=>by
  simp[dJ]at h;subst h;exact⟨k,rfl,rfl,rfl⟩
 | o,k::T,j+1,e,h=>by
  simp only[dJ,ahE]at h;obtain⟨u,h1,h2,h3⟩:=vG (o+1) T j e h;exact⟨u,by simpa using h1,h2,by rw[h3];congr 2;omega⟩
theorem Nv{T:List Int}{k:Int}(h:k∈T):∃e∈dJ 0 T,e.key=.int .i64 k:=by
 have:∀(o:Nat)(T:List Int),k∈T->∃e∈dJ o T,e.key=.int .i64 k:=by
  intro o T
  induction T generalizing o with
  | nil=>intro h;cases h
  | cons u T ih =>
   intro h;rcases afX.1 h with rfl|h
   ·exact⟨_,afS ..,rfl⟩
   ·obtain⟨e,he,h2⟩:=ih (o+1) h
    exact⟨e,afV _ he,h2⟩
 exact this 0 T h
def fx(T:List Int)(k:Int):Nat:=T.findIdx (· == k)
theorem Xi{W:World}{T:List Int}{k:Int}(hn:T.Nodup):(Instr.findKey 3 (.int .i64 k) (dJ 0 T)).run Tryz.prog W=.ok (if fx T k<T.length then some (fx T k,.int .i64 (fx T k:Int))else none) W:=by
 have hd:Tryz.prog.underlying 3=some (.int .i64):=Tryz.underlying3;have hkk:MapKept.IsKey (.int .i64) (Value.int .i64 k):=rfl;have hks:∀x∈dJ 0 T,MapKept.IsKey (.int .i64) x.key:=fun x hx=>by
  obtain⟨j,hj⟩:=ahv hx;obtain⟨u,_,e,_⟩:=vG 0 T j x hj;rw[e];rfl
 rcases MapKept.findNow_spec hkk (dJ 0 T) 0 hks with ⟨h1,h2⟩|⟨j,e,h1,h2,h3⟩
 ·have hno:k∉T:=fun h=>by
   obtain⟨e,he,h3⟩:=Nv h;exact h2 e he h3
  have:¬fx T k<T.length:=fun h=>by
   unfold fx at h;have:=ag4 (w:=h);simp only[ahe]at this;exact hno (this▸ agu h)
  rw[afO this];exact MapKept.run_findKey hd h1
 ·obtain⟨u,h4,h5,h6⟩:=vG 0 T j e h2
  have hu:u=k:=by
   have:=h5.symm.trans h3;exact (Value.int.inj this).2
  subst hu;obtain⟨hj,hju⟩:=afW.1 h4;have hlt:fx T u<T.length:=agT ⟨u,af7 h4,by simp⟩;have hfj:fx T u=j:=by
   have h7:T[fx T u]=u:=by
    have:=ag4 (w:=hlt);simp only[ahe]at this;exact this
   exact (aib hn).1 (h7.trans hju.symm)
  rw[afR hlt,hfj];have:=MapKept.run_findKey hd h1 (w:=W)
  simpa[h6]using this
theorem Xj{W:World}{r:Nat}{T:List Int}{c:Nat}{k:Int}(hb:W.heap[r]?=some (.map (dJ 0 T).toArray c))(hn:T.Nodup):
  (Instr.lookup 100 (.map (some r)) (.int .i64 k) true).run Tryz.prog W=.ok (.tuple #[.int .i64 (if fx T k<T.length then (fx T k:Int)else 0),.bool (decide (fx T k<T.length))]) W:=by
 have hm:Tryz.prog.underlying 100=some (.map 3 3):=Tryz.underlying100;have hd:Tryz.prog.underlying 3=some (.int .i64):=Tryz.underlying3;have hc:(Instr.checkKey (dJ 0 T).toArray.isEmpty 10000 3 (.int .i64 k)).run Tryz.prog W=.ok () W:=MapKept.run_checkKey hd (k:=.int .i64 k) rfl _ 9999;have hf:=Xi (W:=W) (k:=k) hn;have hz:=Tryz.zeroValue3
 by_cases h:fx T k<T.length
 ·rw[afR h]at hf
  rw[afR h,agL h];simp only[Instr.lookup,Sem.run_bind,run_underlying hm,Result.andThen_ok,MapKept.run_getObj_map hb,Sem.run_pure,hc,hf];rfl
 ·rw[afO h]at hf
  rw[afO h,agC h];simp only[Instr.lookup,Sem.run_bind,run_underlying hm,Result.andThen_ok,MapKept.run_getObj_map hb,Sem.run_pure,hc,hf,hz];rfl
theorem Qh{W:World}{r:Nat}{T:List Int}{k:Int}(hb:W.heap[r]?=some (.map (dJ 0 T).toArray T.length))(hn:T.Nodup)(hno:¬fx T k<T.length):
  ∃W',(Instr.mapUpdate 100 (.map (some r)) (.int .i64 k) (.int .i64 T.length)).run Tryz.prog W=.ok () W'/\W'.heap[r]?=some (.map (dJ 0 (T++[k])).toArray (T++[k]).length)/\AX.But r W W':=by
 have hm:Tryz.prog.underlying 100=some (.map 3 3):=Tryz.underlying100;have hd:Tryz.prog.underlying 3=some (.int .i64):=Tryz.underlying3;have hf:=Xi (W:=W) (k:=k) hn;rw[afO hno]at hf;have hc:(Instr.checkKey false 10000 3 (.int .i64 k)).run Tryz.prog W=.ok () W:=MapKept.run_checkKey hd (k:=.int .i64 k) rfl _ 9999;have hx:((dJ 0 T).toArray.push {key:=.int .i64 k,val:=.int .i64 (T.length:Int),born:=T.length})=(dJ 0 (T++[k])).toArray:=by
  rw[yY,af9];simp
 refine⟨{W with heap:=W.heap.setIfInBounds r (.map ((dJ 0 T).toArray.push {key:=.int .i64 k,val:=.int .i64 (T.length:Int),born:=T.length}) (T.length+1))},?_,?_,⟨⟨rfl,rfl,rfl,by simp,fun j hj=>absurd hj (agp _)⟩,fun j hj hne=>(MapKept.heap_set hb).2 j hne⟩⟩
 ·simp only[Instr.mapUpdate,Sem.run_bind,run_underlying hm,Result.andThen_ok,MapKept.run_getObj_map hb,hc,hf,MapKept.run_setObj_map _ hb]
 ·rw[<-hx,afP]
  exact (MapKept.heap_set hb).1
end
end Go.Proofs.YtkjgogdkdejljaaGreatDoor.Df
namespace Go.Proofs.YtkjgogdkdejljaaGreatDoor.Rx
section
abbrev Lg:=List Int->Prop
def gu:Lg:=fun _=>False
def qy:Lg:=fun s=>s=[]
def lor(A B:Lg):Lg:=fun s=>A s\/B s
def Fv(A B:Lg):Lg:=fun s=>∃u v,s=u++v/\A u/\B v
inductive qJ (A:Lg):Lg
 | nil:qJ A []
 | more {u v:List Int}: A u->qJ A v->qJ A (u++v)
inductive Path (H:Nat->Int->Prop) (G:Nat->Nat->Prop) (L:Nat->Prop):Nat->List Int->Prop
 | one {p:Nat} {c:Int}: H p c->L p->Path H G L p [c]
 | cons {p q:Nat} {c:Int} {s:List Int}: H p c->G p q->Path H G L q s->Path H G L p (c::s)
def Run(H:Nat->Int->Prop)(F L:Nat->Prop)(G:Nat->Nat->Prop)(s:List Int):Prop:=∃p,F p/\Path H G L p s
variable {H : Nat -> Int -> Prop} {G G' G1 G2 : Nat -> Nat -> Prop} {L L' L1 L2 F F1 F2 P P1 P2 : Nat -> Prop}
theorem Path.inside(hG:∀p q,P p->G p q->G' p q/\P q)(hL:∀p,P p->L p->L' p){p:Nat}{s:List Int}(h:Path H G L p s):P p->Path H G' L' p s:=by
 induction h with
 | one hc hl=>intro hp;exact .one hc (hL _ hp hl)
 | cons hc hg _ ih=>intro hp;exact .cons hc (hG _ _ hp hg).1 (ih (hG _ _ hp hg).2)
theorem Path.mono(hG:∀p q,G p q->G' p q)(hL:∀p,L p->L' p){p:Nat}{s:List Int}(h:Path H G L p s):Path H G' L' p s:=
 h.inside (P:=fun _=>True) (fun p q _ hg=>⟨hG p q hg,trivial⟩) (fun p _ hl=>hL p hl) trivial
theorem Path.append(hJ:∀p q,L1 p->F q->G p q){p q:Nat}{u v:List Int}(h:Path H G L1 p u)(hq:F q)(hv:Path H G L q v):Path H G L p (u++v):=by
 induction h with
 | one hc hl=>exact .cons hc (hJ _ _ hl hq) hv
 | cons hc hg _ ih=>exact .cons hc hg ih
structure Good(H:Nat->Int->Prop)(P:Nat->Prop)(e:Prop)(F L:Nat->Prop)(G:Nat->Nat->Prop)(A:Lg):Prop where
 f:∀p,F p->P p
 l:∀p,L p->P p
 g:∀p q,G p q->P p/\P q
 a:∀s,A s↔(e/\s=[])\/Run H F L G s
theorem Good.of{e e':Prop}{F':Nat->Prop}{P':Nat->Prop}{A A':Lg}(h:Good H P e F L G A)(hP:∀p,P p->P' p)(he:e'↔e)(hF:∀p,F' p↔F p)(hL:∀p,L' p↔L p)(hG:∀p q,G' p q↔G p q)(hA:∀s,A' s↔A s):Good H P' e' F' L' G' A' where
 f:=fun p x=>hP p (h.f p ((hF p).1 x))
 l:=fun p x=>hP p (h.l p ((hL p).1 x))
 g:=fun p q x=>⟨hP p (h.g p q ((hG p q).1 x)).1,hP q (h.g p q ((hG p q).1 x)).2⟩
 a:=fun s=>by
  rw[hA,h.a,he]
  constructor
  ·rintro (x|⟨p,x,y⟩)
   ·exact .inl x
   ·exact .inr ⟨p,(hF p).2 x,y.mono (fun p q=>(hG p q).2) (fun p=>(hL p).2)⟩
  ·rintro (x|⟨p,x,y⟩)
   ·exact .inl x
   ·exact .inr ⟨p,(hF p).1 x,y.mono (fun p q=>(hG p q).1) (fun p=>(hL p).1)⟩
theorem Ij:Good H (fun _=>False) True (fun _=>False) (fun _=>False) (fun _ _=>False) qy where
 f:=fun _ x=>x.elim
 l:=fun _ x=>x.elim
 g:=fun _ _ x=>x.elim
 a:=fun s=>by simp[qy,Run]
theorem OH:Good H (fun _=>False) False (fun _=>False) (fun _=>False) (fun _ _=>False) gu where
 f:=fun _ x=>x.elim
 l:=fun _ x=>x.elim
 g:=fun _ _ x=>x.elim
 a:=fun s=>by simp[gu,Run]
theorem OJ(i:Nat):Good H (fun p=>p=i) False (fun p=>p=i) (fun p=>p=i) (fun _ _=>False) (fun s=>∃c,s=[c]/\H i c) where
 f:=fun _ x=>x
 l:=fun _ x=>x
 g:=fun _ _ x=>x.elim
 a:=fun s=>by
  constructor
  ·rintro⟨c,rfl,hc⟩;exact .inr ⟨i,rfl,.one hc rfl⟩
  ·rintro (⟨x,_⟩|⟨p,rfl,y⟩)
   ·exact x.elim
   ·cases y with
    | one hc _=>exact⟨_,rfl,hc⟩
    | cons _ hg _=>exact hg.elim
theorem V8{e2:Prop}(hd:∀p,P1 p->P2 p->False)(hf2:∀p,F2 p->P2 p)(hl2:∀p,L2 p->P2 p)(hg1:∀p q,G1 p q->P1 p/\P1 q)(hg2:∀p q,G2 p q->P2 p/\P2 q)(hl1:∀p,L1 p->P1 p)
  {p:Nat} {s:List Int} (h:Path H (fun p q=>G1 p q\/G2 p q\/(L1 p/\F2 q)) (fun p=>L2 p\/(e2/\L1 p)) p s):
  P1 p->(Path H G1 L1 p s/\e2)\/∃u v q,s=u++v/\Path H G1 L1 p u/\F2 q/\Path H G2 L2 q v:=by
 induction h with
 | one hc hl =>
  intro hp;rcases hl with hl|⟨he,hl⟩
  ·exact(hd _ hp (hl2 _ hl)).elim
  ·exact .inl ⟨.one hc hl,he⟩
 | cons hc hg hr ih =>
  intro hp;rcases hg with hg|hg|⟨hl,hf⟩
  ·rcases ih (hg1 _ _ hg).2 with ⟨x,he⟩|⟨u,v,q,rfl,x,y,z⟩
   ·exact .inl ⟨.cons hc hg x,he⟩
   ·exact .inr ⟨_::u,v,q,rfl,.cons hc hg x,y,z⟩
  ·exact(hd _ hp (hg2 _ _ hg).1).elim
  ·refine .inr ⟨[_],_,_,rfl,.one hc hl,hf,hr.inside (P:=P2) ?_ ?_ (hf2 _ hf)⟩
   ·rintro a b ha (x|x|⟨x,_⟩)
    ·exact(hd _ (hg1 _ _ x).1 ha).elim
    ·exact⟨x,(hg2 _ _ x).2⟩
    ·exact(hd _ (hl1 _ x) ha).elim
   ·rintro a ha (x|⟨_,x⟩)
    ·exact x
    ·exact(hd _ (hl1 _ x) ha).elim
theorem Td{e1 e2:Prop}{A1 A2:Lg}(h1:Good H P1 e1 F1 L1 G1 A1)(h2:Good H P2 e2 F2 L2 G2 A2)(hd:∀p,P1 p->P2 p->False):
  Good H (fun p=>P1 p\/P2 p) (e1/\e2) (fun p=>F1 p\/(e1/\F2 p)) (fun p=>L2 p\/(e2/\L1 p)) (fun p q=>G1 p q\/G2 p q\/(L1 p/\F2 q)) (Fv A1 A2) where
 f:=fun p x=>x.elim (fun y =>.inl (h1.f p y)) (fun y =>.inr (h2.f p y.2))
 l:=fun p x=>x.elim (fun y =>.inr (h2.l p y)) (fun y =>.inl (h1.l p y.2))
 g:=fun p q x=>by
  rcases x with x|x|⟨x,y⟩
  ·exact⟨.inl (h1.g _ _ x).1,.inl (h1.g _ _ x).2⟩
  ·exact⟨.inr (h2.g _ _ x).1,.inr (h2.g _ _ x).2⟩
  ·exact⟨.inl (h1.l _ x),.inr (h2.f _ y)⟩
 a:=fun s=>by
  constructor
  ·rintro⟨u,v,rfl,hu,hv⟩
   rcases (h1.a u).1 hu with ⟨e,rfl⟩|⟨p,hp,x⟩<;>rcases (h2.a v).1 hv with ⟨e',rfl⟩|⟨q,hq,y⟩
   ·exact .inl ⟨⟨e,e'⟩,rfl⟩
   ·exact .inr ⟨q,.inr ⟨e,hq⟩,y.mono (fun _ _ z =>.inr (.inl z)) (fun _ z =>.inl z)⟩
   ·exact .inr ⟨p,.inl hp,by rw[aha];exact x.mono (fun _ _ z =>.inl z) (fun _ z =>.inr ⟨e',z⟩)⟩
   ·exact .inr ⟨p,.inl hp,(x.mono (G':=fun p q=>G1 p q\/G2 p q\/(L1 p/\F2 q)) (L':=L1) (fun _ _ z =>.inl z) (fun _ z=>z)).append (F:=F2) (fun _ _ a b =>.inr (.inr ⟨a,b⟩)) hq (y.mono (fun _ _ z =>.inr (.inl z)) (fun _ z =>.inl z))⟩
  ·rintro (⟨⟨e,e'⟩,rfl⟩|⟨p,hp|⟨e,hp⟩,x⟩)
   ·exact⟨[],[],rfl,(h1.a _).2 (.inl ⟨e,rfl⟩),(h2.a _).2 (.inl ⟨e',rfl⟩)⟩
   ·rcases V8 hd h2.f h2.l h1.g h2.g h1.l x (h1.f _ hp)with ⟨y,e⟩|⟨u,v,q,rfl,y,hq,z⟩
    ·exact⟨s,[],by simp,(h1.a _).2 (.inr ⟨p,hp,y⟩),(h2.a _).2 (.inl ⟨e,rfl⟩)⟩
    ·exact⟨u,v,rfl,(h1.a _).2 (.inr ⟨p,hp,y⟩),(h2.a _).2 (.inr ⟨q,hq,z⟩)⟩
   ·refine⟨[],s,rfl,(h1.a _).2 (.inl ⟨e,rfl⟩),(h2.a _).2 (.inr ⟨p,hp,x.inside (P:=P2) ?_ ?_ (h2.f _ hp)⟩)⟩
    ·rintro a b ha (x|x|⟨x,_⟩)
     ·exact(hd _ (h1.g _ _ x).1 ha).elim
     ·exact⟨x,(h2.g _ _ x).2⟩
     ·exact(hd _ (h1.l _ x) ha).elim
    ·rintro a ha (x|⟨_,x⟩)
     ·exact x
     ·exact(hd _ (h1.l _ x) ha).elim
theorem Tf{e1 e2:Prop}{A1 A2:Lg}(h1:Good H P1 e1 F1 L1 G1 A1)(h2:Good H P2 e2 F2 L2 G2 A2)(hd:∀p,P1 p->P2 p->False):
  Good H (fun p=>P1 p\/P2 p) (e1\/e2) (fun p=>F1 p\/F2 p) (fun p=>L1 p\/L2 p) (fun p q=>G1 p q\/G2 p q) (lor A1 A2) where
 f:=fun p x=>x.imp (h1.f p) (h2.f p)
 l:=fun p x=>x.imp (h1.l p) (h2.l p)
 g:=fun p q x=>by
  rcases x with x|x
  ·exact⟨.inl (h1.g _ _ x).1,.inl (h1.g _ _ x).2⟩
  ·exact⟨.inr (h2.g _ _ x).1,.inr (h2.g _ _ x).2⟩
 a:=fun s=>by
  constructor
  ·rintro (hu|hu)
   ·rcases (h1.a s).1 hu with ⟨e,rfl⟩|⟨p,hp,x⟩
    ·exact .inl ⟨.inl e,rfl⟩
    ·exact .inr ⟨p,.inl hp,x.mono (fun _ _ =>.inl) (fun _ =>.inl)⟩
   ·rcases (h2.a s).1 hu with ⟨e,rfl⟩|⟨p,hp,x⟩
    ·exact .inl ⟨.inr e,rfl⟩
    ·exact .inr ⟨p,.inr hp,x.mono (fun _ _ =>.inr) (fun _ =>.inr)⟩
  ·rintro (⟨e|e,rfl⟩|⟨p,hp|hp,x⟩)
   ·exact .inl ((h1.a _).2 (.inl ⟨e,rfl⟩))
   ·exact .inr ((h2.a _).2 (.inl ⟨e,rfl⟩))
   ·refine .inl ((h1.a _).2 (.inr ⟨p,hp,x.inside (P:=P1) ?_ ?_ (h1.f _ hp)⟩))
    ·rintro a b ha (y|y)
     ·exact⟨y,(h1.g _ _ y).2⟩
     ·exact(hd _ ha (h2.g _ _ y).1).elim
    ·rintro a ha (y|y)
     ·exact y
     ·exact(hd _ ha (h2.l _ y)).elim
   ·refine .inr ((h2.a _).2 (.inr ⟨p,hp,x.inside (P:=P2) ?_ ?_ (h2.f _ hp)⟩))
    ·rintro a b ha (y|y)
     ·exact(hd _ (h1.g _ _ y).1 ha).elim
     ·exact⟨y,(h2.g _ _ y).2⟩
    ·rintro a ha (y|y)
     ·exact(hd _ (h1.l _ y) ha).elim
     ·exact y
theorem Ik{e:Prop}{A:Lg}(h:Good H P e F L G A){p:Nat}{s:List Int}(x:Path H (fun p q=>G p q\/(L p/\F q)) L p s):
  ∃u v,s=u++v/\Path H G L p u/\qJ A v:=by
 induction x with
 | one hc hl=>exact⟨[_],[],rfl,.one hc hl,.nil⟩
 | cons hc hg _ ih =>
  obtain⟨u,v,rfl,y,z⟩:=ih;rcases hg with hg|⟨hl,hf⟩
  ·exact⟨_::u,v,rfl,.cons hc hg y,z⟩
  ·exact⟨[_],u++v,rfl,.one hc hl,.more ((h.a _).2 (.inr ⟨_,hf,y⟩)) z⟩
theorem DT{e:Prop}{A:Lg}(h:Good H P e F L G A):Good H P True F L (fun p q=>G p q\/(L p/\F q)) (qJ A) where
 f:=h.f
 l:=h.l
 g:=fun p q x=>x.elim (h.g p q) (fun y=>⟨h.l p y.1,h.f q y.2⟩)
 a:=fun s=>by
  constructor
  ·intro x
   induction x with
   | nil=>exact .inl ⟨trivial,rfl⟩
   | @more u v hu _ ih =>
    rcases (h.a u).1 hu with ⟨_,rfl⟩|⟨p,hp,x⟩
    ·exact ih
    ·rcases ih with ⟨_,rfl⟩|⟨q,hq,y⟩
     ·exact .inr ⟨p,hp,by rw[aha];exact x.mono (fun _ _ =>.inl) (fun _ z=>z)⟩
     ·exact .inr ⟨p,hp,(x.mono (G':=fun p q=>G p q\/(L p/\F q)) (L':=L) (fun _ _ =>.inl) (fun _ z=>z)).append (F:=F) (fun _ _ a b =>.inr ⟨a,b⟩) hq y⟩
  ·rintro (⟨_,rfl⟩|⟨p,hp,x⟩)
   ·exact .nil
   ·obtain⟨u,v,rfl,y,z⟩:=Ik h x
    exact .more ((h.a _).2 (.inr ⟨p,hp,y⟩)) z
theorem OL{e:Prop}{A:Lg}(h:Good H P e F L G A):Good H P e F L (fun p q=>G p q\/(L p/\F q)) (Fv A (qJ A)) where
 f:=h.f
 l:=h.l
 g:=fun p q x=>x.elim (h.g p q) (fun y=>⟨h.l p y.1,h.f q y.2⟩)
 a:=fun s=>by
  constructor
  ·rintro⟨u,v,rfl,hu,hv⟩
   rcases (h.a u).1 hu with ⟨e,rfl⟩|⟨p,hp,x⟩<;>rcases ((DT h).a v).1 hv with ⟨_,rfl⟩|⟨q,hq,y⟩
   ·exact .inl ⟨e,rfl⟩
   ·exact .inr ⟨q,hq,y⟩
   ·exact .inr ⟨p,hp,by rw[aha];exact x.mono (fun _ _ =>.inl) (fun _ z=>z)⟩
   ·exact .inr ⟨p,hp,(x.mono (G':=fun p q=>G p q\/(L p/\F q)) (L':=L) (fun _ _ =>.inl) (fun _ z=>z)).append (F:=F) (fun _ _ a b =>.inr ⟨a,b⟩) hq y⟩
  ·rintro (⟨e,rfl⟩|⟨p,hp,x⟩)
   ·exact⟨[],[],rfl,(h.a _).2 (.inl ⟨e,rfl⟩),.nil⟩
   ·obtain⟨u,v,rfl,y,z⟩:=Ik h x
    exact⟨u,v,rfl,(h.a _).2 (.inr ⟨p,hp,y⟩),z⟩
theorem Ky{e:Prop}{A:Lg}(h:Good H P e F L G A):Good H P True F L G (lor A qy) where
 f:=h.f
 l:=h.l
 g:=h.g
 a:=fun s=>by
  constructor
  ·rintro (x|rfl)
   ·rcases (h.a s).1 x with ⟨_,y⟩|y
    ·exact .inl ⟨trivial,y⟩
    ·exact .inr y
   ·exact .inl ⟨trivial,rfl⟩
  ·rintro (⟨_,rfl⟩|x)
   ·exact .inr rfl
   ·exact .inl ((h.a _).2 (.inr x))
structure Nd where
 k:Int
 a:Nat
 b:Nat
 c:Nat
 d:Nat
 kids:List Int
deriving Inhabited
def Nd.wd(x:Nd)(i:Nat):Nat:=if i=0 then x.a else if i=1 then x.b else if i=2 then x.c else x.d
def Nd.has(x:Nd)(v:Int):Bool:=(x.wd (v.toNat / 64)).testBit (v.toNat % 64)
def mQ(k:Int):Int:=if k=1\/k=2 then 0 else if k=3\/k=4 then 2 else if k=5\/k=6\/k=7 then 1 else 0
def iO(k:Int):Int:=if k=1\/k=2 then 0 else if k=3\/k=4 then 512 else if k=5\/k=6\/k=7 then 1 else 0
def Az(k:Int):Bool:=decide (1<=k) && decide (k<=7)
structure iM(i:Nat)(x:Nd):Prop where
 k:1<=x.k/\x.k<=7
 low:mQ x.k<=x.kids.length
 high:(x.kids.length:Int)<=iO x.k
 cls:x.k≠2->x.a=0/\x.b=0/\x.c=0/\x.d=0
 kids:∀k∈x.kids,0<=k/\k<i
def aY(r:List Nd):List Int:=r.flatMap Nd.kids
structure dL(r:List Nd):Prop where
 one:1<=r.length
 most:r.length<=512
 nd:∀i x,r[i]?=some x->iM i x
 once:∀j:Nat,j+1<r.length->(aY r).count (j:Int)=1
def mem(s:List Bool)(p:Nat):Prop:=s[p]?=some true
def rM(nx:List (List Bool))(p q:Nat):Prop:=∃row,nx[p]?=some row/\mem row q
def zeros(n:Nat):List Bool:=List.replicate n false
def orS(a b:List Bool):List Bool:=List.zipWith (fun x y=>x || y) a b
def kS(nx:List (List Bool))(l f:List Bool):List (List Bool):=List.zipWith (fun row is=>if is=true then orS row f else row) nx l
structure En where
 e:Bool
 f:List Bool
 l:List Bool
deriving Inhabited
def AA(a b:En):En:=⟨a.e && b.e,if a.e=true then orS a.f b.f else a.f,if b.e=true then orS b.l a.l else b.l⟩
def Kz(a b:En):En:=⟨a.e || b.e,orS a.f b.f,orS a.l b.l⟩
def en(ends:List En)(k:Int):En:=ends.getD k.toNat default
def jA(ends:List En)(s:List (List Bool)×En)(k:Int):List (List Bool)×En:=(kS s.1 s.2.l (en ends k).f,AA s.2 (en ends k))
def iF(ends:List En)(s:En)(k:Int):En:=Kz s (en ends k)
def cO(n:Nat)(ends:List En)(nx:List (List Bool))(i:Nat)(x:Nd):List (List Bool)×En:=
 if x.k=2 then (nx,⟨false,(zeros n).set i true,(zeros n).set i true⟩)
 else if x.k=3 then x.kids.foldl (jA ends) (nx,⟨true,zeros n,zeros n⟩)
 else
  let y:=x.kids.foldl (iF ends) ⟨decide (x.k=1),zeros n,zeros n⟩
  (if x.k=5\/x.k=6 then kS nx y.l y.f else nx,⟨if x.k=5\/x.k=7 then true else y.e,y.f,y.l⟩)
def fQ(r:List Nd):Nat->List En×List (List Bool)
 | 0=>([],List.replicate r.length [])
 | m+1 =>
  let s:=fQ r m
  let t:=cO r.length s.1 (s.2.set m (zeros r.length)) m (r.getD m default)
  (s.1++[t.2],t.1)
def BK(r:List Nd)(may:List Bool)(c:Int):List Bool:=(List.range r.length).map fun i=>may.getD i false && (r.getD i default).has c
def KA(nx:List (List Bool))(hit:List Bool)(acc:List Bool)(i:Nat):List Bool:=if hit.getD i false=true then orS acc (nx.getD i [])else acc
def V9(r:List Nd)(nx:List (List Bool))(hit:List Bool):List Bool:=(List.range r.length).foldl (KA nx hit) (zeros r.length)
def Ti(r:List Nd)(nx:List (List Bool))(s:List Bool×List Bool)(c:Int):List Bool×List Bool:=(V9 r nx (BK r s.1 c),BK r s.1 c)
def Tj(hit last:List Bool):Bool:=(List.range hit.length).any fun i=>hit.getD i false && last.getD i false
def gY(r:List Nd)(s:List Int):Bool:=
 let t:=fQ r r.length
 let top:=t.1.getD (r.length-1) default
 if s=[]then top.e else Tj (s.foldl (Ti r t.2) (top.f,[])).2 top.l
theorem iJ(n p:Nat):¬mem (zeros n) p:=by
 simp[mem,zeros,ahI]
theorem iY{a b:List Bool}(h:a.length=b.length):(orS a b).length=a.length:=by simp[orS,h]
theorem jZ{a b:List Bool}(h:a.length=b.length)(p:Nat):mem (orS a b) p↔mem a p\/mem b p:=by
 unfold mem orS;rw[List.getElem?_zipWith]
 by_cases hp:p<a.length
 ·rw[afE hp,afE (h▸ hp)]
  simp
 ·rw[af5 (by omega),af5 (by omega)]
  simp
theorem uF{nx:List (List Bool)}{l f:List Bool}(h:nx.length=l.length):(kS nx l f).length=nx.length:=by simp[kS,h]
theorem pz{nx:List (List Bool)}{l f:List Bool}(h:nx.length=l.length)(p:Nat)(row:List Bool)(hr:nx[p]?=some row):
  (kS nx l f)[p]?=some (if l.getD p false=true then orS row f else row):=by
 have hp:p<nx.length:=by
  rcases ag6 p nx.length with x|x
  ·exact x
  ·rw[af5 x]at hr;simp at hr
 unfold kS;rw[List.getElem?_zipWith,hr,afE (h▸ hp)];simp[List.getD,afE (h▸ hp:p<l.length)]
theorem getD_mem(l:List Bool)(p:Nat):l.getD p false=true↔mem l p:=by
 unfold mem;rw[afG]
 cases l[p]?<;>simp
theorem Tn{nx:List (List Bool)}{l f:List Bool}(h:nx.length=l.length)(hr:∀p,mem l p->∃row,nx[p]?=some row/\row.length=f.length)(p q:Nat):
  rM (kS nx l f) p q↔rM nx p q\/(mem l p/\mem f q):=by
 constructor
 ·rintro⟨row,h1,h2⟩
  have hp:p<nx.length:=by
   rcases ag6 p (kS nx l f).length with x|x
   ·rw[uF h]at x;exact x
   ·rw[af5 x]at h1;simp at h1
  have h3:=pz (f:=f) h p _ (afE hp);rw[h1]at h3;have h4:=agc h3
  by_cases hl:l.getD p false=true
  ·rw[afR hl]at h4
   obtain⟨row',e1,e2⟩:=hr p ((getD_mem l p).1 hl);rw[afE hp]at e1;rw[agc e1]at h4;rw[h4,jZ e2]at h2;rcases h2 with h2|h2
   ·exact .inl ⟨row',by rw[afE hp];exact e1,h2⟩
   ·exact .inr ⟨(getD_mem l p).1 hl,h2⟩
  ·rw[afO hl]at h4
   exact .inl ⟨row,by rw[h4];exact afE hp,h2⟩
 ·rintro (⟨row,h1,h2⟩|⟨h1,h2⟩)
  ·have h3:=pz (f:=f) h p row h1
   refine⟨_,h3,?_⟩
   by_cases hl:l.getD p false=true
   ·rw[afR hl]
    obtain⟨row',e1,e2⟩:=hr p ((getD_mem l p).1 hl);rw[h1]at e1;rw[jZ (by rw[agc e1];exact e2)];exact .inl h2
   ·rw[afO hl];exact h2
  ·obtain⟨row,e1,e2⟩:=hr p h1
   refine⟨_,pz (f:=f) h p row e1,?_⟩;rw[afR ((getD_mem l p).2 h1),jZ e2];exact .inr h2
theorem mem_set(n i p:Nat)(hi:i<n):mem ((zeros n).set i true) p↔p=i:=by
 unfold mem zeros;rw[agE]
 by_cases h:i=p
 ·subst h;simp[hi]
 ·rw[afO h];simp[ahI];omega
end
section
open Go Go.Proofs Go.RowKit
attribute [local go_sem] Oper.semAt_some
def aJ(W:World)(B:Nat)(l:List Bool):Prop:=∃cs:Array Value,W.heap[B]?=some (.cells cs 4 (0,0))/\∀(i:Nat)(b:Bool),l[i]?=some b->cs[i]?=some (.bool b)
theorem aJ.lt{W:World}{B:Nat}{l:List Bool}(h:aJ W B l):B<W.heap.size:=by obtain⟨cs,h,_⟩:=h;exact (afF.1 h).1
theorem aJ.at{W:World}{B:Nat}{l:List Bool}(h:aJ W B l)(i:Nat)(b:Bool)(hb:l[i]?=some b):W.cell? ⟨B,i,none⟩=some (.bool b):=by
 obtain⟨cs,h,hc⟩:=h;simp[World.cell?,h,hc i b hb]
theorem aJ.frozen{W:World}{B:Nat}{l:List Bool}(h:aJ W B l)(j:Nat):W.frozen? ⟨B,j,none⟩=false:=by
 obtain⟨cs,h,_⟩:=h;simp[World.frozen?,h]
theorem aJ.same{W W':World}{B:Nat}{l:List Bool}(h:aJ W B l)(e:W'.heap[B]?=W.heap[B]?):aJ W' B l:=by
 obtain⟨cs,h,hc⟩:=h;exact⟨cs,e.trans h,hc⟩
theorem aJ.below{n B:Nat}{l:List Bool}{w w':World}(h:aJ w B l)(hb:Below n w w')(hn:B<n):aJ w' B l:=h.same (hb.block _ hn)
theorem aJ.but{A B:Nat}{l:List Bool}{w w':World}(h:aJ w B l)(hb:AX.But A w w')(hn:B≠A):aJ w' B l:=h.same (hb.same _ h.lt hn)
theorem aJ.other{W:World}{B B' i:Nat}{l:List Bool}{v:Value}(h:aJ W B l)(hne:B≠B'):aJ (W.setCell ⟨B',i,none⟩ v) B l:=h.same (Below.heap_setCell _ _ _ _ hne)
theorem aJ.set{W:World}{B:Nat}{l:List Bool}(h:aJ W B l)(i:Nat)(b:Bool):aJ (W.setCell ⟨B,i,none⟩ (.bool b)) B (l.set i b):=by
 obtain⟨cs,h,hc⟩:=h;have hb:=(afF.1 h).1;refine⟨cs.setIfInBounds i (.bool b),by simp[World.setCell,ahx,h],fun j c hj=>?_⟩;rw[agN];rw[agE]at hj
 by_cases e:i=j
 ·subst e
  rw[afR rfl]at hj⊢;split at hj
  ·rename_i hl
   have:=hc i l[i] (afE hl);rw[afR (afF.1 this).1,agc hj]
  ·cases hj
 ·rw[afO e]at hj⊢
  exact hc j c hj
theorem iZ(w:World)(A i:Nat)(v:Value):AX.But A w (w.setCell ⟨A,i,none⟩ v):=
 ⟨(afI 0 w).setCell (p:=⟨A,i,none⟩) (af0 _) v,fun _ _ hk=>Below.heap_setCell _ _ _ _ hk⟩
theorem OY(A B ca cb n:Nat)(la lb:List Bool)(hAB:B≠A)(hla:la.length=n)(hlb:lb.length=n)(hn:n<=1000000)(w:World)(hA:aJ w A la)(hB:aJ w B lb):
  Calls Tryz.prog 126 #[.slice (some ⟨A,0,none⟩) n ca,.slice (some ⟨B,0,none⟩) n cb] w fun e w'=>e=.returned (.tuple #[])/\aJ w' A (orS la lb)/\AX.But A w w':=by
 go_enter Tryz.func126,Tryz.ntmps126
 go_wp2
 obtain⟨wo,rfl⟩:∃wo:World,wo=w:=⟨_,rfl⟩;go_loopw [8] (fun i wr=>∃(k:Nat)(m:List Bool),k<=n/\i=.int .i64 k/\aJ wr A m/\m.length=n/\(∀j,j<k->m[j]?=(orS la lb)[j]?)/\(∀j,k<=j->m[j]?=la[j]?)/\AX.But A wo wr)
  (fun i _=>n-(RowKit.intOf i).toNat)
 case atStart=>exact⟨0,la,af0 _,rfl,hA,hla,fun j h=>by omega,fun j _=>rfl,AX.But.refl _ _⟩
 case round =>
  obtain⟨k,m,hk,rfl,hm,hml,h1,h2,lS⟩:=hrel
  by_cases hlt:k<n
  ·have hB':=hB.but lS hAB
   obtain⟨x,hx⟩:∃x,la[k]?=some x:=⟨_,afE (by omega)⟩;obtain⟨y,hy⟩:∃y,lb[k]?=some y:=⟨_,afE (by omega)⟩;have hmx:=(h2 k afD).trans hx;have HO:=Lib.hid (show(orS la lb)[k]?=some (x || y)by unfold orS;rw[List.getElem?_zipWith,hx,hy]);have HM:=Lib.hid hmx;have c0:=hm.at k x hmx;have c1:=hB'.at k y hy;have f0:=hm.frozen k;clear hmx hx hy;have hk0:(0:Int)<=(k:Int):=(by omega);have hk1:(k:Int)<(n:Int):=(by omega);have hkt:(k:Int).toNat=k:=(by omega);have hme:∀b,b=(x || y)->aJ (wr.setCell ⟨A,k,none⟩ (.bool b)) A (m.set k b)/\(m.set k b).length=n/\(∀j,j<k+1->(m.set k b)[j]?=(orS la lb)[j]?)/\(∀j,k+1<=j->(m.set k b)[j]?=la[j]?)/\AX.But A wo (wr.setCell ⟨A,k,none⟩ (.bool b)):=by
    rintro b rfl;refine⟨hm.set k _,by simpa using hml,fun j hj=>?_,fun j hj=>?_,lS.trans (iZ _ _ _ _)⟩
    ·rw[agE]
     by_cases e:k=j
     ·subst e;rw[afR rfl,afR (by omega),HO.out]
     ·rw[afO e];exact h1 j (by omega)
    ·rw[agE,afO (by omega)];exact h2 j (by omega)
   have HME:=Lib.hid hme;clear hme h1 h2
   cases x<;>cases y
   all_goals
    go_wp2
    go_roundw
    case rel =>
     obtain⟨q1,q2,q3,q4,q5⟩:=HME.out _ rfl;exact⟨k+1,_,by omega,by simp,q1,q2,q3,q4,q5⟩
    case measure=>simp[RowKit.intOf];omega
  ·obtain rfl:k=n:=by omega
   have e:m=orS la lb:=agJ fun j=>by
    by_cases hj:j<k
    ·exact h1 j hj
    ·rw[af5 (by omega),af5 (by simp[orS];omega)]
   subst e;go_wp2
   exact bodyPost_end (v:=.tuple #[]) (by simp[results,Tryz.results126,go_sem]) rfl ⟨rfl,hm,lS⟩
structure fM(S:Nat->Prop)(X Y:World):Prop where
 low:Below 0 X Y
 same:∀k,k<X.heap.size->¬S k->Y.heap[k]?=X.heap[k]?
theorem fM.refl(S:Nat->Prop)(X:World):fM S X X:=⟨afI _ _,fun _ _ _=>rfl⟩
theorem fM.trans{S:Nat->Prop}{X Y Z:World}(h:fM S X Y)(k:fM S Y Z):fM S X Z:=⟨h.low.trans k.low,fun i hi hA=>(k.same i (afN hi h.low.size) hA).trans (h.same i hi hA)⟩
theorem fM.of_below{S:Nat->Prop}{X Y:World}(h:Below X.heap.size X Y):fM S X Y:=⟨h.mono (af0 _),fun k hk _=>h.block k hk⟩
theorem fM.wB{S:Nat->Prop}{A:Nat}{X Y:World}(h:AX.But A X Y)(hA:S A):fM S X Y:=⟨h.low,fun k hk hn=>h.same k hk (fun e=>hn (e▸ hA))⟩
theorem fM.below{S:Nat->Prop}{n:Nat}{X Y:World}(h:fM S X Y)(hn:n<=X.heap.size)(hA:∀k,S k->n<=k):Below n X Y:=⟨h.low.os,h.low.tape,h.low.output,h.low.size,fun k hk=>h.same k (by omega) (fun e=>by have:=hA k e;omega)⟩
theorem aJ.jf{S:Nat->Prop}{B:Nat}{l:List Bool}{w w':World}(h:aJ w B l)(hb:fM S w w')(hn:¬S B):aJ w' B l:=h.same (hb.same _ h.lt hn)
structure NAt(W:World)(NB n M:Nat)(bs:Nat->Nat)(nx:List (List Bool)):Prop where
 len:nx.length=n
 cells:∃cs:Array Value,W.heap[NB]?=some (.cells cs 203 (0,0))/\cs.size=n/\∀i,i<M->cs[i]?=some (.slice (some ⟨bs i,0,none⟩) n n)
 row:∀i row,i<M->nx[i]?=some row->aJ W (bs i) row/\row.length=n
 inj:∀i j,i<M->j<M->bs i=bs j->i=j
 nb:∀i,i<M->bs i≠NB
theorem NAt.cell{W:World}{NB n M:Nat}{bs:Nat->Nat}{nx:List (List Bool)}(h:NAt W NB n M bs nx){i:Nat}(hi:i<M):W.cell? ⟨NB,i,none⟩=some (.slice (some ⟨bs i,0,none⟩) n n):=by
 obtain⟨cs,h1,_,h2⟩:=h.cells;simp[World.cell?,h1,h2 i hi]
theorem NAt.lt{W:World}{NB n M:Nat}{bs:Nat->Nat}{nx:List (List Bool)}(h:NAt W NB n M bs nx):NB<W.heap.size:=by
 obtain⟨cs,h1,_⟩:=h.cells;exact (afF.1 h1).1
theorem NAt.same{W W':World}{NB n M:Nat}{bs:Nat->Nat}{nx:List (List Bool)}(h:NAt W NB n M bs nx)(h1:W'.heap[NB]?=W.heap[NB]?)(h2:∀i,i<M->W'.heap[bs i]?=W.heap[bs i]?):NAt W' NB n M bs nx:=by
 obtain⟨cs,a,b,c⟩:=h.cells;exact⟨h.len,⟨cs,h1.trans a,b,c⟩,fun i row hi hr=>⟨(h.row i row hi hr).1.same (h2 i hi),(h.row i row hi hr).2⟩,h.inj,h.nb⟩
theorem NAt.below{W W':World}{m NB n M:Nat}{bs:Nat->Nat}{nx:List (List Bool)}(h:NAt W NB n M bs nx)(hb:Below m W W')(h1:NB<m)(h2:∀i,i<M->bs i<m):NAt W' NB n M bs nx:=
 h.same (hb.block _ h1) (fun i hi=>hb.block _ (h2 i hi))
theorem NAt.blt{W:World}{NB n M:Nat}{bs:Nat->Nat}{nx:List (List Bool)}(h:NAt W NB n M bs nx)(hM:M<=n){i:Nat}(hi:i<M):bs i<W.heap.size:=
 (h.row i _ hi (afE (by rw[h.len];omega))).1.lt
theorem NAt.turn{W W':World}{NB n M:Nat}{bs:Nat->Nat}{nx:List (List Bool)}(h:NAt W NB n M bs nx)(hM:M<=n){k:Nat}(hk:k<M){row:List Bool}(hr:aJ W' (bs k) row)(hl:row.length=n)(hb:AX.But (bs k) W W'):NAt W' NB n M bs (nx.set k row):=by
 obtain⟨cs,a,b,c⟩:=h.cells;refine⟨by rw[agA,h.len],⟨cs,(hb.same _ h.lt (fun e=>h.nb k hk e.symm)).trans a,b,c⟩,fun i r hi hr'=>?_,h.inj,h.nb⟩;rw[agE]at hr'
 by_cases e:k=i
 ·subst e
  rw[afR rfl,afR (by rw[h.len];omega)]at hr';rw[<-agc hr'];exact⟨hr,hl⟩
 ·rw[afO e]at hr'
  exact⟨(h.row i r hi hr').1.but hb (fun e'=>e (h.inj _ _ hi hk e').symm),(h.row i r hi hr').2⟩
theorem IX(NB L F n M c cl cf:Nat)(bs:Nat->Nat)(rv ev:Value)(nx:List (List Bool))(l f:List Bool)(hM:M<=n)(hn:n<=1000000)(hl:l.length=n)(hf:f.length=n)(hlM:∀p,mem l p->p<M)
  (hbl:∀i,i<M->bs i≠L) (hbf:∀i,i<M->bs i≠F) (w:World) (hN:NAt w NB n M bs nx) (hL:aJ w L l) (hF:aJ w F f):
  Calls Tryz.prog 141 #[.agg #[rv,ev,.slice (some ⟨NB,0,none⟩) n c],.slice (some ⟨L,0,none⟩) n cl,.slice (some ⟨F,0,none⟩) n cf] w fun e w' =>
   e=.returned (.tuple #[])/\NAt w' NB n M bs (kS nx l f)/\fM (fun k=>∃i,i<M/\k=bs i) w w':=by
 have hNl:=hN.lt;have hbb:=fun i (hi:i<M)=>hN.blt hM hi;have hLl:=hL.lt;have hFl:=hF.lt;go_enter Tryz.func141,Tryz.ntmps141
 go_wp2
 generalize hW0:w.alloc _=W0;have hX0:W0.heap[w.heap.size]?=some (.cells #[rv,ev,.slice (some ⟨NB,0,none⟩) n c] 202 (0,0)):=by rw[<-hW0];exact World.alloc_heap_new w _
 have hB0:Below w.heap.size w W0:=by rw[<-hW0];exact (afI _ w).alloc afD _
 have hN0:NAt W0 NB n M bs nx:=hN.below hB0 hNl hbb;have hL0:=hL.below hB0 hLl;have hF0:=hF.below hB0 hFl;clear hW0;obtain⟨ns,hns⟩:=afC w.heap.size;rw[<-hns]at hX0 hB0 hNl hbb hLl hFl⊢;have HNS:=Lib.hid hns;clear hns;go_loopw [10] (fun i wr=>∃(k:Nat)(m:List (List Bool)),k<=n/\i=.int .i64 k/\NAt wr NB n M bs m/\(∀j,j<k->m[j]?=(kS nx l f)[j]?)/\(∀j,k<=j->m[j]?=nx[j]?)/\fM (fun k=>∃i,i<M/\k=bs i) W0 wr)
  (fun i _=>n-(RowKit.intOf i).toNat)
 case atStart=>exact⟨0,nx,af0 _,rfl,hN0,fun j h=>by omega,fun j _=>rfl,fM.refl _ _⟩
 case round =>
  obtain⟨k,m,hk,rfl,hm,h1,h2,lS⟩:=hrel;have hX:wr.cell? ⟨ns,2,none⟩=some (.slice (some ⟨NB,0,none⟩) n c):=by
   have:=(lS.same ns (by rw[afF]at hX0;exact hX0.1) (by rintro⟨i,hi,e⟩;have:=hbb i hi;omega)).trans hX0;simp[World.cell?,this]
  by_cases hlt:k<n
  ·obtain⟨x,hx⟩:∃x,l[k]?=some x:=⟨_,afE (by omega)⟩
   have c0:=(hL0.jf lS (by rintro⟨i,hi,e⟩;exact hbl i hi e.symm)).at k x hx;have hk0:(0:Int)<=(k:Int):=(by omega);have hk1:(k:Int)<(n:Int):=(by omega);have hkt:(k:Int).toNat=k:=(by omega);obtain⟨row,hrow⟩:∃row,nx[k]?=some row:=⟨_,afE (by rw[hN.len];exact hlt)⟩;have Um:=pz (f:=f) (by rw[hN.len,hl]:nx.length=l.length) k row hrow;have hmk:=(h2 k afD).trans hrow;have hld:l.getD k false=x:=(by rw[afG,hx];rfl);rw[hld]at Um
   cases x with
   | false =>
    have HR:=Lib.hid (show m[k]?=(kS nx l f)[k]? by rw[hmk,Um];rfl);clear hx hrow Um hmk hld;go_wp2
    go_roundw
    case rel=>exact⟨k+1,m,by omega,by simp,hm,fun j hj=>by
     by_cases e:j=k
     ·subst e;exact HR.out
     ·exact h1 j (by omega),fun j hj=>h2 j (by omega),lS⟩
    case measure=>simp[RowKit.intOf];omega
   | true =>
    have hkM:=hlM k hx;have hc:=hm.cell hkM;obtain⟨hr1,hr2⟩:=hm.row k row hkM hmk;have hF1:=hF0.jf lS (by rintro⟨i,hi,e⟩;exact hbf i hi e.symm);have hor:=OY (bs k) F n cf n row f (fun e=>hbf k hkM e.symm) hr2 hf hn wr hr1 hF1;have HR:=Lib.hid (show(kS nx l f)[k]?=some (orS row f)by rw[Um];rfl);have HL:=Lib.hid (show(orS row f).length=n by rw[iY (by rw[hr2,hf]),hr2]);clear hx hrow Um hmk hld hr1 hr2;generalize orS row f=row' at *;have hbk:=hm.blt hM hkM;go_wp2_with (go_at_call 126;refine hor.mono ?_;rintro e Wd ⟨rfl,hrd,hbd⟩)
    go_roundw
    case rel=>exact⟨k+1,m.set k row',by omega,by simp,hm.turn hM hkM hrd HL.out hbd,fun j hj=>by
     rw[agE]
     by_cases e:k=j
     ·subst e;rw[afR rfl,afR (by rw[hm.len];omega),HR.out]
     ·rw[afO e];exact h1 j (by omega),fun j hj=>by
     rw[agE,afO (by omega)];exact h2 j (by omega),lS.trans (.wB hbd ⟨k,hkM,rfl⟩)⟩
    case measure=>simp[RowKit.intOf];omega
  ·obtain rfl:k=n:=by omega
   have e:m=kS nx l f:=agJ fun j=>by
    by_cases hj:j<k
    ·exact h1 j hj
    ·rw[af5 (by rw[hm.len];omega),af5 (by rw[uF (by rw[hN.len,hl]),hN.len];omega)]
   subst e;go_wp2
   refine bodyPost_end (v:=.tuple #[]) (by simp[results,Tryz.results141,go_sem]) rfl ⟨rfl,hm,?_⟩;exact(fM.of_below (HNS.out▸ hB0)).trans lS
end
end Go.Proofs.YtkjgogdkdejljaaGreatDoor.Rx
