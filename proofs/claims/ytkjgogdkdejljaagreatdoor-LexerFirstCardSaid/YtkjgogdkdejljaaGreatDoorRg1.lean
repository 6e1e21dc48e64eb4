import Derived.Test.YtkjgogdkdejljaaGreatDoorDfKn
set_option maxRecDepth 100000
set_option maxHeartbeats 40000000
namespace Go.Proofs.YtkjgogdkdejljaaGreatDoor.Df
section
open Go.Lib (hid)
open Go Go.Proofs Go.RowKit
attribute [local go_sem] Oper.semAt_some
theorem aU{w:World}{base:Nat}{e:TypeId}{size:Nat}{v:Value}{n:Nat}{xs:List Value}(h:w.ownsRow base e size v n xs):∃a c,v=.slice a n c:=by
 rcases h.2 with ⟨rfl,rfl⟩|⟨g,cap,cur,rfl,_⟩
 ·exact⟨_,_,rfl⟩
 ·exact⟨_,_,rfl⟩
theorem kE{w:World}{base base':Nat}{e:TypeId}{size:Nat}{v:Value}{n:Nat}{xs:List Value}(h:w.ownsRow base e size v n xs)(hb:base'<=base):w.ownsRow base' e size v n xs:=by
 refine⟨h.1,?_⟩;rcases h.2 with hn|⟨g,cap,cur,hv,hg,rest⟩
 ·exact .inl hn
 ·exact .inr ⟨g,cap,cur,hv,agb hb hg,rest⟩
def HAt(W:World)(r:Nat)(ks:List Int):Prop:=∃es clock,W.heap[r]?=some (.map es clock)/\es.toList.map (·.key)=ks.map (Value.int .i64)/\MapKept.Stamped es clock
theorem HAt.lt{W:World}{r:Nat}{ks:List Int}(h:HAt W r ks):r<W.heap.size:=by
 obtain⟨_,_,h,_⟩:=h;exact (afF.1 h).1
theorem HAt.below{n r:Nat}{W W':World}{ks:List Int}(h:HAt W r ks)(hb:Below n W W')(hn:r<n):HAt W' r ks:=by
 obtain⟨es,c,h1,h2⟩:=h;exact⟨es,c,(hb.block r hn).trans h1,h2⟩
theorem HAt.put{W:World}{r:Nat}{ks:List Int}(h:HAt W r ks)(k:Int)(v:Value):∃W',(Instr.mapUpdate 112 (.map (some r)) (.int .i64 k) v).run Tryz.prog W=.ok () W'/\HAt W' r (lg ks k)/\AX.But r W W':=by
 obtain⟨es,clock,hb,hk,hs⟩:=h;have hks:∀x∈es.toList,MapKept.IsKey (.int .i64) x.key:=fun x hx=>by
  have:x.key∈es.toList.map (·.key):=ahj hx;rw[hk,agv]at this;obtain⟨n,_,e⟩:=this;rw[<-e];rfl
 have hm:Tryz.prog.underlying 112=some (.map 3 125):=Tryz.underlying112;have hd:Tryz.prog.underlying 3=some (.int .i64):=Tryz.underlying3;have hkk:MapKept.IsKey (.int .i64) (Value.int .i64 k):=rfl;have but:∀o':Obj,AX.But r W {W with heap:=W.heap.setIfInBounds r o'}:=fun o'=>⟨⟨rfl,rfl,rfl,by simp,fun j hj=>absurd hj (agp _)⟩,fun j hj hne=>(MapKept.heap_set (o':=o') hb).2 j hne⟩;rcases MapKept.findNow_spec hkk es.toList 0 hks with ⟨h1,h2⟩|⟨j,e,h1,h2,h3⟩
 ·refine⟨{W with heap:=W.heap.setIfInBounds r (.map (es.push {key:=.int .i64 k,val:=v,born:=clock}) (clock+1))},?_,⟨_,_,(MapKept.heap_set hb).1,?_,MapKept.stamped_push hs h2⟩,but _⟩
  ·simp[Instr.mapUpdate,run_underlying hm,MapKept.run_getObj_map hb,MapKept.run_checkKey hd hkk,MapKept.run_findKey hd h1,MapKept.run_setObj_map _ hb,Result.andThen]
  ·have hn:k∉ks:=fun hmem=>by
    have:Value.int .i64 k∈es.toList.map (·.key):=(by rw[hk];exact ahj hmem);obtain⟨x,hx,e⟩:=agv.1 this;exact h2 x hx e
   unfold lg;rw[afO hn];simp[hk]
 ·have hj:es[j]?=some e:=by simpa using h2
  have hkey:∀e',es[j]?=some e'->({e' with key:=.int .i64 k,val:=v}: MapEntry).key=e'.key:=fun e' he'=>by rw[hj]at he';cases he';exact h3.symm
  refine⟨{W with heap:=W.heap.setIfInBounds r (.map (es.modify j fun e=>{e with key:=.int .i64 k,val:=v}) clock)},?_,⟨_,_,(MapKept.heap_set hb).1,?_,MapKept.stamped_modify hs _ _ (fun _ _=>rfl) (fun e' _ he'=>hkey e' he')⟩,but _⟩
  ·simp[Instr.mapUpdate,run_underlying hm,MapKept.run_getObj_map hb,MapKept.run_checkKey hd hkk,MapKept.run_findKey hd h1,hj,h3,MapKept.run_keyThatStays hkk,MapKept.run_setObj_map _ hb,Result.andThen]
  ·rw[MapKept.modify_keys _ _ hkey,hk]
   have hn:k∈ks:=by
    have:e.key∈es.toList.map (·.key):=ahj (af7 h2);rw[h3,hk]at this;obtain⟨x,hx,e2⟩:=agv.1 this
    cases e2
    exact hx
   unfold lg;rw[afR hn]
theorem JQ{ops:Array Oper}{rest:List Oper}{a:Act}{Q:Exit->Act->World->Prop}{m kx v:Operand}{ty:TypeId}{pos:String}{after:Array Edge}(W:World)(r:Nat)(ks:List Int)(k:Int)
  (hm:a.eval m=.map (some r)) (hk:a.eval kx=.int .i64 k) (hH:HAt W r ks)
  (h:∀W',HAt W' r (lg ks k)->AX.But r W W'->wpList Tryz.prog ops Q rest a W'):
  wpList Tryz.prog ops Q ({dst:=none,op:=.mapUpdate 112 m kx v,type:=ty,pos:=pos,after:=after,guard:=none}::rest) a W:=by
 obtain⟨W',hr,h1,h2⟩:=hH.put k (a.eval v);refine wpList_plain rfl fun K hK=>?_;have hx:(execOp a.eval {dst:=none,op:=.mapUpdate 112 m kx v,type:=ty,pos:=pos,after:=after,guard:=none}).run Tryz.prog W=.ok .skip W':=by
  simp only[execOp,hm,hk,Sem.run_bind,hr];rfl
 unfold Oper.wp;rw[hx];exact hK _ _ (h _ h1 h2)
theorem FQ(W:World):(Instr.makeMap 112 none).run Tryz.prog W=.ok (.map (some W.heap.size)) (W.alloc (.map #[] 0)):=run_makeMap 102 W
theorem F6(r:Nat)(w:World):
  Calls Tryz.prog 60 #[.map (some r)] w fun e w'=>e=.returned (.func (.func 100) #[] #[.pointer (some ⟨w.heap.size,0,none⟩)])/\w'=w.alloc (.cells #[.map (some r)] 112):=by
 go_enter Tryz.func60,Tryz.ntmps60
 go_wp2
 go_ret
 exact⟨rfl,rfl⟩
theorem yP{W:World}{Bm r:Nat}{ks l:List Int}(hH:HAt W r ks)(hp:ks.Perm l)(hl:l.Pairwise (· < ·))(hb:∀x∈l,0<=x/\x<100000)(hlen:l.length<=100000)(hBm:Bm<W.heap.size)(hm:W.cell? ⟨Bm,0,none⟩=some (.map (some r))):
  Calls Tryz.prog 59 #[.func (.func 100) #[] #[.pointer (some ⟨Bm,0,none⟩)]] W fun e W'=>∃v,e=.returned v/\W'.ownsRow W.heap.size 3 1 v l.length (l.map (Value.int .i64))/\Below W.heap.size W W':=by
 obtain⟨es,clk,h1,h2,h3⟩:=hH;have hnd:ks.Nodup:=hp.nodup_iff.2 (hl.imp fun h e=>by omega);obtain⟨D,hown,hpD,hsz⟩:=AX.O8 (P:=Tryz.prog) (k:=3) Tryz.underlying3 h1 h2 (fun x hx=>by
  have:=hb x (hp.mem_iff.1 hx);simp only[AX.okI,afU,AX.O7,afZ];omega) hnd h3.2.1 h3.1 (by rw[hp.length_eq];omega)
 refine (G8 Bm r ks.length D W hBm hm hown (by rw[hsz,hp.length_eq];omega)).mono ?_;rintro e W' ⟨v,ss,rfl,hs,hrow,_,hB⟩;have hsl:ss.Perm l:=(hs.trans hpD).trans hp;refine⟨v,rfl,?_,hB⟩;have e1:=VD hsl hl;rw[e1,hsl.length_eq]at hrow;exact hrow
def qw(N:Nf)(t b:Nat):Bool:=(N.cl.getD t Kl.zero).has b
def jL(N:Nf)(S:List Int)(b:Nat):List Int:=tN N.cl.length N.nx (qw N) S b
theorem Xx{k:Int}: ∀{l:List Int} {last:Int},Up k last l->∀x∈l,last<x/\x<k
 | [],_,_,x,hx=>by simp at hx
 | y::l,last,⟨h1,h2,h3⟩,x,hx=>by
  rcases afX.1 hx with rfl|hx
  ·exact⟨h1,h2⟩
  ·have:=Xx h3 x hx
   omega
theorem yN.in_{N:Nf}(o:yN N):∀l∈N.nx,∀x∈l,0<x/\x<(N.cl.length:Int):=fun l hl x hx=>Xx (o.up l hl) x hx
theorem take_snoc{α: Type}{l:List α}{k:Nat}{q: α}(h:l[k]?=some q):l.take (k+1)=l.take k++[q]:=by
 obtain⟨hk,rfl⟩:=afW.1 h;exact agy hk
theorem RF(N:Nf)(o:yN N)(ac an ar:Option Addr)(cc cn cr:Nat)(S:List Int)(hS:S.length<=1000000)(hin:∀q∈S,0<=q/\q<(N.cl.length:Int))(aS:Option Addr)(cs:Nat)(b:Nat)(hb:b<256)(w:World)(h:uZ w N ac an ar)(hI:aH w aS S):
  Calls Tryz.prog 109 #[.agg #[.slice ac N.cl.length cc,.slice an N.nx.length cn,.slice ar N.ru.length cr],.slice aS S.length cs,.int .u8 b] w fun e w'=>∃v,e=.returned v/\w'.ownsRow w.heap.size 3 1 v (jL N S b).length ((jL N S b).map (Value.int .i64))/\Below w.heap.size w w':=by
 obtain⟨U,hU⟩:=afC w.heap.size;obtain⟨wo,hwo⟩:=afC ((w.alloc (.cells #[.slice ac N.cl.length cc,.slice an N.nx.length cn,.slice ar N.ru.length cr] 74)).alloc (.map #[] 0));have hb0:Below U w wo:=by rw[hwo,hU];exact ((afI _ w).alloc afD _).alloc (by simp) _
 have u0:wo.cell? ⟨U,0,none⟩=some (.slice ac N.cl.length cc):=by rw[hwo,hU];simp[World.cell?_alloc_old]
 have u1:wo.cell? ⟨U,1,none⟩=some (.slice an N.nx.length cn):=by rw[hwo,hU];simp[World.cell?_alloc_old]
 have hH0:HAt wo (U+1) []:=⟨#[],0,by
  have:=World.alloc_heap_new (w.alloc (.cells #[.slice ac N.cl.length cc,.slice an N.nx.length cn,.slice ar N.ru.length cr] 74)) (.map #[] 0);rw[World.size_alloc]at this;rw[hwo,hU];exact this,rfl,MapKept.stamped_empty 0⟩
 have hperm:(oW N.nx (fun t=>qw N t.toNat b) S []).Perm (jL N S b):=JR (fun l hl x hx=>by have:=o.in_ l hl x hx;omega);have HP:=hid hperm;have HO:=hid o;have HU:=hid hU;have HW:=hid hwo;have HB:=hid hb0;have HIN:=hid hin;obtain⟨m,hm⟩:=afC S.length;obtain⟨n,hn⟩:=afC N.cl.length;obtain⟨nn,hnn⟩:=afC N.nx.length;have HMm:=hid hm;have HNn:=hid hn;have HNN:=hid hnn;have HEQ:Hid (nn=n):=hid (by rw[hnn,hn];exact o.nx);have hUw:U<wo.heap.size:=by have:=hH0.lt;omega
 rw[<-hn]at u0;rw[<-hnn]at u1;rw[<-hm]at hS;rw[<-hm,<-hn,<-hnn];have HC:=hid h.c;have HNx:=hid h.n;have HI:=hid hI;clear hperm hwo hU hb0 h hI hin hm hn hnn o;have hmk:=FQ;go_enter Tryz.func109,Tryz.ntmps109
 go_upto_region 2 with (fail)
 have e0:=HW.out;rw[<-HNn.out,<-HNN.out]at e0;rw[<-e0,<-HU.out];clear e0;go_wp2_with fail
 go_loopw [15] (fun i wr=>∃k:Nat,k<=m/\i=.int .i64 k/\HAt wr (U+1) (oW N.nx (fun t=>qw N t.toNat b) (S.take k) [])/\Below (U+1) wo wr)
  (fun i _=>m-(RowKit.intOf i).toNat)
 case atStart=>exact⟨0,af0 _,rfl,hH0,afI _ _⟩
 case round =>
  clear hH0;obtain⟨k,hk,rfl,hH,hB⟩:=hrel
  by_cases hkl:k<m
  ·obtain⟨q,hq⟩:∃q,S[k]?=some q:=⟨_,afE (by rw[<-HMm.out];exact hkl)⟩
   have hqb:=HIN.out q (af7 hq);obtain⟨p,rfl⟩:∃p:Nat,q=(p:Int):=⟨q.toNat,by omega⟩;have hpn:p<n:=(by rw[HNn.out];omega);obtain⟨Bs,os,rfl,hBs,hSc⟩:=HI.out (by intro e;rw[e]at hq;cases hq);rw[<-HU.out]at hBs;have hBw:Below U w wr:=HB.out.trans (hB.mono (by omega));have hkS:k<S.length:=(by rw[<-HMm.out];exact hkl);have d0:=(hBw.cell (p:=⟨Bs,os+k,none⟩) hBs).trans (hSc k hkS);have hqe:S[k]=(p:Int):=(by obtain⟨_,e⟩:=afW.1 hq;exact e);rw[hqe]at d0;have v1:=(hB.cell (p:=⟨U,1,none⟩) (by show U<U+1;omega)).trans u1;have hpN:p<N.nx.length:=(by rw[<-HNN.out,HEQ.out];exact hpn);obtain⟨l,hl⟩:∃l,N.nx[p]?=some l:=⟨_,afE hpN⟩;obtain⟨Bn,on,rfl,hBn,hNc⟩:=HNx.out (by intro e;rw[e]at hpN;cases hpN);rw[<-HU.out]at hBn;obtain⟨la,c,e1,e2⟩:=hNc p hpN;have hle:N.nx[p]=l:=(by obtain⟨_,e⟩:=afW.1 hl;exact e);rw[hle]at e1 e2;have d1:=(hBw.cell (p:=⟨Bn,on+p,none⟩) hBn).trans e1;have HST:Hid (oW N.nx (fun t=>qw N t.toNat b) (S.take (k+1)) []=rC (fun t=>qw N t.toNat b) (oW N.nx (fun t=>qw N t.toNat b) (S.take k) []) l):=hid (by
    rw[take_snoc hq];unfold oW;rw[agI]
    show rC _ _ (N.nx.getD (p:Int).toNat [])=_
    rw[afY,afG,hl];rfl)
   have HLL:=hid (HO.out.in_ l (af7 hl));have HE2:=hid e2;have hll:l.length<=1024:=by
    rcases JU (HO.out.up l (af7 hl))with e|e
    ·rw[e];simp
    ·have:=HO.out.most;omega
   obtain⟨ks0,abd⟩:=afC (oW N.nx (fun t=>qw N t.toNat b) (S.take k) []);rw[<-abd]at hH HST;have hk0:(0:Int)<=(k:Int):=(by omega);have hk1:(k:Int)<(m:Int):=(by omega);have hp0:¬(p:Int)<0:=(by omega);have hp1:¬(nn:Int)<=(p:Int):=(by have:=HEQ.out;omega);have hp2:(0:Int)<=(p:Int):=(by omega);have hp3:(p:Int)<(nn:Int):=(by have:=HEQ.out;omega);clear hq hqb hSc hqe hNc hle e1 e2 hl abd hpN hkS;go_wp2_with fail
   go_loopw [34] (fun i wr=>∃j:Nat,j<=l.length/\i=.int .i64 j/\HAt wr (U+1) (rC (fun t=>qw N t.toNat b) ks0 (l.take j))/\Below (U+1) wo wr)
    (fun i _=>l.length-(RowKit.intOf i).toNat)
   case atStart=>exact⟨0,af0 _,rfl,hH,hB⟩
   case round =>
    clear hH hB d0 v1 d1 hBw;obtain⟨j,hj,rfl,hH,hB⟩:=hrel
    by_cases hjl:j<l.length
    ·obtain⟨t,ht⟩:∃t,l[j]?=some t:=⟨_,afE hjl⟩
     have htb:=HLL.out t (af7 ht);obtain⟨tn,rfl⟩:∃tn:Nat,t=(tn:Int):=⟨t.toNat,by omega⟩;have hBw:Below U w wr:=HB.out.trans (hB.mono (by omega));obtain⟨Bl,ol,rfl,hBl,hLc⟩:=HE2.out (by intro e;rw[e]at hjl;simp at hjl);rw[<-HU.out]at hBl;have hte:l[j]=(tn:Int):=(by obtain⟨_,e⟩:=afW.1 ht;exact e);have d0:=(hBw.cell (p:=⟨Bl,ol+j,none⟩) hBl).trans (hLc j hjl);rw[hte]at d0;have htn:tn<N.cl.length:=(by omega);obtain⟨Bc,oc,rfl,hBc,hCc⟩:=HC.out (by intro e;rw[e]at htn;simp at htn);rw[<-HU.out]at hBc;obtain⟨c0,c1,c2,c3⟩:=hCc tn htn;replace c0:=(hBw.cell (p:=⟨Bc,oc+tn*4,none⟩) hBc).trans c0;replace c1:=(hBw.cell (p:=⟨Bc,oc+tn*4+1,none⟩) hBc).trans c1;replace c2:=(hBw.cell (p:=⟨Bc,oc+tn*4+2,none⟩) hBc).trans c2;replace c3:=(hBw.cell (p:=⟨Bc,oc+tn*4+3,none⟩) hBc).trans c3;have v0:=(hB.cell (p:=⟨U,0,none⟩) (by show U<U+1;omega)).trans u0;have hx:qw N tn b=(N.cl[tn]).has b:=by
      unfold qw;rw[afG,afE htn];rfl
     have JO:Hid (rC (fun t=>qw N t.toNat b) ks0 (l.take (j+1))=if qw N tn b=true then lg (rC (fun t=>qw N t.toNat b) ks0 (l.take j)) tn else rC (fun t=>qw N t.toNat b) ks0 (l.take j)):=hid (by
      rw[take_snoc ht];unfold rC;rw[agI];rfl)
     have hhas:=fun W=>Oi (N.cl[tn]).a (N.cl[tn]).b (N.cl[tn]).c (N.cl[tn]).d b (N.cl[tn]).h hb W;change ∀W,Calls Tryz.prog 125 _ W fun e w'=>e=.returned (.bool ((N.cl[tn]).has b))/\Below W.heap.size W w' at hhas;rw[<-hx]at hhas;obtain⟨ks1,abe⟩:=afC (rC (fun t=>qw N t.toNat b) ks0 (l.take j));rw[<-abe]at hH JO;generalize (N.cl[tn]).a=xa at *;generalize (N.cl[tn]).b=xb at *;generalize (N.cl[tn]).c=xc at *;generalize (N.cl[tn]).d=xd at *;have hj0:(0:Int)<=(j:Int):=(by omega);have hj1:(j:Int)<(l.length:Int):=(by omega);have ht0:(0:Int)<=(tn:Int):=(by omega);have ht1:(tn:Int)<(n:Int):=(by rw[HNn.out];omega);clear hLc hCc hx ht htb hte abe
     cases hz:qw N tn b with
     | true =>
      rw[hz]at hhas;have YX:=hid (JO.out.trans (afR hz));clear hz JO;go_wp2_with (first
       | (go_at_call 125;(with_reducible refine(hhas _).mono ?_);rintro e W3 ⟨rfl,hB3⟩;have hB4:Below (U+1) wo W3:=hB.trans (hB3.mono (ahh hH.lt));have hH4:=hH.below hB3 hH.lt)
       | (at_mapUpdate;(with_reducible refine JQ W3 (U+1) ks1 tn rfl rfl hH4 ?_);rintro W5 hH5 hT5))
      exact⟨⟨j+1,by omega,by simp,by rw[YX.out];exact hH5,hB4.trans (hT5.below (by have:=hH4.lt;omega) afD)⟩,by simp[RowKit.intOf];omega⟩
     | false =>
      rw[hz]at hhas;have YX:=hid (JO.out.trans (afO (by rw[hz];decide)));clear hz JO;go_wp2_with (first
       | (go_at_call 125;(with_reducible refine(hhas _).mono ?_);rintro e W3 ⟨rfl,hB3⟩;have hB4:Below (U+1) wo W3:=hB.trans (hB3.mono (ahh hH.lt));have hH4:=hH.below hB3 hH.lt))
      exact⟨⟨j+1,by omega,by simp,by rw[YX.out];exact hH4,hB4⟩,by simp[RowKit.intOf];omega⟩
    ·obtain rfl:j=l.length:=by omega
     rw[agK,<-HST.out]at hH;go_wp2_with fail
     exact⟨⟨k+1,by omega,by simp,hH,hB⟩,by simp[RowKit.intOf];omega⟩
  ·obtain rfl:k=m:=by omega
   rw[HMm.out,agK]at hH;have hls:(jL N S b).length<=1024:=agb (wu _ _ _ _ _) HO.out.most;have adE:=F6 (U+1);have hsz:=hH.lt;have hso:=yP (hH.below ((afI wr.heap.size wr).alloc afD (.cells #[.map (some (U+1))] 112)) hsz) HP.out (tV _ _ _ _ _) (fun x hx=>by have h1:=zX hx;have h2:=HO.out.most;omega) (by omega) (Bm:=wr.heap.size) (by simp) (by simp);have hb9:Below w.heap.size w (wr.alloc (.cells #[.map (some (U+1))] 112)):=(by rw[<-HU.out];exact (HB.out.trans (hB.mono (by omega))).alloc (by omega) _);have HSO:=hid hso;have HB9:=hid hb9;clear hso hb9 hH;go_wp2_with (first
    | (go_at_call 60;(with_reducible refine(adE _).mono ?_);rintro e W3 ⟨rfl,rfl⟩)
    | (go_at_call 59;(with_reducible refine HSO.out.mono ?_);rintro e W4 ⟨v,rfl,hrow,hb4⟩))
   exact afJ (v:=v) (by simp[results,Tryz.results109,go_sem]) rfl ⟨v,rfl,kE hrow (HB9.out.size),HB9.out.trans (hb4.mono HB9.out.size)⟩
end
section
open Go Go.Proofs Go.RowKit
attribute [local go_sem] Oper.semAt_some
theorem RG(N:Nf)(o:yN N)(ac an ar:Option Addr)(cc cn cr:Nat)(S:List Int)(hS:S.length<=1000000)(hin:∀q∈S,0<=q/\q<(N.cl.length:Int))(aS:Option Addr)(cs:Nat)(b:Nat)(hb:b<256)(w:World)(h:uZ w N ac an ar)(hI:aH w aS S):
  Calls Tryz.prog 66 #[.agg #[.slice ac N.cl.length cc,.slice an N.nx.length cn,.slice ar N.ru.length cr],.slice aS S.length cs,.int .u8 b] w fun e w'=>∃v,e=.returned v/\w'.ownsRow w.heap.size 3 1 v (jL N S b).length ((jL N S b).map (Value.int .i64))/\Below w.heap.size w w':=by
 have hb0:Below w.heap.size w (w.alloc (.cells #[.slice ac N.cl.length cc,.slice an N.nx.length cn,.slice ar N.ru.length cr] 74)):=(afI _ w).alloc afD _;have hck:=rD o (cc:=cc) (cn:=cn) (cr:=cr) (h.below hb0 afD);have hst:=fun W (hB:Below w.heap.size w W)=>RF N o ac an ar cc cn cr S hS hin aS cs b hb W (h.below hB afD) (hI.below hB afD);have g0:∀(W:World)(j:Nat)(v:Value),Below (w.alloc (.cells #[.slice ac N.cl.length cc,.slice an N.nx.length cn,.slice ar N.ru.length cr] 74)).heap.size (w.alloc (.cells #[.slice ac N.cl.length cc,.slice an N.nx.length cn,.slice ar N.ru.length cr] 74)) W->(#[Value.slice ac N.cl.length cc,.slice an N.nx.length cn,.slice ar N.ru.length cr])[j]?=some v->W.cell? ⟨w.heap.size,j,none⟩=some v:=fun W j v hb hv=>(hb.cell (p:=⟨w.heap.size,j,none⟩) (by simp)).trans (by simp[hv]);go_enter Tryz.func66,Tryz.ntmps66
 go_wp2_with (first
  | (go_at_call 61;(with_reducible refine hck.mono ?_);rintro e W1 ⟨rfl,hb1⟩;have e0:=g0 W1 0 _ hb1 rfl;have e1:=g0 W1 1 _ hb1 rfl;have e2:=g0 W1 2 _ hb1 rfl;have hb2:=hb0.trans (hb1.mono (by simp)))
  | (go_at_call 109;(with_reducible refine(hst _ hb2).mono ?_);rintro e W3 ⟨v,rfl,hrow,hb3⟩))
 exact afJ (v:=v) (by simp[results,Tryz.results66,go_sem]) rfl ⟨v,rfl,kE hrow hb2.size,hb2.trans (hb3.mono hb2.size)⟩
structure Ch(bad:List Nat)(X Y:World):Prop where
 low:Below 0 X Y
 same:∀k,k<X.heap.size->k∉bad->Y.heap[k]?=X.heap[k]?
theorem Ch.refl(bad:List Nat)(X:World):Ch bad X X:=⟨afI _ _,fun _ _ _=>rfl⟩
theorem Ch.trans'{bad bad':List Nat}{X Y Z:World}(h:Ch bad X Y)(k:Ch bad' Y Z)(hb:∀b∈bad',b<X.heap.size->b∈bad):Ch bad X Z:=
 ⟨h.low.trans k.low,fun i hi hn=>(k.same i (afN hi h.low.size) (fun hm=>hn (hb i hm hi))).trans (h.same i hi hn)⟩
theorem Ch.trans{bad:List Nat}{X Y Z:World}(h:Ch bad X Y)(k:Ch bad Y Z):Ch bad X Z:=h.trans' k fun _ hb _=>hb
theorem Ch.mono{bad bad':List Nat}{X Y:World}(h:Ch bad X Y)(hb:∀b∈bad,b<X.heap.size->b∈bad'):Ch bad' X Y:=⟨h.low,fun k hk hn=>h.same k hk fun hm=>hn (hb k hm hk)⟩
theorem Ch.of_below{X Y:World}(h:Below X.heap.size X Y)(bad:List Nat):Ch bad X Y:=⟨h.mono (af0 _),fun k hk _=>h.block k hk⟩
theorem Ch.wB{A:Nat}{X Y:World}(h:AX.But A X Y){bad:List Nat}(hA:A∈bad):Ch bad X Y:=⟨h.low,fun k hk hn=>h.same k hk fun e=>hn (e▸ hA)⟩
theorem Ch.ni{A:Nat}{X Y:World}(hl:Below 0 X Y)(h:∀k,k≠A->Y.heap[k]?=X.heap[k]?){bad:List Nat}(hA:A∈bad):Ch bad X Y:=⟨hl,fun k _ hn=>h k fun e=>hn (e▸ hA)⟩
theorem Ch.tX{X Y:World}{row:Option Nat}(h:X.grownBy Y row){bad:List Nat}(hA:∀g,row=some g->g∈bad):Ch bad X Y:=
 ⟨(afI 0 X).grown h (af0 _) (fun _ _=>af0 _),fun k hk hn=>h.block k hk fun e=>hn (hA k e.symm)⟩
theorem Ch.below{n:Nat}{bad:List Nat}{X Y:World}(h:Ch bad X Y)(hn:n<=X.heap.size)(hb:∀b∈bad,n<=b):Below n X Y:=
 ⟨h.low.os,h.low.tape,h.low.output,h.low.size,fun k hk=>h.same k (by omega) fun hm=>by have:=hb k hm;omega⟩
theorem Ch.cell{bad:List Nat}{X Y:World}(h:Ch bad X Y){b:Nat}(hb:b<X.heap.size)(hn:b∉bad)(o:Nat):Y.cell? ⟨b,o,none⟩=X.cell? ⟨b,o,none⟩:=by
 unfold World.cell?;rw[h.same b hb hn]
theorem Ch.bx{bad:List Nat}{X Y:World}(h:Ch bad X Y){b:Nat}{t:TypeId}{cs:Array Value}(hX:Bx X b t cs)(hn:b∉bad):Bx Y b t cs:=(h.same b hX.lt hn).trans hX
def SAt(W:World)(bad:List Nat)(v:Value)(l:List Int):Prop:=∃a c,v=.slice a l.length c/\(l≠[]->∃b off,a=some ⟨b,off,none⟩/\b<W.heap.size/\b∉bad/\∀j (h:j<l.length),W.cell? ⟨b,off+j,none⟩=some (.int .i64 l[j]))
theorem SAt.ch{bad:List Nat}{X Y:World}{v:Value}{l:List Int}(h:SAt X bad v l)(hc:Ch bad X Y):SAt Y bad v l:=by
 obtain⟨a,c,rfl,h⟩:=h;refine⟨a,c,rfl,fun h0=>?_⟩;obtain⟨b,off,h1,h2,h3,h4⟩:=h h0;exact⟨b,off,h1,afN h2 hc.low.size,h3,fun j hj=>(hc.cell h2 h3 _).trans (h4 j hj)⟩
theorem SAt.more{bad bad':List Nat}{X:World}{v:Value}{l:List Int}(h:SAt X bad v l)(hb:∀k∈bad',k<X.heap.size->k∈bad):SAt X bad' v l:=by
 obtain⟨a,c,rfl,h⟩:=h;refine⟨a,c,rfl,fun h0=>?_⟩;obtain⟨b,off,h1,h2,h3,h4⟩:=h h0;exact⟨b,off,h1,h2,fun hm=>h3 (hb b hm h2),h4⟩
theorem SAt.VE{bad:List Nat}{X:World}{v:Value}{l:List Int}(h:SAt X bad v l):∃a c,v=.slice a l.length c/\aH X a l:=by
 obtain⟨a,c,rfl,h⟩:=h;refine⟨a,c,rfl,fun h0=>?_⟩;obtain⟨b,off,h1,h2,_,h4⟩:=h h0;exact⟨b,off,h1,h2,h4⟩
theorem addr_add(B o j:Nat):(⟨B,o,none⟩:Addr).add j=⟨B,o+j,none⟩:=by unfold Addr.add;split<;>simp_all
theorem SAt.wC{bad:List Nat}{X:World}{base:Nat}{v:Value}{l:List Int}(h:X.ownsRow base 3 1 v l.length (l.map (Value.int .i64)))(hb:∀k∈bad,k<base):SAt X bad v l:=by
 obtain⟨a,c,rfl⟩:=aU h;have hn:∀n,Value.slice a n c=Value.slice a l.length c->True:=fun _ _=>trivial;rcases h.2 with ⟨h0,hl⟩|⟨g,cap,cur,h0,_⟩
 ·refine⟨none,0,?_,fun hne=>absurd (agB hl) hne⟩
  rw[h0,hl]
 ·cases h0
  refine⟨_,_,rfl,fun hne=>⟨g,0,rfl,(h.lt g rfl).2,fun hm=>?_,fun j hj=>?_⟩⟩
  ·have h1:=(h.lt g rfl).1
   have h2:=hb g hm;omega
  ·have:=h.cells (g:=g) rfl j (.int .i64 l[j]) (by simp[hj])
   rw[addr_add]at this;exact this
def kv(S:List Int):Value:=.string ⟨(jJ S).toArray⟩
def eY:Nat->Sets->List MapEntry
 | _,[]=>[]
 | o,S::T=>{key:=kv S,val:=.int .i64 (o:Int),born:=o}::eY (o+1) T
theorem zY:∀(o:Nat)(T:Sets)(S:List Int),eY o (T++[S])=eY o T++[{key:=kv S,val:=.int .i64 ((o+T.length:Nat):Int),born:=o+T.length}]
 | o,[],S=>by simp[eY]
 | o,U::T,S=>by
  show _::eY (o+1) (T++[S])=_::(eY (o+1) T++_)
  rw[zY (o+1) T S,agl,show o+1+T.length=o+(T.length+1)by omega]
def Small(S:List Int):Prop:=∀k∈S,0<=k/\k<65536
theorem RH{a b:Int}(ha:0<=a/\a<65536)(hb:0<=b/\b<65536)(h1:UInt8.ofNat (a / 256 % 256).toNat=UInt8.ofNat (b / 256 % 256).toNat)(h2:UInt8.ofNat (a % 256).toNat=UInt8.ofNat (b % 256).toNat):a=b:=by
 rw[<-UInt8.toNat_inj,ahy,ahy]at h1 h2;omega
theorem Ho:∀{S U:List Int},Small S->Small U->jJ S=jJ U->S=U
 | [],[],_,_,_=>rfl
 | [],u::U,_,_,h=>by simp[jJ]at h
 | s::S,[],_,_,h=>by simp[jJ]at h
 | s::S,u::U,hS,hU,h=>by
  have h':UInt8.ofNat (s / 256 % 256).toNat::UInt8.ofNat (s % 256).toNat::jJ S=UInt8.ofNat (u / 256 % 256).toNat::UInt8.ofNat (u % 256).toNat::jJ U:=h;obtain⟨h1,h2⟩:=ais h';obtain⟨h2,h3⟩:=ais h2;rw[RH (hS s (afS ..)) (hU u (afS ..)) h1 h2,Ho (fun k hk=>hS k (afV _ hk)) (fun k hk=>hU k (afV _ hk)) h3]
theorem YZ{S U:List Int}(hS:Small S)(hU:Small U):kv S=kv U↔S=U:=by
 refine⟨fun h=>?_,fun h=>by rw[h]⟩;unfold kv at h;have:(jJ S).toArray=(jJ U).toArray:=by
  have h2:=Value.string.inj h;exact ag3 ByteArray.data h2
 exact Ho hS hU (by simpa using this)
theorem RI{S:List Int}(hS:Small S):∀(T:Sets)(o i:Nat),(∀U∈T,Small U)->Instr.findNow .string (kv S) (eY o T) i =
  some (if T.findIdx (fun U=>U == S)<T.length then some (i+T.findIdx (fun U=>U == S),.int .i64 ((o+T.findIdx (fun U=>U == S):Nat):Int))else none)
 | [],o,i,_=>by simp[eY,Instr.findNow]
 | U::T,o,i,hT=>by
  obtain⟨r,hr,hiff⟩:=MapKept.sameNow_of_keys (d:=.string) (a:=kv S) (b:=kv U) trivial trivial;have ih:=RI hS T (o+1) (i+1) (fun V hV=>hT V (afV _ hV));rw[YZ hS (hT U (afS ..))]at hiff;unfold eY Instr.findNow;simp only[hr]
  by_cases e:U=S
  ·have:r=true:=hiff.2 e.symm
   subst this;subst e;simp[ah4]
  ·have:r=false:=by
    cases r with
    | false=>rfl
    | true=>exact absurd (hiff.1 rfl).symm e
   subst this;have e':(U == S)=false:=(by simpa using e);simp only[ih,ah4,e',cond_false,agl,Nat.add_lt_add_iff_right];split
   ·congr 3
    ·omega
    ·congr 2;omega
   ·rfl
def fi(T:Sets)(S:List Int):Nat:=T.findIdx (fun U=>U == S)
theorem Y0{W:World}{r:Nat}{T:Sets}{c:Nat}{S:List Int}(hb:W.heap[r]?=some (.map (eY 0 T).toArray c))(hS:Small S)(hT:∀U∈T,Small U):
  (Instr.lookup 128 (.map (some r)) (kv S) true).run Tryz.prog W=.ok (.tuple #[.int .i64 (if fi T S<T.length then (fi T S:Int)else 0),.bool (decide (fi T S<T.length))]) W:=by
 have hm:Tryz.prog.underlying 128=some (.map 9 3):=Tryz.underlying128;have hd:Tryz.prog.underlying 9=some .string:=Tryz.underlying9;have hc:(Instr.checkKey (eY 0 T).toArray.isEmpty 10000 9 (kv S)).run Tryz.prog W=.ok () W:=MapKept.run_checkKey hd (k:=kv S) trivial _ 9999;have hf:=RI hS T 0 0 hT;have hz:=Tryz.zeroValue3;change _=some (if fi T S<T.length then some (0+fi T S,Value.int .i64 ((0+fi T S:Nat):Int))else none)at hf
 by_cases h:fi T S<T.length
 ·rw[afR h,af9]at hf
  rw[afR h,agL h];simp only[Instr.lookup,Sem.run_bind,run_underlying hm,Result.andThen_ok,MapKept.run_getObj_map hb,Sem.run_pure,hc,MapKept.run_findKey hd (l:=(eY 0 T).toArray.toList) hf];rfl
 ·rw[afO h]at hf
  rw[afO h,agC h];simp only[Instr.lookup,Sem.run_bind,run_underlying hm,Result.andThen_ok,MapKept.run_getObj_map hb,Sem.run_pure,hc,MapKept.run_findKey hd (l:=(eY 0 T).toArray.toList) hf,hz];rfl
theorem abf{W:World}{r:Nat}{T:Sets}{S:List Int}(hb:W.heap[r]?=some (.map (eY 0 T).toArray T.length))(hS:Small S)(hT:∀U∈T,Small U)(hn:¬fi T S<T.length):
  ∃W',(Instr.mapUpdate 128 (.map (some r)) (kv S) (.int .i64 T.length)).run Tryz.prog W=.ok () W'/\W'.heap[r]?=some (.map (eY 0 (T++[S])).toArray (T++[S]).length)/\AX.But r W W':=by
 have hm:Tryz.prog.underlying 128=some (.map 9 3):=Tryz.underlying128;have hd:Tryz.prog.underlying 9=some .string:=Tryz.underlying9;have hf:=RI hS T 0 0 hT;change _=some (if fi T S<T.length then some (0+fi T S,Value.int .i64 ((0+fi T S:Nat):Int))else none)at hf;rw[afO hn]at hf;have hc:(Instr.checkKey false 10000 9 (kv S)).run Tryz.prog W=.ok () W:=MapKept.run_checkKey hd (k:=kv S) trivial _ 9999;have hx:((eY 0 T).toArray.push {key:=kv S,val:=.int .i64 (T.length:Int),born:=T.length})=(eY 0 (T++[S])).toArray:=by
  rw[zY,af9];simp
 refine⟨{W with heap:=W.heap.setIfInBounds r (.map ((eY 0 T).toArray.push {key:=kv S,val:=.int .i64 (T.length:Int),born:=T.length}) (T.length+1))},?_,?_,⟨⟨rfl,rfl,rfl,by simp,fun j hj=>absurd hj (agp _)⟩,fun j hj hne=>(MapKept.heap_set hb).2 j hne⟩⟩
 ·simp only[Instr.mapUpdate,Sem.run_bind,run_underlying hm,Result.andThen_ok,MapKept.run_getObj_map hb,hc,MapKept.run_findKey hd (l:=(eY 0 T).toArray.toList) hf,MapKept.run_setObj_map _ hb]
 ·rw[<-hx,afP]
  exact (MapKept.heap_set hb).1
def aT(M r:Nat)(sv:Value)(oth:List Nat):List Nat:=M::r::(sv.ownBlock.toList++oth)
structure Mkr(W:World)(base:Nat)(oth:List Nat)(M r:Nat)(x0 x1 x2:Value)(most:Nat)(sv:Value)(vals:List Value)(T:Sets):Prop where
 box:Bx W M 130 #[x0,x1,x2,.int .i64 most,sv,.map (some r)]
 own:W.ownsRow base 25 1 sv T.length vals
 vl:vals.length=T.length
 row:∀(i:Nat)(v:Value)(S:List Int),vals[i]?=some v->T[i]?=some S->SAt W (aT M r sv oth) v S
 map:W.heap[r]?=some (.map (eY 0 T).toArray T.length)
 bM:base<=M
 br:base<=r
 small:∀U∈T,Small U
theorem Mkr.ne{W:World}{base:Nat}{oth:List Nat}{M r:Nat}{x0 x1 x2:Value}{most:Nat}{sv:Value}{vals:List Value}{T:Sets}(h:Mkr W base oth M r x0 x1 x2 most sv vals T):M≠r:=by
 intro e;have h1:=h.box;have h2:=h.map;rw[<-e,show W.heap[M]?=_ from h1]at h2
 cases h2
theorem bU{W:World}{base:Nat}{e:TypeId}{k:Nat}{v:Value}{n:Nat}{xs:List Value}(h:W.ownsRow base e k v n xs)(g:Nat)(hg:v.ownBlock=some g):∃cs,W.heap[g]?=some (.cells cs e (0,0)):=by
 rcases h.2 with ⟨rfl,_⟩|⟨g',cap,cur,rfl,_,hh,_⟩
 ·cases hg
 ·cases hg
  exact⟨cur,hh⟩
theorem Mkr.neM{W:World}{base:Nat}{oth:List Nat}{M r:Nat}{x0 x1 x2:Value}{most:Nat}{sv:Value}{vals:List Value}{T:Sets}(h:Mkr W base oth M r x0 x1 x2 most sv vals T):sv.ownBlock≠some M:=fun e=>by
 obtain⟨cs,hc⟩:=bU h.own M e;rw[show W.heap[M]?=_ from h.box]at hc
 cases hc
theorem Mkr.ner{W:World}{base:Nat}{oth:List Nat}{M r:Nat}{x0 x1 x2:Value}{most:Nat}{sv:Value}{vals:List Value}{T:Sets}(h:Mkr W base oth M r x0 x1 x2 most sv vals T):sv.ownBlock≠some r:=fun e=>by
 obtain⟨cs,hc⟩:=bU h.own r e;rw[h.map]at hc
 cases hc
theorem VF:(Tryz.prog.info? 25).map (fun i=>(i.zero,i.size,i.bytes))=some (some (.slice none 0 0),1,24):=by kernel_rfl
theorem RJ{ops:Array Oper}{rest:List Oper}{o:Oper}{a:Act}{Q:Exit->Act->World->Prop}(W:World)(base:Nat)(v:Value)(pre:List Value)(y:Value)(hgd:o.guard=none)(s z:Operand)
  (ho:o.op=.call {callee:=.builtin .append,args:=#[s,z],argTypes:=#[72,72]}) (hs:a.eval s=v) (n:Nat) (hn:pre.length=n) (hown:W.ownsRow base 25 1 v n pre) (B c:Nat) (hx:a.eval z=.slice (some ⟨B,0,none⟩) 1 c)
  (hc0:W.cell? ⟨B,0,none⟩=some y) (hy:y.oneCell'=true) (hl:pre.length<=10000000) (hb:base<=W.heap.size)
  (h:∀v' w',w'.ownsRow base 25 1 v' (n+1) (pre++[y])->W.grownBy w' v.ownBlock->(v'.ownBlock=v.ownBlock\/v'.ownBlock=some W.heap.size)->wpList Tryz.prog ops Q rest (a.put o.dst v') w'):wpList Tryz.prog ops Q (o::rest) a W:=by
 obtain⟨ti,hi,hz0,hz1,hz2⟩:=info_parts VF;refine wpList_append_own_at (P:=Tryz.prog) (w:=W) hgd s z 72 ho base 25 ti (.slice none 0 0) 1 24 Tryz.underlying72 hi hz0 hz1 hz2 rfl (by decide) v n _ hs hown ⟨B,0,none⟩ 1 c [y] hx rfl
  (fun j u hj=>by
   rcases j with _|j
   ·simp at hj;subst hj;exact hc0
   ·simp at hj) (fun u hu=>by rw[afK.1 hu];exact hy) (by unfold maxLen;omega) (by omega) hb ?_
 intro v' w' h1 h2 h3 h4;exact h v' w' h1 h2 h4
theorem Xy(S:List Int)(hS:S.length<=1000000)(hb:∀k∈S,0<=k/\k<65536)(aS:Option Addr)(cs:Nat)(w:World)(hI:aH w aS S):
  Calls Tryz.prog 101 #[.slice aS S.length cs] w fun e w'=>e=.returned (.string ⟨(jJ S).toArray⟩)/\Below w.heap.size w w':=by
 obtain⟨m,hm⟩:=afC S.length;have HS:=Lib.hid hm;have HB:=Lib.hid hb;rw[<-hm]at hS⊢;clear hm hb;have hr0:Ou w w.heap.size (.slice none 0 0) []:=World.ownsRow_nil _ _ _ _;go_enter Tryz.func101,Tryz.ntmps101
 go_wp2_with fail
 go_loopw [3,8] (fun t3 i wr=>∃k:Nat,k<=m/\i=.int .i64 k/\Ou wr w.heap.size t3 (jJ (S.take k))/\Below w.heap.size w wr)
  (fun _ i _=>m-(RowKit.intOf i).toNat)
 case atStart=>exact⟨0,af0 _,rfl,hr0,afI _ _⟩
 case round =>
  clear hr0;obtain⟨k,hk,rfl,hr,hb⟩:=hrel
  by_cases hkl:k<m
  ·obtain⟨q,hq⟩:∃q,S[k]?=some q:=⟨_,afE (by rw[<-HS.out];exact hkl)⟩
   have hqb:=HB.out q (af7 hq);obtain⟨p,rfl⟩:∃p:Nat,q=(p:Int):=⟨q.toNat,by omega⟩;obtain⟨Bs,os,rfl,hBs,hSc⟩:=hI (by intro e;rw[e]at hq;cases hq);have hkS:k<S.length:=(by rw[<-HS.out];exact hkl);have d0:=(hb.cell (p:=⟨Bs,os+k,none⟩) hBs).trans (hSc k hkS);have hqe:S[k]=(p:Int):=(by obtain⟨_,e⟩:=afW.1 hq;exact e);rw[hqe]at d0;have hK:Hid (jJ (S.take (k+1))=jJ (S.take k)++[UInt8.ofNat (p / 256),UInt8.ofNat p]):=Lib.hid (by
    rw[agy hkS,hqe];unfold jJ;rw[ag7]
    congr 1
    simp only[agG,List.flatMap_nil,aha]
    congr 1
    ·congr 1;omega
    ·congr 1
     rw[<-UInt8.toNat_inj,ahy,ahy];omega)
   have hk0:(0:Int)<=(k:Int):=(by omega);have hk1:(k:Int)<(m:Int):=(by omega);have hkt:(k:Int).toNat=k:=(by omega);have hp0:p<65536:=(by omega);clear hq hSc hqe hqb;have x0:(((UInt8.ofNat (p / 256)).toNat:Nat):Int)=(p:Int) / 256:=(by rw[ahy];omega);have x1:(((UInt8.ofNat p).toNat:Nat):Int)=(p:Int) % 256:=(by rw[ahy];omega);have hbw:Below w.heap.size wr (wr.alloc (.cells #[.int .u8 ((p:Int) / 256),.int .u8 ((p:Int) % 256)] 5)):=(afI _ wr).alloc hb.size _;have hc0:(wr.alloc (.cells #[.int .u8 ((p:Int) / 256),.int .u8 ((p:Int) % 256)] 5)).cell? ⟨wr.heap.size,0,none⟩=some (.int .u8 (((UInt8.ofNat (p / 256)).toNat:Nat):Int)):=(by rw[x0];simp);have hc1:(wr.alloc (.cells #[.int .u8 ((p:Int) / 256),.int .u8 ((p:Int) % 256)] 5)).cell? ⟨wr.heap.size,1,none⟩=some (.int .u8 (((UInt8.ofNat p).toNat:Nat):Int)):=(by rw[x1];simp);have hra:Ou (wr.alloc (.cells #[.int .u8 ((p:Int) / 256),.int .u8 ((p:Int) % 256)] 5)) w.heap.size u3 (jJ (S.take k)):=World.ownsRow.alloc hr _;have abX:w.heap.size<=(wr.alloc (.cells #[.int .u8 ((p:Int) / 256),.int .u8 ((p:Int) % 256)] 5)).heap.size:=agb hb.size (by simp);have ad4:(jJ (S.take k)).length<=10000000:=by
    have:∀l:List Int,(jJ l).length=2*l.length:=fun l=>by
     unfold jJ
     induction l with
     | nil=>rfl
     | cons a l ih=>rw[agG,afP,ih];simp;omega
    rw[this,agZ];omega
   have HC0:=Lib.hid hc0;have HC1:=Lib.hid hc1;clear x0 x1 hc0 hc1;go_wp2_with (at_builtin;refine H9 _ w.heap.size u3 _ (UInt8.ofNat (p / 256)) (UInt8.ofNat p) rfl _ _ rfl rfl hra wr.heap.size 2 rfl HC0.out HC1.out ad4 abX ?_;intro v' W5 hr5 hg5)
   exact⟨⟨k+1,by omega,by simp,by rw[hK.out];exact hr5,(hb.trans hbw).trans ((afI w.heap.size _).grown hg5 abX fun g e=>(World.ownsRow.lt hra g e).1)⟩,by simp[RowKit.intOf];omega⟩
  ·obtain rfl:k=m:=by omega
   rw[HS.out,agK]at hr;rw[<-HS.out]at *;have hcv:(convert 106 9 u3).run Tryz.prog wr=.ok (.string ⟨(jJ S).toArray⟩) wr:=by
    rcases hr.2 with ⟨rfl,hn⟩|⟨g,cap,cur,rfl,_⟩
    ·rw[agB hn]
     exact run_convert_bytes_nil wr 106 5 Tryz.underlying106 Tryz.underlying5 _ _ 9 Tryz.underlying9
    ·have:=run_convert_bytes_arg (P:=Tryz.prog) wr 106 5 Tryz.underlying106 Tryz.underlying5 g 0 (jJ S).length cap ((jJ S).map fun b=>((b.toNat:Nat):Int)) (by simp) (fun i hi=>by
      have:=World.ownsRow.cellAt hr i (by simpa using hi);rw[af9,this];simp[hi]) 9 Tryz.underlying9
     rw[this]
     congr 2
     simp[strOfNums,Function.comp_def]
   clear hr;go_wp2_with fail
   go_ret
   exact⟨rfl,hb⟩
end
end Go.Proofs.YtkjgogdkdejljaaGreatDoor.Df
namespace Go.Proofs.YtkjgogdkdejljaaGreatDoor.AX
open Go
def SY(b:Builtin):Bool:=
 match b with
 | .len| .cap| .min| .max=>true
 | _=>false
def Fe(o:Op):Bool:=
 match o with
 | .call c=>match c.callee with
  | .builtin b=>SY b
  | _=>false
 | .nilCheck _| .move _| .assign _| .pick ..| .load ..| .binOp ..| .unOp ..| .convert ..| .build ..| .fieldAddr ..| .field ..| .indexAddr ..| .index ..| .extract ..| .slice ..=>true
 | _=>false
theorem yu{P:Program}{s:Sem Value}{w w':World}{n:Next}(h:(do let x <-s;pure (Next.value x):Sem Next).run P w=.ok n w'):∃u,n=.value u:=by
 simp only[Sem.run_bind]at h
 cases hs:s.run P w with
 | ok x w1=>rw[hs]at h;simp at h;exact⟨_,h.1.symm⟩
 | halt x w1=>rw[hs]at h;simp at h
theorem OC{P:Program}{ρ: Operand->Value}{o:Oper}{w w':World}{n:Next}(hp:Fe o.op=true)(h:(execOp ρ o).run P w=.ok n w'):∃u,n=.value u:=by
 obtain⟨dst,op,type,pos,after,guard⟩:=o
 cases op<;>simp only[Fe,ahr]at hp<;>simp only[execOp]at h
 case nilCheck x =>
  generalize ρ x=v at h
  repeat' split at h
  all_goals first
   | exact yu h
   | (simp at h;exact⟨_,h.1.symm⟩)
   | (simp[runtimePanic,goPanic]at h;done)
   | skip
  all_goals
   simp only[Sem.run_bind]at h;unfold Result.andThen at h;split at h
   ·dsimp only at h
    split at h
    ·split at h
     ·simp[unsupported]at h
     ·simp at h;exact⟨_,h.1.symm⟩
    ·cases h
   ·cases h
 case move=>simp at h;exact⟨_,h.1.symm⟩
 case assign=>simp at h;exact⟨_,h.1.symm⟩
 case call c =>
  obtain⟨callee,args,ats⟩:=c
  cases callee<;>simp only[ahr]at hp
  rename_i b
  cases b<;>simp only[SY,ahr]at hp
  all_goals exact yu (by simpa[resolve,invoke,builtin]using h)
 case pick=>exact yu (s:=do pure (if <-asBool _ then _ else _)) (by simpa using h)
 all_goals exact yu h
section
variable {P : Program} {ops : Array Oper} {md : Region.Mode} {C : World -> Prop} {Q : Exit -> Act -> World -> Prop}
def jX(P:Program)(ops:Array Oper)(C:World->Prop)(o:Oper)(v:Value)(a:Act):Prop:=
 (Region.wanted o (yielded ops a.tmps)=true/\∀w,C w->(execOp a.eval o).run P w=.ok (.value v) w)\/(Region.wanted o (yielded ops a.tmps)=false/\v=undef)
theorem jv{o:Oper}{v:Value}{a:Act}(hp:Fe o.op=true)(h:YieldsIn P ops C o v a):jX P ops C o v a:=by
 rcases h with ⟨h1,h2⟩|h
 ·refine .inl ⟨h1,fun w hw=>?_⟩
  have h3:=h2 w hw;unfold Oper.quietAt at h3
  cases hr:(execOp a.eval o).run P w with
  | ok n w' =>
   obtain⟨u,rfl⟩:=OC hp hr;rw[hr]at h3;obtain⟨rfl,rfl⟩:=h3;rfl
  | halt x w'=>rw[hr]at h3;exact h3.elim
 ·exact .inr h
theorem jX.at{i:Nat}{o:Oper}{v:Value}{a:Act}(hi:ops[i]?=some o)(hy:jX P ops C o v a){K:Act->World->Prop}{w:World}(hw:C w)(h:K (a.put o.dst v) w):wpOp P ops Q i K a w:=by
 unfold wpOp;simp only[hi];rcases hy with ⟨h1,h2⟩|⟨h1,rfl⟩
 ·rw[afR h1]
  refine .inl ?_;unfold Oper.wp;rw[h2 w hw];exact h
 ·rw[afO (by rw[h1];decide)]
  exact h
def wI(P:Program)(md:Region.Mode)(ops:Array Oper)(C:World->Prop)(Q:Exit->Act->World->Prop):Nat->Array Bool->Act->World->Prop
 | 0,listed,a,w=>Region.ready md ops listed=[]/\Q .normal a w
 | fuel+1,listed,a,w=>(Region.ready md ops listed=[]->Q .normal a w) /\
  ∀i∈Region.ready md ops listed,wpOp P ops Q i (fun a' w'=>C w'/\wI P md ops C Q fuel (listed.setIfInBounds i true) a' w') a w
theorem nI:∀(fuel:Nat)(listed:Array Bool)(a:Act)(w:World),wI P md ops C Q fuel listed a w->wpAny P md ops Q fuel listed a w
 | 0,_,_,_,h=>h
 | fuel+1,_,_,_,h=>⟨h.1,fun i hi=>wpOp_mono (fun a' w' h'=>nI fuel _ a' w' h'.2) (h.2 i hi)⟩
def LZ(d:Option Tmp)(a a':Act):Prop:=∃ds u,a'=({a with defers:=ds}: Act).put d u
theorem Oper.Zm{oj:Oper}{a:Act}{w:World}{K:Act->World->Prop}{d:Option Tmp}{v:Value}(he:execOp (a.put d v).eval oj=execOp a.eval oj)(hd:∀t,d=some t->oj.dst≠some t)
  (hQ:∀c a w,Q (.panic c) (a.put d v) w->Q (.panic c) a w) (h:oj.wp P (a.put d v) w K Q):oj.wp P a w (fun a' w'=>LZ oj.dst a a'/\K (a'.put d v) w') Q:=by
 have two:∀(u:Value)(w':World),K ((a.put d v).put oj.dst u) w'->LZ oj.dst a (a.put oj.dst u)/\K ((a.put oj.dst u).put d v) w':=fun u w' hk =>
  ⟨⟨a.defers,u,rfl⟩,by rw[<-Act.put_comm a v u hd];exact hk⟩
 unfold Oper.wp at h⊢;rw[he]at h
 cases hr:(execOp a.eval oj).run P w with
 | halt x w' =>
  rw[hr]at h
  cases x<;>simp only[Oper.upon]at h⊢
  exact hQ _ _ _ h
 | ok n w' =>
  rw[hr]at h
  cases n<;>simp only[Oper.upon]at h⊢
  case value u=>exact two u w' h
  case skip=>exact two _ w' h
  case enter f args =>
   refine Calls.mono h fun e w2 hk=>?_
   cases e with
   | returned u=>exact two u w2 hk
   | panicked c=>exact hQ _ _ _ hk
   | outgrown=>exact hk
  case row row args=>exact Rows.mono h fun u w2 hk=>two u w2 hk
  case defer x =>
   refine⟨⟨x::a.defers,undef,rfl⟩,?_⟩;rw[<-Act.put_comm _ v undef hd,<-Act.put_defers];exact h
theorem OD{oj oi:Oper}{a a':Act}(h:LZ oj.dst a a')(hs:∀cs b,oi.op ≠ .select cs b)(hap:∀d,oj.dst=some d->d∉oi.looksAt ops):
  execOp a'.eval oi=execOp a.eval oi/\Region.wanted oi (yielded ops a'.tmps)=Region.wanted oi (yielded ops a.tmps):=by
 obtain⟨ds,u,rfl⟩:=h;refine⟨(execOp_put oi hs {a with defers:=ds} oj.dst u hap).trans ?_,(wanted_put oi {a with defers:=ds} oj.dst u hap).trans rfl⟩;rfl
theorem DN{j:Nat}{oi oj:Oper}{v:Value}(hj:ops[j]?=some oj)(hap:oi.apart ops oj=true)(hsi:∀cs b,oi.op ≠ .select cs b)(hsj:∀cs b,oj.op ≠ .select cs b)
  (hQ:∀c a w,Q (.panic c) (a.put oi.dst v) w->Q (.panic c) a w) {K:Act->World->Prop} {a:Act} {w:World} (hy:jX P ops C oi v a) (h:wpOp P ops Q j K (a.put oi.dst v) w):
  wpOp P ops Q j (fun a' w'=>jX P ops C oi v a'/\K (a'.put oi.dst v) w') a w:=by
 obtain⟨h1,h2,h3⟩:=Oper.apart_spec hap;have keep:∀a',LZ oj.dst a a'->jX P ops C oi v a':=fun a' hm=>by
  obtain⟨e1,e2⟩:=OD hm hsi h3;unfold jX;rw[e1,e2];exact hy
 unfold wpOp at h⊢;simp only[hj]at h⊢;rw[wanted_put oj a oi.dst v h1]at h
 by_cases hw:Region.wanted oj (yielded ops a.tmps)=true
 ·rw[afR hw]at h⊢
  rcases h with h|⟨h4,h5⟩
  ·exact .inl (Oper.wp_mono (fun a' w' hk=>⟨keep a' hk.1,hk.2⟩) (Oper.Zm (execOp_put oj hsj a oi.dst v h1) h2 hQ h))
  ·refine .inr ⟨?_,h5⟩
   unfold Oper.asks at h4⊢;rw[execOp_put oj hsj a oi.dst v h1]at h4;exact h4
 ·rw[afO hw]at h⊢
  refine⟨keep _ ⟨a.defers,_,rfl⟩,?_⟩;rw[<-Act.put_comm a v undef h2];exact h
theorem nJ{i:Nat}{oi:Oper}{v:Value}(hi:ops[i]?=some oi)(hsel:∀(j:Nat)(o:Oper) cs b,ops[j]?=some o->o.op ≠ .select cs b)
  (hQ:∀c a w,Q (.panic c) (a.put oi.dst v) w->Q (.panic c) a w):∀(fuel:Nat)(listed:Array Bool)(a:Act)(w:World),C w ->
   (∀j oj,ops[j]?=some oj->j≠i->listed.getD j true=false->(∀e∈oj.after,Region.binds md e=true->e.on≠i)->oi.apart ops oj=true) ->
   i∈Region.ready md ops listed->jX P ops C oi v a->wI P md ops C Q fuel (listed.setIfInBounds i true) (a.put oi.dst v) w->wI P md ops C Q (fuel+1) listed a w
 | 0,listed,a,w,hC,_,hr,hy,H=>by
  refine⟨(fun h=>by rw[h]at hr;cases hr),fun j hj=>?_⟩
  by_cases hji:j=i
  ·subst hji;exact hy.at hi hC ⟨hC,H⟩
  ·have:=ready_mono hj hji
   rw[H.1]at this
   cases this
 | fuel+1,listed,a,w,hC,hfree,hr,hy,H=>by
  refine⟨(fun h=>by rw[h]at hr;cases hr),fun j hj=>?_⟩
  by_cases hji:j=i
  ·subst hji;exact hy.at hi hC ⟨hC,H⟩
  ·obtain⟨hun,oj,hoj,hall⟩:=mem_ready.1 hj
   have hno:∀e∈oj.after,Region.binds md e=true->e.on≠i:=fun e he hb e1=>by
    have g1:=hall e he hb;have g0:=(mem_ready.1 hr).1;rw[e1]at g1;rcases ag6 i listed.size with h'|h'
    ·simp[h']at g0 g1;rw[g0]at g1;cases g1
    ·simp[agR h']at g1
   refine wpOp_mono (fun a' w' h3=>⟨h3.2.1,nJ hi hsel hQ fuel (listed.setIfInBounds j true) a' w' h3.2.1 (fun k ok hk hki S9 hnk=>hfree k ok hk hki ?_ hnk) (ready_mono hr (ahX hji)) h3.1 ?_⟩)
    (DN hoj (hfree j oj hoj hji hun hno) (fun cs b=>hsel i oi cs b hi) (fun cs b=>hsel j oj cs b hoj) hQ hy (H.2 j (ready_mono hj hji)))
   ·by_cases hjk:j=k
    ·subst hjk;exact hun
    ·rw[getD_set_ne true hjk]at S9;exact S9
   ·rw[Array.setIfInBounds_comm _ _ hji]
    exact h3.2.2
def fP(P:Program)(l:List Oper)(C:World->Prop)(Q:Exit->Act->World->Prop):List (Nat×Bool)->Act->World->Prop
 | [],a,w=>Q .normal a w
 | (i,false)::r,a,w=>∃o,l[i]?=some o/\wpQuiet P l.toArray C (fun a'=>fP P l C Q r a' w) [o] a
 | (i,true)::r,a,w=>wpOp P l.toArray Q i (fun a' w'=>C w'/\fP P l C Q r a' w') a w
theorem dD{l:List Oper}{i:Nat}{r:List (Nat×Bool)}{a:Act}{w:World}(o:Oper)(ho:l[i]?=some o)(h:wpQuiet P l.toArray C (fun a'=>fP P l C Q r a' w) [o] a):fP P l C Q ((i,false)::r) a w:=⟨o,ho,h⟩
theorem Tc{l:List Oper}{i:Nat}{r:List (Nat×Bool)}{a:Act}{w:World}{o:Oper}{f:FuncId}{fn:Func}{c:Code}{xs:Array Operand}{ts:Array TypeId}(ho:l[i]?=some o)
  (hop:o.op=.call {callee:=.value (.func f),args:=xs,argTypes:=ts}) (hw:Region.wanted o (yielded l.toArray a.tmps)=true) (hf:P.funcs[f]?=some fn) (hn:(fn.name == "runtime.NumGoroutine")=false) (hb:fn.body=some c)
  (h:Calls P f (xs.map a.eval) w fun e w'=>∃v,e=.returned v/\C w'/\fP P l C Q r (a.put o.dst v) w'):fP P l C Q ((i,true)::r) a w:=by
 unfold fP wpOp;have ho':l.toArray[i]?=some o:=by simpa using ho
 simp only[ho',hw,ain];refine .inl ?_;have hrun:(execOp a.eval o).run P w=.ok (.enter f (xs.map a.eval)) w:=by
  have h1:fn.name≠"runtime.NumGoroutine":=by simpa using hn
  simp[execOp,hop,resolve,invoke,Act.eval,callFunc,Deferred.ofValue,hf,h1,hb]
 unfold Oper.wp;rw[hrun];refine Calls.mono h fun e w2 hk=>?_;obtain⟨v,rfl,h1,h2⟩:=hk;exact⟨h1,h2⟩
theorem pY{l:List Oper}{i:Nat}{r:List (Nat×Bool)}{a:Act}{w:World}{o:Oper}{f:FuncId}{fn:Func}{c:Code}{xs:Array Operand}{ts:Array TypeId}{vs:Array Value}{R:Ending->World->Prop}(h:Calls P f vs w R)(ho:l[i]?=some o)
  (hop:o.op=.call {callee:=.value (.func f),args:=xs,argTypes:=ts}) (hw:Region.wanted o (yielded l.toArray a.tmps)=true) (hf:P.funcs[f]?=some fn) (hn:(fn.name == "runtime.NumGoroutine")=false) (hb:fn.body=some c) (hx:xs.map a.eval=vs)
  (hR:∀e w',R e w'->∃v,e=.returned v/\C w'/\fP P l C Q r (a.put o.dst v) w'):fP P l C Q ((i,true)::r) a w:=
 Tc ho hop hw hf hn hb (hx▸ h.mono hR)
end
end Go.Proofs.YtkjgogdkdejljaaGreatDoor.AX
