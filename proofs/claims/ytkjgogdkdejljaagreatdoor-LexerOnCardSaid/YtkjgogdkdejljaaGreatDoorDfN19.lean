import Derived.Test.YtkjgogdkdejljaaGreatDoorDfKn
set_option maxRecDepth 100000
set_option maxHeartbeats 40000000
namespace Go.Proofs.YtkjgogdkdejljaaGreatDoor.Df
section
open Go.Lib (hid)
open Go Go.Proofs Go.RowKit
attribute [local go_sem] Oper.semAt_some
theorem aQ{w:World}{base:Nat}{e:TypeId}{size:Nat}{v:Value}{n:Nat}{xs:List Value}(h:w.ownsRow base e size v n xs):∃ a c,v = .slice a n c:=by
 rcases h.2 with ⟨rfl,rfl⟩ | ⟨g,cap,cur,rfl,_⟩
 ·exact⟨_,_,rfl⟩
 ·exact⟨_,_,rfl⟩
theorem jm{w:World}{base base':Nat}{e:TypeId}{size:Nat}{v:Value}{n:Nat}{xs:List Value}(h:w.ownsRow base e size v n xs)(hb:base'≤base):w.ownsRow base' e size v n xs:=by
 refine⟨h.1,?_⟩;rcases h.2 with hn | ⟨g,cap,cur,hv,hg,rest⟩
 ·exact .inl hn
 ·exact .inr ⟨g,cap,cur,hv,Nat.le_trans hb hg,rest⟩
def HAt(W:World)(r:Nat)(ks:List Int):Prop:=∃ es clock,W.heap[r]?=some (.map es clock)∧es.toList.map (·.key)=ks.map (Value.int .i64)∧MapKept.Stamped es clock
theorem HAt.lt{W:World}{r:Nat}{ks:List Int}(h:HAt W r ks):r<W.heap.size:=by
 obtain⟨_,_,h,_⟩:=h;exact (Array.getElem?_eq_some_iff.1 h).1
theorem HAt.below{n r:Nat}{W W':World}{ks:List Int}(h:HAt W r ks)(hb:Below n W W')(hn:r<n):HAt W' r ks:=by
 obtain⟨es,c,h1,h2⟩:=h;exact⟨es,c,(hb.block r hn).trans h1,h2⟩
theorem HAt.put{W:World}{r:Nat}{ks:List Int}(h:HAt W r ks)(k:Int)(v:Value):∃ W',(Instr.mapUpdate 112 (.map (some r)) (.int .i64 k) v).run Tryz.prog W = .ok () W'∧HAt W' r (kW ks k)∧AX.But r W W':=by
 obtain⟨es,clock,hb,hk,hs⟩:=h;have hks:∀ x∈es.toList,MapKept.IsKey (.int .i64) x.key:=fun x hx=>by
  have:x.key∈es.toList.map (·.key):=List.mem_map_of_mem hx;rw[hk,List.mem_map] at this;obtain⟨n,_,e⟩:=this;rw[←e];rfl
 have hm:Tryz.prog.underlying 112=some (.map 3 125):=Tryz.underlying112;have hd:Tryz.prog.underlying 3=some (.int .i64):=Tryz.underlying3;have hkk:MapKept.IsKey (.int .i64) (Value.int .i64 k):=rfl;have but:∀ o':Obj,AX.But r W { W with heap:=W.heap.setIfInBounds r o' }:=fun o'=>⟨⟨rfl,rfl,rfl,by simp,fun j hj=>absurd hj (Nat.not_lt_zero _)⟩,fun j hj hne=>(MapKept.heap_set (o':=o') hb).2 j hne⟩;rcases MapKept.findNow_spec hkk es.toList 0 hks with ⟨h1,h2⟩ | ⟨j,e,h1,h2,h3⟩
 ·refine⟨{ W with heap:=W.heap.setIfInBounds r (.map (es.push { key := .int .i64 k,val:=v,born:=clock }) (clock+1)) },?_,⟨_,_,(MapKept.heap_set hb).1,?_,MapKept.stamped_push hs h2⟩,but _⟩
  ·simp[Instr.mapUpdate,run_underlying hm,MapKept.run_getObj_map hb,MapKept.run_checkKey hd hkk,MapKept.run_findKey hd h1,MapKept.run_setObj_map _ hb,Result.andThen]
  ·have hn:k∉ks:=fun hmem=>by
    have:Value.int .i64 k∈es.toList.map (·.key):=(by rw[hk];exact List.mem_map_of_mem hmem);obtain⟨x,hx,e⟩:=List.mem_map.1 this;exact h2 x hx e
   unfold kW;rw[if_neg hn];simp[hk]
 ·have hj:es[j]?=some e:=by simpa using h2
  have hkey:∀ e',es[j]?=some e'→({ e' with key := .int .i64 k,val:=v } : MapEntry).key=e'.key:=fun e' he'=>by rw[hj] at he';cases he';exact h3.symm
  refine⟨{ W with heap:=W.heap.setIfInBounds r (.map (es.modify j fun e=>{ e with key := .int .i64 k,val:=v }) clock) },?_,⟨_,_,(MapKept.heap_set hb).1,?_,MapKept.stamped_modify hs _ _ (fun _ _=>rfl) (fun e' _ he'=>hkey e' he')⟩,but _⟩
  ·simp[Instr.mapUpdate,run_underlying hm,MapKept.run_getObj_map hb,MapKept.run_checkKey hd hkk,MapKept.run_findKey hd h1,hj,h3,MapKept.run_keyThatStays hkk,MapKept.run_setObj_map _ hb,Result.andThen]
  ·rw[MapKept.modify_keys _ _ hkey,hk]
   have hn:k∈ks:=by
    have:e.key∈es.toList.map (·.key):=List.mem_map_of_mem (List.mem_of_getElem? h2);rw[h3,hk] at this;obtain⟨x,hx,e2⟩:=List.mem_map.1 this
    cases e2
    exact hx
   unfold kW;rw[if_pos hn]
theorem Jb{ops:Array Oper}{rest:List Oper}{a:Act}{Q:Exit→Act→World→Prop}{m kx v:Operand}{ty:TypeId}{pos:String}{after:Array Edge}(W:World)(r:Nat)(ks:List Int)(k:Int)
  (hm:a.eval m = .map (some r)) (hk:a.eval kx = .int .i64 k) (hH:HAt W r ks)
  (h:∀ W',HAt W' r (kW ks k)→AX.But r W W'→wpList Tryz.prog ops Q rest a W') :
  wpList Tryz.prog ops Q ({ dst:=none,op := .mapUpdate 112 m kx v,type:=ty,pos:=pos,after:=after,guard:=none }::rest) a W:=by
 obtain⟨W',hr,h1,h2⟩:=hH.put k (a.eval v);refine wpList_plain rfl fun K hK=>?_;have hx:(execOp a.eval { dst:=none,op := .mapUpdate 112 m kx v,type:=ty,pos:=pos,after:=after,guard:=none }).run Tryz.prog W = .ok .skip W':=by
  simp only[execOp,hm,hk,Sem.run_bind,hr];rfl
 unfold Oper.wp;rw[hx];exact hK _ _ (h _ h1 h2)
theorem ET(W:World):(Instr.makeMap 112 none).run Tryz.prog W = .ok (.map (some W.heap.size)) (W.alloc (.map #[] 0)):=run_makeMap 102 W
theorem Fg(r:Nat)(w:World) :
  Calls Tryz.prog 60 #[.map (some r)] w fun e w'=>e = .returned (.func (.func 100) #[] #[.pointer (some ⟨w.heap.size,0,none⟩)])∧w'=w.alloc (.cells #[.map (some r)] 112):=by
 go_enter Tryz.func60,Tryz.ntmps60
 go_wp2
 go_ret
 exact⟨rfl,rfl⟩
theorem yE{W:World}{Bm r:Nat}{ks l:List Int}(hH:HAt W r ks)(hp:ks.Perm l)(hl:l.Pairwise (· < ·))(hb:∀ x∈l,0≤x∧x<100000)(hlen:l.length≤100000)(hBm:Bm<W.heap.size)(hm:W.cell? ⟨Bm,0,none⟩=some (.map (some r))) :
  Calls Tryz.prog 59 #[.func (.func 100) #[] #[.pointer (some ⟨Bm,0,none⟩)]] W fun e W'=>∃ v,e = .returned v∧W'.ownsRow W.heap.size 3 1 v l.length (l.map (Value.int .i64))∧Below W.heap.size W W':=by
 obtain⟨es,clk,h1,h2,h3⟩:=hH;have hnd:ks.Nodup:=hp.nodup_iff.2 (hl.imp fun h e=>by omega);obtain⟨D,hown,hpD,hsz⟩:=AX.NQ (P:=Tryz.prog) (k:=3) Tryz.underlying3 h1 h2 (fun x hx=>by
  have:=hb x (hp.mem_iff.1 hx);simp only[AX.okI,Bool.and_eq_true,AX.NP,decide_eq_true_eq];omega) hnd h3.2.1 h3.1 (by rw[hp.length_eq];omega)
 refine (Gg Bm r ks.length D W hBm hm hown (by rw[hsz,hp.length_eq];omega)).mono ?_;rintro e W' ⟨v,ss,rfl,hs,hrow,_,hB⟩;have hsl:ss.Perm l:=(hs.trans hpD).trans hp;refine⟨v,rfl,?_,hB⟩;have e1:=TY hsl hl;rw[e1,hsl.length_eq] at hrow;exact hrow
def qh(N:Nf)(t b:Nat):Bool:=(N.cl.getD t Kl.zero).has b
def jC(N:Nf)(S:List Int)(b:Nat):List Int:=tH N.cl.length N.nx (qh N) S b
theorem Vq{k:Int} : ∀ {l:List Int} {last:Int},Up k last l→∀ x∈l,last<x∧x<k
 | [],_,_,x,hx=>by simp at hx
 | y::l,last,⟨h1,h2,h3⟩,x,hx=>by
  rcases List.mem_cons.1 hx with rfl | hx
  ·exact⟨h1,h2⟩
  ·have:=Vq h3 x hx
   omega
theorem yC.in_{N:Nf}(o:yC N):∀ l∈N.nx,∀ x∈l,0<x∧x<(N.cl.length:Int):=fun l hl x hx=>Vq (o.up l hl) x hx
theorem take_snoc{α : Type}{l:List α}{k:Nat}{q : α}(h:l[k]?=some q):l.take (k+1)=l.take k++[q]:=by
 obtain⟨hk,rfl⟩:=List.getElem?_eq_some_iff.1 h;exact List.take_succ_eq_append_getElem hk
theorem PV(N:Nf)(o:yC N)(ac an ar:Option Addr)(cc cn cr:Nat)(S:List Int)(hS:S.length≤1000000)(hin:∀ q∈S,0≤q∧q<(N.cl.length:Int))(aS:Option Addr)(cs:Nat)(b:Nat)(hb:b<256)(w:World)(h:uT w N ac an ar)(hI:aK w aS S) :
  Calls Tryz.prog 109 #[.agg #[.slice ac N.cl.length cc, .slice an N.nx.length cn, .slice ar N.ru.length cr], .slice aS S.length cs, .int .u8 b] w fun e w'=>∃ v,e = .returned v∧w'.ownsRow w.heap.size 3 1 v (jC N S b).length ((jC N S b).map (Value.int .i64))∧Below w.heap.size w w':=by
 obtain⟨U,hU⟩:∃ U,U=w.heap.size:=⟨_,rfl⟩;obtain⟨wo,hwo⟩:∃ wo,wo=(w.alloc (.cells #[.slice ac N.cl.length cc, .slice an N.nx.length cn, .slice ar N.ru.length cr] 74)).alloc (.map #[] 0):=⟨_,rfl⟩;have hb0:Below U w wo:=by rw[hwo,hU];exact ((Below.refl _ w).alloc Nat.le.refl _).alloc (by simp) _
 have u0:wo.cell? ⟨U,0,none⟩=some (.slice ac N.cl.length cc):=by rw[hwo,hU];simp[World.cell?_alloc_old]
 have u1:wo.cell? ⟨U,1,none⟩=some (.slice an N.nx.length cn):=by rw[hwo,hU];simp[World.cell?_alloc_old]
 have hH0:HAt wo (U+1) []:=⟨#[],0,by
  have:=World.alloc_heap_new (w.alloc (.cells #[.slice ac N.cl.length cc, .slice an N.nx.length cn, .slice ar N.ru.length cr] 74)) (.map #[] 0);rw[World.size_alloc] at this;rw[hwo,hU];exact this,rfl,MapKept.stamped_empty 0⟩
 have hperm:(oM N.nx (fun t=>qh N t.toNat b) S []).Perm (jC N S b):=Jc (fun l hl x hx=>by have:=o.in_ l hl x hx;omega);have HP:=hid hperm;have HO:=hid o;have HU:=hid hU;have HW:=hid hwo;have HB:=hid hb0;have HIN:=hid hin;obtain⟨m,hm⟩:∃ m,m=S.length:=⟨_,rfl⟩;obtain⟨n,hn⟩:∃ n,n=N.cl.length:=⟨_,rfl⟩;obtain⟨nn,hnn⟩:∃ nn,nn=N.nx.length:=⟨_,rfl⟩;have HMm:=hid hm;have HNn:=hid hn;have HNN:=hid hnn;have HEQ:Hid (nn=n):=hid (by rw[hnn,hn];exact o.nx);have hUw:U<wo.heap.size:=by have:=hH0.lt;omega
 rw[←hn] at u0;rw[←hnn] at u1;rw[←hm] at hS;rw[←hm,←hn,←hnn];have HC:=hid h.c;have HNx:=hid h.n;have HI:=hid hI;clear hperm hwo hU hb0 h hI hin hm hn hnn o;have hmk:=ET;go_enter Tryz.func109,Tryz.ntmps109
 go_upto_region 2 with (fail)
 have e0:=HW.out;rw[←HNn.out,←HNN.out] at e0;rw[←e0,←HU.out];clear e0;go_wp2_with fail
 go_loopw [15] (fun i wr=>∃ k:Nat,k≤m∧i = .int .i64 k∧HAt wr (U+1) (oM N.nx (fun t=>qh N t.toNat b) (S.take k) [])∧Below (U+1) wo wr)
  (fun i _=>m-(intOf i).toNat)
 case atStart=>exact⟨0,Nat.zero_le _,rfl,hH0,Below.refl _ _⟩
 case round =>
  clear hH0;obtain⟨k,hk,rfl,hH,hB⟩:=hrel
  by_cases hkl:k<m
  ·obtain⟨q,hq⟩:∃ q,S[k]?=some q:=⟨_,List.getElem?_eq_getElem (by rw[←HMm.out];exact hkl)⟩
   have hqb:=HIN.out q (List.mem_of_getElem? hq);obtain⟨p,rfl⟩:∃ p:Nat,q=(p:Int):=⟨q.toNat,by omega⟩;have hpn:p<n:=(by rw[HNn.out];omega);obtain⟨Bs,os,rfl,hBs,hSc⟩:=HI.out (by intro e;rw[e] at hq;cases hq);rw[←HU.out] at hBs;have hBw:Below U w wr:=HB.out.trans (hB.mono (by omega));have hkS:k<S.length:=(by rw[←HMm.out];exact hkl);have d0:=(hBw.cell (p:=⟨Bs,os+k,none⟩) hBs).trans (hSc k hkS);have hqe:S[k]=(p:Int):=(by obtain⟨_,e⟩:=List.getElem?_eq_some_iff.1 hq;exact e);rw[hqe] at d0;have v1:=(hB.cell (p:=⟨U,1,none⟩) (by show U<U+1;omega)).trans u1;have hpN:p<N.nx.length:=(by rw[←HNN.out,HEQ.out];exact hpn);obtain⟨l,hl⟩:∃ l,N.nx[p]?=some l:=⟨_,List.getElem?_eq_getElem hpN⟩;obtain⟨Bn,on,rfl,hBn,hNc⟩:=HNx.out (by intro e;rw[e] at hpN;cases hpN);rw[←HU.out] at hBn;obtain⟨la,c,e1,e2⟩:=hNc p hpN;have hle:N.nx[p]=l:=(by obtain⟨_,e⟩:=List.getElem?_eq_some_iff.1 hl;exact e);rw[hle] at e1 e2;have d1:=(hBw.cell (p:=⟨Bn,on+p,none⟩) hBn).trans e1;have HST:Hid (oM N.nx (fun t=>qh N t.toNat b) (S.take (k+1)) []=qU (fun t=>qh N t.toNat b) (oM N.nx (fun t=>qh N t.toNat b) (S.take k) []) l):=hid (by
    rw[take_snoc hq];unfold oM;rw[List.foldl_append]
    show qU _ _ (N.nx.getD (p:Int).toNat [])=_
    rw[Int.toNat_natCast,List.getD_eq_getElem?_getD,hl];rfl)
   have HLL:=hid (HO.out.in_ l (List.mem_of_getElem? hl));have HE2:=hid e2;have hll:l.length≤1024:=by
    rcases Jd (HO.out.up l (List.mem_of_getElem? hl)) with e | e
    ·rw[e];simp
    ·have:=HO.out.most;omega
   obtain⟨ks0,ZJ⟩:∃ ks0,ks0=oM N.nx (fun t=>qh N t.toNat b) (S.take k) []:=⟨_,rfl⟩;rw[←ZJ] at hH HST;have hk0:(0:Int)≤(k:Int):=(by omega);have hk1:(k:Int)<(m:Int):=(by omega);have hp0:¬(p:Int)<0:=(by omega);have hp1:¬(nn:Int)≤(p:Int):=(by have:=HEQ.out;omega);have hp2:(0:Int)≤(p:Int):=(by omega);have hp3:(p:Int)<(nn:Int):=(by have:=HEQ.out;omega);clear hq hqb hSc hqe hNc hle e1 e2 hl ZJ hpN hkS;go_wp2_with fail
   go_loopw [34] (fun i wr=>∃ j:Nat,j≤l.length∧i = .int .i64 j∧HAt wr (U+1) (qU (fun t=>qh N t.toNat b) ks0 (l.take j))∧Below (U+1) wo wr)
    (fun i _=>l.length-(intOf i).toNat)
   case atStart=>exact⟨0,Nat.zero_le _,rfl,hH,hB⟩
   case round =>
    clear hH hB d0 v1 d1 hBw;obtain⟨j,hj,rfl,hH,hB⟩:=hrel
    by_cases hjl:j<l.length
    ·obtain⟨t,ht⟩:∃ t,l[j]?=some t:=⟨_,List.getElem?_eq_getElem hjl⟩
     have htb:=HLL.out t (List.mem_of_getElem? ht);obtain⟨tn,rfl⟩:∃ tn:Nat,t=(tn:Int):=⟨t.toNat,by omega⟩;have hBw:Below U w wr:=HB.out.trans (hB.mono (by omega));obtain⟨Bl,ol,rfl,hBl,hLc⟩:=HE2.out (by intro e;rw[e] at hjl;simp at hjl);rw[←HU.out] at hBl;have hte:l[j]=(tn:Int):=(by obtain⟨_,e⟩:=List.getElem?_eq_some_iff.1 ht;exact e);have d0:=(hBw.cell (p:=⟨Bl,ol+j,none⟩) hBl).trans (hLc j hjl);rw[hte] at d0;have htn:tn<N.cl.length:=(by omega);obtain⟨Bc,oc,rfl,hBc,hCc⟩:=HC.out (by intro e;rw[e] at htn;simp at htn);rw[←HU.out] at hBc;obtain⟨c0,c1,c2,c3⟩:=hCc tn htn;replace c0:=(hBw.cell (p:=⟨Bc,oc+tn*4,none⟩) hBc).trans c0;replace c1:=(hBw.cell (p:=⟨Bc,oc+tn*4+1,none⟩) hBc).trans c1;replace c2:=(hBw.cell (p:=⟨Bc,oc+tn*4+2,none⟩) hBc).trans c2;replace c3:=(hBw.cell (p:=⟨Bc,oc+tn*4+3,none⟩) hBc).trans c3;have v0:=(hB.cell (p:=⟨U,0,none⟩) (by show U<U+1;omega)).trans u0;have hx:qh N tn b=(N.cl[tn]).has b:=by
      unfold qh;rw[List.getD_eq_getElem?_getD,List.getElem?_eq_getElem htn];rfl
     have Ja:Hid (qU (fun t=>qh N t.toNat b) ks0 (l.take (j+1))=if qh N tn b=true then kW (qU (fun t=>qh N t.toNat b) ks0 (l.take j)) tn else qU (fun t=>qh N t.toNat b) ks0 (l.take j)):=hid (by
      rw[take_snoc ht];unfold qU;rw[List.foldl_append];rfl)
     have hhas:=fun W=>MH (N.cl[tn]).a (N.cl[tn]).b (N.cl[tn]).c (N.cl[tn]).d b (N.cl[tn]).h hb W;change ∀ W,Calls Tryz.prog 125 _ W fun e w'=>e = .returned (.bool ((N.cl[tn]).has b))∧Below W.heap.size W w' at hhas;rw[←hx] at hhas;obtain⟨ks1,ZK⟩:∃ ks1,ks1=qU (fun t=>qh N t.toNat b) ks0 (l.take j):=⟨_,rfl⟩;rw[←ZK] at hH Ja;generalize (N.cl[tn]).a=xa at *;generalize (N.cl[tn]).b=xb at *;generalize (N.cl[tn]).c=xc at *;generalize (N.cl[tn]).d=xd at *;have hj0:(0:Int)≤(j:Int):=(by omega);have hj1:(j:Int)<(l.length:Int):=(by omega);have ht0:(0:Int)≤(tn:Int):=(by omega);have ht1:(tn:Int)<(n:Int):=(by rw[HNn.out];omega);clear hLc hCc hx ht htb hte ZK
     cases hz:qh N tn b with
     | true =>
      rw[hz] at hhas;have Xt:=hid (Ja.out.trans (if_pos hz));clear hz Ja;go_wp2_with (first
       | (go_at_call 125;(with_reducible refine(hhas _).mono ?_);rintro e W3 ⟨rfl,hB3⟩;have hB4:Below (U+1) wo W3:=hB.trans (hB3.mono (Nat.le_of_lt hH.lt));have hH4:=hH.below hB3 hH.lt)
       | (at_mapUpdate;(with_reducible refine Jb W3 (U+1) ks1 tn rfl rfl hH4 ?_);rintro W5 hH5 hT5))
      exact⟨⟨j+1,by omega,by simp,by rw[Xt.out];exact hH5,hB4.trans (hT5.below (by have:=hH4.lt;omega) Nat.le.refl)⟩,by simp[intOf];omega⟩
     | false =>
      rw[hz] at hhas;have Xt:=hid (Ja.out.trans (if_neg (by rw[hz];decide)));clear hz Ja;go_wp2_with (first
       | (go_at_call 125;(with_reducible refine(hhas _).mono ?_);rintro e W3 ⟨rfl,hB3⟩;have hB4:Below (U+1) wo W3:=hB.trans (hB3.mono (Nat.le_of_lt hH.lt));have hH4:=hH.below hB3 hH.lt))
      exact⟨⟨j+1,by omega,by simp,by rw[Xt.out];exact hH4,hB4⟩,by simp[intOf];omega⟩
    ·obtain rfl:j=l.length:=by omega
     rw[List.take_length,←HST.out] at hH;go_wp2_with fail
     exact⟨⟨k+1,by omega,by simp,hH,hB⟩,by simp[intOf];omega⟩
  ·obtain rfl:k=m:=by omega
   rw[HMm.out,List.take_length] at hH;have hls:(jC N S b).length≤1024:=Nat.le_trans (vM _ _ _ _ _) HO.out.most;have acj:=Fg (U+1);have hsz:=hH.lt;have hso:=yE (hH.below ((Below.refl wr.heap.size wr).alloc Nat.le.refl (.cells #[.map (some (U+1))] 112)) hsz) HP.out (tJ _ _ _ _ _) (fun x hx=>by have h1:=zD hx;have h2:=HO.out.most;omega) (by omega) (Bm:=wr.heap.size) (by simp) (by simp);have hb9:Below w.heap.size w (wr.alloc (.cells #[.map (some (U+1))] 112)):=(by rw[←HU.out];exact (HB.out.trans (hB.mono (by omega))).alloc (by omega) _);have HSO:=hid hso;have HB9:=hid hb9;clear hso hb9 hH;go_wp2_with (first
    | (go_at_call 60;(with_reducible refine(acj _).mono ?_);rintro e W3 ⟨rfl,rfl⟩)
    | (go_at_call 59;(with_reducible refine HSO.out.mono ?_);rintro e W4 ⟨v,rfl,hrow,hb4⟩))
   exact bodyPost_ret (v:=v) (by simp[results,Tryz.results109,go_sem]) rfl ⟨v,rfl,jm hrow (HB9.out.size),HB9.out.trans (hb4.mono HB9.out.size)⟩
end
section
open Go Go.Proofs Go.RowKit
attribute [local go_sem] Oper.semAt_some
theorem PW(N:Nf)(o:yC N)(ac an ar:Option Addr)(cc cn cr:Nat)(S:List Int)(hS:S.length≤1000000)(hin:∀ q∈S,0≤q∧q<(N.cl.length:Int))(aS:Option Addr)(cs:Nat)(b:Nat)(hb:b<256)(w:World)(h:uT w N ac an ar)(hI:aK w aS S) :
  Calls Tryz.prog 66 #[.agg #[.slice ac N.cl.length cc, .slice an N.nx.length cn, .slice ar N.ru.length cr], .slice aS S.length cs, .int .u8 b] w fun e w'=>∃ v,e = .returned v∧w'.ownsRow w.heap.size 3 1 v (jC N S b).length ((jC N S b).map (Value.int .i64))∧Below w.heap.size w w':=by
 have hb0:Below w.heap.size w (w.alloc (.cells #[.slice ac N.cl.length cc, .slice an N.nx.length cn, .slice ar N.ru.length cr] 74)):=(Below.refl _ w).alloc Nat.le.refl _;have hck:=qV o (cc:=cc) (cn:=cn) (cr:=cr) (h.below hb0 Nat.le.refl);have hst:=fun W (hB:Below w.heap.size w W)=>PV N o ac an ar cc cn cr S hS hin aS cs b hb W (h.below hB Nat.le.refl) (hI.below hB Nat.le.refl);have g0:∀(W:World)(j:Nat)(v:Value),Below (w.alloc (.cells #[.slice ac N.cl.length cc, .slice an N.nx.length cn, .slice ar N.ru.length cr] 74)).heap.size (w.alloc (.cells #[.slice ac N.cl.length cc, .slice an N.nx.length cn, .slice ar N.ru.length cr] 74)) W→(#[Value.slice ac N.cl.length cc, .slice an N.nx.length cn, .slice ar N.ru.length cr])[j]?=some v→W.cell? ⟨w.heap.size,j,none⟩=some v:=fun W j v hb hv=>(hb.cell (p:=⟨w.heap.size,j,none⟩) (by simp)).trans (by simp[hv]);go_enter Tryz.func66,Tryz.ntmps66
 go_wp2_with (first
  | (go_at_call 61;(with_reducible refine hck.mono ?_);rintro e W1 ⟨rfl,hb1⟩;have e0:=g0 W1 0 _ hb1 rfl;have e1:=g0 W1 1 _ hb1 rfl;have e2:=g0 W1 2 _ hb1 rfl;have hb2:=hb0.trans (hb1.mono (by simp)))
  | (go_at_call 109;(with_reducible refine(hst _ hb2).mono ?_);rintro e W3 ⟨v,rfl,hrow,hb3⟩))
 exact bodyPost_ret (v:=v) (by simp[results,Tryz.results66,go_sem]) rfl ⟨v,rfl,jm hrow hb2.size,hb2.trans (hb3.mono hb2.size)⟩
structure Ch(bad:List Nat)(X Y:World):Prop where
 low:Below 0 X Y
 same:∀ k,k<X.heap.size→k∉bad→Y.heap[k]?=X.heap[k]?
theorem Ch.refl(bad:List Nat)(X:World):Ch bad X X:=⟨Below.refl _ _,fun _ _ _=>rfl⟩
theorem Ch.trans'{bad bad':List Nat}{X Y Z:World}(h:Ch bad X Y)(k:Ch bad' Y Z)(hb:∀ b∈bad',b<X.heap.size→b∈bad):Ch bad X Z :=
 ⟨h.low.trans k.low,fun i hi hn=>(k.same i (Nat.lt_of_lt_of_le hi h.low.size) (fun hm=>hn (hb i hm hi))).trans (h.same i hi hn)⟩
theorem Ch.trans{bad:List Nat}{X Y Z:World}(h:Ch bad X Y)(k:Ch bad Y Z):Ch bad X Z:=h.trans' k fun _ hb _=>hb
theorem Ch.mono{bad bad':List Nat}{X Y:World}(h:Ch bad X Y)(hb:∀ b∈bad,b<X.heap.size→b∈bad'):Ch bad' X Y:=⟨h.low,fun k hk hn=>h.same k hk fun hm=>hn (hb k hm hk)⟩
theorem Ch.of_below{X Y:World}(h:Below X.heap.size X Y)(bad:List Nat):Ch bad X Y:=⟨h.mono (Nat.zero_le _),fun k hk _=>h.block k hk⟩
theorem Ch.vN{A:Nat}{X Y:World}(h:AX.But A X Y){bad:List Nat}(hA:A∈bad):Ch bad X Y:=⟨h.low,fun k hk hn=>h.same k hk fun e=>hn (e ▸ hA)⟩
theorem Ch.mP{A:Nat}{X Y:World}(hl:Below 0 X Y)(h:∀ k,k≠A→Y.heap[k]?=X.heap[k]?){bad:List Nat}(hA:A∈bad):Ch bad X Y:=⟨hl,fun k _ hn=>h k fun e=>hn (e ▸ hA)⟩
theorem Ch.tK{X Y:World}{row:Option Nat}(h:X.grownBy Y row){bad:List Nat}(hA:∀ g,row=some g→g∈bad):Ch bad X Y :=
 ⟨(Below.refl 0 X).grown h (Nat.zero_le _) (fun _ _=>Nat.zero_le _),fun k hk hn=>h.block k hk fun e=>hn (hA k e.symm)⟩
theorem Ch.below{n:Nat}{bad:List Nat}{X Y:World}(h:Ch bad X Y)(hn:n≤X.heap.size)(hb:∀ b∈bad,n≤b):Below n X Y :=
 ⟨h.low.os,h.low.tape,h.low.output,h.low.size,fun k hk=>h.same k (by omega) fun hm=>by have:=hb k hm;omega⟩
theorem Ch.cell{bad:List Nat}{X Y:World}(h:Ch bad X Y){b:Nat}(hb:b<X.heap.size)(hn:b∉bad)(o:Nat):Y.cell? ⟨b,o,none⟩=X.cell? ⟨b,o,none⟩:=by
 unfold World.cell?;rw[h.same b hb hn]
theorem Ch.bx{bad:List Nat}{X Y:World}(h:Ch bad X Y){b:Nat}{t:TypeId}{cs:Array Value}(hX:Bx X b t cs)(hn:b∉bad):Bx Y b t cs:=(h.same b hX.lt hn).trans hX
def SAt(W:World)(bad:List Nat)(v:Value)(l:List Int):Prop:=∃ a c,v = .slice a l.length c∧(l≠[]→∃ b off,a=some ⟨b,off,none⟩∧b<W.heap.size∧b∉bad∧∀ j (h:j<l.length),W.cell? ⟨b,off+j,none⟩=some (.int .i64 l[j]))
theorem SAt.ch{bad:List Nat}{X Y:World}{v:Value}{l:List Int}(h:SAt X bad v l)(hc:Ch bad X Y):SAt Y bad v l:=by
 obtain⟨a,c,rfl,h⟩:=h;refine⟨a,c,rfl,fun h0=>?_⟩;obtain⟨b,off,h1,h2,h3,h4⟩:=h h0;exact⟨b,off,h1,Nat.lt_of_lt_of_le h2 hc.low.size,h3,fun j hj=>(hc.cell h2 h3 _).trans (h4 j hj)⟩
theorem SAt.more{bad bad':List Nat}{X:World}{v:Value}{l:List Int}(h:SAt X bad v l)(hb:∀ k∈bad',k<X.heap.size→k∈bad):SAt X bad' v l:=by
 obtain⟨a,c,rfl,h⟩:=h;refine⟨a,c,rfl,fun h0=>?_⟩;obtain⟨b,off,h1,h2,h3,h4⟩:=h h0;exact⟨b,off,h1,h2,fun hm=>h3 (hb b hm h2),h4⟩
theorem SAt.Ua{bad:List Nat}{X:World}{v:Value}{l:List Int}(h:SAt X bad v l):∃ a c,v = .slice a l.length c∧aK X a l:=by
 obtain⟨a,c,rfl,h⟩:=h;refine⟨a,c,rfl,fun h0=>?_⟩;obtain⟨b,off,h1,h2,_,h4⟩:=h h0;exact⟨b,off,h1,h2,h4⟩
theorem addr_add(B o j:Nat):(⟨B,o,none⟩:Addr).add j=⟨B,o+j,none⟩:=by unfold Addr.add;split<;>simp_all
theorem SAt.vP{bad:List Nat}{X:World}{base:Nat}{v:Value}{l:List Int}(h:X.ownsRow base 3 1 v l.length (l.map (Value.int .i64)))(hb:∀ k∈bad,k<base):SAt X bad v l:=by
 obtain⟨a,c,rfl⟩:=aQ h;have hn:∀ n,Value.slice a n c=Value.slice a l.length c→True:=fun _ _=>trivial;rcases h.2 with ⟨h0,hl⟩ | ⟨g,cap,cur,h0,_⟩
 ·refine⟨none,0,?_,fun hne=>absurd (List.eq_nil_of_length_eq_zero hl) hne⟩
  rw[h0,hl]
 ·cases h0
  refine⟨_,_,rfl,fun hne=>⟨g,0,rfl,(h.lt g rfl).2,fun hm=>?_,fun j hj=>?_⟩⟩
  ·have h1:=(h.lt g rfl).1
   have h2:=hb g hm;omega
  ·have:=h.cells (g:=g) rfl j (.int .i64 l[j]) (by simp[hj])
   rw[addr_add] at this;exact this
def kv(S:List Int):Value := .string ⟨(jB S).toArray⟩
def fD:Nat→Sets→List MapEntry
 | _,[]=>[]
 | o,S::T=>{ key:=kv S,val := .int .i64 (o:Int),born:=o }::fD (o+1) T
theorem zF:∀(o:Nat)(T:Sets)(S:List Int),fD o (T++[S])=fD o T++[{ key:=kv S,val := .int .i64 ((o+T.length:Nat):Int),born:=o+T.length }]
 | o,[],S=>by simp[fD]
 | o,U::T,S=>by
  show _::fD (o+1) (T++[S])=_::(fD (o+1) T++_)
  rw[zF (o+1) T S,List.length_cons,show o+1+T.length=o+(T.length+1) by omega]
def Small(S:List Int):Prop:=∀ k∈S,0≤k∧k<65536
theorem PX{a b:Int}(ha:0≤a∧a<65536)(hb:0≤b∧b<65536)(h1:UInt8.ofNat (a / 256 % 256).toNat=UInt8.ofNat (b / 256 % 256).toNat)(h2:UInt8.ofNat (a % 256).toNat=UInt8.ofNat (b % 256).toNat):a=b:=by
 rw[←UInt8.toNat_inj,UInt8.toNat_ofNat',UInt8.toNat_ofNat'] at h1 h2;omega
theorem Gn:∀ {S U:List Int},Small S→Small U→jB S=jB U→S=U
 | [],[],_,_,_=>rfl
 | [],u::U,_,_,h=>by simp[jB] at h
 | s::S,[],_,_,h=>by simp[jB] at h
 | s::S,u::U,hS,hU,h=>by
  have h':UInt8.ofNat (s / 256 % 256).toNat::UInt8.ofNat (s % 256).toNat::jB S=UInt8.ofNat (u / 256 % 256).toNat::UInt8.ofNat (u % 256).toNat::jB U:=h;obtain⟨h1,h2⟩:=List.cons.inj h';obtain⟨h2,h3⟩:=List.cons.inj h2;rw[PX (hS s (List.mem_cons_self ..)) (hU u (List.mem_cons_self ..)) h1 h2,Gn (fun k hk=>hS k (List.mem_cons_of_mem _ hk)) (fun k hk=>hU k (List.mem_cons_of_mem _ hk)) h3]
theorem Xu{S U:List Int}(hS:Small S)(hU:Small U):kv S=kv U↔S=U:=by
 refine⟨fun h=>?_,fun h=>by rw[h]⟩;unfold kv at h;have:(jB S).toArray=(jB U).toArray:=by
  have h2:=Value.string.inj h;exact congrArg ByteArray.data h2
 exact Gn hS hU (by simpa using this)
theorem PY{S:List Int}(hS:Small S):∀(T:Sets)(o i:Nat),(∀ U∈T,Small U)→Instr.findNow .string (kv S) (fD o T) i =
  some (if T.findIdx (fun U=>U == S)<T.length then some (i+T.findIdx (fun U=>U == S), .int .i64 ((o+T.findIdx (fun U=>U == S):Nat):Int)) else none)
 | [],o,i,_=>by simp[fD,Instr.findNow]
 | U::T,o,i,hT=>by
  obtain⟨r,hr,hiff⟩:=MapKept.sameNow_of_keys (d := .string) (a:=kv S) (b:=kv U) trivial trivial;have ih:=PY hS T (o+1) (i+1) (fun V hV=>hT V (List.mem_cons_of_mem _ hV));rw[Xu hS (hT U (List.mem_cons_self ..))] at hiff;unfold fD Instr.findNow;simp only[hr]
  by_cases e:U=S
  ·have:r=true:=hiff.2 e.symm
   subst this;subst e;simp[List.findIdx_cons]
  ·have:r=false:=by
    cases r with
    | false=>rfl
    | true=>exact absurd (hiff.1 rfl).symm e
   subst this;have e':(U == S)=false:=(by simpa using e);simp only[ih,List.findIdx_cons,e',cond_false,List.length_cons,Nat.add_lt_add_iff_right];split
   ·congr 3
    ·omega
    ·congr 2;omega
   ·rfl
def fi(T:Sets)(S:List Int):Nat:=T.findIdx (fun U=>U == S)
theorem Xv{W:World}{r:Nat}{T:Sets}{c:Nat}{S:List Int}(hb:W.heap[r]?=some (.map (fD 0 T).toArray c))(hS:Small S)(hT:∀ U∈T,Small U) :
  (Instr.lookup 128 (.map (some r)) (kv S) true).run Tryz.prog W = .ok (.tuple #[.int .i64 (if fi T S<T.length then (fi T S:Int) else 0), .bool (decide (fi T S<T.length))]) W:=by
 have hm:Tryz.prog.underlying 128=some (.map 9 3):=Tryz.underlying128;have hd:Tryz.prog.underlying 9=some .string:=Tryz.underlying9;have hc:(Instr.checkKey (fD 0 T).toArray.isEmpty 10000 9 (kv S)).run Tryz.prog W = .ok () W:=MapKept.run_checkKey hd (k:=kv S) trivial _ 9999;have hf:=PY hS T 0 0 hT;have hz:=Tryz.zeroValue3;change _=some (if fi T S<T.length then some (0+fi T S,Value.int .i64 ((0+fi T S:Nat):Int)) else none) at hf
 by_cases h:fi T S<T.length
 ·rw[if_pos h,Nat.zero_add] at hf
  rw[if_pos h,decide_eq_true h];simp only[Instr.lookup,Sem.run_bind,run_underlying hm,Result.andThen_ok,MapKept.run_getObj_map hb,Sem.run_pure,hc,MapKept.run_findKey hd (l:=(fD 0 T).toArray.toList) hf];rfl
 ·rw[if_neg h] at hf
  rw[if_neg h,decide_eq_false h];simp only[Instr.lookup,Sem.run_bind,run_underlying hm,Result.andThen_ok,MapKept.run_getObj_map hb,Sem.run_pure,hc,MapKept.run_findKey hd (l:=(fD 0 T).toArray.toList) hf,hz];rfl
theorem ZL{W:World}{r:Nat}{T:Sets}{S:List Int}(hb:W.heap[r]?=some (.map (fD 0 T).toArray T.length))(hS:Small S)(hT:∀ U∈T,Small U)(hn:¬fi T S<T.length) :
  ∃ W',(Instr.mapUpdate 128 (.map (some r)) (kv S) (.int .i64 T.length)).run Tryz.prog W = .ok () W'∧W'.heap[r]?=some (.map (fD 0 (T++[S])).toArray (T++[S]).length)∧AX.But r W W':=by
 have hm:Tryz.prog.underlying 128=some (.map 9 3):=Tryz.underlying128;have hd:Tryz.prog.underlying 9=some .string:=Tryz.underlying9;have hf:=PY hS T 0 0 hT;change _=some (if fi T S<T.length then some (0+fi T S,Value.int .i64 ((0+fi T S:Nat):Int)) else none) at hf;rw[if_neg hn] at hf;have hc:(Instr.checkKey false 10000 9 (kv S)).run Tryz.prog W = .ok () W:=MapKept.run_checkKey hd (k:=kv S) trivial _ 9999;have hx:((fD 0 T).toArray.push { key:=kv S,val := .int .i64 (T.length:Int),born:=T.length })=(fD 0 (T++[S])).toArray:=by
  rw[zF,Nat.zero_add];simp
 refine⟨{ W with heap:=W.heap.setIfInBounds r (.map ((fD 0 T).toArray.push { key:=kv S,val := .int .i64 (T.length:Int),born:=T.length }) (T.length+1)) },?_,?_,⟨⟨rfl,rfl,rfl,by simp,fun j hj=>absurd hj (Nat.not_lt_zero _)⟩,fun j hj hne=>(MapKept.heap_set hb).2 j hne⟩⟩
 ·simp only[Instr.mapUpdate,Sem.run_bind,run_underlying hm,Result.andThen_ok,MapKept.run_getObj_map hb,hc,MapKept.run_findKey hd (l:=(fD 0 T).toArray.toList) hf,MapKept.run_setObj_map _ hb]
 ·rw[←hx,List.length_append]
  exact (MapKept.heap_set hb).1
def aX(M r:Nat)(sv:Value)(oth:List Nat):List Nat:=M::r::(sv.ownBlock.toList++oth)
structure Mkr(W:World)(base:Nat)(oth:List Nat)(M r:Nat)(x0 x1 x2:Value)(most:Nat)(sv:Value)(vals:List Value)(T:Sets):Prop where
 box:Bx W M 130 #[x0,x1,x2, .int .i64 most,sv, .map (some r)]
 own:W.ownsRow base 25 1 sv T.length vals
 vl:vals.length=T.length
 row:∀(i:Nat)(v:Value)(S:List Int),vals[i]?=some v→T[i]?=some S→SAt W (aX M r sv oth) v S
 map:W.heap[r]?=some (.map (fD 0 T).toArray T.length)
 bM:base≤M
 br:base≤r
 small:∀ U∈T,Small U
theorem Mkr.ne{W:World}{base:Nat}{oth:List Nat}{M r:Nat}{x0 x1 x2:Value}{most:Nat}{sv:Value}{vals:List Value}{T:Sets}(h:Mkr W base oth M r x0 x1 x2 most sv vals T):M≠r:=by
 intro e;have h1:=h.box;have h2:=h.map;rw[←e,show W.heap[M]?=_ from h1] at h2
 cases h2
theorem bQ{W:World}{base:Nat}{e:TypeId}{k:Nat}{v:Value}{n:Nat}{xs:List Value}(h:W.ownsRow base e k v n xs)(g:Nat)(hg:v.ownBlock=some g):∃ cs,W.heap[g]?=some (.cells cs e (0,0)):=by
 rcases h.2 with ⟨rfl,_⟩ | ⟨g',cap,cur,rfl,_,hh,_⟩
 ·cases hg
 ·cases hg
  exact⟨cur,hh⟩
theorem Mkr.neM{W:World}{base:Nat}{oth:List Nat}{M r:Nat}{x0 x1 x2:Value}{most:Nat}{sv:Value}{vals:List Value}{T:Sets}(h:Mkr W base oth M r x0 x1 x2 most sv vals T):sv.ownBlock≠some M:=fun e=>by
 obtain⟨cs,hc⟩:=bQ h.own M e;rw[show W.heap[M]?=_ from h.box] at hc
 cases hc
theorem Mkr.ner{W:World}{base:Nat}{oth:List Nat}{M r:Nat}{x0 x1 x2:Value}{most:Nat}{sv:Value}{vals:List Value}{T:Sets}(h:Mkr W base oth M r x0 x1 x2 most sv vals T):sv.ownBlock≠some r:=fun e=>by
 obtain⟨cs,hc⟩:=bQ h.own r e;rw[h.map] at hc
 cases hc
theorem Ub:(Tryz.prog.info? 25).map (fun i=>(i.zero,i.size,i.bytes))=some (some (.slice none 0 0),1,24):=by kernel_rfl
theorem PZ{ops:Array Oper}{rest:List Oper}{o:Oper}{a:Act}{Q:Exit→Act→World→Prop}(W:World)(base:Nat)(v:Value)(pre:List Value)(y:Value)(hgd:o.guard=none)(s z:Operand)
  (ho:o.op = .call { callee := .builtin .append,args:=#[s,z],argTypes:=#[72,72] }) (hs:a.eval s=v) (n:Nat) (hn:pre.length=n) (hown:W.ownsRow base 25 1 v n pre) (B c:Nat) (hx:a.eval z = .slice (some ⟨B,0,none⟩) 1 c)
  (hc0:W.cell? ⟨B,0,none⟩=some y) (hy:y.oneCell'=true) (hl:pre.length≤10000000) (hb:base≤W.heap.size)
  (h:∀ v' w',w'.ownsRow base 25 1 v' (n+1) (pre++[y])→W.grownBy w' v.ownBlock→(v'.ownBlock=v.ownBlock∨v'.ownBlock=some W.heap.size)→wpList Tryz.prog ops Q rest (a.put o.dst v') w'):wpList Tryz.prog ops Q (o::rest) a W:=by
 obtain⟨ti,hi,hz0,hz1,hz2⟩:=info_parts Ub;refine wpList_append_own_at (P:=Tryz.prog) (w:=W) hgd s z 72 ho base 25 ti (.slice none 0 0) 1 24 Tryz.underlying72 hi hz0 hz1 hz2 rfl (by decide) v n _ hs hown ⟨B,0,none⟩ 1 c [y] hx rfl
  (fun j u hj=>by
   rcases j with _ | j
   ·simp at hj;subst hj;exact hc0
   ·simp at hj) (fun u hu=>by rw[List.mem_singleton.1 hu];exact hy) (by unfold maxLen;omega) (by omega) hb ?_
 intro v' w' h1 h2 h3 h4;exact h v' w' h1 h2 h4
end
end Go.Proofs.YtkjgogdkdejljaaGreatDoor.Df
