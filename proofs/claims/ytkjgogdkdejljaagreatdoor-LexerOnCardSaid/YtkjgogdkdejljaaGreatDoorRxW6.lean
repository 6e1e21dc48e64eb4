import Derived.Test.YtkjgogdkdejljaaGreatDoorRxW1
import Derived.Lib.ConvBytes
set_option maxRecDepth 100000
set_option maxHeartbeats 40000000
namespace Go.Proofs.YtkjgogdkdejljaaGreatDoor.Rx
section
open Go Go.Proofs Go.RowKit
attribute [local go_sem] Oper.semAt_some
structure fV(S:Nat→Prop)(X Y:World):Prop where
 low:Below 0 X Y
 same:∀ k,k<X.heap.size→¬S k→Y.heap[k]?=X.heap[k]?
theorem fV.refl(S:Nat→Prop)(X:World):fV S X X:=⟨Below.refl _ _,fun _ _ _=>rfl⟩
theorem fV.trans{S:Nat→Prop}{X Y Z:World}(h:fV S X Y)(k:fV S Y Z):fV S X Z:=⟨h.low.trans k.low,fun i hi hA=>(k.same i (Nat.lt_of_lt_of_le hi h.low.size) hA).trans (h.same i hi hA)⟩
theorem fV.of_below{S:Nat→Prop}{X Y:World}(h:Below X.heap.size X Y):fV S X Y:=⟨h.mono (Nat.zero_le _),fun k hk _=>h.block k hk⟩
theorem fV.vN{S:Nat→Prop}{A:Nat}{X Y:World}(h:AX.But A X Y)(hA:S A):fV S X Y:=⟨h.low,fun k hk hn=>h.same k hk (fun e=>hn (e ▸ hA))⟩
theorem fV.below{S:Nat→Prop}{n:Nat}{X Y:World}(h:fV S X Y)(hn:n≤X.heap.size)(hA:∀ k,S k→n≤k):Below n X Y:=⟨h.low.os,h.low.tape,h.low.output,h.low.size,fun k hk=>h.same k (by omega) (fun e=>by have:=hA k e;omega)⟩
theorem aJ.iQ{S:Nat→Prop}{B:Nat}{l:List Bool}{w w':World}(h:aJ w B l)(hb:fV S w w')(hn:¬S B):aJ w' B l:=h.same (hb.same _ h.lt hn)
structure NAt(W:World)(NB n M:Nat)(bs:Nat→Nat)(nx:List (List Bool)):Prop where
 len:nx.length=n
 cells:∃ cs:Array Value,W.heap[NB]?=some (.cells cs 203 (0,0))∧cs.size=n∧∀ i,i<M→cs[i]?=some (.slice (some ⟨bs i,0,none⟩) n n)
 row:∀ i row,i<M→nx[i]?=some row→aJ W (bs i) row∧row.length=n
 inj:∀ i j,i<M→j<M→bs i=bs j→i=j
 nb:∀ i,i<M→bs i≠NB
theorem NAt.cell{W:World}{NB n M:Nat}{bs:Nat→Nat}{nx:List (List Bool)}(h:NAt W NB n M bs nx){i:Nat}(hi:i<M):W.cell? ⟨NB,i,none⟩=some (.slice (some ⟨bs i,0,none⟩) n n):=by
 obtain⟨cs,h1,_,h2⟩:=h.cells;simp[World.cell?,h1,h2 i hi]
theorem NAt.lt{W:World}{NB n M:Nat}{bs:Nat→Nat}{nx:List (List Bool)}(h:NAt W NB n M bs nx):NB<W.heap.size:=by
 obtain⟨cs,h1,_⟩:=h.cells;exact (Array.getElem?_eq_some_iff.1 h1).1
theorem NAt.same{W W':World}{NB n M:Nat}{bs:Nat→Nat}{nx:List (List Bool)}(h:NAt W NB n M bs nx)(h1:W'.heap[NB]?=W.heap[NB]?)(h2:∀ i,i<M→W'.heap[bs i]?=W.heap[bs i]?):NAt W' NB n M bs nx:=by
 obtain⟨cs,a,b,c⟩:=h.cells;exact⟨h.len,⟨cs,h1.trans a,b,c⟩,fun i row hi hr=>⟨(h.row i row hi hr).1.same (h2 i hi),(h.row i row hi hr).2⟩,h.inj,h.nb⟩
theorem NAt.below{W W':World}{m NB n M:Nat}{bs:Nat→Nat}{nx:List (List Bool)}(h:NAt W NB n M bs nx)(hb:Below m W W')(h1:NB<m)(h2:∀ i,i<M→bs i<m):NAt W' NB n M bs nx :=
 h.same (hb.block _ h1) (fun i hi=>hb.block _ (h2 i hi))
theorem NAt.blt{W:World}{NB n M:Nat}{bs:Nat→Nat}{nx:List (List Bool)}(h:NAt W NB n M bs nx)(hM:M≤n){i:Nat}(hi:i<M):bs i<W.heap.size :=
 (h.row i _ hi (List.getElem?_eq_getElem (by rw[h.len];omega))).1.lt
theorem NAt.turn{W W':World}{NB n M:Nat}{bs:Nat→Nat}{nx:List (List Bool)}(h:NAt W NB n M bs nx)(hM:M≤n){k:Nat}(hk:k<M){row:List Bool}(hr:aJ W' (bs k) row)(hl:row.length=n)(hb:AX.But (bs k) W W'):NAt W' NB n M bs (nx.set k row):=by
 obtain⟨cs,a,b,c⟩:=h.cells;refine⟨by rw[List.length_set,h.len],⟨cs,(hb.same _ h.lt (fun e=>h.nb k hk e.symm)).trans a,b,c⟩,fun i r hi hr'=>?_,h.inj,h.nb⟩;rw[List.getElem?_set] at hr'
 by_cases e:k=i
 ·subst e
  rw[if_pos rfl,if_pos (by rw[h.len];omega)] at hr';rw[←Option.some.inj hr'];exact⟨hr,hl⟩
 ·rw[if_neg e] at hr'
  exact⟨(h.row i r hi hr').1.but hb (fun e'=>e (h.inj _ _ hi hk e').symm),(h.row i r hi hr').2⟩
theorem Ig(NB L F n M c cl cf:Nat)(bs:Nat→Nat)(rv ev:Value)(nx:List (List Bool))(l f:List Bool)(hM:M≤n)(hn:n≤1000000)(hl:l.length=n)(hf:f.length=n)(hlM:∀ p,mem l p→p<M)
  (hbl:∀ i,i<M→bs i≠L) (hbf:∀ i,i<M→bs i≠F) (w:World) (hN:NAt w NB n M bs nx) (hL:aJ w L l) (hF:aJ w F f) :
  Calls Tryz.prog 141 #[.agg #[rv,ev, .slice (some ⟨NB,0,none⟩) n c], .slice (some ⟨L,0,none⟩) n cl, .slice (some ⟨F,0,none⟩) n cf] w fun e w' =>
   e = .returned (.tuple #[])∧NAt w' NB n M bs (kN nx l f)∧fV (fun k=>∃ i,i<M∧k=bs i) w w':=by
 have hNl:=hN.lt;have hbb:=fun i (hi:i<M)=>hN.blt hM hi;have hLl:=hL.lt;have hFl:=hF.lt;go_enter Tryz.func141,Tryz.ntmps141
 go_wp2
 generalize hW0:w.alloc _=W0;have hX0:W0.heap[w.heap.size]?=some (.cells #[rv,ev, .slice (some ⟨NB,0,none⟩) n c] 202 (0,0)):=by rw[←hW0];exact World.alloc_heap_new w _
 have hB0:Below w.heap.size w W0:=by rw[←hW0];exact (Below.refl _ w).alloc Nat.le.refl _
 have hN0:NAt W0 NB n M bs nx:=hN.below hB0 hNl hbb;have hL0:=hL.below hB0 hLl;have hF0:=hF.below hB0 hFl;clear hW0;obtain⟨ns,hns⟩:∃ ns,ns=w.heap.size:=⟨_,rfl⟩;rw[←hns] at hX0 hB0 hNl hbb hLl hFl ⊢;have HNS:=Lib.hid hns;clear hns;go_loopw [10] (fun i wr=>∃(k:Nat)(m:List (List Bool)),k≤n∧i = .int .i64 k∧NAt wr NB n M bs m∧(∀ j,j<k→m[j]?=(kN nx l f)[j]?)∧(∀ j,k≤j→m[j]?=nx[j]?)∧fV (fun k=>∃ i,i<M∧k=bs i) W0 wr)
  (fun i _=>n-(intOf i).toNat)
 case atStart=>exact⟨0,nx,Nat.zero_le _,rfl,hN0,fun j h=>by omega,fun j _=>rfl,fV.refl _ _⟩
 case round =>
  obtain⟨k,m,hk,rfl,hm,h1,h2,lJ⟩:=hrel;have hX:wr.cell? ⟨ns,2,none⟩=some (.slice (some ⟨NB,0,none⟩) n c):=by
   have:=(lJ.same ns (by rw[Array.getElem?_eq_some_iff] at hX0;exact hX0.1) (by rintro⟨i,hi,e⟩;have:=hbb i hi;omega)).trans hX0;simp[World.cell?,this]
  by_cases hlt:k<n
  ·obtain⟨x,hx⟩:∃ x,l[k]?=some x:=⟨_,List.getElem?_eq_getElem (by omega)⟩
   have c0:=(hL0.iQ lJ (by rintro⟨i,hi,e⟩;exact hbl i hi e.symm)).at k x hx;have hk0:(0:Int)≤(k:Int):=(by omega);have hk1:(k:Int)<(n:Int):=(by omega);have hkt:(k:Int).toNat=k:=(by omega);obtain⟨row,hrow⟩:∃ row,nx[k]?=some row:=⟨_,List.getElem?_eq_getElem (by rw[hN.len];exact hlt)⟩;have RH:=oQ (f:=f) (by rw[hN.len,hl]:nx.length=l.length) k row hrow;have hmk:=(h2 k Nat.le.refl).trans hrow;have hld:l.getD k false=x:=(by rw[List.getD_eq_getElem?_getD,hx];rfl);rw[hld] at RH
   cases x with
   | false =>
    have HR:=Lib.hid (show m[k]?=(kN nx l f)[k]? by rw[hmk,RH];rfl);clear hx hrow RH hmk hld;go_wp2
    go_roundw
    case rel=>exact⟨k+1,m,by omega,by simp,hm,fun j hj=>by
     by_cases e:j=k
     ·subst e;exact HR.out
     ·exact h1 j (by omega),fun j hj=>h2 j (by omega),lJ⟩
    case measure=>simp[intOf];omega
   | true =>
    have hkM:=hlM k hx;have hc:=hm.cell hkM;obtain⟨hr1,hr2⟩:=hm.row k row hkM hmk;have hF1:=hF0.iQ lJ (by rintro⟨i,hi,e⟩;exact hbf i hi e.symm);have hor:=NG (bs k) F n cf n row f (fun e=>hbf k hkM e.symm) hr2 hf hn wr hr1 hF1;have HR:=Lib.hid (show(kN nx l f)[k]?=some (orS row f) by rw[RH];rfl);have HL:=Lib.hid (show(orS row f).length=n by rw[iL (by rw[hr2,hf]),hr2]);clear hx hrow RH hmk hld hr1 hr2;generalize orS row f=row' at *;have hbk:=hm.blt hM hkM;go_wp2_with (go_at_call 126;refine hor.mono ?_;rintro e Wd ⟨rfl,hrd,hbd⟩)
    go_roundw
    case rel=>exact⟨k+1,m.set k row',by omega,by simp,hm.turn hM hkM hrd HL.out hbd,fun j hj=>by
     rw[List.getElem?_set]
     by_cases e:k=j
     ·subst e;rw[if_pos rfl,if_pos (by rw[hm.len];omega),HR.out]
     ·rw[if_neg e];exact h1 j (by omega),fun j hj=>by
     rw[List.getElem?_set,if_neg (by omega)];exact h2 j (by omega),lJ.trans (.vN hbd ⟨k,hkM,rfl⟩)⟩
    case measure=>simp[intOf];omega
  ·obtain rfl:k=n:=by omega
   have e:m=kN nx l f:=List.ext_getElem? fun j=>by
    by_cases hj:j<k
    ·exact h1 j hj
    ·rw[List.getElem?_eq_none (by rw[hm.len];omega),List.getElem?_eq_none (by rw[uq (by rw[hN.len,hl]),hN.len];omega)]
   subst e;go_wp2
   refine bodyPost_end (v := .tuple #[]) (by simp[results,Tryz.results141,go_sem]) rfl ⟨rfl,hm,?_⟩;exact(fV.of_below (HNS.out ▸ hB0)).trans lJ
theorem addr_add(B o j:Nat):(⟨B,o,none⟩:Addr).add j=⟨B,o+j,none⟩:=by unfold Addr.add;split<;>simp_all
theorem RI:(Tryz.prog.info? 4).map (fun i=>(i.zero,i.size,i.bytes))=some (some (.bool false),1,1):=by kernel_rfl
theorem RJ(W:World)(B off n c:Nat):(binOp .eql 203 (.slice (some ⟨B,off,none⟩) n c) (.slice none 0 0)).run Tryz.prog W = .ok (.bool false) W:=by kernel_rfl
theorem Ld(B n c:Nat)(l:List Bool)(hl:l.length=n)(h1n:1≤n)(hn:n≤1000000)(w:World)(hB:aJ w B l) :
  Calls Tryz.prog 169 #[.slice (some ⟨B,0,none⟩) n c] w fun e w'=>(∃ B' c',e = .returned (.slice (some ⟨B',0,none⟩) n c')∧w.heap.size≤B'∧aJ w' B' l)∧Below w.heap.size w w':=by
 have hq:=RJ;obtain⟨ti,hi,hz0,hz1,hz2⟩:=info_parts RI;have hown:(w.alloc (.cells #[] 4)).ownsRow w.heap.size 4 1 (.slice (some ⟨w.heap.size,0,none⟩) 0 0) 0 []:=⟨rfl, .inr ⟨w.heap.size,0,#[],rfl,Nat.le_refl _,World.alloc_heap_new w _,Nat.le_refl _,by unfold maxLen;omega,rfl,rfl⟩⟩;have hB0:Below w.heap.size w (w.alloc (.cells #[] 4)):=(Below.refl _ w).alloc Nat.le.refl _;have hrow1:=hB.below hB0 hB.lt;have hnews:∀ j u,(l.map Value.bool)[j]?=some u→(w.alloc (.cells #[] 4)).cell? ((⟨B,0,none⟩:Addr).add j)=some u:=fun j u hj=>by
  rw[addr_add,Nat.zero_add];rw[List.getElem?_map] at hj
  cases e:l[j]? with
  | none=>rw[e] at hj;cases hj
  | some b=>rw[e] at hj;cases hj;exact hrow1.at j b e
 have hone:∀ v∈l.map Value.bool,v.oneCell'=true:=fun v hv=>by
  obtain⟨b,_,rfl⟩:=List.mem_map.1 hv;rfl
 go_enter Tryz.func169,Tryz.ntmps169
 go_wp2_with (at_builtin;refine wpList_append_own _ rfl _ _ 203 rfl w.heap.size 4 ti (.bool false) 1 1 Tryz.underlying203 hi hz0 hz1 hz2 rfl (by decide) _ 0 [] rfl hown ⟨B,0,none⟩ n c (l.map Value.bool) rfl (by simp[hl]) hnews hone (by unfold maxLen;omega) (by omega) (by simp) ?_;intro v' w1 hown' hgrow _)
 have hBl:Below w.heap.size w w1:=hB0.grown hgrow (by simp) fun k hk=>(hown.lt k hk).1;rw[Nat.zero_add,List.nil_append] at hown';rcases hown'.2 with ⟨rfl,h0⟩ | ⟨g,cap,cur,rfl,hg,hh,h1,h2,h3,h4⟩
 ·omega
 ·refine bodyPost_ret (v := .slice (some ⟨g,0,none⟩) n cap) (by simp[results,Tryz.results169,go_sem]) rfl ⟨⟨g,cap,rfl,hg,cur,hh,fun i b hb=>?_⟩,hBl⟩
  have hj:(cur.toList.take (n*1))[i]?=some (.bool b):=by rw[h4,List.getElem?_map,hb];rfl
  rw[List.getElem?_take] at hj;split at hj
  ·simpa using hj
  ·cases hj
theorem wrap_two_pow(r:Nat)(hr:r<64):IntKind.u64.wrap ((2:Int) ^ r)=((2 ^ r:Nat):Int):=by
 have h:2 ^ r<2 ^ 64:=Nat.pow_lt_pow_right (by decide) hr;have h:2 ^ r<18446744073709551616:=by simpa using h
 have e:((2:Int) ^ r)=((2 ^ r:Nat):Int):=by simp
 rw[e];generalize 2 ^ r=m at *;rw[IntKind.wrap_u64];omega
theorem mO(a r:Nat):a &&& 2 ^ r=if a.testBit r then 2 ^ r else 0:=by
 apply Nat.eq_of_testBit_eq;intro j;rw[Nat.testBit_and,Nat.testBit_two_pow]
 by_cases h:r=j
 ·subst h
  cases a.testBit r<;>simp
 ·cases a.testBit r<;>simp[h]
theorem jL(a r:Nat)(ha:a<18446744073709551616)(hr:r<64):(bits .and .u64 (a:Int) (IntKind.u64.wrap ((2:Int) ^ r)) != 0)=a.testBit r:=by
 have h:2 ^ r<2 ^ 64:=Nat.pow_lt_pow_right (by decide) hr;rw[wrap_two_pow r hr,bits_and_u64_nat a _ ha (by simpa using h),mO];have hp:0<2 ^ r:=Nat.two_pow_pos r;generalize 2 ^ r=m at hp
 cases hb:a.testBit r with
 | true=>simp;omega
 | false=>simp
structure Nd.Wd(x:Nd):Prop where
 a:x.a<18446744073709551616
 b:x.b<18446744073709551616
 c:x.c<18446744073709551616
 d:x.d<18446744073709551616
theorem abb(x:Nd)(hx:x.Wd)(b:Nat)(hb:b<256)(w:World) :
  Calls Tryz.prog 125 #[.agg #[.int .u64 x.a, .int .u64 x.b, .int .u64 x.c, .int .u64 x.d], .int .u8 b] w fun e w'=>e = .returned (.bool (x.has (b:Nat)))∧Below w.heap.size w w':=by
 obtain⟨k,a0,a1,a2,a3,kids⟩:=x;obtain⟨l0,l1,l2,l3⟩:=hx;simp only at l0 l1 l2 l3;obtain⟨r,hr⟩:∃ r:Nat,r=b % 64:=⟨_,rfl⟩;have jO:r<64:=by omega
 have hrm:(b:Int) % 64=(r:Nat):=by omega
 have h4:b / 64=0∨b / 64=1∨b / 64=2∨b / 64=3:=by omega
 have hB:Below w.heap.size w (w.alloc (.cells #[.int .u64 a0, .int .u64 a1, .int .u64 a2, .int .u64 a3] 116)):=(Below.refl _ w).alloc Nat.le.refl _;have HH:Hid (Nd.has ⟨k,a0,a1,a2,a3,kids⟩ (b:Nat)=(if b / 64=0 then a0 else if b / 64=1 then a1 else if b / 64=2 then a2 else a3).testBit r):=Lib.hid (by subst hr;simp[Nd.has,Nd.wd]);clear hr;obtain hq | hq | hq | hq:=h4
 all_goals
  simp only[hq] at HH
 ·have hqi:(b:Int) / 64=0:=by omega
  have ho:=jL _ r l0 jO;clear hq;go_enter Tryz.func125,Tryz.ntmps125
  go_wp2
  go_ret
  exact⟨by rw[HH.out];rfl,hB⟩
 ·have hqi:(b:Int) / 64=1:=by omega
  have ho:=jL _ r l1 jO;clear hq;go_enter Tryz.func125,Tryz.ntmps125
  go_wp2
  go_ret
  exact⟨by rw[HH.out];rfl,hB⟩
 ·have hqi:(b:Int) / 64=2:=by omega
  have ho:=jL _ r l2 jO;clear hq;go_enter Tryz.func125,Tryz.ntmps125
  go_wp2
  go_ret
  exact⟨by rw[HH.out];rfl,hB⟩
 ·have hqi:(b:Int) / 64=3:=by omega
  have ho:=jL _ r l3 jO;clear hq;go_enter Tryz.func125,Tryz.ntmps125
  go_wp2
  go_ret
  exact⟨by rw[HH.out];rfl,hB⟩
theorem Le(k:Int)(w:World):Calls Tryz.prog 94 #[.int .i64 k] w fun e w'=>e = .returned (.tuple #[.int .i64 (nV k), .int .i64 (jl k), .bool (Ae k)])∧w'=w:=by
  have h8:k=1∨k=2∨k=3∨k=4∨k=5∨k=6∨k=7∨(k≠1∧k≠2∧k≠3∧k≠4∧k≠5∧k≠6∧k≠7):=by omega
  rcases h8 with rfl | rfl | rfl | rfl | rfl | rfl | rfl | ⟨h1,h2,h3,h4,h5,h6,h7⟩
  all_goals
    first
      | (have e:nV k=0∧jl k=0∧Ae k=false:=⟨by simp[nV,h1,h2,h3,h4,h5,h6,h7],by simp[jl,h1,h2,h3,h4,h5,h6,h7],by simp[Ae];omega⟩
         rw[e.1,e.2.1,e.2.2];clear e)
      | skip
    go_enter Tryz.func94,Tryz.ntmps94
    go_wp2
    refine bodyPost_ret (v := .tuple #[.int .i64 _, .int .i64 _, .bool _]) (by first | (simp[results,Tryz.results94,go_sem];done) | (simp[results,Tryz.results94,go_sem];decide)) rfl ⟨rfl,rfl⟩
def IRd(W:World)(v:Value)(l:List Int):Prop:=∃(la:Option Addr)(c:Nat),v = .slice la l.length (l.length+c)∧(la=none→l = [])∧∀ a,la=some a→l≠[]→∃ B off,a=⟨B,off,none⟩∧B<W.heap.size∧∀ i x,l[i]?=some x→W.cell? ⟨B,off+i,none⟩=some (.int .i64 x)
theorem IRd.below{n:Nat}{w w':World}{v:Value}{l:List Int}(h:IRd w v l)(hn:w.heap.size≤n)(hb:Below n w w'):IRd w' v l:=by
 obtain⟨la,c,rfl,h1,h2⟩:=h;exact⟨la,c,rfl,h1,fun a e ne=>by obtain⟨B,off,e1,e2,e3⟩:=h2 a e ne;exact⟨B,off,e1,Nat.lt_of_lt_of_le e2 hb.size,fun i x hx=>(hb.cell (p:=⟨B,off+i,none⟩) (Nat.lt_of_lt_of_le e2 hn)).trans (e3 i x hx)⟩⟩
theorem IRd.old{W:World}{v:Value}{l:List Int}(h:IRd W v l):∃(la:Option Addr)(c:Nat),v = .slice la l.length c∧(la=none→l = [])∧∀ a,la=some a→l≠[]→∃ B off,a=⟨B,off,none⟩∧B<W.heap.size∧∀ i x,l[i]?=some x→W.cell? ⟨B,off+i,none⟩=some (.int .i64 x):=by
 obtain⟨la,c,h⟩:=h;exact⟨la,_,h⟩
structure XAt(W:World)(B o:Nat)(x:Nd):Prop where
 c0:W.cell? ⟨B,o,none⟩=some (.int .i64 x.k)
 c1:W.cell? ⟨B,o+1,none⟩=some (.int .u64 (x.a:Nat))
 c2:W.cell? ⟨B,o+2,none⟩=some (.int .u64 (x.b:Nat))
 c3:W.cell? ⟨B,o+3,none⟩=some (.int .u64 (x.c:Nat))
 c4:W.cell? ⟨B,o+4,none⟩=some (.int .u64 (x.d:Nat))
 c5:∃ v,W.cell? ⟨B,o+5,none⟩=some v∧IRd W v x.kids
theorem XAt.below{n B o:Nat}{x:Nd}{w w':World}(h:XAt w B o x)(hn:w.heap.size≤n)(hb:Below n w w')(hB:B<n):XAt w' B o x :=
  ⟨(hb.cell (p:=⟨B,o,none⟩) hB).trans h.c0,(hb.cell (p:=⟨B,o+1,none⟩) hB).trans h.c1,(hb.cell (p:=⟨B,o+2,none⟩) hB).trans h.c2,(hb.cell (p:=⟨B,o+3,none⟩) hB).trans h.c3,(hb.cell (p:=⟨B,o+4,none⟩) hB).trans h.c4,by
    obtain⟨v,h1,h2⟩:=h.c5;exact⟨v,(hb.cell (p:=⟨B,o+5,none⟩) hB).trans h1,h2.below hn hb⟩⟩
def jk(W:World)(v:Value)(r:List Nd):Prop:=∃(la:Option Addr)(c:Nat),v = .slice la r.length c∧(la=none→r = [])∧∀ a,la=some a→r≠[]→∃ B off,a=⟨B,off,none⟩∧B<W.heap.size∧∀ i x,r[i]?=some x→XAt W B (off+i*6) x
theorem jk.below{n:Nat}{w w':World}{v:Value}{r:List Nd}(h:jk w v r)(hn:w.heap.size≤n)(hb:Below n w w'):jk w' v r:=by
 obtain⟨la,c,rfl,h1,h2⟩:=h;exact⟨la,c,rfl,h1,fun a e ne=>by obtain⟨B,off,e1,e2,e3⟩:=h2 a e ne;exact⟨B,off,e1,Nat.lt_of_lt_of_le e2 hb.size,fun i x hx=>(e3 i x hx).below hn hb (Nat.lt_of_lt_of_le e2 hn)⟩⟩
def aK(W:World)(B:Nat)(l:List Int):Prop:=∃ cs:Array Value,W.heap[B]?=some (.cells cs 3 (0,0))∧∀(i:Nat)(b:Int),l[i]?=some b→cs[i]?=some (.int .i64 b)
theorem aK.lt{W:World}{B:Nat}{l:List Int}(h:aK W B l):B<W.heap.size:=by obtain⟨cs,h,_⟩:=h;exact (Array.getElem?_eq_some_iff.1 h).1
theorem aK.at{W:World}{B:Nat}{l:List Int}(h:aK W B l)(i:Nat)(b:Int)(hb:l[i]?=some b):W.cell? ⟨B,i,none⟩=some (.int .i64 b):=by
 obtain⟨cs,h,hc⟩:=h;simp[World.cell?,h,hc i b hb]
theorem aK.frozen{W:World}{B:Nat}{l:List Int}(h:aK W B l)(j:Nat):W.frozen? ⟨B,j,none⟩=false:=by
 obtain⟨cs,h,_⟩:=h;simp[World.frozen?,h]
theorem aK.same{W W':World}{B:Nat}{l:List Int}(h:aK W B l)(e:W'.heap[B]?=W.heap[B]?):aK W' B l:=by
 obtain⟨cs,h,hc⟩:=h;exact⟨cs,e.trans h,hc⟩
theorem aK.below{n B:Nat}{l:List Int}{w w':World}(h:aK w B l)(hb:Below n w w')(hn:B<n):aK w' B l:=h.same (hb.block _ hn)
theorem aK.set{W:World}{B:Nat}{l:List Int}(h:aK W B l)(i:Nat)(b:Int):aK (W.setCell ⟨B,i,none⟩ (.int .i64 b)) B (l.set i b):=by
 obtain⟨cs,h,hc⟩:=h;have hb:=(Array.getElem?_eq_some_iff.1 h).1;refine⟨cs.setIfInBounds i (.int .i64 b),by simp[World.setCell,Array.getElem?_modify,h],fun j c hj=>?_⟩;rw[Array.getElem?_setIfInBounds];rw[List.getElem?_set] at hj
 by_cases e:i=j
 ·subst e
  rw[if_pos rfl] at hj ⊢;split at hj
  ·rename_i hl
   have:=hc i l[i] (List.getElem?_eq_getElem hl);rw[if_pos (Array.getElem?_eq_some_iff.1 this).1,Option.some.inj hj]
  ·cases hj
 ·rw[if_neg e] at hj ⊢
  exact hc j c hj
theorem Yu(x:Int)(w:World):Calls Tryz.prog 95 #[.int .i64 x] w fun e w'=>e = .returned (.bool (x != 1))∧w'=w:=by
 go_enter Tryz.func95,Tryz.ntmps95
 go_wp2
 exact bodyPost_ret (v := .bool (x != 1)) (by simp[results,Tryz.results95,go_sem]) rfl ⟨rfl,rfl⟩
theorem Et(B n c:Nat)(l:List Int)(hn:n≤l.length)(hl:l.length≤1000000)(w:World)(hB:aK w B l) :
  Calls Tryz.prog 76 #[.slice (some ⟨B,0,none⟩) n c, .func (.func 95) #[] #[]] w fun e w'=>(∃ z:Int,e = .returned (.int .i64 z)∧((0≤z∧∃ x∈l.take n,x≠1)∨(z = -1∧∀ x∈l.take n,x=1)))∧w'=w:=by
 go_enter Tryz.func76,Tryz.ntmps76
 go_wp2
 obtain⟨wo,rfl⟩:∃ wo:World,wo=w:=⟨_,rfl⟩;go_loopw [8] (fun i wr=>∃ k:Nat,k≤n∧i = .int .i64 k∧Hid (∀ x∈l.take k,x=1)∧wr=wo) (fun i _=>n-(intOf i).toNat)
 case atStart=>exact⟨0,Nat.zero_le _,rfl,Lib.hid (by simp),rfl⟩
 case round =>
  obtain⟨k,hk,rfl,hH,rfl⟩:=hrel
  by_cases hlt:k<n
  ·obtain⟨x,hx⟩:∃ x,l[k]?=some x:=⟨_,List.getElem?_eq_getElem (by omega)⟩
   have c0:=hB.at k x hx;have hn1:=Yu x wr;have hk0:(0:Int)≤(k:Int):=(by omega);have hk1:(k:Int)<(n:Int):=(by omega);have HT:Hid (l.take (k+1)=l.take k++[x]):=Lib.hid (by rw[List.take_add_one,hx];rfl);have HM:Hid (x∈l.take n):=Lib.hid (by rw[List.mem_take_iff_getElem];exact⟨k,by omega,by rw[List.getElem?_eq_getElem (by omega)] at hx;exact Option.some.inj hx⟩);clear hx
   by_cases h1:x=1
   ·subst h1
    rw[show ((1:Int) != 1)=false from rfl] at hn1;go_wp2_with (go_at_call 95;refine hn1.mono ?_;rintro e Wd ⟨rfl,rfl⟩)
    go_roundw
    case rel=>exact⟨k+1,by omega,by simp,Lib.hid (by rw[HT.out];intro y hy;rcases List.mem_append.1 hy with hy | hy;exact hH.out y hy;simpa using hy),by trivial⟩
    case measure=>simp[intOf];omega
   ·have hb:(x != 1)=true:=by simpa using h1
    rw[hb] at hn1;have H1:=Lib.hid h1;clear h1 hb;go_wp2_with (go_at_call 95;refine hn1.mono ?_;rintro e Wd ⟨rfl,rfl⟩)
    exact bodyPost_ret (v := .int .i64 k) (by simp[results,Tryz.results76,go_sem]) rfl ⟨⟨k,rfl, .inl ⟨by omega,x,HM.out,H1.out⟩⟩,rfl⟩
  ·obtain rfl:k=n:=by omega
   go_wp2
   exact bodyPost_ret (v := .int .i64 (-1)) (by simp[results,Tryz.results76,go_sem]) rfl ⟨⟨-1,rfl, .inr ⟨rfl,hH.out⟩⟩,rfl⟩
open Classical in
theorem contains_k(B n c:Nat)(l:List Int)(hn:n≤l.length)(hl:l.length≤1000000)(w:World)(hB:aK w B l) :
  Calls Tryz.prog 38 #[.slice (some ⟨B,0,none⟩) n c, .func (.func 95) #[] #[]] w fun e w'=>e = .returned (.bool (decide (∃ x∈l.take n,x≠1)))∧w'=w:=by
 have h:=Et B n c l hn hl w hB;go_enter Tryz.func38,Tryz.ntmps38
 go_wp2_with (go_at_call 76;refine h.mono ?_;rintro e Wd ⟨⟨z,rfl,hz⟩,rfl⟩)
 have e:decide (∃ x∈l.take n,x≠1)=decide (z ≥ 0):=by
  rcases hz with ⟨h1,h2⟩ | ⟨h1,h2⟩
  ·rw[decide_eq_true h2,decide_eq_true h1]
  ·rw[decide_eq_false (by rintro⟨x,hx,h3⟩;exact h3 (h2 x hx)),decide_eq_false (by omega)]
 rw[e];exact bodyPost_ret (v := .bool (decide (z ≥ 0))) (by simp[results,Tryz.results38,go_sem]) rfl ⟨rfl,rfl⟩
end
section
variable {r : List Nd}
def Par(r:List Nd)(p q:Nat):Prop:=∃ x,r[q]?=some x∧(p:Int)∈x.kids
inductive kP (r:List Nd):Nat→Nat→Prop
 | refl (p:Nat):kP r p p
 | up {p q i:Nat} : Par r p q→kP r q i→kP r p i
theorem iC(x:Nd)(r:List Nd):bg (x::r)=x.kids++bg r:=by simp[bg]
theorem count_le(a:Int):∀(r:List Nd)(q:Nat)(x:Nd),r[q]?=some x→x.kids.count a≤(bg r).count a
 | [],_,_,h=>by simp at h
 | y::r,0,x,h=>by
  simp at h;subst h;rw[iC,List.count_append];omega
 | y::r,q+1,x,h=>by
  have:=count_le a r q x (by simpa using h);rw[iC,List.count_append];omega
theorem vY(a:Int):∀(r:List Nd)(q q':Nat)(x y:Nd),q<q'→r[q]?=some x→r[q']?=some y→a∈x.kids→a∈y.kids→2≤(bg r).count a
 | [],_,_,_,_,_,h,_,_,_=>by simp at h
 | z::r,0,q'+1,x,y,_,h,h',hx,hy=>by
  simp at h;subst h;have h1:=count_le a r q' y (by simpa using h');have h2:=List.count_pos_iff.2 hx;have h3:=List.count_pos_iff.2 hy;rw[iC,List.count_append];omega
 | z::r,q+1,q'+1,x,y,hq,h,h',hx,hy=>by
  have:=vY a r q q' x y (by omega) (by simpa using h) (by simpa using h') hx hy;rw[iC,List.count_append];omega
 | z::r,q+1,0,x,y,hq,_,_,_,_=>by omega
theorem lt_of_some{α : Type}{l:List α}{i:Nat}{x : α}(h:l[i]?=some x):i<l.length:=by
 rcases Nat.lt_or_ge i l.length with y | y
 ·exact y
 ·rw[List.getElem?_eq_none y] at h;simp at h
theorem Par.lt(ok:eP r){p q:Nat}(h:Par r p q):p<q:=by
 obtain⟨x,hx,hp⟩:=h;have:=((ok.nd q x hx).kids _ hp).2;omega
theorem Par.X0{p q:Nat}(h:Par r p q):q<r.length:=by
 obtain⟨x,hx,_⟩:=h;exact lt_of_some hx
theorem KH(ok:eP r){p q q':Nat}(h:Par r p q)(h':Par r p q'):q=q':=by
 have l1:=h.lt ok;have l2:=h.X0;have hc:=ok.once p (by omega);obtain⟨x,hx,hp⟩:=h;obtain⟨y,hy,hp'⟩:=h';rcases Nat.lt_trichotomy q q' with e | e | e
 ·have:=vY _ r q q' x y e hx hy hp hp';omega
 ·exact e
 ·have:=vY _ r q' q y x e hy hx hp' hp;omega
theorem JC(ok:eP r){i:Nat}{x:Nd}(hx:r[i]?=some x):x.kids.Nodup:=by
 rw[List.nodup_iff_count];intro a
 by_cases ha:a∈x.kids
 ·have h1:=(ok.nd i x hx).kids a ha
  have h2:=lt_of_some hx;have h3:=ok.once a.toNat (by omega);have h4:=count_le a r i x hx;rw[show ((a.toNat:Nat):Int)=a by omega] at h3;omega
 ·rw[List.count_eq_zero_of_not_mem ha];omega
theorem kP.le(ok:eP r){p i:Nat}(h:kP r p i):p≤i:=by
 induction h with
 | refl=>exact Nat.le_refl _
 | up hp _ ih=>have:=hp.lt ok;omega
theorem kP.snoc{p k i:Nat}(h:kP r p k)(hk:Par r k i):kP r p i:=by
 induction h with
 | refl=>exact .up hk (.refl _)
 | up hp _ ih=>exact .up hp (ih hk)
theorem kP.last{p i:Nat}(h:kP r p i):p=i∨∃ k,Par r k i∧kP r p k:=by
 induction h with
 | refl=>exact .inl rfl
 | up hp _ ih =>
  rcases ih with rfl | ⟨k,hk,hd⟩
  ·exact .inr ⟨_,hp, .refl _⟩
  ·exact .inr ⟨k,hk, .up hp hd⟩
theorem QE(ok:eP r){p k k':Nat}(h:kP r p k)(h':kP r p k'):kP r k k'∨kP r k' k:=by
 induction h with
 | refl=>exact .inl h'
 | up hp hd ih =>
  cases h' with
  | refl=>exact .inr (.up hp hd)
  | up hp' hd' =>
   have:=KH ok hp hp';subst this;exact ih hd'
theorem KI(ok:eP r){k k' i:Nat}(hk:Par r k i)(hk':Par r k' i)(hd:kP r k k'):k=k':=by
 cases hd with
 | refl=>rfl
 | up hp hd =>
  have:=KH ok hp hk;subst this;have h1:=hd.le ok;have h2:=hk'.lt ok;omega
theorem JD(ok:eP r){p k k' i:Nat}(hk:Par r k i)(hk':Par r k' i)(h:kP r p k)(h':kP r p k'):k=k':=by
 rcases QE ok h h' with x | x
 ·exact KI ok hk hk' x
 ·exact (KI ok hk' hk x).symm
end
section
open Go Go.Proofs Go.RowKit
attribute [local go_sem] Oper.semAt_some
open Classical in
noncomputable def eU(r:List Nd):Int:=if eP r then 0 else 2
def iV(n:Nat)(ks:List Int):List Int:=(List.range n).map fun j:Nat=>((ks.count (j:Int):Nat):Int)
theorem jU(n:Nat)(ks:List Int):(iV n ks).length=n:=by simp[iV]
theorem mF(n:Nat)(ks:List Int)(j:Nat)(hj:j<n):(iV n ks)[j]?=some ((ks.count (j:Int):Nat):Int):=by simp[iV,hj]
theorem NM(n:Nat)(ks:List Int)(j:Nat)(hj:j<n):(iV n ks).set j (((ks.count (j:Int):Nat):Int)+1)=iV n (ks++[(j:Int)]):=by
 apply List.ext_getElem?;intro i;rw[List.getElem?_set]
 by_cases hi:i<n
 ·rw[mF n (ks++[(j:Int)]) i hi,mF n ks i hi,List.count_append,List.count_singleton]
  by_cases e:j=i
  ·subst e;rw[if_pos rfl,if_pos (by rw[jU];exact hj),if_pos (by simp)];simp
  ·rw[if_neg e,if_neg (by simp;omega)];simp
 ·rw[List.getElem?_eq_none (by rw[jU];omega:(iV n (ks++[(j:Int)])).length≤i),List.getElem?_eq_none (by rw[jU];omega:(iV n ks).length≤i)]
  rw[if_neg (by omega)]
theorem wR(r:List Nd)(k:Nat)(x:Nd)(h:r[k]?=some x):bg (r.take (k+1))=bg (r.take k)++x.kids:=by
 rw[List.take_add_one,h,bg,List.flatMap_append];simp[bg]
def RN(x:Nd):Prop:=(1≤x.k∧x.k≤7)∧nV x.k≤x.kids.length∧(x.kids.length:Int)≤jl x.k∧(x.k≠2→x.a=0∧x.b=0∧x.c=0∧x.d=0)
theorem U2(a b c d:Nat)(W:World):(binOp .neq 116 (.agg #[.int .u64 a, .int .u64 b, .int .u64 c, .int .u64 d]) (.agg #[.int .u64 0, .int .u64 0, .int .u64 0, .int .u64 0])).run Tryz.prog W = .ok (.bool (!decide (a=0∧b=0∧c=0∧d=0))) W:=by
 cases a<;>cases b<;>cases c<;>cases d<;>kernel_rfl
theorem info3':(Tryz.prog.info? 3).map (fun i=>(i.zero,i.size,i.bytes))=some (some (.int .i64 0),1,8):=by kernel_rfl
theorem Ih(z:Value)(k i:Nat)(h:i<k):(madeCells #[z] k)[i]?=some z:=by
 simp[madeCells,h,Nat.mod_one]
theorem U3(n:Nat)(hn:n≤1000)(w:World):∃ W0,(Instr.makeSlice 25 (.int .i64 n) (.int .i64 n)).run Tryz.prog w = .ok (.slice (some ⟨w.heap.size,0,none⟩) n n) W0∧aK W0 w.heap.size (iV n [])∧Below w.heap.size w W0∧W0.heap.size=w.heap.size+1:=by
 obtain⟨ti,hi,hz0,hz1,hz2⟩:=info_parts info3';have h:=run_makeSlice (P:=Tryz.prog) (w:=w) 25 3 ti (.int .i64 0) Tryz.underlying25 hi hz0 .i64 .i64 (n:Int) (n:Int) (by omega) (Int.le_refl _) (by rw[hz1];simp;omega) (by rw[hz2];omega) (by omega);refine⟨_,by rw[Int.toNat_natCast] at h;exact h,⟨_,World.alloc_heap_new w _,fun i b hb=>?_⟩,(Below.refl _ w).alloc Nat.le.refl _,by simp⟩;have hi':=lt_of_some hb;rw[jU] at hi';rw[mF n [] i hi'] at hb
 show(madeCells #[Value.int .i64 0] (n*ti.size))[i]?=_
 rw[hz1,Nat.mul_one];have:=Ih (.int .i64 0) n i hi';simp at hb;subst hb;exact this
end
section
open Go.Lib (hid)
open Go Go.Proofs Go.RowKit
attribute [local go_sem] Oper.semAt_some
theorem xQ(k:Int):jl k≤512:=by unfold jl;split<;>(try split)<;>(try split)<;>omega
theorem Aq(c:Nat):∀ r:List Nd,(∀ x∈r,x.kids.length≤c)→(bg r).length≤r.length*c
 | [],_=>by simp[bg]
 | x::r,h=>by
  have h1:=Aq c r (fun y hy=>h y (List.mem_cons_of_mem _ hy));have h2:=h x (List.mem_cons_self ..);rw[iC,List.length_append,List.length_cons,Nat.add_mul,Nat.one_mul];omega
theorem jH(r:List Nd)(v:Value)(hl:r.length≤1000000)(w:World)(hR:jk w v r) :
  Calls Tryz.prog 55 #[v] w fun e w'=>e = .returned (.int .i64 (eU r))∧Below w.heap.size w w':=by
 obtain⟨la,c,rfl,h1,h2⟩:=hR
 by_cases hs:r.length<1∨512<r.length
 ·have HC:Hid (eU r=2):=hid (if_neg (fun h=>by have:=h.one;have:=h.most;omega))
  have hb:(r.length<1∧¬ 512<r.length)∨512<r.length:=by omega
  generalize eU r=cv at *;rcases hb with ⟨h0,adr⟩ | adr
  ·go_enter Tryz.func55,Tryz.ntmps55
   go_wp2
   exact bodyPost_ret (v := .int .i64 2) (by simp[results,Tryz.results55,go_sem]) rfl ⟨by rw[HC.out],Below.refl _ _⟩
  ·go_enter Tryz.func55,Tryz.ntmps55
   go_wp2
   exact bodyPost_ret (v := .int .i64 2) (by simp[results,Tryz.results55,go_sem]) rfl ⟨by rw[HC.out],Below.refl _ _⟩
 have hn1:1≤r.length:=by omega
 have hn2:r.length≤512:=by omega
 clear hs hl
 cases la with
 | none=>have:=h1 rfl;subst this;simp at hn1
 | some ad =>
 obtain⟨B,off,rfl,hBl,hX⟩:=h2 _ rfl (by intro e;rw[e] at hn1;simp at hn1);clear h1 h2;obtain⟨n,hn⟩:∃ n,n=r.length:=⟨_,rfl⟩;rw[←hn] at hn1 hn2 ⊢;have HNn:=hid hn;clear hn;have hnot:∀ k x,r[k]?=some x→¬iO k x→Hid (eU r=2):=fun k x hx hno=>hid (if_neg (fun h=>hno (h.nd k x hx)));obtain⟨W0,hmk,hU0,hB0,hS0⟩:=U3 n (by omega) w;obtain⟨U,hU⟩:∃ U,U=w.heap.size:=⟨_,rfl⟩;rw[←hU] at hmk hU0 hB0 hBl;have HU:=hid hU;clear hU;have abe:bg (r.take 0) = []:=by simp[bg]
 generalize hcv:eU r=cv at *;have HCV:=hid hcv;clear hcv;go_enter Tryz.func55,Tryz.ntmps55
 go_wp2
 go_loopw [24] (fun i wr=>∃ k:Nat,k≤n∧i = .int .i64 k∧aK wr U (iV n (bg (r.take k)))∧Hid (∀ i x,i<k→r[i]?=some x→iO i x)∧Below U w wr)
  (fun i _=>n-(intOf i).toNat)
 case atStart=>exact⟨0,Nat.zero_le _,rfl,by rw[abe];exact hU0,hid (fun i x h=>by omega),hB0⟩
 case round =>
  obtain⟨k,hk',rfl,hUr,hnd,hB⟩:=hrel
  by_cases hlt:k<n
  ·obtain⟨x,hx⟩:∃ x,r[k]?=some x:=⟨_,List.getElem?_eq_getElem (by rw[←HNn.out];exact hlt)⟩
   obtain⟨c0,c1,c2,c3,c4,kv,c5,hIR⟩:=hX k x hx;replace c0:=(hB.cell (p:=⟨B,off+k*6,none⟩) hBl).trans c0;replace c1:=(hB.cell (p:=⟨B,off+k*6+1,none⟩) hBl).trans c1;replace c2:=(hB.cell (p:=⟨B,off+k*6+2,none⟩) hBl).trans c2;replace c3:=(hB.cell (p:=⟨B,off+k*6+3,none⟩) hBl).trans c3;replace c4:=(hB.cell (p:=⟨B,off+k*6+4,none⟩) hBl).trans c4;replace c5:=(hB.cell (p:=⟨B,off+k*6+5,none⟩) hBl).trans c5;obtain⟨lk,ck,rfl,hK1,hK2⟩:=hIR;have hk0:(0:Int)≤(k:Int):=(by omega);have hk1:(k:Int)<(n:Int):=(by omega);have hBw:B<wr.heap.size:=(by have:=hB.size;have:=HU.out;omega);have HT:=hid (wR r k x hx);have HNO:=hid (hnot k x hx);have HX:=hid hx;have hneq:=U2 x.a x.b x.c x.d;clear hx hnot
   by_cases hho:RN x
   ·obtain⟨g1,p3,p4,p5⟩:=hho
    have har:=Le x.k;rw[show Ae x.k=true by simp[Ae,g1]] at har;have HHO:Hid (iO k x↔∀ q∈x.kids,0≤q∧q<(k:Int)):=hid ⟨fun h=>h.kids,fun h=>⟨g1,p3,p4,p5,h⟩⟩;have q3:¬(x.kids.length:Int)<nV x.k:=(by omega);have q4:¬jl x.k<(x.kids.length:Int):=(by omega);have hz:x.k=2∨(¬x.k=2∧(!decide (x.a=0∧x.b=0∧x.c=0∧x.d=0))=false):=by
     by_cases h:x.k=2
     ·exact .inl h
     ·exact .inr ⟨h,by rw[decide_eq_true (p5 h)];rfl⟩
    have HCB:Hid ((bg (r.take k)).length≤512000000):=hid (by
     have h1:=Aq 512 (r.take k) (fun y hy=>by
      obtain⟨i,hi⟩:=List.getElem?_of_mem hy;rw[List.getElem?_take] at hi;split at hi
      ·rename_i hik
       have:=(hnd.out i y hik hi).high;have:=xQ y.k;omega
      ·cases hi)
     have h2:(r.take k).length≤512:=(by rw[List.length_take];omega);have h3:(r.take k).length*512≤512*512:=Nat.mul_le_mul_right _ h2;omega)
    have hkl:x.kids.length≤512:=(by have:=xQ x.k;omega);generalize x.k=xk at *;generalize nV xk=lo at *;generalize jl xk=hi at *;clear p3 p4 g1 p5;generalize (!decide (x.a=0∧x.b=0∧x.c=0∧x.d=0))=zb at *;have HBR:Hid (∀ vs t,Below U w (wr.alloc (.cells vs t))):=hid (fun vs t=>hB.alloc (by have:=hB.size;have:=HU.out;omega) _);have HUR:Hid (∀ vs t,aK (wr.alloc (.cells vs t)) U (iV n (bg (r.take k)))):=hid (fun vs t=>hUr.below ((Below.refl _ wr).alloc Nat.le.refl _) hUr.lt);generalize bg (r.take k)=ks at *;rcases hz with rfl | ⟨hk2,rfl⟩
    all_goals
     go_wp2_with (go_at_call 94;refine(har _).mono ?_;rintro e Wd ⟨rfl,rfl⟩)
     generalize hwa:wr.alloc (.cells _ 153)=wa;have hBa:Below U w wa:=hwa ▸ HBR.out _ _;have hUa:aK wa U (iV n ks):=hwa ▸ HUR.out _ _;clear hwa;go_loopw [66] (fun i wr=>∃ m:Nat,m≤x.kids.length∧i = .int .i64 m∧aK wr U (iV n (ks++x.kids.take m))∧Hid (∀ q∈x.kids.take m,0≤q∧q<(k:Int))∧Below U w wr)
      (fun i _=>x.kids.length-(intOf i).toNat)
     case atStart=>exact⟨0,Nat.zero_le _,rfl,by rw[List.take_zero,List.append_nil];exact hUa,hid (by simp),hBa⟩
     case round =>
      obtain⟨m,hm,rfl,hUi,hqs,hBi⟩:=hrel
      by_cases hml:m<x.kids.length
      ·obtain⟨q,hq⟩:∃ q,x.kids[m]?=some q:=⟨_,List.getElem?_eq_getElem hml⟩
       cases lk with
       | none=>exfalso;have:=hK1 rfl;rw[this] at hml;simp at hml
       | some ad =>
       obtain⟨B2,off2,rfl,hB2,hKc⟩:=hK2 _ rfl (by intro e;rw[e] at hml;simp at hml);have ads:B2<U:=(by rw[HU.out];exact hB2);have d0:=(hBi.cell (p:=⟨B2,off2+m,none⟩) ads).trans (hKc m q hq);have hm0:(0:Int)≤(m:Int):=(by omega);have hm1:(m:Int)<(x.kids.length:Int):=(by omega);have HTM:Hid (x.kids.take (m+1)=x.kids.take m++[q]):=hid (by rw[List.take_add_one,hq];rfl);have HQM:Hid (q∈x.kids):=hid (List.mem_of_getElem? hq);clear hq hKc hK1 hK2
       by_cases hqk:0≤q∧q<(k:Int)
       ·obtain⟨j,rfl⟩:∃ j:Nat,q=(j:Int):=⟨q.toNat,by omega⟩
        have hj:j<n:=(by omega);have hget:=mF n (ks++x.kids.take m) j hj;have e0:=hUi.at j _ hget;have fr:=hUi.frozen j;have hj0:(j:Int).toNat=j:=(by omega);have hj1:(j:Int)<(n:Int):=(by omega);have hcb:(((ks++x.kids.take m).count (j:Int):Nat):Int)≤600000000:=by
         have h1:=List.count_le_length (a:=(j:Int)) (l:=ks++x.kids.take m);have h2:=HCB.out;rw[List.length_append,List.length_take] at h1;omega
        have adt:=hid (NM n (ks++x.kids.take m) j hj);have adu:∀ cn:Int,Hid (aK (wr.setCell ⟨U,j,none⟩ (.int .i64 cn)) U ((iV n (ks++x.kids.take m)).set j cn)):=fun cn=>hid (hUi.set j cn);have HBS:∀ cn:Int,Hid (Below U w (wr.setCell ⟨U,j,none⟩ (.int .i64 cn))):=fun cn=>hid (hBi.setCell (p:=⟨U,j,none⟩) Nat.le.refl _);have HQK:=hid hqk;have hq0:(0:Int)≤(j:Int):=(by omega);have hq1:(j:Int)<(k:Int):=hqk.2;clear hget hqk;generalize hcc:(((ks++x.kids.take m).count (j:Int):Nat):Int)=cc at *;have hc0:0≤cc:=(by omega);clear hcc;go_wp2
        go_roundw
        case rel =>
         refine⟨m+1,by omega,by simp,?_,hid ?_,(HBS _).out⟩
         ·rw[HTM.out,←List.append_assoc,←adt.out];exact(adu _).out
         ·rw[HTM.out];intro y hy;rcases List.mem_append.1 hy with hy | hy
          ·exact hqs.out y hy
          ·simp at hy;subst hy;exact HQK.out
        case measure=>simp[intOf];omega
       ·have HC2:Hid (cv=2):=hid ((HNO.out (fun h=>hqk (HHO.out.1 h q HQM.out))).out)
        have hqb:q<0∨(0≤q∧(k:Int)≤q):=(by omega);clear hqk;have HBI:Hid (Below w.heap.size w wr):=hid (by rw[←HU.out];exact hBi);rcases hqb with hq0 | ⟨hq0,hq1⟩
        all_goals
         go_wp2
         exact bodyPost_ret (v := .int .i64 2) (by simp[results,Tryz.results55,go_sem]) rfl ⟨by rw[HC2.out],HBI.out⟩
      ·obtain rfl:m=x.kids.length:=by omega
       have hUd:aK wr U (iV n (bg (r.take (k+1)))):=(by rw[HT.out];rw[List.take_length] at hUi;exact hUi);have HND:Hid (iO k x):=hid (HHO.out.2 (by have:=hqs.out;rwa [List.take_length] at this));go_wp2
       go_roundw
       case rel =>
        refine⟨k+1,by omega,by simp,hUd,hid ?_,hBi⟩;intro i y hi hy
        by_cases e:i=k
        ·subst e;rw[HX.out] at hy;cases hy;exact HND.out
        ·exact hnd.out i y (by omega) hy
       case measure=>simp[intOf];omega
   ·have HC2:Hid (cv=2):=hid ((HNO.out (fun h=>hho ⟨h.k,h.low,h.high,h.cls⟩)).out)
    have HBr:Hid (∀ vs t,Below w.heap.size w (wr.alloc (.cells vs t))):=hid (fun vs t=>by rw[←HU.out];exact hB.alloc (by have:=hB.size;have:=HU.out;omega) _);have hak:∃ lo hi,lo=nV x.k∧hi=jl x.k:=⟨_,_,rfl,rfl⟩;obtain⟨lo,hi,hlo,hhi⟩:=hak;have har:=Le x.k;rw[←hlo,←hhi] at har;unfold RN at hho;rw[←hlo,←hhi] at hho;have hkv:Ae x.k=decide (1≤x.k∧x.k≤7):=(by simp[Ae]);rw[hkv] at har;clear hlo hhi hkv
    by_cases g1:1≤x.k∧x.k≤7
    ·rw[decide_eq_true g1] at har
     have H1:=hid g1
     by_cases g2:(x.kids.length:Int)<lo
     ·clear hho g1
      go_wp2_with (go_at_call 94;refine(har _).mono ?_;rintro e Wd ⟨rfl,rfl⟩)
      all_goals exact bodyPost_ret (v := .int .i64 2) (by simp[results,Tryz.results55,go_sem]) rfl ⟨by rw[HC2.out],HBr.out _ _⟩
     ·by_cases g3:hi<(x.kids.length:Int)
      ·clear hho g1
       go_wp2_with (go_at_call 94;refine(har _).mono ?_;rintro e Wd ⟨rfl,rfl⟩)
       all_goals exact bodyPost_ret (v := .int .i64 2) (by simp[results,Tryz.results55,go_sem]) rfl ⟨by rw[HC2.out],HBr.out _ _⟩
      ·have g4:x.k≠2∧¬(x.a=0∧x.b=0∧x.c=0∧x.d=0):=by
        refine⟨fun h=>hho ⟨g1,by omega,by omega,fun h'=>(h' h).elim⟩,fun h=>hho ⟨g1,by omega,by omega,fun _=>h⟩⟩
       obtain⟨g5,g6⟩:=g4;rw[decide_eq_false g6] at hneq;clear hho g1 g6;go_wp2_with (go_at_call 94;refine(har _).mono ?_;rintro e Wd ⟨rfl,rfl⟩)
       all_goals first | exact bodyPost_ret (v := .int .i64 2) (by simp[results,Tryz.results55,go_sem]) rfl ⟨by rw[HC2.out],HBr.out _ _⟩ | (exfalso;rename_i hxx;exact g5 (by have:=hxx.2;simpa using this))
    ·rw[decide_eq_false g1] at har
     clear hho g1;go_wp2_with (go_at_call 94;refine(har _).mono ?_;rintro e Wd ⟨rfl,rfl⟩)
     all_goals exact bodyPost_ret (v := .int .i64 2) (by simp[results,Tryz.results55,go_sem]) rfl ⟨by rw[HC2.out],HBr.out _ _⟩
  ·obtain rfl:k=n:=by omega
   have htk:r.take k=r:=(by rw[HNn.out,List.take_length]);rw[htk] at hUr;have hcon:=contains_k U (k-1) k (iV k (bg r)) (by rw[jU];omega) (by rw[jU];omega) wr hUr;have hm:((k:Int)-1).toNat=k-1:=(by omega);have hget:∀ j,j<k-1→(iV k (bg r))[j]?=some (((bg r).count (j:Int):Nat):Int):=fun j hj=>mF _ _ j (by omega);clear htk hnot
   by_cases hE:∃ x∈(iV k (bg r)).take (k-1),x≠1
   ·have HC2:Hid (cv=2):=hid (by
     rw[←HCV.out];refine if_neg (fun h=>?_);obtain⟨x,hx,hx1⟩:=hE;obtain⟨j,hj⟩:=List.getElem?_of_mem hx;rw[List.getElem?_take] at hj;split at hj
     ·rename_i hjk
      rw[hget j hjk] at hj;have:=h.once j (by have:=HNn.out;omega);have:=Option.some.inj hj;omega
     ·cases hj)
    rw[decide_eq_true hE] at hcon;clear hE hget;go_wp2_with (go_at_call 38;refine hcon.mono ?_;rintro e Wd ⟨rfl,rfl⟩)
    exact bodyPost_ret (v := .int .i64 2) (by simp[results,Tryz.results55,go_sem]) rfl ⟨by rw[HC2.out],by rw[←HU.out];exact hB⟩
   ·have HC2:Hid (cv=0):=hid (by
     rw[←HCV.out];refine if_pos ⟨by rw[←HNn.out];exact hn1,by rw[←HNn.out];exact hn2,fun i x hx=>hnd.out i x (by have:=lt_of_some hx;have:=HNn.out;omega) hx,fun j hj=>?_⟩;have hjk:j<k-1:=(by have:=HNn.out;omega);have h1:((((bg r).count (j:Int):Nat):Int))=1:=by
      refine Classical.byContradiction fun h1=>hE ⟨_,?_,h1⟩;refine List.mem_of_getElem? (i:=j) ?_;rw[List.getElem?_take,if_pos hjk,hget j hjk]
     omega)
    rw[decide_eq_false hE] at hcon;clear hE hget;go_wp2_with (go_at_call 38;refine hcon.mono ?_;rintro e Wd ⟨rfl,rfl⟩)
    exact bodyPost_ret (v := .int .i64 0) (by simp[results,Tryz.results55,go_sem]) rfl ⟨by rw[HC2.out],by rw[←HU.out];exact hB⟩
end
end Go.Proofs.YtkjgogdkdejljaaGreatDoor.Rx
