import Derived.Test.YtkjgogdkdejljaaGreatDoorRxW2
import Derived.Lib.ConvBytes
set_option maxRecDepth 100000
set_option maxHeartbeats 40000000
namespace Go.Proofs.YtkjgogdkdejljaaGreatDoor.Rx
section
open Go Go.Proofs Go.RowKit
attribute [local go_sem] Oper.semAt_some
theorem addr_add(B o j:Nat):(⟨B,o,none⟩:Addr).add j=⟨B,o+j,none⟩:=by unfold Addr.add;split<;>simp_all
theorem Un:(Tryz.prog.info? 4).map (fun i=>(i.zero,i.size,i.bytes))=some (some (.bool false),1,1):=by kernel_rfl
theorem Uo(W:World)(B off n c:Nat):(binOp .eql 203 (.slice (some ⟨B,off,none⟩) n c) (.slice none 0 0)).run Tryz.prog W=.ok (.bool false) W:=by kernel_rfl
theorem MO(B n c:Nat)(l:List Bool)(hl:l.length=n)(h1n:1<=n)(hn:n<=1000000)(w:World)(hB:aJ w B l):
  Calls Tryz.prog 169 #[.slice (some ⟨B,0,none⟩) n c] w fun e w'=>(∃B' c',e=.returned (.slice (some ⟨B',0,none⟩) n c')/\w.heap.size<=B'/\aJ w' B' l)/\Below w.heap.size w w':=by
 have hq:=Uo;obtain⟨ti,hi,hz0,hz1,hz2⟩:=info_parts Un;have hown:(w.alloc (.cells #[] 4)).ownsRow w.heap.size 4 1 (.slice (some ⟨w.heap.size,0,none⟩) 0 0) 0 []:=⟨rfl,.inr ⟨w.heap.size,0,#[],rfl,agq _,World.alloc_heap_new w _,agq _,by unfold maxLen;omega,rfl,rfl⟩⟩;have hB0:Below w.heap.size w (w.alloc (.cells #[] 4)):=(afI _ w).alloc afD _;have hrow1:=hB.below hB0 hB.lt;have hnews:∀j u,(l.map Value.bool)[j]?=some u->(w.alloc (.cells #[] 4)).cell? ((⟨B,0,none⟩:Addr).add j)=some u:=fun j u hj=>by
  rw[addr_add,af9];rw[af8]at hj
  cases e:l[j]? with
  | none=>rw[e]at hj;cases hj
  | some b=>rw[e]at hj;cases hj;exact hrow1.at j b e
 have hone:∀v∈l.map Value.bool,v.oneCell'=true:=fun v hv=>by
  obtain⟨b,_,rfl⟩:=agv.1 hv;rfl
 go_enter Tryz.func169,Tryz.ntmps169
 go_wp2_with (at_builtin;refine wpList_append_own _ rfl _ _ 203 rfl w.heap.size 4 ti (.bool false) 1 1 Tryz.underlying203 hi hz0 hz1 hz2 rfl (by decide) _ 0 [] rfl hown ⟨B,0,none⟩ n c (l.map Value.bool) rfl (by simp[hl]) hnews hone (by unfold maxLen;omega) (by omega) (by simp) ?_;intro v' w1 hown' hgrow _)
 have hBl:Below w.heap.size w w1:=hB0.grown hgrow (by simp) fun k hk=>(hown.lt k hk).1;rw[af9,ahq]at hown';rcases hown'.2 with ⟨rfl,h0⟩|⟨g,cap,cur,rfl,hg,hh,h1,h2,h3,h4⟩
 ·omega
 ·refine afJ (v:=.slice (some ⟨g,0,none⟩) n cap) (by simp[results,Tryz.results169,go_sem]) rfl ⟨⟨g,cap,rfl,hg,cur,hh,fun i b hb=>?_⟩,hBl⟩
  have hj:(cur.toList.take (n*1))[i]?=some (.bool b):=by rw[h4,af8,hb];rfl
  rw[ag1]at hj;split at hj
  ·simpa using hj
  ·cases hj
theorem wrap_two_pow(r:Nat)(hr:r<64):IntKind.u64.wrap ((2:Int) ^ r)=((2 ^ r:Nat):Int):=by
 have h:2 ^ r<2 ^ 64:=ahf (by decide) hr;have h:2 ^ r<18446744073709551616:=by simpa using h
 have e:((2:Int) ^ r)=((2 ^ r:Nat):Int):=by simp
 rw[e];generalize 2 ^ r=m at *;rw[IntKind.wrap_u64];omega
theorem ng(a r:Nat):a &&& 2 ^ r=if a.testBit r then 2 ^ r else 0:=by
 apply ah8;intro j;rw[ahR,ahl]
 by_cases h:r=j
 ·subst h
  cases a.testBit r<;>simp
 ·cases a.testBit r<;>simp[h]
theorem jU(a r:Nat)(ha:a<18446744073709551616)(hr:r<64):(bits .and .u64 (a:Int) (IntKind.u64.wrap ((2:Int) ^ r)) != 0)=a.testBit r:=by
 have h:2 ^ r<2 ^ 64:=ahf (by decide) hr;rw[wrap_two_pow r hr,bits_and_u64_nat a _ ha (by simpa using h),ng];have hp:0<2 ^ r:=Nat.two_pow_pos r;generalize 2 ^ r=m at hp
 cases hb:a.testBit r with
 | true=>simp;omega
 | false=>simp
structure Nd.Wd(x:Nd):Prop where
 a:x.a<18446744073709551616
 b:x.b<18446744073709551616
 c:x.c<18446744073709551616
 d:x.d<18446744073709551616
theorem acH(x:Nd)(hx:x.Wd)(b:Nat)(hb:b<256)(w:World):
  Calls Tryz.prog 125 #[.agg #[.int .u64 x.a,.int .u64 x.b,.int .u64 x.c,.int .u64 x.d],.int .u8 b] w fun e w'=>e=.returned (.bool (x.has (b:Nat)))/\Below w.heap.size w w':=by
 obtain⟨k,a0,a1,a2,a3,kids⟩:=x;obtain⟨l0,l1,l2,l3⟩:=hx;simp only at l0 l1 l2 l3;obtain⟨r,hr⟩:∃r:Nat,r=b % 64:=⟨_,rfl⟩;have jW:r<64:=by omega
 have hrm:(b:Int) % 64=(r:Nat):=by omega
 have h4:b / 64=0\/b / 64=1\/b / 64=2\/b / 64=3:=by omega
 have hB:Below w.heap.size w (w.alloc (.cells #[.int .u64 a0,.int .u64 a1,.int .u64 a2,.int .u64 a3] 116)):=(afI _ w).alloc afD _;have HH:Hid (Nd.has ⟨k,a0,a1,a2,a3,kids⟩ (b:Nat)=(if b / 64=0 then a0 else if b / 64=1 then a1 else if b / 64=2 then a2 else a3).testBit r):=Lib.hid (by subst hr;simp[Nd.has,Nd.wd]);clear hr;obtain hq|hq|hq|hq:=h4
 all_goals
  simp only[hq]at HH
 ·have hqi:(b:Int) / 64=0:=by omega
  have ho:=jU _ r l0 jW;clear hq;go_enter Tryz.func125,Tryz.ntmps125
  go_wp2
  go_ret
  exact⟨by rw[HH.out];rfl,hB⟩
 ·have hqi:(b:Int) / 64=1:=by omega
  have ho:=jU _ r l1 jW;clear hq;go_enter Tryz.func125,Tryz.ntmps125
  go_wp2
  go_ret
  exact⟨by rw[HH.out];rfl,hB⟩
 ·have hqi:(b:Int) / 64=2:=by omega
  have ho:=jU _ r l2 jW;clear hq;go_enter Tryz.func125,Tryz.ntmps125
  go_wp2
  go_ret
  exact⟨by rw[HH.out];rfl,hB⟩
 ·have hqi:(b:Int) / 64=3:=by omega
  have ho:=jU _ r l3 jW;clear hq;go_enter Tryz.func125,Tryz.ntmps125
  go_wp2
  go_ret
  exact⟨by rw[HH.out];rfl,hB⟩
theorem MP(k:Int)(w:World):Calls Tryz.prog 94 #[.int .i64 k] w fun e w'=>e=.returned (.tuple #[.int .i64 (mQ k),.int .i64 (iO k),.bool (Az k)])/\w'=w:=by
  have h8:k=1\/k=2\/k=3\/k=4\/k=5\/k=6\/k=7\/(k≠1/\k≠2/\k≠3/\k≠4/\k≠5/\k≠6/\k≠7):=by omega
  rcases h8 with rfl|rfl|rfl|rfl|rfl|rfl|rfl|⟨h1,h2,h3,h4,h5,h6,h7⟩
  all_goals
    first
      | (have e:mQ k=0/\iO k=0/\Az k=false:=⟨by simp[mQ,h1,h2,h3,h4,h5,h6,h7],by simp[iO,h1,h2,h3,h4,h5,h6,h7],by simp[Az];omega⟩
         rw[e.1,e.2.1,e.2.2];clear e)
      | skip
    go_enter Tryz.func94,Tryz.ntmps94
    go_wp2
    refine afJ (v:=.tuple #[.int .i64 _,.int .i64 _,.bool _]) (by first|(simp[results,Tryz.results94,go_sem];done)|(simp[results,Tryz.results94,go_sem];decide)) rfl ⟨rfl,rfl⟩
def IRd(W:World)(v:Value)(l:List Int):Prop:=∃(la:Option Addr)(c:Nat),v=.slice la l.length (l.length+c)/\(la=none->l=[])/\∀a,la=some a->l≠[]->∃B off,a=⟨B,off,none⟩/\B<W.heap.size/\∀i x,l[i]?=some x->W.cell? ⟨B,off+i,none⟩=some (.int .i64 x)
theorem IRd.below{n:Nat}{w w':World}{v:Value}{l:List Int}(h:IRd w v l)(hn:w.heap.size<=n)(hb:Below n w w'):IRd w' v l:=by
 obtain⟨la,c,rfl,h1,h2⟩:=h;exact⟨la,c,rfl,h1,fun a e ne=>by obtain⟨B,off,e1,e2,e3⟩:=h2 a e ne;exact⟨B,off,e1,afN e2 hb.size,fun i x hx=>(hb.cell (p:=⟨B,off+i,none⟩) (afN e2 hn)).trans (e3 i x hx)⟩⟩
theorem IRd.old{W:World}{v:Value}{l:List Int}(h:IRd W v l):∃(la:Option Addr)(c:Nat),v=.slice la l.length c/\(la=none->l=[])/\∀a,la=some a->l≠[]->∃B off,a=⟨B,off,none⟩/\B<W.heap.size/\∀i x,l[i]?=some x->W.cell? ⟨B,off+i,none⟩=some (.int .i64 x):=by
 obtain⟨la,c,h⟩:=h;exact⟨la,_,h⟩
structure XAt(W:World)(B o:Nat)(x:Nd):Prop where
 c0:W.cell? ⟨B,o,none⟩=some (.int .i64 x.k)
 c1:W.cell? ⟨B,o+1,none⟩=some (.int .u64 (x.a:Nat))
 c2:W.cell? ⟨B,o+2,none⟩=some (.int .u64 (x.b:Nat))
 c3:W.cell? ⟨B,o+3,none⟩=some (.int .u64 (x.c:Nat))
 c4:W.cell? ⟨B,o+4,none⟩=some (.int .u64 (x.d:Nat))
 c5:∃v,W.cell? ⟨B,o+5,none⟩=some v/\IRd W v x.kids
theorem XAt.below{n B o:Nat}{x:Nd}{w w':World}(h:XAt w B o x)(hn:w.heap.size<=n)(hb:Below n w w')(hB:B<n):XAt w' B o x:=
  ⟨(hb.cell (p:=⟨B,o,none⟩) hB).trans h.c0,(hb.cell (p:=⟨B,o+1,none⟩) hB).trans h.c1,(hb.cell (p:=⟨B,o+2,none⟩) hB).trans h.c2,(hb.cell (p:=⟨B,o+3,none⟩) hB).trans h.c3,(hb.cell (p:=⟨B,o+4,none⟩) hB).trans h.c4,by
    obtain⟨v,h1,h2⟩:=h.c5;exact⟨v,(hb.cell (p:=⟨B,o+5,none⟩) hB).trans h1,h2.below hn hb⟩⟩
def jB(W:World)(v:Value)(r:List Nd):Prop:=∃(la:Option Addr)(c:Nat),v=.slice la r.length c/\(la=none->r=[])/\∀a,la=some a->r≠[]->∃B off,a=⟨B,off,none⟩/\B<W.heap.size/\∀i x,r[i]?=some x->XAt W B (off+i*6) x
theorem jB.below{n:Nat}{w w':World}{v:Value}{r:List Nd}(h:jB w v r)(hn:w.heap.size<=n)(hb:Below n w w'):jB w' v r:=by
 obtain⟨la,c,rfl,h1,h2⟩:=h;exact⟨la,c,rfl,h1,fun a e ne=>by obtain⟨B,off,e1,e2,e3⟩:=h2 a e ne;exact⟨B,off,e1,afN e2 hb.size,fun i x hx=>(e3 i x hx).below hn hb (afN e2 hn)⟩⟩
def aH(W:World)(B:Nat)(l:List Int):Prop:=∃cs:Array Value,W.heap[B]?=some (.cells cs 3 (0,0))/\∀(i:Nat)(b:Int),l[i]?=some b->cs[i]?=some (.int .i64 b)
theorem aH.lt{W:World}{B:Nat}{l:List Int}(h:aH W B l):B<W.heap.size:=by obtain⟨cs,h,_⟩:=h;exact (afF.1 h).1
theorem aH.at{W:World}{B:Nat}{l:List Int}(h:aH W B l)(i:Nat)(b:Int)(hb:l[i]?=some b):W.cell? ⟨B,i,none⟩=some (.int .i64 b):=by
 obtain⟨cs,h,hc⟩:=h;simp[World.cell?,h,hc i b hb]
theorem aH.frozen{W:World}{B:Nat}{l:List Int}(h:aH W B l)(j:Nat):W.frozen? ⟨B,j,none⟩=false:=by
 obtain⟨cs,h,_⟩:=h;simp[World.frozen?,h]
theorem aH.same{W W':World}{B:Nat}{l:List Int}(h:aH W B l)(e:W'.heap[B]?=W.heap[B]?):aH W' B l:=by
 obtain⟨cs,h,hc⟩:=h;exact⟨cs,e.trans h,hc⟩
theorem aH.below{n B:Nat}{l:List Int}{w w':World}(h:aH w B l)(hb:Below n w w')(hn:B<n):aH w' B l:=h.same (hb.block _ hn)
theorem aH.set{W:World}{B:Nat}{l:List Int}(h:aH W B l)(i:Nat)(b:Int):aH (W.setCell ⟨B,i,none⟩ (.int .i64 b)) B (l.set i b):=by
 obtain⟨cs,h,hc⟩:=h;have hb:=(afF.1 h).1;refine⟨cs.setIfInBounds i (.int .i64 b),by simp[World.setCell,ahx,h],fun j c hj=>?_⟩;rw[agN];rw[agE]at hj
 by_cases e:i=j
 ·subst e
  rw[afR rfl]at hj⊢;split at hj
  ·rename_i hl
   have:=hc i l[i] (afE hl);rw[afR (afF.1 this).1,agc hj]
  ·cases hj
 ·rw[afO e]at hj⊢
  exact hc j c hj
theorem ZT(x:Int)(w:World):Calls Tryz.prog 95 #[.int .i64 x] w fun e w'=>e=.returned (.bool (x != 1))/\w'=w:=by
 go_enter Tryz.func95,Tryz.ntmps95
 go_wp2
 exact afJ (v:=.bool (x != 1)) (by simp[results,Tryz.results95,go_sem]) rfl ⟨rfl,rfl⟩
theorem E5(B n c:Nat)(l:List Int)(hn:n<=l.length)(hl:l.length<=1000000)(w:World)(hB:aH w B l):
  Calls Tryz.prog 76 #[.slice (some ⟨B,0,none⟩) n c,.func (.func 95) #[] #[]] w fun e w'=>(∃z:Int,e=.returned (.int .i64 z)/\((0<=z/\∃x∈l.take n,x≠1)\/(z = -1/\∀x∈l.take n,x=1)))/\w'=w:=by
 go_enter Tryz.func76,Tryz.ntmps76
 go_wp2
 obtain⟨wo,rfl⟩:∃wo:World,wo=w:=⟨_,rfl⟩;go_loopw [8] (fun i wr=>∃k:Nat,k<=n/\i=.int .i64 k/\Hid (∀x∈l.take k,x=1)/\wr=wo) (fun i _=>n-(RowKit.intOf i).toNat)
 case atStart=>exact⟨0,af0 _,rfl,Lib.hid (by simp),rfl⟩
 case round =>
  obtain⟨k,hk,rfl,hH,rfl⟩:=hrel
  by_cases hlt:k<n
  ·obtain⟨x,hx⟩:∃x,l[k]?=some x:=⟨_,afE (by omega)⟩
   have c0:=hB.at k x hx;have hn1:=ZT x wr;have hk0:(0:Int)<=(k:Int):=(by omega);have hk1:(k:Int)<(n:Int):=(by omega);have HT:Hid (l.take (k+1)=l.take k++[x]):=Lib.hid (by rw[ahm,hx];rfl);have HM:Hid (x∈l.take n):=Lib.hid (by rw[List.mem_take_iff_getElem];exact⟨k,by omega,by rw[afE (by omega)]at hx;exact agc hx⟩);clear hx
   by_cases h1:x=1
   ·subst h1
    rw[show ((1:Int) != 1)=false from rfl]at hn1;go_wp2_with (go_at_call 95;refine hn1.mono ?_;rintro e Wd ⟨rfl,rfl⟩)
    go_roundw
    case rel=>exact⟨k+1,by omega,by simp,Lib.hid (by rw[HT.out];intro y hy;rcases af2.1 hy with hy|hy;exact hH.out y hy;simpa using hy),by trivial⟩
    case measure=>simp[RowKit.intOf];omega
   ·have hb:(x != 1)=true:=by simpa using h1
    rw[hb]at hn1;have H1:=Lib.hid h1;clear h1 hb;go_wp2_with (go_at_call 95;refine hn1.mono ?_;rintro e Wd ⟨rfl,rfl⟩)
    exact afJ (v:=.int .i64 k) (by simp[results,Tryz.results76,go_sem]) rfl ⟨⟨k,rfl,.inl ⟨by omega,x,HM.out,H1.out⟩⟩,rfl⟩
  ·obtain rfl:k=n:=by omega
   go_wp2
   exact afJ (v:=.int .i64 (-1)) (by simp[results,Tryz.results76,go_sem]) rfl ⟨⟨-1,rfl,.inr ⟨rfl,hH.out⟩⟩,rfl⟩
open Classical in
theorem contains_k(B n c:Nat)(l:List Int)(hn:n<=l.length)(hl:l.length<=1000000)(w:World)(hB:aH w B l):
  Calls Tryz.prog 38 #[.slice (some ⟨B,0,none⟩) n c,.func (.func 95) #[] #[]] w fun e w'=>e=.returned (.bool (decide (∃x∈l.take n,x≠1)))/\w'=w:=by
 have h:=E5 B n c l hn hl w hB;go_enter Tryz.func38,Tryz.ntmps38
 go_wp2_with (go_at_call 76;refine h.mono ?_;rintro e Wd ⟨⟨z,rfl,hz⟩,rfl⟩)
 have e:decide (∃x∈l.take n,x≠1)=decide (z ≥ 0):=by
  rcases hz with ⟨h1,h2⟩|⟨h1,h2⟩
  ·rw[agL h2,agL h1]
  ·rw[agC (by rintro⟨x,hx,h3⟩;exact h3 (h2 x hx)),agC (by omega)]
 rw[e];exact afJ (v:=.bool (decide (z ≥ 0))) (by simp[results,Tryz.results38,go_sem]) rfl ⟨rfl,rfl⟩
end
section
variable {r : List Nd}
def Par(r:List Nd)(p q:Nat):Prop:=∃x,r[q]?=some x/\(p:Int)∈x.kids
inductive kT (r:List Nd):Nat->Nat->Prop
 | refl (p:Nat):kT r p p
 | up {p q i:Nat}: Par r p q->kT r q i->kT r p i
theorem iK(x:Nd)(r:List Nd):aY (x::r)=x.kids++aY r:=by simp[aY]
theorem count_le(a:Int):∀(r:List Nd)(q:Nat)(x:Nd),r[q]?=some x->x.kids.count a<=(aY r).count a
 | [],_,_,h=>by simp at h
 | y::r,0,x,h=>by
  simp at h;subst h;rw[iK,ahC];omega
 | y::r,q+1,x,h=>by
  have:=count_le a r q x (by simpa using h);rw[iK,ahC];omega
theorem wJ(a:Int):∀(r:List Nd)(q q':Nat)(x y:Nd),q<q'->r[q]?=some x->r[q']?=some y->a∈x.kids->a∈y.kids->2<=(aY r).count a
 | [],_,_,_,_,_,h,_,_,_=>by simp at h
 | z::r,0,q'+1,x,y,_,h,h',hx,hy=>by
  simp at h;subst h;have h1:=count_le a r q' y (by simpa using h');have h2:=List.count_pos_iff.2 hx;have h3:=List.count_pos_iff.2 hy;rw[iK,ahC];omega
 | z::r,q+1,q'+1,x,y,hq,h,h',hx,hy=>by
  have:=wJ a r q q' x y (by omega) (by simpa using h) (by simpa using h') hx hy;rw[iK,ahC];omega
 | z::r,q+1,0,x,y,hq,_,_,_,_=>by omega
theorem lt_of_some{α: Type}{l:List α}{i:Nat}{x: α}(h:l[i]?=some x):i<l.length:=by
 rcases ag6 i l.length with y|y
 ·exact y
 ·rw[af5 y]at h;simp at h
theorem Par.lt(ok:dL r){p q:Nat}(h:Par r p q):p<q:=by
 obtain⟨x,hx,hp⟩:=h;have:=((ok.nd q x hx).kids _ hp).2;omega
theorem Par.Zo{p q:Nat}(h:Par r p q):q<r.length:=by
 obtain⟨x,hx,_⟩:=h;exact lt_of_some hx
theorem L6(ok:dL r){p q q':Nat}(h:Par r p q)(h':Par r p q'):q=q':=by
 have l1:=h.lt ok;have l2:=h.Zo;have hc:=ok.once p (by omega);obtain⟨x,hx,hp⟩:=h;obtain⟨y,hy,hp'⟩:=h';rcases Nat.lt_trichotomy q q' with e|e|e
 ·have:=wJ _ r q q' x y e hx hy hp hp';omega
 ·exact e
 ·have:=wJ _ r q' q y x e hy hx hp' hp;omega
theorem KC(ok:dL r){i:Nat}{x:Nd}(hx:r[i]?=some x):x.kids.Nodup:=by
 rw[List.nodup_iff_count];intro a
 by_cases ha:a∈x.kids
 ·have h1:=(ok.nd i x hx).kids a ha
  have h2:=lt_of_some hx;have h3:=ok.once a.toNat (by omega);have h4:=count_le a r i x hx;rw[show ((a.toNat:Nat):Int)=a by omega]at h3;omega
 ·rw[agS ha];omega
theorem kT.le(ok:dL r){p i:Nat}(h:kT r p i):p<=i:=by
 induction h with
 | refl=>exact agq _
 | up hp _ ih=>have:=hp.lt ok;omega
theorem kT.snoc{p k i:Nat}(h:kT r p k)(hk:Par r k i):kT r p i:=by
 induction h with
 | refl=>exact .up hk (.refl _)
 | up hp _ ih=>exact .up hp (ih hk)
theorem kT.last{p i:Nat}(h:kT r p i):p=i\/∃k,Par r k i/\kT r p k:=by
 induction h with
 | refl=>exact .inl rfl
 | up hp _ ih =>
  rcases ih with rfl|⟨k,hk,hd⟩
  ·exact .inr ⟨_,hp,.refl _⟩
  ·exact .inr ⟨k,hk,.up hp hd⟩
theorem Tq(ok:dL r){p k k':Nat}(h:kT r p k)(h':kT r p k'):kT r k k'\/kT r k' k:=by
 induction h with
 | refl=>exact .inl h'
 | up hp hd ih =>
  cases h' with
  | refl=>exact .inr (.up hp hd)
  | up hp' hd' =>
   have:=L6 ok hp hp';subst this;exact ih hd'
theorem L8(ok:dL r){k k' i:Nat}(hk:Par r k i)(hk':Par r k' i)(hd:kT r k k'):k=k':=by
 cases hd with
 | refl=>rfl
 | up hp hd =>
  have:=L6 ok hp hk;subst this;have h1:=hd.le ok;have h2:=hk'.lt ok;omega
theorem KD(ok:dL r){p k k' i:Nat}(hk:Par r k i)(hk':Par r k' i)(h:kT r p k)(h':kT r p k'):k=k':=by
 rcases Tq ok h h' with x|x
 ·exact L8 ok hk hk' x
 ·exact (L8 ok hk' hk x).symm
end
section
open Go Go.Proofs Go.RowKit
attribute [local go_sem] Oper.semAt_some
open Classical in
noncomputable def eu(r:List Nd):Int:=if dL r then 0 else 2
def jk(n:Nat)(ks:List Int):List Int:=(List.range n).map fun j:Nat=>((ks.count (j:Int):Nat):Int)
theorem ku(n:Nat)(ks:List Int):(jk n ks).length=n:=by simp[jk]
theorem mP(n:Nat)(ks:List Int)(j:Nat)(hj:j<n):(jk n ks)[j]?=some ((ks.count (j:Int):Nat):Int):=by simp[jk,hj]
theorem O6(n:Nat)(ks:List Int)(j:Nat)(hj:j<n):(jk n ks).set j (((ks.count (j:Int):Nat):Int)+1)=jk n (ks++[(j:Int)]):=by
 apply agJ;intro i;rw[agE]
 by_cases hi:i<n
 ·rw[mP n (ks++[(j:Int)]) i hi,mP n ks i hi,ahC,List.count_singleton]
  by_cases e:j=i
  ·subst e;rw[afR rfl,afR (by rw[ku];exact hj),afR (by simp)];simp
  ·rw[afO e,afO (by simp;omega)];simp
 ·rw[af5 (by rw[ku];omega:(jk n (ks++[(j:Int)])).length<=i),af5 (by rw[ku];omega:(jk n ks).length<=i)]
  rw[afO (by omega)]
theorem xw(r:List Nd)(k:Nat)(x:Nd)(h:r[k]?=some x):aY (r.take (k+1))=aY (r.take k)++x.kids:=by
 rw[ahm,h,aY,ag7];simp[aY]
def Ur(x:Nd):Prop:=(1<=x.k/\x.k<=7)/\mQ x.k<=x.kids.length/\(x.kids.length:Int)<=iO x.k/\(x.k≠2->x.a=0/\x.b=0/\x.c=0/\x.d=0)
theorem WV(a b c d:Nat)(W:World):(binOp .neq 116 (.agg #[.int .u64 a,.int .u64 b,.int .u64 c,.int .u64 d]) (.agg #[.int .u64 0,.int .u64 0,.int .u64 0,.int .u64 0])).run Tryz.prog W=.ok (.bool (!decide (a=0/\b=0/\c=0/\d=0))) W:=by
 cases a<;>cases b<;>cases c<;>cases d<;>kernel_rfl
theorem info3':(Tryz.prog.info? 3).map (fun i=>(i.zero,i.size,i.bytes))=some (some (.int .i64 0),1,8):=by kernel_rfl
theorem IY(z:Value)(k i:Nat)(h:i<k):(madeCells #[z] k)[i]?=some z:=by
 simp[madeCells,h,Nat.mod_one]
theorem WW(n:Nat)(hn:n<=1000)(w:World):∃W0,(Instr.makeSlice 25 (.int .i64 n) (.int .i64 n)).run Tryz.prog w=.ok (.slice (some ⟨w.heap.size,0,none⟩) n n) W0/\aH W0 w.heap.size (jk n [])/\Below w.heap.size w W0/\W0.heap.size=w.heap.size+1:=by
 obtain⟨ti,hi,hz0,hz1,hz2⟩:=info_parts info3';have h:=run_makeSlice (P:=Tryz.prog) (w:=w) 25 3 ti (.int .i64 0) Tryz.underlying25 hi hz0 .i64 .i64 (n:Int) (n:Int) (by omega) (ah0 _) (by rw[hz1];simp;omega) (by rw[hz2];omega) (by omega);refine⟨_,by rw[afY]at h;exact h,⟨_,World.alloc_heap_new w _,fun i b hb=>?_⟩,(afI _ w).alloc afD _,by simp⟩;have hi':=lt_of_some hb;rw[ku]at hi';rw[mP n [] i hi']at hb
 show(madeCells #[Value.int .i64 0] (n*ti.size))[i]?=_
 rw[hz1,ah5];have:=IY (.int .i64 0) n i hi';simp at hb;subst hb;exact this
end
section
open Go.Lib (hid)
open Go Go.Proofs Go.RowKit
attribute [local go_sem] Oper.semAt_some
theorem yA(k:Int):iO k<=512:=by unfold iO;split<;>(try split)<;>(try split)<;>omega
theorem AY(c:Nat):∀r:List Nd,(∀x∈r,x.kids.length<=c)->(aY r).length<=r.length*c
 | [],_=>by simp[aY]
 | x::r,h=>by
  have h1:=AY c r (fun y hy=>h y (afV _ hy));have h2:=h x (afS ..);rw[iK,afP,agl,aiA,ait];omega
theorem jQ(r:List Nd)(v:Value)(hl:r.length<=1000000)(w:World)(hR:jB w v r):
  Calls Tryz.prog 55 #[v] w fun e w'=>e=.returned (.int .i64 (eu r))/\Below w.heap.size w w':=by
 obtain⟨la,c,rfl,h1,h2⟩:=hR
 by_cases hs:r.length<1\/512<r.length
 ·have HC:Hid (eu r=2):=hid (afO (fun h=>by have:=h.one;have:=h.most;omega))
  have hb:(r.length<1/\¬ 512<r.length)\/512<r.length:=by omega
  generalize eu r=cv at *;rcases hb with ⟨h0,YK⟩|YK
  ·go_enter Tryz.func55,Tryz.ntmps55
   go_wp2
   exact afJ (v:=.int .i64 2) (by simp[results,Tryz.results55,go_sem]) rfl ⟨by rw[HC.out],afI _ _⟩
  ·go_enter Tryz.func55,Tryz.ntmps55
   go_wp2
   exact afJ (v:=.int .i64 2) (by simp[results,Tryz.results55,go_sem]) rfl ⟨by rw[HC.out],afI _ _⟩
 have hn1:1<=r.length:=by omega
 have hn2:r.length<=512:=by omega
 clear hs hl
 cases la with
 | none=>have:=h1 rfl;subst this;simp at hn1
 | some ad =>
 obtain⟨B,off,rfl,hBl,hX⟩:=h2 _ rfl (by intro e;rw[e]at hn1;simp at hn1);clear h1 h2;obtain⟨n,hn⟩:=afC r.length;rw[<-hn]at hn1 hn2⊢;have HNn:=hid hn;clear hn;have hnot:∀k x,r[k]?=some x->¬iM k x->Hid (eu r=2):=fun k x hx hno=>hid (afO (fun h=>hno (h.nd k x hx)));obtain⟨W0,hmk,hU0,hB0,hS0⟩:=WW n (by omega) w;obtain⟨U,hU⟩:=afC w.heap.size;rw[<-hU]at hmk hU0 hB0 hBl;have HU:=hid hU;clear hU;have acJ:aY (r.take 0)=[]:=by simp[aY]
 generalize hcv:eu r=cv at *;have HCV:=hid hcv;clear hcv;go_enter Tryz.func55,Tryz.ntmps55
 go_wp2
 go_loopw [24] (fun i wr=>∃k:Nat,k<=n/\i=.int .i64 k/\aH wr U (jk n (aY (r.take k)))/\Hid (∀i x,i<k->r[i]?=some x->iM i x)/\Below U w wr)
  (fun i _=>n-(RowKit.intOf i).toNat)
 case atStart=>exact⟨0,af0 _,rfl,by rw[acJ];exact hU0,hid (fun i x h=>by omega),hB0⟩
 case round =>
  obtain⟨k,hk',rfl,hUr,hnd,hB⟩:=hrel
  by_cases hlt:k<n
  ·obtain⟨x,hx⟩:∃x,r[k]?=some x:=⟨_,afE (by rw[<-HNn.out];exact hlt)⟩
   obtain⟨c0,c1,c2,c3,c4,kv,c5,hIR⟩:=hX k x hx;replace c0:=(hB.cell (p:=⟨B,off+k*6,none⟩) hBl).trans c0;replace c1:=(hB.cell (p:=⟨B,off+k*6+1,none⟩) hBl).trans c1;replace c2:=(hB.cell (p:=⟨B,off+k*6+2,none⟩) hBl).trans c2;replace c3:=(hB.cell (p:=⟨B,off+k*6+3,none⟩) hBl).trans c3;replace c4:=(hB.cell (p:=⟨B,off+k*6+4,none⟩) hBl).trans c4;replace c5:=(hB.cell (p:=⟨B,off+k*6+5,none⟩) hBl).trans c5;obtain⟨lk,ck,rfl,hK1,hK2⟩:=hIR;have hk0:(0:Int)<=(k:Int):=(by omega);have hk1:(k:Int)<(n:Int):=(by omega);have hBw:B<wr.heap.size:=(by have:=hB.size;have:=HU.out;omega);have HT:=hid (xw r k x hx);have HNO:=hid (hnot k x hx);have HX:=hid hx;have hneq:=WV x.a x.b x.c x.d;clear hx hnot
   by_cases hho:Ur x
   ·obtain⟨g1,p3,p4,p5⟩:=hho
    have har:=MP x.k;rw[show Az x.k=true by simp[Az,g1]]at har;have HHO:Hid (iM k x↔∀q∈x.kids,0<=q/\q<(k:Int)):=hid ⟨fun h=>h.kids,fun h=>⟨g1,p3,p4,p5,h⟩⟩;have q3:¬(x.kids.length:Int)<mQ x.k:=(by omega);have q4:¬iO x.k<(x.kids.length:Int):=(by omega);have hz:x.k=2\/(¬x.k=2/\(!decide (x.a=0/\x.b=0/\x.c=0/\x.d=0))=false):=by
     by_cases h:x.k=2
     ·exact .inl h
     ·exact .inr ⟨h,by rw[agL (p5 h)];rfl⟩
    have HCB:Hid ((aY (r.take k)).length<=512000000):=hid (by
     have h1:=AY 512 (r.take k) (fun y hy=>by
      obtain⟨i,hi⟩:=ahv hy;rw[ag1]at hi;split at hi
      ·rename_i hik
       have:=(hnd.out i y hik hi).high;have:=yA y.k;omega
      ·cases hi)
     have h2:(r.take k).length<=512:=(by rw[agZ];omega);have h3:(r.take k).length*512<=512*512:=ah9 _ h2;omega)
    have hkl:x.kids.length<=512:=(by have:=yA x.k;omega);generalize x.k=xk at *;generalize mQ xk=lo at *;generalize iO xk=hi at *;clear p3 p4 g1 p5;generalize (!decide (x.a=0/\x.b=0/\x.c=0/\x.d=0))=zb at *;have HBR:Hid (∀vs t,Below U w (wr.alloc (.cells vs t))):=hid (fun vs t=>hB.alloc (by have:=hB.size;have:=HU.out;omega) _);have HUR:Hid (∀vs t,aH (wr.alloc (.cells vs t)) U (jk n (aY (r.take k)))):=hid (fun vs t=>hUr.below ((afI _ wr).alloc afD _) hUr.lt);generalize aY (r.take k)=ks at *;rcases hz with rfl|⟨hk2,rfl⟩
    all_goals
     go_wp2_with (go_at_call 94;refine(har _).mono ?_;rintro e Wd ⟨rfl,rfl⟩)
     generalize hwa:wr.alloc (.cells _ 153)=wa;have hBa:Below U w wa:=hwa▸ HBR.out _ _;have hUa:aH wa U (jk n ks):=hwa▸ HUR.out _ _;clear hwa;go_loopw [66] (fun i wr=>∃m:Nat,m<=x.kids.length/\i=.int .i64 m/\aH wr U (jk n (ks++x.kids.take m))/\Hid (∀q∈x.kids.take m,0<=q/\q<(k:Int))/\Below U w wr)
      (fun i _=>x.kids.length-(RowKit.intOf i).toNat)
     case atStart=>exact⟨0,af0 _,rfl,by rw[List.take_zero,aha];exact hUa,hid (by simp),hBa⟩
     case round =>
      obtain⟨m,hm,rfl,hUi,hqs,hBi⟩:=hrel
      by_cases hml:m<x.kids.length
      ·obtain⟨q,hq⟩:∃q,x.kids[m]?=some q:=⟨_,afE hml⟩
       cases lk with
       | none=>exfalso;have:=hK1 rfl;rw[this]at hml;simp at hml
       | some ad =>
       obtain⟨B2,off2,rfl,hB2,hKc⟩:=hK2 _ rfl (by intro e;rw[e]at hml;simp at hml);have aeF:B2<U:=(by rw[HU.out];exact hB2);have d0:=(hBi.cell (p:=⟨B2,off2+m,none⟩) aeF).trans (hKc m q hq);have hm0:(0:Int)<=(m:Int):=(by omega);have hm1:(m:Int)<(x.kids.length:Int):=(by omega);have HTM:Hid (x.kids.take (m+1)=x.kids.take m++[q]):=hid (by rw[ahm,hq];rfl);have HQM:Hid (q∈x.kids):=hid (af7 hq);clear hq hKc hK1 hK2
       by_cases hqk:0<=q/\q<(k:Int)
       ·obtain⟨j,rfl⟩:∃j:Nat,q=(j:Int):=⟨q.toNat,by omega⟩
        have hj:j<n:=(by omega);have hget:=mP n (ks++x.kids.take m) j hj;have e0:=hUi.at j _ hget;have fr:=hUi.frozen j;have hj0:(j:Int).toNat=j:=(by omega);have hj1:(j:Int)<(n:Int):=(by omega);have hcb:(((ks++x.kids.take m).count (j:Int):Nat):Int)<=600000000:=by
         have h1:=List.count_le_length (a:=(j:Int)) (l:=ks++x.kids.take m);have h2:=HCB.out;rw[afP,agZ]at h1;omega
        have aeG:=hid (O6 n (ks++x.kids.take m) j hj);have aeH:∀cn:Int,Hid (aH (wr.setCell ⟨U,j,none⟩ (.int .i64 cn)) U ((jk n (ks++x.kids.take m)).set j cn)):=fun cn=>hid (hUi.set j cn);have HBS:∀cn:Int,Hid (Below U w (wr.setCell ⟨U,j,none⟩ (.int .i64 cn))):=fun cn=>hid (hBi.setCell (p:=⟨U,j,none⟩) afD _);have HQK:=hid hqk;have hq0:(0:Int)<=(j:Int):=(by omega);have hq1:(j:Int)<(k:Int):=hqk.2;clear hget hqk;generalize hcc:(((ks++x.kids.take m).count (j:Int):Nat):Int)=cc at *;have hc0:0<=cc:=(by omega);clear hcc;go_wp2
        go_roundw
        case rel =>
         refine⟨m+1,by omega,by simp,?_,hid ?_,(HBS _).out⟩
         ·rw[HTM.out,<-agi,<-aeG.out];exact(aeH _).out
         ·rw[HTM.out];intro y hy;rcases af2.1 hy with hy|hy
          ·exact hqs.out y hy
          ·simp at hy;subst hy;exact HQK.out
        case measure=>simp[RowKit.intOf];omega
       ·have HC2:Hid (cv=2):=hid ((HNO.out (fun h=>hqk (HHO.out.1 h q HQM.out))).out)
        have hqb:q<0\/(0<=q/\(k:Int)<=q):=(by omega);clear hqk;have HBI:Hid (Below w.heap.size w wr):=hid (by rw[<-HU.out];exact hBi);rcases hqb with hq0|⟨hq0,hq1⟩
        all_goals
         go_wp2
         exact afJ (v:=.int .i64 2) (by simp[results,Tryz.results55,go_sem]) rfl ⟨by rw[HC2.out],HBI.out⟩
      ·obtain rfl:m=x.kids.length:=by omega
       have hUd:aH wr U (jk n (aY (r.take (k+1)))):=(by rw[HT.out];rw[agK]at hUi;exact hUi);have HND:Hid (iM k x):=hid (HHO.out.2 (by have:=hqs.out;rwa [agK]at this));go_wp2
       go_roundw
       case rel =>
        refine⟨k+1,by omega,by simp,hUd,hid ?_,hBi⟩;intro i y hi hy
        by_cases e:i=k
        ·subst e;rw[HX.out]at hy;cases hy;exact HND.out
        ·exact hnd.out i y (by omega) hy
       case measure=>simp[RowKit.intOf];omega
   ·have HC2:Hid (cv=2):=hid ((HNO.out (fun h=>hho ⟨h.k,h.low,h.high,h.cls⟩)).out)
    have HBr:Hid (∀vs t,Below w.heap.size w (wr.alloc (.cells vs t))):=hid (fun vs t=>by rw[<-HU.out];exact hB.alloc (by have:=hB.size;have:=HU.out;omega) _);have hak:∃lo hi,lo=mQ x.k/\hi=iO x.k:=⟨_,_,rfl,rfl⟩;obtain⟨lo,hi,hlo,hhi⟩:=hak;have har:=MP x.k;rw[<-hlo,<-hhi]at har;unfold Ur at hho;rw[<-hlo,<-hhi]at hho;have hkv:Az x.k=decide (1<=x.k/\x.k<=7):=(by simp[Az]);rw[hkv]at har;clear hlo hhi hkv
    by_cases g1:1<=x.k/\x.k<=7
    ·rw[agL g1]at har
     have H1:=hid g1
     by_cases g2:(x.kids.length:Int)<lo
     ·clear hho g1
      go_wp2_with (go_at_call 94;refine(har _).mono ?_;rintro e Wd ⟨rfl,rfl⟩)
      all_goals exact afJ (v:=.int .i64 2) (by simp[results,Tryz.results55,go_sem]) rfl ⟨by rw[HC2.out],HBr.out _ _⟩
     ·by_cases g3:hi<(x.kids.length:Int)
      ·clear hho g1
       go_wp2_with (go_at_call 94;refine(har _).mono ?_;rintro e Wd ⟨rfl,rfl⟩)
       all_goals exact afJ (v:=.int .i64 2) (by simp[results,Tryz.results55,go_sem]) rfl ⟨by rw[HC2.out],HBr.out _ _⟩
      ·have g4:x.k≠2/\¬(x.a=0/\x.b=0/\x.c=0/\x.d=0):=by
        refine⟨fun h=>hho ⟨g1,by omega,by omega,fun h'=>(h' h).elim⟩,fun h=>hho ⟨g1,by omega,by omega,fun _=>h⟩⟩
       obtain⟨g5,g6⟩:=g4;rw[agC g6]at hneq;clear hho g1 g6;go_wp2_with (go_at_call 94;refine(har _).mono ?_;rintro e Wd ⟨rfl,rfl⟩)
       all_goals first|exact afJ (v:=.int .i64 2) (by simp[results,Tryz.results55,go_sem]) rfl ⟨by rw[HC2.out],HBr.out _ _⟩|(exfalso;rename_i hxx;exact g5 (by have:=hxx.2;simpa using this))
    ·rw[agC g1]at har
     clear hho g1;go_wp2_with (go_at_call 94;refine(har _).mono ?_;rintro e Wd ⟨rfl,rfl⟩)
     all_goals exact afJ (v:=.int .i64 2) (by simp[results,Tryz.results55,go_sem]) rfl ⟨by rw[HC2.out],HBr.out _ _⟩
  ·obtain rfl:k=n:=by omega
   have htk:r.take k=r:=(by rw[HNn.out,agK]);rw[htk]at hUr;have hcon:=contains_k U (k-1) k (jk k (aY r)) (by rw[ku];omega) (by rw[ku];omega) wr hUr;have hm:((k:Int)-1).toNat=k-1:=(by omega);have hget:∀j,j<k-1->(jk k (aY r))[j]?=some (((aY r).count (j:Int):Nat):Int):=fun j hj=>mP _ _ j (by omega);clear htk hnot
   by_cases hE:∃x∈(jk k (aY r)).take (k-1),x≠1
   ·have HC2:Hid (cv=2):=hid (by
     rw[<-HCV.out];refine afO (fun h=>?_);obtain⟨x,hx,hx1⟩:=hE;obtain⟨j,hj⟩:=ahv hx;rw[ag1]at hj;split at hj
     ·rename_i hjk
      rw[hget j hjk]at hj;have:=h.once j (by have:=HNn.out;omega);have:=agc hj;omega
     ·cases hj)
    rw[agL hE]at hcon;clear hE hget;go_wp2_with (go_at_call 38;refine hcon.mono ?_;rintro e Wd ⟨rfl,rfl⟩)
    exact afJ (v:=.int .i64 2) (by simp[results,Tryz.results55,go_sem]) rfl ⟨by rw[HC2.out],by rw[<-HU.out];exact hB⟩
   ·have HC2:Hid (cv=0):=hid (by
     rw[<-HCV.out];refine afR ⟨by rw[<-HNn.out];exact hn1,by rw[<-HNn.out];exact hn2,fun i x hx=>hnd.out i x (by have:=lt_of_some hx;have:=HNn.out;omega) hx,fun j hj=>?_⟩;have hjk:j<k-1:=(by have:=HNn.out;omega);have h1:((((aY r).count (j:Int):Nat):Int))=1:=by
      refine agj fun h1=>hE ⟨_,?_,h1⟩;refine af7 (i:=j) ?_;rw[ag1,afR hjk,hget j hjk]
     omega)
    rw[agC hE]at hcon;clear hE hget;go_wp2_with (go_at_call 38;refine hcon.mono ?_;rintro e Wd ⟨rfl,rfl⟩)
    exact afJ (v:=.int .i64 0) (by simp[results,Tryz.results55,go_sem]) rfl ⟨by rw[HC2.out],by rw[<-HU.out];exact hB⟩
end
end Go.Proofs.YtkjgogdkdejljaaGreatDoor.Rx
