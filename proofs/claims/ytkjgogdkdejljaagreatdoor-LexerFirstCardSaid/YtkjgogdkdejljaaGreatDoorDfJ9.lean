import Derived.Test.YtkjgogdkdejljaaGreatDoorLxL30
set_option maxRecDepth 100000
set_option maxHeartbeats 40000000
namespace Go.Proofs.YtkjgogdkdejljaaGreatDoor.Lx
open Go Go.Proofs Go.RowKit
attribute [local go_sem] Oper.semAt_some
theorem DI:∀(l:List Tk)(i:Nat)(h:i<l.length)(j:Nat)(v:Value),(kR l[i])[j]?=some v->(l.flatMap kR)[i*5+j]?=some v
 | x::l,0,_,j,v,hv=>by
  have hj:j<(kR x).length:=(afW.1 hv).1;rw[agG,aia,af9,af6 hj];exact hv
 | x::l,i+1,h,j,v,hv=>by
  rw[agG,aga (by rw[Ie];omega),Ie,show(i+1)*5+j-5=i*5+j by omega];exact DI l i (by simpa using h) j v (by simpa using hv)
theorem DJ{w:World}{base g n cap:Nat}{l:List Tk}(h:w.ownsRow base 42 5 (.slice (some ⟨g,0,none⟩) n cap) n (l.flatMap kR)){i:Nat}(hi:i<l.length):w.cell? ⟨g,i*5,none⟩=some (.int .i64 l[i].k)/\w.cell? ⟨g,i*5+1,none⟩=some (.int .i64 l[i].f)/\w.cell? ⟨g,i*5+2,none⟩=some (.int .i64 l[i].a)/\w.cell? ⟨g,i*5+3,none⟩=some (.int .i64 l[i].t)/\w.cell? ⟨g,i*5+4,none⟩=some (.int .i64 l[i].e):=by
 have H:∀j v,(kR l[i])[j]?=some v->w.cell? ⟨g,i*5+j,none⟩=some v:=fun j v hv=>by
  have:=h.cells (g:=g) rfl (i*5+j) v (DI l i hi j v hv)
  rwa [qZ,af9]at this
 exact⟨H 0 _ rfl,H 1 _ rfl,H 2 _ rfl,H 3 _ rfl,H 4 _ rfl⟩
theorem Yj(l:List Tk)(hl:l.length<=1000000)(w:World)(ba bb ga gb ca cb:Nat)(hA:w.ownsRow ba 42 5 (.slice (some ⟨ga,0,none⟩) l.length ca) l.length (l.flatMap kR))(hB:w.ownsRow bb 42 5 (.slice (some ⟨gb,0,none⟩) l.length cb) l.length (l.flatMap kR)):
  Calls Tryz.prog 26 #[.slice (some ⟨ga,0,none⟩) l.length ca,.slice (some ⟨gb,0,none⟩) l.length cb] w fun e w'=>e=.returned (.bool true)/\Below w.heap.size w w':=by
 have hga:=(hA.lt ga rfl).2;have hgb:=(hB.lt gb rfl).2;have hcA:=fun i (hi:i<l.length)=>DJ hA hi;have hcB:=fun i (hi:i<l.length)=>DJ hB hi;clear hA hB;go_enter Tryz.func26,Tryz.ntmps26
 go_wp2
 obtain⟨wo,rfl⟩:∃wo:World,wo=w:=⟨_,rfl⟩;go_loopw [5] (fun vi wr=>∃i:Nat,vi=.int .i64 i/\i<=l.length/\Below wo.heap.size wo wr) (fun vi _=>l.length-(RowKit.intOf vi).toNat)
 case atStart=>exact⟨0,rfl,af0 _,afI _ _⟩
 case round =>
  obtain⟨i,rfl,hi,hb⟩:=hrel;rcases Nat.lt_or_eq_of_le hi with hlt|rfl
  ·obtain⟨a0,a1,a2,a3,a4⟩:=hcA i hlt
   obtain⟨b0,b1,b2,b3,b4⟩:=hcB i hlt;have a0:=(hb.cell (p:=⟨ga,i*5,none⟩) hga).trans a0;have a1:=(hb.cell (p:=⟨ga,i*5+1,none⟩) hga).trans a1;have a2:=(hb.cell (p:=⟨ga,i*5+2,none⟩) hga).trans a2;have a3:=(hb.cell (p:=⟨ga,i*5+3,none⟩) hga).trans a3;have a4:=(hb.cell (p:=⟨ga,i*5+4,none⟩) hga).trans a4;have b0:=(hb.cell (p:=⟨gb,i*5,none⟩) hgb).trans b0;have b1:=(hb.cell (p:=⟨gb,i*5+1,none⟩) hgb).trans b1;have b2:=(hb.cell (p:=⟨gb,i*5+2,none⟩) hgb).trans b2;have b3:=(hb.cell (p:=⟨gb,i*5+3,none⟩) hgb).trans b3;have b4:=(hb.cell (p:=⟨gb,i*5+4,none⟩) hgb).trans b4;generalize l[i]=t at *;have i0:(0:Int)<=(i:Int):=(by omega);have i1:(i:Int)<(l.length:Int):=(by omega);clear hcA hcB;go_wp2
   go_region
   have hbd:=hb.drew;generalize wr.drew=W2 at *;clear a0 a1 a2 a3 a4 b0 b1 b2 b3 b4;go_wp2
   go_roundw
   case rel=>exact⟨i+1,by go_num,by omega,hbd⟩
   case measure=>simp[RowKit.intOf];omega
  ·go_wp2
   go_ret
   exact⟨rfl,hb⟩
end Go.Proofs.YtkjgogdkdejljaaGreatDoor.Lx
namespace Go.Proofs.YtkjgogdkdejljaaGreatDoor.Df
open Go Go.Proofs Go.RowKit
attribute [local go_sem] Oper.semAt_some
theorem Yi(w:World):Calls Tryz.prog 27 #[] w fun e w'=>(∃g,e=.returned (.slice (some ⟨g,0,none⟩) 2 2)/\yX w' (some ⟨g,0,none⟩) exR)/\Below w.heap.size w w':=by
 have hx:=Bx.new w 35 #[.string ⟨#[119,111,114,100]⟩,.string exW,.bool false,.string ⟨#[103,97,112]⟩,.string exG,.bool true];have hb:=(afI w.heap.size w).alloc afD (.cells #[.string ⟨#[119,111,114,100]⟩,.string exW,.bool false,.string ⟨#[103,97,112]⟩,.string exG,.bool true] 35);have hR:yX (w.alloc (.cells #[.string ⟨#[119,111,114,100]⟩,.string exW,.bool false,.string ⟨#[103,97,112]⟩,.string exG,.bool true] 35)) (some ⟨w.heap.size,0,none⟩) exR:=fun i x h=>by
  refine⟨w.heap.size,0,rfl,hx.lt,?_⟩
  match i with
  | 0=>cases h;exact⟨hx.cell 0,hx.cell 1,hx.cell 2⟩
  | 1=>cases h;exact⟨hx.cell 3,hx.cell 4,hx.cell 5⟩
  | i+2=>cases h
 have HR:=Lib.hid hR;have HB:=Lib.hid hb;clear hx hb hR;go_enter Tryz.func27,Tryz.ntmps27
 go_wp2_with fail
 exact afJ (v:=.slice (some ⟨w.heap.size,0,none⟩) 2 2) (by simp[results,Tryz.results27,go_sem]) rfl ⟨⟨_,rfl,HR.out⟩,HB.out⟩
def Gh(w:World)(e:Ending)(w':World):Prop:=Below w.heap.size w w'/\∃an ar ak cn cr ck,e=.returned (.tuple #[.agg #[.slice an (lF exR exT exS).1.length cn,.slice ar (lF exR exT exS).2.length cr,.slice ak 2 ck,.int .i64 1],.int .i64 2,.int .i64 0]) /\
 aH w' an (lF exR exT exS).1/\aH w' ar (lF exR exT exS).2/\aH w' ak [0,-1]
theorem CG:∀x∈exR,x.re.size<=254:=fun x hx=>by
 rcases afX.1 hx with rfl|hx
 ·decide
 ·rw[afK.1 hx];decide
theorem Qc(w:World)(g:Nat)(hp:0<w.heap.size)(hT:TabAt w)(hR:yX w (some ⟨g,0,none⟩) exR):Calls Tryz.prog 11 #[.slice (some ⟨g,0,none⟩) 2 2] w (Gh w):=
 (CJ exR CG (by decide) (some ⟨g,0,none⟩) 2 w hp hT hR).mono fun e w' h=>by
  obtain⟨hb,⟨_,_,_,h1,_⟩|⟨tss,T,an,ar,ak,cn,cr,ck,h1,h2,h3,h4,h5⟩⟩:=h
  ·exact absurd Jp (h1 _ _)
  ·obtain⟨rfl,rfl⟩:=UY h1
   exact⟨hb,an,ar,ak,cn,cr,ck,h2,h3,h4,h5⟩
def Bf:List Lx.Tk:=[⟨0,0,0,1,2⟩,⟨0,1,2,3,4⟩,⟨-2,3,3,3,4⟩]
theorem Qd{W:World}{base:Nat}{e:TypeId}{k:Nat}{v:Value}{n:Nat}{xs:List Value}(h:W.ownsRow base e k v n xs)(hn:n≠0):∃g c,v=.slice (some ⟨g,0,none⟩) n c:=by
 rcases h.2 with ⟨_,h0⟩|⟨g,cap,cur,e,_⟩
 ·exact absurd h0 hn
 ·exact⟨g,cap,e⟩
theorem Qe(w:World)(hp:0<w.heap.size)(hT:TabAt w):Calls Tryz.prog 9 #[] w fun e w'=>e=.returned (.bool true)/\Below w.heap.size w w':=by
 have h27:=Yi w;have Qg:=fun(W:World)(hb:Below w.heap.size w W)(g:Nat) hR=>Qc W g (afN hp hb.size) (hT.below hb hp) hR;unfold Gh at Qg;have hok:=(Ee Jp CG (by decide)).2;rw[aaD]at hok;have hrow:=Yh;obtain⟨next,hnext⟩:=afC ((lF exR exT exS).1)
 obtain⟨rule,lW⟩:=afC ((lF exR exT exS).2);rw[<-hnext,<-lW]at Qg hok hrow;clear hnext lW;have hok2:=hok;unfold Lx.okL Lx.okT at hok2;simp only[afU,afZ]at hok2;obtain⟨⟨_,r5,n5,_⟩,_⟩:=hok2;have hall:=fun (W:World) an ar ak cn cr ck (h1:aH W an next) (h2:aH W ar rule) (h3:aH W ak [0,-1])=>Lx.all_in (w:=W) (cn:=cn) (cr:=cr) (ck:=ck) (by omega) (by omega) (by decide) h1 h2 h3 ⟨#[97,32,98]⟩ (by decide) hok;have hrow2:Lx.jc next rule [0,-1] (Lx.sb ⟨#[97,32,98]⟩) 0=Bf:=hrow
 rw[hrow2]at hall;obtain⟨nl,hnl⟩:=afC next.length
 obtain⟨rl,hrl⟩:=afC rule.length;rw[<-hnl,<-hrl]at Qg;unfold Lx.lV at hall;rw[<-hnl,<-hrl]at hall;have hb0:=afI w.heap.size w;clear hrow hrow2 hok hnl hrl r5 n5 hT;go_enter Tryz.func9,Tryz.ntmps9
 go_upto_region 2 with (first
  | (go_at_call 27;((with_reducible refine h27.mono ?_);rintro e W1 ⟨⟨g,rfl,hR⟩,hb1⟩))
  | (go_at_call 11;((with_reducible refine (Qg _ hb1 g hR).mono ?_);rintro e W2 ⟨hb2,an,ar,ak,cn,cr,ck,rfl,hN,hRu,hK⟩;have xN:=Bx.new W2 29 #[.slice none 0 0,.slice none 0 0,.slice none 0 0,.int .i64 0]))
  | ((with_reducible refine bJ ?_);refine AX.aj (vs:=[.slice an nl cn,.slice ar rl cr,.slice ak 2 ck,.int .i64 1]) rfl rfl Gi xN rfl rfl ?_;rintro W3 g3 g4 g5))
 have x3:Bx W3 W2.heap.size 29 #[.slice an nl cn,.slice ar rl cr,.slice ak 2 ck,.int .i64 1]:=g3;have xI:Below W2.heap.size W2 W3:=((afI W2.heap.size W2).alloc afD _).trans (AX.ah afD (.inl x3.lt) g4 g5);have hb3:Below w.heap.size w W3:=(hb1.trans (hb2.mono hb1.size)).trans (xI.mono (agb hb1.size hb2.size));have l0:=x3.cell 0;have l1:=x3.cell 1;have l2:=x3.cell 2;have l3:=x3.cell 3;have hal:Calls Tryz.prog 16 #[.agg #[.slice an nl cn,.slice ar rl cr,.slice ak 2 ck,.int .i64 1],.string ⟨#[97,32,98]⟩] W3 _:=hall W3 an ar ak cn cr ck (hN.below xI afD) (hRu.below xI afD) (hK.below xI afD);have HX3:=Lib.hid x3;obtain⟨NB,hNB⟩:=afC W2.heap.size;rw[<-hNB]at l0 l1 l2 l3 HX3⊢;clear hNB hb1 hb2 xI xN g3 g4 g5 x3 hN hRu hK Qg hall h27 hR;go_upto_region 3 with (go_at_call 16;((with_reducible refine hal.mono ?_);rintro e W4 ⟨⟨v,rfl,hv⟩,hb4⟩))
 obtain⟨gv,cv,rfl⟩:=Qd hv (show Bf.length≠0 by decide);have k3:W4.cell? ⟨NB,2+1,none⟩=some (.int .i64 1):=(hb4.cell (p:=⟨NB,2+1,none⟩) HX3.out.lt).trans l3;have k3':W4.cell? ⟨NB,3,none⟩=some (.int .i64 1):=k3;have aaE:=Bx.new W4 42 (Bf.flatMap Lx.kR).toArray;have hb5:=(afI W4.heap.size W4).alloc afD (.cells (Bf.flatMap Lx.kR).toArray 42);have hA5:=aZ hv hb5;have hB5:(W4.alloc (.cells (Bf.flatMap Lx.kR).toArray 42)).ownsRow W4.heap.size 42 5 (.slice (some ⟨W4.heap.size,0,none⟩) Bf.length 3) Bf.length (Bf.flatMap Lx.kR):=
  ⟨rfl,.inr ⟨W4.heap.size,3,_,rfl,agq _,aaE,by decide,by decide,rfl,rfl⟩⟩
 have hsm:=Lx.Yj Bf (by decide) _ _ _ _ _ _ _ hA5 hB5;have HB4:=Lib.hid (hb3.trans (hb4.mono hb3.size));have HB5:=Lib.hid hb5;clear aaE hb5 hA5 hB5 hv hal hb4 hb3 k3;have hsm:Calls Tryz.prog 26 #[.slice (some ⟨gv,0,none⟩) 3 cv,.slice (some ⟨W4.heap.size,0,none⟩) 3 3] (W4.alloc (.cells #[.int .i64 0,.int .i64 0,.int .i64 0,.int .i64 1,.int .i64 2,.int .i64 0,.int .i64 1,.int .i64 2,.int .i64 3,.int .i64 4,.int .i64 (-2),.int .i64 3,.int .i64 3,.int .i64 3,.int .i64 4] 42)) _:=hsm;rw[show Bf.length=3 from rfl];go_wp2_with (go_at_call 26;((with_reducible refine hsm.mono ?_);rintro e W6 ⟨rfl,hb6⟩))
 have hb7:=HB4.out.trans ((HB5.out.mono HB4.out.size).trans (hb6.mono (agb HB4.out.size HB5.out.size)));exact afJ (v:=.bool true) (by simp[results,Tryz.results9,go_sem]) rfl ⟨rfl,hb7⟩
end Go.Proofs.YtkjgogdkdejljaaGreatDoor.Df
namespace Go.Proofs.YtkjgogdkdejljaaGreatDoor.Lx
open Go Go.Proofs Go.RowKit
attribute [local go_sem] Oper.semAt_some
section
variable {next rule kind : List Int} {kinds : Int} {an ar ak : Option Addr} {cn cr ck : Nat} {w : World}
theorem aJ.below{n₀ B:Nat}{v:Value}{l:List Nat}{w w':World}(h:aJ w B v l)(hb:Below n₀ w w')(hl:w.heap.size<=n₀):aJ w' B v l:=by
 refine⟨h.1,?_⟩;rcases h.2 with hn|⟨g,cap,cur,rfl,hg,hh,rest⟩
 ·exact .inl hn
 ·exact .inr ⟨g,cap,cur,rfl,hg,(hb.block g (afN (afF.1 hh).1 hl)).trans hh,rest⟩
end
end Go.Proofs.YtkjgogdkdejljaaGreatDoor.Lx
namespace Go.Proofs.YtkjgogdkdejljaaGreatDoor.Df
section
open Go Go.Proofs Go.RowKit
theorem YC(a b:ByteArray):Lx.sb (a++b)=Lx.sb a++Lx.sb b:=by
 unfold Lx.sb;rw[ByteArray.data_append,Array.toList_append,agt]
section
variable {next rule kind : List Int} {kinds : Int} {an ar ak : Option Addr} {cn cr ck : Nat} {W : World}
theorem ads(hok:Lx.okL next rule kind kinds=true)(hn:next.length<=1000000)(hr:rule.length<=1000000)(hk:kind.length<=1000000)(hN:aH W an next)(hR:aH W ar rule)(hK:aH W ak kind)(s:ByteArray)(i:Nat)(hs:s.size<=1000000)(hi:i<=s.size)(x:Lx.Tk)(hx:Lx.dZ next rule kind (Lx.sb s) i=x):
  Calls Tryz.prog 20 #[.agg #[.slice an next.length cn,.slice ar rule.length cr,.slice ak kind.length ck,.int .i64 kinds],.string s,.int .i64 (i:Int)] W fun e w'=>e=.returned (.tuple #[.agg #[.int .i64 x.k,.int .i64 x.f,.int .i64 x.a,.int .i64 x.t,.int .i64 x.e],.int .i64 0])/\Below W.heap.size W w':=
 (Lx.YD (kinds:=kinds) (cn:=cn) (cr:=cr) (ck:=ck) hn hr hk hN hR hK s (i:Int) hs).mono fun e w' ⟨h,hb⟩=>⟨by
  rw[h];unfold Lx.QH;rw[afR ⟨hok,by omega,by omega⟩,afY,hx];rfl,hb⟩
end
def dR:Nat->List Int->List MapEntry
 | _,[]=>[]
 | o,k::T=>{key:=.int .i64 k,val:=.int .i64 1,born:=o}::dR (o+1) T
theorem zM:∀(o:Nat)(T:List Int)(k:Int),dR o (T++[k])=dR o T++[{key:=.int .i64 k,val:=.int .i64 1,born:=o+T.length}]
 | o,[],k=>by simp[dR]
 | o,u::T,k=>by
  show _::dR (o+1) (T++[k])=_::(dR (o+1) T++_)
  rw[zM (o+1) T k,agl,show o+1+T.length=o+(T.length+1)by omega]
theorem vV:∀(o:Nat)(T:List Int)(j:Nat)(e:MapEntry),(dR o T)[j]?=some e->∃k,T[j]?=some k/\e.key=.int .i64 k/\e.val=.int .i64 1
 | _,[],j,e,h=>by simp[dR]at h
 | o,k::T,0,e,h=>by
  simp[dR]at h;subst h;exact⟨k,rfl,rfl,rfl⟩
 | o,k::T,j+1,e,h=>by
  simp only[dR,ahE]at h;obtain⟨u,h1,h2,h3⟩:=vV (o+1) T j e h;exact⟨u,by simpa using h1,h2,h3⟩
theorem Oa{T:List Int}{k:Int}(h:k∈T):∃e∈dR 0 T,e.key=.int .i64 k:=by
 have:∀(o:Nat)(T:List Int),k∈T->∃e∈dR o T,e.key=.int .i64 k:=by
  intro o T
  induction T generalizing o with
  | nil=>intro h;cases h
  | cons u T ih =>
   intro h;rcases afX.1 h with rfl|h
   ·exact⟨_,afS ..,rfl⟩
   ·obtain⟨e,he,h2⟩:=ih (o+1) h
    exact⟨e,afV _ he,h2⟩
 exact this 0 T h
theorem Xv{W:World}{T:List Int}{k:Int}(hn:T.Nodup):(Instr.findKey 3 (.int .i64 k) (dR 0 T)).run Tryz.prog W=.ok (if fx T k<T.length then some (fx T k,.int .i64 1)else none) W:=by
 have hd:Tryz.prog.underlying 3=some (.int .i64):=Tryz.underlying3;have hkk:MapKept.IsKey (.int .i64) (Value.int .i64 k):=rfl;have hks:∀x∈dR 0 T,MapKept.IsKey (.int .i64) x.key:=fun x hx=>by
  obtain⟨j,hj⟩:=ahv hx;obtain⟨u,_,e,_⟩:=vV 0 T j x hj;rw[e];rfl
 rcases MapKept.findNow_spec hkk (dR 0 T) 0 hks with ⟨h1,h2⟩|⟨j,e,h1,h2,h3⟩
 ·have hno:k∉T:=fun h=>by
   obtain⟨e,he,h3⟩:=Oa h;exact h2 e he h3
  have:¬fx T k<T.length:=fun h=>by
   unfold fx at h;have:=ag4 (w:=h);simp only[ahe]at this;exact hno (this▸ agu h)
  rw[afO this];exact MapKept.run_findKey hd h1
 ·obtain⟨u,h4,h5,h6⟩:=vV 0 T j e h2
  have hu:u=k:=by
   have:=h5.symm.trans h3;exact (Value.int.inj this).2
  subst hu;obtain⟨hj,hju⟩:=afW.1 h4;have hlt:fx T u<T.length:=agT ⟨u,af7 h4,by simp⟩;have hfj:fx T u=j:=by
   have h7:T[fx T u]=u:=by
    have:=ag4 (w:=hlt);simp only[ahe]at this;exact this
   exact (aib hn).1 (h7.trans hju.symm)
  rw[afR hlt,hfj];have:=MapKept.run_findKey hd h1 (w:=W)
  simpa[h6]using this
theorem aa5{W:World}{r:Nat}{T:List Int}{c:Nat}{k:Int}(hb:W.heap[r]?=some (.map (dR 0 T).toArray c))(hn:T.Nodup):
  (Instr.lookup 100 (.map (some r)) (.int .i64 k) false).run Tryz.prog W=.ok (.int .i64 (if fx T k<T.length then 1 else 0)) W:=by
 have hm:Tryz.prog.underlying 100=some (.map 3 3):=Tryz.underlying100;have hd:Tryz.prog.underlying 3=some (.int .i64):=Tryz.underlying3;have hc:(Instr.checkKey (dR 0 T).toArray.isEmpty 10000 3 (.int .i64 k)).run Tryz.prog W=.ok () W:=MapKept.run_checkKey hd (k:=.int .i64 k) rfl _ 9999;have hf:=Xv (W:=W) (k:=k) hn;have hz:=Tryz.zeroValue3
 by_cases h:fx T k<T.length
 ·rw[afR h]at hf
  rw[afR h];simp only[Instr.lookup,Sem.run_bind,run_underlying hm,Result.andThen_ok,MapKept.run_getObj_map hb,Sem.run_pure,hc,hf];rfl
 ·rw[afO h]at hf
  rw[afO h];simp only[Instr.lookup,Sem.run_bind,run_underlying hm,Result.andThen_ok,MapKept.run_getObj_map hb,Sem.run_pure,hc,hf,hz];rfl
theorem aa6{W:World}{r:Nat}{T:List Int}{k:Int}(hb:W.heap[r]?=some (.map (dR 0 T).toArray T.length))(hn:T.Nodup)(hno:¬fx T k<T.length):
  ∃W',(Instr.mapUpdate 100 (.map (some r)) (.int .i64 k) (.int .i64 1)).run Tryz.prog W=.ok () W'/\W'.heap[r]?=some (.map (dR 0 (T++[k])).toArray (T++[k]).length)/\AX.But r W W':=by
 have hm:Tryz.prog.underlying 100=some (.map 3 3):=Tryz.underlying100;have hd:Tryz.prog.underlying 3=some (.int .i64):=Tryz.underlying3;have hf:=Xv (W:=W) (k:=k) hn;rw[afO hno]at hf;have hc:(Instr.checkKey false 10000 3 (.int .i64 k)).run Tryz.prog W=.ok () W:=MapKept.run_checkKey hd (k:=.int .i64 k) rfl _ 9999;have hx:((dR 0 T).toArray.push {key:=.int .i64 k,val:=.int .i64 1,born:=T.length})=(dR 0 (T++[k])).toArray:=by
  rw[zM,af9];simp
 refine⟨{W with heap:=W.heap.setIfInBounds r (.map ((dR 0 T).toArray.push {key:=.int .i64 k,val:=.int .i64 1,born:=T.length}) (T.length+1))},?_,?_,⟨⟨rfl,rfl,rfl,by simp,fun j hj=>absurd hj (agp _)⟩,fun j hj hne=>(MapKept.heap_set hb).2 j hne⟩⟩
 ·simp only[Instr.mapUpdate,Sem.run_bind,run_underlying hm,Result.andThen_ok,MapKept.run_getObj_map hb,hc,hf,MapKept.run_setObj_map _ hb]
 ·rw[<-hx,afP]
  exact (MapKept.heap_set hb).1
section
variable {ops : Array Oper} {rest : List Oper} {a : Act} {w : World} {Q : Exit -> Act -> World -> Prop} {dst : Option Tmp} {ty : TypeId} {pos : String} {after : Array Edge} {xm xk xv : Operand}
theorem YO(h:wpList Tryz.prog ops Q ({dst:=dst,op:=.insert 100 xm xk xv,type:=ty,pos:=pos,after:=after,guard:=none}::rest) a w):wpList Tryz.prog ops Q ({dst:=dst,op:=.insert 100 xm xk xv,type:=ty,pos:=pos,after:=after,guard:=none}::rest) a w:=h
theorem GV{r:Nat}{T:List Int}{k:Int}(hm:a.eval xm=.map (some r))(hk:a.eval xk=.int .i64 k)(hv:a.eval xv=.int .i64 1)(hb:w.heap[r]?=some (.map (dR 0 T).toArray T.length))(hn:T.Nodup)(hno:¬fx T k<T.length)
  (h:∀W',W'.heap[r]?=some (.map (dR 0 (T++[k])).toArray (T++[k]).length)->AX.But r w W'->wpList Tryz.prog ops Q rest a W'):wpList Tryz.prog ops Q ({dst:=none,op:=.insert 100 xm xk xv,type:=ty,pos:=pos,after:=after,guard:=none}::rest) a w:=by
 obtain⟨W',hr,h1,h2⟩:=aa6 hb hn hno;refine wpList_plain rfl fun K hK=>?_;have hx:(execOp a.eval {dst:=none,op:=.insert 100 xm xk xv,type:=ty,pos:=pos,after:=after,guard:=none}).run Tryz.prog w=.ok .skip W':=by
  simp only[execOp,hm,hk,hv,Sem.run_bind,hr];rfl
 unfold Oper.wp;rw[hx];exact hK _ _ (h _ h1 h2)
theorem GX{r:Nat}{T:List Int}{k:Int}(hm:a.eval xm=.map (some r))(hk:a.eval xk=.int .i64 k)(hv:a.eval xv=.int .i64 1)(hb:w.heap[r]?=some (.map (dR 0 T).toArray T.length))(hn:T.Nodup)(hno:¬fx T k<T.length)
  (h:∀W',W'.heap[r]?=some (.map (dR 0 (T++[k])).toArray (T++[k]).length)->AX.But r w W'->wpList Tryz.prog ops Q rest a W'):wpList Tryz.prog ops Q ({dst:=none,op:=.mapUpdate 100 xm xk xv,type:=ty,pos:=pos,after:=after,guard:=none}::rest) a w:=by
 obtain⟨W',hr,h1,h2⟩:=aa6 hb hn hno;refine wpList_plain rfl fun K hK=>?_;have hx:(execOp a.eval {dst:=none,op:=.mapUpdate 100 xm xk xv,type:=ty,pos:=pos,after:=after,guard:=none}).run Tryz.prog w=.ok .skip W':=by
  simp only[execOp,hm,hk,hv,Sem.run_bind,hr];rfl
 unfold Oper.wp;rw[hx];exact hK _ _ (h _ h1 h2)
end
def BG(p:Nat×ByteArray):List Value:=[.int .i64 (p.1:Int),.int .i64 0,.string p.2]
theorem GY(p:Nat×ByteArray):(BG p).length=3:=rfl
theorem Vo:(Tryz.prog.info? 104).map (fun i=>(i.zero,i.size,i.bytes))=some (some (.agg #[.int .i64 0,.int .i64 0,.string ⟨#[]⟩]),3,32):=by kernel_rfl
def PRw(w:World)(base:Nat)(v:Value)(L:List (Nat×ByteArray)):Prop:=w.ownsRow base 104 3 v L.length (L.flatMap BG)
theorem Dj:∀(l:List (Nat×ByteArray)) (i:Nat) (h:i<l.length) (j:Nat) (v:Value),(BG l[i])[j]?=some v->(l.flatMap BG)[i*3+j]?=some v
 | x::l,0,_,j,v,hv=>by
  have hj:j<(BG x).length:=(afW.1 hv).1;rw[agG,aia,af9,af6 hj];exact hv
 | x::l,i+1,h,j,v,hv=>by
  rw[agG,aga (by rw[GY];omega),GY,show(i+1)*3+j-3=i*3+j by omega];exact Dj l i (by simpa using h) j v (by simpa using hv)
theorem mD{w:World}{base g n cap:Nat}{L:List (Nat×ByteArray)}(h:PRw w base (.slice (some ⟨g,0,none⟩) n cap) L){i:Nat}{p:Nat×ByteArray}(hp:L[i]?=some p):w.cell? ⟨g,i*3,none⟩=some (.int .i64 (p.1:Int))/\w.cell? ⟨g,i*3+2,none⟩=some (.string p.2):=by
 obtain⟨hi,rfl⟩:=afW.1 hp;have H:∀j v,(BG L[i])[j]?=some v->w.cell? ⟨g,i*3+j,none⟩=some v:=fun j v hv=>by
  have:=h.cells (g:=g) rfl (i*3+j) v (Dj L i hi j v hv)
  rwa [Lx.qZ,af9]at this
 exact⟨H 0 _ rfl,H 2 _ rfl⟩
theorem qY{o:Oper}{a:Act}{K:Act->World->Prop}{Q:Exit->Act->World->Prop}{W:World}(base:Nat)(v:Value)(L:List (Nat×ByteArray))(y:Nat×ByteArray)(s x:Operand)
  (ho:o.op=.call {callee:=.builtin .append,args:=#[s,x],argTypes:=#[105,105]}) (hs:a.eval s=v) (hown:PRw W base v L) (B c:Nat) (hx:a.eval x=.slice (some ⟨B,0,none⟩) 1 c)
  (hc:Bx W B 104 #[.int .i64 (y.1:Int),.int .i64 0,.string y.2]) (hl:L.length<=1000000) (hb:base<=W.heap.size)
  (h:∀v' w',PRw w' base v' (L++[y])->W.grownBy w' v.ownBlock->K (a.put o.dst v') w'):o.wp Tryz.prog a W K Q:=by
 obtain⟨ti,hi,hz0,hz1,hz2⟩:=info_parts Vo;obtain⟨v',w',hr,h2,h3,h4,h5⟩:=run_append_own_at (P:=Tryz.prog) W base 105 o.type 104 ti (.agg #[.int .i64 0,.int .i64 0,.string ⟨#[]⟩]) 3 32 Tryz.underlying105 hi hz0 hz1 hz2 rfl (by decide) v L.length _ hown ⟨B,0,none⟩ 1 c (BG y) rfl
  (fun j u hj=>by rw[addr_add,af9,hc.cell];simpa[BG]using hj) (fun u hu=>by
   simp only[BG,afX,agx,ahd]at hu;rcases hu with rfl|rfl|rfl<;>rfl) (by unfold maxLen;omega) (by omega) hb
 unfold Oper.wp execOp;simp only[ho,resolve,invoke,builtin,Sem.run_bind,Sem.run_pure,Result.andThen_ok,agh,agd,agm,hs,hx,hr];refine h v' w' ?_ h3;unfold PRw;rw[afP,ag7]
 simpa using h2
structure Qu(next:List Int)(n:Nat)(L:List (Nat×ByteArray)):Prop where
 one:1<=L.length
 nd:(L.map fun p=>(p.1:Int)).Nodup
 lt:∀p∈L,p.1<n
 run:∀p∈L,runN next 0 (Lx.sb p.2)=(p.1:Int)
 sz:∀(j:Nat)(p:Nat×ByteArray),L[j]?=some p->p.2.size<=j
theorem Qu.len{next:List Int}{n:Nat}{L:List (Nat×ByteArray)}(h:Qu next n L):L.length<=n:=by
 have:=agQ (l₂:=(List.range n).map fun i:Nat=>(i:Int)) h.nd fun x hx=>by
  obtain⟨p,hp,rfl⟩:=agv.1 hx;exact agv.2 ⟨p.1,agH.2 (h.lt p hp),rfl⟩
 simpa using this
theorem Qu.begin_(next:List Int){n:Nat}(hn:1<=n):Qu next n [(0,⟨#[]⟩)]:=
 ⟨by simp,by simp,fun p hp=>by rw[afK.1 hp];omega,fun p hp=>by rw[afK.1 hp];rfl,fun j p hp=>by
  cases j with
  | zero=>cases hp;exact af0 _
  | succ j=>simp at hp⟩
theorem ED(c:Nat)(hc:c<256):Lx.sb ⟨#[UInt8.ofNat c]⟩=[c]:=by
 unfold Lx.sb;simp;omega
theorem Qu.add{next:List Int}{n:Nat}{L:List (Nat×ByteArray)}(h:Qu next n L){i a:Nat}{s:ByteArray}(hi:L[i]?=some (a,s)){c:Nat}(hc:c<256){x:Nat}(hx:nxt next (a:Int) c=(x:Int))(hxn:x<n)(hno:(x:Int)∉L.map fun p=>(p.1:Int)):
  Qu next n (L++[(x,s++⟨#[UInt8.ofNat c]⟩)]):=by
 have him:=af7 hi;have hil:=(afW.1 hi).1;refine⟨by simp,?_,fun p hp=>?_,fun p hp=>?_,fun j p hp=>?_⟩
 ·rw[agt,ahD]
  exact⟨h.nd,by simp,fun u hu v hv e=>hno (by
   have:v=(x:Int):=(by simpa using hv);rw[<-this,<-e];exact hu)⟩
 ·rcases af2.1 hp with hp|hp
  ·exact h.lt p hp
  ·rw[afK.1 hp];exact hxn
 ·rcases af2.1 hp with hp|hp
  ·exact h.run p hp
  ·rw[afK.1 hp]
   show runN next 0 (Lx.sb (s++⟨#[UInt8.ofNat c]⟩))=_
   rw[YC,ED c hc];unfold runN;rw[agI];have:=h.run _ him;unfold runN at this;rw[this];exact hx
 ·by_cases e:j<L.length
  ·rw[af6 e]at hp
   exact h.sz j p hp
  ·have hj:j=L.length:=by
    have:=(afW.1 hp).1;simp at this;omega
   subst hj;rw[aga afD,aho]at hp
   cases hp
   have:=h.sz i _ hi;simp only at this⊢;rw[ByteArray.size_append];have:(⟨#[UInt8.ofNat c]⟩:ByteArray).size=1:=rfl;omega
end
section
open Go.Lib (hid)
open Go Go.Proofs Go.RowKit
attribute [local go_sem] Oper.semAt_some
def Dh:AX.Plan:=.plain 0 (.plain 1 (.plain 2 (.plain 3 (.plain 4 (.plain 5 (.plain 7 (.plain 8 (.two 6 (.one 9 (.one 10 (.plain 11 (.plain 12 (.one 13 (.one 14 (.plain 15 (.nil)))))))) 9 (.two 6 (.one 10 (.plain 11 (.plain 12 (.one 13 (.one 14 (.plain 15 (.nil))))))) 10 (.one 6 (.plain 11 (.plain 12 (.one 13 (.one 14 (.plain 15 (.nil))))))))))))))))
structure Sq(W2:World)(M:Nat)(v:Value)(L:List (Nat×ByteArray))(wz:World):Prop where
 mp:wz.heap[M]?=some (.map (dR 0 (L.map fun p=>(p.1:Int))).toArray (L.map fun p=>(p.1:Int)).length)
 ro:PRw wz W2.heap.size v L
 lo:Below W2.heap.size W2 wz
 mg:W2.heap.size<=M
section
variable {W2 : World} {M : Nat} {v v' : Value} {L L' : List (Nat × ByteArray)} {wz wy : World}
theorem zL{W:World}{base M:Nat}{e:TypeId}{k n:Nat}{v:Value}{xs:List Value}{es:Array MapEntry}{c:Nat}(h:W.ownsRow base e k v n xs)(hM:W.heap[M]?=some (.map es c)):v.ownBlock≠some M:=fun e=>by
 obtain⟨cs,hc⟩:=iq h M e;rw[hM]at hc
 cases hc
theorem Sq.mlt(h:Sq W2 M v L wz):M<wz.heap.size:=(afF.1 h.mp).1
theorem Sq.low(h:Sq W2 M v L wz)(hb:Below wz.heap.size wz wy):Sq W2 M v L wy:=⟨(hb.block M h.mlt).trans h.mp,aZ h.ro hb,h.lo.trans (hb.mono h.lo.size),h.mg⟩
structure Sq2(W2:World)(M:Nat)(T:List Int)(v:Value)(L:List (Nat×ByteArray))(wz:World):Prop where
 mp:wz.heap[M]?=some (.map (dR 0 T).toArray T.length)
 ro:PRw wz W2.heap.size v L
 lo:Below W2.heap.size W2 wz
 mg:W2.heap.size<=M
variable {T T' : List Int}
theorem Sq2.mlt(h:Sq2 W2 M T v L wz):M<wz.heap.size:=(afF.1 h.mp).1
theorem Sq2.low(h:Sq2 W2 M T v L wz)(hb:Below wz.heap.size wz wy):Sq2 W2 M T v L wy:=⟨(hb.block M h.mlt).trans h.mp,aZ h.ro hb,h.lo.trans (hb.mono h.lo.size),h.mg⟩
theorem Sq.upd(h:Sq W2 M v L wz)(hm:wy.heap[M]?=some (.map (dR 0 T').toArray T'.length))(hb:AX.But M wz wy):Sq2 W2 M T' v L wy:=
 ⟨hm,bP h.ro fun g hg=>hb.same g (World.ownsRow.lt h.ro g hg).2 fun e=>zL h.ro h.mp (e▸ hg),h.lo.trans (hb.below h.lo.size h.mg),h.mg⟩
theorem Sq2.app(h:Sq2 W2 M (L'.map fun p=>(p.1:Int)) v L wz)(ho:PRw wy W2.heap.size v' L')(hg:wz.grownBy wy v.ownBlock):Sq W2 M v' L' wy:=
 ⟨(hg.block M h.mlt fun e=>zL h.ro h.mp e.symm).trans h.mp,ho,h.lo.grown hg h.lo.size fun k hk=>(World.ownsRow.lt h.ro k hk).1,h.mg⟩
end
theorem Di{W:World}{base:Nat}{e:TypeId}{k:Nat}{v:Value}{n:Nat}{xs:List Value}(h:W.ownsRow base e k v n xs)(hn:n≠0):∃g c,v=.slice (some ⟨g,0,none⟩) n c/\n<=c:=by
 rcases h.2 with ⟨_,h0⟩|⟨g,cap,cur,e,_,_,hc,_⟩
 ·exact absurd h0 hn
 ·exact⟨g,cap,e,hc⟩
def oM(n:Nat)(next rule:List Int)(r:Int)(w:World)(e:Ending)(w':World):Prop:=Below w.heap.size w w'/\((∃s,e=.returned (.tuple #[.string s,.bool false])) \/
 ∃(s:ByteArray)(a:Nat),e=.returned (.tuple #[.string s,.bool true])/\s.size<=512/\a<n/\runN next 0 (Lx.sb s)=(a:Int)/\rule.getD a 0=r)
theorem oM.no{n:Nat}{next rule:List Int}{r:Int}{w w':World}{s:ByteArray}(h:Below w.heap.size w w'):oM n next rule r w (.returned (.tuple #[.string s,.bool false])) w':=⟨h,.inl ⟨s,rfl⟩⟩
theorem oM.yes{n:Nat}{next rule:List Int}{r:Int}{w w':World}{s:ByteArray}{a:Nat}(h:Below w.heap.size w w')(h1:s.size<=512)(h2:a<n)(h3:runN next 0 (Lx.sb s)=(a:Int))(h4:rule.getD a 0=r):oM n next rule r w (.returned (.tuple #[.string s,.bool true])) w':=⟨h,.inr ⟨s,a,rfl,h1,h2,h3,h4⟩⟩
theorem vU{Q:Exit->Act->World->Prop}{K:Act->World->Prop}{a:Act}{w w':World}{d:Option Tmp}{t1 t2:TypeId}{x:Operand}{ty:TypeId}{pos:String}{after:Array Edge}{g:Option (Nat×Bool)}{v1 v:Value}(h1:a.eval x=v1)(h:(convert t1 t2 v1).run Tryz.prog w=.ok v w')(hK:K (a.put d v) w'):
  Oper.wp Tryz.prog {dst:=d,op:=.convert t1 t2 x,type:=ty,pos:=pos,after:=after,guard:=g} a w K Q:=by
 unfold Oper.wp;simp only[execOp,h1];rw[show(do let x <-convert t1 t2 v1;pure (Next.value x):Sem Next).run Tryz.prog w=.ok (.value v) w' by simp[h]];exact hK
theorem lZ{W:World}{B c:Nat}(hc:c<256)(h:Bx W B 5 #[.int .u8 (c:Int)]):(convert 106 9 (.slice (some ⟨B,0,none⟩) 1 1)).run Tryz.prog W=.ok (.string ⟨#[UInt8.ofNat c]⟩) W:=by
 have:=run_convert_bytes_arg (P:=Tryz.prog) W 106 5 Tryz.underlying106 Tryz.underlying5 B 0 1 1 [(c:Int)] rfl (fun i hi=>by
  obtain rfl:i=0:=by omega
  exact h.cell 0) 9 Tryz.underlying9
 rw[this]
 congr 2
theorem NT{next rule:List Int}{an ar:Option Addr}{w:World}(cn cr:Nat)(h:oL w next rule an ar)(r:Int)(hr0:0<=r):
  Calls Tryz.prog 23 #[.agg #[.slice an next.length cn,.slice ar rule.length cr],.int .i64 r] w (oM rule.length next rule r w):=by
 obtain⟨n,hn⟩:=afC rule.length;obtain⟨BX,hBX⟩:=afC w.heap.size;obtain⟨W0,hW0⟩:=afC (w.alloc (.cells #[.slice an next.length cn,.slice ar rule.length cr] 27));have hb0:=(afI w.heap.size w).alloc afD (.cells #[.slice an next.length cn,.slice ar rule.length cr] 27);have xb:=Bx.new w 27 #[.slice an next.length cn,.slice ar rule.length cr];rw[<-hW0]at hb0 xb;rw[<-hBX]at xb;have hT:=h.below hb0 afD;have hch:=LC cn cr hT;have haf:=fun(W:World)(hb:Below W0.heap.size W0 W)(i c:Nat)(hi:i<rule.length)(hc:c<256)=>NW cn cr (hT.below hb afD) i c hi hc;have h1n:=h.T.one;have Ri:=h.m;have hbd:∀(a c:Nat),a<rule.length->c<256 -> -1<=nxt next (a:Int) c/\nxt next (a:Int) c<(rule.length:Int):=fun a c ha hc=>jo h.T (by omega) hc
 have hRw:∀k,k<rule.length->∃b off,ar=some ⟨b,off,none⟩/\b<W0.heap.size/\W0.cell? ⟨b,off+k,none⟩=some (.int .i64 (rule.getD k 0)):=fun k hk=>hT.rul hk;rw[<-hn]at xb hch haf hW0 h1n Ri hRw hbd⊢;obtain⟨nl,hnl⟩:=afC next.length
 rw[<-hnl]at xb hch haf hW0⊢;have y0:W0.cell? ⟨BX,0,none⟩=some (.slice an nl cn):=xb.cell 0;have y1:W0.cell? ⟨BX,1,none⟩=some (.slice ar n cr):=xb.cell 1;have HB0:=hid hb0;have HXB:=hid xb;have HAF:=hid haf;have HBD:=hid hbd;have HRW:=hid hRw;have HBX:=hid hBX;clear hn hnl hb0 xb haf hbd hRw hT h;have hr1:¬r<0:=by omega
 go_enter Tryz.func23,Tryz.ntmps23
 go_upto_region 1 with fail
 rw[<-hW0,<-hBX];clear hW0 hBX;go_upto_region 3 with (go_at_call 49;((with_reducible refine hch.mono ?_);rintro e W2 ⟨rfl,hb1⟩))
 have hbx2:=HXB.out.below hb1 HXB.out.lt;have Gp:BX<W2.heap.size:=hbx2.lt;have HB1:=hid hb1;have Ju:=hid hbx2;have hbs:=Bx.new W2 104 #[.int .i64 0,.int .i64 0,.string ⟨#[]⟩];have hb3:=(afI W2.heap.size W2).alloc afD (.cells #[.int .i64 0,.int .i64 0,.string ⟨#[]⟩] 104);obtain⟨SB,hSB⟩:=afC W2.heap.size;obtain⟨W3,hW3⟩:=afC (W2.alloc (.cells #[.int .i64 0,.int .i64 0,.string ⟨#[]⟩] 104));rw[<-hW3]at hb3 hbs;rw[<-hSB]at hbs;clear y0 y1 hch hb1 hbx2;go_upto_region 4 with fail
 rw[<-hW3,<-hSB];clear hW3;have hmm:=fun W=>run_makeMap (P:=Tryz.prog) (w:=W) 100;have hb4:=(afI W3.heap.size W3).alloc afD (.map #[] 0);have JJ:=hbs.below hb4 hbs.lt;have hm4:(W3.alloc (.map #[] 0)).heap[W3.heap.size]?=some (.map (dR 0 []).toArray ([]:List Int).length):=World.alloc_heap_new W3 _;have Ei:([]:List Int).Nodup:=aix;have sW:¬fx [] 0<([]:List Int).length:=by simp
 go_upto_region 6 with ((with_reducible refine YO ?_);refine GV (T:=[]) (k:=0) rfl rfl rfl hm4 Ei sW ?_;rintro W5 hm5 hb5)
 have hSM:SB<W3.heap.size:=hbs.lt;have hxs:Bx W5 SB 104 #[.int .i64 0,.int .i64 0,.string ⟨#[]⟩]:=(hb5.same SB JJ.lt (by omega)).trans JJ;have hlo:Below W2.heap.size W2 W5:=(hb3.trans (hb4.mono hb3.size)).trans ⟨hb5.low.os,hb5.low.tape,hb5.low.output,hb5.low.size,fun j hj=>hb5.same j (by have:=hb3.size;have:=hb4.size;omega) (by have:=hb3.size;omega)⟩;have hsq:Sq W2 W3.heap.size (.slice (some ⟨SB,0,none⟩) 1 1) [(0,⟨#[]⟩)] W5:=⟨hm5,⟨rfl,.inr ⟨SB,1,#[.int .i64 0,.int .i64 0,.string ⟨#[]⟩],rfl,afT hSB.symm,hxs,agq _,by decide,by simp,by simp[BG]⟩⟩,hlo,hb3.size⟩;have HSQ:=hid hsq;obtain⟨M,hM⟩:=afC W3.heap.size;rw[<-hM]at HSQ⊢;clear hm5 hb5 hxs hlo hsq hM hSM hbs JJ hb3 hb4 hm4 hSB hmm;have hat:∃(i:Nat)(L:List (Nat×ByteArray)) (v:Value),(Value.slice (some ⟨SB,0,none⟩) 1 1)=v/\(Value.int .i64 0)=.int .i64 i/\i<=L.length/\Sq W2 M v L W5/\Hid (Qu next n L):=⟨0,_,_,rfl,rfl,af0 _,HSQ.out,hid (Qu.begin_ next h1n)⟩;have HAT:=hid hat;clear hat HSQ Ei sW;go_loopw [6,8] (fun v6 v8 wr=>∃(i:Nat)(L:List (Nat×ByteArray)) (v:Value),v6=v/\v8=.int .i64 i/\i<=L.length/\Sq W2 M v L wr/\Hid (Qu next n L)) (fun _ v8 _=>n+1-(RowKit.intOf v8).toNat)
 case atStart=>exact HAT.out
 case round =>
  clear HAT;obtain⟨i,L,v,rfl,rfl,hi,hs,hqu⟩:=hrel;have hi0:(0:Int)<=(i:Int):=by omega
  have hLn:=hqu.out.len;have hL1:=hqu.out.one;obtain⟨g,cc,rfl,hcc⟩:=Di hs.ro (by omega)
  by_cases hlt:i<L.length
  ·have hi1:(i:Int)<(L.length:Int):=by omega
   obtain⟨⟨a,s⟩,hp⟩:∃p,L[i]?=some p:=⟨_,afE hlt⟩;have han:=hqu.out.lt _ (af7 hp);have hrn:=hqu.out.run _ (af7 hp);have hsz:=hqu.out.sz _ _ hp;obtain⟨c0,c2⟩:=mD hs.ro hp;simp only at han hrn hsz c0 c2;obtain⟨rb,ro,rfl,hrb,hrc⟩:=HRW.out a han;have hlow0:Below W0.heap.size W0 wr:=HB1.out.trans (hs.lo.mono HB1.out.size);have hrc:=(hlow0.cell (p:=⟨rb,ro+a,none⟩) hrb).trans hrc;have EC:=Ju.out.below hs.lo Gp;have hgl:=block_lt_of_cell c0;haveI:Inhabited (AX.BW wr):=⟨⟨wr,afI _ _⟩⟩;have m1:=AX.aA (EC.cell 1:wr.cell? ⟨BX,1,none⟩=some (.slice (some ⟨rb,ro,none⟩) n cr)) EC.lt;have m2:=AX.aA c0 hgl;have m3:=AX.aA hrc (afN hrb hlow0.size);have a0:(0:Int)<=(a:Int):=(by omega);have a1:(a:Int)<(n:Int):=(by omega);have HP:=hid hp;have HS:=hid hs;have HRN:=hid hrn;obtain⟨ra,hra⟩:=afC (rule.getD a 0);rw[<-hra]at m3;have HRA:=hid hra;clear hp hs hrn hrc EC c0 hra;go_upto_region 8 with fail
   refine AX.aF (by kernel_rfl) (by kernel_rfl) ?_
   repeat (go_big_quiet_step (fail))
   refine afQ ?_;rintro _ ⟨p,rfl⟩;obtain⟨W7,hb7⟩:=p;simp only;have hs7:=HS.out.low hb7;have c2:=(hb7.cell (p:=⟨g,i*3+2,none⟩) hgl).trans c2;have HS7:=hid hs7;have YP:=hs7.lo;clear m1 m2 m3 HS hb7
   by_cases hrr:ra=r
   ·have hq1:(ra == r)=true:=ahe.2 hrr
    have HRR:Hid (rule.getD a 0=r):=hid (by rw[<-HRA.out];exact hrr);have HLO:Hid (Below w.heap.size w W7):=hid ((HB0.out.trans (HB1.out.mono HB0.out.size)).trans (YP.mono (agb HB0.out.size HB1.out.size)));clear hs7 YP HS7 hrr;go_wp2_with fail
    exact afJ (v:=.tuple #[.string s,.bool true]) (by simp[results,Tryz.results23,go_sem]) rfl (oM.yes HLO.out (by omega) han HRN.out HRR.out)
   ·have hq1:(ra == r)=false:=agn.2 hrr
    clear hs7 YP hrr c2;go_upto_region 11 with fail
    go_loopw [6,9] (fun v6 v9 wq=>∃(c:Nat)(L:List (Nat×ByteArray)) (v:Value),v6=v/\v9=.int .i64 c/\c<=256/\Sq W2 M v L wq/\Hid (Qu next n L/\L[i]?=some (a,s)/\i<L.length)) (fun _ v9 _=>256-(RowKit.intOf v9).toNat)
    case atStart=>exact⟨0,L,_,rfl,rfl,af0 _,HS7.out,hid ⟨hqu.out,HP.out,hlt⟩⟩
    case round =>
     obtain⟨c,L,v,rfl,rfl,hc,hs,hq⟩:=hrel;have hb0:(0:Int)<=(c:Int):=(by omega);obtain⟨hqq,hp,hlt2⟩:=hq.out;have ae8:=hqq.len;obtain⟨g,cc,rfl,hcc⟩:=Di hs.ro (by omega)
     by_cases hcl:c<256
     ·have hb1:(c:Int)<256:=by omega
      have hii:(i:Int)<(L.length:Int):=(by omega);obtain⟨c0,c2⟩:=mD hs.ro hp;simp only at c0 c2;have hgl:=block_lt_of_cell c0;have EC:=Ju.out.below hs.lo Gp;haveI:Inhabited (AX.BW wr):=⟨⟨wr,afI _ _⟩⟩;have m0:=AX.aA (EC.cell 0:wr.cell? ⟨BX,0,none⟩=some (.slice an nl cn)) EC.lt;have m1:=AX.aA (EC.cell 1:wr.cell? ⟨BX,1,none⟩=some (.slice (some ⟨rb,ro,none⟩) n cr)) EC.lt;have m2:=AX.aA c0 hgl;have hat:=fun p:AX.BW wr=>HAF.out p.W (HB1.out.trans ((hs.lo.trans (p.h.mono hs.lo.size)).mono HB1.out.size)) a c han hcl;obtain⟨hx1,hx2⟩:=HBD.out a c han hcl;obtain⟨x,hx⟩:=afC (nxt next (a:Int) c)
      rw[<-hx]at hx1 hx2;simp only[<-hx]at hat;have HX:=hid hx;have HS:=hid hs;have HQQ:=hid hqq;have HP2:=hid hp;clear hs hqq hp EC c0 hx hq;go_upto_region 13 with fail
      refine AX.aF (by kernel_rfl) (by kernel_rfl) ?_
      repeat (go_big_quiet_step (first|(go_at_call 52;with_reducible exact AX.dw (hat _))))
      refine afQ ?_;rintro _ ⟨p,rfl⟩;obtain⟨W7,hb7⟩:=p;simp only;have hs7:=HS.out.low hb7;have HS7:=hid hs7;have c27:=(hb7.cell (p:=⟨g,i*3+2,none⟩) hgl).trans c2;have Xu:Hid (Hid (Qu next n L/\L[i]?=some (a,s)/\i<L.length)):=hid (hid ⟨HQQ.out,HP2.out,hlt2⟩);clear m0 m1 m2 hat HS hb7 c2
      by_cases hx0:0<=x
      ·obtain⟨xn,rfl⟩:∃xn:Nat,x=(xn:Int):=⟨x.toNat,by omega⟩
       have hlk:=aa5 (k:=(xn:Int)) hs7.mp HQQ.out.nd
       by_cases hf:fx (L.map fun p=>(p.1:Int)) (xn:Int)<(L.map fun p=>(p.1:Int)).length
       ·rw[afR hf]at hlk
        clear hf hs7 c27;go_wp2_with fail
        exact⟨⟨c+1,L,_,rfl,by simp,by omega,HS7.out,Xu.out⟩,by simp[RowKit.intOf];omega⟩
       ·rw[afO hf]at hlk
        have hno:(xn:Int)∉L.map fun p=>(p.1:Int):=fun hm=>hf (by
         unfold fx;exact agT ⟨_,hm,by simp⟩)
        have hqn:=HQQ.out.add HP2.out hcl HX.out.symm (by omega) hno;have HQN:=hid hqn;have HF:=hid hf;have hmp:=hs7.mp;have hnd:=HQQ.out.nd;clear hf hs7 hqn hno;go_upto_region 16 with ((with_reducible refine Jq ?_);refine GX rfl rfl rfl hmp hnd HF.out ?_;rintro W8 hm8 hb8;have h8:=HS7.out.upd hm8 hb8;have H8:=hid h8;clear h8 hm8 hb8)
        have hD:Sq2 W2 M ((L++[(xn,s++⟨#[UInt8.ofNat c]⟩)]).map fun p=>(p.1:Int)) (.slice (some ⟨g,0,none⟩) L.length cc) L W8.drew:=by
         have h9:=H8.out.low ((afI W8.heap.size W8).drew);rw[agt];exact h9
        have hadd:∀W:World,(Op.stringOp .add s ⟨#[UInt8.ofNat c]⟩).run Tryz.prog W=.ok (.string (s++⟨#[UInt8.ofNat c]⟩)) W:=fun W=>run_string_add_sum (P:=Tryz.prog) (w:=W) s _ (by show s.size+1<=_;omega);have hw8:IntKind.u8.wrap (c:Int)=(c:Int):=by
         unfold IntKind.wrap;simp[IntKind.signed,IntKind.bits];omega
        have hLl:L.length<=1000000:=(by omega);have HN2:Hid (Hid (Qu next n (L++[(xn,s++⟨#[UInt8.ofNat c]⟩)])/\(L++[(xn,s++⟨#[UInt8.ofNat c]⟩)])[i]?=some (a,s)/\i<(L++[(xn,s++⟨#[UInt8.ofNat c]⟩)]).length)):=hid (hid ⟨HQN.out,by rw[af6 hlt2];exact HP2.out,by rw[afP];omega⟩);have ae9:=hD.lo.size;clear hlk hmp hnd c27;haveI:Inhabited (AX.CW fun _:World=>True):=⟨⟨w,trivial⟩⟩;refine AX.gI (C:=fun W=>∃p:AX.CW fun _=>True,W=p.W) Dh _ (by kernel_rfl) (by kernel_rfl) rfl (by kernel_rfl) (by intro c a d v w h;cases d<;>exact h) ⟨⟨_,trivial⟩,rfl⟩ ?_;unfold Dh;generalize W8.drew=Wd at *
        repeat (refine AX.ay _ (by rfl) ?_;go_big_quiet_step (fail);refine afQ ?_)
        refine⟨?_,?_⟩
        ·have cD:=(mD hD.ro HP2.out).2
         simp only at cD;refine AX.au _ (by rfl) (by rfl) ?_;unfold Oper.wp;go_simp
         refine⟨⟨⟨Wd,trivial⟩,rfl⟩,?_⟩;clear cD;refine AX.au _ (by rfl) (by rfl) ?_;unfold Oper.wp;go_simp
         have hb9:=(afI Wd.heap.size Wd).alloc afD (.cells #[.int .u8 (c:Int)] 5);have hx9:=Bx.new Wd 5 #[.int .u8 (c:Int)];have h9:=hD.low hb9;obtain⟨B9,hB9⟩:=afC Wd.heap.size;obtain⟨W9,hW9⟩:=afC (Wd.alloc (.cells #[.int .u8 (c:Int)] 5));rw[<-hW9]at hx9 h9⊢;rw[<-hB9]at hx9⊢;clear hW9 hB9 hb9;refine⟨⟨⟨W9,trivial⟩,rfl⟩,?_⟩;refine AX.au _ (by rfl) (by rfl) ?_;refine vU rfl (lZ hcl hx9) ?_;refine⟨⟨⟨W9,trivial⟩,rfl⟩,?_⟩;simp only[Act.put,afH,afL,afM]
         repeat (refine AX.ay _ (by rfl) ?_;go_big_quiet_step (fail);refine afQ ?_)
         refine AX.au _ (by rfl) (by rfl) ?_;unfold Oper.wp;go_simp
         have hbA:=(afI W9.heap.size W9).alloc afD (.cells #[.int .i64 (xn:Int),.int .i64 0,.string (s++⟨#[UInt8.ofNat c]⟩)] 104);have hxA:=Bx.new W9 104 #[.int .i64 (xn:Int),.int .i64 0,.string (s++⟨#[UInt8.ofNat c]⟩)];have hA:=h9.low hbA;obtain⟨BA,hBA⟩:=afC W9.heap.size;obtain⟨WA,hWA⟩:=afC (W9.alloc (.cells #[.int .i64 (xn:Int),.int .i64 0,.string (s++⟨#[UInt8.ofNat c]⟩)] 104));rw[<-hWA]at hxA hA⊢;rw[<-hBA]at hxA⊢;clear hWA hBA hbA;refine⟨⟨⟨WA,trivial⟩,rfl⟩,?_⟩;refine AX.au _ (by rfl) (by rfl) ?_;refine qY W2.heap.size (.slice (some ⟨g,0,none⟩) L.length cc) L (xn,s++⟨#[UInt8.ofNat c]⟩) _ _ rfl rfl hA.ro BA 1 rfl hxA hLl hA.lo.size ?_;intro v2 WB ho hg;have hB:=hA.app ho hg;refine⟨⟨⟨WB,trivial⟩,rfl⟩,?_⟩;simp only[Act.put,afH,afL,afM];refine AX.ay _ (by rfl) ?_;go_big_quiet_step (fail);refine afQ ?_;have HB:=hid hB;clear hA hB ho hg hxA;unfold AX.aQ;go_wp2_with fail
         exact⟨⟨c+1,L++[(xn,s++⟨#[UInt8.ofNat c]⟩)],_,rfl,by simp,by omega,HB.out,HN2.out⟩,by simp[RowKit.intOf];omega⟩
        ·refine AX.au _ (by rfl) (by rfl) ?_
         unfold Oper.wp;go_simp
         have hb9:=(afI Wd.heap.size Wd).alloc afD (.cells #[.int .u8 (c:Int)] 5);have hx9:=Bx.new Wd 5 #[.int .u8 (c:Int)];have h9:=hD.low hb9;obtain⟨B9,hB9⟩:=afC Wd.heap.size;obtain⟨W9,hW9⟩:=afC (Wd.alloc (.cells #[.int .u8 (c:Int)] 5));rw[<-hW9]at hx9 h9⊢;rw[<-hB9]at hx9⊢;clear hW9 hB9 hb9;refine⟨⟨⟨W9,trivial⟩,rfl⟩,?_⟩;refine⟨?_,?_⟩
         ·have cD:=(mD h9.ro HP2.out).2
          simp only at cD;refine AX.au _ (by rfl) (by rfl) ?_;unfold Oper.wp;go_simp
          refine⟨⟨⟨W9,trivial⟩,rfl⟩,?_⟩;clear cD;refine AX.au _ (by rfl) (by rfl) ?_;refine vU rfl (lZ hcl hx9) ?_;refine⟨⟨⟨W9,trivial⟩,rfl⟩,?_⟩;simp only[Act.put,afH,afL,afM]
          repeat (refine AX.ay _ (by rfl) ?_;go_big_quiet_step (fail);refine afQ ?_)
          refine AX.au _ (by rfl) (by rfl) ?_;unfold Oper.wp;go_simp
          have hbA:=(afI W9.heap.size W9).alloc afD (.cells #[.int .i64 (xn:Int),.int .i64 0,.string (s++⟨#[UInt8.ofNat c]⟩)] 104);have hxA:=Bx.new W9 104 #[.int .i64 (xn:Int),.int .i64 0,.string (s++⟨#[UInt8.ofNat c]⟩)];have hA:=h9.low hbA;obtain⟨BA,hBA⟩:=afC W9.heap.size;obtain⟨WA,hWA⟩:=afC (W9.alloc (.cells #[.int .i64 (xn:Int),.int .i64 0,.string (s++⟨#[UInt8.ofNat c]⟩)] 104));rw[<-hWA]at hxA hA⊢;rw[<-hBA]at hxA⊢;clear hWA hBA hbA;refine⟨⟨⟨WA,trivial⟩,rfl⟩,?_⟩;refine AX.au _ (by rfl) (by rfl) ?_;refine qY W2.heap.size (.slice (some ⟨g,0,none⟩) L.length cc) L (xn,s++⟨#[UInt8.ofNat c]⟩) _ _ rfl rfl hA.ro BA 1 rfl hxA hLl hA.lo.size ?_;intro v2 WB ho hg;have hB:=hA.app ho hg;refine⟨⟨⟨WB,trivial⟩,rfl⟩,?_⟩;simp only[Act.put,afH,afL,afM];refine AX.ay _ (by rfl) ?_;go_big_quiet_step (fail);refine afQ ?_;have HB:=hid hB;clear hA hB ho hg hxA;unfold AX.aQ;go_wp2_with fail
          exact⟨⟨c+1,L++[(xn,s++⟨#[UInt8.ofNat c]⟩)],_,rfl,by simp,by omega,HB.out,HN2.out⟩,by simp[RowKit.intOf];omega⟩
         ·refine AX.au _ (by rfl) (by rfl) ?_
          refine vU rfl (lZ hcl hx9) ?_;refine⟨⟨⟨W9,trivial⟩,rfl⟩,?_⟩;simp only[Act.put,afH,afL,afM];have cD:=(mD h9.ro HP2.out).2;simp only at cD;refine AX.au _ (by rfl) (by rfl) ?_;unfold Oper.wp;go_simp
          refine⟨⟨⟨W9,trivial⟩,rfl⟩,?_⟩;clear cD
          repeat (refine AX.ay _ (by rfl) ?_;go_big_quiet_step (fail);refine afQ ?_)
          refine AX.au _ (by rfl) (by rfl) ?_;unfold Oper.wp;go_simp
          have hbA:=(afI W9.heap.size W9).alloc afD (.cells #[.int .i64 (xn:Int),.int .i64 0,.string (s++⟨#[UInt8.ofNat c]⟩)] 104);have hxA:=Bx.new W9 104 #[.int .i64 (xn:Int),.int .i64 0,.string (s++⟨#[UInt8.ofNat c]⟩)];have hA:=h9.low hbA;obtain⟨BA,hBA⟩:=afC W9.heap.size;obtain⟨WA,hWA⟩:=afC (W9.alloc (.cells #[.int .i64 (xn:Int),.int .i64 0,.string (s++⟨#[UInt8.ofNat c]⟩)] 104));rw[<-hWA]at hxA hA⊢;rw[<-hBA]at hxA⊢;clear hWA hBA hbA;refine⟨⟨⟨WA,trivial⟩,rfl⟩,?_⟩;refine AX.au _ (by rfl) (by rfl) ?_;refine qY W2.heap.size (.slice (some ⟨g,0,none⟩) L.length cc) L (xn,s++⟨#[UInt8.ofNat c]⟩) _ _ rfl rfl hA.ro BA 1 rfl hxA hLl hA.lo.size ?_;intro v2 WB ho hg;have hB:=hA.app ho hg;refine⟨⟨⟨WB,trivial⟩,rfl⟩,?_⟩;simp only[Act.put,afH,afL,afM];refine AX.ay _ (by rfl) ?_;go_big_quiet_step (fail);refine afQ ?_;have HB:=hid hB;clear hA hB ho hg hxA;unfold AX.aQ;go_wp2_with fail
          exact⟨⟨c+1,L++[(xn,s++⟨#[UInt8.ofNat c]⟩)],_,rfl,by simp,by omega,HB.out,HN2.out⟩,by simp[RowKit.intOf];omega⟩
      ·have hx3:¬(0:Int)<=x:=hx0
       clear hs7 c27;go_wp2_with fail
       exact⟨⟨c+1,L,_,rfl,by simp,by omega,HS7.out,Xu.out⟩,by simp[RowKit.intOf];omega⟩
     ·have hb1:¬(c:Int)<256:=by omega
      have hrel2:∃(i2:Nat)(L2:List (Nat×ByteArray)) (v2:Value),(Value.slice (some ⟨g,0,none⟩) L.length cc)=v2/\(Value.int .i64 ((i:Int)+1))=.int .i64 i2/\i2<=L2.length/\Sq W2 M v2 L2 wr/\Hid (Qu next n L2):=⟨i+1,L,_,rfl,by simp,by omega,hs,hid hqq⟩;have Qm:=hid hrel2;clear hrel2 hs hqq hq;go_wp2_with fail
      exact⟨Qm.out,by simp[RowKit.intOf];omega⟩
  ·have hi1:¬(i:Int)<(L.length:Int):=by omega
   have HLO:Hid (Below w.heap.size w wr):=hid ((HB0.out.trans (HB1.out.mono HB0.out.size)).trans (hs.lo.mono (agb HB0.out.size HB1.out.size)));clear hs;go_wp2_with fail
   exact afJ (v:=.tuple #[.string ⟨#[]⟩,.bool false]) (by simp[results,Tryz.results23,go_sem]) rfl (oM.no HLO.out)
end
end Go.Proofs.YtkjgogdkdejljaaGreatDoor.Df
