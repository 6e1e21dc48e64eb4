import Derived.Test.YtkjgogdkdejljaaGreatDoorDfN10
set_option maxRecDepth 100000
set_option maxHeartbeats 40000000
namespace Go.Proofs
open Go.Proofs.YtkjgogdkdejljaaGreatDoor
open Go.Shelf
def Tryz.Og:Go.Shelf.Ren:=⟨fun| 6=>105| 15=>130| 14=>131| 28=>151| 29=>152| 20=>153| 21=>154| 22=>155| 23=>156| 24=>157| 25=>158| 26=>159| 27=>160| 46=>176| 47=>171| 48=>172| 49=>177| 50=>178| 57=>187|n=>n,fun| 22=>71| 24=>116| 25=>181| 3=>3| 39=>191| 0=>0| 53=>232| 55=>114| 4=>4| 46=>225| 45=>224| 50=>102| 5=>5| 9=>9| 66=>239| 70=>217| 76=>248| 77=>150|n=>n,fun|n=>n⟩
theorem Tryz.aa9:Go.Proofs.SlLaysF0.n6 Tryz.prog Tryz.Og:={
 mixed:=by kernel_rfl
 f6:=⟨Tryz.f105.name,by decide,Tryz.func105.trans (ag3 some (by kernel_rfl))⟩
 f14:=⟨Tryz.f131.name,by decide,Tryz.func131.trans (ag3 some (by kernel_rfl))⟩
 f15:=Tryz.func130.trans (ag3 some (by kernel_rfl))
 f20:=⟨Tryz.f153.name,by decide,Tryz.func153.trans (ag3 some (by kernel_rfl))⟩
 f21:=⟨Tryz.f154.name,by decide,Tryz.func154.trans (ag3 some (by kernel_rfl))⟩
 f22:=⟨Tryz.f155.name,by decide,Tryz.func155.trans (ag3 some (by kernel_rfl))⟩
 f23:=⟨Tryz.f156.name,by decide,Tryz.func156.trans (ag3 some (by kernel_rfl))⟩
 f24:=⟨Tryz.f157.name,by decide,Tryz.func157.trans (ag3 some (by kernel_rfl))⟩
 f25:=⟨Tryz.f158.name,by decide,Tryz.func158.trans (ag3 some (by kernel_rfl))⟩
 f26:=⟨Tryz.f159.name,by decide,Tryz.func159.trans (ag3 some (by kernel_rfl))⟩
 f27:=⟨Tryz.f160.name,by decide,Tryz.func160.trans (ag3 some (by kernel_rfl))⟩
 f28:=Tryz.func151.trans (ag3 some (by kernel_rfl))
 f29:=Tryz.func152.trans (ag3 some (by kernel_rfl))
 f46:=⟨Tryz.f176.name,by decide,Tryz.func176.trans (ag3 some (by kernel_rfl))⟩
 f47:=Tryz.func171.trans (ag3 some (by kernel_rfl))
 f48:=Tryz.func172.trans (ag3 some (by kernel_rfl))
 f49:=⟨Tryz.f177.name,by decide,Tryz.func177.trans (ag3 some (by kernel_rfl))⟩
 f50:=⟨Tryz.f178.name,by decide,Tryz.func178.trans (ag3 some (by kernel_rfl))⟩
 f57:=⟨Tryz.f187.name,by decide,Tryz.func187.trans (ag3 some (by kernel_rfl))⟩
 t0:=Tryz.underlying0
 a0:=Tryz.isAgg0
 z0:=Tryz.sizeOf0
 v0:=Tryz.zeroValue0
 t3:=Tryz.underlying3
 a3:=Tryz.isAgg3
 z3:=Tryz.sizeOf3
 v3:=Tryz.zeroValue3
 t4:=Tryz.underlying4
 a4:=Tryz.isAgg4
 z4:=Tryz.sizeOf4
 v4:=Tryz.zeroValue4
 t5:=Tryz.underlying5
 a5:=Tryz.isAgg5
 z5:=Tryz.sizeOf5
 v5:=Tryz.zeroValue5
 t9:=Tryz.underlying9
 a9:=Tryz.isAgg9
 z9:=Tryz.sizeOf9
 v9:=Tryz.zeroValue9
 t22:=Tryz.underlying71
 a22:=Tryz.isAgg71
 z22:=Tryz.sizeOf71
 v22:=Tryz.zeroValue71
 t25:=Tryz.underlying181
 a25:=Tryz.isAgg181
 z25:=Tryz.sizeOf181
 v25:=Tryz.zeroValue181
 t39:=Tryz.underlying191
 a39:=Tryz.isAgg191
 z39:=Tryz.sizeOf191
 v39:=Tryz.zeroValue191
 t45:=Tryz.underlying224
 a45:=Tryz.isAgg224
 z45:=Tryz.sizeOf224
 v45:=Tryz.zeroValue224
 t46:=Tryz.underlying225
 a46:=Tryz.isAgg225
 z46:=Tryz.sizeOf225
 v46:=Tryz.zeroValue225
 t50:=Tryz.underlying102
 a50:=Tryz.isAgg102
 z50:=Tryz.sizeOf102
 v50:=Tryz.zeroValue102
 t53:=Tryz.underlying232
 a53:=Tryz.isAgg232
 z53:=Tryz.sizeOf232
 v53:=Tryz.zeroValue232
 t55:=Tryz.underlying114
 a55:=Tryz.isAgg114
 z55:=Tryz.sizeOf114
 v55:=Tryz.zeroValue114
 t66:=Tryz.underlying239
 a66:=Tryz.isAgg239
 z66:=Tryz.sizeOf239
 v66:=Tryz.zeroValue239
 t70:=Tryz.underlying217
 a70:=Tryz.isAgg217
 z70:=Tryz.sizeOf217
 v70:=Tryz.zeroValue217
 t76:=Tryz.underlying248
 a76:=Tryz.isAgg248
 z76:=Tryz.sizeOf248
 v76:=Tryz.zeroValue248
 t77:=Tryz.underlying150
 a77:=Tryz.isAgg150
 z77:=Tryz.sizeOf150
 v77:=Tryz.zeroValue150}
end Go.Proofs
namespace Go.Proofs.YtkjgogdkdejljaaGreatDoor.Df
section
open Go Go.Proofs Go.RowKit Go.Shelf Go.Lib Go.Sort
def cfK(x y:Kl):Int:=zQ x.low y.low
theorem ltK(x y:Kl):ltOf cfK x y=decide (x.low<y.low):=by
 unfold ltOf cfK zQ
 by_cases h1:x.low<y.low
 ·simp[h1]
 ·by_cases h2:y.low<x.low<;>simp[h1,h2]
theorem swoK:SWO (ltOf cfK) where
 irrefl x:=by rw[ltK];simp
 trans x y z h1 h2:=by rw[ltK]at *;simp at *;omega
 ntrans x y z h1 h2:=by rw[ltK]at *;simp at *;omega
theorem kM(x:Kl):(bI x).length=4:=rfl
theorem He(x:Kl):∀v∈bI x,v.oneCell'=true:=by
 intro v hv;simp only[bI,afX,agx,ahd]at hv;rcases hv with rfl|rfl|rfl|rfl<;>rfl
theorem Ru{w:World}(hT:TabAt w)(hp:0<w.heap.size){blk:Nat}(hb:0<blk)(off m:Nat)(dk:Array Kl)(os:Array Obj):TabAt (sortWorldK bI 4 w blk off m dk os):=fun j hj=>by
 have h0:(sortWorldK bI 4 w blk off m dk os).cell? ⟨0,j,none⟩=w.cell? ⟨0,j,none⟩:=by
  unfold sortWorldK;rw[cell?_grow _ _ _ (by simp[putRowK];omega),cell?_putRowK_other bI 4 _ _ _ _ _ (show (⟨0,j,none⟩:Addr).block≠blk from by show (0:Nat)≠blk;omega)];rfl
 rw[h0];exact hT j hj
theorem Dp(w:World)(blk off m:Nat)(dk:Array Kl)(os:Array Obj):w.heap.size<=(sortWorldK bI 4 w blk off m dk os).heap.size:=by
 unfold sortWorldK;rw[size_grow];simp[putRowK]
theorem Oh{w:World}(hT:TabAt w)(hp:0<w.heap.size){blk:Nat}(hb:0<blk)(off size:Nat):CmpLays Tryz.prog 106 #[] bI 4 cfK blk off size w:=
 fun m os dk _ x y=>(Oe x y _ (afN hp (Dp w blk off m dk os)) (Ru hT hp hb off m dk os)).mono fun e w' ⟨he,hB⟩=>by
  obtain⟨os',h⟩:=hB.grow;exact⟨he,0,os',h⟩
theorem JM{w:World}(hT:TabAt w)(hp:0<w.heap.size){blk:Nat}(hb:0<blk)(off cap:Nat)(d:Array Kl)(hH:HoldsK bI 4 w blk off d)(hblk:blk<w.heap.size)(hsz:d.size<4611686018427387904):
  Calls Tryz.prog 105 #[.slice (some ⟨blk,off,none⟩) d.size cap,.func (.func 106) #[] #[]] w fun e w'=>e=.returned (.tuple #[])/\∃d',PermIn 0 d.size d d'/\SortedIn (ltOf cfK) 0 d.size d'/\HoldsK bI 4 w' blk off d'/\∀n,n<=blk->Below n w w':=by
 have eg:∀args w,(callFunc 106 args).run Tryz.prog w=.ok (.enter 106 args) w:=enters_of Tryz.func106 (by kernel_rfl) rfl;have h:=AnyQ.slices_SortFunc Tryz.aa9 4 Tryz.isAgg116 Tryz.sizeOf116 bI kM He cfK swoK 106 #[] blk off cap d w eg (Oh hT hp hb off d.size) hH hblk hsz;refine h.mono ?_;rintro e w' ⟨he,d',n,os,h1,h2,rfl⟩;refine⟨he,d',h1,h2,?_,fun k hk=>?_⟩
 ·exact holdsK_grow bI 4 _ _ _ _ _ (by simp[putRowK];exact hblk) (holdsK_putRowK bI 4 _ _ _ d d' (holdsK_ahead bI 4 _ _ _ _ _ hH) h1.1)
 ·refine⟨rfl,rfl,rfl,Dp _ _ _ _ _ _,fun j hj=>?_⟩
  unfold sortWorldK;rw[heap_grow_old _ _ (by simp[putRowK];omega)]
  show (Array.modify _ _ _)[j]?=_
  rw[ahx,afO (by omega)];rfl
end
section
open Go Go.Proofs Go.RowKit Go.Shelf
attribute [local go_sem] Oper.semAt_some
def uk(k i a b:Nat):Value:=.int .u64 ((if i<k then a &&& b else a:Nat):Int)
theorem YU(a b c d e f g h:Nat)(ha:a<18446744073709551616)(hb:b<18446744073709551616)(hc:c<18446744073709551616)(hd:d<18446744073709551616)(he:e<18446744073709551616)(hf:f<18446744073709551616)(hg:g<18446744073709551616)(hh:h<18446744073709551616)(w:World):
  Calls Tryz.prog 103 #[.agg #[.int .u64 a,.int .u64 b,.int .u64 c,.int .u64 d],.agg #[.int .u64 e,.int .u64 f,.int .u64 g,.int .u64 h]] w fun x w'=>x=.returned (.agg #[.int .u64 (a &&& e:Nat),.int .u64 (b &&& f:Nat),.int .u64 (c &&& g:Nat),.int .u64 (d &&& h:Nat)])/\Below w.heap.size w w':=by
 have xa:=bits_and_u64_nat a e ha he;have xb:=bits_and_u64_nat b f hb hf;have xc:=bits_and_u64_nat c g hc hg;have xd:=bits_and_u64_nat d h hd hh;clear ha hb hc hd he hf hg hh;go_enter Tryz.func103,Tryz.ntmps103
 go_wp2
 go_loopw [8] (fun i wr=>∃k:Nat,k<=4/\i=.int .i64 k/\Bx wr w.heap.size 116 #[uk k 0 a e,uk k 1 b f,uk k 2 c g,uk k 3 d h]/\Bx wr (w.heap.size+2) 116 #[.int .u64 0,.int .u64 0,.int .u64 0,.int .u64 0]/\Below w.heap.size w wr)
  (fun i _=>4-(RowKit.intOf i).toNat)
 case atStart =>
  have hz:=Bx.new ((w.alloc (.cells #[.int .u64 a,.int .u64 b,.int .u64 c,.int .u64 d] 116)).alloc (.cells #[.int .u64 e,.int .u64 f,.int .u64 g,.int .u64 h] 116)) 116 #[.int .u64 0,.int .u64 0,.int .u64 0,.int .u64 0];exact⟨0,by omega,rfl,((Bx.new w 116 _).alloc _).alloc _,by simpa using hz,(((afI _ w).alloc afD _).alloc (by simp) _).alloc (by simp;omega) _⟩
 case round =>
  obtain⟨k,hk,rfl,h1,h2,hB⟩:=hrel;obtain rfl|rfl|rfl|rfl|rfl:k=0\/k=1\/k=2\/k=3\/k=4:=by omega
  ·have c0:wr.cell? ⟨w.heap.size,0,none⟩=some (.int .u64 (a:Nat)):=h1.cell 0
   have f0:=h1.frozen 0;have ix:=tC (.int .u64 e) (.int .u64 f) (.int .u64 g) (.int .u64 h);have hs:Bx (wr.setCell ⟨w.heap.size,0,none⟩ (.int .u64 (a &&& e:Nat))) w.heap.size 116 #[uk 1 0 a e,uk 1 1 b f,uk 1 2 c g,uk 1 3 d h]:=Bx.set h1 0 (.int .u64 (a &&& e:Nat));have ho:Bx (wr.setCell ⟨w.heap.size,0,none⟩ (.int .u64 (a &&& e:Nat))) (w.heap.size+2) 116 _:=h2.other (by omega);have hb:=hB.setCell (p:=⟨w.heap.size,0,none⟩) afD (.int .u64 (a &&& e:Nat));go_wp2
   exact⟨⟨1,by omega,rfl,hs,ho,hb⟩,by simp[RowKit.intOf]⟩
  ·have c0:wr.cell? ⟨w.heap.size,1,none⟩=some (.int .u64 (b:Nat)):=h1.cell 1
   have f0:=h1.frozen 1;have ix:=tH (.int .u64 e) (.int .u64 f) (.int .u64 g) (.int .u64 h);have hs:Bx (wr.setCell ⟨w.heap.size,1,none⟩ (.int .u64 (b &&& f:Nat))) w.heap.size 116 #[uk 2 0 a e,uk 2 1 b f,uk 2 2 c g,uk 2 3 d h]:=Bx.set h1 1 (.int .u64 (b &&& f:Nat));have ho:Bx (wr.setCell ⟨w.heap.size,1,none⟩ (.int .u64 (b &&& f:Nat))) (w.heap.size+2) 116 _:=h2.other (by omega);have hb:=hB.setCell (p:=⟨w.heap.size,1,none⟩) afD (.int .u64 (b &&& f:Nat));go_wp2
   exact⟨⟨2,by omega,rfl,hs,ho,hb⟩,by simp[RowKit.intOf]⟩
  ·have c0:wr.cell? ⟨w.heap.size,2,none⟩=some (.int .u64 (c:Nat)):=h1.cell 2
   have f0:=h1.frozen 2;have ix:=tJ (.int .u64 e) (.int .u64 f) (.int .u64 g) (.int .u64 h);have hs:Bx (wr.setCell ⟨w.heap.size,2,none⟩ (.int .u64 (c &&& g:Nat))) w.heap.size 116 #[uk 3 0 a e,uk 3 1 b f,uk 3 2 c g,uk 3 3 d h]:=Bx.set h1 2 (.int .u64 (c &&& g:Nat));have ho:Bx (wr.setCell ⟨w.heap.size,2,none⟩ (.int .u64 (c &&& g:Nat))) (w.heap.size+2) 116 _:=h2.other (by omega);have hb:=hB.setCell (p:=⟨w.heap.size,2,none⟩) afD (.int .u64 (c &&& g:Nat));go_wp2
   exact⟨⟨3,by omega,rfl,hs,ho,hb⟩,by simp[RowKit.intOf]⟩
  ·have c0:wr.cell? ⟨w.heap.size,3,none⟩=some (.int .u64 (d:Nat)):=h1.cell 3
   have f0:=h1.frozen 3;have ix:=tK (.int .u64 e) (.int .u64 f) (.int .u64 g) (.int .u64 h);have hs:Bx (wr.setCell ⟨w.heap.size,3,none⟩ (.int .u64 (d &&& h:Nat))) w.heap.size 116 #[uk 4 0 a e,uk 4 1 b f,uk 4 2 c g,uk 4 3 d h]:=Bx.set h1 3 (.int .u64 (d &&& h:Nat));have ho:Bx (wr.setCell ⟨w.heap.size,3,none⟩ (.int .u64 (d &&& h:Nat))) (w.heap.size+2) 116 _:=h2.other (by omega);have hb:=hB.setCell (p:=⟨w.heap.size,3,none⟩) afD (.int .u64 (d &&& h:Nat));go_wp2
   exact⟨⟨4,by omega,rfl,hs,ho,hb⟩,by simp[RowKit.intOf]⟩
  ·have c0:wr.cell? ⟨w.heap.size,0,none⟩=some (.int .u64 (a &&& e:Nat)):=h1.cell 0
   have c1:wr.cell? ⟨w.heap.size,1,none⟩=some (.int .u64 (b &&& f:Nat)):=h1.cell 1;have c2:wr.cell? ⟨w.heap.size,2,none⟩=some (.int .u64 (c &&& g:Nat)):=h1.cell 2;have c3:wr.cell? ⟨w.heap.size,3,none⟩=some (.int .u64 (d &&& h:Nat)):=h1.cell 3;clear xa xb xc xd;go_wp2_with ((with_reducible refine bK ?_);refine AX.aj (vs:=[.int .u64 (a &&& e:Nat),.int .u64 (b &&& f:Nat),.int .u64 (c &&& g:Nat),.int .u64 (d &&& h:Nat)]) rfl rfl vY h2 rfl rfl ?_;rintro W9 h3 h4 h5)
   have h3':Bx W9 (w.heap.size+2) 116 #[.int .u64 (a &&& e:Nat),.int .u64 (b &&& f:Nat),.int .u64 (c &&& g:Nat),.int .u64 (d &&& h:Nat)]:=h3;have d0:=h3'.cell 0;have d1:=h3'.cell 1;have d2:=h3'.cell 2;have d3:=h3'.cell 3;have hB9:Below w.heap.size w W9:=hB.trans (AX.ah (by omega) (.inl (afF.1 h3).1) h4 h5);exact afJ (v:=.agg #[.int .u64 (a &&& e:Nat),.int .u64 (b &&& f:Nat),.int .u64 (c &&& g:Nat),.int .u64 (d &&& h:Nat)]) (by simp[results,Tryz.results103,go_sem,d0,d1,d2,d3]) rfl ⟨rfl,hB9⟩
end
section
open Go Go.Proofs Go.RowKit Go.Shelf Go.Lib Go.Sort
attribute [local go_sem] Oper.semAt_some
structure BQ(w:World) where
 W:World
 h:Below w.heap.size w W
instance (w:World):Inhabited (BQ w):=⟨⟨w,afI _ w⟩⟩
theorem BH{P:Program}{id:Nat}{Q:Exit->Act->World->Prop}{a:Act}{w:World}{l:List Oper}(hm:P.follows .mixedOrders=true)(hB:Region.lexB .any l.toArray=true)
  (h:wpQuiet P l.toArray (fun w'=>∃p:BQ w,w'=p.W) (fun a'=>∀w',(∃p:BQ w,w'=p.W)->Q .normal a' w') l a):(Code.region id l.toArray true).wp P Q a w:=
 wp_region_quiet (C:=fun w'=>∃p:BQ w,w'=p.W) hm hB ⟨⟨w.drew,(afI _ w).drew⟩,rfl⟩ (by simpa using h)
theorem Calls.vZ{P:Program}{f:FuncId}{args:Array Value}{w:World}{p:BQ w}{v:Value}
  (h:Calls P f args p.W fun e w'=>e=.returned v/\Below p.W.heap.size p.W w'):Calls P f args p.W fun e w''=>e=.returned v/\∃q:BQ w,w''=q.W:=
 h.mono fun _ w' ⟨he,hb⟩=>⟨he,⟨w',p.h.trans (hb.mono p.h.size)⟩,rfl⟩
def jM(W:World)(B off:Nat)(l:List Kl):Prop:=∀i (h:i<l.length),∀j v,(bI l[i])[j]?=some v->W.cell? ⟨B,off+i*4+j,none⟩=some v
theorem jM.below{n B off:Nat}{l:List Kl}{w w':World}(h:jM w B off l)(hb:Below n w w')(hn:B<n):jM w' B off l:=
 fun i hi j v hv=>(hb.cell (p:=⟨B,off+i*4+j,none⟩) hn).trans (h i hi j v hv)
theorem Oj(B o j:Nat):(⟨B,o,none⟩:Addr).add j=⟨B,o+j,none⟩:=by unfold Addr.add;split<;>simp_all
structure KAt(W:World)(B o:Nat)(x:Kl):Prop where
 c0:W.cell? ⟨B,o,none⟩=some (.int .u64 (x.a:Nat))
 c1:W.cell? ⟨B,o+1,none⟩=some (.int .u64 (x.b:Nat))
 c2:W.cell? ⟨B,o+2,none⟩=some (.int .u64 (x.c:Nat))
 c3:W.cell? ⟨B,o+3,none⟩=some (.int .u64 (x.d:Nat))
theorem KAt.below{n B o:Nat}{x:Kl}{w w':World}(h:KAt w B o x)(hb:Below n w w')(hn:B<n):KAt w' B o x:=
 ⟨(hb.cell (p:=⟨B,o,none⟩) hn).trans h.c0,(hb.cell (p:=⟨B,o+1,none⟩) hn).trans h.c1,(hb.cell (p:=⟨B,o+2,none⟩) hn).trans h.c2,(hb.cell (p:=⟨B,o+3,none⟩) hn).trans h.c3⟩
theorem jM.c4{B off:Nat}{l:List Kl}{w:World}(h:jM w B off l){i:Nat}(hi:i<l.length):KAt w B (off+i*4) l[i]:=
 ⟨h i hi 0 _ rfl,h i hi 1 _ rfl,h i hi 2 _ rfl,h i hi 3 _ rfl⟩
theorem Hf(l:List Kl):(l.flatMap bI).length=l.length*4:=by
 induction l with
 | nil=>rfl
 | cons x l ih=>rw[agG,afP,ih,kM,agl];omega
theorem flat_get:∀(l:List Kl)(i:Nat)(h:i<l.length)(j:Nat)(v:Value),(bI l[i])[j]?=some v->(l.flatMap bI)[i*4+j]?=some v
 | x::l,0,_,j,v,hv=>by
  have hj:j<(bI x).length:=(afW.1 hv).1;rw[agG,aia,af9,af6 hj];exact hv
 | x::l,i+1,h,j,v,hv=>by
  rw[agG,aga (by rw[kM];omega),kM,show(i+1)*4+j-4=i*4+j by omega];exact flat_get l i (by simpa using h) j v (by simpa using hv)
theorem Dq{w:World}{base g n cap:Nat}{l:List Kl}(h:w.ownsRow base 116 4 (.slice (some ⟨g,0,none⟩) n cap) n (l.flatMap bI)):jM w g 0 l:=by
 intro i hi j v hv;have:=h.cells (g:=g) rfl (i*4+j) v (flat_get l i hi j v hv);rw[af9];have e:(⟨g,0,none⟩:Addr).add (i*4+j)=⟨g,i*4+j,none⟩:=by unfold Addr.add;split<;>simp_all
 rwa [e]at this
theorem EK{w:World}{base g n cap:Nat}{l:List Kl}(h:w.ownsRow base 116 4 (.slice (some ⟨g,0,none⟩) n cap) n (l.flatMap bI)):HoldsK bI 4 w g 0 l.toArray:=by
 intro j hj;rw[size_flatK]at hj;have hj4:j / 4<l.length:=by simp at hj;omega
 have hr:=Dq h (j / 4) hj4 (j % 4) ((bI l[j / 4])[j % 4]'(by rw[kM];omega)) (afE _);have e:0+j / 4*4+j % 4=0+j:=by omega
 rw[e]at hr;refine⟨?_,?_⟩
 ·rw[hr,get_flatK _ _ _ _ hj]
  simp[hj4];rw[afE (by rw[kM];omega)];rfl
 ·rcases h.2 with ⟨h0,_⟩|⟨g',cap',cur,h0,_,hg,_⟩
  ·cases h0
  ·cases h0
   simp[World.frozen?,hg]
theorem zU{w:World}{g off:Nat}{d:Array Kl}(h:HoldsK bI 4 w g off d):jM w g off d.toList:=by
 intro i hi j v hv;have hi':i<d.size:=by simpa using hi
 have hj:j<4:=by have:=(afW.1 hv).1;rwa [kM]at this
 rw[(HoldsK.cell h hi' hj).1];have e:d[i]! = d.toList[i]:=by simp[hi']
 rw[e,List.getElem!_eq_getElem?_getD,hv];rfl
theorem Ry:(Tryz.prog.info? 116).map (fun i=>(i.zero,i.size,i.bytes))=some (some (.agg #[.int .u64 0,.int .u64 0,.int .u64 0,.int .u64 0]),4,32):=by kernel_rfl
theorem zV{n₀ B:Nat}{e:TypeId}{k:Nat}{v:Value}{n:Nat}{xs:List Value}{w w':World}(h:w.ownsRow B e k v n xs)(hb:Below n₀ w w')(hl:∀g,v.ownBlock=some g->g<n₀):w'.ownsRow B e k v n xs:=by
 refine⟨h.1,?_⟩;rcases h.2 with hn|⟨g,cap,cur,rfl,hg,hh,rest⟩
 ·exact .inl hn
 ·exact .inr ⟨g,cap,cur,rfl,hg,(hb.block g (hl g rfl)).trans hh,rest⟩
theorem Dt{B:Nat}{e:TypeId}{k:Nat}{a:Option Addr}{n c:Nat}{xs:List Value}{w:World}(h:w.ownsRow B e k (.slice a n c) n xs)(hn:0<n):∃g,a=some ⟨g,0,none⟩:=by
 rcases h.2 with ⟨_,h0⟩|⟨g,cap,cur,h0,_⟩
 ·omega
 ·cases h0
  exact⟨g,rfl⟩
theorem LK(w:World)(x:Kl):KAt (w.alloc (.cells #[.int .u64 (x.a:Nat),.int .u64 (x.b:Nat),.int .u64 (x.c:Nat),.int .u64 (x.d:Nat)] 116)) w.heap.size 0 x:=
 ⟨by simp,by simp,by simp,by simp⟩
theorem Du(w:World)(x:Kl):∀j u,(bI x)[j]?=some u->(w.alloc (.cells #[.int .u64 (x.a:Nat),.int .u64 (x.b:Nat),.int .u64 (x.c:Nat),.int .u64 (x.d:Nat)] 116)).cell? ((⟨w.heap.size,0,none⟩:Addr).add j)=some u:=by
 intro j u hj;rw[Oj,af9];simp only[bI]at hj
 match j,hj with
 | 0,hj=>simp at hj;subst hj;simp
 | 1,hj=>simp at hj;subst hj;simp
 | 2,hj=>simp at hj;subst hj;simp
 | 3,hj=>simp at hj;subst hj;simp
 | j+4,hj=>simp at hj
theorem Xw(x c:Kl)(w:World):Calls Tryz.prog 103 #[.agg #[.int .u64 (x.a:Nat),.int .u64 (x.b:Nat),.int .u64 (x.c:Nat),.int .u64 (x.d:Nat)],.agg #[.int .u64 (c.a:Nat),.int .u64 (c.b:Nat),.int .u64 (c.c:Nat),.int .u64 (c.d:Nat)]] w fun e w' =>
 e=.returned (.agg #[.int .u64 ((x.and c).a:Nat),.int .u64 ((x.and c).b:Nat),.int .u64 ((x.and c).c:Nat),.int .u64 ((x.and c).d:Nat)])/\Below w.heap.size w w':=YU x.a x.b x.c x.d c.a c.b c.c c.d (x.h 0) (x.h 1) (x.h 2) (x.h 3) (c.h 0) (c.h 1) (c.h 2) (c.h 3) w
theorem adD(x:Kl)(w:World):Calls Tryz.prog 104 #[.agg #[.int .u64 (x.a:Nat),.int .u64 (x.b:Nat),.int .u64 (x.c:Nat),.int .u64 (x.d:Nat)]] w fun e w' =>
 e=.returned (.agg #[.int .u64 (x.not.a:Nat),.int .u64 (x.not.b:Nat),.int .u64 (x.not.c:Nat),.int .u64 (x.not.d:Nat)])/\Below w.heap.size w w':=LJ x.a x.b x.c x.d (x.h 0) (x.h 1) (x.h 2) (x.h 3) w
theorem Vx(x0 x1 x2 x3 x4 x5 x6 x7:Value)(w:World):(Instr.index 178 (.agg #[x0,x1,x2,x3,x4,x5,x6,x7]) (.int .i64 0)).run Tryz.prog w=.ok (.agg #[x0,x1,x2,x3]) w:=by kernel_rfl
theorem Vy(x0 x1 x2 x3 x4 x5 x6 x7:Value)(w:World):(Instr.index 178 (.agg #[x0,x1,x2,x3,x4,x5,x6,x7]) (.int .i64 1)).run Tryz.prog w=.ok (.agg #[x4,x5,x6,x7]) w:=by kernel_rfl
def pre2(y z:Kl):Nat->List Kl
 | 0=>[]
 | 1=>if y.isZ then []else [y]
 | _=>(if y.isZ then []else [y])++(if z.isZ then []else [z])
theorem Rz(y z:Kl):∀p,(pre2 y z p).length<=2
 | 0=>by simp[pre2]
 | 1=>by show(if y.isZ then []else [y]).length<=2;split<;>simp
 | p+2=>by
  show ((if y.isZ then []else [y])++(if z.isZ then []else [z])).length<=2
  rw[afP];split<;>split<;>simp
theorem RD(l:List Kl)(y:Kl):(l++[y]).flatMap bI=l.flatMap bI++bI y:=by simp
theorem Hg{ops:Array Oper}{rest:List Oper}{o:Oper}{a:Act}{Q:Exit->Act->World->Prop}(W:World)(base:Nat)(v:Value)(pre:List Kl)(y:Kl)(hgd:o.guard=none)(s x:Operand)
  (ho:o.op=.call {callee:=.builtin .append,args:=#[s,x],argTypes:=#[71,71]}) (hs:a.eval s=v) (hown:W.ownsRow base 116 4 v pre.length (pre.flatMap bI)) (ad:Addr) (hx:a.eval x=.slice (some ad) 1 1)
  (hc:∀j u,(bI y)[j]?=some u->W.cell? (ad.add j)=some u) (hl:pre.length<=1000000) (hb:base<=W.heap.size)
  (h:∀v' w',w'.ownsRow base 116 4 v' (pre++[y]).length ((pre++[y]).flatMap bI)->Below base W w'->wpList Tryz.prog ops Q rest (a.put o.dst v') w'):wpList Tryz.prog ops Q (o::rest) a W:=by
 obtain⟨ti,hi,hz0,hz1,hz2⟩:=info_parts Ry;refine wpList_append_own W hgd s x 71 ho base 116 ti (.agg #[.int .u64 0,.int .u64 0,.int .u64 0,.int .u64 0]) 4 32 Tryz.underlying71 hi hz0 hz1 hz2 rfl (by decide) v pre.length _ hs hown ad 1 1 (bI y) hx rfl hc (He y) (by unfold maxLen;omega) (by omega) hb ?_;intro v' w' h1 h2 _;refine h v' w' ?_ ((afI base W).grown h2 hb fun k hk=>(hown.lt k hk).1);rw[RD,afP,ags];exact h1
end
section
open Go Kl
def eF(d:List Kl):List Nat:=d.map Kl.low
def eX(d:List Kl)(x:Nat):Nat:=d.findIdx (fun c=>c.has x)
theorem tY{p:Kl}{i:Nat}(hi:i<256)(h:p.has i=true):p.low<256/\p.has p.low=true/\p.low<=i:=by
 obtain⟨h1,h2⟩:=Vt h hi;exact⟨Rt p,(zO.1 h1).2,h2⟩
theorem oU{l d:List Kl}(h:fB l d){i j:Nat}(hi:i<d.length)(hj:j<d.length){x:Nat}(hx:x<256)(h1:d[i].has x=true)(h2:d[j].has x=true):i=j:=by
 have key:∀i j (hi:i<d.length) (hj:j<d.length),i<j->d[i].has x=true->d[j].has x=true->False:=fun i j hi hj hij a b=>by
  have:=ahP.1 h.apart i j hi hj hij x x hx hx a b;obtain⟨c,_,hc⟩:=this;exact hc rfl
 by_cases hij:i<j
 ·exact(key i j hi hj hij h1 h2).elim
 by_cases hji:j<i
 ·exact(key j i hj hi hji h2 h1).elim
 ·omega
theorem Af{l d:List Kl}(h:fB l d){x:Nat}(hx:x<256):∃hl:eX d x<d.length,d[eX d x].has x=true:=by
 obtain⟨p,hp,hpx⟩:=h.all x hx;have hl:eX d x<d.length:=agT ⟨p,hp,hpx⟩;exact⟨hl,ag4 (w:=hl)⟩
theorem Yq{l d:List Kl}(h:fB l d)(hs:d.Pairwise fun x y=>x.low<=y.low):Lay (eF d) (eX d):=by
 have hlen:(eF d).length=d.length:=agf ..;have hlow:∀j (hj:j<d.length),d[j].low<256/\d[j].has d[j].low=true:=fun j hj=>by
  obtain⟨i,hi,hh⟩:=h.some d[j] (agu hj);exact⟨(tY hi hh).1,(tY hi hh).2.1⟩
 refine⟨fun x hx=>?_,fun x hx=>?_,fun j hj=>?_,fun i j hi hj hij=>?_⟩
 ·obtain⟨hl,_⟩:=Af h hx
  rw[hlen];exact hl
 ·obtain⟨hl,hh⟩:=Af h hx
  simp only[eF,ahi];exact(tY hx hh).2.2
 ·have hj':j<d.length:=by rw[<-hlen];exact hj
  obtain⟨h1,h2⟩:=hlow j hj';simp only[eF,ahi];refine⟨h1,?_⟩;obtain⟨hl,hh⟩:=Af h h1;exact oU h hl hj' h1 hh h2
 ·have hi':i<d.length:=by rw[<-hlen];exact hi
  have hj':j<d.length:=by rw[<-hlen];exact hj
  simp only[eF,ahi];have hle:=ahP.1 hs i j hi' hj' hij
  by_cases he:d[i].low=d[j].low
  ·have a:=hlow i hi'
   have b:=hlow j hj';rw[<-he]at b;have:=oU h hi' hj' a.1 a.2 b.2;omega
  ·omega
end
section
theorem vX(l:List Kl):(parts l).length<=256:=by
 have ok:=tu l;have nz:∀k:Nat,∃x:Nat,∀hk:k<(parts l).length,x<256/\(parts l)[k].has x=true:=fun k=>by
  by_cases hk:k<(parts l).length
  ·obtain⟨x,hx,h⟩:=ok.some _ (agu hk)
   exact⟨x,fun _=>⟨hx,h⟩⟩
  ·exact⟨0,fun h=>absurd h hk⟩
 obtain⟨f,hf⟩:=Classical.axiomOfChoice nz;have nd:((List.range (parts l).length).map f).Nodup:=by
  refine ahP.2 fun i j hi hj hij e=>?_;simp only[agf,ahF]at hi hj;simp only[ahi,aik]at e;have h1:=hf i hi;have h2:=hf j hj;rw[e]at h1;have:=oU ok hi hj h2.1 h1.2 h2.2;omega
 have:=agQ (l₂:=List.range 256) nd fun x hx=>by
  obtain⟨k,hk,rfl⟩:=agv.1 hx;exact agH.2 (hf k (agH.1 hk)).1
 simpa using this
end
section
open Go.Lib (hid)
open Go Go.Proofs Go.RowKit Go.Shelf
attribute [local go_sem] Oper.semAt_some
theorem Vz(w:World)(base:Nat)(x:Kl)(hb:base<=w.heap.size):(w.alloc (.cells (bI x).toArray 116)).ownsRow base 116 4 (.slice (some ⟨w.heap.size,0,none⟩) 1 1) 1 (bI x):=
 ⟨rfl,.inr ⟨w.heap.size,1,(bI x).toArray,rfl,hb,World.alloc_heap_new w _,agq _,by decide,by simp[bI],by simp[bI]⟩⟩
theorem Hl(l:List Kl)(hl:l.length<=1024)(la:Option Addr)(c:Nat)(w:World)(hp:0<w.heap.size)(hT:TabAt w)
  (hL:l≠[]->∃B off,la=some ⟨B,off,none⟩/\B<w.heap.size/\jM w B off l):
  Calls Tryz.prog 63 #[.slice la l.length c] w fun e w'=>∃g cap,∃d:List Kl,e=.returned (.slice (some ⟨g,0,none⟩) d.length cap)/\w.heap.size<=g/\g<w'.heap.size/\d.Perm (parts l)/\d.Pairwise (fun x y=>x.low<=y.low)/\jM w' g 0 d/\Below w.heap.size w w':=by
 have hr:=hid (fun W=>oV 0 255 (by decide) (by decide) W);go_enter Tryz.func63,Tryz.ntmps63
 go_wp2_with fail
 refine(hr.out w).mono ?_;rintro e W0 ⟨rfl,hB0⟩;go_wp2_with fail
 have hR1:=Vz W0 w.heap.size Kl.full hB0.size;have hB1:Below w.heap.size w (W0.alloc (.cells (bI Kl.full).toArray 116)):=hB0.alloc hB0.size _;have hsg:w.heap.size<=W0.heap.size:=hB0.size;change Below w.heap.size w (W0.alloc (.cells #[.int .u64 (cw (rng 0 255) 0:Nat),.int .u64 (cw (rng 0 255) 1:Nat),.int .u64 (cw (rng 0 255) 2:Nat),.int .u64 (cw (rng 0 255) 3:Nat)] 116))at hB1;change World.ownsRow (W0.alloc (.cells #[.int .u64 (cw (rng 0 255) 0:Nat),.int .u64 (cw (rng 0 255) 1:Nat),.int .u64 (cw (rng 0 255) 2:Nat),.int .u64 (cw (rng 0 255) 3:Nat)] 116)) _ _ _ _ _ _ at hR1;generalize (W0.alloc (.cells #[.int .u64 (cw (rng 0 255) 0:Nat),.int .u64 (cw (rng 0 255) 1:Nat),.int .u64 (cw (rng 0 255) 2:Nat),.int .u64 (cw (rng 0 255) 3:Nat)] 116))=W1 at *;go_loopw [3,15] (fun vo vi wr=>∃k:Nat,k<=l.length/\vi=.int .i64 k/\wr.ownsRow w.heap.size 116 4 vo (parts (l.take k)).length ((parts (l.take k)).flatMap bI)/\Below w.heap.size w wr)
  (fun _ vi _=>l.length-(RowKit.intOf vi).toNat)
 case atStart=>exact⟨0,af0 _,rfl,hR1,hB1⟩
 case round =>
  obtain⟨k,hk,rfl,hro,hB⟩:=hrel
  by_cases hlt:k<l.length
  ·obtain⟨B,off,rfl,hBl,hRow⟩:=hL (by intro e;subst e;cases hlt)
   have hst:parts (l.take (k+1))=stp (parts (l.take k)) l[k]:=(by rw[agy hlt,JL]);have hlen:(parts (l.take k)).length<=4096:=agb (vX _) (by decide);have hka:=(hRow.below hB hBl).c4 hlt;have HST:=hid hst;clear hst;generalize parts (l.take k)=out at *;generalize l[k]=ck at *;obtain⟨ca,cb,cc,cd,ch⟩:=ck;obtain⟨k0,k1,k2,k3⟩:=id hka;simp only at k0 k1 k2 k3;have hk0:(0:Int)<=(k:Int):=(by omega);have hk1:(k:Int)<(l.length:Int):=(by omega);obtain⟨oa,oc,rfl⟩:=aU hro;go_wp2_with fail
   have hC:=LK wr ⟨ca,cb,cc,cd,ch⟩;simp only at hC;have abb:=hro.alloc (.cells #[.int .u64 (ca:Nat),.int .u64 (cb:Nat),.int .u64 (cc:Nat),.int .u64 (cd:Nat)] 116);have hB2:Below w.heap.size w (wr.alloc (.cells #[.int .u64 (ca:Nat),.int .u64 (cb:Nat),.int .u64 (cc:Nat),.int .u64 (cd:Nat)] 116)):=hB.alloc hB.size _;have hN2:(wr.alloc (.cells #[.int .u64 (ca:Nat),.int .u64 (cb:Nat),.int .u64 (cc:Nat),.int .u64 (cd:Nat)] 116)).heap.size=wr.heap.size+1:=(by simp);have hog:=fun g (e:(Value.slice oa out.length oc).ownBlock=some g)=>hro.lt g e;have hwN:=hB.size;clear hRow hka k0 k1 k2 k3;obtain⟨cK,hcK⟩:∃cK:Kl,cK=⟨ca,cb,cc,cd,ch⟩:=⟨_,rfl⟩;rw[<-hcK]at hC HST;obtain⟨b5,hb5⟩:=afC wr.heap.size;rw[<-hb5]at hC hN2 hog hwN;generalize (wr.alloc (.cells #[.int .u64 (ca:Nat),.int .u64 (cb:Nat),.int .u64 (cc:Nat),.int .u64 (cd:Nat)] 116))=W2 at *;rw[<-hb5];have HB5:=hid hb5;clear hb5 hro hB;go_loopw [6,21] (fun vn vm wr=>∃m:Nat,m<=out.length/\vm=.int .i64 m/\wr.ownsRow (b5+1) 116 4 vn ((out.take m).flatMap (halves cK)).length (((out.take m).flatMap (halves cK)).flatMap bI)/\Below (b5+1) W2 wr)
    (fun _ vm _=>out.length-(RowKit.intOf vm).toNat)
   case atStart=>exact⟨0,af0 _,rfl,World.ownsRow_nil _ _ _ _,afI _ _⟩
   case round =>
    obtain⟨m,hm,rfl,hrn,hBn⟩:=hrel
    by_cases hlm:m<out.length
    ·have hst2:(out.take (m+1)).flatMap (halves cK)=(out.take m).flatMap (halves cK)++halves cK out[m]:=by rw[agy hlm,ag7];simp
     have hpl:((out.take m).flatMap (halves cK)).length<=2*m:=by
      have h1:(stp (out.take m) cK).length<=2*(out.take m).length:=Vu _ _;have h2:(out.take m).length<=m:=(by rw[agZ];omega);unfold stp at h1;omega
     obtain⟨og,rfl⟩:=Dt abb (by omega);have hgl:og<b5:=(hog og rfl).2;have hka:=(Dq (zV abb hBn (fun g e=>by have:=(hog g e).2;omega))).c4 hlm;rw[af9]at hka;have JO:=hid hst2;clear hst2;generalize (out.take m).flatMap (halves cK)=pre at *;generalize out[m]=xk at *;obtain⟨xa,xb,xc,xd,xh⟩:=xk;obtain⟨k0,k1,k2,k3⟩:=id hka;simp only at k0 k1 k2 k3;have hm0:(0:Int)<=(m:Int):=(by omega);have hm1:(m:Int)<(out.length:Int):=(by omega);go_wp2_with fail
     obtain⟨xK,hxK⟩:∃xK:Kl,xK=⟨xa,xb,xc,xd,xh⟩:=⟨_,rfl⟩;have hX:=LK wr xK;rw[hxK]at hX;simp only at hX;rw[<-hxK]at hX;have YV:=hrn.alloc (.cells #[.int .u64 (xa:Nat),.int .u64 (xb:Nat),.int .u64 (xc:Nat),.int .u64 (xd:Nat)] 116);have YW:Below (b5+1) W2 (wr.alloc (.cells #[.int .u64 (xa:Nat),.int .u64 (xb:Nat),.int .u64 (xc:Nat),.int .u64 (xd:Nat)] 116)):=hBn.alloc (by have:=hBn.size;omega) _;have hs3:(wr.alloc (.cells #[.int .u64 (xa:Nat),.int .u64 (xb:Nat),.int .u64 (xc:Nat),.int .u64 (xd:Nat)] 116)).heap.size=wr.heap.size+1:=(by simp);have hwb:b5+1<=wr.heap.size:=(by have:=hBn.size;omega);clear k0 k1 k2 k3 hka hrn;obtain⟨bx,hbx⟩:=afC wr.heap.size;rw[<-hbx]at hX hs3 hwb;generalize (wr.alloc (.cells #[.int .u64 (xa:Nat),.int .u64 (xb:Nat),.int .u64 (xc:Nat),.int .u64 (xd:Nat)] 116))=W3 at *;rw[<-hbx];have HBX:=hid hbx;clear hbx;have hC3:=KAt.below (n:=b5+1) hC YW (ag9 _);obtain⟨c0,c1,c2,c3⟩:=hC3;obtain⟨x0,x1,x2,x3⟩:=hX;have hm1:=Xw xK cK;have hnk:=adD cK;have hm2:=Xw xK cK.not;obtain⟨y,hy⟩:=afC (xK.and cK);obtain⟨nk,VA⟩:=afC cK.not;rw[<-VA]at hm2 hnk;obtain⟨z,hz⟩:=afC (xK.and nk);rw[<-hy]at hm1;rw[<-hz]at hm2;have hhv:halves cK xK=pre2 y z 2:=(by rw[hy,hz,VA];rfl);have hzy:=zW y;have hzz:=zW z;have HHV:=hid hhv;have HYE:=hid hy;have HZE:=hid hz;have HNE:=hid VA;clear hhv hy hz VA;rw[hcK]at c0 c1 c2 c3 hm1 hnk;rw[hxK]at x0 x1 x2 x3 hm1 hm2;obtain⟨ya,yb,yc,yd,yh⟩:=y;obtain⟨za,zb,zc,zd,zh⟩:=z;obtain⟨na,nb,nc,nd,nh⟩:=nk;simp only at c0 c1 c2 c3 x0 x1 x2 x3 hm1 hm2 hnk hzy hzz;have d0:∀p:BQ W3,p.W.cell? ⟨b5,0,none⟩=some (.int .u64 (ca:Nat)):=fun p=>(p.h.cell (p:=⟨b5,0,none⟩) (by show b5<_;omega)).trans c0;have d1:∀p:BQ W3,p.W.cell? ⟨b5,1,none⟩=some (.int .u64 (cb:Nat)):=fun p=>(p.h.cell (p:=⟨b5,1,none⟩) (by show b5<_;omega)).trans c1;have d2:∀p:BQ W3,p.W.cell? ⟨b5,2,none⟩=some (.int .u64 (cc:Nat)):=fun p=>(p.h.cell (p:=⟨b5,2,none⟩) (by show b5<_;omega)).trans c2;have d3:∀p:BQ W3,p.W.cell? ⟨b5,3,none⟩=some (.int .u64 (cd:Nat)):=fun p=>(p.h.cell (p:=⟨b5,3,none⟩) (by show b5<_;omega)).trans c3;have e0:∀p:BQ W3,p.W.cell? ⟨bx,0,none⟩=some (.int .u64 (xa:Nat)):=fun p=>(p.h.cell (p:=⟨bx,0,none⟩) (by show bx<_;omega)).trans x0;have e1:∀p:BQ W3,p.W.cell? ⟨bx,1,none⟩=some (.int .u64 (xb:Nat)):=fun p=>(p.h.cell (p:=⟨bx,1,none⟩) (by show bx<_;omega)).trans x1;have e2:∀p:BQ W3,p.W.cell? ⟨bx,2,none⟩=some (.int .u64 (xc:Nat)):=fun p=>(p.h.cell (p:=⟨bx,2,none⟩) (by show bx<_;omega)).trans x2;have e3:∀p:BQ W3,p.W.cell? ⟨bx,3,none⟩=some (.int .u64 (xd:Nat)):=fun p=>(p.h.cell (p:=⟨bx,3,none⟩) (by show bx<_;omega)).trans x3;refine BH (by kernel_rfl) (by kernel_rfl) ?_
     repeat (go_big_quiet_step (first|(go_at_call 104;with_reducible exact Calls.vZ (hnk _))|(go_at_call 103;first|with_reducible exact Calls.vZ (hm1 _)|with_reducible exact Calls.vZ (hm2 _))))
     refine afQ ?_;rintro _ ⟨p,rfl⟩;go_wp2_with fail
     have hBp:Below (b5+1) W2 p.W:=YW.trans (p.h.mono (by omega));have hrp:=zV YV p.h (fun g e=>(YV.lt g e).2);clear d0 d1 d2 d3 e0 e1 e2 e3 c0 c1 c2 c3 x0 x1 x2 x3 YV YW hBn hm1 hm2 hnk;generalize p.W=Wp at *;have i0:=Vx;have i1:=Vy;obtain⟨ti,hi,hz0,hz1,hz2⟩:=info_parts Ry;go_loopw [6,33] (fun vn vq wr=>∃(q:Nat)(qi:Int),qi=q/\q<=2/\vq=.int .i64 qi/\wr.ownsRow (b5+1) 116 4 vn (pre++pre2 ⟨ya,yb,yc,yd,yh⟩ ⟨za,zb,zc,zd,zh⟩ q).length ((pre++pre2 ⟨ya,yb,yc,yd,yh⟩ ⟨za,zb,zc,zd,zh⟩ q).flatMap bI)/\Below (b5+1) W2 wr)
      (fun _ vq _=>2-(RowKit.intOf vq).toNat)
     case atStart=>exact⟨0,0,rfl,by decide,rfl,by simpa[pre2]using hrp,hBp⟩
     case round =>
      obtain⟨q,qi,hqi,hq,rfl,hrq,hBq⟩:=hrel;have hsq:b5+1<=wr.heap.size:=(by have:=hBq.size;omega);have hpq:=Rz ⟨ya,yb,yc,yd,yh⟩ ⟨za,zb,zc,zd,zh⟩ q;obtain rfl|rfl|rfl:q=0\/q=1\/q=2:=by omega
      ·obtain rfl:qi=0:=by omega
       clear hqi hrp hBp
       cases hyz:Kl.isZ ⟨ya,yb,yc,yd,yh⟩with
       | true =>
        rw[hyz]at hzy;go_wp2_with fail
        go_roundw
        case rel=>exact⟨0+1,_,rfl,by decide,rfl,by simpa[pre2,hyz]using hrq.alloc _,hBq.alloc hsq _⟩
        case measure=>simp[RowKit.intOf]
       | false =>
        rw[hyz]at hzy;have hra:=(hrq.alloc (.cells #[.int .u64 (ya:Nat),.int .u64 (yb:Nat),.int .u64 (yc:Nat),.int .u64 (yd:Nat)] 116)).alloc (.cells #[.int .u64 (ya:Nat),.int .u64 (yb:Nat),.int .u64 (yc:Nat),.int .u64 (yd:Nat)] 116);have hBa:=(hBq.alloc hsq (.cells #[.int .u64 (ya:Nat),.int .u64 (yb:Nat),.int .u64 (yc:Nat),.int .u64 (yd:Nat)] 116)).alloc (by simp;omega) (.cells #[.int .u64 (ya:Nat),.int .u64 (yb:Nat),.int .u64 (yc:Nat),.int .u64 (yd:Nat)] 116);have hca:=Du (wr.alloc (.cells #[.int .u64 (ya:Nat),.int .u64 (yb:Nat),.int .u64 (yc:Nat),.int .u64 (yd:Nat)] 116)) ⟨ya,yb,yc,yd,yh⟩;simp only[World.size_alloc]at hca;go_wp2_with (at_builtin;refine Hg _ (b5+1) _ _ ⟨ya,yb,yc,yd,yh⟩ rfl _ _ rfl rfl hra _ rfl hca (by rw[afP];omega) (by simp;omega) ?_;intro v' w1 hown' hgrow)
        go_roundw
        case rel=>exact⟨0+1,_,rfl,by decide,rfl,by simpa[pre2,hyz]using hown',hBa.trans hgrow⟩
        case measure=>simp[RowKit.intOf]
      ·obtain rfl:qi=1:=by omega
       clear hqi hrp hBp
       cases VB:Kl.isZ ⟨za,zb,zc,zd,zh⟩with
       | true =>
        rw[VB]at hzz;go_wp2_with fail
        go_roundw
        case rel=>exact⟨1+1,_,rfl,by decide,rfl,by simpa[pre2,VB]using hrq.alloc _,hBq.alloc hsq _⟩
        case measure=>simp[RowKit.intOf]
       | false =>
        rw[VB]at hzz;have hra:=(hrq.alloc (.cells #[.int .u64 (za:Nat),.int .u64 (zb:Nat),.int .u64 (zc:Nat),.int .u64 (zd:Nat)] 116)).alloc (.cells #[.int .u64 (za:Nat),.int .u64 (zb:Nat),.int .u64 (zc:Nat),.int .u64 (zd:Nat)] 116);have hBa:=(hBq.alloc hsq (.cells #[.int .u64 (za:Nat),.int .u64 (zb:Nat),.int .u64 (zc:Nat),.int .u64 (zd:Nat)] 116)).alloc (by simp;omega) (.cells #[.int .u64 (za:Nat),.int .u64 (zb:Nat),.int .u64 (zc:Nat),.int .u64 (zd:Nat)] 116);have hca:=Du (wr.alloc (.cells #[.int .u64 (za:Nat),.int .u64 (zb:Nat),.int .u64 (zc:Nat),.int .u64 (zd:Nat)] 116)) ⟨za,zb,zc,zd,zh⟩;simp only[World.size_alloc]at hca;go_wp2_with (at_builtin;refine Hg _ (b5+1) _ _ ⟨za,zb,zc,zd,zh⟩ rfl _ _ rfl rfl hra _ rfl hca (by rw[afP];omega) (by simp;omega) ?_;intro v' w1 hown' hgrow)
        go_roundw
        case rel=>exact⟨1+1,_,rfl,by decide,rfl,by simpa[pre2,VB]using hown',hBa.trans hgrow⟩
        case measure=>simp[RowKit.intOf]
      ·obtain rfl:qi=2:=by omega
       clear hqi hrp hBp;go_wp2_with fail
       go_roundw
       case rel =>
        refine⟨m+1,by omega,rfl,?_,hBq⟩;have e:(out.take (m+1)).flatMap (halves cK)=pre++pre2 ⟨ya,yb,yc,yd,yh⟩ ⟨za,zb,zc,zd,zh⟩ 2:=(by rw[JO.out,<-hxK,HHV.out]);rw[e];exact hrq
       case measure=>simp[RowKit.intOf];omega
    ·obtain rfl:m=out.length:=by omega
     rw[agK]at hrn;go_wp2_with fail
     go_roundw
     case rel =>
      refine⟨k+1,by omega,rfl,?_,hB2.trans (hBn.mono (by omega))⟩;rw[HST.out];exact kE hrn (by omega)
     case measure=>simp[RowKit.intOf];omega
  ·obtain rfl:k=l.length:=by omega
   rw[agK]at hro;have hlen:(parts l).length<=4096:=agb (vX _) (by decide);have hok:=tu l;have hpos:0<(parts l).length:=by
    obtain⟨p,hp,_⟩:=hok.all 0 (by decide);exact List.length_pos_of_mem hp
   obtain⟨oa,oc,rfl⟩:=aU hro;obtain⟨g,rfl⟩:=Dt hro hpos;have hg:=hro.lt g rfl;have hso:=JM (hT.below hB hp) (by omega) (blk:=g) (by omega) 0 oc (parts l).toArray (EK hro) hg.2 (by simp;omega);simp only[ahG]at hso;have HSO:=hid hso;clear hso;go_wp2_with fail
   refine HSO.out.mono ?_;rintro e w' ⟨rfl,d,h1,h2,h3,h4⟩;have hB':=hB.trans (h4 _ hg.1);have hs':=(h4 _ hg.1).size;clear hL hR1 hro;have hsz:d.size=(parts l).length:=(by have:=h1.1;simpa using this);have HF:Hid (d.toList.Perm (parts l)/\d.toList.Pairwise (fun x y=>x.low<=y.low)/\jM w' g 0 d.toList):=by
    refine⟨?_,?_,zU h3⟩
    ·have:=h1.2.2
     have e1:d.extract 0 (parts l).length=d:=(by rw[<-hsz];exact Array.extract_size);rw[e1]at this
     simpa using this
    ·rw[ahP]
     intro i j hi hj hij;have hi':i<d.size:=(by simpa using hi);have hj':j<d.size:=(by simpa using hj);have:=h2 i j (af0 _) hij (by simpa[hsz]using hj');rw[ltK,getElem!_pos d j hj',getElem!_pos d i hi']at this
     simpa using this
   clear h1 h2 h3 h4;go_wp2_with fail
   go_ret
   exact⟨g,oc,d.toList,by simp[hsz],hg.1,by omega,HF.out.1,HF.out.2.1,HF.out.2.2,hB'⟩
end
end Go.Proofs.YtkjgogdkdejljaaGreatDoor.Df
