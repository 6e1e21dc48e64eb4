import Derived.Test.YtkjgogdkdejljaaGreatDoorDfB7
set_option maxHeartbeats 40000000
namespace Go.Proofs.YtkjgogdkdejljaaGreatDoor.Df
section
open Go Go.Proofs Go.RowKit
open Rx (Nd dL iM jE pre_eq jB IRd XAt)
attribute [local go_sem] Oper.semAt_some
theorem sz4:AX.sizeT Tryz.prog 4=some 1:=by kernel_rfl
theorem aai:AX.sizeT Tryz.prog 153=some 6:=by kernel_rfl
structure Nc(base:Nat)(w:World)(A:Nat)(x:Nd)(kv:Value)(wz:World):Prop where
 xa:Bx wz A 118 #[.bool false,.map none,.map none]
 xb:Bx wz (A+1) 153 #[.int .i64 x.k,.int .u64 (x.a:Nat),.int .u64 (x.b:Nat),.int .u64 (x.c:Nat),.int .u64 (x.d:Nat),kv]
 kp:Kp base w wz
 hb:base<=wz.heap.size
 hA:w.heap.size<=A
theorem Ci:¬ours 118:=by unfold ours;decide
theorem aam:¬ours 153:=by unfold ours;decide
theorem Nc.go{base:Nat}{w:World}{A:Nat}{x:Nd}{kv:Value}{wz wy:World}(h:Nc base w A x kv wz)(hk:Kp base wz wy):Nc base w A x kv wy:=
 ⟨h.xa.kp hk Ci,h.xb.kp hk aam,h.kp.trans hk,agb h.hb hk.low.size,h.hA⟩
theorem Bd.sb{base:Nat}{W W':World}{Bb:Nat}{cv rv sv:Value}{s:NS}{ms:List Nat}{t:TypeId}(hd:Bd base W Bb cv rv sv s ms)(hs:dH t W W')(h1:(110:TypeId)≠t)(h2:(116:TypeId)≠t)(h3:(3:TypeId)≠t)(h4:(112:TypeId)≠t):Bd base W' Bb cv rv sv s ms:=
 ⟨hd.low,hd.box.aW hs h1,aC hd.c hs h2,aC hd.r hs h3,aC hd.sw hs h4,hd.n1,hd.n2,hd.n3,fun i r S e1 e2=>(hd.set i r S e1 e2).aW hs⟩
theorem Nc.fin{base Bb:Nat}{w:World}{A:Nat}{x:Nd}{kv:Value}{wz wy:World}{y:NS×Pl}{rf rl:Nat}{cv rv sv:Value}{ms:List Nat}{e:Bool}(h:Nc base w A x kv wz)(hb:base<=w.heap.size)(hd:Bd base wz Bb cv rv sv y.1 ms)(h1:aN wz rf y.2.f)(h2:aN wz rl y.2.l)(he:e=y.2.e)
  (g3:Bx wy A 118 #[.bool e,.map (some rf),.map (some rl)]) (g4:∀j,j≠A->wy.heap[j]?=wz.heap[j]?) (g5:AX.Same wz wy):qN base Bb y w (.returned (plV e rf rl)) wy:=by
 have hs:dH 118 wz wy:=aP h.xa g4;have hl:Below base wz wy:=AX.ah (by have:=h.hA;omega) (.inl g3.lt) g4 g5;refine⟨rf,rl,cv,rv,sv,ms,by rw[he],h1.aW hs,h2.aW hs,hd.sb hs (by decide) (by decide) (by decide) (by decide),⟨h.kp.low.trans hl,fun j o hj hn=>(g4 j (by have:=(afF.1 hj).1;have:=h.hA;omega)).trans (h.kp.keep j o hj hn)⟩⟩
theorem XV{x:Nd}(h:x.a<18446744073709551616/\x.b<18446744073709551616/\x.c<18446744073709551616/\x.d<18446744073709551616):(klN x).a=x.a/\(klN x).b=x.b/\(klN x).c=x.c/\(klN x).d=x.d:=
 ⟨ahN h.1,ahN h.2.1,ahN h.2.2.1,ahN h.2.2.2⟩
theorem Ea{Wb:World}{kv:Value}{ks:List Int}(z6:IRd Wb kv ks)(hne:ks≠[]):∃KB ko kc,kv=.slice (some ⟨KB,ko,none⟩) ks.length (ks.length+kc)/\KB<Wb.heap.size/\∀(i:Nat)(y:Int),ks[i]?=some y->Wb.cell? ⟨KB,ko+i,none⟩=some (.int .i64 y):=by
 obtain⟨ka,kc,rfl,hn,hkr⟩:=z6
 cases ka with
 | none=>exact absurd (hn rfl) hne
 | some a =>
  obtain⟨B',o',rfl,h1,h2⟩:=hkr a rfl hne;exact⟨B',o',kc,rfl,h1,h2⟩
def Kids(base Bb:Nat)(Wb:World)(v:Value)(r:List Nd)(f:Nat)(ks:List Int):Prop:=
 ∀k∈ks,∀(w:World)(s:NS)(cv rv sv:Value)(ms:List Nat),iG s->Below base Wb w->Bd base w Bb cv rv sv s ms->s.cl.length+szN r k<=100000->base<=w.heap.size->Calls Tryz.prog 57 #[.pointer (some ⟨Bb,0,none⟩),v,.int .i64 k] w (qN base Bb (aO r f k s) w)
structure Ct(base Bb:Nat)(w:World)(A:Nat)(x:Nd)(kv:Value)(D:Nat)(t:NS×Pl)(wz:World):Prop where
 nc:Nc base w A x kv wz
 bx:∃rf rl,Bx wz D 118 #[.bool t.2.e,.map (some rf),.map (some rl)]/\aN wz rf t.2.f/\aN wz rl t.2.l
 bd:∃cv rv sv ms,Bd base wz Bb cv rv sv t.1 ms
theorem FX(r:List Nd)(ks:List Int){j:Nat}{k:Int}(hk:ks[j]?=some k):szK r (ks.take j)+szN r k<=szK r ks:=by
 obtain⟨hj,rfl⟩:=afW.1 hk;have h1:ks=ks.take j++ks[j]::ks.drop (j+1):=by rw[<-ahw hj,List.take_append_drop]
 conv=>rhs;rw[h1]
 unfold szK;rw[agt,List.sum_append,agd,List.sum_cons];omega
theorem FY(r:List Nd)(ks:List Int){j:Nat}{k:Int}(hk:ks[j]?=some k):ks.take (j+1)=ks.take j++[k]/\szK r (ks.take (j+1))=szK r (ks.take j)+szN r k:=by
 obtain⟨hj,rfl⟩:=afW.1 hk;have e:ks.take (j+1)=ks.take j++[ks[j]]:=agy hj;exact⟨e,by rw[e];unfold szK;rw[agt,List.sum_append];simp⟩
def dY:List AX.Inf:=[⟨0,604462909807314587353088,4096,true⟩,⟨1,1208925819614629174706176,604462909807314587353088,true⟩,⟨2,2417851639229258349412352,1208925819614629174706176,true⟩,⟨4,4835703278458516698824704,2417851639229258349445120,true⟩,⟨12,9671406556917033397649408,7253554917687775048237056,true⟩,⟨20,19342813113834066795298816,12089258196146291747061760,true⟩,⟨0,38685626227668133590597632,4096,true⟩,⟨64,77371252455336267181195264,38685626227668133590597632,true⟩,⟨0,154742504910672534362390528,32768,true⟩,⟨256,309485009821345068724781056,154742504910672534362390528,true⟩,⟨640,618970019642690137449562112,386856262276681335905976320,false⟩,⟨1028,1237940039285380274899124224,618970019642690137449562112,false⟩,⟨0,2475880078570760549798248448,4096,true⟩,⟨4096,4951760157141521099596496896,2475880078570760549798248448,true⟩,⟨0,9903520314283042199192993792,32768,true⟩,⟨16384,19807040628566084398385987584,9903520314283042199192993792,true⟩,⟨40960,39614081257132168796771975168,24758800785707605497982484480,false⟩,⟨67584,79228162514264337593543950336,39614081257132168796771975168,false⟩,⟨133152,158456325028528675187087900672,80485445366663551935238373376,true⟩,⟨524287,0,158456325028528675187087904768,false⟩]
def su:List (Nat×Bool):=[(0,true),(1,true),(2,true),(3,true),(4,true),(5,true),(6,true),(7,true),(8,true),(9,true),(12,true),(13,true),(14,true),(15,true)]
def jm:List (Nat×Nat):=[(17,2),(18,2),(19,2)]
theorem FZ{o:Oper}{a:Act}{w:World}{K:Act->World->Prop}{Q:Exit->Act->World->Prop}{x y:Operand}{r1 r2:Nat}(ho:o.op=.buildSlice 108 2 #[(0,x),(1,y)])(hx:a.eval x=.map (some r1))(hy:a.eval y=.map (some r2))
  (h:K (a.put o.dst (.slice (some ⟨w.heap.size,0,none⟩) 2 2)) (w.alloc (.cells #[.map (some r1),.map (some r2)] 112))):o.wp Tryz.prog a w K Q:=by
 obtain⟨dst,op,ty,pos,after,guard⟩:=o;simp only at ho h;subst ho;unfold Oper.wp;generalize a.eval=ev at *;simp[go_sem,hx,hy];exact h
theorem Jd{o:Oper}{a:Act}{w:World}{K:Act->World->Prop}{Q:Exit->Act->World->Prop}{x y z:Operand}{e:Bool}{r1 r2:Nat}(ho:o.op=.build 118 #[(0,z),(1,x),(2,y)])(hz:a.eval z=.bool e)(hx:a.eval x=.map (some r1))(hy:a.eval y=.map (some r2))
  (h:K (a.put o.dst (plV e r1 r2)) w):o.wp Tryz.prog a w K Q:=by
 obtain⟨dst,op,ty,pos,after,guard⟩:=o;simp only at ho h;subst ho;unfold Oper.wp;generalize a.eval=ev at *;simp[go_sem,hz,hx,hy];exact h
theorem Nc.acW{base:Nat}{w:World}{A:Nat}{x:Nd}{kv:Value}{wz wy:World}(h:Nc base w A x kv wz)(hb:Below wz.heap.size wz wy):Nc base w A x kv wy:=h.go (Kp.of_below hb h.hb)
structure Nb where
 base:Nat
 Bb:Nat
 w:World
 A:Nat
 x:Nd
 kv:Value
 D:Nat
 E:Nat
 e1:Bool
 e2:Bool
 rf1:Nat
 rl1:Nat
 rf2:Nat
 rl2:Nat
 F1:List Int
 L1:List Int
 F2:List Int
 L2:List Int
 y:NS
structure AK(c:Nb)(p q:Nat)(v:Nat->Value)(wz:World):Prop where
 nc:Nc c.base c.w c.A c.x c.kv wz
 xd:Bx wz c.D 118 #[.bool c.e1,.map (some c.rf1),.map (some c.rl1)]
 xe:Bx wz c.E 118 #[.bool c.e2,.map (some c.rf2),.map (some c.rl2)]
 f1:aN wz c.rf1 c.F1
 l1:aN wz c.rl1 c.L1
 f2:aN wz c.rf2 c.F2
 l2:aN wz c.rl2 c.L2
 bd:∃cv rv sv ms,Bd c.base wz c.Bb cv rv sv c.y ms
 b:p=1->∃B,v 89=.slice (some ⟨B,0,none⟩) 2 2/\Bx wz B 112 #[.map (some c.rf1),.map (some c.rf2)]
 u:p=2->∃r,v 90=.map (some r)/\aN wz r (jF c.F1 c.F2)
 d:q=1->∃B,v 95=.slice (some ⟨B,0,none⟩) 2 2/\Bx wz B 112 #[.map (some c.rl1),.map (some c.rl2)]
theorem AK.low{c:Nb}{p q:Nat}{v:Nat->Value}{wz wy:World}(h:AK c p q v wz)(hb:Below wz.heap.size wz wy):AK c p q v wy where
 nc:=h.nc.acW hb
 xd:=h.xd.below hb h.xd.lt
 xe:=h.xe.below hb h.xe.lt
 f1:=h.f1.below hb afD
 l1:=h.l1.below hb afD
 f2:=h.f2.below hb afD
 l2:=h.l2.below hb afD
 bd:=by obtain⟨a,b,e,f,hd⟩:=h.bd;exact⟨a,b,e,f,hd.below hb⟩
 b g:=by obtain⟨B,h1,h2⟩:=h.b g;exact⟨B,h1,h2.below hb h2.lt⟩
 u g:=by obtain⟨B,h1,h2⟩:=h.u g;exact⟨B,h1,h2.below hb afD⟩
 d g:=by obtain⟨B,h1,h2⟩:=h.d g;exact⟨B,h1,h2.below hb h2.lt⟩
def frA(a0:Act)(v:Nat->Value):Act:=⟨((((a0.tmps.setIfInBounds 89 (v 89)).setIfInBounds 90 (v 90)).setIfInBounds 95 (v 95)).setIfInBounds 96 (v 96)).setIfInBounds 97 (v 97),a0.defers⟩
structure A57(c:Nb)(a0:Act):Prop where
 sz:a0.tmps.size=125
 r12:a0.tmps[12]?=some (.pointer (some ⟨c.D,0,none⟩))
 r84:a0.tmps[84]?=some (.bool (c.e1 || c.e2))
 r86:a0.tmps[86]?=some (.map (some c.rf1))
 r88:a0.tmps[88]?=some (.map (some c.rf2))
 r92:a0.tmps[92]?=some (.map (some c.rl1))
 r94:a0.tmps[94]?=some (.map (some c.rl2))
theorem uV(a0:Act)(v:Nat->Value)(t:Nat)(h:t≠89/\t≠90/\t≠95/\t≠96/\t≠97){y:Value}(hy:a0.tmps[t]?=some y):(frA a0 v).eval (.tmp t)=y:=by
 unfold frA Act.eval;simp only[af4,agN];simp[h.1.symm,h.2.1.symm,h.2.2.1.symm,h.2.2.2.1.symm,h.2.2.2.2.symm,hy]
theorem sD(a0:Act)(v:Nat->Value)(hs:a0.tmps.size=125)(t:Nat)(h:t=89\/t=90\/t=95\/t=96\/t=97):(frA a0 v).eval (.tmp t)=v t:=by
 unfold frA Act.eval;simp only[af4,agN,ahz];rcases h with rfl|rfl|rfl|rfl|rfl<;>simp[hs]
theorem sG(a0:Act)(v:Nat->Value)(hs:a0.tmps.size=125)(t:Nat)(h:t=89\/t=90\/t=95\/t=96\/t=97)(y:Value):(frA a0 v).put (some t) y=frA a0 (up v t y):=by
 refine ag3 (fun t=>Act.mk t a0.defers) ?_;simp only[frA];refine Array.ext_getElem? fun i=>?_;simp only[agN,ahz,hs]
 by_cases h1:i=89
 ·subst h1;rcases h with rfl|rfl|rfl|rfl|rfl<;>simp[up]
 by_cases h2:i=90
 ·subst h2;rcases h with rfl|rfl|rfl|rfl|rfl<;>simp[up]
 by_cases h3:i=95
 ·subst h3;rcases h with rfl|rfl|rfl|rfl|rfl<;>simp[up]
 by_cases h4:i=96
 ·subst h4;rcases h with rfl|rfl|rfl|rfl|rfl<;>simp[up]
 by_cases h5:i=97
 ·subst h5;rcases h with rfl|rfl|rfl|rfl|rfl<;>simp[up]
 have e:t≠i:=by rcases h with rfl|rfl|rfl|rfl|rfl<;>omega
 rw[afO e,afO (ahX h5),afO (ahX h4),afO (ahX h3),afO (ahX h2),afO (ahX h1),afO (ahX h5),afO (ahX h4),afO (ahX h3),afO (ahX h2),afO (ahX h1)]
def sH(p q:Nat):Nat:=62463+(if 1<=p then 1024 else 0)+(if 2<=p then 2048 else 0)+(if 1<=q then 65536 else 0)
def K57(c:Nb)(n m:Nat)(v:Nat->Value)(w:World):Prop:=∃p q,p<=2/\q<=1/\m=sH p q/\n+p+q=6/\AK c p q v w
section
variable {c : Nb} {a0 : Act} {v : Nat -> Value} {w : World} {l : List Oper} {Q : Exit -> Act -> World -> Prop} {o10 o11 o16 o17 o18 o19 : Oper}
theorem Xb(hA:A57 c a0)(h10:l[10]?=some o10)(e1:o10.op=.buildSlice 108 2 #[(0,.tmp 86),(1,.tmp 88)])(e2:o10.dst=some 89)(e3:o10.guard=none){q:Nat}(h:AK c 0 q v w):
  wpOp Tryz.prog l.toArray Q 10 (fun a' w'=>∃v',a'=frA a0 v'/\AK c 1 q v' w') (frA a0 v) w:=by
 refine AX.au _ h10 (by unfold Region.wanted;rw[e3]) ?_;refine FZ e1 (uV _ _ _ (by decide) hA.r86) (uV _ _ _ (by decide) hA.r88) ?_;have hb:=(afI w.heap.size w).alloc afD (.cells #[.map (some c.rf1),.map (some c.rf2)] 112);have h1:=h.low hb;refine⟨up v 89 _,by rw[e2,sG a0 v hA.sz 89 (.inl rfl)],h1.nc,h1.xd,h1.xe,h1.f1,h1.l1,h1.f2,h1.l2,h1.bd,fun _=>⟨w.heap.size,by simp[up],Bx.new w 112 _⟩,fun g=>(by cases g),fun g=>?_⟩;obtain⟨B,h2,h3⟩:=h1.d g;exact⟨B,by simpa[up]using h2,h3⟩
theorem Py(hA:A57 c a0)(h16:l[16]?=some o16)(e1:o16.op=.buildSlice 108 2 #[(0,.tmp 92),(1,.tmp 94)])(e2:o16.dst=some 95)(e3:o16.guard=none){p:Nat}(h:AK c p 0 v w):
  wpOp Tryz.prog l.toArray Q 16 (fun a' w'=>∃v',a'=frA a0 v'/\AK c p 1 v' w') (frA a0 v) w:=by
 refine AX.au _ h16 (by unfold Region.wanted;rw[e3]) ?_;refine FZ e1 (uV _ _ _ (by decide) hA.r92) (uV _ _ _ (by decide) hA.r94) ?_;have hb:=(afI w.heap.size w).alloc afD (.cells #[.map (some c.rl1),.map (some c.rl2)] 112);have h1:=h.low hb;refine⟨up v 95 _,by rw[e2,sG a0 v hA.sz 95 (by decide)],h1.nc,h1.xd,h1.xe,h1.f1,h1.l1,h1.f2,h1.l2,h1.bd,fun g=>?_,fun g=>?_,fun _=>⟨w.heap.size,by simp[up],Bx.new w 112 _⟩⟩
 ·obtain⟨B,h2,h3⟩:=h1.b g
  exact⟨B,by simpa[up]using h2,h3⟩
 ·obtain⟨B,h2,h3⟩:=h1.u g
  exact⟨B,by simpa[up]using h2,h3⟩
theorem Xc(hA:A57 c a0)(h11:l[11]?=some o11)(e1:o11.op=.call {callee:=.value (.func 97),args:=#[.tmp 89],argTypes:=#[108]})(e2:o11.dst=some 90)(e3:o11.guard=none){q:Nat}(h:AK c 1 q v w):
  wpOp Tryz.prog l.toArray Q 11 (fun a' w'=>∃v',a'=frA a0 v'/\AK c 2 q v' w') (frA a0 v) w:=by
 obtain⟨B,h2,h3⟩:=h.b rfl;have hu:=lT (c:=2) w h.f1 h.f2 h3.lt (h3.cell 0) (h3.cell 1);refine AX.dA hu h11 e1 (by unfold Region.wanted;rw[e3]) Tryz.func97 (by kernel_rfl) (by rfl) (by simp[sD a0 v hA.sz 89 (.inl rfl),h2]) ?_;rintro e W5 ⟨r,rfl,hr,hsu,hb⟩;have h1:=h.low hb;refine⟨_,rfl,up v 90 (.map (some r)),by rw[e2,sG a0 v hA.sz 90 (by decide)],h1.nc,h1.xd,h1.xe,h1.f1,h1.l1,h1.f2,h1.l2,h1.bd,fun g=>(by cases g),fun _=>⟨r,by simp[up],hsu⟩,fun g=>?_⟩;obtain⟨B,h2,h3⟩:=h1.d g;exact⟨B,by simpa[up]using h2,h3⟩
theorem Pz{C CT:World->Prop}(hC:∀W,Bx W c.D 118 #[.bool c.e1,.map (some c.rf1),.map (some c.rl1)]->Bx W c.E 118 #[.bool c.e2,.map (some c.rf2),.map (some c.rl2)]->C W)(hCT:∀W,CT W)(hbw:c.base<=c.w.heap.size)(hD:c.w.heap.size<=c.D)(hDA:c.A+1<c.D)
  (hQ:∀v W,Ct c.base c.Bb c.w c.A c.x c.kv c.D (c.y,MR ⟨c.e1,c.F1,c.L1⟩ ⟨c.e2,c.F2,c.L2⟩) W->Q .normal (frA a0 v) W) (hA:A57 c a0)
  (h17:l[17]?=some o17) (e1:o17.op=.call {callee:=.value (.func 97),args:=#[.tmp 95],argTypes:=#[108]}) (e2:o17.dst=some 96) (e3:o17.guard=none)
  (h18:l[18]?=some o18) (e4:o18.op=.build 118 #[(0,.tmp 84),(1,.tmp 90),(2,.tmp 96)]) (e5:o18.dst=some 97) (e6:o18.guard=none)
  {ty:TypeId} {pos:String} {after:Array Edge} (h19:l[19]?=some {dst:=none,op:=.store 118 (.tmp 12) (.tmp 97),type:=ty,pos:=pos,after:=after,guard:=none}) (h:AK c 2 1 v w):AX.bC Tryz.prog l C CT 19 Q false jm (frA a0 v) w:=by
 obtain⟨B,h2,h3⟩:=h.d rfl;have hu:=lT (c:=2) w h.l1 h.l2 h3.lt (h3.cell 0) (h3.cell 1);unfold jm;refine AX.dW hu h17 e1 (by unfold Region.wanted;rw[e3]) Tryz.func97 (by kernel_rfl) (by rfl) (by simp[sD a0 v hA.sz 95 (by decide),h2]) ?_;rintro e W5 ⟨r,rfl,hr,hsu,hb⟩;have h1:=h.low hb;refine⟨_,rfl,⟨hCT _,fun _=>hC _ h1.xd h1.xe⟩,?_⟩;obtain⟨r0,h4,h5⟩:=h1.u rfl;rw[e2,sG a0 v hA.sz 96 (by decide)];refine AX.aV _ h18 (by unfold Region.wanted;rw[e6]) ?_;refine Jd e4 (uV _ _ _ (by decide) hA.r84) (r1:=r0) (r2:=r) (by rw[sD a0 _ hA.sz 90 (by decide)];simpa[up]using h4) (by rw[sD a0 _ hA.sz 96 (by decide)];simp[up]) ?_;refine⟨⟨hCT _,fun _=>hC _ h1.xd h1.xe⟩,?_⟩;rw[e5,sG a0 _ hA.sz 97 (by decide)];refine AX.aV _ h19 (by rfl) ?_;refine AX.aG (vs:=[.bool (c.e1 || c.e2),.map (some r0),.map (some r)]) (uV _ _ _ (by decide) hA.r12) (by rw[sD a0 _ hA.sz 97 (by decide)];simp[up,plV]) jg h1.xd rfl rfl ?_;rintro W6 g3 g4 g5;have x6:Bx W6 c.D 118 #[.bool (c.e1 || c.e2),.map (some r0),.map (some r)]:=g3;have hs6:dH 118 W5 W6:=aP h1.xd g4;have hl6:Below c.base W5 W6:=AX.ah (by omega) (.inl x6.lt) g4 g5;have n5:=h1.nc;have n6:Nc c.base c.w c.A c.x c.kv W6:=⟨(g4 c.A (by omega)).trans n5.xa,(g4 (c.A+1) (by omega)).trans n5.xb,⟨n5.kp.low.trans hl6,fun j o hj hn=>(g4 j (by have:=(afF.1 hj).1;omega)).trans (n5.kp.keep j o hj hn)⟩,agb n5.hb hl6.size,n5.hA⟩;refine⟨⟨hCT _,fun h=>by cases h⟩,?_⟩;refine hQ _ W6 ⟨n6,⟨r0,r,x6,h5.aW hs6,hsu.aW hs6⟩,?_⟩;obtain⟨_,_,_,_,hd⟩:=h1.bd;exact⟨_,_,_,_,hd.sb hs6 (by decide) (by decide) (by decide) (by decide)⟩
theorem KT{C CT:World->Prop}(hC:∀W,Bx W c.D 118 #[.bool c.e1,.map (some c.rf1),.map (some c.rl1)]->Bx W c.E 118 #[.bool c.e2,.map (some c.rf2),.map (some c.rl2)]->C W)(hCT:∀W,CT W)(hbw:c.base<=c.w.heap.size)(hD:c.w.heap.size<=c.D)(hDA:c.A+1<c.D)
  (h10:l[10]?=some o10) (a1:o10.op=.buildSlice 108 2 #[(0,.tmp 86),(1,.tmp 88)]) (a2:o10.dst=some 89) (a3:o10.guard=none)
  (h11:l[11]?=some o11) (b1:o11.op=.call {callee:=.value (.func 97),args:=#[.tmp 89],argTypes:=#[108]}) (b2:o11.dst=some 90) (b3:o11.guard=none)
  (h16:l[16]?=some o16) (c1:o16.op=.buildSlice 108 2 #[(0,.tmp 92),(1,.tmp 94)]) (c2:o16.dst=some 95) (c3:o16.guard=none)
  (h17:l[17]?=some o17) (e1:o17.op=.call {callee:=.value (.func 97),args:=#[.tmp 95],argTypes:=#[108]}) (e2:o17.dst=some 96) (e3:o17.guard=none)
  (h18:l[18]?=some o18) (e4:o18.op=.build 118 #[(0,.tmp 84),(1,.tmp 90),(2,.tmp 96)]) (e5:o18.dst=some 97) (e6:o18.guard=none)
  {ty:TypeId} {pos:String} {after:Array Edge} (h19:l[19]?=some {dst:=none,op:=.store 118 (.tmp 12) (.tmp 97),type:=ty,pos:=pos,after:=after,guard:=none}):
  ∀a0,A57 c a0->(∀v W,Ct c.base c.Bb c.w c.A c.x c.kv c.D (c.y,MR ⟨c.e1,c.F1,c.L1⟩ ⟨c.e2,c.F2,c.L2⟩) W->Q .normal (frA a0 v) W)->∀n m v w,K57 c n m v w->(C w/\CT w/\m.testBit 19=false)/\((m=131071/\n=jm.length/\AX.bC Tryz.prog l C CT 19 Q false jm (frA a0 v) w) \/
   (∃k,n=k+1/\AX.iw dY m≠[]/\∀i∈AX.iw dY m,i≠19/\wpOp Tryz.prog l.toArray Q i (fun a' w'=>∃v',a'=frA a0 v'/\K57 c k (Nat.lor m (2 ^ i)) v' w') (frA a0 v) w)):=by
 rintro a0 hA hQ n m v w ⟨p,q,hp,hq,rfl,hn,h⟩;have K:∀k p' q',p'<=2->q'<=1->n=k+1->k+p'+q'=6->∀i,Nat.lor (sH p q) (2 ^ i)=sH p' q'->wpOp Tryz.prog l.toArray Q i (fun a' w'=>∃v',a'=frA a0 v'/\AK c p' q' v' w') (frA a0 v) w->wpOp Tryz.prog l.toArray Q i (fun a' w'=>∃v',a'=frA a0 v'/\K57 c k (Nat.lor (sH p q) (2 ^ i)) v' w') (frA a0 v) w:=by
  intro k p' q' g1 g2 _ g3 i g4 g5;exact wpOp_mono (fun a' w' ⟨v',e,hk⟩=>⟨v',e,p',q',g1,g2,g4,g3,hk⟩) g5
 have hc:=hC w h.xd h.xe;obtain rfl|rfl|rfl:p=0\/p=1\/p=2:=by omega
 all_goals obtain rfl|rfl:q=0\/q=1:=by omega
 ·refine⟨⟨hc,hCT w,by decide⟩,.inr ⟨5,by omega,by rw[show AX.iw dY (sH 0 0)=[10,16]by kernel_rfl];simp,?_⟩⟩
  rw[show AX.iw dY (sH 0 0)=[10,16]by kernel_rfl];intro i hi;simp only[afX,agx,ahd]at hi;rcases hi with rfl|rfl
  ·exact⟨by decide,K 5 1 0 (by decide) (by decide) (by omega) (by omega) 10 (by decide) (Xb hA h10 a1 a2 a3 h)⟩
  ·exact⟨by decide,K 5 0 1 (by decide) (by decide) (by omega) (by omega) 16 (by decide) (Py hA h16 c1 c2 c3 h)⟩
 ·refine⟨⟨hc,hCT w,by decide⟩,.inr ⟨4,by omega,by rw[show AX.iw dY (sH 0 1)=[10]by kernel_rfl];simp,?_⟩⟩
  rw[show AX.iw dY (sH 0 1)=[10]by kernel_rfl];intro i hi;simp only[afX,agx,ahd]at hi;subst hi;exact⟨by decide,K 4 1 1 (by decide) (by decide) (by omega) (by omega) 10 (by decide) (Xb hA h10 a1 a2 a3 h)⟩
 ·refine⟨⟨hc,hCT w,by decide⟩,.inr ⟨4,by omega,by rw[show AX.iw dY (sH 1 0)=[11,16]by kernel_rfl];simp,?_⟩⟩
  rw[show AX.iw dY (sH 1 0)=[11,16]by kernel_rfl];intro i hi;simp only[afX,agx,ahd]at hi;rcases hi with rfl|rfl
  ·exact⟨by decide,K 4 2 0 (by decide) (by decide) (by omega) (by omega) 11 (by decide) (Xc hA h11 b1 b2 b3 h)⟩
  ·exact⟨by decide,K 4 1 1 (by decide) (by decide) (by omega) (by omega) 16 (by decide) (Py hA h16 c1 c2 c3 h)⟩
 ·refine⟨⟨hc,hCT w,by decide⟩,.inr ⟨3,by omega,by rw[show AX.iw dY (sH 1 1)=[11]by kernel_rfl];simp,?_⟩⟩
  rw[show AX.iw dY (sH 1 1)=[11]by kernel_rfl];intro i hi;simp only[afX,agx,ahd]at hi;subst hi;exact⟨by decide,K 3 2 1 (by decide) (by decide) (by omega) (by omega) 11 (by decide) (Xc hA h11 b1 b2 b3 h)⟩
 ·refine⟨⟨hc,hCT w,by decide⟩,.inr ⟨3,by omega,by rw[show AX.iw dY (sH 2 0)=[16]by kernel_rfl];simp,?_⟩⟩
  rw[show AX.iw dY (sH 2 0)=[16]by kernel_rfl];intro i hi;simp only[afX,agx,ahd]at hi;subst hi;exact⟨by decide,K 3 2 1 (by decide) (by decide) (by omega) (by omega) 16 (by decide) (Py hA h16 c1 c2 c3 h)⟩
 ·exact⟨⟨hc,hCT w,by decide⟩,.inl ⟨by decide,by simp[jm];omega,Pz hC hCT hbw hD hDA hQ hA h17 e1 e2 e3 h18 e4 e5 e6 h19 h⟩⟩
end
end
section
open Go Go.Proofs Go.RowKit
theorem PD(a:Act):frA a (fun t=>a.tmps.getD t undef)=a:=by
 show Act.mk _ _=_
 have h:∀(x:Array Value)(i:Nat),x.setIfInBounds i (x.getD i undef)=x:=fun x i=>by
  refine Array.ext_getElem? fun j=>?_;rw[agN]
  by_cases e:i=j
  ·subst e
   rw[afR rfl]
   by_cases hi:i<x.size
   ·rw[afR hi,af4,agD hi,agr]
   ·rw[afO hi,agR (by omega)]
  ·rw[afO e]
 simp only[h]
theorem Cj{c:Nb}{a:Act}{w:World}{Fin:(Nat->Value)->World->Prop}{Q:Exit->Act->World->Prop}(hA:A57 c a)(hQ:∀v W,Fin v W->Q .normal (frA a v) W)(hK:∀v,AK c 0 0 v w):∃a0 v,A57 c a0/\(∀v w,Fin v w->Q .normal (frA a0 v) w)/\a=frA a0 v/\K57 c 6 62463 v w:=
 ⟨a,_,hA,hQ,(PD a).symm,0,0,by decide,by decide,by decide,by decide,hK _⟩
theorem NdP.start{s:NS}(hs:iG s):NdP s (s,⟨false,[],[]⟩) 0:=⟨hs,⟨In.nil _,In.nil _⟩,agq _,agq _,[],by simp⟩
end
end Go.Proofs.YtkjgogdkdejljaaGreatDoor.Df
