import Derived.Test.YtkjgogdkdejljaaGreatDoorDfE2c
set_option maxRecDepth 100000
set_option maxHeartbeats 40000000
namespace Go.Proofs.YtkjgogdkdejljaaGreatDoor.Df
open Go.Lib (hid)
open Go Go.Proofs Go.RowKit
attribute [local go_sem] Oper.semAt_some
def pK:List AX.Inf:=[⟨0,2048,1,true⟩,⟨0,4096,1,true⟩,⟨0,8192,1,true⟩,⟨0,16384,1,true⟩,⟨8,32768,16384,true⟩,⟨16,65536,32768,true⟩,⟨32,131072,65536,true⟩,⟨64,262144,131072,true⟩,⟨0,524288,8,true⟩,⟨256,1048576,524288,false⟩,⟨640,2097152,1310720,false⟩,⟨0,4194304,1,true⟩,⟨2048,8388608,4194304,true⟩,⟨4096,16777216,8388608,true⟩,⟨8192,33554432,16777216,true⟩,⟨16384,67108864,33554432,true⟩,⟨0,134217728,0,false⟩,⟨99328,268435456,201326592,false⟩,⟨0,536870912,1,true⟩,⟨262144,1073741824,536870912,true⟩,⟨524288,2147483648,1073741824,true⟩,⟨1048576,4294967296,2147483648,true⟩,⟨0,8589934592,0,false⟩,⟨4194304,17179869184,8589934592,false⟩,⟨10616832,34359738368,21474836480,false⟩,⟨19040249,68719476736,2048,true⟩,⟨52594681,137438953472,68719476736,true⟩,⟨86149113,274877906944,137438953472,true⟩,⟨153257977,0,274880004096,false⟩,⟨522452987,549755813888,4096,true⟩,⟨1059323899,1099511627776,549755813888,true⟩,⟨1596194811,2199023255552,1099511627776,true⟩,⟨2669936635,0,2199291691008,false⟩,⟨8589934591,4398046511104,8192,true⟩,⟨17179869183,8796093022208,4398046511104,true⟩,⟨25769803775,0,8830452760576,false⟩]
def KR:List (Nat×Bool):=[(0,true),(1,false),(2,false),(3,true),(4,true),(5,true),(6,true),(7,true),(8,true),(11,false),(12,false),(13,false),(14,false),(15,true),(18,false),(19,false),(20,false),(21,true)]
def yG:List (Nat×Nat):=[(25,1),(26,1),(27,1),(28,2),(29,1),(30,1),(31,1),(32,2),(33,1),(34,1),(35,2)]
abbrev yH:=Nat×Nat×Nat
def I8(x:yH):Nat:=3996159+(if Nat.ble 1 x.1 then 512 else 0)+(if Nat.ble 2 x.1 then 1024 else 0)+(if Nat.ble 3 x.1 then 131072 else 0)+(if Nat.ble 4 x.1 then 16777216 else 0)+(if Nat.ble 1 x.2.1 then 65536 else 0)+(if Nat.ble 1 x.2.2 then 4194304 else 0)+(if Nat.ble 2 x.2.2 then 8388608 else 0)
def kC(i:Nat)(x:yH):yH:=if Nat.beq i 16 then (x.1,1,x.2.2)else if Nat.beq i 22 || Nat.beq i 23 then (x.1,x.2.1,x.2.2+1)else (x.1+1,x.2)
def MV(x:yH):Bool:=Nat.ble x.1 4 && Nat.ble x.2.1 1 && Nat.ble x.2.2 2 && (Nat.ble x.1 2 || Nat.beq x.2.1 1) && (Nat.ble x.1 3 || Nat.beq x.2.2 2)
def WZ(i:Nat)(x:yH):Bool:=(Nat.beq i 9 && Nat.beq x.1 0) || (Nat.beq i 10 && Nat.beq x.1 1) || (Nat.beq i 17 && (Nat.beq x.1 2 && Nat.beq x.2.1 1)) || (Nat.beq i 24 && (Nat.beq x.1 3 && Nat.beq x.2.2 2)) || (Nat.beq i 16 && Nat.beq x.2.1 0) || (Nat.beq i 22 && Nat.beq x.2.2 0) || (Nat.beq i 23 && Nat.beq x.2.2 1)
def Pm(x:yH):Bool:=!MV x || ((if Nat.beq x.1 4 then Nat.beq (I8 x) 33554431 else !(AX.iw pK (I8 x)).isEmpty && (AX.iw pK (I8 x)).all fun i=>WZ i x && (MV (kC i x) && Nat.beq (I8 (kC i x)) (Nat.lor (I8 x) (2 ^ i)))) && !(I8 x).testBit 28)
theorem aac:((List.range 5).all fun p=>(List.range 2).all fun b=>(List.range 3).all fun q=>Pm (p,b,q))=true:=by kernel_rfl
theorem XK{x:yH}(h:MV x=true):Pm x=true:=by
 have h0:=h;simp only[MV,afU,Nat.ble_eq]at h;obtain⟨⟨⟨⟨h1,h2⟩,h3⟩,_⟩,_⟩:=h;have:=agk.1 (agk.1 (agk.1 aac x.1 (agH.2 (by omega))) x.2.1 (agH.2 (by omega))) x.2.2 (agH.2 (by omega));exact this
def up(v:Nat->Value)(k:Nat)(y:Value):Nat->Value:=fun j=>if j=k then y else v j
def clV(c:Kl):Value:=.agg #[.int .u64 (c.a:Nat),.int .u64 (c.b:Nat),.int .u64 (c.c:Nat),.int .u64 (c.d:Nat)]
def I9(Bb Bc n:Nat)(cv rv sv:Value)(c:Kl)(v:Nat->Value):Act:=
 ⟨#[.pointer (some ⟨Bb,0,none⟩),clV c,undef,.pointer (some ⟨Bc,0,none⟩),.map none,.int .i64 n,.pointer (some ⟨Bb,0,none⟩),.pointer (some ⟨Bb,0,none⟩),.pointer (some ⟨Bb,3,none⟩),sv,.int .i64 n,
  .pointer (some ⟨Bb,0,none⟩),.pointer (some ⟨Bb,0,none⟩),.pointer (some ⟨Bb,0,none⟩),.pointer (some ⟨Bb,0,none⟩),.pointer (some ⟨Bb,0,none⟩),.pointer (some ⟨Bb,0,none⟩),.pointer (some ⟨Bb,0,none⟩),cv,clV c,v 20,v 21,
  .pointer (some ⟨Bb,0,none⟩),.pointer (some ⟨Bb,0,none⟩),.pointer (some ⟨Bb,0,none⟩),.pointer (some ⟨Bb,2,none⟩),rv,v 27,v 28,.pointer (some ⟨Bb,0,none⟩),.pointer (some ⟨Bb,0,none⟩),.pointer (some ⟨Bb,3,none⟩),sv,v 33,v 34,v 35,
  undef,undef,undef,undef,undef,undef,undef,undef,undef,undef,undef,undef],[]⟩
structure KS(base Bb Bc:Nat)(w0:World)(cv rv sv:Value)(s:NS)(ms:List Nat)(c:Kl)(x:yH)(v:Nat->Value)(w:World):Prop where
 kp:Kp base w0 w
 hb:base<=w.heap.size
 box:Bx w Bb 110 #[cv,.slice none 0 0,rv,sv]
 bc:Bx w Bc 116 (bI c).toArray
 c0:x.1<2->D7 w base cv s.cl
 c1:2<=x.1->D7 w base (v 21) (s.cl++[c])
 r0:x.1<3->bG w base rv s.ru
 r1:3<=x.1->bG w base (v 28) (s.ru++[-1])
 s0:x.1<4->jG w base sv ms
 s1:4<=x.1->∃M,aN w M []/\jG w base (v 35) (ms++[M])
 t9:x.1=1->∃B,v 20=.slice (some ⟨B,0,none⟩) 1 1/\Bx w B 116 (bI c).toArray
 t16:x.2.1=1->x.1<3->∃B,v 27=.slice (some ⟨B,0,none⟩) 1 1/\Bx w B 3 #[.int .i64 (-1)]
 m:1<=x.2.2->x.1<4->∃M,v 33=.map (some M)/\aN w M []/\(x.2.2=2->∃B,v 34=.slice (some ⟨B,0,none⟩) 1 1/\Bx w B 112 #[.map (some M)])
 set:∀(i r:Nat)(S:List Int),ms[i]?=some r->s.nx[i]?=some S->aN w r S
section
variable {base Bb Bc : Nat} {w0 : World} {cv rv sv : Value} {s : NS} {ms : List Nat} {c : Kl} {x : yH} {v : Nat -> Value} {w w' : World}
theorem KS.grow(h:KS base Bb Bc w0 cv rv sv s ms c x v w)(hb:Below w.heap.size w w'):KS base Bb Bc w0 cv rv sv s ms c x v w' where
 kp:=h.kp.trans (Kp.of_below hb h.hb)
 hb:=agb h.hb hb.size
 box:=h.box.below hb h.box.lt
 bc:=h.bc.below hb h.bc.lt
 c0 g:=aZ (h.c0 g) hb
 c1 g:=aZ (h.c1 g) hb
 r0 g:=aZ (h.r0 g) hb
 r1 g:=aZ (h.r1 g) hb
 s0 g:=aZ (h.s0 g) hb
 s1 g:=by obtain⟨M,h1,h2⟩:=h.s1 g;exact⟨M,h1.below hb afD,aZ h2 hb⟩
 t9 g:=by obtain⟨B,h1,h2⟩:=h.t9 g;exact⟨B,h1,h2.below hb h2.lt⟩
 t16 g k:=by obtain⟨B,h1,h2⟩:=h.t16 g k;exact⟨B,h1,h2.below hb h2.lt⟩
 m g k:=by
  obtain⟨M,h1,h2,h3⟩:=h.m g k;refine⟨M,h1,h2.below hb afD,fun g2=>?_⟩;obtain⟨B,h4,h5⟩:=h3 g2;exact⟨B,h4,h5.below hb h5.lt⟩
 set i r S h1 h2:=(h.set i r S h1 h2).below hb afD
theorem KS.s9(h:KS base Bb Bc w0 cv rv sv s ms c x v w)(hx:x.1=0)(B:Nat)(hB:Bx w B 116 (bI c).toArray):KS base Bb Bc w0 cv rv sv s ms c (kC 9 x) (up v 20 (.slice (some ⟨B,0,none⟩) 1 1)) w:=by
 have e:kC 9 x=(x.1+1,x.2):=rfl;rw[e];exact⟨h.kp,h.hb,h.box,h.bc,fun _=>h.c0 (by omega),fun g=>by simp at g;omega,fun _=>h.r0 (by omega),fun g=>by simp at g;omega,fun _=>h.s0 (by omega),fun g=>by simp at g;omega,fun _=>⟨B,rfl,hB⟩,fun g _=>h.t16 g (by omega),fun g _=>h.m g (by omega),h.set⟩
theorem KS.s10(h:KS base Bb Bc w0 cv rv sv s ms c x v w)(hx:x.1=1)(hne:cv.ownBlock≠some Bc){v':Value}(hown:D7 w' base v' (s.cl++[c]))(hg:w.grownBy w' cv.ownBlock):KS base Bb Bc w0 cv rv sv s ms c (kC 10 x) (up v 21 v') w':=by
 have e:kC 10 x=(x.1+1,x.2):=rfl;have hc:=h.c0 (by omega);have hs:=aX hc hg;have hl:Below base w w':=(afI base w).grown hg h.hb fun k hk=>(World.ownsRow.lt hc k hk).1;rw[e];exact⟨h.kp.trans (Kp.pJ hl hs (.inr (.inl rfl))),agb h.hb hl.size,h.box.aW hs (by decide),(hg.block Bc h.bc.lt (fun e=>hne e.symm)).trans h.bc,fun g=>by simp at g;omega,fun _=>hown,fun _=>aC (h.r0 (by omega)) hs (by decide),fun g=>by simp at g;omega,fun _=>aC (h.s0 (by omega)) hs (by decide),fun g=>by simp at g;omega,fun g=>by simp at g;omega,
  fun g _=>by obtain⟨B,h1,h2⟩:=h.t16 g (by omega);exact⟨B,h1,h2.aW hs (by decide)⟩,fun g _=>by
   obtain⟨M,h1,h2,h3⟩:=h.m g (by omega);exact⟨M,h1,h2.aW hs,fun g2=>by obtain⟨B,h4,h5⟩:=h3 g2;exact⟨B,h4,h5.aW hs (by decide)⟩⟩,fun i r S h1 h2=>(h.set i r S h1 h2).aW hs⟩
theorem KS.s16(h:KS base Bb Bc w0 cv rv sv s ms c x v w)(B:Nat)(hB:Bx w B 3 #[.int .i64 (-1)]):KS base Bb Bc w0 cv rv sv s ms c (kC 16 x) (up v 27 (.slice (some ⟨B,0,none⟩) 1 1)) w:=by
 have e:kC 16 x=(x.1,1,x.2.2):=rfl;rw[e];exact⟨h.kp,h.hb,h.box,h.bc,h.c0,h.c1,h.r0,h.r1,h.s0,h.s1,h.t9,fun _ _=>⟨B,rfl,hB⟩,h.m,h.set⟩
theorem KS.s17(h:KS base Bb Bc w0 cv rv sv s ms c x v w)(hx:x.1=2){v':Value}(hown:bG w' base v' (s.ru++[-1]))(hg:w.grownBy w' rv.ownBlock):KS base Bb Bc w0 cv rv sv s ms c (kC 17 x) (up v 28 v') w':=by
 have e:kC 17 x=(x.1+1,x.2):=rfl;have hc:=h.r0 (by omega);have hs:=aX hc hg;have hl:Below base w w':=(afI base w).grown hg h.hb fun k hk=>(World.ownsRow.lt hc k hk).1;rw[e];exact⟨h.kp.trans (Kp.pJ hl hs (.inr (.inr (.inl rfl)))),agb h.hb hl.size,h.box.aW hs (by decide),h.bc.aW hs (by decide),fun g=>by simp at g;omega,fun _=>aC (h.c1 (by omega)) hs (by decide),fun g=>by simp at g;omega,fun _=>hown,fun _=>aC (h.s0 (by omega)) hs (by decide),fun g=>by simp at g;omega,fun g=>by simp at g;omega,
  fun _ g=>by simp at g;omega,fun g _=>by
   obtain⟨M,h1,h2,h3⟩:=h.m g (by omega);exact⟨M,h1,h2.aW hs,fun g2=>by obtain⟨B,h4,h5⟩:=h3 g2;exact⟨B,h4,h5.aW hs (by decide)⟩⟩,fun i r S h1 h2=>(h.set i r S h1 h2).aW hs⟩
theorem KS.s22(h:KS base Bb Bc w0 cv rv sv s ms c x v w)(hx:x.2.2=0)(M:Nat)(hM:aN w M []):KS base Bb Bc w0 cv rv sv s ms c (kC 22 x) (up v 33 (.map (some M))) w:=by
 have e:kC 22 x=(x.1,x.2.1,x.2.2+1):=rfl;rw[e];exact⟨h.kp,h.hb,h.box,h.bc,h.c0,h.c1,h.r0,h.r1,h.s0,h.s1,h.t9,h.t16,fun _ _=>⟨M,rfl,hM,fun g=>by simp at g;omega⟩,h.set⟩
theorem KS.s23(h:KS base Bb Bc w0 cv rv sv s ms c x v w)(hx:x.2.2=1)(M:Nat)(hv:v 33=.map (some M))(hM:aN w M [])(B:Nat)(hB:Bx w B 112 #[.map (some M)]):KS base Bb Bc w0 cv rv sv s ms c (kC 23 x) (up v 34 (.slice (some ⟨B,0,none⟩) 1 1)) w:=by
 have e:kC 23 x=(x.1,x.2.1,x.2.2+1):=rfl;rw[e];exact⟨h.kp,h.hb,h.box,h.bc,h.c0,h.c1,h.r0,h.r1,h.s0,h.s1,h.t9,h.t16,fun _ _=>⟨M,hv,hM,fun _=>⟨B,rfl,hB⟩⟩,h.set⟩
theorem KS.s24(h:KS base Bb Bc w0 cv rv sv s ms c x v w)(hx:x.1=3)(M:Nat)(hM:aN w M []){v':Value}(hown:jG w' base v' (ms++[M]))(hg:w.grownBy w' sv.ownBlock):KS base Bb Bc w0 cv rv sv s ms c (kC 24 x) (up v 35 v') w':=by
 have e:kC 24 x=(x.1+1,x.2):=rfl;have hc:=h.s0 (by omega);have hs:=aX hc hg;have hl:Below base w w':=(afI base w).grown hg h.hb fun k hk=>(World.ownsRow.lt hc k hk).1;rw[e];exact⟨h.kp.trans (Kp.pJ hl hs (.inr (.inr (.inr rfl)))),agb h.hb hl.size,h.box.aW hs (by decide),h.bc.aW hs (by decide),fun g=>by simp at g;omega,fun _=>aC (h.c1 (by omega)) hs (by decide),fun g=>by simp at g;omega,fun _=>aC (h.r1 (by omega)) hs (by decide),fun g=>by simp at g;omega,fun _=>⟨M,hM.aW hs,hown⟩,fun g=>by simp at g;omega,
  fun _ g=>by simp at g;omega,fun _ g=>by simp at g;omega,fun i r S h1 h2=>(h.set i r S h1 h2).aW hs⟩
end
def N56(base Bb Bc n0:Nat)(w0:World)(cv rv sv:Value)(s:NS)(ms:List Nat)(c:Kl)(n m:Nat)(a:Act)(w:World):Prop:=
 ∃x:yH,MV x=true/\m=I8 x/\n+(x.1+x.2.1+x.2.2)=18/\∃v,a=I9 Bb Bc n0 cv rv sv c v/\KS base Bb Bc w0 cv rv sv s ms c x v w
def FT(base Bb:Nat)(s:NS)(ms:List Nat)(c:Kl)(w:World)(e:Ending)(w':World):Prop:=
 ∃r cv rv sv M,e=.returned (.map (some r))/\aN w' r [(s.cl.length:Int)]/\Bd base w' Bb cv rv sv (s.push c) (ms++[M])/\Kp base w w'
theorem acQ:AX.sizeT Tryz.prog 71=some 1:=by kernel_rfl
theorem acR:AX.sizeT Tryz.prog 25=some 1:=by kernel_rfl
theorem aad:AX.sizeT Tryz.prog 108=some 1:=by kernel_rfl
theorem D8{W:World}{base:Nat}{e:TypeId}{k:Nat}{v:Value}{n:Nat}{xs:List Value}(h:W.ownsRow base e k v n xs):v.oneCell'=true:=by
 rcases h.2 with ⟨e,_⟩|⟨g,cap,cur,e,_⟩<;>rw[e]<;>rfl
theorem KS.done{base Bb Bc:Nat}{w0:World}{cv rv sv:Value}{s:NS}{ms:List Nat}{c:Kl}{x:yH}{v:Nat->Value}{w W3:World}(h:KS base Bb Bc w0 cv rv sv s ms c x v w)(hx:x.1=4)(hlow:base<=Bb)(n1:ms.length=s.cl.length)(n2:s.nx.length=s.cl.length)(n3:s.ru.length=s.cl.length)
  (hs:dH 110 w W3) (hl:Below base w W3) (hb:Bx W3 Bb 110 #[v 21,.slice none 0 0,v 28,v 35]):∃M,Bd base W3 Bb (v 21) (v 28) (v 35) (s.push c) (ms++[M])/\Kp base w0 W3:=by
 obtain⟨M,hM,hS⟩:=h.s1 (by omega);refine⟨M,⟨hlow,hb,aC (h.c1 (by omega)) hs (by decide),aC (h.r1 (by omega)) hs (by decide),aC hS hs (by decide),by simp[NS.push,n1],by simp[NS.push,n2],by simp[NS.push,n3],fun i r S h1 h2=>?_⟩,h.kp.trans (Kp.pJ hl hs (.inl rfl))⟩
 by_cases hi:i<ms.length
 ·rw[af6 hi]at h1
  have h2:(s.nx++[[]])[i]?=some S:=h2;rw[af6 (by omega)]at h2;exact(h.set i r S h1 h2).aW hs
 ·rw[aga (by omega)]at h1
  have h2:(s.nx++[[]])[i]?=some S:=h2;rw[aga (by omega)]at h2;have e:i-ms.length=0:=by have:=(afW.1 h1).1;simp at this;omega
  rw[e]at h1;rw[show i-s.nx.length=0 by omega]at h2;simp at h1 h2;subst h1;subst h2;exact hM.aW hs
theorem Cc{base Bb:Nat}{cv rv sv:Value}{s:NS}{ms:List Nat}(c:Kl)(w:World)(h:Bd base w Bb cv rv sv s ms)(hl:s.cl.length<=100000)(hb:base<=w.heap.size):
  Calls Tryz.prog 56 #[.pointer (some ⟨Bb,0,none⟩),.agg #[.int .u64 (c.a:Nat),.int .u64 (c.b:Nat),.int .u64 (c.c:Nat),.int .u64 (c.d:Nat)]] w (FT base Bb s ms c w):=by
 obtain⟨W0,hW0⟩:=afC (w.alloc (.cells #[.int .u64 (c.a:Nat),.int .u64 (c.b:Nat),.int .u64 (c.c:Nat),.int .u64 (c.d:Nat)] 116));have hb0:Below w.heap.size w W0:=by rw[hW0];exact (afI _ w).alloc afD _
 have hc0:Bx W0 w.heap.size 116 (bI c).toArray:=by rw[hW0];exact Bx.new w 116 _
 have hne:cv.ownBlock≠some w.heap.size:=fun e=>by have:=(World.ownsRow.lt h.c _ e).2;omega
 have h0:=h.below hb0;have hx:=h0.box;obtain⟨sa,scp,hsv⟩:∃sa scp,sv=.slice sa ms.length scp:=aU h.sw;obtain⟨ca,ccp,hcv⟩:∃ca ccp,cv=.slice ca s.cl.length ccp:=aU h.c;obtain⟨ra,rcp,hrv⟩:∃ra rcp,rv=.slice ra s.ru.length rcp:=aU h.r;obtain⟨n,hn⟩:=afC ms.length;obtain⟨Bc,hBc⟩:=afC w.heap.size;have HH:=hid h;have HB0:=hid hb0;have HCV:=hid hcv;have HRV:=hid hrv;have HSV:=hid hsv;have y3:W0.cell? ⟨Bb,3,none⟩=some (.slice sa n scp):=by rw[hn,<-hsv];exact hx.cell 3
 rw[<-hn]at hsv;rw[<-hBc]at hc0 hne;have HX:=hid hx;have HBc:=hid hBc;have HN:=hid hn;have HB:=hid hb;go_enter Tryz.func56,Tryz.ntmps56
 go_upto_region 1 with fail
 rw[<-hW0,<-hBc];clear hW0 hn hBc hx h0 h hb0 hcv hrv hb;subst hsv;go_upto_region 2 with fail
 clear y3;have hx:=HX.out;obtain⟨C,hCi,hCo⟩:∃C:World->Prop,(∀W,C W->Bx W Bb 110 #[cv,.slice none 0 0,rv,.slice sa n scp]/\Bx W Bc 116 (bI c).toArray)/\∀W,Bx W Bb 110 #[cv,.slice none 0 0,rv,.slice sa n scp]/\Bx W Bc 116 (bI c).toArray->C W:=⟨_,fun _ h=>h,fun _ h=>h⟩;have hC0:C W0.drew:=hCo _ ⟨hx,hc0⟩;haveI:Inhabited (AX.CW C):=⟨⟨_,hC0⟩⟩;haveI:Inhabited (AX.CW fun _=>True):=⟨⟨w,trivial⟩⟩;have a0:∀p:AX.CW C,p.W.cell? ⟨Bb,0,none⟩=some cv:=fun p=>(hCi _ p.h).1.cell 0;have a2:∀p:AX.CW C,p.W.cell? ⟨Bb,2,none⟩=some rv:=fun p=>(hCi _ p.h).1.cell 2;have a3:∀p:AX.CW C,p.W.cell? ⟨Bb,3,none⟩=some (.slice sa n scp):=fun p=>(hCi _ p.h).1.cell 3;have b0:∀p:AX.CW C,p.W.cell? ⟨Bc,0,none⟩=some (.int .u64 (c.a:Nat)):=fun p=>(hCi _ p.h).2.cell 0;have b1:∀p:AX.CW C,p.W.cell? ⟨Bc,1,none⟩=some (.int .u64 (c.b:Nat)):=fun p=>(hCi _ p.h).2.cell 1;have b2:∀p:AX.CW C,p.W.cell? ⟨Bc,2,none⟩=some (.int .u64 (c.c:Nat)):=fun p=>(hCi _ p.h).2.cell 2;have b3:∀p:AX.CW C,p.W.cell? ⟨Bc,3,none⟩=some (.int .u64 (c.d:Nat)):=fun p=>(hCi _ p.h).2.cell 3;refine AX.yI (C:=fun W=>∃p:AX.CW C,W=p.W) (CT:=fun W=>∃p:AX.CW fun _=>True,W=p.W) 28 KR yG 3996159 33554431 18 (N56 base Bb Bc n W0 cv rv (.slice sa n scp) s ms c) pK (by kernel_rfl) (by kernel_rfl) (by kernel_rfl) (by decide) (by kernel_rfl) (by kernel_rfl) (by decide) (by kernel_rfl) (by kernel_rfl) (fun c a d v w h=>by cases d<;>exact h) ⟨⟨⟨_,trivial⟩,rfl⟩,⟨⟨_,hC0⟩,rfl⟩⟩ ?_ ?_
 ·clear a0 a2 a3 b0 b1 b2 b3
  rintro k m a wn ⟨x,hok,rfl,hk,v,rfl,hK⟩;have hch:=XK hok;have hok2:=hok;simp only[MV,afU,ahp,Nat.ble_eq,ahk]at hok2;simp only[Pm,hok,Bool.not_true,Bool.false_or,afU,ag0]at hch;obtain⟨hch,hbit⟩:=hch;refine⟨⟨⟨⟨wn,hCo _ ⟨hK.box,hK.bc⟩⟩,rfl⟩,⟨⟨wn,trivial⟩,rfl⟩,hbit⟩,?_⟩
  by_cases hp:x.1=4
  ·rw[afR (by rw[hp];rfl)]at hch
   refine .inl ⟨Nat.eq_of_beq_eq_true hch,by simp[yG];omega,?_⟩;have c1:=D8 (hK.c1 (by omega));have r1:=D8 (hK.r1 (by omega));obtain⟨M0,_,hs1⟩:=hK.s1 (by omega);have s1:=D8 hs1;have hlow:=HH.out.low;obtain⟨y1,hy1⟩:∃y,y=v 21:=⟨_,rfl⟩;obtain⟨y2,hy2⟩:∃y,y=v 28:=⟨_,rfl⟩;obtain⟨y3,hy3⟩:∃y,y=v 35:=⟨_,rfl⟩;have hdone:=fun W3=>hK.done (W3:=W3) hp hlow HH.out.n1 HH.out.n2 HH.out.n3;have hbx:=hK.box;have HKL:=hid hK.hb;have hm2:=fun W=>FQ W;have HD:=hid hdone;unfold I9 clV yG;dsimp only;rw[<-hy1]at c1⊢;rw[<-hy2]at r1⊢;rw[<-hy3]at s1⊢;rw[<-hy1,<-hy2,<-hy3]at HD;clear hy1 hy2 hy3 hdone hK hs1 hok hok2 hch hbit hp hk
   repeat (refine AX.gG _ (by rfl) ?_;go_big_quiet_step (fail);refine afQ ?_)
   refine AX.aV _ (by rfl) (by rfl) ?_;refine AX.aI (o:=0) (v:=y1) rfl rfl c1 acQ hbx (show 0<4 by decide) ?_;rintro W1 g3 g4 g5;have x1:Bx W1 Bb 110 #[y1,.slice none 0 0,rv,.slice sa n scp]:=g3;have u1:dH 110 wn W1:=aP hbx g4;have l1:Below base wn W1:=AX.ah hlow (.inl x1.lt) g4 g5;refine⟨⟨⟨⟨W1,trivial⟩,rfl⟩,fun h=>by cases h⟩,?_⟩;clear g3 g4 g5 hbx
   repeat (refine AX.gG _ (by rfl) ?_;go_big_quiet_step (fail);refine afQ ?_)
   refine AX.aV _ (by rfl) (by rfl) ?_;refine AX.aI (o:=2) (v:=y2) rfl rfl r1 acR x1 (show 2<4 by decide) ?_;rintro W2 g3 g4 g5;have x2:Bx W2 Bb 110 #[y1,.slice none 0 0,y2,.slice sa n scp]:=g3;have u2:dH 110 W1 W2:=aP x1 g4;have l2:Below base W1 W2:=AX.ah hlow (.inl x2.lt) g4 g5;refine⟨⟨⟨⟨W2,trivial⟩,rfl⟩,fun h=>by cases h⟩,?_⟩;clear g3 g4 g5
   repeat (refine AX.gG _ (by rfl) ?_;go_big_quiet_step (fail);refine afQ ?_)
   refine AX.aV _ (by rfl) (by rfl) ?_;refine AX.aI (o:=3) (v:=y3) rfl rfl s1 aad x2 (show 3<4 by decide) ?_;rintro W3 g3 g4 g5;have x3:Bx W3 Bb 110 #[y1,.slice none 0 0,y2,y3]:=g3;have u3:dH 110 W2 W3:=aP x2 g4;have l3:Below base W2 W3:=AX.ah hlow (.inl x3.lt) g4 g5;refine⟨⟨⟨⟨W3,trivial⟩,rfl⟩,fun h=>by cases h⟩,?_⟩;clear g3 g4 g5;have ub:dH 110 wn W3:=fun j o hj ho=>by
    have e1:=u1 j o hj ho;have e2:=u2 j o (e1.trans hj) ho;exact ((u3 j o (e2.trans (e1.trans hj)) ho).trans e2).trans e1
   have lb:=l1.trans (l2.trans l3);obtain⟨M,hBd,hKp⟩:=HD.out W3 ub lb x3;have HBd:=hid hBd;have HKp:=hid hKp;have hbs:base<=W3.heap.size:=agb HKL.out lb.size;have hset:=(aN.new W3);obtain⟨ks,hM,hks⟩:=hset;have hz:=(afI W3.heap.size W3).alloc afD (.map #[] 0);clear ub lb u1 u2 u3 l1 l2 l3 x1 x2 x3 HD hBd hKp c1 r1 s1;unfold AX.bC;go_wp2_with ((with_reducible refine FP _ W3.heap.size ks n rfl rfl rfl hM ?_);intro W9 hM9 hz9 hb9 hs9)
   have aae:Below W3.heap.size W3 W9:=hz.trans ⟨hb9.os,hb9.tape,hb9.output,hb9.size,fun j hj=>hs9 j (by omega)⟩;have acS:∀z,z∈lg ks (n:Int)↔z∈[(s.cl.length:Int)]:=fun z=>by
    rw[FM,hks z,HN.out,HH.out.n1];simp
   exact afJ (v:=.map (some W3.heap.size)) (by simp[results,Tryz.results56,go_sem]) rfl ⟨W3.heap.size,y1,y2,y3,M,rfl,⟨_,hM9,acS⟩,HBd.out.below aae,((Kp.of_below HB0.out HB.out).trans HKp.out).trans (Kp.of_below aae hbs)⟩
  ·rw[afO (by rw[ahk];exact hp)]at hch
   simp only[afU,ag0,agk,ahp,ahk,WZ]at hch;obtain⟨hne',hall⟩:=hch;refine .inr ⟨k-1,by omega,fun e=>by rw[e]at hne';simp at hne',fun i hi=>?_⟩;obtain⟨hmay,hok',hmk⟩:=hall i hi;clear hall hi hne' hbit;rcases hmay with ((((((⟨rfl,hv⟩|⟨rfl,hv⟩)|⟨rfl,hv⟩)|⟨rfl,hv⟩)|⟨rfl,hv⟩)|⟨rfl,hv⟩)|⟨rfl,hv⟩)
   ·refine⟨by decide,AX.au _ (by rfl) (by rfl) ?_⟩
    unfold Oper.wp I9 clV;go_simp
    exact⟨_,hok',hmk.symm,by simp[kC];omega,_,rfl,(hK.grow ((afI _ wn).alloc afD _)).s9 hv wn.heap.size (Bx.new wn 116 _)⟩
   ·obtain⟨B,acT,hB⟩:=hK.t9 hv
    refine⟨by decide,AX.au _ (by rfl) (by rfl) ?_⟩;refine I4 base cv s.cl c _ _ rfl rfl (hK.c0 (by omega)) B 1 acT hB (by omega) hK.hb ?_;intro v' w' hown hg;exact⟨_,hok',hmk.symm,by simp[kC];omega,up v 21 v',rfl,hK.s10 hv hne hown hg⟩
   ·obtain⟨B,hv27,hB⟩:=hK.t16 hv.2 (by omega)
    refine⟨by decide,AX.au _ (by rfl) (by rfl) ?_⟩;refine I5 base rv s.ru (-1) _ _ rfl rfl (hK.r0 (by omega)) B 1 hv27 hB (by rw[HH.out.n3];omega) hK.hb ?_;intro v' w' hown hg;exact⟨_,hok',hmk.symm,by simp[kC];omega,up v 28 v',rfl,hK.s17 hv.1 hown hg⟩
   ·obtain⟨M,Ux,hM,hB⟩:=hK.m (by omega) (by omega)
    obtain⟨B,hv34,hB⟩:=hB hv.2;refine⟨by decide,AX.au _ (by rfl) (by rfl) ?_⟩;refine I7 base (.slice sa n scp) ms M _ _ rfl rfl (hK.s0 (by omega)) B 1 hv34 hB (by rw[HH.out.n1];omega) hK.hb ?_;intro v' w' hown hg;exact⟨_,hok',hmk.symm,by simp[kC];omega,up v 35 v',rfl,hK.s24 hv.1 M hM hown hg⟩
   ·refine⟨by decide,AX.au _ (by rfl) (by rfl) ?_⟩
    unfold Oper.wp I9 clV;go_simp
    exact⟨_,hok',hmk.symm,by simp[kC];omega,_,rfl,(hK.grow ((afI _ wn).alloc afD _)).s16 wn.heap.size (Bx.new wn 3 _)⟩
   ·have hm2:=FQ wn
    refine⟨by decide,AX.au _ (by rfl) (by rfl) ?_⟩;unfold Oper.wp I9 clV;go_simp
    exact⟨_,hok',hmk.symm,by simp[kC];omega,_,rfl,(hK.grow ((afI _ wn).alloc afD _)).s22 hv wn.heap.size (aN.new wn)⟩
   ·obtain⟨M,Ux,hM,_⟩:=hK.m (by omega) (by omega)
    refine⟨by decide,AX.au _ (by rfl) (by rfl) ?_⟩;unfold Oper.wp I9 clV;rw[Ux];go_simp
    have hb9:=(afI _ wn).alloc afD (.cells #[.map (some M)] 112);exact⟨_,hok',hmk.symm,by simp[kC];omega,up v 34 (.slice (some ⟨wn.heap.size,0,none⟩) 1 1),by unfold I9 clV;simp[up,Ux],(hK.grow hb9).s23 hv M Ux (hM.below hb9 afD) wn.heap.size (Bx.new wn 112 _)⟩
 ·unfold KR
  repeat ((first|refine AX.D9 _ (by rfl) ?_|refine AX.Uy _ (by rfl) ?_);go_big_quiet_step (fail);refine afQ ?_)
  unfold AX.iH;refine⟨(0,0,0),by decide,by kernel_rfl,rfl,fun _=>undef,rfl,?_⟩;have hb0:=HB0.out;have h0:=(HH.out.below hb0).below ((afI _ W0).drew);rw[HSV.out,<-HN.out]at h0;refine⟨Kp.of_below (afI _ W0).drew (agb HB.out hb0.size),agb HB.out hb0.size,hx,hc0,fun _=>h0.c,fun g=>by simp at g,fun _=>h0.r,fun g=>by simp at g,fun _=>h0.sw,fun g=>by simp at g,fun g=>by simp at g,fun g=>by simp at g,fun g=>by simp at g,h0.set⟩
theorem pO(nx:List (List Int))(L F:List Int)(j:Nat)(hj:j<nx.length):(lN nx L F)[j]?=some (if (j:Int)∈L then jF (nx.getD j []) F else nx.getD j []):=by simp[lN,hj]
theorem MW(nx:List (List Int))(F:List Int):lN nx [] F=nx:=by
 refine agJ fun j=>?_
 by_cases hj:j<nx.length
 ·rw[pO nx [] F j hj,afO (by simp),afG,afE hj]
  rfl
 ·rw[af5 (by rw[lQ];omega),af5 (by omega)]
theorem Ja(nx:List (List Int))(dn F:List Int)(k:Nat)(hk:k<nx.length)(hd:(k:Int)∉dn):lN nx (dn++[(k:Int)]) F=(lN nx dn F).set k (jF (nx.getD k []) F)/\(lN nx dn F)[k]?=some (nx.getD k []):=by
 constructor
 ·refine agJ fun j=>?_
  by_cases hj:j<nx.length
  ·rw[pO nx _ F j hj]
   by_cases e:k=j
   ·subst e
    rw[agX (by rw[lQ];exact hj),afR (by simp)]
   ·rw[agM e,pO nx _ F j hj]
    congr 1
    have:(j:Int)∈dn++[(k:Int)]↔(j:Int)∈dn:=by
     rw[af2,afK];exact⟨fun h=>h.resolve_right fun e'=>e (by omega),.inl⟩
    simp only[this]
  ·rw[af5 (by rw[lQ];omega),af5 (by rw[agA,lQ];omega)]
 ·rw[pO nx _ F k hk,afO hd]
theorem MX(nx:List (List Int))(A B F:List Int)(h:∀x,x∈A↔x∈B):lN nx A F=lN nx B F:=by
 unfold lN;simp only[h]
theorem Bd.put{base:Nat}{W:World}{Bb:Nat}{cv rv:Value}{g cap:Nat}{s:NS}{ms:List Nat}{k r:Nat}{nx':List (List Int)}{S:List Int}(h:Bd base W Bb cv rv (.slice (some ⟨g,0,none⟩) ms.length cap) s ms)(hk:k<ms.length)(hr:aN W r S)(hn:nx'=s.nx.set k S):
  Bd base (W.setCell ⟨g,k,none⟩ (.map (some r))) Bb cv rv (.slice (some ⟨g,0,none⟩) ms.length cap) ⟨s.cl,nx',s.ru⟩ (ms.set k r)/\dH 112 W (W.setCell ⟨g,k,none⟩ (.map (some r))):=by
 obtain⟨h1,h2⟩:=World.ownsRow.stored h.sw k (.map (some r));have hs:dH 112 W (W.setCell ⟨g,k,none⟩ (.map (some r))):=aX h.sw h2;refine⟨⟨h.low,h.box.aW hs (by decide),aC h.c hs (by decide),aC h.r hs (by decide),?_,?_,?_,h.n3,fun i x T hi hT=>?_⟩,hs⟩
 ·unfold jG
  rw[agA,aiz];exact h1
 ·rw[agA];exact h.n1
 ·subst hn;show(s.nx.set k S).length=_;rw[agA];exact h.n2
 ·subst hn
  have hT:(s.nx.set k S)[i]?=some T:=hT
  by_cases e:k=i
  ·subst e
   rw[agX hk]at hi;rw[agX (by rw[h.n2,<-h.n1];exact hk)]at hT
   cases hi
   cases hT
   exact hr.aW hs
  ·rw[agM e]at hi hT
   exact(h.set i x T hi hT).aW hs
def FU:List (Nat×Nat):=[(0,0),(1,0),(2,0),(3,0),(4,0),(5,0),(6,0),(7,0),(8,0),(9,0),(10,0),(11,0),(12,0),(13,2),(14,2),(15,0),(16,2)]
def Pn(base Bb:Nat)(cv rv sv:Value)(s:NS)(w:World)(e:Ending)(w':World):Prop:=e=.returned (.tuple #[])/\(∃ms,Bd base w' Bb cv rv sv s ms)/\Kp base w w'
theorem Bd.oth{base:Nat}{W W':World}{Bb:Nat}{cv rv sv:Value}{s:NS}{ms:List Nat}(h:Bd base W Bb cv rv sv s ms)(he:∀(j:Nat)(cs:Array Value)(t:TypeId),W.heap[j]?=some (Obj.cells cs t (0,0))->W'.heap[j]?=W.heap[j]?)(hm:∀(j:Nat)(es:Array MapEntry)(c:Nat),W.heap[j]?=some (Obj.map es c)->W'.heap[j]?=W.heap[j]?):Bd base W' Bb cv rv sv s ms:=by
 have ho:∀{e:TypeId} {size n:Nat} {v:Value} {xs:List Value},W.ownsRow base e size v n xs->W'.ownsRow base e size v n xs:=fun h=>bP h fun g hg=>by obtain⟨cs,hc⟩:=iq h g hg;exact he g cs _ hc
 refine⟨h.low,(he Bb _ _ h.box).trans h.box,ho h.c,ho h.r,ho h.sw,h.n1,h.n2,h.n3,fun i r S h1 h2=>?_⟩;have:=h.set i r S h1 h2;obtain⟨es,c,hes⟩:=this.map;exact this.same (hm r es c hes)
theorem jP.iter{W:World}{It r:Nat}{ks dn:List Int}(h:jP W It r ks dn):∃a b c d,W.heap[It]?=some (.mapIter a b c d):=by
 obtain⟨es,c,s,se,c0,_,_,_,_,h5,_⟩:=h;exact⟨_,_,_,_,h5⟩
theorem jP.map{W:World}{It r:Nat}{ks dn:List Int}(h:jP W It r ks dn):∃es c,W.heap[r]?=some (.map es c):=by
 obtain⟨es,c,s,se,c0,h1,_⟩:=h;exact⟨_,_,h1⟩
theorem jP.aW{W W':World}{It r:Nat}{ks dn:List Int}{t:TypeId}(h:jP W It r ks dn)(hs:dH t W W'):jP W' It r ks dn/\lft W' It r=lft W It r:=by
 obtain⟨a,b,c,d,h1⟩:=h.iter;obtain⟨es,cl,h2⟩:=h.map;have e1:=hs It _ h1 fun cs e=>by cases e
 have e2:=hs r _ h2 fun cs e=>by cases e
 exact⟨h.same e2 e1,rZ e2 e1⟩
theorem jP.low{W W':World}{It r:Nat}{ks dn:List Int}(h:jP W It r ks dn)(hb:Below W.heap.size W W'):jP W' It r ks dn/\lft W' It r=lft W It r:=by
 have hl:=h.lt;exact⟨h.same (hb.block r hl.2.1) (hb.block It hl.1),rZ (hb.block r hl.2.1) (hb.block It hl.1)⟩
theorem yJ{base Bb rl rf:Nat}{cv rv sv:Value}{s:NS}{ms:List Nat}{L F:List Int}(w:World)(h:Bd base w Bb cv rv sv s ms)(hL:aN w rl L)(hF:aN w rf F)(hin:∀x∈L,0<=x/\x<(s.cl.length:Int))(hb:base<=w.heap.size):
  Calls Tryz.prog 58 #[.pointer (some ⟨Bb,0,none⟩),.map (some rl),.map (some rf)] w (Pn base Bb cv rv sv (s.join L F) w):=by
 obtain⟨ks,hM,hks⟩:=hL;have HKS:=hid hks;have HIN:=hid hin;have HB:=hid hb;have HH:=hid h;have HF:=hid hF;clear hks hin;go_enter Tryz.func58,Tryz.ntmps58
 go_wp2_with (at_range;refine lq _ rfl _ rfl rl ks rfl hM ?_;intro w0 hrg hb0 hs0)
 go_frame
 obtain⟨It,hIt⟩:=afC w.heap.size;rw[<-hIt]at hrg⊢;have h0:=h.below hb0;have hk0:Kp base w w0:=Kp.of_below hb0 hb;have Uz:Hid (base<=It):=hid (by omega);have HIt:=hid hIt;clear hIt hb0 hs0 hM h hF hb;go_loopw [9] (fun _ wr=>∃dn ms',jP wr It rl ks dn/\Bd base wr Bb cv rv sv (s.join dn F) ms'/\Kp base w wr) (fun _ wr=>lft wr It rl)
 case atStart=>exact⟨[],ms,hrg,by unfold NS.join;rw[MW];exact h0,hk0⟩
 case round =>
  obtain⟨dn,ms',qo,hBd,hKp⟩:=hrel;go_wp2_with (at_next;refine mW _ rfl _ rfl It rl ks dn rfl qo ?_ ?_)
  ·intro hall
   have hfin:Pn base Bb cv rv sv (s.join L F) w (.returned (.tuple #[])) wr:=⟨rfl,⟨ms',by
    have e:s.join L F=s.join dn F:=by
     unfold NS.join;rw[MX s.nx L dn F fun x=>?_];rw[<-HKS.out x];refine⟨fun h=>hall x h,fun h=>?_⟩;obtain⟨_,_,_,_,_,_,_,_,_,_,_,_,_,_,_,h11⟩:=qo;exact h11 x h
    rw[e];exact hBd⟩,hKp⟩
   clear qo hBd hKp hall;go_wp2_with fail
   exact bodyPost_end (v:=.tuple #[]) (by simp[results,Tryz.results58,go_sem]) rfl hfin
  ·intro kk W1 hk hnd hrg1 hb1 hz1 hs1 hl1 hen
   have hki:=HIN.out kk ((HKS.out kk).1 hk);obtain⟨k,rfl⟩:∃k:Nat,kk=(k:Int):=⟨kk.toNat,by omega⟩;have hkc:k<s.cl.length:=(by omega);have kD:Bd base W1 Bb cv rv sv (s.join dn F) ms':=by
    obtain⟨a,b,c,d,hit⟩:=qo.iter;exact hBd.oth (fun j cs t hj=>hs1 j fun e=>by rw[e,hit]at hj;cases hj) (fun j es c hj=>hs1 j fun e=>by rw[e,hit]at hj;cases hj)
   have nY:Kp base w W1:=⟨hKp.low.trans ⟨hb1.os,hb1.tape,hb1.output,by omega,fun j hj=>hs1 j (by have:=Uz.out;omega)⟩,fun j o hj hn=>(hs1 j (by have:=(afF.1 hj).1;have:=HIt.out;omega)).trans (hKp.keep j o hj hn)⟩;have hF1:=HF.out.kp nY;have hkm:k<ms'.length:=(by rw[kD.n1];exact hkc);obtain⟨g,cap,hsv⟩:∃g cap,sv=.slice (some ⟨g,0,none⟩) ms'.length cap:=by
    rcases kD.sw.2 with ⟨_,h0⟩|⟨g,cap,cur,e,_⟩
    ·omega
    ·exact⟨g,cap,e⟩
   obtain⟨rk,hrk⟩:∃rk,ms'[k]?=some rk:=⟨_,afE hkm⟩;obtain⟨j1,j2⟩:=Ja s.nx dn F k (by rw[HH.out.n2];exact hkc) hnd;have hSk:=kD.set k rk _ hrk j2;have hcell:W1.cell? ⟨g,k,none⟩=some (.map (some rk)):=by
    have hsw:=kD.sw;rw[hsv]at hsw;rw[World.ownsRow.cellAt hsw k (by omega),af8,hrk];rfl
   have hfz:∀W,jG W base (.slice (some ⟨g,0,none⟩) ms'.length cap) ms'->W.frozen? ⟨g,k,none⟩=false:=fun W h=>World.ownsRow.frozenAt h k;obtain⟨n,hn⟩:=afC ms'.length;have HN:=hid hn;have aeQ:(0:Int)<=(k:Int):=(by omega);have hkn:(k:Int)<(n:Int):=(by omega);have hbx:=kD.box;rw[hsv,<-hn]at hbx;have HBd:=hid kD;have HRK:=hid hrk;have HSV:=hid hsv;have HJ:=hid j1;have HKp:=hid nY;have HRg:=hid hrg1;have HL:=hid hl1;have aeR:=hid hnd;have hb9:base<=W1.heap.size:=(by have:=Uz.out;have:=hrg1.lt.1;omega);have HKM:=hid hkm;clear hs1 hb1 hz1 qo hBd hKp hk hki hnd kD nY j1 j2 hrk hn hsv hrg1 hl1 hkc hkm;go_upto_region 3 with fail
   obtain⟨C,hCi,hCo⟩:∃C:World->Prop,(∀W,C W->Bx W Bb 110 #[cv,.slice none 0 0,rv,.slice (some ⟨g,0,none⟩) n cap]/\W.cell? ⟨g,k,none⟩=some (.map (some rk)))/\∀W,Bx W Bb 110 #[cv,.slice none 0 0,rv,.slice (some ⟨g,0,none⟩) n cap]/\W.cell? ⟨g,k,none⟩=some (.map (some rk))->C W:=⟨_,fun _ h=>h,fun _ h=>h⟩;have hC0:C W1.drew:=hCo _ ⟨hbx,hcell⟩;haveI:Inhabited (AX.CW C):=⟨⟨_,hC0⟩⟩;haveI:Inhabited (AX.CW fun _=>True):=⟨⟨w,trivial⟩⟩;have a3:∀p:AX.CW C,p.W.cell? ⟨Bb,3,none⟩=some (.slice (some ⟨g,0,none⟩) n cap):=fun p=>(hCi _ p.h).1.cell 3;have a4:∀p:AX.CW C,p.W.cell? ⟨g,k,none⟩=some (.map (some rk)):=fun p=>(hCi _ p.h).2;have a5:∀p:AX.CW C,p.W.cell? ⟨g,0+k,none⟩=some (.map (some rk)):=fun p=>by rw[af9];exact(hCi _ p.h).2
   refine AX.dF (C:=fun W=>∃p:AX.CW C,W=p.W) (CT:=fun W=>∃p:AX.CW fun _=>True,W=p.W) 16 FU _ (by kernel_rfl) (by kernel_rfl) rfl (by kernel_rfl) (by decide) (by kernel_rfl) (by kernel_rfl) (by intro c a d v w h;cases d<;>exact h) ⟨⟨⟨_,trivial⟩,rfl⟩,⟨⟨_,hC0⟩,rfl⟩⟩ ?_;unfold FU
   repeat (refine AX.bQ _ (by rfl) ?_;go_big_quiet_step (fail);refine afQ ?_)
   refine AX.aV _ (by rfl) (by rfl) ?_;unfold Oper.wp;go_simp
   have hbA:Below W1.heap.size W1 (W1.alloc (.cells #[.map (some rk),.map (some rf)] 112)).drew:=((afI _ W1).alloc afD _).drew;have hnb:Bx (W1.alloc (.cells #[.map (some rk),.map (some rf)] 112)).drew W1.heap.size 112 #[.map (some rk),.map (some rf)]:=Bx.new W1 112 _;have hbx2:=hbx.below hbA hbx.lt;have qM:=HBd.out.below hbA;have XL:=hSk.below hbA afD;have hF2:=hF1.below hbA afD;have XM:=HRg.out.low hbA;have aaf:=hid (HKp.out.trans (Kp.of_below hbA hb9));obtain⟨Bn,hBn⟩:=afC W1.heap.size;have hbz:base<=Bn:=(by omega);have hBW:Bn<(W1.alloc (.cells #[.map (some rk),.map (some rf)] 112)).drew.heap.size:=(by rw[hBn];exact hnb.lt);rw[<-hBn]at hnb⊢;clear hBn hbA hcell hbx hSk hF1 HKp HBd a3 a4 a5 hC0;have aag:∀W (m:Nat),jG W base (.slice (some ⟨g,0,none⟩) ms'.length cap) ms'->ms'[k]?=some m->W.cell? ⟨g,k,none⟩=some (.map (some m)):=fun W m h hm=>by rw[World.ownsRow.cellAt h k (by have:=HKM.out;omega),af8,hm];rfl
   obtain⟨W2,hW2⟩:=afC ((W1.alloc (.cells #[.map (some rk),.map (some rf)] 112)).drew);rw[<-hW2]at hnb hbx2 qM XL hF2 XM aaf hBW⊢;clear hW2;have k0:W2.cell? ⟨Bn,0,none⟩=some (.map (some rk)):=hnb.cell 0;have k1:W2.cell? ⟨Bn,0+1,none⟩=some (.map (some rf)):=hnb.cell 1;have XO:=qM.sw;rw[HSV.out]at XO;have hc2:=aag W2 rk XO HRK.out;have hu:=lT (c:=2) W2 XL hF2 hBW k0 k1;have XP:=hid qM;have aah:=hid XM;clear k0 k1 hnb XO XL hF2 qM XM;refine⟨⟨⟨⟨W2,trivial⟩,rfl⟩,fun _=>⟨⟨W2,hCo _ ⟨hbx2,hc2⟩⟩,rfl⟩⟩,?_⟩;simp only[show Nat.beq 13 16=false from rfl];refine AX.dW hu (by rfl) (by rfl) (by rfl) Tryz.func97 (by kernel_rfl) (by rfl) (by simp only[agh,agd,agm];rfl) ?_;rintro e W3 ⟨r,rfl,hr1,hr2,hb3⟩;have nZ:=hbx2.below hb3 hbx2.lt;have oh:=XP.out.below hb3;have UA:=oh.sw;rw[HSV.out]at UA;have hc3:=aag W3 rk UA HRK.out;have hf3:=hfz W3 UA;have XQ:=aah.out.1.low hb3;have Jb:=aaf.out.trans (Kp.of_below hb3 (by omega));refine⟨_,rfl,⟨⟨⟨W3,trivial⟩,rfl⟩,fun _=>⟨⟨W3,hCo _ ⟨nZ,hc3⟩⟩,rfl⟩⟩,?_⟩;simp only[show Nat.beq 14 16=false from rfl,ahT,Act.put,afH,afL,afM];refine AX.bQ _ (by rfl) ?_;go_big_quiet_step (fail)
   refine afQ ?_;refine AX.aV _ (by rfl) (by rfl) ?_;have hput:∃ms2,Bd base (W3.setCell ⟨g,k,none⟩ (.map (some r))) Bb cv rv sv (s.join (dn++[(k:Int)]) F) ms2/\dH 112 W3 (W3.setCell ⟨g,k,none⟩ (.map (some r))):=by
    have h3:=oh;rw[HSV.out]at h3;obtain⟨h4,h5⟩:=Bd.put (nx':=lN s.nx (dn++[(k:Int)]) F) h3 HKM.out hr2 HJ.out;rw[<-HSV.out]at h4;exact⟨_,h4,h5⟩
   obtain⟨ms2,yK,hs4⟩:=hput;have hl4:Below base W3 (W3.setCell ⟨g,k,none⟩ (.map (some r))):=(afI base W3).setCell (p:=⟨g,k,none⟩) (by
    have:=oh.sw;rw[HSV.out]at this;exact (World.ownsRow.lt this g rfl).1) _
   have uS:=Jb.trans (Kp.pJ hl4 hs4 (.inr (.inr (.inr rfl))));have MZ:=XQ.1.aW hs4;have hm4:lft (W3.setCell ⟨g,k,none⟩ (.map (some r))) It rl<lft wr It rl:=(by rw[MZ.2,XQ.2,aah.out.2];exact HL.out);have hg4:=MZ.1;clear nZ oh UA XQ Jb hs4 hl4 MZ hbx2 hc2 hu hr1 hr2 hb3;unfold Oper.wp;go_simp
   generalize W3.setCell ⟨g,k,none⟩ (.map (some r))=W4 at *;refine⟨⟨⟨W4,trivial⟩,rfl⟩,?_⟩;unfold AX.bC;go_wp2_with fail
   go_roundw
   case rel=>exact⟨_,ms2,hg4,yK,uS⟩
   case measure=>exact hm4
theorem jg:AX.sizeT Tryz.prog 118=some 3:=by kernel_rfl
theorem Xa:AX.sizeT Tryz.prog 112=some 1:=by kernel_rfl
theorem dI{P:Program}{ops:Array Oper}{Q:Exit->Act->World->Prop}{a:Act}{w:World}{rest:List Oper}{t:TypeId}{x y:Operand}{ty:TypeId}{pos:String}{after:Array Edge}(h:wpList P ops Q ({dst:=none,op:=.store t x y,type:=ty,pos:=pos,after:=after,guard:=none}::rest) a w):
 wpList P ops Q ({dst:=none,op:=.store t x y,type:=ty,pos:=pos,after:=after,guard:=none}::rest) a w:=h
def plV(e:Bool)(f l:Nat):Value:=.agg #[.bool e,.map (some f),.map (some l)]
def qN(base Bb:Nat)(y:NS×Pl)(w:World)(e:Ending)(w':World):Prop:=
 ∃rf rl cv rv sv ms,e=.returned (plV y.2.e rf rl)/\aN w' rf y.2.f/\aN w' rl y.2.l/\Bd base w' Bb cv rv sv y.1 ms/\Kp base w w'
structure Bh(base:Nat)(w:World)(Bb A T:Nat)(pe qe be:Bool)(pf pl qf ql r1 r2:Nat)(PF PL QF QL X1 X2:List Int)(y:NS)(wz:World):Prop where
 xa:Bx wz A 118 #[.bool pe,.map (some pf),.map (some pl)]
 xb:Bx wz (A+1) 118 #[.bool qe,.map (some qf),.map (some ql)]
 xc:Bx wz (A+1+1) 118 #[.bool false,.map none,.map none]
 xt:Bx wz T 118 #[.bool be,.map (some r1),.map (some r2)]
 s1:aN wz r1 X1
 s2:aN wz r2 X2
 p1:aN wz pf PF
 p2:aN wz pl PL
 q1:aN wz qf QF
 q2:aN wz ql QL
 bd:∃cv rv sv ms,Bd base wz Bb cv rv sv y ms
 kp:Kp base w wz
 hb:base<=wz.heap.size
 hA:w.heap.size<=A
 hT:A+1+1<T
section
variable {base : Nat} {w : World} {Bb A T : Nat} {pe qe be : Bool} {pf pl qf ql r1 r2 : Nat} {PF PL QF QL X1 X2 : List Int} {y : NS} {wz wy : World}
theorem Bh.low(h:Bh base w Bb A T pe qe be pf pl qf ql r1 r2 PF PL QF QL X1 X2 y wz)(hb:Below wz.heap.size wz wy):Bh base w Bb A T pe qe be pf pl qf ql r1 r2 PF PL QF QL X1 X2 y wy where
 xa:=h.xa.below hb h.xa.lt
 xb:=h.xb.below hb h.xb.lt
 xc:=h.xc.below hb h.xc.lt
 xt:=h.xt.below hb h.xt.lt
 s1:=h.s1.below hb afD
 s2:=h.s2.below hb afD
 p1:=h.p1.below hb afD
 p2:=h.p2.below hb afD
 q1:=h.q1.below hb afD
 q2:=h.q2.below hb afD
 bd:=by obtain⟨a,b,c,d,hd⟩:=h.bd;exact⟨a,b,c,d,hd.below hb⟩
 kp:=h.kp.trans (Kp.of_below hb h.hb)
 hb:=agb h.hb hb.size
 hA:=h.hA
 hT:=h.hT
theorem Bh.put(h:Bh base w Bb A T pe qe be pf pl qf ql r1 r2 PF PL QF QL X1 X2 y wz){r1' r2':Nat}{X1' X2':List Int}(hb0:base<=w.heap.size)(h1:aN wz r1' X1')(h2:aN wz r2' X2')(g3:Bx wy T 118 #[.bool be,.map (some r1'),.map (some r2')])(g4:∀j,j≠T->wy.heap[j]?=wz.heap[j]?)(g5:AX.Same wz wy):
  Bh base w Bb A T pe qe be pf pl qf ql r1' r2' PF PL QF QL X1' X2' y wy:=by
 have hs:dH 118 wz wy:=aP h.xt g4;have hT:=h.hT;have hA:=h.hA;have hl:Below base wz wy:=AX.ah (by omega) (.inl g3.lt) g4 g5;refine⟨(g4 _ (by omega)).trans h.xa,(g4 _ (by omega)).trans h.xb,(g4 _ (by omega)).trans h.xc,g3,h1.aW hs,h2.aW hs,h.p1.aW hs,h.p2.aW hs,h.q1.aW hs,h.q2.aW hs,?_,⟨h.kp.low.trans hl,fun j o hj hn=>(g4 j (by have:=(afF.1 hj).1;omega)).trans (h.kp.keep j o hj hn)⟩,agb h.hb hl.size,hA,hT⟩;obtain⟨a,b,c,d,hd⟩:=h.bd;refine⟨a,b,c,d,hd.low,hd.box.aW hs (by decide),aC hd.c hs (by decide),aC hd.r hs (by decide),aC hd.sw hs (by decide),hd.n1,hd.n2,hd.n3,fun i r S e1 e2=>(hd.set i r S e1 e2).aW hs⟩
end
theorem Jc{base Bb pf pl qf ql:Nat}{cv rv sv:Value}{s:NS}{ms:List Nat}{p q:Pl}(w:World)(h:Bd base w Bb cv rv sv s ms)(h1:aN w pf p.f)(h2:aN w pl p.l)(h3:aN w qf q.f)(h4:aN w ql q.l)(hin:∀x∈p.l,0<=x/\x<(s.cl.length:Int))(hb:base<=w.heap.size):
  Calls Tryz.prog 96 #[.pointer (some ⟨Bb,0,none⟩),plV p.e pf pl,plV q.e qf ql] w (qN base Bb (behind s p q) w):=by
 obtain⟨pe,Pf,PL⟩:=p;obtain⟨qe,Qf,QL⟩:=q;simp only at h1 h2 h3 h4 hin;obtain⟨A,hA⟩:=afC w.heap.size;obtain⟨W0,hW0⟩:=afC (((w.alloc (.cells #[.bool pe,.map (some pf),.map (some pl)] 118)).alloc (.cells #[.bool qe,.map (some qf),.map (some ql)] 118)).alloc (.cells #[.bool false,.map none,.map none] 118));have hb0:Below w.heap.size w W0:=by rw[hW0];exact (((afI _ w).alloc afD _).alloc (by simp) _).alloc (by simp;omega) _
 have xa:Bx W0 A 118 #[.bool pe,.map (some pf),.map (some pl)]:=by rw[hW0,hA];exact ((Bx.new w 118 _).alloc _).alloc _
 have xb:Bx W0 (A+1) 118 #[.bool qe,.map (some qf),.map (some ql)]:=by
  rw[hW0,show A+1=(w.alloc (.cells #[.bool pe,.map (some pf),.map (some pl)] 118)).heap.size by rw[hA];simp];exact (Bx.new _ 118 _).alloc _
 have xc:Bx W0 (A+1+1) 118 #[.bool false,.map none,.map none]:=by
  rw[hW0,show A+1+1=((w.alloc (.cells #[.bool pe,.map (some pf),.map (some pl)] 118)).alloc (.cells #[.bool qe,.map (some qf),.map (some ql)] 118)).heap.size by rw[hA];simp];exact Bx.new _ 118 _
 have hz0:W0.heap.size=A+1+1+1:=by rw[hW0,hA];simp
 have hB0:=h.below hb0;have s1:=h1.below hb0 afD;have s2:=h2.below hb0 afD;have s3:=h3.below hb0 afD;have s4:=h4.below hb0 afD;have hbw:base<=W0.heap.size:=agb hb hb0.size;have hk0:Kp base w W0:=Kp.of_below hb0 hb;have hj:=yJ W0 hB0 s2 s3 hin hbw;have HB:=hid hb;have HA:=hid hA;unfold plV;have ya0:W0.cell? ⟨A,2,none⟩=some (.map (some pl)):=xa.cell 2;have yb0:W0.cell? ⟨A+1,1,none⟩=some (.map (some qf)):=xb.cell 1;have no:¬ours 118:=by unfold ours;decide
 go_enter Tryz.func96,Tryz.ntmps96
 go_upto_region 1 with fail
 rw[<-hW0,<-hA];clear hW0 hA hb h h1 h2 h3 h4 hin hb0;go_upto_region 2 with (go_at_call 58;((with_reducible refine hj.mono ?_);rintro e W1 ⟨rfl,⟨ms1,kD⟩,nY⟩))
 have xa1:=xa.kp nY no;have xb1:=xb.kp nY no;have xc1:=xc.kp nY no;have sz1:=nY.low.size;have s1:=s1.kp nY;have s2:=s2.kp nY;have s3:=s3.kp nY;have s4:=s4.kp nY;have hk1:=hk0.trans nY;have hTl:A+1+1<W1.heap.size:=xc1.lt;clear hj ya0 yb0 xa xb xc hk0 hB0 hz0 sz1 nY;have hb2:=(afI W1.heap.size W1).alloc afD (.cells #[.bool false,.map none,.map none] 118);have xt2:=Bx.new W1 118 #[.bool false,.map none,.map none];have XR:base<=W1.heap.size:=by have:=HB.out;have:=HA.out;omega
 have e0:W1.cell? ⟨A,0,none⟩=some (.bool pe):=xa1.cell 0;have e1:W1.cell? ⟨A,1,none⟩=some (.map (some pf)):=xa1.cell 1;have e2:W1.cell? ⟨A+1,0,none⟩=some (.bool qe):=xb1.cell 0;have e3:W1.cell? ⟨A+1,2,none⟩=some (.map (some ql)):=xb1.cell 2;have XT:∀W3,Bx W3 W1.heap.size 118 #[.bool (pe && qe),.map (some pf),.map (some ql)]->(∀j,j≠W1.heap.size->W3.heap[j]?=(W1.alloc (.cells #[.bool false,.map none,.map none] 118)).heap[j]?)->AX.Same (W1.alloc (.cells #[.bool false,.map none,.map none] 118)) W3->Bh base w Bb A W1.heap.size pe qe (pe && qe) pf pl qf ql pf ql Pf PL Qf QL Pf QL (s.join PL Qf) W3:=by
  intro W3 g3 g4 g5;have hl:Below W1.heap.size (W1.alloc (.cells #[.bool false,.map none,.map none] 118)) W3:=AX.ah afD (.inl g3.lt) g4 g5;have hl3:=hb2.trans hl;exact⟨xa1.below hl3 xa1.lt,xb1.below hl3 xb1.lt,xc1.below hl3 xc1.lt,g3,s1.below hl3 afD,s4.below hl3 afD,s1.below hl3 afD,s2.below hl3 afD,s3.below hl3 afD,s4.below hl3 afD,⟨_,_,_,_,kD.below hl3⟩,hk1.trans (Kp.of_below hl3 XR),agb XR hl3.size,afT HA.out.symm,hTl⟩
 obtain⟨T,hT⟩:=afC W1.heap.size;have HT:=hid hT;rw[<-hT]at XT xt2;have XU:=hid XT;clear xa1 xb1 xc1 s1 s2 s3 s4 hk1 hTl kD hb2 XR XT;go_cut [7]from 14 to 24 (fun t7 wz=>t7=.pointer (some ⟨T,0,none⟩)/\Bh base w Bb A T pe qe (pe && qe) pf pl qf ql pf ql Pf PL Qf QL Pf QL (s.join PL Qf) wz)
 case first =>
  cases pe
  ·go_wp2_with ((with_reducible refine dI ?_);rw[<-HT.out];refine AX.aj (vs:=[.bool false,.map (some pf),.map (some ql)]) rfl rfl jg xt2 rfl rfl ?_;rintro W3 g3 g4 g5)
   go_meet
   case rel=>exact⟨rfl,XU.out W3 g3 g4 g5⟩
  ·go_wp2_with ((with_reducible refine dI ?_);rw[<-HT.out];refine AX.aj (vs:=[.bool qe,.map (some pf),.map (some ql)]) rfl rfl jg xt2 rfl rfl ?_;rintro W3 g3 g4 g5)
   go_meet
   case rel=>exact⟨rfl,XU.out W3 g3 g4 g5⟩
 case rest =>
  obtain⟨rfl,h0⟩:=hcut;clear XU xt2 hT e0 e1 e2 e3 s1 s2 s3 s4;have y0:wc.cell? ⟨A,0,none⟩=some (.bool pe):=h0.xa.cell 0;go_upto_if 26 with (fail)
  go_cut [7]from 27 to 33 (fun t7 wz=>t7=.pointer (some ⟨T,0,none⟩)/\∃r1,Bh base w Bb A T pe qe (pe && qe) pf pl qf ql r1 ql Pf PL Qf QL (if pe then jF Pf Qf else Pf) QL (s.join PL Qf) wz)
  case first =>
   cases pe
   ·go_wp2_with fail
    go_meet
    case rel=>exact⟨rfl,pf,h0⟩
   ·have y1:wc.cell? ⟨A,1,none⟩=some (.map (some pf)):=h0.xa.cell 1
    have y2:wc.cell? ⟨A+1,1,none⟩=some (.map (some qf)):=h0.xb.cell 1;have hb:=(afI wc.heap.size wc).alloc afD (.cells #[.map (some pf),.map (some qf)] 112);have hn:=Bx.new wc 112 #[.map (some pf),.map (some qf)];have h1:=h0.low hb;have hu:=lT (c:=2) _ h1.p1 h1.q1 hn.lt (hn.cell 0) (hn.cell 1);have H1:=hid h1;clear hb h1;go_wp2_with (first
     | (go_at_call 97;((with_reducible refine hu.mono ?_);rintro e W3 ⟨r1,rfl,hr1,hsu,hb3⟩;have h3:=H1.out.low hb3;have x3:=h3.xt))
     | ((with_reducible refine dI ?_);refine AX.aB (o:=1) (v:=.map (some r1)) rfl rfl rfl Xa x3 (show 1<3 by decide) ?_;rintro W4 g3 g4 g5))
    go_meet
    case rel=>exact⟨rfl,r1,h3.put HB.out hsu h3.s2 g3 g4 g5⟩
  case rest =>
   obtain⟨rfl,r1,h0⟩:=hcut;clear y0;have y0:wc.cell? ⟨A+1,0,none⟩=some (.bool qe):=h0.xb.cell 0;go_upto_if 35 with (fail)
   go_cut [7]from 36 to 42 (fun t7 wz=>t7=.pointer (some ⟨T,0,none⟩)/\∃r2,Bh base w Bb A T pe qe (pe && qe) pf pl qf ql r1 r2 Pf PL Qf QL (if pe then jF Pf Qf else Pf) (if qe then jF PL QL else QL) (s.join PL Qf) wz)
   case first =>
    cases qe
    ·go_wp2_with fail
     go_meet
     case rel=>exact⟨rfl,ql,h0⟩
    ·have y1:wc.cell? ⟨A,2,none⟩=some (.map (some pl)):=h0.xa.cell 2
     have y2:wc.cell? ⟨A+1,2,none⟩=some (.map (some ql)):=h0.xb.cell 2;have hb:=(afI wc.heap.size wc).alloc afD (.cells #[.map (some pl),.map (some ql)] 112);have hn:=Bx.new wc 112 #[.map (some pl),.map (some ql)];have h1:=h0.low hb;have hu:=lT (c:=2) _ h1.p2 h1.q2 hn.lt (hn.cell 0) (hn.cell 1);have H1:=hid h1;clear hb h1;go_wp2_with (first
      | (go_at_call 97;((with_reducible refine hu.mono ?_);rintro e W3 ⟨r2,rfl,hr2,hsu,hb3⟩;have h3:=H1.out.low hb3;have x3:=h3.xt))
      | ((with_reducible refine dI ?_);refine AX.aB (o:=2) (v:=.map (some r2)) rfl rfl rfl Xa x3 (show 2<3 by decide) ?_;rintro W4 g3 g4 g5))
     go_meet
     case rel=>exact⟨rfl,r2,h3.put HB.out h3.s1 hsu g3 g4 g5⟩
   case rest =>
    obtain⟨rfl,r2,h0⟩:=hcut;clear y0;have y0:wc.cell? ⟨T,0,none⟩=some (.bool (pe && qe)):=h0.xt.cell 0;have y1:wc.cell? ⟨T,1,none⟩=some (.map (some r1)):=h0.xt.cell 1;have y2:wc.cell? ⟨T,2,none⟩=some (.map (some r2)):=h0.xt.cell 2;obtain⟨be,hbe⟩:=afC ((pe && qe));have HBe:=hid hbe;rw[<-hbe]at y0;have H0:=hid h0;have xc:=h0.xc;clear h0 hbe;go_wp2_with ((with_reducible refine dI ?_);refine AX.aj (vs:=[.bool be,.map (some r1),.map (some r2)]) rfl rfl jg xc rfl rfl ?_;rintro W9 g3 g4 g5)
    have x9:Bx W9 (A+1+1) 118 #[.bool be,.map (some r1),.map (some r2)]:=g3;have d0:W9.cell? ⟨A+1+1,0,none⟩=some (.bool be):=x9.cell 0;have d1:W9.cell? ⟨A+1+1,1,none⟩=some (.map (some r1)):=x9.cell 1;have d2:W9.cell? ⟨A+1+1,2,none⟩=some (.map (some r2)):=x9.cell 2;have hs9:dH 118 wc W9:=aP xc g4;have hAA:=H0.out.hA;have hl9:Below base wc W9:=AX.ah (by have:=HB.out;omega) (.inl x9.lt) g4 g5;have hend:qN base Bb (behind s {e:=pe,f:=Pf,l:=PL} {e:=qe,f:=Qf,l:=QL}) w (.returned (plV be r1 r2)) W9:=by
     obtain⟨a,b,c,d,hd⟩:=H0.out.bd;refine⟨r1,r2,a,b,c,d,?_,H0.out.s1.aW hs9,H0.out.s2.aW hs9,?_,⟨H0.out.kp.low.trans hl9,fun j o hj hn=>(g4 j (by have:=(afF.1 hj).1;omega)).trans (H0.out.kp.keep j o hj hn)⟩⟩
     ·rw[HBe.out];rfl
     ·exact⟨hd.low,hd.box.aW hs9 (by decide),aC hd.c hs9 (by decide),aC hd.r hs9 (by decide),aC hd.sw hs9 (by decide),hd.n1,hd.n2,hd.n3,fun i r S e1 e2=>(hd.set i r S e1 e2).aW hs9⟩
    exact afJ (v:=plV be r1 r2) (by simp[results,Tryz.results96,go_sem,d0,d1,d2,plV]) rfl hend
end Go.Proofs.YtkjgogdkdejljaaGreatDoor.Df
