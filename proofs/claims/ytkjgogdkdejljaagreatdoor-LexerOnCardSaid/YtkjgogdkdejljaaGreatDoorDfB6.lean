import Derived.Test.YtkjgogdkdejljaaGreatDoorDfB4
set_option maxRecDepth 100000
set_option maxHeartbeats 40000000
namespace Go.Proofs.YtkjgogdkdejljaaGreatDoor.Df
open Go.Lib (hid)
open Go Go.Proofs Go.RowKit
attribute [local go_sem] Oper.semAt_some
def oZ:List AX.Inf:=[⟨0,2048,1,true⟩,⟨0,4096,1,true⟩,⟨0,8192,1,true⟩,⟨0,16384,1,true⟩,⟨8,32768,16384,true⟩,⟨16,65536,32768,true⟩,⟨32,131072,65536,true⟩,⟨64,262144,131072,true⟩,⟨0,524288,8,true⟩,⟨256,1048576,524288,false⟩,⟨640,2097152,1310720,false⟩,⟨0,4194304,1,true⟩,⟨2048,8388608,4194304,true⟩,⟨4096,16777216,8388608,true⟩,⟨8192,33554432,16777216,true⟩,⟨16384,67108864,33554432,true⟩,⟨0,134217728,0,false⟩,⟨99328,268435456,201326592,false⟩,⟨0,536870912,1,true⟩,⟨262144,1073741824,536870912,true⟩,⟨524288,2147483648,1073741824,true⟩,⟨1048576,4294967296,2147483648,true⟩,⟨0,8589934592,0,false⟩,⟨4194304,17179869184,8589934592,false⟩,⟨10616832,34359738368,21474836480,false⟩,⟨19040249,68719476736,2048,true⟩,⟨52594681,137438953472,68719476736,true⟩,⟨86149113,274877906944,137438953472,true⟩,⟨153257977,0,274880004096,false⟩,⟨522452987,549755813888,4096,true⟩,⟨1059323899,1099511627776,549755813888,true⟩,⟨1596194811,2199023255552,1099511627776,true⟩,⟨2669936635,0,2199291691008,false⟩,⟨8589934591,4398046511104,8192,true⟩,⟨17179869183,8796093022208,4398046511104,true⟩,⟨25769803775,0,8830452760576,false⟩]
def JR:List (Nat×Bool):=[(0,true),(1,false),(2,false),(3,true),(4,true),(5,true),(6,true),(7,true),(8,true),(11,false),(12,false),(13,false),(14,false),(15,true),(18,false),(19,false),(20,false),(21,true)]
def yj:List (Nat×Nat):=[(25,1),(26,1),(27,1),(28,2),(29,1),(30,1),(31,1),(32,2),(33,1),(34,1),(35,2)]
abbrev yu:=Nat×Nat×Nat
def Io(x:yu):Nat:=3996159+(if Nat.ble 1 x.1 then 512 else 0)+(if Nat.ble 2 x.1 then 1024 else 0)+(if Nat.ble 3 x.1 then 131072 else 0)+(if Nat.ble 4 x.1 then 16777216 else 0)+(if Nat.ble 1 x.2.1 then 65536 else 0)+(if Nat.ble 1 x.2.2 then 4194304 else 0)+(if Nat.ble 2 x.2.2 then 8388608 else 0)
def jW(i:Nat)(x:yu):yu:=if Nat.beq i 16 then (x.1,1,x.2.2) else if Nat.beq i 22 || Nat.beq i 23 then (x.1,x.2.1,x.2.2+1) else (x.1+1,x.2)
def Lm(x:yu):Bool:=Nat.ble x.1 4 && Nat.ble x.2.1 1 && Nat.ble x.2.2 2 && (Nat.ble x.1 2 || Nat.beq x.2.1 1) && (Nat.ble x.1 3 || Nat.beq x.2.2 2)
def U6(i:Nat)(x:yu):Bool:=(Nat.beq i 9 && Nat.beq x.1 0) || (Nat.beq i 10 && Nat.beq x.1 1) || (Nat.beq i 17 && (Nat.beq x.1 2 && Nat.beq x.2.1 1)) || (Nat.beq i 24 && (Nat.beq x.1 3 && Nat.beq x.2.2 2)) || (Nat.beq i 16 && Nat.beq x.2.1 0) || (Nat.beq i 22 && Nat.beq x.2.2 0) || (Nat.beq i 23 && Nat.beq x.2.2 1)
def NW(x:yu):Bool:=!Lm x || ((if Nat.beq x.1 4 then Nat.beq (Io x) 33554431 else !(AX.gY oZ (Io x)).isEmpty && (AX.gY oZ (Io x)).all fun i=>U6 i x && (Lm (jW i x) && Nat.beq (Io (jW i x)) (Nat.lor (Io x) (2 ^ i)))) && !(Io x).testBit 28)
theorem YG:((List.range 5).all fun p=>(List.range 2).all fun b=>(List.range 3).all fun q=>NW (p,b,q))=true:=by kernel_rfl
theorem VE{x:yu}(h:Lm x=true):NW x=true:=by
 have h0:=h;simp only[Lm,Bool.and_eq_true,Nat.ble_eq] at h;obtain⟨⟨⟨⟨h1,h2⟩,h3⟩,_⟩,_⟩:=h;have:=List.all_eq_true.1 (List.all_eq_true.1 (List.all_eq_true.1 YG x.1 (List.mem_range.2 (by omega))) x.2.1 (List.mem_range.2 (by omega))) x.2.2 (List.mem_range.2 (by omega));exact this
def up(v:Nat→Value)(k:Nat)(y:Value):Nat→Value:=fun j=>if j=k then y else v j
def clV(c:Kl):Value := .agg #[.int .u64 (c.a:Nat), .int .u64 (c.b:Nat), .int .u64 (c.c:Nat), .int .u64 (c.d:Nat)]
def Ip(Bb Bc n:Nat)(cv rv sv:Value)(c:Kl)(v:Nat→Value):Act :=
 ⟨#[.pointer (some ⟨Bb,0,none⟩),clV c,undef, .pointer (some ⟨Bc,0,none⟩), .map none, .int .i64 n, .pointer (some ⟨Bb,0,none⟩), .pointer (some ⟨Bb,0,none⟩), .pointer (some ⟨Bb,3,none⟩),sv, .int .i64 n,
  .pointer (some ⟨Bb,0,none⟩), .pointer (some ⟨Bb,0,none⟩), .pointer (some ⟨Bb,0,none⟩), .pointer (some ⟨Bb,0,none⟩), .pointer (some ⟨Bb,0,none⟩), .pointer (some ⟨Bb,0,none⟩), .pointer (some ⟨Bb,0,none⟩),cv,clV c,v 20,v 21,
  .pointer (some ⟨Bb,0,none⟩), .pointer (some ⟨Bb,0,none⟩), .pointer (some ⟨Bb,0,none⟩), .pointer (some ⟨Bb,2,none⟩),rv,v 27,v 28, .pointer (some ⟨Bb,0,none⟩), .pointer (some ⟨Bb,0,none⟩), .pointer (some ⟨Bb,3,none⟩),sv,v 33,v 34,v 35,
  undef,undef,undef,undef,undef,undef,undef,undef,undef,undef,undef,undef],[]⟩
structure KS(base Bb Bc:Nat)(w0:World)(cv rv sv:Value)(s:NS)(ms:List Nat)(c:Kl)(x:yu)(v:Nat→Value)(w:World):Prop where
 kp:Kp base w0 w
 hb:base≤w.heap.size
 box:Bx w Bb 110 #[cv, .slice none 0 0,rv,sv]
 bc:Bx w Bc 116 (bI c).toArray
 c0:x.1<2→Dv w base cv s.cl
 c1:2≤x.1→Dv w base (v 21) (s.cl++[c])
 r0:x.1<3→bJ w base rv s.ru
 r1:3≤x.1→bJ w base (v 28) (s.ru++[-1])
 s0:x.1<4→jA w base sv ms
 s1:4≤x.1→∃ M,aP w M []∧jA w base (v 35) (ms++[M])
 t9:x.1=1→∃ B,v 20 = .slice (some ⟨B,0,none⟩) 1 1∧Bx w B 116 (bI c).toArray
 t16:x.2.1=1→x.1<3→∃ B,v 27 = .slice (some ⟨B,0,none⟩) 1 1∧Bx w B 3 #[.int .i64 (-1)]
 m:1≤x.2.2→x.1<4→∃ M,v 33 = .map (some M)∧aP w M []∧(x.2.2=2→∃ B,v 34 = .slice (some ⟨B,0,none⟩) 1 1∧Bx w B 112 #[.map (some M)])
 set:∀(i r:Nat)(S:List Int),ms[i]?=some r→s.nx[i]?=some S→aP w r S
section
variable {base Bb Bc : Nat} {w0 : World} {cv rv sv : Value} {s : NS} {ms : List Nat} {c : Kl} {x : yu} {v : Nat → Value} {w w' : World}
theorem KS.grow(h:KS base Bb Bc w0 cv rv sv s ms c x v w)(hb:Below w.heap.size w w'):KS base Bb Bc w0 cv rv sv s ms c x v w' where
 kp:=h.kp.trans (Kp.of_below hb h.hb)
 hb:=Nat.le_trans h.hb hb.size
 box:=h.box.below hb h.box.lt
 bc:=h.bc.below hb h.bc.lt
 c0 g:=bG (h.c0 g) hb
 c1 g:=bG (h.c1 g) hb
 r0 g:=bG (h.r0 g) hb
 r1 g:=bG (h.r1 g) hb
 s0 g:=bG (h.s0 g) hb
 s1 g:=by obtain⟨M,h1,h2⟩:=h.s1 g;exact⟨M,h1.below hb Nat.le.refl,bG h2 hb⟩
 t9 g:=by obtain⟨B,h1,h2⟩:=h.t9 g;exact⟨B,h1,h2.below hb h2.lt⟩
 t16 g k:=by obtain⟨B,h1,h2⟩:=h.t16 g k;exact⟨B,h1,h2.below hb h2.lt⟩
 m g k:=by
  obtain⟨M,h1,h2,h3⟩:=h.m g k;refine⟨M,h1,h2.below hb Nat.le.refl,fun g2=>?_⟩;obtain⟨B,h4,h5⟩:=h3 g2;exact⟨B,h4,h5.below hb h5.lt⟩
 set i r S h1 h2:=(h.set i r S h1 h2).below hb Nat.le.refl
theorem KS.s9(h:KS base Bb Bc w0 cv rv sv s ms c x v w)(hx:x.1=0)(B:Nat)(hB:Bx w B 116 (bI c).toArray):KS base Bb Bc w0 cv rv sv s ms c (jW 9 x) (up v 20 (.slice (some ⟨B,0,none⟩) 1 1)) w:=by
 have e:jW 9 x=(x.1+1,x.2):=rfl;rw[e];exact⟨h.kp,h.hb,h.box,h.bc,fun _=>h.c0 (by omega),fun g=>by simp at g;omega,fun _=>h.r0 (by omega),fun g=>by simp at g;omega,fun _=>h.s0 (by omega),fun g=>by simp at g;omega,fun _=>⟨B,rfl,hB⟩,fun g _=>h.t16 g (by omega),fun g _=>h.m g (by omega),h.set⟩
theorem KS.s10(h:KS base Bb Bc w0 cv rv sv s ms c x v w)(hx:x.1=1)(hne:cv.ownBlock≠some Bc){v':Value}(hown:Dv w' base v' (s.cl++[c]))(hg:w.grownBy w' cv.ownBlock):KS base Bb Bc w0 cv rv sv s ms c (jW 10 x) (up v 21 v') w':=by
 have e:jW 10 x=(x.1+1,x.2):=rfl;have hc:=h.c0 (by omega);have hs:=aZ hc hg;have hl:Below base w w':=(Below.refl base w).grown hg h.hb fun k hk=>(World.ownsRow.lt hc k hk).1;rw[e];exact⟨h.kp.trans (Kp.oW hl hs (.inr (.inl rfl))),Nat.le_trans h.hb hl.size,h.box.aY hs (by decide),(hg.block Bc h.bc.lt (fun e=>hne e.symm)).trans h.bc,fun g=>by simp at g;omega,fun _=>hown,fun _=>aC (h.r0 (by omega)) hs (by decide),fun g=>by simp at g;omega,fun _=>aC (h.s0 (by omega)) hs (by decide),fun g=>by simp at g;omega,fun g=>by simp at g;omega,
  fun g _=>by obtain⟨B,h1,h2⟩:=h.t16 g (by omega);exact⟨B,h1,h2.aY hs (by decide)⟩,fun g _=>by
   obtain⟨M,h1,h2,h3⟩:=h.m g (by omega);exact⟨M,h1,h2.aY hs,fun g2=>by obtain⟨B,h4,h5⟩:=h3 g2;exact⟨B,h4,h5.aY hs (by decide)⟩⟩,fun i r S h1 h2=>(h.set i r S h1 h2).aY hs⟩
theorem KS.s16(h:KS base Bb Bc w0 cv rv sv s ms c x v w)(B:Nat)(hB:Bx w B 3 #[.int .i64 (-1)]):KS base Bb Bc w0 cv rv sv s ms c (jW 16 x) (up v 27 (.slice (some ⟨B,0,none⟩) 1 1)) w:=by
 have e:jW 16 x=(x.1,1,x.2.2):=rfl;rw[e];exact⟨h.kp,h.hb,h.box,h.bc,h.c0,h.c1,h.r0,h.r1,h.s0,h.s1,h.t9,fun _ _=>⟨B,rfl,hB⟩,h.m,h.set⟩
theorem KS.s17(h:KS base Bb Bc w0 cv rv sv s ms c x v w)(hx:x.1=2){v':Value}(hown:bJ w' base v' (s.ru++[-1]))(hg:w.grownBy w' rv.ownBlock):KS base Bb Bc w0 cv rv sv s ms c (jW 17 x) (up v 28 v') w':=by
 have e:jW 17 x=(x.1+1,x.2):=rfl;have hc:=h.r0 (by omega);have hs:=aZ hc hg;have hl:Below base w w':=(Below.refl base w).grown hg h.hb fun k hk=>(World.ownsRow.lt hc k hk).1;rw[e];exact⟨h.kp.trans (Kp.oW hl hs (.inr (.inr (.inl rfl)))),Nat.le_trans h.hb hl.size,h.box.aY hs (by decide),h.bc.aY hs (by decide),fun g=>by simp at g;omega,fun _=>aC (h.c1 (by omega)) hs (by decide),fun g=>by simp at g;omega,fun _=>hown,fun _=>aC (h.s0 (by omega)) hs (by decide),fun g=>by simp at g;omega,fun g=>by simp at g;omega,
  fun _ g=>by simp at g;omega,fun g _=>by
   obtain⟨M,h1,h2,h3⟩:=h.m g (by omega);exact⟨M,h1,h2.aY hs,fun g2=>by obtain⟨B,h4,h5⟩:=h3 g2;exact⟨B,h4,h5.aY hs (by decide)⟩⟩,fun i r S h1 h2=>(h.set i r S h1 h2).aY hs⟩
theorem KS.s22(h:KS base Bb Bc w0 cv rv sv s ms c x v w)(hx:x.2.2=0)(M:Nat)(hM:aP w M []):KS base Bb Bc w0 cv rv sv s ms c (jW 22 x) (up v 33 (.map (some M))) w:=by
 have e:jW 22 x=(x.1,x.2.1,x.2.2+1):=rfl;rw[e];exact⟨h.kp,h.hb,h.box,h.bc,h.c0,h.c1,h.r0,h.r1,h.s0,h.s1,h.t9,h.t16,fun _ _=>⟨M,rfl,hM,fun g=>by simp at g;omega⟩,h.set⟩
theorem KS.s23(h:KS base Bb Bc w0 cv rv sv s ms c x v w)(hx:x.2.2=1)(M:Nat)(hv:v 33 = .map (some M))(hM:aP w M [])(B:Nat)(hB:Bx w B 112 #[.map (some M)]):KS base Bb Bc w0 cv rv sv s ms c (jW 23 x) (up v 34 (.slice (some ⟨B,0,none⟩) 1 1)) w:=by
 have e:jW 23 x=(x.1,x.2.1,x.2.2+1):=rfl;rw[e];exact⟨h.kp,h.hb,h.box,h.bc,h.c0,h.c1,h.r0,h.r1,h.s0,h.s1,h.t9,h.t16,fun _ _=>⟨M,hv,hM,fun _=>⟨B,rfl,hB⟩⟩,h.set⟩
theorem KS.s24(h:KS base Bb Bc w0 cv rv sv s ms c x v w)(hx:x.1=3)(M:Nat)(hM:aP w M []){v':Value}(hown:jA w' base v' (ms++[M]))(hg:w.grownBy w' sv.ownBlock):KS base Bb Bc w0 cv rv sv s ms c (jW 24 x) (up v 35 v') w':=by
 have e:jW 24 x=(x.1+1,x.2):=rfl;have hc:=h.s0 (by omega);have hs:=aZ hc hg;have hl:Below base w w':=(Below.refl base w).grown hg h.hb fun k hk=>(World.ownsRow.lt hc k hk).1;rw[e];exact⟨h.kp.trans (Kp.oW hl hs (.inr (.inr (.inr rfl)))),Nat.le_trans h.hb hl.size,h.box.aY hs (by decide),h.bc.aY hs (by decide),fun g=>by simp at g;omega,fun _=>aC (h.c1 (by omega)) hs (by decide),fun g=>by simp at g;omega,fun _=>aC (h.r1 (by omega)) hs (by decide),fun g=>by simp at g;omega,fun _=>⟨M,hM.aY hs,hown⟩,fun g=>by simp at g;omega,
  fun _ g=>by simp at g;omega,fun _ g=>by simp at g;omega,fun i r S h1 h2=>(h.set i r S h1 h2).aY hs⟩
end
def N56(base Bb Bc n0:Nat)(w0:World)(cv rv sv:Value)(s:NS)(ms:List Nat)(c:Kl)(n m:Nat)(a:Act)(w:World):Prop :=
 ∃ x:yu,Lm x=true∧m=Io x∧n+(x.1+x.2.1+x.2.2)=18∧∃ v,a=Ip Bb Bc n0 cv rv sv c v∧KS base Bb Bc w0 cv rv sv s ms c x v w
def EU(base Bb:Nat)(s:NS)(ms:List Nat)(c:Kl)(w:World)(e:Ending)(w':World):Prop :=
 ∃ r cv rv sv M,e = .returned (.map (some r))∧aP w' r [(s.cl.length:Int)]∧Bd base w' Bb cv rv sv (s.push c) (ms++[M])∧Kp base w w'
theorem abm:AX.sizeT Tryz.prog 71=some 1:=by kernel_rfl
theorem abn:AX.sizeT Tryz.prog 25=some 1:=by kernel_rfl
theorem YH:AX.sizeT Tryz.prog 108=some 1:=by kernel_rfl
theorem Dw{W:World}{base:Nat}{e:TypeId}{k:Nat}{v:Value}{n:Nat}{xs:List Value}(h:W.ownsRow base e k v n xs):v.oneCell'=true:=by
 rcases h.2 with ⟨e,_⟩ | ⟨g,cap,cur,e,_⟩<;>rw[e]<;>rfl
theorem KS.done{base Bb Bc:Nat}{w0:World}{cv rv sv:Value}{s:NS}{ms:List Nat}{c:Kl}{x:yu}{v:Nat→Value}{w W3:World}(h:KS base Bb Bc w0 cv rv sv s ms c x v w)(hx:x.1=4)(hlow:base≤Bb)(n1:ms.length=s.cl.length)(n2:s.nx.length=s.cl.length)(n3:s.ru.length=s.cl.length)
  (hs:dQ 110 w W3) (hl:Below base w W3) (hb:Bx W3 Bb 110 #[v 21, .slice none 0 0,v 28,v 35]):∃ M,Bd base W3 Bb (v 21) (v 28) (v 35) (s.push c) (ms++[M])∧Kp base w0 W3:=by
 obtain⟨M,hM,hS⟩:=h.s1 (by omega);refine⟨M,⟨hlow,hb,aC (h.c1 (by omega)) hs (by decide),aC (h.r1 (by omega)) hs (by decide),aC hS hs (by decide),by simp[NS.push,n1],by simp[NS.push,n2],by simp[NS.push,n3],fun i r S h1 h2=>?_⟩,h.kp.trans (Kp.oW hl hs (.inl rfl))⟩
 by_cases hi:i<ms.length
 ·rw[List.getElem?_append_left hi] at h1
  have h2:(s.nx++[[]])[i]?=some S:=h2;rw[List.getElem?_append_left (by omega)] at h2;exact(h.set i r S h1 h2).aY hs
 ·rw[List.getElem?_append_right (by omega)] at h1
  have h2:(s.nx++[[]])[i]?=some S:=h2;rw[List.getElem?_append_right (by omega)] at h2;have e:i-ms.length=0:=by have:=(List.getElem?_eq_some_iff.1 h1).1;simp at this;omega
  rw[e] at h1;rw[show i-s.nx.length=0 by omega] at h2;simp at h1 h2;subst h1;subst h2;exact hM.aY hs
theorem Bz{base Bb:Nat}{cv rv sv:Value}{s:NS}{ms:List Nat}(c:Kl)(w:World)(h:Bd base w Bb cv rv sv s ms)(hl:s.cl.length≤100000)(hb:base≤w.heap.size) :
  Calls Tryz.prog 56 #[.pointer (some ⟨Bb,0,none⟩), .agg #[.int .u64 (c.a:Nat), .int .u64 (c.b:Nat), .int .u64 (c.c:Nat), .int .u64 (c.d:Nat)]] w (EU base Bb s ms c w):=by
 obtain⟨W0,hW0⟩:∃ W0,W0=w.alloc (.cells #[.int .u64 (c.a:Nat), .int .u64 (c.b:Nat), .int .u64 (c.c:Nat), .int .u64 (c.d:Nat)] 116):=⟨_,rfl⟩;have hb0:Below w.heap.size w W0:=by rw[hW0];exact (Below.refl _ w).alloc Nat.le.refl _
 have hc0:Bx W0 w.heap.size 116 (bI c).toArray:=by rw[hW0];exact Bx.new w 116 _
 have hne:cv.ownBlock≠some w.heap.size:=fun e=>by have:=(World.ownsRow.lt h.c _ e).2;omega
 have h0:=h.below hb0;have hx:=h0.box;obtain⟨sa,scp,hsv⟩:∃ sa scp,sv = .slice sa ms.length scp:=aQ h.sw;obtain⟨ca,ccp,hcv⟩:∃ ca ccp,cv = .slice ca s.cl.length ccp:=aQ h.c;obtain⟨ra,rcp,hrv⟩:∃ ra rcp,rv = .slice ra s.ru.length rcp:=aQ h.r;obtain⟨n,hn⟩:∃ n,n=ms.length:=⟨_,rfl⟩;obtain⟨Bc,hBc⟩:∃ Bc,Bc=w.heap.size:=⟨_,rfl⟩;have HH:=hid h;have HB0:=hid hb0;have HCV:=hid hcv;have HRV:=hid hrv;have HSV:=hid hsv;have y3:W0.cell? ⟨Bb,3,none⟩=some (.slice sa n scp):=by rw[hn,←hsv];exact hx.cell 3
 rw[←hn] at hsv;rw[←hBc] at hc0 hne;have HX:=hid hx;have HBc:=hid hBc;have HN:=hid hn;have HB:=hid hb;go_enter Tryz.func56,Tryz.ntmps56
 go_upto_region 1 with fail
 rw[←hW0,←hBc];clear hW0 hn hBc hx h0 h hb0 hcv hrv hb;subst hsv;go_upto_region 2 with fail
 clear y3;have hx:=HX.out;obtain⟨C,hCi,hCo⟩:∃ C:World→Prop,(∀ W,C W→Bx W Bb 110 #[cv, .slice none 0 0,rv, .slice sa n scp]∧Bx W Bc 116 (bI c).toArray)∧∀ W,Bx W Bb 110 #[cv, .slice none 0 0,rv, .slice sa n scp]∧Bx W Bc 116 (bI c).toArray→C W:=⟨_,fun _ h=>h,fun _ h=>h⟩;have hC0:C W0.drew:=hCo _ ⟨hx,hc0⟩;haveI:Inhabited (AX.CW C):=⟨⟨_,hC0⟩⟩;haveI:Inhabited (AX.CW fun _=>True):=⟨⟨w,trivial⟩⟩;have a0:∀ p:AX.CW C,p.W.cell? ⟨Bb,0,none⟩=some cv:=fun p=>(hCi _ p.h).1.cell 0;have a2:∀ p:AX.CW C,p.W.cell? ⟨Bb,2,none⟩=some rv:=fun p=>(hCi _ p.h).1.cell 2;have a3:∀ p:AX.CW C,p.W.cell? ⟨Bb,3,none⟩=some (.slice sa n scp):=fun p=>(hCi _ p.h).1.cell 3;have b0:∀ p:AX.CW C,p.W.cell? ⟨Bc,0,none⟩=some (.int .u64 (c.a:Nat)):=fun p=>(hCi _ p.h).2.cell 0;have b1:∀ p:AX.CW C,p.W.cell? ⟨Bc,1,none⟩=some (.int .u64 (c.b:Nat)):=fun p=>(hCi _ p.h).2.cell 1;have b2:∀ p:AX.CW C,p.W.cell? ⟨Bc,2,none⟩=some (.int .u64 (c.c:Nat)):=fun p=>(hCi _ p.h).2.cell 2;have b3:∀ p:AX.CW C,p.W.cell? ⟨Bc,3,none⟩=some (.int .u64 (c.d:Nat)):=fun p=>(hCi _ p.h).2.cell 3;refine AX.yw (C:=fun W=>∃ p:AX.CW C,W=p.W) (CT:=fun W=>∃ p:AX.CW fun _=>True,W=p.W) 28 JR yj 3996159 33554431 18 (N56 base Bb Bc n W0 cv rv (.slice sa n scp) s ms c) oZ (by kernel_rfl) (by kernel_rfl) (by kernel_rfl) (by decide) (by kernel_rfl) (by kernel_rfl) (by decide) (by kernel_rfl) (by kernel_rfl) (fun c a d v w h=>by cases d<;>exact h) ⟨⟨⟨_,trivial⟩,rfl⟩,⟨⟨_,hC0⟩,rfl⟩⟩ ?_ ?_
 ·clear a0 a2 a3 b0 b1 b2 b3
  rintro k m a wn ⟨x,hok,rfl,hk,v,rfl,hK⟩;have hch:=VE hok;have hok2:=hok;simp only[Lm,Bool.and_eq_true,Bool.or_eq_true,Nat.ble_eq,Nat.beq_eq] at hok2;simp only[NW,hok,Bool.not_true,Bool.false_or,Bool.and_eq_true,Bool.not_eq_true'] at hch;obtain⟨hch,hbit⟩:=hch;refine⟨⟨⟨⟨wn,hCo _ ⟨hK.box,hK.bc⟩⟩,rfl⟩,⟨⟨wn,trivial⟩,rfl⟩,hbit⟩,?_⟩
  by_cases hp:x.1=4
  ·rw[if_pos (by rw[hp];rfl)] at hch
   refine .inl ⟨Nat.eq_of_beq_eq_true hch,by simp[yj];omega,?_⟩;have c1:=Dw (hK.c1 (by omega));have r1:=Dw (hK.r1 (by omega));obtain⟨M0,_,hs1⟩:=hK.s1 (by omega);have s1:=Dw hs1;have hlow:=HH.out.low;obtain⟨y1,hy1⟩:∃ y,y=v 21:=⟨_,rfl⟩;obtain⟨y2,hy2⟩:∃ y,y=v 28:=⟨_,rfl⟩;obtain⟨y3,hy3⟩:∃ y,y=v 35:=⟨_,rfl⟩;have hdone:=fun W3=>hK.done (W3:=W3) hp hlow HH.out.n1 HH.out.n2 HH.out.n3;have hbx:=hK.box;have HKL:=hid hK.hb;have hm2:=fun W=>ET W;have HD:=hid hdone;unfold Ip clV yj;dsimp only;rw[←hy1] at c1 ⊢;rw[←hy2] at r1 ⊢;rw[←hy3] at s1 ⊢;rw[←hy1,←hy2,←hy3] at HD;clear hy1 hy2 hy3 hdone hK hs1 hok hok2 hch hbit hp hk
   repeat (refine AX.dS _ (by rfl) ?_;go_big_quiet_step (fail);refine wpQuiet_nil ?_)
   refine AX.aW _ (by rfl) (by rfl) ?_;refine AX.aI (o:=0) (v:=y1) rfl rfl c1 abm hbx (show 0<4 by decide) ?_;rintro W1 g3 g4 g5;have x1:Bx W1 Bb 110 #[y1, .slice none 0 0,rv, .slice sa n scp]:=g3;have u1:dQ 110 wn W1:=aT hbx g4;have l1:Below base wn W1:=AX.aj hlow (.inl x1.lt) g4 g5;refine⟨⟨⟨⟨W1,trivial⟩,rfl⟩,fun h=>by cases h⟩,?_⟩;clear g3 g4 g5 hbx
   repeat (refine AX.dS _ (by rfl) ?_;go_big_quiet_step (fail);refine wpQuiet_nil ?_)
   refine AX.aW _ (by rfl) (by rfl) ?_;refine AX.aI (o:=2) (v:=y2) rfl rfl r1 abn x1 (show 2<4 by decide) ?_;rintro W2 g3 g4 g5;have x2:Bx W2 Bb 110 #[y1, .slice none 0 0,y2, .slice sa n scp]:=g3;have u2:dQ 110 W1 W2:=aT x1 g4;have l2:Below base W1 W2:=AX.aj hlow (.inl x2.lt) g4 g5;refine⟨⟨⟨⟨W2,trivial⟩,rfl⟩,fun h=>by cases h⟩,?_⟩;clear g3 g4 g5
   repeat (refine AX.dS _ (by rfl) ?_;go_big_quiet_step (fail);refine wpQuiet_nil ?_)
   refine AX.aW _ (by rfl) (by rfl) ?_;refine AX.aI (o:=3) (v:=y3) rfl rfl s1 YH x2 (show 3<4 by decide) ?_;rintro W3 g3 g4 g5;have x3:Bx W3 Bb 110 #[y1, .slice none 0 0,y2,y3]:=g3;have u3:dQ 110 W2 W3:=aT x2 g4;have l3:Below base W2 W3:=AX.aj hlow (.inl x3.lt) g4 g5;refine⟨⟨⟨⟨W3,trivial⟩,rfl⟩,fun h=>by cases h⟩,?_⟩;clear g3 g4 g5;have ub:dQ 110 wn W3:=fun j o hj ho=>by
    have e1:=u1 j o hj ho;have e2:=u2 j o (e1.trans hj) ho;exact ((u3 j o (e2.trans (e1.trans hj)) ho).trans e2).trans e1
   have lb:=l1.trans (l2.trans l3);obtain⟨M,hBd,hKp⟩:=HD.out W3 ub lb x3;have HBd:=hid hBd;have HKp:=hid hKp;have hbs:base≤W3.heap.size:=Nat.le_trans HKL.out lb.size;have hset:=(aP.new W3);obtain⟨ks,hM,hks⟩:=hset;have hz:=(Below.refl W3.heap.size W3).alloc Nat.le.refl (.map #[] 0);clear ub lb u1 u2 u3 l1 l2 l3 x1 x2 x3 HD hBd hKp c1 r1 s1;unfold AX.bD;go_wp2_with ((with_reducible refine ES _ W3.heap.size ks n rfl rfl rfl hM ?_);intro W9 hM9 hz9 hb9 hs9)
   have YI:Below W3.heap.size W3 W9:=hz.trans ⟨hb9.os,hb9.tape,hb9.output,hb9.size,fun j hj=>hs9 j (by omega)⟩;have abo:∀ z,z∈kW ks (n:Int)↔z∈[(s.cl.length:Int)]:=fun z=>by
    rw[EP,hks z,HN.out,HH.out.n1];simp
   exact bodyPost_ret (v := .map (some W3.heap.size)) (by simp[results,Tryz.results56,go_sem]) rfl ⟨W3.heap.size,y1,y2,y3,M,rfl,⟨_,hM9,abo⟩,HBd.out.below YI,((Kp.of_below HB0.out HB.out).trans HKp.out).trans (Kp.of_below YI hbs)⟩
  ·rw[if_neg (by rw[Nat.beq_eq];exact hp)] at hch
   simp only[Bool.and_eq_true,Bool.not_eq_true',List.all_eq_true,Bool.or_eq_true,Nat.beq_eq,U6] at hch;obtain⟨hne',hall⟩:=hch;refine .inr ⟨k-1,by omega,fun e=>by rw[e] at hne';simp at hne',fun i hi=>?_⟩;obtain⟨hmay,hok',hmk⟩:=hall i hi;clear hall hi hne' hbit;rcases hmay with ((((((⟨rfl,hv⟩ | ⟨rfl,hv⟩) | ⟨rfl,hv⟩) | ⟨rfl,hv⟩) | ⟨rfl,hv⟩) | ⟨rfl,hv⟩) | ⟨rfl,hv⟩)
   ·refine⟨by decide,AX.ay _ (by rfl) (by rfl) ?_⟩
    unfold Oper.wp Ip clV;go_simp
    exact⟨_,hok',hmk.symm,by simp[jW];omega,_,rfl,(hK.grow ((Below.refl _ wn).alloc Nat.le.refl _)).s9 hv wn.heap.size (Bx.new wn 116 _)⟩
   ·obtain⟨B,abp,hB⟩:=hK.t9 hv
    refine⟨by decide,AX.ay _ (by rfl) (by rfl) ?_⟩;refine Ij base cv s.cl c _ _ rfl rfl (hK.c0 (by omega)) B 1 abp hB (by omega) hK.hb ?_;intro v' w' hown hg;exact⟨_,hok',hmk.symm,by simp[jW];omega,up v 21 v',rfl,hK.s10 hv hne hown hg⟩
   ·obtain⟨B,hv27,hB⟩:=hK.t16 hv.2 (by omega)
    refine⟨by decide,AX.ay _ (by rfl) (by rfl) ?_⟩;refine Ik base rv s.ru (-1) _ _ rfl rfl (hK.r0 (by omega)) B 1 hv27 hB (by rw[HH.out.n3];omega) hK.hb ?_;intro v' w' hown hg;exact⟨_,hok',hmk.symm,by simp[jW];omega,up v 28 v',rfl,hK.s17 hv.1 hown hg⟩
   ·obtain⟨M,RV,hM,hB⟩:=hK.m (by omega) (by omega)
    obtain⟨B,hv34,hB⟩:=hB hv.2;refine⟨by decide,AX.ay _ (by rfl) (by rfl) ?_⟩;refine Il base (.slice sa n scp) ms M _ _ rfl rfl (hK.s0 (by omega)) B 1 hv34 hB (by rw[HH.out.n1];omega) hK.hb ?_;intro v' w' hown hg;exact⟨_,hok',hmk.symm,by simp[jW];omega,up v 35 v',rfl,hK.s24 hv.1 M hM hown hg⟩
   ·refine⟨by decide,AX.ay _ (by rfl) (by rfl) ?_⟩
    unfold Oper.wp Ip clV;go_simp
    exact⟨_,hok',hmk.symm,by simp[jW];omega,_,rfl,(hK.grow ((Below.refl _ wn).alloc Nat.le.refl _)).s16 wn.heap.size (Bx.new wn 3 _)⟩
   ·have hm2:=ET wn
    refine⟨by decide,AX.ay _ (by rfl) (by rfl) ?_⟩;unfold Oper.wp Ip clV;go_simp
    exact⟨_,hok',hmk.symm,by simp[jW];omega,_,rfl,(hK.grow ((Below.refl _ wn).alloc Nat.le.refl _)).s22 hv wn.heap.size (aP.new wn)⟩
   ·obtain⟨M,RV,hM,_⟩:=hK.m (by omega) (by omega)
    refine⟨by decide,AX.ay _ (by rfl) (by rfl) ?_⟩;unfold Oper.wp Ip clV;rw[RV];go_simp
    have hb9:=(Below.refl _ wn).alloc Nat.le.refl (.cells #[.map (some M)] 112);exact⟨_,hok',hmk.symm,by simp[jW];omega,up v 34 (.slice (some ⟨wn.heap.size,0,none⟩) 1 1),by unfold Ip clV;simp[up,RV],(hK.grow hb9).s23 hv M RV (hM.below hb9 Nat.le.refl) wn.heap.size (Bx.new wn 112 _)⟩
 ·unfold JR
  repeat ((first | refine AX.Dx _ (by rfl) ?_ | refine AX.RX _ (by rfl) ?_);go_big_quiet_step (fail);refine wpQuiet_nil ?_)
  unfold AX.iq;refine⟨(0,0,0),by decide,by kernel_rfl,rfl,fun _=>undef,rfl,?_⟩;have hb0:=HB0.out;have h0:=(HH.out.below hb0).below ((Below.refl _ W0).drew);rw[HSV.out,←HN.out] at h0;refine⟨Kp.of_below (Below.refl _ W0).drew (Nat.le_trans HB.out hb0.size),Nat.le_trans HB.out hb0.size,hx,hc0,fun _=>h0.c,fun g=>by simp at g,fun _=>h0.r,fun g=>by simp at g,fun _=>h0.sw,fun g=>by simp at g,fun g=>by simp at g,fun g=>by simp at g,fun g=>by simp at g,h0.set⟩
theorem pq(nx:List (List Int))(L F:List Int)(j:Nat)(hj:j<nx.length):(lG nx L F)[j]?=some (if (j:Int)∈L then jy (nx.getD j []) F else nx.getD j []):=by simp[lG,hj]
theorem Lp(nx:List (List Int))(F:List Int):lG nx [] F=nx:=by
 refine List.ext_getElem? fun j=>?_
 by_cases hj:j<nx.length
 ·rw[pq nx [] F j hj,if_neg (by simp),List.getD_eq_getElem?_getD,List.getElem?_eq_getElem hj]
  rfl
 ·rw[List.getElem?_eq_none (by rw[lH];omega),List.getElem?_eq_none (by omega)]
theorem Iq(nx:List (List Int))(dn F:List Int)(k:Nat)(hk:k<nx.length)(hd:(k:Int)∉dn):lG nx (dn++[(k:Int)]) F=(lG nx dn F).set k (jy (nx.getD k []) F)∧(lG nx dn F)[k]?=some (nx.getD k []):=by
 constructor
 ·refine List.ext_getElem? fun j=>?_
  by_cases hj:j<nx.length
  ·rw[pq nx _ F j hj]
   by_cases e:k=j
   ·subst e
    rw[List.getElem?_set_self (by rw[lH];exact hj),if_pos (by simp)]
   ·rw[List.getElem?_set_ne e,pq nx _ F j hj]
    congr 1
    have:(j:Int)∈dn++[(k:Int)]↔(j:Int)∈dn:=by
     rw[List.mem_append,List.mem_singleton];exact⟨fun h=>h.resolve_right fun e'=>e (by omega), .inl⟩
    simp only[this]
  ·rw[List.getElem?_eq_none (by rw[lH];omega),List.getElem?_eq_none (by rw[List.length_set,lH];omega)]
 ·rw[pq nx _ F k hk,if_neg hd]
theorem Lr(nx:List (List Int))(A B F:List Int)(h:∀ x,x∈A↔x∈B):lG nx A F=lG nx B F:=by
 unfold lG;simp only[h]
theorem Bd.put{base:Nat}{W:World}{Bb:Nat}{cv rv:Value}{g cap:Nat}{s:NS}{ms:List Nat}{k r:Nat}{nx':List (List Int)}{S:List Int}(h:Bd base W Bb cv rv (.slice (some ⟨g,0,none⟩) ms.length cap) s ms)(hk:k<ms.length)(hr:aP W r S)(hn:nx'=s.nx.set k S) :
  Bd base (W.setCell ⟨g,k,none⟩ (.map (some r))) Bb cv rv (.slice (some ⟨g,0,none⟩) ms.length cap) ⟨s.cl,nx',s.ru⟩ (ms.set k r)∧dQ 112 W (W.setCell ⟨g,k,none⟩ (.map (some r))):=by
 obtain⟨h1,h2⟩:=World.ownsRow.stored h.sw k (.map (some r));have hs:dQ 112 W (W.setCell ⟨g,k,none⟩ (.map (some r))):=aZ h.sw h2;refine⟨⟨h.low,h.box.aY hs (by decide),aC h.c hs (by decide),aC h.r hs (by decide),?_,?_,?_,h.n3,fun i x T hi hT=>?_⟩,hs⟩
 ·unfold jA
  rw[List.length_set,List.map_set];exact h1
 ·rw[List.length_set];exact h.n1
 ·subst hn;show(s.nx.set k S).length=_;rw[List.length_set];exact h.n2
 ·subst hn
  have hT:(s.nx.set k S)[i]?=some T:=hT
  by_cases e:k=i
  ·subst e
   rw[List.getElem?_set_self hk] at hi;rw[List.getElem?_set_self (by rw[h.n2,←h.n1];exact hk)] at hT
   cases hi
   cases hT
   exact hr.aY hs
  ·rw[List.getElem?_set_ne e] at hi hT
   exact(h.set i x T hi hT).aY hs
def EW:List (Nat×Nat):=[(0,0),(1,0),(2,0),(3,0),(4,0),(5,0),(6,0),(7,0),(8,0),(9,0),(10,0),(11,0),(12,0),(13,2),(14,2),(15,0),(16,2)]
def NY(base Bb:Nat)(cv rv sv:Value)(s:NS)(w:World)(e:Ending)(w':World):Prop:=e = .returned (.tuple #[])∧(∃ ms,Bd base w' Bb cv rv sv s ms)∧Kp base w w'
theorem Bd.oth{base:Nat}{W W':World}{Bb:Nat}{cv rv sv:Value}{s:NS}{ms:List Nat}(h:Bd base W Bb cv rv sv s ms)(he:∀(j:Nat)(cs:Array Value)(t:TypeId),W.heap[j]?=some (Obj.cells cs t (0,0))→W'.heap[j]?=W.heap[j]?)(hm:∀(j:Nat)(es:Array MapEntry)(c:Nat),W.heap[j]?=some (Obj.map es c)→W'.heap[j]?=W.heap[j]?):Bd base W' Bb cv rv sv s ms:=by
 have ho:∀ {e:TypeId} {size n:Nat} {v:Value} {xs:List Value},W.ownsRow base e size v n xs→W'.ownsRow base e size v n xs:=fun h=>bY h fun g hg=>by obtain⟨cs,hc⟩:=iF h g hg;exact he g cs _ hc
 refine⟨h.low,(he Bb _ _ h.box).trans h.box,ho h.c,ho h.r,ho h.sw,h.n1,h.n2,h.n3,fun i r S h1 h2=>?_⟩;have:=h.set i r S h1 h2;obtain⟨es,c,hes⟩:=this.map;exact this.same (hm r es c hes)
theorem jG.iter{W:World}{It r:Nat}{ks dn:List Int}(h:jG W It r ks dn):∃ a b c d,W.heap[It]?=some (.mapIter a b c d):=by
 obtain⟨es,c,s,se,c0,_,_,_,_,h5,_⟩:=h;exact⟨_,_,_,_,h5⟩
theorem jG.map{W:World}{It r:Nat}{ks dn:List Int}(h:jG W It r ks dn):∃ es c,W.heap[r]?=some (.map es c):=by
 obtain⟨es,c,s,se,c0,h1,_⟩:=h;exact⟨_,_,h1⟩
theorem jG.aY{W W':World}{It r:Nat}{ks dn:List Int}{t:TypeId}(h:jG W It r ks dn)(hs:dQ t W W'):jG W' It r ks dn∧lft W' It r=lft W It r:=by
 obtain⟨a,b,c,d,h1⟩:=h.iter;obtain⟨es,cl,h2⟩:=h.map;have e1:=hs It _ h1 fun cs e=>by cases e
 have e2:=hs r _ h2 fun cs e=>by cases e
 exact⟨h.same e2 e1,rO e2 e1⟩
theorem jG.low{W W':World}{It r:Nat}{ks dn:List Int}(h:jG W It r ks dn)(hb:Below W.heap.size W W'):jG W' It r ks dn∧lft W' It r=lft W It r:=by
 have hl:=h.lt;exact⟨h.same (hb.block r hl.2.1) (hb.block It hl.1),rO (hb.block r hl.2.1) (hb.block It hl.1)⟩
theorem yx{base Bb rl rf:Nat}{cv rv sv:Value}{s:NS}{ms:List Nat}{L F:List Int}(w:World)(h:Bd base w Bb cv rv sv s ms)(hL:aP w rl L)(hF:aP w rf F)(hin:∀ x∈L,0≤x∧x<(s.cl.length:Int))(hb:base≤w.heap.size) :
  Calls Tryz.prog 58 #[.pointer (some ⟨Bb,0,none⟩), .map (some rl), .map (some rf)] w (NY base Bb cv rv sv (s.join L F) w):=by
 obtain⟨ks,hM,hks⟩:=hL;have HKS:=hid hks;have HIN:=hid hin;have HB:=hid hb;have HH:=hid h;have HF:=hid hF;clear hks hin;go_enter Tryz.func58,Tryz.ntmps58
 go_wp2_with (at_range;refine kX _ rfl _ rfl rl ks rfl hM ?_;intro w0 hrg hb0 hs0)
 go_frame
 obtain⟨It,hIt⟩:∃ It,It=w.heap.size:=⟨_,rfl⟩;rw[←hIt] at hrg ⊢;have h0:=h.below hb0;have hk0:Kp base w w0:=Kp.of_below hb0 hb;have RY:Hid (base≤It):=hid (by omega);have HIt:=hid hIt;clear hIt hb0 hs0 hM h hF hb;go_loopw [9] (fun _ wr=>∃ dn ms',jG wr It rl ks dn∧Bd base wr Bb cv rv sv (s.join dn F) ms'∧Kp base w wr) (fun _ wr=>lft wr It rl)
 case atStart=>exact⟨[],ms,hrg,by unfold NS.join;rw[Lp];exact h0,hk0⟩
 case round =>
  obtain⟨dn,ms',pW,hBd,hKp⟩:=hrel;go_wp2_with (at_next;refine mG _ rfl _ rfl It rl ks dn rfl pW ?_ ?_)
  ·intro hall
   have hfin:NY base Bb cv rv sv (s.join L F) w (.returned (.tuple #[])) wr:=⟨rfl,⟨ms',by
    have e:s.join L F=s.join dn F:=by
     unfold NS.join;rw[Lr s.nx L dn F fun x=>?_];rw[←HKS.out x];refine⟨fun h=>hall x h,fun h=>?_⟩;obtain⟨_,_,_,_,_,_,_,_,_,_,_,_,_,_,_,h11⟩:=pW;exact h11 x h
    rw[e];exact hBd⟩,hKp⟩
   clear pW hBd hKp hall;go_wp2_with fail
   exact bodyPost_end (v := .tuple #[]) (by simp[results,Tryz.results58,go_sem]) rfl hfin
  ·intro kk W1 hk hnd hrg1 hb1 hz1 hs1 hl1 hen
   have hki:=HIN.out kk ((HKS.out kk).1 hk);obtain⟨k,rfl⟩:∃ k:Nat,kk=(k:Int):=⟨kk.toNat,by omega⟩;have hkc:k<s.cl.length:=(by omega);have jX:Bd base W1 Bb cv rv sv (s.join dn F) ms':=by
    obtain⟨a,b,c,d,hit⟩:=pW.iter;exact hBd.oth (fun j cs t hj=>hs1 j fun e=>by rw[e,hit] at hj;cases hj) (fun j es c hj=>hs1 j fun e=>by rw[e,hit] at hj;cases hj)
   have nX:Kp base w W1:=⟨hKp.low.trans ⟨hb1.os,hb1.tape,hb1.output,by omega,fun j hj=>hs1 j (by have:=RY.out;omega)⟩,fun j o hj hn=>(hs1 j (by have:=(Array.getElem?_eq_some_iff.1 hj).1;have:=HIt.out;omega)).trans (hKp.keep j o hj hn)⟩;have hF1:=HF.out.kp nX;have hkm:k<ms'.length:=(by rw[jX.n1];exact hkc);obtain⟨g,cap,hsv⟩:∃ g cap,sv = .slice (some ⟨g,0,none⟩) ms'.length cap:=by
    rcases jX.sw.2 with ⟨_,h0⟩ | ⟨g,cap,cur,e,_⟩
    ·omega
    ·exact⟨g,cap,e⟩
   obtain⟨rk,hrk⟩:∃ rk,ms'[k]?=some rk:=⟨_,List.getElem?_eq_getElem hkm⟩;obtain⟨j1,j2⟩:=Iq s.nx dn F k (by rw[HH.out.n2];exact hkc) hnd;have hSk:=jX.set k rk _ hrk j2;have hcell:W1.cell? ⟨g,k,none⟩=some (.map (some rk)):=by
    have hsw:=jX.sw;rw[hsv] at hsw;rw[World.ownsRow.cellAt hsw k (by omega),List.getElem?_map,hrk];rfl
   have hfz:∀ W,jA W base (.slice (some ⟨g,0,none⟩) ms'.length cap) ms'→W.frozen? ⟨g,k,none⟩=false:=fun W h=>World.ownsRow.frozenAt h k;obtain⟨n,hn⟩:∃ n,n=ms'.length:=⟨_,rfl⟩;have HN:=hid hn;have adD:(0:Int)≤(k:Int):=(by omega);have hkn:(k:Int)<(n:Int):=(by omega);have hbx:=jX.box;rw[hsv,←hn] at hbx;have HBd:=hid jX;have HRK:=hid hrk;have HSV:=hid hsv;have HJ:=hid j1;have HKp:=hid nX;have HRg:=hid hrg1;have HL:=hid hl1;have adE:=hid hnd;have hb9:base≤W1.heap.size:=(by have:=RY.out;have:=hrg1.lt.1;omega);have HKM:=hid hkm;clear hs1 hb1 hz1 pW hBd hKp hk hki hnd jX nX j1 j2 hrk hn hsv hrg1 hl1 hkc hkm;go_upto_region 3 with fail
   obtain⟨C,hCi,hCo⟩:∃ C:World→Prop,(∀ W,C W→Bx W Bb 110 #[cv, .slice none 0 0,rv, .slice (some ⟨g,0,none⟩) n cap]∧W.cell? ⟨g,k,none⟩=some (.map (some rk)))∧∀ W,Bx W Bb 110 #[cv, .slice none 0 0,rv, .slice (some ⟨g,0,none⟩) n cap]∧W.cell? ⟨g,k,none⟩=some (.map (some rk))→C W:=⟨_,fun _ h=>h,fun _ h=>h⟩;have hC0:C W1.drew:=hCo _ ⟨hbx,hcell⟩;haveI:Inhabited (AX.CW C):=⟨⟨_,hC0⟩⟩;haveI:Inhabited (AX.CW fun _=>True):=⟨⟨w,trivial⟩⟩;have a3:∀ p:AX.CW C,p.W.cell? ⟨Bb,3,none⟩=some (.slice (some ⟨g,0,none⟩) n cap):=fun p=>(hCi _ p.h).1.cell 3;have a4:∀ p:AX.CW C,p.W.cell? ⟨g,k,none⟩=some (.map (some rk)):=fun p=>(hCi _ p.h).2;have a5:∀ p:AX.CW C,p.W.cell? ⟨g,0+k,none⟩=some (.map (some rk)):=fun p=>by rw[Nat.zero_add];exact(hCi _ p.h).2
   refine AX.dH (C:=fun W=>∃ p:AX.CW C,W=p.W) (CT:=fun W=>∃ p:AX.CW fun _=>True,W=p.W) 16 EW _ (by kernel_rfl) (by kernel_rfl) rfl (by kernel_rfl) (by decide) (by kernel_rfl) (by kernel_rfl) (by intro c a d v w h;cases d<;>exact h) ⟨⟨⟨_,trivial⟩,rfl⟩,⟨⟨_,hC0⟩,rfl⟩⟩ ?_;unfold EW
   repeat (refine AX.bT _ (by rfl) ?_;go_big_quiet_step (fail);refine wpQuiet_nil ?_)
   refine AX.aW _ (by rfl) (by rfl) ?_;unfold Oper.wp;go_simp
   have hbA:Below W1.heap.size W1 (W1.alloc (.cells #[.map (some rk), .map (some rf)] 112)).drew:=((Below.refl _ W1).alloc Nat.le.refl _).drew;have hnb:Bx (W1.alloc (.cells #[.map (some rk), .map (some rf)] 112)).drew W1.heap.size 112 #[.map (some rk), .map (some rf)]:=Bx.new W1 112 _;have hbx2:=hbx.below hbA hbx.lt;have qI:=HBd.out.below hbA;have VF:=hSk.below hbA Nat.le.refl;have hF2:=hF1.below hbA Nat.le.refl;have VG:=HRg.out.low hbA;have YJ:=hid (HKp.out.trans (Kp.of_below hbA hb9));obtain⟨Bn,hBn⟩:∃ Bn,Bn=W1.heap.size:=⟨_,rfl⟩;have hbz:base≤Bn:=(by omega);have hBW:Bn<(W1.alloc (.cells #[.map (some rk), .map (some rf)] 112)).drew.heap.size:=(by rw[hBn];exact hnb.lt);rw[←hBn] at hnb ⊢;clear hBn hbA hcell hbx hSk hF1 HKp HBd a3 a4 a5 hC0;have YK:∀ W (m:Nat),jA W base (.slice (some ⟨g,0,none⟩) ms'.length cap) ms'→ms'[k]?=some m→W.cell? ⟨g,k,none⟩=some (.map (some m)):=fun W m h hm=>by rw[World.ownsRow.cellAt h k (by have:=HKM.out;omega),List.getElem?_map,hm];rfl
   obtain⟨W2,hW2⟩:∃ W2,W2=(W1.alloc (.cells #[.map (some rk), .map (some rf)] 112)).drew:=⟨_,rfl⟩;rw[←hW2] at hnb hbx2 qI VF hF2 VG YJ hBW ⊢;clear hW2;have k0:W2.cell? ⟨Bn,0,none⟩=some (.map (some rk)):=hnb.cell 0;have k1:W2.cell? ⟨Bn,0+1,none⟩=some (.map (some rf)):=hnb.cell 1;have VH:=qI.sw;rw[HSV.out] at VH;have hc2:=YK W2 rk VH HRK.out;have hu:=lK (c:=2) W2 VF hF2 hBW k0 k1;have VI:=hid qI;have YL:=hid VG;clear k0 k1 hnb VH VF hF2 qI VG;refine⟨⟨⟨⟨W2,trivial⟩,rfl⟩,fun _=>⟨⟨W2,hCo _ ⟨hbx2,hc2⟩⟩,rfl⟩⟩,?_⟩;simp only[show Nat.beq 13 16=false from rfl];refine AX.eF hu (by rfl) (by rfl) (by rfl) Tryz.func97 (by kernel_rfl) (by rfl) (by simp only[List.map_toArray,List.map_cons,List.map_nil];rfl) ?_;rintro e W3 ⟨r,rfl,hr1,hr2,hb3⟩;have wS:=hbx2.below hb3 hbx2.lt;have nY:=VI.out.below hb3;have RZ:=nY.sw;rw[HSV.out] at RZ;have hc3:=YK W3 rk RZ HRK.out;have hf3:=hfz W3 RZ;have VJ:=YL.out.1.low hb3;have Ir:=YJ.out.trans (Kp.of_below hb3 (by omega));refine⟨_,rfl,⟨⟨⟨W3,trivial⟩,rfl⟩,fun _=>⟨⟨W3,hCo _ ⟨wS,hc3⟩⟩,rfl⟩⟩,?_⟩;simp only[show Nat.beq 14 16=false from rfl,Bool.or_self,Act.put,List.setIfInBounds_toArray,List.set_cons_succ,List.set_cons_zero];refine AX.bT _ (by rfl) ?_;go_big_quiet_step (fail)
   refine wpQuiet_nil ?_;refine AX.aW _ (by rfl) (by rfl) ?_;have hput:∃ ms2,Bd base (W3.setCell ⟨g,k,none⟩ (.map (some r))) Bb cv rv sv (s.join (dn++[(k:Int)]) F) ms2∧dQ 112 W3 (W3.setCell ⟨g,k,none⟩ (.map (some r))):=by
    have h3:=nY;rw[HSV.out] at h3;obtain⟨h4,h5⟩:=Bd.put (nx':=lG s.nx (dn++[(k:Int)]) F) h3 HKM.out hr2 HJ.out;rw[←HSV.out] at h4;exact⟨_,h4,h5⟩
   obtain⟨ms2,yA,hs4⟩:=hput;have hl4:Below base W3 (W3.setCell ⟨g,k,none⟩ (.map (some r))):=(Below.refl base W3).setCell (p:=⟨g,k,none⟩) (by
    have:=nY.sw;rw[HSV.out] at this;exact (World.ownsRow.lt this g rfl).1) _
   have uN:=Ir.trans (Kp.oW hl4 hs4 (.inr (.inr (.inr rfl))));have Ls:=VJ.1.aY hs4;have hm4:lft (W3.setCell ⟨g,k,none⟩ (.map (some r))) It rl<lft wr It rl:=(by rw[Ls.2,VJ.2,YL.out.2];exact HL.out);have hg4:=Ls.1;clear wS nY RZ VJ Ir hs4 hl4 Ls hbx2 hc2 hu hr1 hr2 hb3;unfold Oper.wp;go_simp
   generalize W3.setCell ⟨g,k,none⟩ (.map (some r))=W4 at *;refine⟨⟨⟨W4,trivial⟩,rfl⟩,?_⟩;unfold AX.bD;go_wp2_with fail
   go_roundw
   case rel=>exact⟨_,ms2,hg4,yA,uN⟩
   case measure=>exact hm4
end Go.Proofs.YtkjgogdkdejljaaGreatDoor.Df
