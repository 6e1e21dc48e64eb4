import Derived.Test.YtkjgogdkdejljaaGreatDoorDfE8
set_option maxRecDepth 100000
set_option maxHeartbeats 40000000
namespace Go.Proofs.YtkjgogdkdejljaaGreatDoor.Df
section
open Go.Lib (hid)
open Go Go.Proofs Go.RowKit
open Rx (Nd dL iM jB vI)
attribute [local go_sem] Oper.semAt_some
def yX(W:World)(la:Option Addr)(R:List Rl):Prop:=∀i x,R[i]?=some x->∃B off,la=some ⟨B,off,none⟩/\B<W.heap.size/\W.cell? ⟨B,off+i*3,none⟩=some (.string x.nm)/\W.cell? ⟨B,off+i*3+1,none⟩=some (.string x.re)/\W.cell? ⟨B,off+i*3+2,none⟩=some (.bool x.tr)
theorem yX.below{n:Nat}{W W':World}{la:Option Addr}{R:List Rl}(h:yX W la R)(hb:Below n W W')(hn:W.heap.size<=n):yX W' la R:=fun i x hx=>by
 obtain⟨B,off,e,h1,h2,h3,h4⟩:=h i x hx;exact⟨B,off,e,afN h1 hb.size,(hb.cell (p:=⟨B,off+i*3,none⟩) (by show B<n;omega)).trans h2,(hb.cell (p:=⟨B,off+i*3+1,none⟩) (by show B<n;omega)).trans h3,(hb.cell (p:=⟨B,off+i*3+2,none⟩) (by show B<n;omega)).trans h4⟩
def Yw(R:List Rl)(w:World)(e:Ending)(w':World):Prop:=Below w.heap.size w w' /\
  ((∃at_ er,er≠0/\(∀tss T,¬oI R tss T)/\e=.returned (.tuple #[.agg wV,.int .i64 at_,.int .i64 er])) \/
   ∃tss T an ar ak cn cr ck,oI R tss T/\e=.returned (.tuple #[Lx.lV an ar ak (lF R tss T).1.length (lF R tss T).2.length (kdP R).1.length cn cr ck (kdP R).2,.int .i64 R.length,.int .i64 0]) /\
     aH w' an (lF R tss T).1/\aH w' ar (lF R tss T).2/\aH w' ak (kdP R).1)
def lY:List (Nat×Bool):=[(0,false),(1,false),(2,false),(3,false),(4,true),(5,false),(6,true)]
theorem iQ{W W':World}{B:Nat}{t:TypeId}{cs:Array Value}(h:Bx W B t cs)(h':Bx W' B t cs)(k:∀j:Nat,j≠B->W'.heap[j]?=W.heap[j]?):∀j:Nat,W'.heap[j]?=W.heap[j]?:=fun j=>by
 by_cases e:j=B
 ·subst e
  exact Eq.trans h' (Eq.symm h)
 ·exact k j e
theorem gV{m:Nat}{W W':World}(h:∀j:Nat,W'.heap[j]?=W.heap[j]?)(k:AX.Same W W'):Below m W W':=
 AX.ah (b:=max m W.heap.size) (Nat.le_max_left _ _) (.inr (Nat.le_max_right _ _)) (fun j _=>h j) k
theorem aH.store{W W':World}{a:Option Addr}{l:List Int}{L n0 n1 c0 c1:Nat}{a0 a1:Option Addr}{u0 u1 v2 v3:Value}(h:aH W a l)(x:Bx W L 29 #[.slice a0 n0 c0,.slice a1 n1 c1,v2,v3])(x':Bx W' L 29 #[u0,u1,v2,v3])(g:∀j:Nat,j≠L->W'.heap[j]?=W.heap[j]?)(hs:W.heap.size<=W'.heap.size):aH W' a l:=fun hne=>by
 obtain⟨b,off,e,hb,hc⟩:=h hne;refine⟨b,off,e,afN hb hs,fun j hj=>?_⟩;have h1:=hc j hj
 by_cases eb:b=L
 ·subst eb
  rw[x.cell]at h1;rw[x'.cell];generalize off+j=o at h1⊢
  match o with
  | 0=>simp at h1
  | 1=>simp at h1
  | 2=>exact h1
  | 3=>exact h1
  | o+4=>simp at h1
 ·have e2:W'.cell? ⟨b,off+j,none⟩=W.cell? ⟨b,off+j,none⟩:=by unfold World.cell?;rw[g b eb]
  exact e2.trans h1
def Lh(Q:Exit->Act->World->Prop):Exit->Act->World->Prop:=fun e a w=>match e with
 | .panic _=>False
 | e=>Q e a w
theorem Jy{P:Program}{C:World->Prop}{Q:Exit->Act->World->Prop}{id:Nat}{a:Act}{w:World}{l:List Oper}(r:List (Nat×Bool))(L:List AX.Inf)(hm:P.follows .mixedOrders=true)(hs:Region.noSelect l.toArray=true)(hL:AX.infos l=L)(hlen:r.length=l.length)(hB:AX.qp L r 0=true)
  (hC:C w.drew) (h:AX.fP P l C (Lh Q) r a w.drew):(Code.region id l.toArray true).wp P Q a w:=
 wp_mono (AX.gJ r L hm hs hL hlen hB (fun _ _ _ _ _ h=>h) hC h) fun e a w h=>by
  cases e<;>first|exact h|exact h.elim
theorem zy{Rp:Ending->World->Prop}{tmps:Array Value}{L E:Nat}{er at_:Int}{v0 v1 v2 v3:Value}{wz:World}(hE:Bx wz E 30 #[.int .i64 er])(hL:Bx wz L 29 #[v0,v1,v2,v3])(hEL:E≠L)
  (hres:∀w' a0 a1 a2 a3,w'.cell? ⟨L,0,none⟩=some a0->w'.cell? ⟨L,1,none⟩=some a1->w'.cell? ⟨L,2,none⟩=some a2->w'.cell? ⟨L,3,none⟩=some a3->w'.cell? ⟨E,0,none⟩=some (.int .i64 er) ->
   (results Tryz.f11 tmps).run Tryz.prog w'=.ok (.tuple #[.agg #[a0,a1,a2,a3],.int .i64 at_,.int .i64 er]) w')
  (h:∀w',((er=0/\w'=wz)\/(er≠0/\(∀j,j≠L->w'.heap[j]?=wz.heap[j]?)/\AX.Same wz w'/\L<w'.heap.size))->Rp (.returned (.tuple #[.agg (if er=0 then #[v0,v1,v2,v3]else wV),.int .i64 at_,.int .i64 er])) w'):
  Leaves Tryz.prog Tryz.f11 tmps Rp [{target:=Target.fn (Fn.func 28) #[.pointer (some ⟨E,0,none⟩),.pointer (some ⟨L,0,none⟩)],args:=#[]}] .returning wz:=by
 refine leaves_cons (f:=28) (args:=#[.pointer (some ⟨E,0,none⟩),.pointer (some ⟨L,0,none⟩)]) (by simp) (by simp[go_sem]) ?_;refine (Yt E L er _ wz hE hL rfl).mono ?_;rintro e u' w' ⟨rfl,rfl,hc⟩;rcases hc with ⟨h0,rfl⟩|⟨h0,x,g4,g5⟩
 ·refine⟨_,hres w' v0 v1 v2 v3 (hL.cell 0) (hL.cell 1) (hL.cell 2) (hL.cell 3) (hE.cell 0),?_⟩
  have:=h w' (.inl ⟨h0,rfl⟩);rw[afR h0]at this;exact this
 ·have xe:Bx w' E 30 #[.int .i64 er]:=(g4 E hEL).trans hE
  unfold wV at x;refine⟨_,hres w' _ _ _ _ (x.cell 0) (x.cell 1) (x.cell 2) (x.cell 3) (xe.cell 0),?_⟩;have:=h w' (.inr ⟨h0,g4,g5,x.lt⟩);rw[afO h0]at this;exact this
theorem CJ(R:List Rl)(hs:∀x∈R,x.re.size<=254)(hl:R.length<=16)(la:Option Addr)(c:Nat)(w:World)(hp:0<w.heap.size)(hT:TabAt w)(hR:yX w la R):
  Calls Tryz.prog 11 #[.slice la R.length c] w (Yw R w):=by
 obtain⟨n,hn⟩:=afC R.length;obtain⟨L,hL⟩:=afC w.heap.size;obtain⟨E,hE⟩:=afC (L+1);obtain⟨W0,hW0⟩:=afC ((w.alloc (.cells wV 29)).alloc (.cells #[.int .i64 0] 30));have hb0:Below w.heap.size w W0:=by rw[hW0];exact ((afI w.heap.size w).alloc afD _).alloc (by simp) _
 have xl:Bx W0 L 29 wV:=by rw[hW0,hL];exact (Bx.new w 29 _).alloc _
 have xe:Bx W0 E 30 #[.int .i64 0]:=by
  rw[hW0,hE,show L+1=(w.alloc (.cells wV 29)).heap.size by rw[hL];simp];exact Bx.new _ 30 _
 unfold wV at hW0 xl;have hmf:∀(fn:Fn)(first cap:Array Value)(w:World),(Instr.makeFunc fn first cap).run Tryz.prog w=.ok (.func fn first cap) w:=fun _ _ _ _=>rfl;rw[<-hn]at hl⊢;have HLw:=hid hL;have HEL:=hid hE
 by_cases hz:n=0
 ·subst hz
  have hR0:R=[]:=ag2.1 hn.symm;have hno:∀tss T,¬oI R tss T:=fun tss T h=>h.ne hR0;clear hR0 hn hR hs hl hT;go_enter_defers Tryz.func11,Tryz.ntmps11
  go_upto_region 1 with fail
  rw[<-hL,<-hE,<-hW0];clear hL hE hW0;have c0:=xl.cell 0;have c1:=xl.cell 1;have c2:=xl.cell 2;have c3:=xl.cell 3;go_wp2_with (first
   | ((with_reducible refine bJ ?_);refine AX.aj (vs:=[.slice none 0 0,.slice none 0 0,.slice none 0 0,.int .i64 0]) rfl rfl Gi xl rfl rfl ?_;rintro W1 g3 g4 g5;have xe1:Bx W1 E 30 #[.int .i64 0]:=(g4 E (by have:=HEL.out;omega)).trans xe)
   | ((with_reducible refine bJ ?_);refine AX.aB (o:=0) (v:=.int .i64 2) rfl rfl rfl mY xe1 (show 0<1 by decide) ?_;rintro W2 k3 k4 k5))
  have xl2:Bx W2 L 29 #[.slice none 0 0,.slice none 0 0,.slice none 0 0,.int .i64 0]:=(k4 L (by have:=HEL.out;omega)).trans g3;have hb1:Below w.heap.size W0 W1:=AX.ah (by have:=HLw.out;omega) (.inl (show Bx W1 L 29 _ from g3).lt) g4 g5;have hb2:Below w.heap.size W1 W2:=AX.ah (by have:=HLw.out;have:=HEL.out;omega) (.inl (show Bx W2 E 30 #[.int .i64 2]from k3).lt) k4 k5;refine zy (er:=2) (at_:=0) k3 xl2 (by have:=HEL.out;omega) (fun w' a0 a1 a2 a3 e0 e1 e2 e3 e4=>by simp[results,Tryz.f11,go_sem,e0,e1,e2,e3,e4]) fun w' h=>?_;rcases h with ⟨h,_⟩|⟨_,h4,h5,h6⟩
  ·cases h
  ·have hb3:Below w.heap.size W2 w':=AX.ah (by have:=HLw.out;omega) (.inl h6) h4 h5
   exact⟨hb0.trans (hb1.trans (hb2.trans hb3)),.inl ⟨0,2,by decide,hno,rfl⟩⟩
 ·have HZ:Hid (1<=n):=hid (by omega)
  have hz0:¬(n:Int)=0:=by omega
  have hz1:¬(16:Int)<(n:Int):=by omega
  have hmm:=fun W=>run_makeMap (P:=Tryz.prog) (w:=W) 67;have HXL:=hid xl;have HXE:=hid xe;have HB0:=hid hb0;have HR:=hid hR;have HT:=hid hT;have HN:=hid hn;have HS:=hid hs;have HP:=hid hp;clear hR hs hT hp hz hn xl xe hb0;go_enter_defers Tryz.func11,Tryz.ntmps11
  go_upto_region 1 with fail
  rw[<-hL,<-hE,<-hW0];clear hL hE hW0;go_upto_region 9 with fail
  have hb1:=(afI W0.heap.size W0).alloc afD (.map #[] 0);obtain⟨M,hM⟩:=afC W0.heap.size;obtain⟨W1,hW1⟩:=afC (W0.alloc (.map #[] 0));have hm1:W1.heap[M]?=some (.map (dQ 0 []).toArray ([]:List ByteArray).length):=by rw[hW1,hM];exact World.alloc_heap_new W0 _
  rw[<-hW1]at hb1;have hlb:Lb w L E M (zq (R.take 0)) (kdP (R.take 0)) [] (jI (R.take 0)) (.slice none 0 0) (.slice none 0 0) (fun _=>False) W1:=
   ⟨HB0.out.trans (hb1.mono HB0.out.size),HXL.out.below hb1 HXL.out.lt,HXE.out.below hb1 HXE.out.lt,hm1,World.ownsRow_nil _ _ _ _,⟨rfl,.inl ⟨rfl,rfl⟩⟩,rfl,fun j v r h=>by simp at h,fun k h=>h.elim,afT HLw.out.symm,by rw[hM];exact HB0.out.size⟩
  rw[<-hW1,<-hM];have HLB:=hid hlb;clear hb1 hm1 hW1 hM hlb;go_loopw [6,27] (fun v6 v27 wr=>∃(i:Nat)(vals:List Value)(av kv:Value)(S:Nat->Prop),v6=av/\v27=.int .i64 i/\i<=n/\Lb w L E M (zq (R.take i)) (kdP (R.take i)) vals (jI (R.take i)) av kv S wr/\Hid (∀j x,j<i->R[j]?=some x->(jh (zq (R.take j)) x).2=0)) (fun _ v27 _=>n-(RowKit.intOf v27).toNat)
  case atStart=>exact⟨0,[],_,_,_,rfl,rfl,af0 _,HLB.out,hid fun j x h=>absurd h (agp _)⟩
  case round =>
   obtain⟨i,vals,av,kv,S,rfl,rfl,hi,hlb,hok⟩:=hrel;have hi0:(0:Int)<=(i:Int):=by omega
   by_cases hlt:i<n
   ·have hi1:(i:Int)<(n:Int):=by omega
    have hiR:i<R.length:=(by have:=HN.out;omega);obtain⟨x,hx⟩:∃x,R[i]?=some x:=⟨_,afE hiR⟩;obtain⟨B,off,rfl,hB,d0,d1,d2⟩:=HR.out i x hx;have d0:=(hlb.lo.cell (p:=⟨B,off+i*3,none⟩) hB).trans d0;have d1:=(hlb.lo.cell (p:=⟨B,off+i*3+1,none⟩) hB).trans d1;have d2:=(hlb.lo.cell (p:=⟨B,off+i*3+2,none⟩) hB).trans d2;have hre:=HS.out x (af7 hx);have htk:R.take (i+1)=R.take i++[x]:=by
     rw[ahm,hx];rfl
    have HX:=hid hx;have HTK:=hid htk;have HLB:=hid hlb;have HKD:Hid ((kdP (R.take i)).2<=16/\(kdP (R.take i)).1.length<=1000/\0<=(kdP (R.take i)).2):=hid (by
     have hti:(R.take i).length=i:=(by rw[agZ];omega);obtain⟨q1,q2,q3,_⟩:=vK _ (R.take i) rfl;omega)
    have hvl:vals.length<=1000000:=by
     have:=hlb.vl;have hti:(jI (R.take i)).length=i:=(by unfold jI;rw[agf,agZ];omega);omega
    obtain⟨nm,re,tr⟩:=x;simp only at d0 d1 d2 hre;clear hx htk hlb hiR;have hx2:=Bx.new wr 35 #[.string ⟨#[]⟩,.string ⟨#[]⟩,.bool false];have hb2:=(afI wr.heap.size wr).alloc afD (.cells #[.string ⟨#[]⟩,.string ⟨#[]⟩,.bool false] 35);go_upto_region 11 with ((with_reducible refine bJ ?_);refine AX.aj (vs:=[.string nm,.string re,.bool tr]) rfl rfl adk hx2 rfl rfl ?_;rintro W3 g3 g4 g5)
    obtain⟨X,hX⟩:=afC wr.heap.size;have x3:Bx W3 wr.heap.size 35 #[.string nm,.string re,.bool tr]:=g3;have hb3:Below wr.heap.size wr W3:=hb2.trans (AX.ah afD (.inl x3.lt) g4 g5);rw[<-hX]at x3⊢;have hl3:=HLB.out.low hb3;have hrk:=Yp (zq (R.take i)) ⟨nm,re,tr⟩ hre M W3 hl3.mp;simp only at hrk;have e0:=x3.cell 0;have e1:=x3.cell 1;have e2:=x3.cell 2;have HX3:=hid x3;have HL3:=hid hl3;unfold Gt at hrk;obtain⟨rc,hrc⟩:=afC ((jh (zq (R.take i)) ⟨nm,re,tr⟩).2);obtain⟨rr,hrr⟩:=afC ((jh (zq (R.take i)) ⟨nm,re,tr⟩).1);rw[<-hrc,<-hrr]at hrk;have HRC:=hid hrc;have HRR:=hid hrr;clear hrc hrr g3 g4 g5 hb2 hb3 hx2 hl3 x3 d0 d1 d2 hX;go_upto_region 12 with (go_at_call 29;((with_reducible refine hrk.mono ?_);rintro e W4 ⟨v,rfl,hv1,hbm,hv2⟩))
    by_cases h0:rc=0
    ·subst h0
     obtain⟨hv3,hv4,hv5,hm4⟩:=hv2 rfl;have hl4:=HL3.out.rule hbm hm4;have hri:RIn _ W4 v rr:=RIn.of S hv3 hv1;obtain⟨va,vk,vc,rfl⟩:∃a k c,v=.slice a k c:=by obtain⟨la,c,e,_⟩:=hv3.row;exact⟨la,_,c,e⟩
     have x4:Bx W4 X 35 #[.string nm,.string re,.bool tr]:=(hbm.same X HX3.out.lt (nom HX3.out HL3.out.mp)).trans HX3.out;obtain⟨S4,hS4⟩:∃S4:Nat->Prop,S4=fun k=>S k\/(W3.heap.size<=k/\k<W4.heap.size):=⟨_,rfl⟩;rw[<-hS4]at hl4 hri;obtain⟨z0,hz0'⟩:Hid (rr=(rdP re).1)/\Hid (∀j x,j<i+1->R[j]?=some x->(jh (zq (R.take j)) x).2=0):=by
      have:=vM HRC.out.symm;refine⟨hid (by rw[HRR.out];exact this.2.1),hid fun j x hj hx=>?_⟩
      by_cases e:j=i
      ·subst e
       rw[HX.out]at hx
       cases hx
       exact HRC.out.symm
      ·exact hok.out j x (by omega) hx
     have hnm:Hid (zq (R.take i)++[nm]=zq (R.take (i+1))):=hid (by rw[HTK.out];unfold zq;rw[agt];rfl);have hrd:Hid (jI (R.take i)++[rr]=jI (R.take (i+1))):=hid (by rw[HTK.out,z0.out];unfold jI;rw[agt];rfl);have hkd:Hid (kdP (R.take (i+1))=if tr=true then ((kdP (R.take i)).1++[-1],(kdP (R.take i)).2)else ((kdP (R.take i)).1++[(kdP (R.take i)).2],(kdP (R.take i)).2+1)):=hid (by rw[HTK.out];exact zu _ _);have hx5:=Bx.new W4 44 #[.slice va vk vc];have hb5:=(afI W4.heap.size W4).alloc afD (.cells #[.slice va vk vc] 44);have hl5:=hl4.low hb5;have aaN:=hri.go (S':=S4) hb5.size (fun k hk=>hb5.block k (hl4.sd k hk).1) fun _ h=>h;have x5:=x4.below hb5 x4.lt;have UJ:=hl5.lo.size;have hao:=hl5.ao;have HL5:=hid hl5;have HRI:=hid aaN;have HX5:=hid x5;clear hS4 hl4 hri hv2 hv3 hv4 hv5 hm4 hbm x4 hb5 hl5 aaN x5 e0 e1 e2 hrk;go_upto_region 15 with ((with_reducible refine Yv ?_);refine Et w.heap.size _ vals (.slice va vk vc) rfl hao W4.heap.size 1 rfl hx5 rfl hvl UJ ?_;rintro av' W6 ho hg hor)
     have hl6:=HL5.out.adn HRI.out ho hg hor;have x6:Bx W6 X 35 #[.string nm,.string re,.bool tr]:=HX5.out.aW (aX HL5.out.ao hg) (by decide);have f2:W6.cell? ⟨X,2,none⟩=some (.bool tr):=x6.cell 2;have f3:W6.cell? ⟨L,3,none⟩=some (.int .i64 (kdP (R.take i)).2):=hl6.lb.cell 3;have f4:W6.cell? ⟨L,2,none⟩=some kv:=hl6.lb.cell 2;rw[hnm.out,hrd.out]at hl6;obtain⟨kn,hkn⟩:=afC ((kdP (R.take i)).2);have HL6:=hid hl6;clear hao hx5 ho hg hor hl6 x6
     cases tr with
     | true =>
      have hx7:=Bx.new W6 3 #[.int .i64 (-1)];have hl7:=HL6.out.low ((afI W6.heap.size W6).alloc afD (.cells #[.int .i64 (-1)] 3));have NG:=hl7.lo.size;have hko:=hl7.ko;have HL7:=hid hl7;have hkl:(kdP (R.take i)).1.length<=1000000:=(by have:=HKD.out;omega);clear hl7 f3;go_wp2_with (first
       | ((with_reducible refine jH ?_);refine bT w.heap.size kv (kdP (R.take i)).1 (-1) rfl hko W6.heap.size 1 rfl hx7 hkl NG ?_;rintro kv' W8 ho hg hor;have oK:=HL7.out.lb.aW (aX hko hg) (show (29:TypeId)≠3 by decide);have hone:=fO ho)
       | ((with_reducible refine bJ ?_);refine AX.aB (o:=2) (v:=kv') rfl rfl hone oJ oK (show 2<4 by decide) ?_;rintro W9 g3 g4 g5))
      have hl9:=HL7.out.aaM ho hg hor g3 g4 g5;rw[show ((kdP (R.take i)).1++[-1],(kdP (R.take i)).2)=kdP (R.take (i+1))by rw[hkd.out];rfl]at hl9;exact⟨⟨i+1,_,_,_,_,rfl,by simp,by omega,hl9,hz0'⟩,by simp[RowKit.intOf];omega⟩
     | false =>
      have hlL:=HL6.out.lb;obtain⟨q1,q2,q3⟩:=HKD.out;go_upto_region 19 with ((with_reducible refine bJ ?_);refine AX.aB (o:=3) (v:=.int .i64 ((kdP (R.take i)).2+1)) rfl rfl rfl sz3 hlL (show 3<4 by decide) ?_;rintro Wn j3 j4 j5)
      have hln:=HL6.out.num j3 j4 j5;have f5:Wn.cell? ⟨L,2,none⟩=some kv:=hln.lb.cell 2;have hx7:=Bx.new Wn 3 #[.int .i64 (kdP (R.take i)).2];have hl7:=hln.low ((afI Wn.heap.size Wn).alloc afD (.cells #[.int .i64 (kdP (R.take i)).2] 3));have NG:=hl7.lo.size;have hko:=hl7.ko;have HL7:=hid hl7;have hkl:(kdP (R.take i)).1.length<=1000000:=(by have:=HKD.out;omega);clear hl7 f3 f4 hln hlL j3 j4 j5;go_wp2_with (first
       | ((with_reducible refine jH ?_);refine bT w.heap.size kv (kdP (R.take i)).1 (kdP (R.take i)).2 rfl hko Wn.heap.size 1 rfl hx7 hkl NG ?_;rintro kv' W8 ho hg hor;have oK:=HL7.out.lb.aW (aX hko hg) (show (29:TypeId)≠3 by decide);have hone:=fO ho)
       | ((with_reducible refine bJ ?_);refine AX.aB (o:=2) (v:=kv') rfl rfl hone oJ oK (show 2<4 by decide) ?_;rintro W9 g3 g4 g5))
      have hl9:=HL7.out.aaM ho hg hor g3 g4 g5;rw[show ((kdP (R.take i)).1++[(kdP (R.take i)).2],(kdP (R.take i)).2+1)=kdP (R.take (i+1))by rw[hkd.out];rfl]at hl9;exact⟨⟨i+1,_,_,_,_,rfl,by simp,by omega,hl9,hz0'⟩,by simp[RowKit.intOf];omega⟩
    ·have hd:decide (rc=0)=false:=agC h0
     have hno:∀tss T,¬oI R tss T:=fun tss T h=>h0 (HRC.out.trans (h.ok i _ HX.out));have xl4:Bx W4 L 29 #[.slice none 0 0,.slice none 0 0,kv,.int .i64 (kdP (R.take i)).2]:=(hbm.same L HL3.out.lb.lt (nom HL3.out.lb HL3.out.mp)).trans HL3.out.lb;have xe4:Bx W4 E 30 #[.int .i64 0]:=(hbm.same E HL3.out.eb.lt (nom HL3.out.eb HL3.out.mp)).trans HL3.out.eb;have hb4:Below w.heap.size w W4:=HL3.out.lo.trans (hbm.below HL3.out.lo.size HL3.out.bm);have l0:=xl4.cell 0;have l1:=xl4.cell 1;have l2:=xl4.cell 2;have l3:=xl4.cell 3;have ck:=fO HL3.out.ko;have HNO:=hid hno;have HB4:=hid hb4;clear hno hb4 hv2 hbm hrk e0 e1 e2;go_wp2_with (first
      | ((with_reducible refine bJ ?_);refine AX.aj (vs:=[.slice none 0 0,.slice none 0 0,kv,.int .i64 (kdP (R.take i)).2]) rfl rfl Gi xl4 rfl (by simp only[List.all_cons,List.all_nil,ck];rfl) ?_;rintro W5 g3 g4 g5;have xe5:Bx W5 E 30 #[.int .i64 0]:=(g4 E (by have:=HEL.out;omega)).trans xe4)
      | ((with_reducible refine bJ ?_);refine AX.aB (o:=0) (v:=.int .i64 rc) rfl rfl rfl mY xe5 (show 0<1 by decide) ?_;rintro W6 k3 k4 k5))
     have xl6:Bx W6 L 29 #[.slice none 0 0,.slice none 0 0,kv,.int .i64 (kdP (R.take i)).2]:=(k4 L (by have:=HEL.out;omega)).trans g3;have hb5:Below w.heap.size W4 W5:=AX.ah (by have:=HLw.out;omega) (.inl (show Bx W5 L 29 _ from g3).lt) g4 g5;have hb6:Below w.heap.size W5 W6:=AX.ah (by have:=HLw.out;have:=HEL.out;omega) (.inl (show Bx W6 E 30 #[.int .i64 rc]from k3).lt) k4 k5;refine zy (er:=rc) (at_:=i) k3 xl6 (by have:=HEL.out;omega) (fun w' b0 b1 b2 b3 e0 e1 e2 e3 e4=>by simp[results,Tryz.f11,go_sem,e0,e1,e2,e3,e4]) fun w' h=>?_;rcases h with ⟨h,_⟩|⟨_,h4,h5,h6⟩
     ·exact absurd h h0
     ·have hb7:Below w.heap.size W6 w':=AX.ah (by have:=HLw.out;omega) (.inl h6) h4 h5
      rw[afO h0];exact⟨HB4.out.trans (hb5.trans (hb6.trans hb7)),.inl ⟨i,rc,h0,HNO.out,rfl⟩⟩
   ·have hi1:¬(i:Int)<(n:Int):=by omega
    obtain rfl:i=n:=by omega
    have htn:R.take i=R:=agW (by have:=HN.out;omega);rw[htn]at hlb;have Yx:Gg R:=fun j x hx=>hok.out j x (by have:=(afW.1 hx).1;have:=HN.out;omega) hx;obtain⟨rx1,rx2⟩:=Es Yx HS.out;have hrl:(jI R).length=i:=(by unfold jI;rw[agf];exact HN.out.symm);obtain⟨la2,c2,rfl,hrs⟩:=hlb.rows;obtain⟨ka,kc,hkv⟩:=aU hlb.ko;subst hkv;obtain⟨kl,hkl⟩:=afC ((kdP R).1.length);obtain⟨kn,hkn⟩:=afC ((kdP R).2);have hbu:=Nj (jI R) la2 c2 rx1 rx2 (by omega) wr hrs;unfold PN nfV at hbu;obtain⟨ncl,Yy⟩:=afC ((uY (jI R)).cl.length);rw[<-Yy]at hbu;obtain⟨q,hq⟩:=afC ((jI R).length);rw[<-hq]at hbu⊢;have HLB:=hid hlb;have HOT:=hid Yx;have HKL:=hid hkl;have HKN:=hid hkn;have HNC:=hid Yy;have xlr:=hlb.lb;rw[<-hkn,<-hkl]at xlr;have hko:=hlb.ko;rw[<-hkl]at hko;have HKr:=hid hko;clear hko;have xer:=hlb.eb;have U3:=hid xlr;have U4:=hid xer;clear hlb Yx hkl hkn Yy rx1 rx2 hrs hrl hq htn xlr xer
    by_cases hbig:1024<ncl
    ·have hno:∀tss T,¬oI R tss T:=fun tss T h=>by have:=h.cl;have e:(nfP R).cl.length=ncl:=HNC.out.symm;omega
     have Gx:Calls Tryz.prog 30 #[.slice la2 q c2] wr fun e w'=>e=.returned (.tuple #[.agg #[.slice none 0 0,.slice none 0 0,.slice none 0 0],.int .i64 10])/\Below wr.heap.size wr w':=hbu.mono fun e w' h=>by
      rcases h with ⟨h1,⟨_,h2⟩|⟨h3,_⟩⟩
      ·exact⟨h2,h1⟩
      ·omega
     clear hbu hbig;go_upto_region 22 with (first
      | (go_at_call 30;((with_reducible refine Gx.mono ?_);rintro e W2 ⟨rfl,hb2⟩;have xN:=Bx.new W2 74 #[.slice none 0 0,.slice none 0 0,.slice none 0 0]))
      | ((with_reducible refine bJ ?_);refine AX.aj (vs:=[.slice none 0 0,.slice none 0 0,.slice none 0 0]) rfl rfl UF xN rfl rfl ?_;rintro W3 g3 g4 g5;have hb3:Below wr.heap.size wr W3:=(hb2.trans (((afI W2.heap.size W2).alloc afD _).mono hb2.size)).trans (AX.ah hb2.size (.inl (show Bx W3 W2.heap.size 74 _ from g3).lt) g4 g5);have xl3:=U3.out.below hb3 U3.out.lt;have xe3:=U4.out.below hb3 U4.out.lt)
      | ((with_reducible refine bJ ?_);refine AX.aB (o:=0) (v:=.int .i64 10) rfl rfl rfl mY xe3 (show 0<1 by decide) ?_;rintro W4 k3 k4 k5))
     have xe4:Bx W4 E 30 #[.int .i64 10]:=k3;have xl4:Bx W4 L 29 #[.slice none 0 0,.slice none 0 0,.slice ka kl kc,.int .i64 kn]:=(k4 L (by have:=HEL.out;omega)).trans xl3;have HLO:Hid (Below w.heap.size w W4):=hid ((HLB.out.lo.trans (hb3.mono HLB.out.lo.size)).trans (AX.ah (by have:=HLw.out;have:=HEL.out;omega) (.inl xe4.lt) k4 k5));have v4:=xe4.cell 0;clear hb2 hb3 xN g3 g4 g5 k3 k4 k5 xl3 xe3 Gx;go_upto_region 26 with fail
     have hbd:=(afI W4.heap.size W4).drew;obtain⟨Wd,hWd⟩:=afC W4.drew;obtain⟨C,hCi,hCo⟩:∃C:World->Prop,(∀W,C W->Bx W L 29 #[.slice none 0 0,.slice none 0 0,.slice ka kl kc,.int .i64 kn]/\Bx W E 30 #[.int .i64 10]/\Below W4.heap.size W4 W)/\(∀W,Bx W L 29 #[.slice none 0 0,.slice none 0 0,.slice ka kl kc,.int .i64 kn]->Bx W E 30 #[.int .i64 10]->Below W4.heap.size W4 W->C W):=⟨_,fun _ h=>h,fun _ h1 h2 h3=>⟨h1,h2,h3⟩⟩;have hC0:C W4.drew:=hCo _ (xl4.below hbd xl4.lt) (xe4.below hbd xe4.lt) hbd;haveI:Inhabited (AX.CW C):=⟨⟨_,hC0⟩⟩;have a0:∀p:AX.CW C,p.W.cell? ⟨L,0,none⟩=some (.slice none 0 0):=fun p=>(hCi _ p.h).1.cell 0;have a1:∀p:AX.CW C,p.W.cell? ⟨L,1,none⟩=some (.slice none 0 0):=fun p=>(hCi _ p.h).1.cell 1;have a2:∀p:AX.CW C,p.W.cell? ⟨L,2,none⟩=some (.slice ka kl kc):=fun p=>(hCi _ p.h).1.cell 2;have a3:∀p:AX.CW C,p.W.cell? ⟨L,3,none⟩=some (.int .i64 kn):=fun p=>(hCi _ p.h).1.cell 3;have a4:∀p:AX.CW C,p.W.cell? ⟨E,0,none⟩=some (.int .i64 10):=fun p=>(hCi _ p.h).2.1.cell 0;refine Jy (C:=fun W=>∃p:AX.CW C,W=p.W) lY _ (by kernel_rfl) (by kernel_rfl) rfl (by kernel_rfl) (by kernel_rfl) ⟨⟨_,hC0⟩,rfl⟩ ?_;unfold lY;rw[<-hWd]at hC0⊢
     repeat (refine AX.dD _ (by rfl) ?_;go_big_quiet_step (fail);refine afQ ?_)
     obtain⟨gL,gE,gB⟩:=hCi _ hC0;refine AX.kH _ (by rfl) (by rfl) ?_;refine AX.aG (vs:=[.slice none 0 0,.slice none 0 0,.slice ka kl kc,.int .i64 kn]) rfl rfl Gi gL rfl (rfl) ?_;rintro Wa k3 k4 k5;have xa:Bx Wa L 29 #[.slice none 0 0,.slice none 0 0,.slice ka kl kc,.int .i64 kn]:=k3;have xea:Bx Wa E 30 #[.int .i64 10]:=(k4 E (by have:=HEL.out;omega)).trans gE;have hba:Below W4.heap.size W4 Wa:=gB.trans (gV (iQ gL xa k4) k5);refine⟨⟨⟨_,hCo _ xa xea hba⟩,rfl⟩,?_⟩;clear k3 k4 k5;refine AX.dD _ (by rfl) ?_;go_big_quiet_step (fail)
     refine afQ ?_;refine AX.kH _ (by rfl) (by rfl) ?_;refine AX.aI (o:=0) (v:=.int .i64 10) rfl rfl rfl mY xea (show 0<1 by decide) ?_;rintro Wb k3 k4 k5;have xeb:Bx Wb E 30 #[.int .i64 10]:=k3;have xb:Bx Wb L 29 #[.slice none 0 0,.slice none 0 0,.slice ka kl kc,.int .i64 kn]:=(k4 L (by have:=HEL.out;omega)).trans xa;have hbb:Below W4.heap.size W4 Wb:=hba.trans (gV (iQ xea xeb k4) k5);refine⟨⟨⟨_,hCo _ xb xeb hbb⟩,rfl⟩,?_⟩;have HBB:=hid hbb;clear a0 a1 a2 a3 a4 hCi hCo k3 k4 k5 xa xea hba hC0 hWd gL gE gB hbd hbb;unfold AX.fP Lh;dsimp only;go_wp2_with fail
     refine zy (er:=10) (at_:=i) xeb xb (by have:=HEL.out;omega) (fun w' b0 b1 b2 b3 e0 e1 e2 e3 e4=>by simp[results,Tryz.f11,go_sem,e0,e1,e2,e3,e4]) fun w' h=>?_;rcases h with ⟨h,_⟩|⟨_,h4,h5,h6⟩
     ·cases h
     ·exact⟨HLO.out.trans ((HBB.out.mono HLO.out.size).trans (AX.ah (by have:=HLw.out;omega) (.inl h6) h4 h5)),.inl ⟨_,10,by decide,hno,rfl⟩⟩
    ·have hcl:(nfP R).cl.length<=1024:=by have e:(nfP R).cl.length=ncl:=HNC.out.symm;omega
     have Gx:Calls Tryz.prog 30 #[.slice la2 q c2] wr fun e w'=>(∃ac an ar cc cn cr,e=.returned (.tuple #[.agg #[.slice ac ncl cc,.slice an ncl cn,.slice ar ncl cr],.int .i64 0])/\uZ w' (nfP R) ac an ar)/\Below wr.heap.size wr w':=hbu.mono fun e w' h=>by
      rcases h with ⟨h1,⟨h2,_⟩|⟨_,ac,an,ar,cc,cn,cr,e1,e2⟩⟩
      ·omega
      ·exact⟨⟨ac,an,ar,cc,cn,cr,e1,e2⟩,h1⟩
     have o:=QA HOT.out HS.out (by have:=HN.out;omega) hcl;have HO:=hid o;have HCL:=hid hcl;clear hbu hbig o hcl;go_upto_region 22 with (first
      | (go_at_call 30;((with_reducible refine Gx.mono ?_);rintro e W2 ⟨⟨ac,an,ar,cc,cn,cr,rfl,hnf⟩,hb2⟩;have xN:=Bx.new W2 74 #[.slice none 0 0,.slice none 0 0,.slice none 0 0]))
      | ((with_reducible refine bJ ?_);refine AX.aj (vs:=[.slice ac ncl cc,.slice an ncl cn,.slice ar ncl cr]) rfl rfl UF xN rfl rfl ?_;rintro W3 g3 g4 g5;have xI:Below W2.heap.size W2 W3:=(((afI W2.heap.size W2).alloc afD _)).trans (AX.ah afD (.inl (show Bx W3 W2.heap.size 74 _ from g3).lt) g4 g5);have hb3:Below wr.heap.size wr W3:=hb2.trans (xI.mono hb2.size);have xl3:=U3.out.below hb3 U3.out.lt;have xe3:=U4.out.below hb3 U4.out.lt)
      | ((with_reducible refine bJ ?_);refine AX.aB (o:=0) (v:=.int .i64 0) rfl rfl rfl mY xe3 (show 0<1 by decide) ?_;rintro W4 k3 k4 k5))
     have xe4:Bx W4 E 30 #[.int .i64 0]:=k3;have xl4:Bx W4 L 29 #[.slice none 0 0,.slice none 0 0,.slice ka kl kc,.int .i64 kn]:=(k4 L (by have:=HEL.out;omega)).trans xl3;have zA:∀m,Below m W3 W4:=fun m=>gV (iQ xe3 xe4 k4) k5;have xn4:Bx W4 W2.heap.size 74 #[.slice ac ncl cc,.slice an ncl cn,.slice ar ncl cr]:=(show Bx W3 W2.heap.size 74 _ from g3).below (zA _) (show Bx W3 W2.heap.size 74 _ from g3).lt;have hb4:Below wr.heap.size wr W4:=hb3.trans (zA _);have aaO:=(hnf.below xI afD).below (zA _) afD;have Ec:Below w.heap.size w W4:=HLB.out.lo.trans (hb4.mono HLB.out.lo.size);have aaP:=aZ HKr.out hb4;have hb9:=QB (nfP R) HO.out HCL.out ac an ar cc cn cr 512 (by decide) (by decide) W4 (afN HP.out Ec.size) (HT.out.below Ec HP.out) aaO;rw[HO.out.nx,HO.out.ru,show(nfP R).cl.length=ncl from HNC.out.symm]at hb9;unfold Xm at hb9;have n0:=xn4.cell 0;have n1:=xn4.cell 1;have n2:=xn4.cell 2;have v4:=xe4.cell 0;obtain⟨NB,hNB⟩:=afC W2.heap.size;rw[<-hNB]at n0 n1 n2⊢;have U5:=hid Ec;have ado:=hid aaP;clear hb2 xI hb3 xN g3 g4 g5 k3 k4 k5 xl3 xe3 Gx hnf aaO Ec aaP hb4 zA xn4 hNB
     cases hbl:lD 512 (jL (nfP R)) (eF (spl (nfP R).cl)) (512+1) 0 [[0]]with
     | none =>
      have hno:∀tss T,¬oI R tss T:=fun tss T h=>by have:=h.bl;rw[hbl]at this;cases this
      have NH:Calls Tryz.prog 31 #[.agg #[.slice ac ncl cc,.slice an ncl cn,.slice ar ncl cr],.int .i64 512] W4 fun e w'=>e=.returned (.tuple #[.agg #[.slice none 0 0,.slice none 0 0],.int .i64 10])/\Below W4.heap.size W4 w':=hb9.mono fun e w' h=>by
       rcases h with ⟨h1,⟨_,h2⟩|⟨tss,T,_,_,_,_,h3,_⟩⟩
       ·exact⟨h2,h1⟩
       ·rw[hbl]at h3;cases h3
      have HBL:=hid hbl;clear hb9 hbl;go_upto_region 24 with (first
       | (go_at_call 31;((with_reducible refine NH.mono ?_);rintro e W5 ⟨rfl,hb5⟩;have xl5:=xl4.below hb5 xl4.lt;have xe5:=xe4.below hb5 xe4.lt))
       | ((with_reducible refine bJ ?_);refine AX.kJ (o:=0) (vs:=[.slice none 0 0,.slice none 0 0]) rfl rfl Jr xl5 (show 0+2<=4 by decide) rfl ?_;rintro W7 g3 g4 g5;have xe7:Bx W7 E 30 #[.int .i64 0]:=(g4 E (by have:=HEL.out;omega)).trans xe5)
       | ((with_reducible refine bJ ?_);refine AX.aB (o:=0) (v:=.int .i64 10) rfl rfl rfl mY xe7 (show 0<1 by decide) ?_;rintro W8 k3 k4 k5))
      have xl7:Bx W7 L 29 #[.slice none 0 0,.slice none 0 0,.slice ka kl kc,.int .i64 kn]:=g3;have xe8:Bx W8 E 30 #[.int .i64 10]:=k3;have xl8:Bx W8 L 29 #[.slice none 0 0,.slice none 0 0,.slice ka kl kc,.int .i64 kn]:=(k4 L (by have:=HEL.out;omega)).trans xl7;have HLO:Hid (Below w.heap.size w W8):=hid (((U5.out.trans (hb5.mono U5.out.size)).trans (AX.ah (by have:=HLw.out;omega) (.inl xl7.lt) g4 g5)).trans (AX.ah (by have:=HLw.out;have:=HEL.out;omega) (.inl xe8.lt) k4 k5));have v8:=xe8.cell 0;clear hb5 xl5 xe5 xl7 xe7 g3 g4 g5 k3 k4 k5 NH xl4 xe4 v4 n0 n1 n2;go_upto_region 26 with fail
      have hbd:=(afI W8.heap.size W8).drew;obtain⟨Wd,hWd⟩:=afC W8.drew;obtain⟨C,hCi,hCo⟩:∃C:World->Prop,(∀W,C W->Bx W L 29 #[.slice none 0 0,.slice none 0 0,.slice ka kl kc,.int .i64 kn]/\Bx W E 30 #[.int .i64 10]/\Below W8.heap.size W8 W)/\(∀W,Bx W L 29 #[.slice none 0 0,.slice none 0 0,.slice ka kl kc,.int .i64 kn]->Bx W E 30 #[.int .i64 10]->Below W8.heap.size W8 W->C W):=⟨_,fun _ h=>h,fun _ h1 h2 h3=>⟨h1,h2,h3⟩⟩;have hC0:C W8.drew:=hCo _ (xl8.below hbd xl8.lt) (xe8.below hbd xe8.lt) hbd;haveI:Inhabited (AX.CW C):=⟨⟨_,hC0⟩⟩;have a0:∀p:AX.CW C,p.W.cell? ⟨L,0,none⟩=some (.slice none 0 0):=fun p=>(hCi _ p.h).1.cell 0;have a1:∀p:AX.CW C,p.W.cell? ⟨L,1,none⟩=some (.slice none 0 0):=fun p=>(hCi _ p.h).1.cell 1;have a2:∀p:AX.CW C,p.W.cell? ⟨L,2,none⟩=some (.slice ka kl kc):=fun p=>(hCi _ p.h).1.cell 2;have a3:∀p:AX.CW C,p.W.cell? ⟨L,3,none⟩=some (.int .i64 kn):=fun p=>(hCi _ p.h).1.cell 3;have a4:∀p:AX.CW C,p.W.cell? ⟨E,0,none⟩=some (.int .i64 10):=fun p=>(hCi _ p.h).2.1.cell 0;refine Jy (C:=fun W=>∃p:AX.CW C,W=p.W) lY _ (by kernel_rfl) (by kernel_rfl) rfl (by kernel_rfl) (by kernel_rfl) ⟨⟨_,hC0⟩,rfl⟩ ?_;unfold lY;rw[<-hWd]at hC0⊢
      repeat (refine AX.dD _ (by rfl) ?_;go_big_quiet_step (fail);refine afQ ?_)
      obtain⟨gL,gE,gB⟩:=hCi _ hC0;refine AX.kH _ (by rfl) (by rfl) ?_;refine AX.aG (vs:=[.slice none 0 0,.slice none 0 0,.slice ka kl kc,.int .i64 kn]) rfl rfl Gi gL rfl (rfl) ?_;rintro Wa k3 k4 k5;have xa:Bx Wa L 29 #[.slice none 0 0,.slice none 0 0,.slice ka kl kc,.int .i64 kn]:=k3;have xea:Bx Wa E 30 #[.int .i64 10]:=(k4 E (by have:=HEL.out;omega)).trans gE;have hba:Below W8.heap.size W8 Wa:=gB.trans (gV (iQ gL xa k4) k5);refine⟨⟨⟨_,hCo _ xa xea hba⟩,rfl⟩,?_⟩;clear k3 k4 k5;refine AX.dD _ (by rfl) ?_;go_big_quiet_step (fail)
      refine afQ ?_;refine AX.kH _ (by rfl) (by rfl) ?_;refine AX.aI (o:=0) (v:=.int .i64 10) rfl rfl rfl mY xea (show 0<1 by decide) ?_;rintro Wb k3 k4 k5;have xeb:Bx Wb E 30 #[.int .i64 10]:=k3;have xb:Bx Wb L 29 #[.slice none 0 0,.slice none 0 0,.slice ka kl kc,.int .i64 kn]:=(k4 L (by have:=HEL.out;omega)).trans xa;have hbb:Below W8.heap.size W8 Wb:=hba.trans (gV (iQ xea xeb k4) k5);refine⟨⟨⟨_,hCo _ xb xeb hbb⟩,rfl⟩,?_⟩;have HBB:=hid hbb;clear a0 a1 a2 a3 a4 hCi hCo k3 k4 k5 xa xea hba hC0 hWd gL gE gB hbd hbb;unfold AX.fP Lh;dsimp only;go_wp2_with fail
      refine zy (er:=10) (at_:=i) xeb xb (by have:=HEL.out;omega) (fun w' b0 b1 b2 b3 e0 e1 e2 e3 e4=>by simp[results,Tryz.f11,go_sem,e0,e1,e2,e3,e4]) fun w' h=>?_;rcases h with ⟨h,_⟩|⟨_,h4,h5,h6⟩
      ·cases h
      ·exact⟨HLO.out.trans ((HBB.out.mono HLO.out.size).trans (AX.ah (by have:=HLw.out;omega) (.inl h6) h4 h5)),.inl ⟨_,10,by decide,hno,rfl⟩⟩
     | some p =>
      obtain⟨tss,T⟩:=p;have HOK:Hid (oI R tss T):=hid ⟨fun e=>by have:=HZ.out;have:=HN.out;rw[e]at this;simp at this;omega,HOT.out,HCL.out,hbl⟩;obtain⟨next,hnext⟩:=afC (dB (eX (spl (nfP R).cl)) tss)
      obtain⟨rule,lW⟩:=afC (fF (nfP R).ru T);have htab:lF R tss T=bD next rule:=(by unfold lF;rw[<-hnext,<-lW])
      have aaQ:okT next rule=true:=(by rw[hnext,lW];exact (Ee HOK.out HS.out (by have:=HN.out;omega)).1)
      have NH:Calls Tryz.prog 31 #[.agg #[.slice ac ncl cc,.slice an ncl cn,.slice ar ncl cr],.int .i64 512] W4 fun e w'=>(∃an ar cn cr,e=.returned (.tuple #[.agg #[.slice an next.length cn,.slice ar rule.length cr],.int .i64 0])/\aH w' an next/\aH w' ar rule/\next.length<=cn)/\Below W4.heap.size W4 w':=hb9.mono fun e w' h=>by
       rcases h with ⟨h1,⟨h2,_⟩|⟨ae4,T2,an,ar,cn,cr,h3,h4⟩⟩
       ·rw[hbl]at h2;cases h2
       ·rw[hbl]at h3
        cases h3
        rw[<-hnext,<-lW]at h4;exact⟨⟨an,ar,cn,cr,h4⟩,h1⟩
      obtain⟨nl,hnl⟩:=afC next.length
      obtain⟨rl,hrl⟩:=afC rule.length;rw[<-hnl,<-hrl]at NH;have HTB:=hid htab;have adp:=hid aaQ;have HNL:=hid hnl;have HRL:=hid hrl;clear hb9 hbl hnext lW htab aaQ hnl hrl;go_upto_region 24 with (first
       | (go_at_call 31;((with_reducible refine NH.mono ?_);rintro e W5 ⟨⟨an5,ar5,cn5,cr5,rfl,hi1,hi2,hi3⟩,hb5⟩;have xl5:=xl4.below hb5 xl4.lt;have xe5:=xe4.below hb5 xe4.lt))
       | ((with_reducible refine bJ ?_);refine AX.kJ (o:=0) (vs:=[.slice an5 nl cn5,.slice ar5 rl cr5]) rfl rfl Jr xl5 (show 0+2<=4 by decide) rfl ?_;rintro W6 g3 g4 g5;have xe6:Bx W6 E 30 #[.int .i64 0]:=(g4 E (by have:=HEL.out;omega)).trans xe5)
       | ((with_reducible refine bJ ?_);refine AX.aB (o:=0) (v:=.int .i64 0) rfl rfl rfl mY xe6 (show 0<1 by decide) ?_;rintro W7 k3 k4 k5))
      have xl6:Bx W6 L 29 #[.slice an5 nl cn5,.slice ar5 rl cr5,.slice ka kl kc,.int .i64 kn]:=g3;have xe7:Bx W7 E 30 #[.int .i64 0]:=k3;have NI:∀m,Below m W6 W7:=fun m=>gV (iQ xe6 xe7 k4) k5;have xl7:Bx W7 L 29 #[.slice an5 nl cn5,.slice ar5 rl cr5,.slice ka kl kc,.int .i64 kn]:=xl6.below (NI _) xl6.lt;have Eu:Below w.heap.size W5 W6:=AX.ah (by have:=HLw.out;omega) (.inl xl6.lt) g4 g5;have aaR:=(hi1.store xl5 xl6 g4 Eu.size).below (NI _) afD;have hi27:=(hi2.store xl5 xl6 g4 Eu.size).below (NI _) afD;have aaS:=aZ (aC (aZ ado.out hb5) (aP xl5 g4) (show (3:TypeId)≠29 by decide)) (NI _);have NG:Below w.heap.size w W7:=((U5.out.trans (hb5.mono U5.out.size)).trans Eu).trans (NI _);have U6:=Ny next rule adp.out an5 ar5 cn5 cr5 (by have:=HNL.out;omega) W7 aaR hi27
      rw[<-HNL.out,<-HRL.out]at U6;unfold Qi at U6;have l0:W7.cell? ⟨L,0,none⟩=some (.slice an5 nl cn5):=xl7.cell 0;have l1:W7.cell? ⟨L,1,none⟩=some (.slice ar5 rl cr5):=xl7.cell 1;have v7:=xe7.cell 0;have aaT:=hid NG;have adq:=hid aaS;clear hb5 xl5 xe5 xl6 xe6 g3 g4 g5 k3 k4 k5 NH xl4 xe4 v4 n0 n1 n2 NI Eu hi1 hi2 aaR hi27 aaS NG hi3;go_upto_region 26 with (first
       | (go_at_call 32;((with_reducible refine U6.mono ?_);rintro e W8 ⟨an2,ar2,cn2,cr2,rfl,_,hi1,hi2,hb8⟩;have xl8:=xl7.below hb8 xl7.lt;have xe8:=xe7.below hb8 xe7.lt))
       | ((with_reducible refine bJ ?_);refine AX.kJ (o:=0) (vs:=[.slice an2 (bD next rule).1.length cn2,.slice ar2 (bD next rule).2.length cr2]) rfl rfl Jr xl8 (show 0+2<=4 by decide) rfl ?_;rintro W9 g3 g4 g5;have xe9:Bx W9 E 30 #[.int .i64 0]:=(g4 E (by have:=HEL.out;omega)).trans xe8)
       | ((with_reducible refine bJ ?_);refine AX.aB (o:=0) (v:=.int .i64 0) rfl rfl rfl mY xe9 (show 0<1 by decide) ?_;rintro W10 k3 k4 k5))
      have xl9:Bx W9 L 29 #[.slice an2 (bD next rule).1.length cn2,.slice ar2 (bD next rule).2.length cr2,.slice ka kl kc,.int .i64 kn]:=g3;have Yz:Bx W10 E 30 #[.int .i64 0]:=k3;have NJ:∀m,Below m W9 W10:=fun m=>gV (iQ xe9 Yz k4) k5;have aaU:=xl9.below (NJ _) xl9.lt;have U7:Below w.heap.size W8 W9:=AX.ah (by have:=HLw.out;omega) (.inl xl9.lt) g4 g5;have HI1:=hid ((hi1.store xl8 xl9 g4 U7.size).below (NJ _) afD);have HI2:=hid ((hi2.store xl8 xl9 g4 U7.size).below (NJ _) afD);have aaV:=aC (aZ adq.out hb8) (aP xl8 g4) (show (3:TypeId)≠29 by decide);have HKO:=hid (aZ aaV (NJ _));have HLO:Hid (Below w.heap.size w W10):=hid (((aaT.out.trans (hb8.mono aaT.out.size)).trans U7).trans (NJ _));clear hb8 xl8 xe8 xl9 xe9 g3 g4 g5 k3 k4 k5 U6 xl7 xe7 v7 l0 l1 NJ U7 hi1 hi2 aaV;go_upto_region 26 with fail
      have hbd:=(afI W10.heap.size W10).drew;obtain⟨Wd,hWd⟩:=afC W10.drew;obtain⟨C,hCi,hCo⟩:∃C:World->Prop,(∀W,C W->Bx W L 29 #[.slice an2 (bD next rule).1.length cn2,.slice ar2 (bD next rule).2.length cr2,.slice ka kl kc,.int .i64 kn]/\Bx W E 30 #[.int .i64 0]/\Below W10.heap.size W10 W)/\(∀W,Bx W L 29 #[.slice an2 (bD next rule).1.length cn2,.slice ar2 (bD next rule).2.length cr2,.slice ka kl kc,.int .i64 kn]->Bx W E 30 #[.int .i64 0]->Below W10.heap.size W10 W->C W):=⟨_,fun _ h=>h,fun _ h1 h2 h3=>⟨h1,h2,h3⟩⟩;have hC0:C W10.drew:=hCo _ (aaU.below hbd aaU.lt) (Yz.below hbd Yz.lt) hbd;haveI:Inhabited (AX.CW C):=⟨⟨_,hC0⟩⟩;have a0:∀p:AX.CW C,p.W.cell? ⟨L,0,none⟩=some (.slice an2 (bD next rule).1.length cn2):=fun p=>(hCi _ p.h).1.cell 0;have a1:∀p:AX.CW C,p.W.cell? ⟨L,1,none⟩=some (.slice ar2 (bD next rule).2.length cr2):=fun p=>(hCi _ p.h).1.cell 1;have a2:∀p:AX.CW C,p.W.cell? ⟨L,2,none⟩=some (.slice ka kl kc):=fun p=>(hCi _ p.h).1.cell 2;have a3:∀p:AX.CW C,p.W.cell? ⟨L,3,none⟩=some (.int .i64 kn):=fun p=>(hCi _ p.h).1.cell 3;have a4:∀p:AX.CW C,p.W.cell? ⟨E,0,none⟩=some (.int .i64 0):=fun p=>(hCi _ p.h).2.1.cell 0;refine Jy (C:=fun W=>∃p:AX.CW C,W=p.W) lY _ (by kernel_rfl) (by kernel_rfl) rfl (by kernel_rfl) (by kernel_rfl) ⟨⟨_,hC0⟩,rfl⟩ ?_;unfold lY;rw[<-hWd]at hC0⊢
      repeat (refine AX.dD _ (by rfl) ?_;go_big_quiet_step (fail);refine afQ ?_)
      obtain⟨gL,gE,gB⟩:=hCi _ hC0;refine AX.kH _ (by rfl) (by rfl) ?_;refine AX.aG (vs:=[.slice an2 (bD next rule).1.length cn2,.slice ar2 (bD next rule).2.length cr2,.slice ka kl kc,.int .i64 kn]) rfl rfl Gi gL rfl (rfl) ?_;rintro Wa k3 k4 k5;have xa:Bx Wa L 29 #[.slice an2 (bD next rule).1.length cn2,.slice ar2 (bD next rule).2.length cr2,.slice ka kl kc,.int .i64 kn]:=k3;have xea:Bx Wa E 30 #[.int .i64 0]:=(k4 E (by have:=HEL.out;omega)).trans gE;have hba:Below W10.heap.size W10 Wa:=gB.trans (gV (iQ gL xa k4) k5);refine⟨⟨⟨_,hCo _ xa xea hba⟩,rfl⟩,?_⟩;clear k3 k4 k5;refine AX.dD _ (by rfl) ?_;go_big_quiet_step (fail)
      refine afQ ?_;refine AX.kH _ (by rfl) (by rfl) ?_;refine AX.aI (o:=0) (v:=.int .i64 0) rfl rfl rfl mY xea (show 0<1 by decide) ?_;rintro Wb k3 k4 k5;have xeb:Bx Wb E 30 #[.int .i64 0]:=k3;have xb:Bx Wb L 29 #[.slice an2 (bD next rule).1.length cn2,.slice ar2 (bD next rule).2.length cr2,.slice ka kl kc,.int .i64 kn]:=(k4 L (by have:=HEL.out;omega)).trans xa;have hbb:Below W10.heap.size W10 Wb:=hba.trans (gV (iQ xea xeb k4) k5);refine⟨⟨⟨_,hCo _ xb xeb hbb⟩,rfl⟩,?_⟩;have HBB:=hid hbb;clear a0 a1 a2 a3 a4 hCi hCo k3 k4 k5 xa xea hba hC0 hWd gL gE gB hbd hbb;unfold AX.fP Lh;dsimp only;go_wp2_with fail
      refine zy (er:=0) (at_:=i) xeb xb (by have:=HEL.out;omega) (fun w' b0 b1 b2 b3 e0 e1 e2 e3 e4=>by simp[results,Tryz.f11,go_sem,e0,e1,e2,e3,e4]) fun w' h=>?_;rcases h with ⟨_,rfl⟩|⟨h,_⟩
      ·rw[afR rfl]
       have hb:Below W10.heap.size W10 w':=HBB.out;obtain⟨ka2,kc2,ek,hkr⟩:=Ed (aZ HKO.out hb)
       cases ek
       refine⟨HLO.out.trans (hb.mono HLO.out.size),.inr ⟨tss,T,an2,ar2,ka,cn2,cr2,kc,HOK.out,?_,?_,?_,hkr⟩⟩
       ·rw[HTB.out,<-HN.out,<-HKN.out,<-HKL.out]
        rfl
       ·rw[HTB.out];exact HI1.out.below hb afD
       ·rw[HTB.out];exact HI2.out.below hb afD
      ·exact absurd rfl h
end
section
open Go.Lib (hid)
open Go Go.Proofs Go.RowKit
attribute [local go_sem] Oper.semAt_some
def qW(x:Rl):Bool:=decide (x.re.size<=24) && decide (x.nm.size<=24)
def lG(R:List Rl):Bool:=R.all qW && decide (R.length<=6)
theorem NK(R:List Rl)(hl:R.length<=9223372036854775807)(la:Option Addr)(c:Nat)(w:World)(hR:yX w la R):Calls Tryz.prog 10 #[.slice la R.length c] w fun e w'=>e=.returned (.bool (lG R))/\w=w':=by
 obtain⟨n,hn⟩:=afC R.length;obtain⟨lv,hlv⟩:=afC (lG R);rw[<-hn]at hl⊢;rw[<-hlv];have HN:=hid hn;have HLV:=hid hlv;have HR:=hid hR;obtain⟨wo,hwo⟩:∃wo:World,wo=w:=⟨_,rfl⟩;have HWO:=hid hwo;clear hn hlv hR hwo;go_enter Tryz.func10,Tryz.ntmps10
 go_upto_region 2 with fail
 go_loopw [3] (fun v3 wr=>∃i:Nat,v3=.int .i64 i/\i<=n/\wr=wo/\Hid ((R.take i).all qW=true)) (fun v3 _=>n-(RowKit.intOf v3).toNat)
 case atStart=>exact⟨0,rfl,af0 _,HWO.out.symm,hid rfl⟩
 case round =>
  obtain⟨i,rfl,hi,hwr,hall⟩:=hrel;subst hwr;have hi0:(0:Int)<=(i:Int):=by omega
  by_cases hlt:i<n
  ·have hi1:(i:Int)<(n:Int):=by omega
   obtain⟨x,hx⟩:∃x,R[i]?=some x:=⟨_,afE (by have:=HN.out;omega)⟩;have HX:=hid hx;obtain⟨B,off,rfl,hB,d0,d1,d2⟩:=HR.out i x hx;rw[<-HWO.out]at d0 d1 d2;obtain⟨nm,re,tr⟩:=x;simp only at d0 d1 d2;have hfalse:qW ⟨nm,re,tr⟩=false->lv=false:=fun h=>by
    rw[HLV.out];unfold lG;have:R.all qW=false:=agU.2 fun ha=>by
     have:=agk.1 ha _ (af7 HX.out);rw[h]at this
     cases this
    rw[this];rfl
   have HF:=hid hfalse;clear hfalse hx d2
   by_cases h1:(24:Int)<(re.size:Int)
   ·have e:=HF.out (by
     show(decide (re.size<=24) && decide (nm.size<=24))=false
     rw[agC (p:=re.size<=24) (by omega)];rfl)
    subst e;go_wp2_with fail
    exact afJ (v:=.bool false) (by simp[results,Tryz.results10,go_sem]) rfl ⟨rfl,HWO.out.symm⟩
   ·by_cases h2:(24:Int)<(nm.size:Int)
    ·have e:=HF.out (by
      show(decide (re.size<=24) && decide (nm.size<=24))=false
      rw[agC (p:=nm.size<=24) (by omega),aiw])
     subst e;go_wp2_with fail
     exact afJ (v:=.bool false) (by simp[results,Tryz.results10,go_sem]) rfl ⟨rfl,HWO.out.symm⟩
    ·have hnx:Hid ((R.take (i+1)).all qW=true):=hid (by
      rw[ahm,HX.out,List.all_append,hall.out];simp[qW];omega)
     go_wp2_with fail
     exact⟨⟨i+1,by simp,by omega,trivial,hnx⟩,by simp[RowKit.intOf];omega⟩
  ·have hi1:¬(i:Int)<(n:Int):=by omega
   obtain rfl:i=n:=by omega
   have e:lv=decide (i<=6):=by
    rw[HLV.out];unfold lG;have:=hall.out;rw[agW (by have:=HN.out;omega)]at this;rw[this,<-HN.out];rfl
   by_cases h6:i<=6
   ·rw[agL h6]at e
    subst e;have h7:(i:Int)<=6:=(by omega);go_wp2_with fail
    exact afJ (v:=.bool true) (by simp[results,Tryz.results10,go_sem]) rfl ⟨rfl,HWO.out.symm⟩
   ·rw[agC h6]at e
    subst e;have h7:¬(i:Int)<=6:=(by omega);go_wp2_with fail
    exact afJ (v:=.bool false) (by simp[results,Tryz.results10,go_sem]) rfl ⟨rfl,HWO.out.symm⟩
def QC(n:Nat)(w:World)(e:Ending)(w':World):Prop:=∃i:Nat,i<n/\e=.returned (.int .i64 i)/\w'=w
theorem QD(k:Int)(n:Nat)(h0:0<n)(h1:n<=120)(w:World):Calls Tryz.prog 19 #[.int .i64 k,.int .i64 n] w (QC n w):=by
 have hn:¬(n:Int)<1:=by omega
 have hz:¬(n:Int)=0:=by omega
 have r1:k.tmod n<n:=Int.tmod_lt_of_pos k (by omega);have r2: -(n:Int)<k.tmod n:=by
  have h2:=Int.tmod_lt_of_pos (-k) (show (0:Int)<n by omega);rw[Int.neg_tmod]at h2;omega
 obtain⟨r,hr⟩:=afC (k.tmod n);rw[<-hr]at r1 r2;go_enter Tryz.func19,Tryz.ntmps19
 go_upto_region 4 with fail
 rw[<-hr];clear hr
 by_cases hc:r<0
 ·go_wp2_with fail
  exact afJ (v:=.int .i64 ((r+n).toNat:Nat)) (by simp[results,Tryz.results19,go_sem];omega) rfl ⟨(r+n).toNat,by omega,rfl,rfl⟩
 ·go_wp2_with fail
  exact afJ (v:=.int .i64 (r.toNat:Nat)) (by simp[results,Tryz.results19,go_sem];omega) rfl ⟨r.toNat,by omega,rfl,rfl⟩
end
section
open Go Go.Proofs Go.RowKit
def exW:ByteArray:=⟨#[91,97,45,122,93,43]⟩
def exG:ByteArray:=⟨#[91,32,93,43]⟩
def exR:List Rl:=[⟨⟨#[119,111,114,100]⟩,exW,false⟩,⟨⟨#[103,97,112]⟩,exG,true⟩]
def exT:List (List Int):=[[-1,1,2],[-1,1,-1],[-1,-1,2]]
def exS:Sets:=[[0],[2],[1]]
theorem aaC:Gg exR:=fun j x hx=>by
 match j with
 | 0 =>
  have:x=⟨⟨#[119,111,114,100]⟩,exW,false⟩:=(agc hx).symm;subst this;exact(show(jh [] ⟨⟨#[119,111,114,100]⟩,exW,false⟩).2=0 by kernel_rfl)
 | 1 =>
  have:x=⟨⟨#[103,97,112]⟩,exG,true⟩:=(agc hx).symm;subst this;exact(show(jh [⟨#[119,111,114,100]⟩] ⟨⟨#[103,97,112]⟩,exG,true⟩).2=0 by kernel_rfl)
 | j+2=>cases hx
theorem UW:(parts (nfP exR).cl).reverse.map Kl.low=[0,32,97]:=by kernel_rfl
theorem Qa:spl (nfP exR).cl=(parts (nfP exR).cl).reverse:=by
 refine (Qb (List.reverse_perm _) ?_).symm;have h:((parts (nfP exR).cl).reverse.map Kl.low).Pairwise (·<=·):=by rw[UW];simp
 exact ahb.1 h
theorem Yf:(nfP exR).cl.length=3:=by kernel_rfl
theorem Yg:lD 512 (jL (nfP exR)) (eF (parts (nfP exR).cl).reverse) 513 0 [[0]]=some (exT,exS):=by kernel_rfl
theorem Jp:oI exR exT exS:=⟨by simp[exR],aaC,by rw[Yf];decide,by rw[Qa];exact Yg⟩
theorem UY{tss:List (List Int)}{T:Sets}(h:oI exR tss T):tss=exT/\T=exS:=by
 have:=h.bl.symm.trans Jp.bl
 cases this
 exact⟨rfl,rfl⟩
theorem aaD:kdP exR=([0,-1],1):=rfl
theorem UZ:(bD (dB (eX (parts (nfP exR).cl).reverse) exT) (fF (nfP exR).ru exS)).2=[-1,1,0]:=by kernel_rfl
theorem U0:(bD (dB (eX (parts (nfP exR).cl).reverse) exT) (fF (nfP exR).ru exS)).1=dB (eX (parts (nfP exR).cl).reverse) exT:=by kernel_rfl
theorem Yh:Lx.jc (lF exR exT exS).1 (lF exR exT exS).2 [0,-1] [97,32,98] 0=[⟨0,0,0,1,2⟩,⟨0,1,2,3,4⟩,⟨-2,3,3,3,4⟩]:=by
 unfold lF;rw[Qa,UZ,U0]
 kernel_rfl
end
end Go.Proofs.YtkjgogdkdejljaaGreatDoor.Df
namespace Go.Proofs.YtkjgogdkdejljaaGreatDoor.Lx
open Go Go.Proofs Go.RowKit
attribute [local go_sem] Oper.semAt_some
section
variable {next rule kind : List Int} {kinds : Int} {an ar ak : Option Addr} {cn cr ck : Nat} {w : World}
theorem all_in(hn:next.length<=1000000)(hr:rule.length<=1000000)(hk:kind.length<=1000000)(hN:aH w an next)(hR:aH w ar rule)(hK:aH w ak kind)(s:ByteArray)(hs:s.size<=1000)(hok:okL next rule kind kinds=true):
  Calls Tryz.prog 16 #[lV an ar ak next.length rule.length kind.length cn cr ck kinds,.string s] w fun e w'=>(∃v,e=.returned (.tuple #[v,.int .i64 0])/\xJ w' w.heap.size v (jc next rule kind (sb s) 0))/\Below w.heap.size w w':=by
 have hck:=fun W (hb:Below w.heap.size w W)=>Ic next rule kind kinds hn hr hk an ar ak cn cr ck W (hN.below hb afD) (hR.below hb afD) (hK.below hb afD)
 have hE:=fun W=>Zj (next:=next) (rule:=rule) (kind:=kind) (kinds:=kinds) (an:=an) (ar:=ar) (ak:=ak) (cn:=cn) (cr:=cr) (ck:=ck) s 0 W;have hC:=fun W1 (hb:Below w.heap.size w W1) W2 h1 (hS:Fc W1 W1.heap.size next rule kind kinds an ar ak cn cr ck s 0 W2)=>collect_in 9 (by omega) afD hn hr hk (hN.below hb afD) (hR.below hb afD) (hK.below hb afD) s hs hok 0 (af0 _) W2 h1 hS;have hB:=(afI w.heap.size w).alloc afD (.cells #[.slice an next.length cn,.slice ar rule.length cr,.slice ak kind.length ck,.int .i64 kinds] 29);have hD:Bx (w.alloc (.cells #[.slice an next.length cn,.slice ar rule.length cr,.slice ak kind.length ck,.int .i64 kinds] 29)) w.heap.size 29 #[.slice an next.length cn,.slice ar rule.length cr,.slice ak kind.length ck,.int .i64 kinds]:=Bx.new _ _ _;unfold lV at *;unfold nH at hck;clear hN hR hK;simp only[hok,ain]at hck;have h15:=hck _ hB;clear hck;go_enter Tryz.func16,Tryz.ntmps16
 go_wp2_with fail
 generalize w.alloc (.cells #[.slice an next.length cn,.slice ar rule.length cr,.slice ak kind.length ck,.int .i64 kinds] 29)=W0 at *;have hw0:=hD.lt;go_wp2_with (first
  | (go_at_call 15;((with_reducible refine h15.mono ?_);rintro e W1 ⟨rfl,hb1⟩;have hB1:=hB.trans (hb1.mono (ahh hw0));have hD1:=hD.below hb1 hw0;have d0:=hD1.cell 0;have d1:=hD1.cell 1;have d2:=hD1.cell 2;have d3:=hD1.cell 3;have hs1:=hB1.size))
  | (go_at_call 41;((with_reducible refine(hE _).mono ?_);rintro e W2 ⟨rfl,hb2,hz2,hS2⟩))
  | (go_at_call 40;((with_reducible refine(hC _ hB1 W2 (by omega) hS2).mono ?_);rintro e W3 ⟨⟨v,rfl,hv⟩,lS⟩;have hB3:=(hB1.trans (hb2.mono hs1)).trans (lS.below (n:=w.heap.size) (by omega) (by omega)))))
 exact afJ (v:=.tuple #[v,.int .i64 0]) (by simp[results,Tryz.results16,go_sem]) rfl ⟨⟨v,rfl,kE hv (by omega)⟩,hB3⟩
end
end Go.Proofs.YtkjgogdkdejljaaGreatDoor.Lx
