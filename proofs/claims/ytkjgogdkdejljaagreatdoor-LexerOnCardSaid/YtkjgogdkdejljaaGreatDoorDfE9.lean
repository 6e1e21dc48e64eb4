import Derived.Test.YtkjgogdkdejljaaGreatDoorDfE8
set_option maxRecDepth 100000
set_option maxHeartbeats 40000000
namespace Go.Proofs.YtkjgogdkdejljaaGreatDoor.Df
open Go.Lib (hid)
open Go Go.Proofs Go.RowKit
open Rx (Nd eP iO jk vC)
attribute [local go_sem] Oper.semAt_some
def uZ(W:World)(la:Option Addr)(R:List Rl):Prop:=∀ i x,R[i]?=some x→∃ B off,la=some ⟨B,off,none⟩∧B<W.heap.size∧W.cell? ⟨B,off+i*3,none⟩=some (.string x.nm)∧W.cell? ⟨B,off+i*3+1,none⟩=some (.string x.re)∧W.cell? ⟨B,off+i*3+2,none⟩=some (.bool x.tr)
theorem uZ.below{n:Nat}{W W':World}{la:Option Addr}{R:List Rl}(h:uZ W la R)(hb:Below n W W')(hn:W.heap.size≤n):uZ W' la R:=fun i x hx=>by
 obtain⟨B,off,e,h1,h2,h3,h4⟩:=h i x hx;exact⟨B,off,e,Nat.lt_of_lt_of_le h1 hb.size,(hb.cell (p:=⟨B,off+i*3,none⟩) (by show B<n;omega)).trans h2,(hb.cell (p:=⟨B,off+i*3+1,none⟩) (by show B<n;omega)).trans h3,(hb.cell (p:=⟨B,off+i*3+2,none⟩) (by show B<n;omega)).trans h4⟩
def WW(R:List Rl)(w:World)(e:Ending)(w':World):Prop:=Below w.heap.size w w' ∧
  ((∃ at_ er,er≠0∧(∀ tss T,¬qp R tss T)∧e = .returned (.tuple #[.agg wJ, .int .i64 at_, .int .i64 er])) ∨
   ∃ tss T an ar ak cn cr ck,qp R tss T∧e = .returned (.tuple #[Lx.lV an ar ak (nO R tss T).1.length (nO R tss T).2.length (kdP R).1.length cn cr ck (kdP R).2, .int .i64 R.length, .int .i64 0]) ∧
     aK w' an (nO R tss T).1∧aK w' ar (nO R tss T).2∧aK w' ak (kdP R).1)
def lN:List (Nat×Bool):=[(0,false),(1,false),(2,false),(3,false),(4,true),(5,false),(6,true)]
theorem iH{W W':World}{B:Nat}{t:TypeId}{cs:Array Value}(h:Bx W B t cs)(h':Bx W' B t cs)(k:∀ j:Nat,j≠B→W'.heap[j]?=W.heap[j]?):∀ j:Nat,W'.heap[j]?=W.heap[j]?:=fun j=>by
 by_cases e:j=B
 ·subst e
  exact Eq.trans h' (Eq.symm h)
 ·exact k j e
theorem gU{m:Nat}{W W':World}(h:∀ j:Nat,W'.heap[j]?=W.heap[j]?)(k:AX.Same W W'):Below m W W' :=
 AX.aj (b:=max m W.heap.size) (Nat.le_max_left _ _) (.inr (Nat.le_max_right _ _)) (fun j _=>h j) k
theorem aK.store{W W':World}{a:Option Addr}{l:List Int}{L n0 n1 c0 c1:Nat}{a0 a1:Option Addr}{u0 u1 v2 v3:Value}(h:aK W a l)(x:Bx W L 29 #[.slice a0 n0 c0, .slice a1 n1 c1,v2,v3])(x':Bx W' L 29 #[u0,u1,v2,v3])(g:∀ j:Nat,j≠L→W'.heap[j]?=W.heap[j]?)(hs:W.heap.size≤W'.heap.size):aK W' a l:=fun hne=>by
 obtain⟨b,off,e,hb,hc⟩:=h hne;refine⟨b,off,e,Nat.lt_of_lt_of_le hb hs,fun j hj=>?_⟩;have h1:=hc j hj
 by_cases eb:b=L
 ·subst eb
  rw[x.cell] at h1;rw[x'.cell];generalize off+j=o at h1 ⊢
  match o with
  | 0=>simp at h1
  | 1=>simp at h1
  | 2=>exact h1
  | 3=>exact h1
  | o+4=>simp at h1
 ·have e2:W'.cell? ⟨b,off+j,none⟩=W.cell? ⟨b,off+j,none⟩:=by unfold World.cell?;rw[g b eb]
  exact e2.trans h1
def J6(Q:Exit→Act→World→Prop):Exit→Act→World→Prop:=fun e a w=>match e with
 | .panic _=>False
 | e=>Q e a w
theorem IW{P:Program}{C:World→Prop}{Q:Exit→Act→World→Prop}{id:Nat}{a:Act}{w:World}{l:List Oper}(r:List (Nat×Bool))(L:List AX.Inf)(hm:P.follows .mixedOrders=true)(hs:Region.noSelect l.toArray=true)(hL:AX.infos l=L)(hlen:r.length=l.length)(hB:AX.pY L r 0=true)
  (hC:C w.drew) (h:AX.fZ P l C (J6 Q) r a w.drew):(Code.region id l.toArray true).wp P Q a w :=
 wp_mono (AX.gI r L hm hs hL hlen hB (fun _ _ _ _ _ h=>h) hC h) fun e a w h=>by
  cases e<;>first | exact h | exact h.elim
theorem yX{Rp:Ending→World→Prop}{tmps:Array Value}{L E:Nat}{er at_:Int}{v0 v1 v2 v3:Value}{wz:World}(hE:Bx wz E 30 #[.int .i64 er])(hL:Bx wz L 29 #[v0,v1,v2,v3])(hEL:E≠L)
  (hres:∀ w' a0 a1 a2 a3,w'.cell? ⟨L,0,none⟩=some a0→w'.cell? ⟨L,1,none⟩=some a1→w'.cell? ⟨L,2,none⟩=some a2→w'.cell? ⟨L,3,none⟩=some a3→w'.cell? ⟨E,0,none⟩=some (.int .i64 er) →
   (results Tryz.f11 tmps).run Tryz.prog w' = .ok (.tuple #[.agg #[a0,a1,a2,a3], .int .i64 at_, .int .i64 er]) w')
  (h:∀ w',((er=0∧w'=wz)∨(er≠0∧(∀ j,j≠L→w'.heap[j]?=wz.heap[j]?)∧AX.Same wz w'∧L<w'.heap.size))→Rp (.returned (.tuple #[.agg (if er=0 then #[v0,v1,v2,v3] else wJ), .int .i64 at_, .int .i64 er])) w') :
  Leaves Tryz.prog Tryz.f11 tmps Rp [{ target:=Target.fn (Fn.func 28) #[.pointer (some ⟨E,0,none⟩), .pointer (some ⟨L,0,none⟩)],args:=#[] }] .returning wz:=by
 refine leaves_cons (f:=28) (args:=#[.pointer (some ⟨E,0,none⟩), .pointer (some ⟨L,0,none⟩)]) (by simp) (by simp[go_sem]) ?_;refine (WT E L er _ wz hE hL rfl).mono ?_;rintro e u' w' ⟨rfl,rfl,hc⟩;rcases hc with ⟨h0,rfl⟩ | ⟨h0,x,g4,g5⟩
 ·refine⟨_,hres w' v0 v1 v2 v3 (hL.cell 0) (hL.cell 1) (hL.cell 2) (hL.cell 3) (hE.cell 0),?_⟩
  have:=h w' (.inl ⟨h0,rfl⟩);rw[if_pos h0] at this;exact this
 ·have xe:Bx w' E 30 #[.int .i64 er]:=(g4 E hEL).trans hE
  unfold wJ at x;refine⟨_,hres w' _ _ _ _ (x.cell 0) (x.cell 1) (x.cell 2) (x.cell 3) (xe.cell 0),?_⟩;have:=h w' (.inr ⟨h0,g4,g5,x.lt⟩);rw[if_neg h0] at this;exact this
theorem BJ(R:List Rl)(hs:∀ x∈R,x.re.size≤254)(hl:R.length≤16)(la:Option Addr)(c:Nat)(w:World)(hp:0<w.heap.size)(hT:TabAt w)(hR:uZ w la R) :
  Calls Tryz.prog 11 #[.slice la R.length c] w (WW R w):=by
 obtain⟨n,hn⟩:∃ n,n=R.length:=⟨_,rfl⟩;obtain⟨L,hL⟩:∃ L,L=w.heap.size:=⟨_,rfl⟩;obtain⟨E,hE⟩:∃ E,E=L+1:=⟨_,rfl⟩;obtain⟨W0,hW0⟩:∃ W0,W0=(w.alloc (.cells wJ 29)).alloc (.cells #[.int .i64 0] 30):=⟨_,rfl⟩;have hb0:Below w.heap.size w W0:=by rw[hW0];exact ((Below.refl w.heap.size w).alloc Nat.le.refl _).alloc (by simp) _
 have xl:Bx W0 L 29 wJ:=by rw[hW0,hL];exact (Bx.new w 29 _).alloc _
 have xe:Bx W0 E 30 #[.int .i64 0]:=by
  rw[hW0,hE,show L+1=(w.alloc (.cells wJ 29)).heap.size by rw[hL];simp];exact Bx.new _ 30 _
 unfold wJ at hW0 xl;have hmf:∀(fn:Fn)(first cap:Array Value)(w:World),(Instr.makeFunc fn first cap).run Tryz.prog w = .ok (.func fn first cap) w:=fun _ _ _ _=>rfl;rw[←hn] at hl ⊢;have HLw:=hid hL;have HEL:=hid hE
 by_cases hz:n=0
 ·subst hz
  have hR0:R = []:=List.length_eq_zero_iff.1 hn.symm;have hno:∀ tss T,¬qp R tss T:=fun tss T h=>h.ne hR0;clear hR0 hn hR hs hl hT;go_enter_defers Tryz.func11,Tryz.ntmps11
  go_upto_region 1 with fail
  rw[←hL,←hE,←hW0];clear hL hE hW0;have c0:=xl.cell 0;have c1:=xl.cell 1;have c2:=xl.cell 2;have c3:=xl.cell 3;go_wp2_with (first
   | ((with_reducible refine bZ ?_);refine AX.au (vs:=[.slice none 0 0, .slice none 0 0, .slice none 0 0, .int .i64 0]) rfl rfl DJ xl rfl rfl ?_;rintro W1 g3 g4 g5;have xe1:Bx W1 E 30 #[.int .i64 0]:=(g4 E (by have:=HEL.out;omega)).trans xe)
   | ((with_reducible refine bZ ?_);refine AX.aB (o:=0) (v := .int .i64 2) rfl rfl rfl jK xe1 (show 0<1 by decide) ?_;rintro W2 k3 k4 k5))
  have xl2:Bx W2 L 29 #[.slice none 0 0, .slice none 0 0, .slice none 0 0, .int .i64 0]:=(k4 L (by have:=HEL.out;omega)).trans g3;have hb1:Below w.heap.size W0 W1:=AX.aj (by have:=HLw.out;omega) (.inl (show Bx W1 L 29 _ from g3).lt) g4 g5;have hb2:Below w.heap.size W1 W2:=AX.aj (by have:=HLw.out;have:=HEL.out;omega) (.inl (show Bx W2 E 30 #[.int .i64 2] from k3).lt) k4 k5;refine yX (er:=2) (at_:=0) k3 xl2 (by have:=HEL.out;omega) (fun w' a0 a1 a2 a3 e0 e1 e2 e3 e4=>by simp[results,Tryz.f11,go_sem,e0,e1,e2,e3,e4]) fun w' h=>?_;rcases h with ⟨h,_⟩ | ⟨_,h4,h5,h6⟩
  ·cases h
  ·have hb3:Below w.heap.size W2 w':=AX.aj (by have:=HLw.out;omega) (.inl h6) h4 h5
   exact⟨hb0.trans (hb1.trans (hb2.trans hb3)), .inl ⟨0,2,by decide,hno,rfl⟩⟩
 ·have HZ:Hid (1≤n):=hid (by omega)
  have hz0:¬(n:Int)=0:=by omega
  have hz1:¬(16:Int)<(n:Int):=by omega
  have hmm:=fun W=>run_makeMap (P:=Tryz.prog) (w:=W) 67;have HXL:=hid xl;have HXE:=hid xe;have HB0:=hid hb0;have HR:=hid hR;have HT:=hid hT;have HN:=hid hn;have HS:=hid hs;have HP:=hid hp;clear hR hs hT hp hz hn xl xe hb0;go_enter_defers Tryz.func11,Tryz.ntmps11
  go_upto_region 1 with fail
  rw[←hL,←hE,←hW0];clear hL hE hW0;go_upto_region 9 with fail
  have hb1:=(Below.refl W0.heap.size W0).alloc Nat.le.refl (.map #[] 0);obtain⟨M,hM⟩:∃ M,M=W0.heap.size:=⟨_,rfl⟩;obtain⟨W1,hW1⟩:∃ W1,W1=W0.alloc (.map #[] 0):=⟨_,rfl⟩;have hm1:W1.heap[M]?=some (.map (dZ 0 []).toArray ([]:List ByteArray).length):=by rw[hW1,hM];exact World.alloc_heap_new W0 _
  rw[←hW1] at hb1;have hlb:Lb w L E M (yU (R.take 0)) (kdP (R.take 0)) [] (ku (R.take 0)) (.slice none 0 0) (.slice none 0 0) (fun _=>False) W1 :=
   ⟨HB0.out.trans (hb1.mono HB0.out.size),HXL.out.below hb1 HXL.out.lt,HXE.out.below hb1 HXE.out.lt,hm1,World.ownsRow_nil _ _ _ _,⟨rfl, .inl ⟨rfl,rfl⟩⟩,rfl,fun j v r h=>by simp at h,fun k h=>h.elim,Nat.le_of_eq HLw.out.symm,by rw[hM];exact HB0.out.size⟩
  rw[←hW1,←hM];have HLB:=hid hlb;clear hb1 hm1 hW1 hM hlb;go_loopw [6,27] (fun v6 v27 wr=>∃(i:Nat)(vals:List Value)(av kv:Value)(S:Nat→Prop),v6=av∧v27 = .int .i64 i∧i≤n∧Lb w L E M (yU (R.take i)) (kdP (R.take i)) vals (ku (R.take i)) av kv S wr∧Hid (∀ j x,j<i→R[j]?=some x→(iU (yU (R.take j)) x).2=0)) (fun _ v27 _=>n-(intOf v27).toNat)
  case atStart=>exact⟨0,[],_,_,_,rfl,rfl,Nat.zero_le _,HLB.out,hid fun j x h=>absurd h (Nat.not_lt_zero _)⟩
  case round =>
   obtain⟨i,vals,av,kv,S,rfl,rfl,hi,hlb,hok⟩:=hrel;have hi0:(0:Int)≤(i:Int):=by omega
   by_cases hlt:i<n
   ·have hi1:(i:Int)<(n:Int):=by omega
    have hiR:i<R.length:=(by have:=HN.out;omega);obtain⟨x,hx⟩:∃ x,R[i]?=some x:=⟨_,List.getElem?_eq_getElem hiR⟩;obtain⟨B,off,rfl,hB,d0,d1,d2⟩:=HR.out i x hx;have d0:=(hlb.lo.cell (p:=⟨B,off+i*3,none⟩) hB).trans d0;have d1:=(hlb.lo.cell (p:=⟨B,off+i*3+1,none⟩) hB).trans d1;have d2:=(hlb.lo.cell (p:=⟨B,off+i*3+2,none⟩) hB).trans d2;have hre:=HS.out x (List.mem_of_getElem? hx);have htk:R.take (i+1)=R.take i++[x]:=by
     rw[List.take_add_one,hx];rfl
    have HX:=hid hx;have HTK:=hid htk;have HLB:=hid hlb;have HKD:Hid ((kdP (R.take i)).2≤16∧(kdP (R.take i)).1.length≤1000∧0≤(kdP (R.take i)).2):=hid (by
     have hti:(R.take i).length=i:=(by rw[List.length_take];omega);obtain⟨q1,q2,q3,_⟩:=DU _ (R.take i) rfl;omega)
    have hvl:vals.length≤1000000:=by
     have:=hlb.vl;have hti:(ku (R.take i)).length=i:=(by unfold ku;rw[List.length_map,List.length_take];omega);omega
    obtain⟨nm,re,tr⟩:=x;simp only at d0 d1 d2 hre;clear hx htk hlb hiR;have hx2:=Bx.new wr 35 #[.string ⟨#[]⟩, .string ⟨#[]⟩, .bool false];have hb2:=(Below.refl wr.heap.size wr).alloc Nat.le.refl (.cells #[.string ⟨#[]⟩, .string ⟨#[]⟩, .bool false] 35);go_upto_region 11 with ((with_reducible refine bZ ?_);refine AX.au (vs:=[.string nm, .string re, .bool tr]) rfl rfl abT hx2 rfl rfl ?_;rintro W3 g3 g4 g5)
    obtain⟨X,hX⟩:∃ X,X=wr.heap.size:=⟨_,rfl⟩;have x3:Bx W3 wr.heap.size 35 #[.string nm, .string re, .bool tr]:=g3;have hb3:Below wr.heap.size wr W3:=hb2.trans (AX.aj Nat.le.refl (.inl x3.lt) g4 g5);rw[←hX] at x3 ⊢;have hl3:=HLB.out.low hb3;have hrk:=WQ (yU (R.take i)) ⟨nm,re,tr⟩ hre M W3 hl3.mp;simp only at hrk;have e0:=x3.cell 0;have e1:=x3.cell 1;have e2:=x3.cell 2;have HX3:=hid x3;have HL3:=hid hl3;unfold FN at hrk;obtain⟨rc,hrc⟩:∃ rc,rc=(iU (yU (R.take i)) ⟨nm,re,tr⟩).2:=⟨_,rfl⟩;obtain⟨rr,hrr⟩:∃ rr,rr=(iU (yU (R.take i)) ⟨nm,re,tr⟩).1:=⟨_,rfl⟩;rw[←hrc,←hrr] at hrk;have HRC:=hid hrc;have HRR:=hid hrr;clear hrc hrr g3 g4 g5 hb2 hb3 hx2 hl3 x3 d0 d1 d2 hX;go_upto_region 12 with (go_at_call 29;((with_reducible refine hrk.mono ?_);rintro e W4 ⟨v,rfl,hv1,hbm,hv2⟩))
    by_cases h0:rc=0
    ·subst h0
     obtain⟨hv3,hv4,hv5,hm4⟩:=hv2 rfl;have hl4:=HL3.out.rule hbm hm4;have hri:RIn _ W4 v rr:=RIn.of S hv3 hv1;obtain⟨va,vk,vc,rfl⟩:∃ a k c,v = .slice a k c:=by obtain⟨la,c,e,_⟩:=hv3.row;exact⟨la,_,c,e⟩
     have x4:Bx W4 X 35 #[.string nm, .string re, .bool tr]:=(hbm.same X HX3.out.lt (nom HX3.out HL3.out.mp)).trans HX3.out;obtain⟨S4,hS4⟩:∃ S4:Nat→Prop,S4=fun k=>S k∨(W3.heap.size≤k∧k<W4.heap.size):=⟨_,rfl⟩;rw[←hS4] at hl4 hri;obtain⟨z0,hz0'⟩:Hid (rr=(rdP re).1)∧Hid (∀ j x,j<i+1→R[j]?=some x→(iU (yU (R.take j)) x).2=0):=by
      have:=BR HRC.out.symm;refine⟨hid (by rw[HRR.out];exact this.2.1),hid fun j x hj hx=>?_⟩
      by_cases e:j=i
      ·subst e
       rw[HX.out] at hx
       cases hx
       exact HRC.out.symm
      ·exact hok.out j x (by omega) hx
     have hnm:Hid (yU (R.take i)++[nm]=yU (R.take (i+1))):=hid (by rw[HTK.out];unfold yU;rw[List.map_append];rfl);have hrd:Hid (ku (R.take i)++[rr]=ku (R.take (i+1))):=hid (by rw[HTK.out,z0.out];unfold ku;rw[List.map_append];rfl);have hkd:Hid (kdP (R.take (i+1))=if tr=true then ((kdP (R.take i)).1++[-1],(kdP (R.take i)).2) else ((kdP (R.take i)).1++[(kdP (R.take i)).2],(kdP (R.take i)).2+1)):=hid (by rw[HTK.out];exact FP _ _);have hx5:=Bx.new W4 44 #[.slice va vk vc];have hb5:=(Below.refl W4.heap.size W4).alloc Nat.le.refl (.cells #[.slice va vk vc] 44);have hl5:=hl4.low hb5;have Zk:=hri.go (S':=S4) hb5.size (fun k hk=>hb5.block k (hl4.sd k hk).1) fun _ h=>h;have x5:=x4.below hb5 x4.lt;have SA:=hl5.lo.size;have hao:=hl5.ao;have HL5:=hid hl5;have HRI:=hid Zk;have HX5:=hid x5;clear hS4 hl4 hri hv2 hv3 hv4 hv5 hm4 hbm x4 hb5 hl5 Zk x5 e0 e1 e2 hrk;go_upto_region 15 with ((with_reducible refine WV ?_);refine DV w.heap.size _ vals (.slice va vk vc) rfl hao W4.heap.size 1 rfl hx5 rfl hvl SA ?_;rintro av' W6 ho hg hor)
     have hl6:=HL5.out.abV HRI.out ho hg hor;have x6:Bx W6 X 35 #[.string nm, .string re, .bool tr]:=HX5.out.aY (aZ HL5.out.ao hg) (by decide);have f2:W6.cell? ⟨X,2,none⟩=some (.bool tr):=x6.cell 2;have f3:W6.cell? ⟨L,3,none⟩=some (.int .i64 (kdP (R.take i)).2):=hl6.lb.cell 3;have f4:W6.cell? ⟨L,2,none⟩=some kv:=hl6.lb.cell 2;rw[hnm.out,hrd.out] at hl6;obtain⟨kn,hkn⟩:∃ kn,kn=(kdP (R.take i)).2:=⟨_,rfl⟩;have HL6:=hid hl6;clear hao hx5 ho hg hor hl6 x6
     cases tr with
     | true =>
      have hx7:=Bx.new W6 3 #[.int .i64 (-1)];have hl7:=HL6.out.low ((Below.refl W6.heap.size W6).alloc Nat.le.refl (.cells #[.int .i64 (-1)] 3));have LY:=hl7.lo.size;have hko:=hl7.ko;have HL7:=hid hl7;have hkl:(kdP (R.take i)).1.length≤1000000:=(by have:=HKD.out;omega);clear hl7 f3;go_wp2_with (first
       | ((with_reducible refine qM ?_);refine fQ w.heap.size kv (kdP (R.take i)).1 (-1) rfl hko W6.heap.size 1 rfl hx7 hkl LY ?_;rintro kv' W8 ho hg hor;have yP:=HL7.out.lb.aY (aZ hko hg) (show (29:TypeId)≠3 by decide);have hone:=jq ho)
       | ((with_reducible refine bZ ?_);refine AX.aB (o:=2) (v:=kv') rfl rfl hone yO yP (show 2<4 by decide) ?_;rintro W9 g3 g4 g5))
      have hl9:=HL7.out.Zj ho hg hor g3 g4 g5;rw[show ((kdP (R.take i)).1++[-1],(kdP (R.take i)).2)=kdP (R.take (i+1)) by rw[hkd.out];rfl] at hl9;exact⟨⟨i+1,_,_,_,_,rfl,by simp,by omega,hl9,hz0'⟩,by simp[intOf];omega⟩
     | false =>
      have hlL:=HL6.out.lb;obtain⟨q1,q2,q3⟩:=HKD.out;go_upto_region 19 with ((with_reducible refine bZ ?_);refine AX.aB (o:=3) (v := .int .i64 ((kdP (R.take i)).2+1)) rfl rfl rfl sz3 hlL (show 3<4 by decide) ?_;rintro Wn j3 j4 j5)
      have hln:=HL6.out.num j3 j4 j5;have f5:Wn.cell? ⟨L,2,none⟩=some kv:=hln.lb.cell 2;have hx7:=Bx.new Wn 3 #[.int .i64 (kdP (R.take i)).2];have hl7:=hln.low ((Below.refl Wn.heap.size Wn).alloc Nat.le.refl (.cells #[.int .i64 (kdP (R.take i)).2] 3));have LY:=hl7.lo.size;have hko:=hl7.ko;have HL7:=hid hl7;have hkl:(kdP (R.take i)).1.length≤1000000:=(by have:=HKD.out;omega);clear hl7 f3 f4 hln hlL j3 j4 j5;go_wp2_with (first
       | ((with_reducible refine qM ?_);refine fQ w.heap.size kv (kdP (R.take i)).1 (kdP (R.take i)).2 rfl hko Wn.heap.size 1 rfl hx7 hkl LY ?_;rintro kv' W8 ho hg hor;have yP:=HL7.out.lb.aY (aZ hko hg) (show (29:TypeId)≠3 by decide);have hone:=jq ho)
       | ((with_reducible refine bZ ?_);refine AX.aB (o:=2) (v:=kv') rfl rfl hone yO yP (show 2<4 by decide) ?_;rintro W9 g3 g4 g5))
      have hl9:=HL7.out.Zj ho hg hor g3 g4 g5;rw[show ((kdP (R.take i)).1++[(kdP (R.take i)).2],(kdP (R.take i)).2+1)=kdP (R.take (i+1)) by rw[hkd.out];rfl] at hl9;exact⟨⟨i+1,_,_,_,_,rfl,by simp,by omega,hl9,hz0'⟩,by simp[intOf];omega⟩
    ·have hd:decide (rc=0)=false:=decide_eq_false h0
     have hno:∀ tss T,¬qp R tss T:=fun tss T h=>h0 (HRC.out.trans (h.ok i _ HX.out));have xl4:Bx W4 L 29 #[.slice none 0 0, .slice none 0 0,kv, .int .i64 (kdP (R.take i)).2]:=(hbm.same L HL3.out.lb.lt (nom HL3.out.lb HL3.out.mp)).trans HL3.out.lb;have xe4:Bx W4 E 30 #[.int .i64 0]:=(hbm.same E HL3.out.eb.lt (nom HL3.out.eb HL3.out.mp)).trans HL3.out.eb;have hb4:Below w.heap.size w W4:=HL3.out.lo.trans (hbm.below HL3.out.lo.size HL3.out.bm);have l0:=xl4.cell 0;have l1:=xl4.cell 1;have l2:=xl4.cell 2;have l3:=xl4.cell 3;have ck:=jq HL3.out.ko;have HNO:=hid hno;have HB4:=hid hb4;clear hno hb4 hv2 hbm hrk e0 e1 e2;go_wp2_with (first
      | ((with_reducible refine bZ ?_);refine AX.au (vs:=[.slice none 0 0, .slice none 0 0,kv, .int .i64 (kdP (R.take i)).2]) rfl rfl DJ xl4 rfl (by simp only[List.all_cons,List.all_nil,ck];rfl) ?_;rintro W5 g3 g4 g5;have xe5:Bx W5 E 30 #[.int .i64 0]:=(g4 E (by have:=HEL.out;omega)).trans xe4)
      | ((with_reducible refine bZ ?_);refine AX.aB (o:=0) (v := .int .i64 rc) rfl rfl rfl jK xe5 (show 0<1 by decide) ?_;rintro W6 k3 k4 k5))
     have xl6:Bx W6 L 29 #[.slice none 0 0, .slice none 0 0,kv, .int .i64 (kdP (R.take i)).2]:=(k4 L (by have:=HEL.out;omega)).trans g3;have hb5:Below w.heap.size W4 W5:=AX.aj (by have:=HLw.out;omega) (.inl (show Bx W5 L 29 _ from g3).lt) g4 g5;have hb6:Below w.heap.size W5 W6:=AX.aj (by have:=HLw.out;have:=HEL.out;omega) (.inl (show Bx W6 E 30 #[.int .i64 rc] from k3).lt) k4 k5;refine yX (er:=rc) (at_:=i) k3 xl6 (by have:=HEL.out;omega) (fun w' b0 b1 b2 b3 e0 e1 e2 e3 e4=>by simp[results,Tryz.f11,go_sem,e0,e1,e2,e3,e4]) fun w' h=>?_;rcases h with ⟨h,_⟩ | ⟨_,h4,h5,h6⟩
     ·exact absurd h h0
     ·have hb7:Below w.heap.size W6 w':=AX.aj (by have:=HLw.out;omega) (.inl h6) h4 h5
      rw[if_neg h0];exact⟨HB4.out.trans (hb5.trans (hb6.trans hb7)), .inl ⟨i,rc,h0,HNO.out,rfl⟩⟩
   ·have hi1:¬(i:Int)<(n:Int):=by omega
    obtain rfl:i=n:=by omega
    have htn:R.take i=R:=List.take_of_length_le (by have:=HN.out;omega);rw[htn] at hlb;have WX:FB R:=fun j x hx=>hok.out j x (by have:=(List.getElem?_eq_some_iff.1 hx).1;have:=HN.out;omega) hx;obtain⟨rx1,rx2⟩:=J5 WX HS.out;have hrl:(ku R).length=i:=(by unfold ku;rw[List.length_map];exact HN.out.symm);obtain⟨la2,c2,rfl,hrs⟩:=hlb.rows;obtain⟨ka,kc,hkv⟩:=aQ hlb.ko;subst hkv;obtain⟨kl,hkl⟩:∃ kl,kl=(kdP R).1.length:=⟨_,rfl⟩;obtain⟨kn,hkn⟩:∃ kn,kn=(kdP R).2:=⟨_,rfl⟩;have hbu:=LG (ku R) la2 c2 rx1 rx2 (by omega) wr hrs;unfold Oi nfV at hbu;obtain⟨ncl,WY⟩:∃ ncl,ncl=(uS (ku R)).cl.length:=⟨_,rfl⟩;rw[←WY] at hbu;obtain⟨q,hq⟩:∃ q,q=(ku R).length:=⟨_,rfl⟩;rw[←hq] at hbu ⊢;have HLB:=hid hlb;have HOT:=hid WX;have HKL:=hid hkl;have HKN:=hid hkn;have HNC:=hid WY;have xlr:=hlb.lb;rw[←hkn,←hkl] at xlr;have hko:=hlb.ko;rw[←hkl] at hko;have HKr:=hid hko;clear hko;have xer:=hlb.eb;have Tn:=hid xlr;have Tq:=hid xer;clear hlb WX hkl hkn WY rx1 rx2 hrs hrl hq htn xlr xer
    by_cases hbig:1024<ncl
    ·have hno:∀ tss T,¬qp R tss T:=fun tss T h=>by have:=h.cl;have e:(nfP R).cl.length=ncl:=HNC.out.symm;omega
     have FV:Calls Tryz.prog 30 #[.slice la2 q c2] wr fun e w'=>e = .returned (.tuple #[.agg #[.slice none 0 0, .slice none 0 0, .slice none 0 0], .int .i64 10])∧Below wr.heap.size wr w':=hbu.mono fun e w' h=>by
      rcases h with ⟨h1,⟨_,h2⟩ | ⟨h3,_⟩⟩
      ·exact⟨h2,h1⟩
      ·omega
     clear hbu hbig;go_upto_region 22 with (first
      | (go_at_call 30;((with_reducible refine FV.mono ?_);rintro e W2 ⟨rfl,hb2⟩;have xN:=Bx.new W2 74 #[.slice none 0 0, .slice none 0 0, .slice none 0 0]))
      | ((with_reducible refine bZ ?_);refine AX.au (vs:=[.slice none 0 0, .slice none 0 0, .slice none 0 0]) rfl rfl Sr xN rfl rfl ?_;rintro W3 g3 g4 g5;have hb3:Below wr.heap.size wr W3:=(hb2.trans (((Below.refl W2.heap.size W2).alloc Nat.le.refl _).mono hb2.size)).trans (AX.aj hb2.size (.inl (show Bx W3 W2.heap.size 74 _ from g3).lt) g4 g5);have xl3:=Tn.out.below hb3 Tn.out.lt;have xe3:=Tq.out.below hb3 Tq.out.lt)
      | ((with_reducible refine bZ ?_);refine AX.aB (o:=0) (v := .int .i64 10) rfl rfl rfl jK xe3 (show 0<1 by decide) ?_;rintro W4 k3 k4 k5))
     have xe4:Bx W4 E 30 #[.int .i64 10]:=k3;have xl4:Bx W4 L 29 #[.slice none 0 0, .slice none 0 0, .slice ka kl kc, .int .i64 kn]:=(k4 L (by have:=HEL.out;omega)).trans xl3;have HLO:Hid (Below w.heap.size w W4):=hid ((HLB.out.lo.trans (hb3.mono HLB.out.lo.size)).trans (AX.aj (by have:=HLw.out;have:=HEL.out;omega) (.inl xe4.lt) k4 k5));have v4:=xe4.cell 0;clear hb2 hb3 xN g3 g4 g5 k3 k4 k5 xl3 xe3 FV;go_upto_region 26 with fail
     have hbd:=(Below.refl W4.heap.size W4).drew;obtain⟨Wd,hWd⟩:∃ Wd,Wd=W4.drew:=⟨_,rfl⟩;obtain⟨C,hCi,hCo⟩:∃ C:World→Prop,(∀ W,C W→Bx W L 29 #[.slice none 0 0, .slice none 0 0, .slice ka kl kc, .int .i64 kn]∧Bx W E 30 #[.int .i64 10]∧Below W4.heap.size W4 W)∧(∀ W,Bx W L 29 #[.slice none 0 0, .slice none 0 0, .slice ka kl kc, .int .i64 kn]→Bx W E 30 #[.int .i64 10]→Below W4.heap.size W4 W→C W):=⟨_,fun _ h=>h,fun _ h1 h2 h3=>⟨h1,h2,h3⟩⟩;have hC0:C W4.drew:=hCo _ (xl4.below hbd xl4.lt) (xe4.below hbd xe4.lt) hbd;haveI:Inhabited (AX.CW C):=⟨⟨_,hC0⟩⟩;have a0:∀ p:AX.CW C,p.W.cell? ⟨L,0,none⟩=some (.slice none 0 0):=fun p=>(hCi _ p.h).1.cell 0;have a1:∀ p:AX.CW C,p.W.cell? ⟨L,1,none⟩=some (.slice none 0 0):=fun p=>(hCi _ p.h).1.cell 1;have a2:∀ p:AX.CW C,p.W.cell? ⟨L,2,none⟩=some (.slice ka kl kc):=fun p=>(hCi _ p.h).1.cell 2;have a3:∀ p:AX.CW C,p.W.cell? ⟨L,3,none⟩=some (.int .i64 kn):=fun p=>(hCi _ p.h).1.cell 3;have a4:∀ p:AX.CW C,p.W.cell? ⟨E,0,none⟩=some (.int .i64 10):=fun p=>(hCi _ p.h).2.1.cell 0;refine IW (C:=fun W=>∃ p:AX.CW C,W=p.W) lN _ (by kernel_rfl) (by kernel_rfl) rfl (by kernel_rfl) (by kernel_rfl) ⟨⟨_,hC0⟩,rfl⟩ ?_;unfold lN;rw[←hWd] at hC0 ⊢
     repeat (refine AX.dF _ (by rfl) ?_;go_big_quiet_step (fail);refine wpQuiet_nil ?_)
     obtain⟨gL,gE,gB⟩:=hCi _ hC0;refine AX.kC _ (by rfl) (by rfl) ?_;refine AX.aG (vs:=[.slice none 0 0, .slice none 0 0, .slice ka kl kc, .int .i64 kn]) rfl rfl DJ gL rfl (rfl) ?_;rintro Wa k3 k4 k5;have xa:Bx Wa L 29 #[.slice none 0 0, .slice none 0 0, .slice ka kl kc, .int .i64 kn]:=k3;have xea:Bx Wa E 30 #[.int .i64 10]:=(k4 E (by have:=HEL.out;omega)).trans gE;have hba:Below W4.heap.size W4 Wa:=gB.trans (gU (iH gL xa k4) k5);refine⟨⟨⟨_,hCo _ xa xea hba⟩,rfl⟩,?_⟩;clear k3 k4 k5;refine AX.dF _ (by rfl) ?_;go_big_quiet_step (fail)
     refine wpQuiet_nil ?_;refine AX.kC _ (by rfl) (by rfl) ?_;refine AX.aI (o:=0) (v := .int .i64 10) rfl rfl rfl jK xea (show 0<1 by decide) ?_;rintro Wb k3 k4 k5;have xeb:Bx Wb E 30 #[.int .i64 10]:=k3;have xb:Bx Wb L 29 #[.slice none 0 0, .slice none 0 0, .slice ka kl kc, .int .i64 kn]:=(k4 L (by have:=HEL.out;omega)).trans xa;have hbb:Below W4.heap.size W4 Wb:=hba.trans (gU (iH xea xeb k4) k5);refine⟨⟨⟨_,hCo _ xb xeb hbb⟩,rfl⟩,?_⟩;have HBB:=hid hbb;clear a0 a1 a2 a3 a4 hCi hCo k3 k4 k5 xa xea hba hC0 hWd gL gE gB hbd hbb;unfold AX.fZ J6;dsimp only;go_wp2_with fail
     refine yX (er:=10) (at_:=i) xeb xb (by have:=HEL.out;omega) (fun w' b0 b1 b2 b3 e0 e1 e2 e3 e4=>by simp[results,Tryz.f11,go_sem,e0,e1,e2,e3,e4]) fun w' h=>?_;rcases h with ⟨h,_⟩ | ⟨_,h4,h5,h6⟩
     ·cases h
     ·exact⟨HLO.out.trans ((HBB.out.mono HLO.out.size).trans (AX.aj (by have:=HLw.out;omega) (.inl h6) h4 h5)), .inl ⟨_,10,by decide,hno,rfl⟩⟩
    ·have hcl:(nfP R).cl.length≤1024:=by have e:(nfP R).cl.length=ncl:=HNC.out.symm;omega
     have FV:Calls Tryz.prog 30 #[.slice la2 q c2] wr fun e w'=>(∃ ac an ar cc cn cr,e = .returned (.tuple #[.agg #[.slice ac ncl cc, .slice an ncl cn, .slice ar ncl cr], .int .i64 0])∧uT w' (nfP R) ac an ar)∧Below wr.heap.size wr w':=hbu.mono fun e w' h=>by
      rcases h with ⟨h1,⟨h2,_⟩ | ⟨_,ac,an,ar,cc,cn,cr,e1,e2⟩⟩
      ·omega
      ·exact⟨⟨ac,an,ar,cc,cn,cr,e1,e2⟩,h1⟩
     have o:=O7 HOT.out HS.out (by have:=HN.out;omega) hcl;have HO:=hid o;have HCL:=hid hcl;clear hbu hbig o hcl;go_upto_region 22 with (first
      | (go_at_call 30;((with_reducible refine FV.mono ?_);rintro e W2 ⟨⟨ac,an,ar,cc,cn,cr,rfl,hnf⟩,hb2⟩;have xN:=Bx.new W2 74 #[.slice none 0 0, .slice none 0 0, .slice none 0 0]))
      | ((with_reducible refine bZ ?_);refine AX.au (vs:=[.slice ac ncl cc, .slice an ncl cn, .slice ar ncl cr]) rfl rfl Sr xN rfl rfl ?_;rintro W3 g3 g4 g5;have wZ:Below W2.heap.size W2 W3:=(((Below.refl W2.heap.size W2).alloc Nat.le.refl _)).trans (AX.aj Nat.le.refl (.inl (show Bx W3 W2.heap.size 74 _ from g3).lt) g4 g5);have hb3:Below wr.heap.size wr W3:=hb2.trans (wZ.mono hb2.size);have xl3:=Tn.out.below hb3 Tn.out.lt;have xe3:=Tq.out.below hb3 Tq.out.lt)
      | ((with_reducible refine bZ ?_);refine AX.aB (o:=0) (v := .int .i64 0) rfl rfl rfl jK xe3 (show 0<1 by decide) ?_;rintro W4 k3 k4 k5))
     have xe4:Bx W4 E 30 #[.int .i64 0]:=k3;have xl4:Bx W4 L 29 #[.slice none 0 0, .slice none 0 0, .slice ka kl kc, .int .i64 kn]:=(k4 L (by have:=HEL.out;omega)).trans xl3;have nS:∀ m,Below m W3 W4:=fun m=>gU (iH xe3 xe4 k4) k5;have xn4:Bx W4 W2.heap.size 74 #[.slice ac ncl cc, .slice an ncl cn, .slice ar ncl cr]:=(show Bx W3 W2.heap.size 74 _ from g3).below (nS _) (show Bx W3 W2.heap.size 74 _ from g3).lt;have hb4:Below wr.heap.size wr W4:=hb3.trans (nS _);have Zl:=(hnf.below wZ Nat.le.refl).below (nS _) Nat.le.refl;have DF:Below w.heap.size w W4:=HLB.out.lo.trans (hb4.mono HLB.out.lo.size);have Zm:=bG HKr.out hb4;have hb9:=O8 (nfP R) HO.out HCL.out ac an ar cc cn cr 512 (by decide) (by decide) W4 (Nat.lt_of_lt_of_le HP.out DF.size) (HT.out.below DF HP.out) Zl;rw[HO.out.nx,HO.out.ru,show(nfP R).cl.length=ncl from HNC.out.symm] at hb9;unfold Vm at hb9;have n0:=xn4.cell 0;have n1:=xn4.cell 1;have n2:=xn4.cell 2;have v4:=xe4.cell 0;obtain⟨NB,hNB⟩:∃ NB,NB=W2.heap.size:=⟨_,rfl⟩;rw[←hNB] at n0 n1 n2 ⊢;have Tt:=hid DF;have abW:=hid Zm;clear hb2 wZ hb3 xN g3 g4 g5 k3 k4 k5 xl3 xe3 FV hnf Zl DF Zm hb4 nS xn4 hNB
     cases hbl:kY 512 (jC (nfP R)) (eY (spl (nfP R).cl)) (512+1) 0 [[0]] with
     | none =>
      have hno:∀ tss T,¬qp R tss T:=fun tss T h=>by have:=h.bl;rw[hbl] at this;cases this
      have LZ:Calls Tryz.prog 31 #[.agg #[.slice ac ncl cc, .slice an ncl cn, .slice ar ncl cr], .int .i64 512] W4 fun e w'=>e = .returned (.tuple #[.agg #[.slice none 0 0, .slice none 0 0], .int .i64 10])∧Below W4.heap.size W4 w':=hb9.mono fun e w' h=>by
       rcases h with ⟨h1,⟨_,h2⟩ | ⟨tss,T,_,_,_,_,h3,_⟩⟩
       ·exact⟨h2,h1⟩
       ·rw[hbl] at h3;cases h3
      have HBL:=hid hbl;clear hb9 hbl;go_upto_region 24 with (first
       | (go_at_call 31;((with_reducible refine LZ.mono ?_);rintro e W5 ⟨rfl,hb5⟩;have xl5:=xl4.below hb5 xl4.lt;have xe5:=xe4.below hb5 xe4.lt))
       | ((with_reducible refine bZ ?_);refine AX.kD (o:=0) (vs:=[.slice none 0 0, .slice none 0 0]) rfl rfl Tc xl5 (show 0+2≤4 by decide) rfl ?_;rintro W7 g3 g4 g5;have xe7:Bx W7 E 30 #[.int .i64 0]:=(g4 E (by have:=HEL.out;omega)).trans xe5)
       | ((with_reducible refine bZ ?_);refine AX.aB (o:=0) (v := .int .i64 10) rfl rfl rfl jK xe7 (show 0<1 by decide) ?_;rintro W8 k3 k4 k5))
      have xl7:Bx W7 L 29 #[.slice none 0 0, .slice none 0 0, .slice ka kl kc, .int .i64 kn]:=g3;have xe8:Bx W8 E 30 #[.int .i64 10]:=k3;have xl8:Bx W8 L 29 #[.slice none 0 0, .slice none 0 0, .slice ka kl kc, .int .i64 kn]:=(k4 L (by have:=HEL.out;omega)).trans xl7;have HLO:Hid (Below w.heap.size w W8):=hid (((Tt.out.trans (hb5.mono Tt.out.size)).trans (AX.aj (by have:=HLw.out;omega) (.inl xl7.lt) g4 g5)).trans (AX.aj (by have:=HLw.out;have:=HEL.out;omega) (.inl xe8.lt) k4 k5));have v8:=xe8.cell 0;clear hb5 xl5 xe5 xl7 xe7 g3 g4 g5 k3 k4 k5 LZ xl4 xe4 v4 n0 n1 n2;go_upto_region 26 with fail
      have hbd:=(Below.refl W8.heap.size W8).drew;obtain⟨Wd,hWd⟩:∃ Wd,Wd=W8.drew:=⟨_,rfl⟩;obtain⟨C,hCi,hCo⟩:∃ C:World→Prop,(∀ W,C W→Bx W L 29 #[.slice none 0 0, .slice none 0 0, .slice ka kl kc, .int .i64 kn]∧Bx W E 30 #[.int .i64 10]∧Below W8.heap.size W8 W)∧(∀ W,Bx W L 29 #[.slice none 0 0, .slice none 0 0, .slice ka kl kc, .int .i64 kn]→Bx W E 30 #[.int .i64 10]→Below W8.heap.size W8 W→C W):=⟨_,fun _ h=>h,fun _ h1 h2 h3=>⟨h1,h2,h3⟩⟩;have hC0:C W8.drew:=hCo _ (xl8.below hbd xl8.lt) (xe8.below hbd xe8.lt) hbd;haveI:Inhabited (AX.CW C):=⟨⟨_,hC0⟩⟩;have a0:∀ p:AX.CW C,p.W.cell? ⟨L,0,none⟩=some (.slice none 0 0):=fun p=>(hCi _ p.h).1.cell 0;have a1:∀ p:AX.CW C,p.W.cell? ⟨L,1,none⟩=some (.slice none 0 0):=fun p=>(hCi _ p.h).1.cell 1;have a2:∀ p:AX.CW C,p.W.cell? ⟨L,2,none⟩=some (.slice ka kl kc):=fun p=>(hCi _ p.h).1.cell 2;have a3:∀ p:AX.CW C,p.W.cell? ⟨L,3,none⟩=some (.int .i64 kn):=fun p=>(hCi _ p.h).1.cell 3;have a4:∀ p:AX.CW C,p.W.cell? ⟨E,0,none⟩=some (.int .i64 10):=fun p=>(hCi _ p.h).2.1.cell 0;refine IW (C:=fun W=>∃ p:AX.CW C,W=p.W) lN _ (by kernel_rfl) (by kernel_rfl) rfl (by kernel_rfl) (by kernel_rfl) ⟨⟨_,hC0⟩,rfl⟩ ?_;unfold lN;rw[←hWd] at hC0 ⊢
      repeat (refine AX.dF _ (by rfl) ?_;go_big_quiet_step (fail);refine wpQuiet_nil ?_)
      obtain⟨gL,gE,gB⟩:=hCi _ hC0;refine AX.kC _ (by rfl) (by rfl) ?_;refine AX.aG (vs:=[.slice none 0 0, .slice none 0 0, .slice ka kl kc, .int .i64 kn]) rfl rfl DJ gL rfl (rfl) ?_;rintro Wa k3 k4 k5;have xa:Bx Wa L 29 #[.slice none 0 0, .slice none 0 0, .slice ka kl kc, .int .i64 kn]:=k3;have xea:Bx Wa E 30 #[.int .i64 10]:=(k4 E (by have:=HEL.out;omega)).trans gE;have hba:Below W8.heap.size W8 Wa:=gB.trans (gU (iH gL xa k4) k5);refine⟨⟨⟨_,hCo _ xa xea hba⟩,rfl⟩,?_⟩;clear k3 k4 k5;refine AX.dF _ (by rfl) ?_;go_big_quiet_step (fail)
      refine wpQuiet_nil ?_;refine AX.kC _ (by rfl) (by rfl) ?_;refine AX.aI (o:=0) (v := .int .i64 10) rfl rfl rfl jK xea (show 0<1 by decide) ?_;rintro Wb k3 k4 k5;have xeb:Bx Wb E 30 #[.int .i64 10]:=k3;have xb:Bx Wb L 29 #[.slice none 0 0, .slice none 0 0, .slice ka kl kc, .int .i64 kn]:=(k4 L (by have:=HEL.out;omega)).trans xa;have hbb:Below W8.heap.size W8 Wb:=hba.trans (gU (iH xea xeb k4) k5);refine⟨⟨⟨_,hCo _ xb xeb hbb⟩,rfl⟩,?_⟩;have HBB:=hid hbb;clear a0 a1 a2 a3 a4 hCi hCo k3 k4 k5 xa xea hba hC0 hWd gL gE gB hbd hbb;unfold AX.fZ J6;dsimp only;go_wp2_with fail
      refine yX (er:=10) (at_:=i) xeb xb (by have:=HEL.out;omega) (fun w' b0 b1 b2 b3 e0 e1 e2 e3 e4=>by simp[results,Tryz.f11,go_sem,e0,e1,e2,e3,e4]) fun w' h=>?_;rcases h with ⟨h,_⟩ | ⟨_,h4,h5,h6⟩
      ·cases h
      ·exact⟨HLO.out.trans ((HBB.out.mono HLO.out.size).trans (AX.aj (by have:=HLw.out;omega) (.inl h6) h4 h5)), .inl ⟨_,10,by decide,hno,rfl⟩⟩
     | some p =>
      obtain⟨tss,T⟩:=p;have HOK:Hid (qp R tss T):=hid ⟨fun e=>by have:=HZ.out;have:=HN.out;rw[e] at this;simp at this;omega,HOT.out,HCL.out,hbl⟩;obtain⟨next,hnext⟩:∃ next,next=dI (fF (spl (nfP R).cl)) tss:=⟨_,rfl⟩
      obtain⟨rule,oz⟩:∃ rule,rule=iG (nfP R).ru T:=⟨_,rfl⟩;have htab:nO R tss T=bK next rule:=(by unfold nO;rw[←hnext,←oz])
      have Zn:okT next rule=true:=(by rw[hnext,oz];exact (IQ HOK.out HS.out (by have:=HN.out;omega)).1)
      have LZ:Calls Tryz.prog 31 #[.agg #[.slice ac ncl cc, .slice an ncl cn, .slice ar ncl cr], .int .i64 512] W4 fun e w'=>(∃ an ar cn cr,e = .returned (.tuple #[.agg #[.slice an next.length cn, .slice ar rule.length cr], .int .i64 0])∧aK w' an next∧aK w' ar rule∧next.length≤cn)∧Below W4.heap.size W4 w':=hb9.mono fun e w' h=>by
       rcases h with ⟨h1,⟨h2,_⟩ | ⟨adU,T2,an,ar,cn,cr,h3,h4⟩⟩
       ·rw[hbl] at h2;cases h2
       ·rw[hbl] at h3
        cases h3
        rw[←hnext,←oz] at h4;exact⟨⟨an,ar,cn,cr,h4⟩,h1⟩
      obtain⟨nl,hnl⟩:∃ nl,nl=next.length:=⟨_,rfl⟩
      obtain⟨rl,hrl⟩:∃ rl,rl=rule.length:=⟨_,rfl⟩;rw[←hnl,←hrl] at LZ;have HTB:=hid htab;have abX:=hid Zn;have HNL:=hid hnl;have HRL:=hid hrl;clear hb9 hbl hnext oz htab Zn hnl hrl;go_upto_region 24 with (first
       | (go_at_call 31;((with_reducible refine LZ.mono ?_);rintro e W5 ⟨⟨an5,ar5,cn5,cr5,rfl,hi1,hi2,hi3⟩,hb5⟩;have xl5:=xl4.below hb5 xl4.lt;have xe5:=xe4.below hb5 xe4.lt))
       | ((with_reducible refine bZ ?_);refine AX.kD (o:=0) (vs:=[.slice an5 nl cn5, .slice ar5 rl cr5]) rfl rfl Tc xl5 (show 0+2≤4 by decide) rfl ?_;rintro W6 g3 g4 g5;have xe6:Bx W6 E 30 #[.int .i64 0]:=(g4 E (by have:=HEL.out;omega)).trans xe5)
       | ((with_reducible refine bZ ?_);refine AX.aB (o:=0) (v := .int .i64 0) rfl rfl rfl jK xe6 (show 0<1 by decide) ?_;rintro W7 k3 k4 k5))
      have xl6:Bx W6 L 29 #[.slice an5 nl cn5, .slice ar5 rl cr5, .slice ka kl kc, .int .i64 kn]:=g3;have xe7:Bx W7 E 30 #[.int .i64 0]:=k3;have DW:∀ m,Below m W6 W7:=fun m=>gU (iH xe6 xe7 k4) k5;have xl7:Bx W7 L 29 #[.slice an5 nl cn5, .slice ar5 rl cr5, .slice ka kl kc, .int .i64 kn]:=xl6.below (DW _) xl6.lt;have Tv:Below w.heap.size W5 W6:=AX.aj (by have:=HLw.out;omega) (.inl xl6.lt) g4 g5;have Zo:=(hi1.store xl5 xl6 g4 Tv.size).below (DW _) Nat.le.refl;have hi27:=(hi2.store xl5 xl6 g4 Tv.size).below (DW _) Nat.le.refl;have Zp:=bG (aC (bG abW.out hb5) (aT xl5 g4) (show (3:TypeId)≠29 by decide)) (DW _);have LY:Below w.heap.size w W7:=((Tt.out.trans (hb5.mono Tt.out.size)).trans Tv).trans (DW _);have Tz:=LQ next rule abX.out an5 ar5 cn5 cr5 (by have:=HNL.out;omega) W7 Zo hi27
      rw[←HNL.out,←HRL.out] at Tz;unfold OM at Tz;have l0:W7.cell? ⟨L,0,none⟩=some (.slice an5 nl cn5):=xl7.cell 0;have l1:W7.cell? ⟨L,1,none⟩=some (.slice ar5 rl cr5):=xl7.cell 1;have v7:=xe7.cell 0;have Zq:=hid LY;have abY:=hid Zp;clear hb5 xl5 xe5 xl6 xe6 g3 g4 g5 k3 k4 k5 LZ xl4 xe4 v4 n0 n1 n2 DW Tv hi1 hi2 Zo hi27 Zp LY hi3;go_upto_region 26 with (first
       | (go_at_call 32;((with_reducible refine Tz.mono ?_);rintro e W8 ⟨an2,ar2,cn2,cr2,rfl,_,hi1,hi2,hb8⟩;have xl8:=xl7.below hb8 xl7.lt;have xe8:=xe7.below hb8 xe7.lt))
       | ((with_reducible refine bZ ?_);refine AX.kD (o:=0) (vs:=[.slice an2 (bK next rule).1.length cn2, .slice ar2 (bK next rule).2.length cr2]) rfl rfl Tc xl8 (show 0+2≤4 by decide) rfl ?_;rintro W9 g3 g4 g5;have xe9:Bx W9 E 30 #[.int .i64 0]:=(g4 E (by have:=HEL.out;omega)).trans xe8)
       | ((with_reducible refine bZ ?_);refine AX.aB (o:=0) (v := .int .i64 0) rfl rfl rfl jK xe9 (show 0<1 by decide) ?_;rintro W10 k3 k4 k5))
      have xl9:Bx W9 L 29 #[.slice an2 (bK next rule).1.length cn2, .slice ar2 (bK next rule).2.length cr2, .slice ka kl kc, .int .i64 kn]:=g3;have WZ:Bx W10 E 30 #[.int .i64 0]:=k3;have L6:∀ m,Below m W9 W10:=fun m=>gU (iH xe9 WZ k4) k5;have Zr:=xl9.below (L6 _) xl9.lt;have IX:Below w.heap.size W8 W9:=AX.aj (by have:=HLw.out;omega) (.inl xl9.lt) g4 g5;have HI1:=hid ((hi1.store xl8 xl9 g4 IX.size).below (L6 _) Nat.le.refl);have HI2:=hid ((hi2.store xl8 xl9 g4 IX.size).below (L6 _) Nat.le.refl);have Zt:=aC (bG abY.out hb8) (aT xl8 g4) (show (3:TypeId)≠29 by decide);have HKO:=hid (bG Zt (L6 _));have HLO:Hid (Below w.heap.size w W10):=hid (((Zq.out.trans (hb8.mono Zq.out.size)).trans IX).trans (L6 _));clear hb8 xl8 xe8 xl9 xe9 g3 g4 g5 k3 k4 k5 Tz xl7 xe7 v7 l0 l1 L6 IX hi1 hi2 Zt;go_upto_region 26 with fail
      have hbd:=(Below.refl W10.heap.size W10).drew;obtain⟨Wd,hWd⟩:∃ Wd,Wd=W10.drew:=⟨_,rfl⟩;obtain⟨C,hCi,hCo⟩:∃ C:World→Prop,(∀ W,C W→Bx W L 29 #[.slice an2 (bK next rule).1.length cn2, .slice ar2 (bK next rule).2.length cr2, .slice ka kl kc, .int .i64 kn]∧Bx W E 30 #[.int .i64 0]∧Below W10.heap.size W10 W)∧(∀ W,Bx W L 29 #[.slice an2 (bK next rule).1.length cn2, .slice ar2 (bK next rule).2.length cr2, .slice ka kl kc, .int .i64 kn]→Bx W E 30 #[.int .i64 0]→Below W10.heap.size W10 W→C W):=⟨_,fun _ h=>h,fun _ h1 h2 h3=>⟨h1,h2,h3⟩⟩;have hC0:C W10.drew:=hCo _ (Zr.below hbd Zr.lt) (WZ.below hbd WZ.lt) hbd;haveI:Inhabited (AX.CW C):=⟨⟨_,hC0⟩⟩;have a0:∀ p:AX.CW C,p.W.cell? ⟨L,0,none⟩=some (.slice an2 (bK next rule).1.length cn2):=fun p=>(hCi _ p.h).1.cell 0;have a1:∀ p:AX.CW C,p.W.cell? ⟨L,1,none⟩=some (.slice ar2 (bK next rule).2.length cr2):=fun p=>(hCi _ p.h).1.cell 1;have a2:∀ p:AX.CW C,p.W.cell? ⟨L,2,none⟩=some (.slice ka kl kc):=fun p=>(hCi _ p.h).1.cell 2;have a3:∀ p:AX.CW C,p.W.cell? ⟨L,3,none⟩=some (.int .i64 kn):=fun p=>(hCi _ p.h).1.cell 3;have a4:∀ p:AX.CW C,p.W.cell? ⟨E,0,none⟩=some (.int .i64 0):=fun p=>(hCi _ p.h).2.1.cell 0;refine IW (C:=fun W=>∃ p:AX.CW C,W=p.W) lN _ (by kernel_rfl) (by kernel_rfl) rfl (by kernel_rfl) (by kernel_rfl) ⟨⟨_,hC0⟩,rfl⟩ ?_;unfold lN;rw[←hWd] at hC0 ⊢
      repeat (refine AX.dF _ (by rfl) ?_;go_big_quiet_step (fail);refine wpQuiet_nil ?_)
      obtain⟨gL,gE,gB⟩:=hCi _ hC0;refine AX.kC _ (by rfl) (by rfl) ?_;refine AX.aG (vs:=[.slice an2 (bK next rule).1.length cn2, .slice ar2 (bK next rule).2.length cr2, .slice ka kl kc, .int .i64 kn]) rfl rfl DJ gL rfl (rfl) ?_;rintro Wa k3 k4 k5;have xa:Bx Wa L 29 #[.slice an2 (bK next rule).1.length cn2, .slice ar2 (bK next rule).2.length cr2, .slice ka kl kc, .int .i64 kn]:=k3;have xea:Bx Wa E 30 #[.int .i64 0]:=(k4 E (by have:=HEL.out;omega)).trans gE;have hba:Below W10.heap.size W10 Wa:=gB.trans (gU (iH gL xa k4) k5);refine⟨⟨⟨_,hCo _ xa xea hba⟩,rfl⟩,?_⟩;clear k3 k4 k5;refine AX.dF _ (by rfl) ?_;go_big_quiet_step (fail)
      refine wpQuiet_nil ?_;refine AX.kC _ (by rfl) (by rfl) ?_;refine AX.aI (o:=0) (v := .int .i64 0) rfl rfl rfl jK xea (show 0<1 by decide) ?_;rintro Wb k3 k4 k5;have xeb:Bx Wb E 30 #[.int .i64 0]:=k3;have xb:Bx Wb L 29 #[.slice an2 (bK next rule).1.length cn2, .slice ar2 (bK next rule).2.length cr2, .slice ka kl kc, .int .i64 kn]:=(k4 L (by have:=HEL.out;omega)).trans xa;have hbb:Below W10.heap.size W10 Wb:=hba.trans (gU (iH xea xeb k4) k5);refine⟨⟨⟨_,hCo _ xb xeb hbb⟩,rfl⟩,?_⟩;have HBB:=hid hbb;clear a0 a1 a2 a3 a4 hCi hCo k3 k4 k5 xa xea hba hC0 hWd gL gE gB hbd hbb;unfold AX.fZ J6;dsimp only;go_wp2_with fail
      refine yX (er:=0) (at_:=i) xeb xb (by have:=HEL.out;omega) (fun w' b0 b1 b2 b3 e0 e1 e2 e3 e4=>by simp[results,Tryz.f11,go_sem,e0,e1,e2,e3,e4]) fun w' h=>?_;rcases h with ⟨_,rfl⟩ | ⟨h,_⟩
      ·rw[if_pos rfl]
       have hb:Below W10.heap.size W10 w':=HBB.out;obtain⟨ka2,kc2,ek,hkr⟩:=DI (bG HKO.out hb)
       cases ek
       refine⟨HLO.out.trans (hb.mono HLO.out.size), .inr ⟨tss,T,an2,ar2,ka,cn2,cr2,kc,HOK.out,?_,?_,?_,hkr⟩⟩
       ·rw[HTB.out,←HN.out,←HKN.out,←HKL.out]
        rfl
       ·rw[HTB.out];exact HI1.out.below hb Nat.le.refl
       ·rw[HTB.out];exact HI2.out.below hb Nat.le.refl
      ·exact absurd rfl h
end Go.Proofs.YtkjgogdkdejljaaGreatDoor.Df
