import Derived.Test.YtkjgogdkdejljaaGreatDoorRxW6
import Derived.Deep.CutRange
set_option maxRecDepth 100000
set_option maxHeartbeats 40000000
namespace Go.Proofs.YtkjgogdkdejljaaGreatDoor.Rx
open Go Go.Proofs Go.RowKit
attribute [local go_sem] Oper.semAt_some
theorem bK{P:Program}{ops:Array Oper}{Q:Exit->Act->World->Prop}{a:Act}{w:World}{rest:List Oper}{t:TypeId}{x y:Operand}{ty:TypeId}{pos:String}{after:Array Edge}(h:wpList P ops Q ({dst:=none,op:=.store t x y,type:=ty,pos:=pos,after:=after,guard:=none}::rest) a w):
 wpList P ops Q ({dst:=none,op:=.store t x y,type:=ty,pos:=pos,after:=after,guard:=none}::rest) a w:=h
def Bx(w:World)(b:Nat)(t:TypeId)(cs:Array Value):Prop:=w.heap[b]?=some (.cells cs t (0,0))
theorem Bx.lt{w:World}{B:Nat}{t:TypeId}{cs:Array Value}(h:Bx w B t cs):B<w.heap.size:=(afF.1 h).1
theorem Bx.new(w:World)(t:TypeId)(cs:Array Value):Bx (w.alloc (.cells cs t)) w.heap.size t cs:=World.alloc_heap_new w _
theorem Bx.cell{w:World}{B:Nat}{t:TypeId}{cs:Array Value}(h:Bx w B t cs)(j:Nat):w.cell? ⟨B,j,none⟩=cs[j]?:=by simp[World.cell?,show w.heap[B]?=_ from h]
theorem Bx.frozen{w:World}{B:Nat}{t:TypeId}{cs:Array Value}(h:Bx w B t cs)(j:Nat):w.frozen? ⟨B,j,none⟩=false:=by simp[World.frozen?,show w.heap[B]?=_ from h]
theorem Bx.below{n B:Nat}{t:TypeId}{cs:Array Value}{w w':World}(h:Bx w B t cs)(hb:Below n w w')(hn:B<n):Bx w' B t cs:=(hb.block _ hn).trans h
theorem Bx.same{B:Nat}{t:TypeId}{cs:Array Value}{w w':World}(h:Bx w B t cs)(e:w'.heap[B]?=w.heap[B]?):Bx w' B t cs:=e.trans h
theorem Bx.alloc{w:World}{B:Nat}{t:TypeId}{cs:Array Value}(h:Bx w B t cs)(o:Obj):Bx (w.alloc o) B t cs:=(Below.heap_alloc _ _ _ h.lt).trans h
theorem Bx.jf{S:Nat->Prop}{B:Nat}{t:TypeId}{cs:Array Value}{w w':World}(h:Bx w B t cs)(hb:fM S w w')(hn:¬S B):Bx w' B t cs:=h.same (hb.same _ h.lt hn)
theorem Bx.but{A B:Nat}{t:TypeId}{cs:Array Value}{w w':World}(h:Bx w B t cs)(hb:AX.But A w w')(hn:B≠A):Bx w' B t cs:=h.same (hb.same _ h.lt hn)
theorem Bx.set{w:World}{B:Nat}{t:TypeId}{cs:Array Value}(h:Bx w B t cs)(i:Nat)(v:Value):Bx (w.setCell ⟨B,i,none⟩ v) B t (cs.setIfInBounds i v):=by
 have h':w.heap[B]?=_:=h;simp[Bx,World.setCell,ahx,h']
theorem Bx.other{W:World}{B B' i:Nat}{t:TypeId}{cs:Array Value}{v:Value}(h:Bx W B t cs)(hne:B≠B'):Bx (W.setCell ⟨B',i,none⟩ v) B t cs:=h.same (Below.heap_setCell _ _ _ _ hne)
theorem Bx.three{w:World}{B:Nat}{t:TypeId}{v0 v1 v2:Value}(h:Bx w B t #[v0,v1,v2]):w.cell? ⟨B,0,none⟩=some v0/\w.cell? ⟨B,1,none⟩=some v1/\w.cell? ⟨B,2,none⟩=some v2:=⟨h.cell 0,h.cell 1,h.cell 2⟩
theorem qm{A n:Nat}{X Y:World}(h:AX.But A X Y)(hA:n<=A)(hn:n<=X.heap.size):Below n X Y:=(fM.wB (S:=(·=A)) h rfl).below hn (fun k e=>by omega)
theorem je:AX.sizeT Tryz.prog 205=some 3:=by kernel_rfl
theorem aey:AX.sizeT Tryz.prog 202=some 3:=by kernel_rfl
theorem ZE:AX.sizeT Tryz.prog 153=some 6:=by kernel_rfl
theorem sz4:AX.sizeT Tryz.prog 4=some 1:=by kernel_rfl
theorem aez:AX.sizeT Tryz.prog 203=some 1:=by kernel_rfl
theorem aeA:AX.sizeT Tryz.prog 200=some 1:=by kernel_rfl
def IL(w w':World)(n:Nat)(x:En)(e:Ending):Prop:=∃F cf L cl,e=.returned (.agg #[.bool x.e,.slice (some ⟨F,0,none⟩) n cf,.slice (some ⟨L,0,none⟩) n cl])/\w.heap.size<=F/\w.heap.size<=L/\F≠L/\aJ w' F x.f/\aJ w' L x.l
def AZ:AX.Plan:=.plain 0 (.plain 1 (.plain 2 (.plain 3 (.plain 4 (.plain 5 (.plain 6 (.plain 7 (.plain 9 (.plain 10 (.two 8 (.two 11 (.plain 12 (.one 13 (.one 14 (.nil)))) 13 (.one 11 (.plain 12 (.one 14 (.nil))))) 13 (.one 8 (.one 11 (.plain 12 (.one 14 (.nil)))))))))))))))
def pK:List AX.Inf:=[⟨0,16384,16,true⟩,⟨1,32768,16384,true⟩,⟨2,65536,32768,true⟩,⟨4,131072,65568,true⟩,⟨12,262144,196608,true⟩,⟨20,524288,327680,true⟩,⟨0,1048576,16,true⟩,⟨64,2097152,1048576,true⟩,⟨132,4194304,2097152,false⟩,⟨0,8388608,32,true⟩,⟨512,16777216,8388608,true⟩,⟨1280,33554432,16777216,false⟩,⟨2336,67108864,38273024,true⟩,⟨0,128,0,false⟩,⟨16383,0,67108992,false⟩]
theorem WX:AX.jO pK AZ 0 15=true:=by kernel_rfl
theorem acy(NB n M c:Nat)(bs:Nat->Nat)(rv ev:Value)(nx:List (List Bool))(a b:En)(Fa cfa La cla Fb cfb Lb clb:Nat)(hn1:1<=n)(hn:n<=1000000)(hM:M<=n)(hfa:a.f.length=n)(hla:a.l.length=n)(hfb:b.f.length=n)(hlb:b.l.length=n)
  (hlM:∀p,mem a.l p->p<M) (hap:∀i,i<M->bs i≠Fa/\bs i≠La/\bs i≠Fb/\bs i≠Lb) (w:World) (hN:NAt w NB n M bs nx) (hFa:aJ w Fa a.f) (hLa:aJ w La a.l) (hFb:aJ w Fb b.f) (hLb:aJ w Lb b.l):
  Calls Tryz.prog 140 #[.agg #[rv,ev,.slice (some ⟨NB,0,none⟩) n c],.agg #[.bool a.e,.slice (some ⟨Fa,0,none⟩) n cfa,.slice (some ⟨La,0,none⟩) n cla],.agg #[.bool b.e,.slice (some ⟨Fb,0,none⟩) n cfb,.slice (some ⟨Lb,0,none⟩) n clb]] w fun e w' =>
   IL w w' n (AA a b) e /\
   NAt w' NB n M bs (kS nx a.l b.f)/\fM (fun k=>∃i,i<M/\k=bs i) w w':=by
 have hFl:=hFa.lt;have hLl:=hLa.lt;have acK:=hFb.lt;have acL:=hLb.lt;have hNl:=hN.lt;have hbb:=fun i (hi:i<M)=>hN.blt hM hi;have hB0:Below w.heap.size w ((((w.alloc (.cells #[rv,ev,.slice (some ⟨NB,0,none⟩) n c] 202)).alloc (.cells #[.bool a.e,.slice (some ⟨Fa,0,none⟩) n cfa,.slice (some ⟨La,0,none⟩) n cla] 205)).alloc (.cells #[.bool b.e,.slice (some ⟨Fb,0,none⟩) n cfb,.slice (some ⟨Lb,0,none⟩) n clb] 205)).alloc (.cells #[.bool false,.slice none 0 0,.slice none 0 0] 205)):=
  ((((afI _ w).alloc afD _).alloc (by simp) _).alloc (by simp<;>omega) _).alloc (by simp<;>omega) _
 have x3:=(((Bx.new w 202 #[rv,ev,.slice (some ⟨NB,0,none⟩) n c]).alloc (.cells #[.bool a.e,.slice (some ⟨Fa,0,none⟩) n cfa,.slice (some ⟨La,0,none⟩) n cla] 205)).alloc (.cells #[.bool b.e,.slice (some ⟨Fb,0,none⟩) n cfb,.slice (some ⟨Lb,0,none⟩) n clb] 205)).alloc (.cells #[.bool false,.slice none 0 0,.slice none 0 0] 205);have x4:=((Bx.new (w.alloc (.cells #[rv,ev,.slice (some ⟨NB,0,none⟩) n c] 202)) 205 #[.bool a.e,.slice (some ⟨Fa,0,none⟩) n cfa,.slice (some ⟨La,0,none⟩) n cla]).alloc (.cells #[.bool b.e,.slice (some ⟨Fb,0,none⟩) n cfb,.slice (some ⟨Lb,0,none⟩) n clb] 205)).alloc (.cells #[.bool false,.slice none 0 0,.slice none 0 0] 205);have x5:=(Bx.new ((w.alloc (.cells #[rv,ev,.slice (some ⟨NB,0,none⟩) n c] 202)).alloc (.cells #[.bool a.e,.slice (some ⟨Fa,0,none⟩) n cfa,.slice (some ⟨La,0,none⟩) n cla] 205)) 205 #[.bool b.e,.slice (some ⟨Fb,0,none⟩) n cfb,.slice (some ⟨Lb,0,none⟩) n clb]).alloc (.cells #[.bool false,.slice none 0 0,.slice none 0 0] 205);have x6:=Bx.new (((w.alloc (.cells #[rv,ev,.slice (some ⟨NB,0,none⟩) n c] 202)).alloc (.cells #[.bool a.e,.slice (some ⟨Fa,0,none⟩) n cfa,.slice (some ⟨La,0,none⟩) n cla] 205)).alloc (.cells #[.bool b.e,.slice (some ⟨Fb,0,none⟩) n cfb,.slice (some ⟨Lb,0,none⟩) n clb] 205)) 205 #[.bool false,.slice none 0 0,.slice none 0 0];simp only[World.size_alloc]at x4 x5 x6;go_enter Tryz.func140,Tryz.ntmps140
 go_wp2_with fail
 generalize (((w.alloc (.cells #[rv,ev,.slice (some ⟨NB,0,none⟩) n c] 202)).alloc (.cells #[.bool a.e,.slice (some ⟨Fa,0,none⟩) n cfa,.slice (some ⟨La,0,none⟩) n cla] 205)).alloc (.cells #[.bool b.e,.slice (some ⟨Fb,0,none⟩) n cfb,.slice (some ⟨Lb,0,none⟩) n clb] 205)).alloc (.cells #[.bool false,.slice none 0 0,.slice none 0 0] 205)=W0 at *;have hN0:=hN.below hB0 hNl hbb;have acM:=hFa.below hB0 hFl;have ZU:=hLa.below hB0 hLl;have ZV:=hFb.below hB0 acK;have acN:=hLb.below hB0 acL;clear hFa hLa hFb hLb hN;have hfo:=IX NB La Fb n M c cla cfb bs rv ev nx a.l b.f hM hn hla hfb hlM (fun i hi=>(hap i hi).2.1) (fun i hi=>(hap i hi).2.2.1) W0 hN0 ZU ZV;go_wp2_with (go_at_call 141;refine hfo.mono ?_;rintro e W1 ⟨rfl,hN1,hbu⟩)
 have y3:=x3.jf hbu (by rintro⟨i,hi,e⟩;have:=hbb i hi;omega);have y4:=x4.jf hbu (by rintro⟨i,hi,e⟩;have:=hbb i hi;omega);have y5:=x5.jf hbu (by rintro⟨i,hi,e⟩;have:=hbb i hi;omega);have y6:=x6.jf hbu (by rintro⟨i,hi,e⟩;have:=hbb i hi;omega);have ZW:=acM.jf hbu (by rintro⟨i,hi,e⟩;exact(hap i hi).1 e.symm);have ZX:=ZU.jf hbu (by rintro⟨i,hi,e⟩;exact(hap i hi).2.1 e.symm);have ZY:=ZV.jf hbu (by rintro⟨i,hi,e⟩;exact(hap i hi).2.2.1 e.symm);have Z4:=acN.jf hbu (by rintro⟨i,hi,e⟩;exact(hap i hi).2.2.2 e.symm);have Gx:fM (fun k=>∃i,i<M/\k=bs i) w W1:=(fM.of_below hB0).trans hbu;have hs1:w.heap.size+4<=W1.heap.size:=by have:=y6.lt;omega
 clear x3 x4 x5 x6 acM ZU ZV acN hN0 hfo hB0 hbu;obtain⟨s,hs⟩:=afC w.heap.size;rw[<-hs]at y3 y4 y5 y6 hFl hLl acK acL hNl hbb hs1⊢;have HS:=Lib.hid hs;clear hs;have hbl:=fun i (hi:i<M)=>hN1.blt hM hi;go_cut [7]from 14 to 26 (fun t7 wz=>∃X F cf L cl:Nat,t7=.pointer (some ⟨X,0,none⟩)/\Bx wz X 205 #[.bool (a.e && b.e),.slice (some ⟨F,0,none⟩) n cf,.slice (some ⟨L,0,none⟩) n cl]/\aJ wz F a.f/\aJ wz L b.l/\W1.heap.size<=F/\W1.heap.size<=L/\W1.heap.size<=X/\F≠L/\X≠F/\X≠L/\Below W1.heap.size W1 wz)
 case first =>
  have c4:=fun p=>AX.aA y4.three.1 y4.lt p;have c4':=fun p=>AX.aA y4.three.2.1 y4.lt p;have c5:=fun p=>AX.aA y5.three.1 y5.lt p;have c5':=fun p=>AX.aA y5.three.2.2 y5.lt p;have acO:=fun W (hb:Below W1.heap.size W1 W)=>MO Fa n cfa a.f hfa hn1 hn W (ZW.below hb ZW.lt);have Z5:=fun W (hb:Below W1.heap.size W1 W)=>MO Lb n clb b.l hlb hn1 hn W (Z4.below hb Z4.lt);have hW:Below W1.heap.size W1 W1.drew:=(afI _ W1).drew;obtain⟨ae,af,al⟩:=a;obtain⟨be,bf,bl⟩:=b;dsimp only at *;clear y3 y4 y5 y6 hap hlM hbb hbl
  cases ae
  all_goals
   refine AX.gI (C:=fun W=>∃p:AX.BW W1,W=p.W) AZ pK (by kernel_rfl) (by kernel_rfl) (by kernel_rfl) WX (by intro c a d v w h;cases d<;>exact h) ⟨⟨W1.drew,hW⟩,rfl⟩ ?_;unfold AZ;generalize W1.drew=Wd at *
   repeat (refine AX.ay _ (by rfl) ?_;go_big_quiet_step (fail);refine afQ ?_)
   refine⟨?_,?_⟩
   ·refine AX.dA (acO _ hW) (by rfl) (by rfl) (by rfl) Tryz.func169 (by kernel_rfl) (by rfl) (by simp only[agh,agd,agm];rfl) ?_
    rintro e W2 ⟨⟨F,cf,rfl,gF,rF⟩,hb2⟩;have hW2:Below W1.heap.size W1 W2:=hW.trans (hb2.mono hW.size);have sF:=hW.size;refine⟨_,rfl,⟨⟨W2,hW2⟩,rfl⟩,?_⟩;simp only[Act.put,afH,afL,afM];refine⟨?_,?_⟩
    ·refine AX.dA (Z5 _ hW2) (by rfl) (by rfl) (by rfl) Tryz.func169 (by kernel_rfl) (by rfl) (by simp only[agh,agd,agm];rfl) ?_
     rintro e W3 ⟨⟨L,cl,rfl,gL,rL⟩,hb3⟩;have hW3:Below W1.heap.size W1 W3:=hW2.trans (hb3.mono hW2.size);have sL:=hW2.size;have qF:=rF.lt;replace rF:=rF.below hb3 rF.lt;refine⟨_,rfl,⟨⟨W3,hW3⟩,rfl⟩,?_⟩;simp only[Act.put,afH,afL,afM];refine AX.ay _ (by rfl) ?_;go_big_quiet_step (fail);refine afQ ?_;refine AX.au _ (by rfl) (by rfl) ?_;unfold Oper.wp;go_simp
     have rX:=Bx.new W3 205 #[.bool false,.slice none 0 0,.slice none 0 0];have hb4:Below W3.heap.size W3 (W3.alloc (.cells #[.bool false,.slice none 0 0,.slice none 0 0] 205)):=(afI _ _).alloc afD _;have hW4:Below W1.heap.size W1 (W3.alloc (.cells #[.bool false,.slice none 0 0,.slice none 0 0] 205)):=hW3.trans (hb4.mono hW3.size);have qF:=rF.lt;replace rF:=rF.below hb4 rF.lt;have qL:=rL.lt;replace rL:=rL.below hb4 rL.lt;have sX:=hW3.size;obtain⟨X,hX⟩:=afC W3.heap.size;generalize W3.alloc (.cells #[.bool false,.slice none 0 0,.slice none 0 0] 205)=W4 at *;rw[<-hX]at rX⊢;refine⟨⟨⟨W4,hW4⟩,rfl⟩,?_⟩;refine AX.au _ (by rfl) (by rfl) ?_;refine AX.aG (vs:=[.bool _,.slice (some ⟨F,0,none⟩) n cf,.slice (some ⟨L,0,none⟩) n cl]) rfl rfl je rX rfl rfl ?_;rintro W9 h3 h4 h5;have qF:=rF.lt;have qL:=rL.lt;have hW9:Below W1.heap.size W1 W9:=hW4.trans (AX.ah (show W1.heap.size<=X by omega) (.inl (afF.1 h3).1) h4 h5);refine⟨⟨⟨W9,hW9⟩,rfl⟩,?_⟩;unfold AX.aQ;go_wp2_with fail
     go_meet
     case rel=>exact⟨X,F,cf,L,cl,rfl,h3,rF.same (h4 _ (by omega)),rL.same (h4 _ (by omega)),by omega,by omega,by omega,by omega,by omega,by omega,hW9⟩
    ·refine AX.au _ (by rfl) (by rfl) ?_
     unfold Oper.wp;go_simp
     have rX:=Bx.new W2 205 #[.bool false,.slice none 0 0,.slice none 0 0];have hb3:Below W2.heap.size W2 (W2.alloc (.cells #[.bool false,.slice none 0 0,.slice none 0 0] 205)):=(afI _ _).alloc afD _;have hW3:Below W1.heap.size W1 (W2.alloc (.cells #[.bool false,.slice none 0 0,.slice none 0 0] 205)):=hW2.trans (hb3.mono hW2.size);have qF:=rF.lt;replace rF:=rF.below hb3 rF.lt;have sX:=hW2.size;obtain⟨X,hX⟩:=afC W2.heap.size;generalize W2.alloc (.cells #[.bool false,.slice none 0 0,.slice none 0 0] 205)=W3 at *;rw[<-hX]at rX⊢;refine⟨⟨⟨W3,hW3⟩,rfl⟩,?_⟩;refine AX.dA (Z5 _ hW3) (by rfl) (by rfl) (by rfl) Tryz.func169 (by kernel_rfl) (by rfl) (by simp only[agh,agd,agm];rfl) ?_;rintro e W4 ⟨⟨L,cl,rfl,gL,rL⟩,hb4⟩;have hW4:Below W1.heap.size W1 W4:=hW3.trans (hb4.mono hW3.size);have sL:=hW3.size;have qF:=rF.lt;replace rF:=rF.below hb4 rF.lt;have qX:=rX.lt;replace rX:=rX.below hb4 rX.lt;refine⟨_,rfl,⟨⟨W4,hW4⟩,rfl⟩,?_⟩;simp only[Act.put,afH,afL,afM];refine AX.ay _ (by rfl) ?_;go_big_quiet_step (fail);refine afQ ?_;refine AX.au _ (by rfl) (by rfl) ?_;refine AX.aG (vs:=[.bool _,.slice (some ⟨F,0,none⟩) n cf,.slice (some ⟨L,0,none⟩) n cl]) rfl rfl je rX rfl rfl ?_;rintro W9 h3 h4 h5;have qF:=rF.lt;have qL:=rL.lt;have hW9:Below W1.heap.size W1 W9:=hW4.trans (AX.ah (show W1.heap.size<=X by omega) (.inl (afF.1 h3).1) h4 h5);refine⟨⟨⟨W9,hW9⟩,rfl⟩,?_⟩;unfold AX.aQ;go_wp2_with fail
     go_meet
     case rel=>exact⟨X,F,cf,L,cl,rfl,h3,rF.same (h4 _ (by omega)),rL.same (h4 _ (by omega)),by omega,by omega,by omega,by omega,by omega,by omega,hW9⟩
   ·refine AX.au _ (by rfl) (by rfl) ?_
    unfold Oper.wp;go_simp
    have rX:=Bx.new Wd 205 #[.bool false,.slice none 0 0,.slice none 0 0];have hb2:Below Wd.heap.size Wd (Wd.alloc (.cells #[.bool false,.slice none 0 0,.slice none 0 0] 205)):=(afI _ _).alloc afD _;have hW2:Below W1.heap.size W1 (Wd.alloc (.cells #[.bool false,.slice none 0 0,.slice none 0 0] 205)):=hW.trans (hb2.mono hW.size);have sX:=hW.size;obtain⟨X,hX⟩:=afC Wd.heap.size;generalize Wd.alloc (.cells #[.bool false,.slice none 0 0,.slice none 0 0] 205)=W2 at *;rw[<-hX]at rX⊢;refine⟨⟨⟨W2,hW2⟩,rfl⟩,?_⟩;refine AX.dA (acO _ hW2) (by rfl) (by rfl) (by rfl) Tryz.func169 (by kernel_rfl) (by rfl) (by simp only[agh,agd,agm];rfl) ?_;rintro e W3 ⟨⟨F,cf,rfl,gF,rF⟩,hb3⟩;have hW3:Below W1.heap.size W1 W3:=hW2.trans (hb3.mono hW2.size);have sF:=hW2.size;have qX:=rX.lt;replace rX:=rX.below hb3 rX.lt;refine⟨_,rfl,⟨⟨W3,hW3⟩,rfl⟩,?_⟩;simp only[Act.put,afH,afL,afM];refine AX.dA (Z5 _ hW3) (by rfl) (by rfl) (by rfl) Tryz.func169 (by kernel_rfl) (by rfl) (by simp only[agh,agd,agm];rfl) ?_;rintro e W4 ⟨⟨L,cl,rfl,gL,rL⟩,hb4⟩;have hW4:Below W1.heap.size W1 W4:=hW3.trans (hb4.mono hW3.size);have sL:=hW3.size;have qX:=rX.lt;replace rX:=rX.below hb4 rX.lt;have qF:=rF.lt;replace rF:=rF.below hb4 rF.lt;refine⟨_,rfl,⟨⟨W4,hW4⟩,rfl⟩,?_⟩;simp only[Act.put,afH,afL,afM];refine AX.ay _ (by rfl) ?_;go_big_quiet_step (fail);refine afQ ?_;refine AX.au _ (by rfl) (by rfl) ?_;refine AX.aG (vs:=[.bool _,.slice (some ⟨F,0,none⟩) n cf,.slice (some ⟨L,0,none⟩) n cl]) rfl rfl je rX rfl rfl ?_;rintro W9 h3 h4 h5;have qF:=rF.lt;have qL:=rL.lt;have hW9:Below W1.heap.size W1 W9:=hW4.trans (AX.ah (show W1.heap.size<=X by omega) (.inl (afF.1 h3).1) h4 h5);refine⟨⟨⟨W9,hW9⟩,rfl⟩,?_⟩;unfold AX.aQ;go_wp2_with fail
    go_meet
    case rel=>exact⟨X,F,cf,L,cl,rfl,h3,rF.same (h4 _ (by omega)),rL.same (h4 _ (by omega)),by omega,by omega,by omega,by omega,by omega,by omega,hW9⟩
 case rest =>
  obtain⟨X,F,cf,L,cl,rfl,hX,hF,hL,hgF,hgL,hgX,hFL,hXF,hXL,hz⟩:=hcut;have z4:=y4.below hz y4.lt;have z5:=y5.below hz y5.lt;have z6:=y6.below hz y6.lt;have Z7:=ZX.below hz ZX.lt;have aeI:=ZY.below hz ZY.lt;have hz2:Below s W1 wc:=hz.mono (by omega);clear y3 y4 y5 y6 ZW ZX ZY Z4 hz;have ZG:=fun W (h1:aJ W F a.f) (h2:aJ W Fb b.f)=>OY F Fb cf cfb n a.f b.f (by omega) hfa hfb hn W h1 h2;have hor2:=fun W (h1:aJ W L b.l) (h2:aJ W La a.l)=>OY L La cl cla n b.l a.l (by omega) hlb hla hn W h1 h2;obtain⟨f0,f1,f2⟩:=z4.three;obtain⟨g0,g1,g2⟩:=z5.three;obtain⟨ae,af,al⟩:=a;obtain⟨be,bf,bl⟩:=b;dsimp only[AA]at *;obtain⟨x0,x1,x2⟩:=hX.three;have HE:Hid (∀W,Below s W1 W->NAt W NB n M bs (kS nx al bf)/\fM (fun k=>∃i,i<M/\k=bs i) w W):=Lib.hid fun W h=>⟨hN1.below h hNl hbb,⟨Gx.low.trans (h.mono (af0 _)),fun k hk hn=>(h.block k (by rw[HS.out];exact hk)).trans (Gx.same k hk hn)⟩⟩;have HG:Hid (w.heap.size<=F/\w.heap.size<=L):=Lib.hid (by have:=HS.out;omega)
  cases ae<;>cases be
  all_goals
   go_wp2_with (first
    | (go_at_call 126;(with_reducible refine (ZG _ hF aeI).mono ?_);rintro e W2 ⟨rfl,hF2,hbF⟩;have hz2:=hz2.trans (qm hbF (by omega) (by have:=hz2.size;omega));have z4:=z4.but hbF (by omega);have z5:=z5.but hbF (by omega);have z6:=z6.but hbF (by omega);have hX:=hX.but hbF (by omega);have hF:=hF2;have hL:=hL.but hbF (by omega);have Z7:=Z7.but hbF (by omega);obtain⟨x0,x1,x2⟩:=hX.three;obtain⟨f0,f1,f2⟩:=z4.three;obtain⟨g0,g1,g2⟩:=z5.three)
    | (go_at_call 126;(with_reducible refine(hor2 _ hL Z7).mono ?_);rintro e W2 ⟨rfl,hL2,hbL⟩;have hz2:=hz2.trans (qm hbL (by omega) (by have:=hz2.size;omega));have z4:=z4.but hbL (by omega);have z5:=z5.but hbL (by omega);have z6:=z6.but hbL (by omega);have hX:=hX.but hbL (by omega);have hL:=hL2;have hF:=hF.but hbL (by omega);obtain⟨x0,x1,x2⟩:=hX.three;obtain⟨f0,f1,f2⟩:=z4.three;obtain⟨g0,g1,g2⟩:=z5.three)
    | ((with_reducible refine bK ?_);refine AX.aj (vs:=[.bool _,.slice (some ⟨F,0,none⟩) n cf,.slice (some ⟨L,0,none⟩) n cl]) rfl rfl je z6 rfl rfl ?_;rintro W9 h3 h4 h5;have hz9:=HE.out _ (hz2.trans (AX.ah (show s<=s+1+1+1 by omega) (.inl (afF.1 h3).1) h4 h5));have hF9:=hF.same (h4 _ (by omega));have hL9:=hL.same (h4 _ (by omega));obtain⟨d0,d1,d2⟩:=Bx.three h3))
   refine afJ (v:=.agg #[_,.slice (some ⟨F,0,none⟩) n cf,.slice (some ⟨L,0,none⟩) n cl]) (by simp[results,Tryz.results140,go_sem,d0,d1,d2];rfl) rfl ⟨⟨F,cf,L,cl,rfl,HG.out.1,HG.out.2,hFL,hF9,hL9⟩,hz9.1,hz9.2⟩
structure rY(n M:Nat)(x:En):Prop where
 lf:x.f.length=n
 ll:x.l.length=n
 lm:∀p,mem x.l p->p<M
theorem WJ{n M:Nat}{a b:En}(ha:rY n M a)(hb:rY n M b):rY n M (AA a b):=by
 refine⟨?_,?_,?_⟩
 ·show(if a.e=true then orS a.f b.f else a.f).length=n
  split
  ·rw[iY (by rw[ha.lf,hb.lf]),ha.lf]
  ·exact ha.lf
 ·show(if b.e=true then orS b.l a.l else b.l).length=n
  split
  ·rw[iY (by rw[ha.ll,hb.ll]),hb.ll]
  ·exact hb.ll
 ·intro p hp
  change mem (if b.e=true then orS b.l a.l else b.l) p at hp;split at hp
  ·rw[jZ (by rw[ha.ll,hb.ll])]at hp
   exact hp.elim (hb.lm p) (ha.lm p)
  ·exact hb.lm p hp
theorem MK{n M:Nat}{a b:En}(ha:rY n M a)(hb:rY n M b):rY n M (Kz a b):=
 ⟨by show(orS a.f b.f).length=n;rw[iY (by rw[ha.lf,hb.lf]),ha.lf],by show(orS a.l b.l).length=n;rw[iY (by rw[ha.ll,hb.ll]),ha.ll],fun p hp=>by
  change mem (orS a.l b.l) p at hp;rw[jZ (by rw[ha.ll,hb.ll])]at hp;exact hp.elim (ha.lm p) (hb.lm p)⟩
theorem MJ(n M:Nat)(e:Bool):rY n M ⟨e,zeros n,zeros n⟩:=⟨by simp[zeros],by simp[zeros],fun p hp=>(iJ n p hp).elim⟩
def EAt(W:World)(ev:Value)(n M:Nat)(bs:Nat->Nat)(es:List En):Prop:=∃(la:Option Addr)(c:Nat),ev=.slice la es.length c/\∀j x,es[j]?=some x->∃B off F cf L cl,la=some ⟨B,off,none⟩/\B<W.heap.size/\(∀i,i<M->bs i≠B) /\
 (W.cell? ⟨B,off+j*3,none⟩=some (.bool x.e)/\W.cell? ⟨B,off+j*3+1,none⟩=some (.slice (some ⟨F,0,none⟩) n cf)/\W.cell? ⟨B,off+j*3+2,none⟩=some (.slice (some ⟨L,0,none⟩) n cl))/\aJ W F x.f/\aJ W L x.l/\(∀i,i<M->bs i≠F/\bs i≠L)
theorem bZ{W W':World}{B o:Nat}(h:W'.heap[B]?=W.heap[B]?):W'.cell? ⟨B,o,none⟩=W.cell? ⟨B,o,none⟩:=by simp[World.cell?,h]
theorem EAt.jf{W W':World}{ev:Value}{n M:Nat}{bs:Nat->Nat}{es:List En}(h:EAt W ev n M bs es)(hb:fM (fun k=>∃i,i<M/\k=bs i) W W'):EAt W' ev n M bs es:=by
 obtain⟨la,c,e,h⟩:=h;refine⟨la,c,e,fun j x hj=>?_⟩;obtain⟨B,off,F,cf,L,cl,h1,h2,h3,⟨h4,h5,h6⟩,h7,h8,h9⟩:=h j x hj;have e1:=hb.same B h2 (by rintro⟨i,hi,e⟩;exact h3 i hi e.symm);exact⟨B,off,F,cf,L,cl,h1,afN h2 hb.low.size,h3,⟨(bZ e1).trans h4,(bZ e1).trans h5,(bZ e1).trans h6⟩,h7.jf hb (by rintro⟨i,hi,e⟩;exact(h9 i hi).1 e.symm),h8.jf hb (by rintro⟨i,hi,e⟩;exact(h9 i hi).2 e.symm),h9⟩
theorem bH(n:Nat)(hn:n<=1000)(w:World):∃W0,(Instr.makeSlice 203 (.int .i64 n) (.int .i64 n)).run Tryz.prog w=.ok (.slice (some ⟨w.heap.size,0,none⟩) n n) W0/\aJ W0 w.heap.size (zeros n)/\Below w.heap.size w W0/\W0.heap.size=w.heap.size+1:=by
 obtain⟨ti,hi,hz0,hz1,hz2⟩:=info_parts Un;have h:=run_makeSlice (P:=Tryz.prog) (w:=w) 203 4 ti (.bool false) Tryz.underlying203 hi hz0 .i64 .i64 (n:Int) (n:Int) (by omega) (ah0 _) (by rw[hz1];simp;omega) (by rw[hz2];omega) (by omega);refine⟨_,by rw[afY]at h;exact h,⟨_,World.alloc_heap_new w _,fun i b hb=>?_⟩,(afI _ w).alloc afD _,by simp⟩;have hi':=lt_of_some hb;rw[zeros,List.length_replicate]at hi'
 show(madeCells #[Value.bool false] (n*ti.size))[i]?=_
 rw[hz1,ah5];have:=IY (.bool false) n i hi';rw[zeros,ahI,afR hi']at hb;rw[<-agc hb];exact this
theorem aK{Q:Exit->Act->World->Prop}{K:Act->World->Prop}{a:Act}{w w':World}{d:Option Tmp}{t:TypeId}{x y:Operand}{ty:TypeId}{pos:String}{after:Array Edge}{g:Option (Nat×Bool)}{v1 v2 v:Value}(h1:a.eval x=v1)(h2:a.eval y=v2)(h:(Instr.makeSlice t v1 v2).run Tryz.prog w=.ok v w')(hK:K (a.put d v) w'):
  Oper.wp Tryz.prog {dst:=d,op:=.makeSlice t x y,type:=ty,pos:=pos,after:=after,guard:=g} a w K Q:=by
 unfold Oper.wp;simp only[execOp,h1,h2];rw[show(do let x <-Instr.makeSlice t v1 v2;pure (Next.value x):Sem Next).run Tryz.prog w=.ok (.value v) w' by simp[h]];exact hK
structure Nst(w0 w W:World)(s NB n i c cr B off:Nat)(bs:Nat->Nat)(ev kv:Value)(x:Nd)(nx:List (List Bool)):Prop where
 b2:Bx W s 202 #[.slice (some ⟨B,off,none⟩) n cr,ev,.slice (some ⟨NB,0,none⟩) n c]
 b4:Bx W (s+1) 205 #[.bool false,.slice none 0 0,.slice none 0 0]
 b5:Bx W (s+1+1) 153 #[.int .i64 x.k,.int .u64 x.a,.int .u64 x.b,.int .u64 x.c,.int .u64 x.d,kv]
 nat:NAt W NB n (i+1) bs nx
 but:fM (fun k=>∃j,j<i+1/\k=bs j) w W
 low:Below w0.heap.size w0 W
theorem Nst.step{w0 w W W':World}{s NB n i c cr B off:Nat}{bs:Nat->Nat}{ev kv:Value}{x:Nd}{nx nx':List (List Bool)}(h:Nst w0 w W s NB n i c cr B off bs ev kv x nx)(hbb:∀j,j<i+1->bs j<s)(hbs:∀j,j<i+1->w0.heap.size<=bs j)
  (hb:fM (fun k=>∃j,j<i+1/\k=bs j) W W') (hN:NAt W' NB n (i+1) bs nx'):Nst w0 w W' s NB n i c cr B off bs ev kv x nx':=
 ⟨h.b2.jf hb (by rintro⟨j,hj,e⟩;have:=hbb j hj;omega),h.b4.jf hb (by rintro⟨j,hj,e⟩;have:=hbb j hj;omega),h.b5.jf hb (by rintro⟨j,hj,e⟩;have:=hbb j hj;omega),hN,h.but.trans hb,h.low.trans (hb.below h.low.size (by rintro k ⟨j,hj,rfl⟩;exact hbs j hj))⟩
theorem Nst.turn{w0 w W W':World}{s NB n i c cr B off X:Nat}{bs:Nat->Nat}{ev kv:Value}{x:Nd}{nx:List (List Bool)}(h:Nst w0 w W s NB n i c cr B off bs ev kv x nx)(hbb:∀j,j<i+1->bs j<s)(hNB:NB<s)(hs:w.heap.size<=s)(hw:w0.heap.size<=s)
    (hX:s+1+1<X) (hl:X<W'.heap.size) (h4:∀k,k≠X->W'.heap[k]?=W.heap[k]?) (h5:AX.Same W W'):Nst w0 w W' s NB n i c cr B off bs ev kv x nx:=
  ⟨(h4 _ (by omega)).trans h.b2,(h4 _ (by omega)).trans h.b4,(h4 _ (by omega)).trans h.b5,h.nat.same (h4 _ (by omega)) (fun j hj=>h4 _ (by have:=hbb j hj;omega)),
   ⟨h.but.low.trans (AX.ah (af0 _) (.inl hl) h4 h5),fun k hk hn=>(h4 k (by omega)).trans (h.but.same k hk hn)⟩,h.low.trans (AX.ah (by omega) (.inl hl) h4 h5)⟩
theorem Nst.lift{w0 w W W':World}{s NB n i c cr B off:Nat}{bs:Nat->Nat}{ev kv:Value}{x:Nd}{nx:List (List Bool)}(h:Nst w0 w W s NB n i c cr B off bs ev kv x nx)(hbb:∀j,j<i+1->bs j<s)(hNB:NB<s)(hs:w.heap.size<=s)(hw:w0.heap.size<=s)(hb:Below (s+3) W W'):Nst w0 w W' s NB n i c cr B off bs ev kv x nx:=
  ⟨h.b2.below hb (by omega),h.b4.below hb (by omega),h.b5.below hb (by omega),h.nat.below hb (by omega) (fun j hj=>by have:=hbb j hj;omega),
   ⟨h.but.low.trans (hb.mono (af0 _)),fun k hk hn=>(hb.block k (by omega)).trans (h.but.same k hk hn)⟩,h.low.trans (hb.mono (by omega))⟩
def mO:AX.Plan:=.plain 0 (.plain 1 (.plain 2 (.plain 3 (.plain 4 (.plain 5 (.plain 6 (.plain 7 (.plain 8 (.plain 9 (.plain 10 (.plain 12 (.plain 13 (.plain 14 (.three 11 (.two 15 (.plain 16 (.one 17 (.one 18 (.nil)))) 17 (.one 15 (.plain 16 (.one 18 (.nil))))) 15 (.two 11 (.plain 16 (.one 17 (.one 18 (.nil)))) 17 (.one 11 (.plain 16 (.one 18 (.nil))))) 17 (.two 11 (.one 15 (.plain 16 (.one 18 (.nil)))) 15 (.one 11 (.plain 16 (.one 18 (.nil)))))))))))))))))))
end Go.Proofs.YtkjgogdkdejljaaGreatDoor.Rx
