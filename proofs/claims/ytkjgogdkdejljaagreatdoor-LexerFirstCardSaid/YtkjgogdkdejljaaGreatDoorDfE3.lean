import Derived.Test.YtkjgogdkdejljaaGreatDoorDfE4
set_option maxRecDepth 100000
set_option maxHeartbeats 40000000
namespace Go.Proofs.YtkjgogdkdejljaaGreatDoor.Df
section
open Go Go.Proofs Go.RowKit
def dQ:Nat->List ByteArray->List MapEntry
 | _,[]=>[]
 | o,k::T=>{key:=.string k,val:=.bool true,born:=o}::dQ (o+1) T
theorem zn:∀(o:Nat)(T:List ByteArray)(k:ByteArray),dQ o (T++[k])=dQ o T++[{key:=.string k,val:=.bool true,born:=o+T.length}]
 | o,[],k=>by simp[dQ]
 | o,u::T,k=>by
  show _::dQ (o+1) (T++[k])=_::(dQ (o+1) T++_)
  rw[zn (o+1) T k,agl,show o+1+T.length=o+(T.length+1)by omega]
theorem CS{o:Nat}{T:List ByteArray}{e:MapEntry}(h:e∈dQ o T):∃k∈T,e.key=.string k/\e.val=.bool true:=by
 induction T generalizing o with
 | nil=>cases h
 | cons u T ih =>
  rcases afX.1 h with rfl|h
  ·exact⟨u,afS ..,rfl,rfl⟩
  ·obtain⟨k,h1,h2⟩:=ih h
   exact⟨k,afV _ h1,h2⟩
theorem Qs{o:Nat}{T:List ByteArray}{k:ByteArray}(h:k∈T):∃e∈dQ o T,e.key=.string k:=by
 induction T generalizing o with
 | nil=>cases h
 | cons u T ih =>
  rcases afX.1 h with rfl|h
  ·exact⟨_,afS ..,rfl⟩
  ·obtain⟨e,h1,h2⟩:=ih (o:=o+1) h
   exact⟨e,afV _ h1,h2⟩
theorem Xk{W:World}{T:List ByteArray}{k:ByteArray}: (k∈T/\∃j,(Instr.findKey 9 (.string k) (dQ 0 T)).run Tryz.prog W=.ok (some (j,.bool true)) W)\/(k∉T/\(Instr.findKey 9 (.string k) (dQ 0 T)).run Tryz.prog W=.ok none W):=by
 have hd:Tryz.prog.underlying 9=some .string:=Tryz.underlying9;have hkk:MapKept.IsKey .string (Value.string k):=trivial;have hks:∀x∈dQ 0 T,MapKept.IsKey .string x.key:=fun x hx=>by
  obtain⟨u,_,e,_⟩:=CS hx;rw[e]
  trivial
 rcases MapKept.findNow_spec hkk (dQ 0 T) 0 hks with ⟨h1,h2⟩|⟨j,e,h1,h2,h3⟩
 ·refine .inr ⟨fun h=>?_,MapKept.run_findKey hd h1⟩
  obtain⟨e,he,h3⟩:=Qs (o:=0) h;exact h2 e he h3
 ·obtain⟨u,h4,h5,h6⟩:=CS (af7 h2)
  have hu:u=k:=by
   have:=h5.symm.trans h3;exact Value.string.inj this
  subst hu;have:=MapKept.run_findKey hd h1 (w:=W);rw[h6]at this;exact .inl ⟨h4,0+j,this⟩
theorem aaJ{W:World}{r c:Nat}{T:List ByteArray}{k:ByteArray}(hb:W.heap[r]?=some (.map (dQ 0 T).toArray c)):
  (Instr.lookup 67 (.map (some r)) (.string k) false).run Tryz.prog W=.ok (.bool (inN T k)) W:=by
 have hm:Tryz.prog.underlying 67=some (.map 9 4):=Tryz.underlying67;have hd:Tryz.prog.underlying 9=some .string:=Tryz.underlying9;have hc:(Instr.checkKey (dQ 0 T).toArray.isEmpty 10000 9 (.string k)).run Tryz.prog W=.ok () W:=MapKept.run_checkKey hd (k:=.string k) trivial _ 9999;have hz:=Tryz.zeroValue4;rcases Xk (W:=W) (T:=T) (k:=k)with ⟨h1,j,hf⟩|⟨h1,hf⟩
 ·rw[Eo.2 h1]
  simp only[Instr.lookup,Sem.run_bind,run_underlying hm,Result.andThen_ok,MapKept.run_getObj_map hb,Sem.run_pure,hc,hf];rfl
 ·rw[show inN T k=false from agU.2 fun h=>h1 (Eo.1 h)]
  simp only[Instr.lookup,Sem.run_bind,run_underlying hm,Result.andThen_ok,MapKept.run_getObj_map hb,Sem.run_pure,hc,hf,hz];rfl
theorem updB{W:World}{r:Nat}{T:List ByteArray}{k:ByteArray}(hb:W.heap[r]?=some (.map (dQ 0 T).toArray T.length))(hno:k∉T):
  ∃W',(Instr.mapUpdate 67 (.map (some r)) (.string k) (.bool true)).run Tryz.prog W=.ok () W'/\W'.heap[r]?=some (.map (dQ 0 (T++[k])).toArray (T++[k]).length)/\AX.But r W W':=by
 have hm:Tryz.prog.underlying 67=some (.map 9 4):=Tryz.underlying67;have hd:Tryz.prog.underlying 9=some .string:=Tryz.underlying9;have hf:(Instr.findKey 9 (.string k) (dQ 0 T)).run Tryz.prog W=.ok none W:=by
  rcases Xk (W:=W) (T:=T) (k:=k)with ⟨h1,_⟩|⟨_,hf⟩
  ·exact absurd h1 hno
  ·exact hf
 have hc:(Instr.checkKey false 10000 9 (.string k)).run Tryz.prog W=.ok () W:=MapKept.run_checkKey hd (k:=.string k) trivial _ 9999;have hx:((dQ 0 T).toArray.push {key:=.string k,val:=.bool true,born:=T.length})=(dQ 0 (T++[k])).toArray:=by
  rw[zn,af9];simp
 refine⟨{W with heap:=W.heap.setIfInBounds r (.map ((dQ 0 T).toArray.push {key:=.string k,val:=.bool true,born:=T.length}) (T.length+1))},?_,?_,⟨⟨rfl,rfl,rfl,by simp,fun j hj=>absurd hj (agp _)⟩,fun j hj hne=>(MapKept.heap_set hb).2 j hne⟩⟩
 ·simp only[Instr.mapUpdate,Sem.run_bind,run_underlying hm,Result.andThen_ok,MapKept.run_getObj_map hb,hc,hf,MapKept.run_setObj_map _ hb]
 ·rw[<-hx,afP]
  exact (MapKept.heap_set hb).1
section
variable {ops : Array Oper} {rest : List Oper} {a : Act} {w : World} {Q : Exit -> Act -> World -> Prop} {dst : Option Tmp} {ty : TypeId} {pos : String} {after : Array Edge} {xm xk xv : Operand}
theorem Qv(h:wpList Tryz.prog ops Q ({dst:=dst,op:=.lookup 67 xm xk false,type:=ty,pos:=pos,after:=after,guard:=none}::rest) a w):wpList Tryz.prog ops Q ({dst:=dst,op:=.lookup 67 xm xk false,type:=ty,pos:=pos,after:=after,guard:=none}::rest) a w:=h
theorem qE{r c:Nat}{T:List ByteArray}{k:ByteArray}(hm:a.eval xm=.map (some r))(hk:a.eval xk=.string k)(hb:w.heap[r]?=some (.map (dQ 0 T).toArray c))(h:wpList Tryz.prog ops Q rest (a.put dst (.bool (inN T k))) w):wpList Tryz.prog ops Q ({dst:=dst,op:=.lookup 67 xm xk false,type:=ty,pos:=pos,after:=after,guard:=none}::rest) a w:=by
 refine Go.Great.wpList_readTo rfl dst rfl _ ?_ h;unfold execOp;simp only[hm,hk];simp[aaJ hb]
theorem Yn(h:wpList Tryz.prog ops Q ({dst:=none,op:=.mapUpdate 67 xm xk xv,type:=ty,pos:=pos,after:=after,guard:=none}::rest) a w):wpList Tryz.prog ops Q ({dst:=none,op:=.mapUpdate 67 xm xk xv,type:=ty,pos:=pos,after:=after,guard:=none}::rest) a w:=h
theorem Ep{r:Nat}{T:List ByteArray}{k:ByteArray}(hm:a.eval xm=.map (some r))(hk:a.eval xk=.string k)(hv:a.eval xv=.bool true)(hb:w.heap[r]?=some (.map (dQ 0 T).toArray T.length))(hno:k∉T)
  (h:∀W',W'.heap[r]?=some (.map (dQ 0 (T++[k])).toArray (T++[k]).length)->AX.But r w W'->wpList Tryz.prog ops Q rest a W'):wpList Tryz.prog ops Q ({dst:=none,op:=.mapUpdate 67 xm xk xv,type:=ty,pos:=pos,after:=after,guard:=none}::rest) a w:=by
 obtain⟨W',hr,h1,h2⟩:=updB hb hno;refine wpList_plain rfl fun K hK=>?_;have hx:(execOp a.eval {dst:=none,op:=.mapUpdate 67 xm xk xv,type:=ty,pos:=pos,after:=after,guard:=none}).run Tryz.prog w=.ok .skip W':=by
  simp only[execOp,hm,hk,hv,Sem.run_bind,hr];rfl
 unfold Oper.wp;rw[hx];exact hK _ _ (h _ h1 h2)
end
end
section
open Go.Lib (hid)
open Go Go.Proofs Go.RowKit
open Rx (Nd dL iM jB mV vI)
attribute [local go_sem] Oper.semAt_some
theorem Yo(r:List Nd)(ok:dL r)(wd:∀y∈r,y.Wd)(v:Value)(w:World)(hR:jB w v r):Calls Tryz.prog 54 #[v] w fun e w'=>e=.returned (.bool (Rx.gY r []))/\Below w.heap.size w w':=by
 have hm:=Rx.ND r v {data:=#[]} (by have:=ok.most;omega) wd (by decide) w hR;have he:Hid (mV r {data:=#[]}=Rx.gY r []):=hid (by unfold mV;rw[afR ok];rfl);rw[he.out]at hm;generalize Rx.gY r []=b at hm he⊢;clear he;go_enter Tryz.func54,Tryz.ntmps54
 go_wp2_with (go_at_call 93;(with_reducible refine hm.mono ?_);rintro e W1 ⟨rfl,hb1⟩)
 exact afJ (v:=.bool b) (by simp[results,Tryz.results54,go_sem]) rfl ⟨rfl,hb1⟩
theorem adk:AX.sizeT Tryz.prog 35=some 3:=by kernel_rfl
def Gt(names:List ByteArray)(x:Rl)(M:Nat)(w:World)(e:Ending)(w':World):Prop:=
 ∃v,e=.returned (.tuple #[v,.int .i64 (jh names x).2])/\v.oneCell'=true/\AX.But M w w'/\((jh names x).2=0->vI w.heap.size w' v (jh names x).1/\dL (jh names x).1/\(∀y∈(jh names x).1,y.Wd)/\w'.heap[M]?=some (.map (dQ 0 (names++[x.nm])).toArray (names++[x.nm]).length))
theorem Yp(names:List ByteArray)(x:Rl)(hre:x.re.size<=254)(M:Nat)(w:World)(hm:w.heap[M]?=some (.map (dQ 0 names).toArray names.length)):
  Calls Tryz.prog 29 #[.agg #[.string x.nm,.string x.re,.bool x.tr],.map (some M)] w (Gt names x M w):=by
 obtain⟨nm,re,tr⟩:=x;simp only at hre;have Gn:M<w.heap.size:=(afF.1 hm).1;have hbx:=Bx.new w 35 #[.string nm,.string re,.bool tr];have hb0:=(afI w.heap.size w).alloc afD (.cells #[.string nm,.string re,.bool tr] 35);obtain⟨X,hX⟩:=afC w.heap.size;obtain⟨W0,hW0⟩:=afC (w.alloc (.cells #[.string nm,.string re,.bool tr] 35));rw[<-hW0]at hbx hb0;have hm0:=(hb0.block M Gn).trans hm;have hrd:=fun W=>adi re hre W;have hMX:M<X:=by omega
 rw[<-hX]at hbx;have c0:W0.cell? ⟨X,0,none⟩=some (.string nm):=hbx.cell 0;have HBX:=hid hbx;have HB0:=hid hb0;have HM0:=hid hm0;have HX:=hid hX;clear hbx hb0 hm0 hm Gn;obtain⟨pr,hpr⟩:=afC (jh names ⟨nm,re,tr⟩);have hty:nm.toList.isEmpty=decide (nm.size=0):=by
  rw[ByteArray.toList_eq,aif,List.isEmpty_iff,afZ,<-ByteArray.size_data,<-ahY,ag2]
 by_cases hz:nm.size=0
 ·have hp:pr=([],2):=by rw[hpr];exact afR hz
  rw[agL hz]at hty;have HP:=hid hp;rw[hpr]at hp;have HPR:=hid hp;clear hp hpr hz;go_enter Tryz.func29,Tryz.ntmps29
  go_upto_region 1 with fail
  rw[<-hW0,<-hX];clear hX hW0;go_wp2_with fail
  exact afJ (v:=.tuple #[.slice none 0 0,.int .i64 2]) (by simp[results,Tryz.results29,go_sem]) rfl ⟨.slice none 0 0,by rw[HPR.out],rfl,AX.But.of_below HB0.out,fun h=>by rw[HPR.out]at h;cases h⟩
 rw[agC hz]at hty
 by_cases hin:inN names nm=true
 ·have hp:pr=([],6):=by rw[hpr];unfold jh;rw[afO hz,afR hin]
  rw[hpr]at hp;have HPR:=hid hp;clear hp hpr hz;go_enter Tryz.func29,Tryz.ntmps29
  go_upto_region 1 with fail
  rw[<-hW0,<-hX];clear hX hW0;go_wp2_with ((with_reducible refine Qv ?_);refine qE rfl rfl HM0.out ?_;rw[hin])
  exact afJ (v:=.tuple #[.slice none 0 0,.int .i64 6]) (by simp[results,Tryz.results29,go_sem]) rfl ⟨.slice none 0 0,by rw[HPR.out],rfl,AX.But.of_below HB0.out,fun h=>by rw[HPR.out]at h;cases h⟩
 have adl:inN names nm=false:=agU.2 hin;have hno:nm∉names:=fun h=>hin (Eo.2 h);have hp:pr=((rdP re).1,if (rdP re).2=0 then (if Rx.gY (rdP re).1 []=true then 4 else 0)else (rdP re).2):=by rw[hpr];unfold jh;rw[afO hz,afO hin]
 rw[hpr]at hp;have HPR:=hid hp;have HNO:=hid hno;clear hp hpr hz hno hin;obtain⟨rp,hrp⟩:=afC (rdP re);unfold Qq at hrd;rw[<-hrp]at HPR hrd;obtain⟨rr,rc⟩:=rp;clear hrp;simp only at HPR hrd;go_enter Tryz.func29,Tryz.ntmps29
 go_upto_region 1 with fail
 rw[<-hW0,<-hX];clear hX hW0;go_upto_region 7 with (first
  | ((with_reducible refine Qv ?_);refine qE rfl rfl HM0.out ?_;rw[adl])
  | ((with_reducible refine Yn ?_);refine Ep rfl rfl rfl HM0.out HNO.out ?_;rintro W1 hm1 hb1;have c1:W1.cell? ⟨X,1,none⟩=some (.string re):=(show Bx W1 X 35 #[.string nm,.string re,.bool tr]from(hb1.same X HBX.out.lt (by omega)).trans HBX.out).cell 1)
  | (go_at_call 53;(with_reducible refine(hrd W1).mono ?_);rintro e W2 ⟨⟨v,at_,rfl,hv,hok⟩,hb2⟩))
 have HM2:Hid (W2.heap[M]?=some (.map (dQ 0 (names++[nm])).toArray (names++[nm]).length)):=hid ((hb2.block M (afF.1 hm1).1).trans hm1);have HBT:Hid (AX.But M w W2):=hid (((AX.But.of_below HB0.out).trans hb1).trans (AX.But.of_below hb2));obtain⟨va,vc,hvf⟩:∃a c,v=.slice a rr.length c:=by obtain⟨la,c,e,_⟩:=hv.row;exact⟨la,c,e⟩
 have HV:=hid hv;have HBS:Hid (w.heap.size<=W1.heap.size):=hid (agb HB0.out.size hb1.low.size);have HOK:=hid hok;clear hb2 hm1 hb1 hv hok hrd;subst hvf
 by_cases h0:rc=0
 ·subst h0
  obtain⟨ok,wd⟩:=HOK.out rfl;have hnl:=Yo rr ok wd _ W2 HV.out.row;obtain⟨b,hbb⟩:=afC (Rx.gY rr []);rw[afR rfl,<-hbb]at HPR;rw[<-hbb]at hnl;have HOW:=hid (And.intro ok wd);clear hbb ok wd
  cases b with
  | true =>
   go_wp2_with (go_at_call 54;(with_reducible refine hnl.mono ?_);rintro e W3 ⟨rfl,hb3⟩)
   exact afJ (v:=.tuple #[.slice va rr.length vc,.int .i64 4]) (by simp[results,Tryz.results29,go_sem]) rfl ⟨.slice va rr.length vc,by rw[HPR.out];rfl,rfl,HBT.out.trans (AX.But.of_below hb3),fun h=>by rw[HPR.out]at h;cases h⟩
  | false =>
   go_wp2_with (go_at_call 54;(with_reducible refine hnl.mono ?_);rintro e W3 ⟨rfl,hb3⟩)
   exact afJ (v:=.tuple #[.slice va rr.length vc,.int .i64 0]) (by simp[results,Tryz.results29,go_sem]) rfl ⟨.slice va rr.length vc,by rw[HPR.out];rfl,rfl,HBT.out.trans (AX.But.of_below hb3),fun _=>by
    rw[HPR.out];exact⟨U2 HV.out HBS.out hb3,HOW.out.1,HOW.out.2,(hb3.block M (afF.1 HM2.out).1).trans HM2.out⟩⟩
 ·rw[afO h0]at HPR
  have hd:decide (rc=0)=false:=agC h0;go_wp2_with fail
  exact afJ (v:=.tuple #[.slice va rr.length vc,.int .i64 rc]) (by simp[results,Tryz.results29,go_sem]) rfl ⟨.slice va rr.length vc,by rw[HPR.out],rfl,HBT.out,fun h=>by rw[HPR.out]at h;exact absurd h h0⟩
end
section
open Go.Lib (hid)
open Go Go.Proofs Go.RowKit
attribute [local go_sem] Oper.semAt_some
theorem Ld(next:List Int):∀(f:Nat)(n:Int)(p:List Int),(ptL next f n p).length=p.length
 | 0,_,_=>rfl
 | f+1,n,p=>by
  have hI:=(ptI next p p.length afD).len;unfold ptL;split
  ·exact hI
  ·rw[Ld next f];exact hI
theorem Eh(next rule:List Int):(lC next rule).length=rule.length:=by
 unfold lC;rw[Ld];simp[jK]
def Gl:AX.Plan:=.plain 2 (.plain 3 (.plain 4 (.two 0 (.plain 7 (.one 1 (.one 5 (.plain 6 (.plain 8 (.nil)))))) 1 (.two 0 (.plain 7 (.one 5 (.plain 6 (.plain 8 (.nil))))) 5 (.plain 6 (.one 0 (.plain 7 (.plain 8 (.nil)))))))))
def CP:List (Nat×Nat):=[(0,0),(1,0),(2,0),(3,0),(4,0),(5,0),(6,0),(7,2),(8,2),(9,0),(10,2)]
theorem kU{a:Act}{w W':World}{K:Act->World->Prop}{Q:Exit->Act->World->Prop}{m kx v:Operand}{ty:TypeId}{pos:String}{after:Array Edge}{r:Nat}{k n:Int}(hm:a.eval m=.map (some r))(hk:a.eval kx=.int .i64 k)(hv:a.eval v=.int .i64 n)
  (hr:(Instr.mapUpdate 100 (.map (some r)) (.int .i64 k) (.int .i64 n)).run Tryz.prog w=.ok () W') (h:K a W'):Oper.wp Tryz.prog {dst:=none,op:=.insert 100 m kx v,type:=ty,pos:=pos,after:=after,guard:=none} a w K Q:=by
 have hx:(execOp a.eval {dst:=none,op:=.insert 100 m kx v,type:=ty,pos:=pos,after:=after,guard:=none}).run Tryz.prog w=.ok .skip W':=by
  simp only[execOp,hm,hk,hv,Sem.run_bind,hr];rfl
 unfold Oper.wp;rw[hx];exact h
def Qi(next rule:List Int)(w:World)(e:Ending)(w':World):Prop:=∃an ar cn cr,e=.returned (.tuple #[.agg #[.slice an (bD next rule).1.length cn,.slice ar (bD next rule).2.length cr],.int .i64 0])/\(bD next rule).1.length<=cn/\aH w' an (bD next rule).1/\aH w' ar (bD next rule).2/\Below w.heap.size w w'
theorem Ny(next rule:List Int)(hok:okT next rule=true)(an ar:Option Addr)(cn cr:Nat)(hcn:next.length<=cn)(w:World)(hN:aH w an next)(hR:aH w ar rule):
  Calls Tryz.prog 32 #[.agg #[.slice an next.length cn,.slice ar rule.length cr]] w (Qi next rule w):=by
 have hok2:=hok;simp only[okT,afU,afZ]at hok2;obtain⟨g1,g2,g3,g4,g5⟩:=hok2;obtain⟨n,hn⟩:=afC rule.length;obtain⟨BX,hBX⟩:=afC w.heap.size;obtain⟨W0,hW0⟩:=afC ((w.alloc (.cells #[.slice an next.length cn,.slice ar rule.length cr] 27)).alloc (.cells #[.slice none 0 0,.slice none 0 0] 27));have hb0:Below w.heap.size w W0:=by rw[hW0];exact ((afI w.heap.size w).alloc afD _).alloc (by simp) _
 have xb:Bx W0 BX 27 #[.slice an next.length cn,.slice ar rule.length cr]:=by rw[hW0,hBX];exact (Bx.new w 27 _).alloc _
 have xr:Bx W0 (BX+1) 27 #[.slice none 0 0,.slice none 0 0]:=by
  rw[hW0,show BX+1=(w.alloc (.cells #[.slice an next.length cn,.slice ar rule.length cr] 27)).heap.size by rw[hBX];simp];exact Bx.new _ 27 _
 have hN0:=hN.below hb0 afD;have hR0:=hR.below hb0 afD;have hch:=jQ next rule (by omega) (by omega) an ar cn cr W0 hN0 hR0
 rw[show eu next rule=0 from afR hok]at hch;rw[<-hn]at xb hch hW0⊢;have y0:W0.cell? ⟨BX,0,none⟩=some (.slice an next.length cn):=xb.cell 0;have y1:W0.cell? ⟨BX,1,none⟩=some (.slice ar n cr):=xb.cell 1;obtain⟨nl,hnl⟩:=afC next.length
 rw[<-hnl]at xb hch y0 hW0⊢;have hpt:=fun(W:World)(hb:Below W0.heap.size W0 W)=>Nu next rule hok an ar cn cr hcn W (hN0.below hb afD) (hR0.below hb afD)
 rw[<-hn,<-hnl]at hpt;unfold Jm at hpt;obtain⟨P,hP⟩:=afC (lC next rule)
 rw[<-hP]at hpt;have HOK:=hid hok;have HN:=hid hn;have HNL:=hid hnl;have HP:=hid hP;have HN0:=hid hN0;have HR0:=hid hR0;have HB0:=hid hb0;have HXB:=hid xb;have HXR:=hid xr;have HBX:=hid hBX;have hn1:n<=512:=by omega
 have hn0:1<=n:=by omega
 have HN2:=hid (show nl=256*n by omega);have HG4:=hid g4;have HG5:=hid g5;have HCN:=hid (show nl<=cn by omega);clear hok g1 g2 g3 g4 g5 hN hR hn hnl hN0 hR0 hb0 xb xr hcn hP;go_enter Tryz.func32,Tryz.ntmps32
 go_upto_region 1 with fail
 rw[<-hW0,<-hBX];clear hW0 hBX;go_upto_region 4 with (go_at_call 36;((with_reducible refine hch.mono ?_);rintro e W1 ⟨rfl,hb1⟩;have y0:=(hb1.cell (p:=⟨BX,0,none⟩) HXB.out.lt).trans y0;have y1:=(hb1.cell (p:=⟨BX,1,none⟩) HXB.out.lt).trans y1))
 have Qj:=hpt W1 hb1;go_upto_region 5 with (go_at_call 68;((with_reducible refine Qj.mono ?_);rintro e W2 ⟨PB,pc,hep,hpb,Jt,hb2⟩;rw[<-HN.out]at hep;subst hep))
 have hbd:=(afI W2.heap.size W2).drew;obtain⟨p0,hp0⟩:=afC (P.getD 0 0);have hPl:P.length=n:=by rw[HP.out,Eh];exact HN.out.symm
 have hpc:∀p:AX.BW W2,p.W.cell? ⟨PB,0,none⟩=some (.int .i64 p0):=fun p=>(p.h.cell (p:=⟨PB,0,none⟩) hpb.lt).trans (by rw[hp0];exact dO hpb 0 (by omega));have HPB:=hid hpb;have HP0:=hid hp0;have HB1:=hid hb1;have HB2:=hid hb2;have ae1:=hid Jt;clear hpt Qj hch hpb hp0 hb1 hb2 Jt;haveI:Inhabited (AX.BW W2):=⟨⟨W2,afI _ _⟩⟩;have hmm:=fun W=>run_makeMap (P:=Tryz.prog) (w:=W) 100;go_cut [6,7]from 23 to 28 (fun t6 t7 wz=>∃SB M,t6=.slice (some ⟨SB,0,none⟩) 1 1/\t7=.map (some M)/\Bx wz SB 3 (ci [0])/\wz.heap[M]?=some (.map (dJ 0 [p0]).toArray 1)/\SB≠M/\W2.heap.size<=SB/\W2.heap.size<=M/\Below W2.heap.size W2 wz)
 case first =>
  refine AX.gI (C:=fun W=>∃p:AX.BW W2,W=p.W) Gl _ (by kernel_rfl) (by kernel_rfl) rfl (by kernel_rfl) (by intro c a d v w h;cases d<;>exact h) ⟨⟨W2.drew,hbd⟩,rfl⟩ ?_;unfold Gl
  repeat (refine AX.ay _ (by rfl) ?_;go_big_quiet_step (fail);refine afQ ?_)
  generalize W2.drew=Wd at *;have Ei:([]:List Int).Nodup:=aix;refine⟨?_,?_⟩
  ·refine AX.au _ (by rfl) (by rfl) ?_
   unfold Oper.wp;go_simp
   have hx1:Bx (Wd.alloc (.cells #[.int .i64 0] 3)) Wd.heap.size 3 (ci [0]):=Bx.new Wd 3 _;have hW3:Below W2.heap.size W2 (Wd.alloc (.cells #[.int .i64 0] 3)):=hbd.trans (((afI Wd.heap.size Wd).alloc afD _).mono hbd.size);obtain⟨SB,hSB⟩:=afC Wd.heap.size;obtain⟨W3,Gm⟩:=afC (Wd.alloc (.cells #[.int .i64 0] 3));have hs1:W2.heap.size<=SB:=(by rw[hSB];exact hbd.size);rw[<-Gm]at hx1 hW3⊢;rw[<-hSB]at hx1⊢;clear Gm hSB;refine⟨⟨⟨W3,hW3⟩,rfl⟩,?_⟩;refine AX.ay _ (by rfl) ?_;go_big_quiet_step (fail);refine afQ ?_;refine AX.au _ (by rfl) (by rfl) ?_;unfold Oper.wp;go_simp
   have hb4:=(afI W3.heap.size W3).alloc afD (.map #[] 0);have hx4:=hx1.below hb4 hx1.lt;have hm4:(W3.alloc (.map #[] 0)).heap[W3.heap.size]?=some (.map (dJ 0 []).toArray ([]:List Int).length):=World.alloc_heap_new W3 _;have hW4:=hW3.trans (hb4.mono hW3.size);have hs2:SB<W3.heap.size:=hx1.lt;have hs3:=hW3.size;obtain⟨M,hM⟩:=afC W3.heap.size;obtain⟨W4,Qk⟩:=afC (W3.alloc (.map #[] 0));rw[<-Qk]at hx4 hm4 hW4⊢;rw[<-hM]at hm4 hs2 hs3⊢;clear Qk hM hb4 hx1 hW3;refine⟨⟨⟨W4,hW4⟩,rfl⟩,?_⟩;refine AX.au _ (by rfl) (by rfl) ?_;obtain⟨W5,hr5,hm5,hb5⟩:=Qh (k:=p0) hm4 Ei (by simp);refine kU rfl rfl rfl hr5 ?_;have hW5:Below W2.heap.size W2 W5:=hW4.trans ⟨hb5.low.os,hb5.low.tape,hb5.low.output,hb5.low.size,fun j hj=>hb5.same j (by have:=hW4.size;omega) (by omega)⟩;have hx5:Bx W5 SB 3 (ci [0]):=(hb5.same SB hx4.lt (by omega)).trans hx4;refine⟨⟨⟨W5,hW5⟩,rfl⟩,?_⟩;clear hr5 hm4 hx4 hW4 hb5
   repeat (refine AX.ay _ (by rfl) ?_;go_big_quiet_step (fail);refine afQ ?_)
   unfold AX.aQ;go_wp2_with fail
   go_meet
   case rel=>exact⟨SB,M,rfl,rfl,hx5,hm5,by omega,hs1,by omega,hW5⟩
  ·refine AX.au _ (by rfl) (by rfl) ?_
   unfold Oper.wp;go_simp
   have hb4:=(afI Wd.heap.size Wd).alloc afD (.map #[] 0);have hm4:(Wd.alloc (.map #[] 0)).heap[Wd.heap.size]?=some (.map (dJ 0 []).toArray ([]:List Int).length):=World.alloc_heap_new Wd _;have hW4:=hbd.trans (hb4.mono hbd.size);have hs3:=hbd.size;obtain⟨M,hM⟩:=afC Wd.heap.size;obtain⟨W4,Qk⟩:=afC (Wd.alloc (.map #[] 0));rw[<-Qk]at hm4 hW4⊢;rw[<-hM]at hm4 hs3⊢;clear Qk hM hb4;refine⟨⟨⟨W4,hW4⟩,rfl⟩,?_⟩;refine⟨?_,?_⟩
   ·refine AX.au _ (by rfl) (by rfl) ?_
    unfold Oper.wp;go_simp
    have Gn:M<W4.heap.size:=(afF.1 hm4).1;have hx1:Bx (W4.alloc (.cells #[.int .i64 0] 3)) W4.heap.size 3 (ci [0]):=Bx.new W4 3 _;have hb3:=(afI W4.heap.size W4).alloc afD (.cells #[.int .i64 0] 3);have hm3:=(hb3.block M Gn).trans hm4;have hW3:=hW4.trans (hb3.mono hW4.size);obtain⟨SB,hSB⟩:=afC W4.heap.size;obtain⟨W3,Gm⟩:=afC (W4.alloc (.cells #[.int .i64 0] 3));rw[<-Gm]at hx1 hW3 hm3⊢;rw[<-hSB]at hx1 Gn⊢;clear Gm hSB hb3 hm4 hW4;refine⟨⟨⟨W3,hW3⟩,rfl⟩,?_⟩;refine AX.ay _ (by rfl) ?_;go_big_quiet_step (fail);refine afQ ?_;refine AX.au _ (by rfl) (by rfl) ?_;obtain⟨W5,hr5,hm5,hb5⟩:=Qh (k:=p0) hm3 Ei (by simp);refine kU rfl rfl rfl hr5 ?_;have hW5:Below W2.heap.size W2 W5:=hW3.trans ⟨hb5.low.os,hb5.low.tape,hb5.low.output,hb5.low.size,fun j hj=>hb5.same j (by have:=hW3.size;omega) (by omega)⟩;have hx5:Bx W5 SB 3 (ci [0]):=(hb5.same SB hx1.lt (by omega)).trans hx1;refine⟨⟨⟨W5,hW5⟩,rfl⟩,?_⟩;clear hr5 hm3 hx1 hW3 hb5
    repeat (refine AX.ay _ (by rfl) ?_;go_big_quiet_step (fail);refine afQ ?_)
    unfold AX.aQ;go_wp2_with fail
    go_meet
    case rel=>exact⟨SB,M,rfl,rfl,hx5,hm5,by omega,by omega,hs3,hW5⟩
   ·refine AX.au _ (by rfl) (by rfl) ?_
    obtain⟨W5,hr5,hm5,hb5⟩:=Qh (k:=p0) hm4 Ei (by simp);refine kU rfl rfl rfl hr5 ?_;have hW5:Below W2.heap.size W2 W5:=hW4.trans ⟨hb5.low.os,hb5.low.tape,hb5.low.output,hb5.low.size,fun j hj=>hb5.same j (by have:=hW4.size;omega) (by omega)⟩;refine⟨⟨⟨W5,hW5⟩,rfl⟩,?_⟩;clear hr5 hm4 hW4 hb5;refine AX.ay _ (by rfl) ?_;go_big_quiet_step (fail);refine afQ ?_;refine AX.au _ (by rfl) (by rfl) ?_;unfold Oper.wp;go_simp
    have Gn:M<W5.heap.size:=(afF.1 hm5).1;have hx1:Bx (W5.alloc (.cells #[.int .i64 0] 3)) W5.heap.size 3 (ci [0]):=Bx.new W5 3 _;have hb3:=(afI W5.heap.size W5).alloc afD (.cells #[.int .i64 0] 3);have hm3:=(hb3.block M Gn).trans hm5;have hW3:=hW5.trans (hb3.mono hW5.size);obtain⟨SB,hSB⟩:=afC W5.heap.size;obtain⟨W3,Gm⟩:=afC (W5.alloc (.cells #[.int .i64 0] 3));rw[<-Gm]at hx1 hW3 hm3⊢;rw[<-hSB]at hx1 Gn⊢;clear Gm hSB hb3 hm5 hW5;refine⟨⟨⟨W3,hW3⟩,rfl⟩,?_⟩
    repeat (refine AX.ay _ (by rfl) ?_;go_big_quiet_step (fail);refine afQ ?_)
    unfold AX.aQ;go_wp2_with fail
    go_meet
    case rel=>exact⟨SB,M,rfl,rfl,hx1,hm3,by omega,by omega,hs3,hW3⟩
 case rest =>
  obtain⟨SB,M,rfl,rfl,hxs,hmp,hne,hsb,hmb,hlo⟩:=hcut;have hb6:=(afI wc.heap.size wc).alloc afD (.cells #[.slice none 0 0,.slice none 0 0] 27);have hox:=Bx.new wc 27 #[.slice none 0 0,.slice none 0 0];have hnil:∀W,bG W W2.heap.size (.slice none 0 0) []:=fun W=>⟨rfl,.inl ⟨rfl,rfl⟩⟩;have hlw:Lw W2 wc.heap.size M ([0].map (bF P)) (.slice (some ⟨SB,0,none⟩) 1 1) (.slice none 0 0) (.slice none 0 0) [0] [] [] (wc.alloc (.cells #[.slice none 0 0,.slice none 0 0] 27)):=by
   refine⟨hox,?_,⟨Gj (hxs.below hb6 hxs.lt) hsb,hnil _,hnil _,fun g _ h=>(by cases h),fun g _ h=>(by cases h),fun g h=>(by cases h)⟩,hlo.trans (hb6.mono hlo.size),hlo.size,hmb⟩;rw[hb6.block M (afF.1 hmp).1,hmp,HP0.out];rfl
  have ae2:=hid hlw;obtain⟨OX,hOX⟩:=afC wc.heap.size;obtain⟨W6,hW6⟩:=afC (wc.alloc (.cells #[.slice none 0 0,.slice none 0 0] 27));rw[<-hOX,<-hW6]at hlw;have HLw:=hid hlw;clear hlw hb6 hox hnil hxs hmp hlo hpc hbd;go_upto_region 8 with fail
  rw[<-hW6,<-hOX];clear hW6 hOX;have hI0:LsI P n [0] []:=⟨by simp,by simp,fun s hs=>by rw[afK.1 hs];omega,by simp⟩;have hat:∃(i:Nat)(x:List Int×List Int)(ru:List Int)(sv nv rv:Value),(Value.slice (some ⟨SB,0,none⟩) 1 1)=sv/\(Value.int .i64 0)=.int .i64 i/\i<=x.1.length/\Lw W2 OX M (x.1.map (bF P)) sv nv rv x.1 x.2 ru W6/\LsI P n x.1 x.2/\x.2.length=256*i/\ru.length=i/\Hid (∃F,n<F+i/\lsL next rule P F i x ru=bD next rule):=
   ⟨0,([0],[]),[],_,_,_,rfl,rfl,af0 _,HLw.out,hI0,rfl,rfl,hid ⟨n+1,by omega,by rw[HN.out,HP.out];rfl⟩⟩
  clear hI0;go_loopw [6,9] (fun v6 v9 wr=>∃(i:Nat)(x:List Int×List Int)(ru:List Int)(sv nv rv:Value),v6=sv/\v9=.int .i64 i/\i<=x.1.length/\Lw W2 OX M (x.1.map (bF P)) sv nv rv x.1 x.2 ru wr/\LsI P n x.1 x.2/\x.2.length=256*i/\ru.length=i/\Hid (∃F,n<F+i/\lsL next rule P F i x ru=bD next rule)) (fun _ v9 _=>n+1-(RowKit.intOf v9).toNat)
  case atStart=>exact hat
  case round =>
   obtain⟨i,x,ru,sv,nv,rv,rfl,rfl,hi,hlw,hI,hxl,hrl,hF⟩:=hrel;obtain⟨sa,sc,rfl⟩:=aU hlw.rw.s;have hlen:=hI.len;have hi0:(0:Int)<=(i:Int):=(by omega);have HLW:=hid hlw;have HI:=hid hI;clear hlw hI;obtain⟨q,hq⟩:=afC x.1.length;rw[<-hq]at hi hlen⊢;have HQ:=hid hq;clear hq
   by_cases hlt:i<q
   ·have hi1:(i:Int)<(q:Int):=by omega
    have aaG:q<=512:=(by omega);have hqx:i<x.1.length:=(by have:=HQ.out;omega);obtain⟨s,hs⟩:=afC (x.1.getD i 0);have hsr:=HI.out.in_ s (by rw[hs,afG,afE hqx,agr];exact agu _);obtain⟨hs0,hs1⟩:=hsr;obtain⟨k,rfl⟩:∃k:Nat,s=(k:Int):=⟨s.toNat,by omega⟩;have hkn:k<n:=(by omega);obtain⟨g,sc2,esv,hsc⟩:=sS HLW.out.rw.s (by omega);rw[<-HQ.out]at esv
    cases esv
    have hsi:=hsc i hqx;rw[<-hs]at hsi;have Bg:Below W0.heap.size W0 W2:=HB1.out.trans (HB2.out.mono HB1.out.size);have aaH:=Bg.size;have hbx2:Bx W2 BX 27 #[.slice an nl cn,.slice ar n cr]:=HXB.out.below Bg HXB.out.lt;have hN2:=HN0.out.below Bg afD;have hR2:=HR0.out.below Bg afD;have hnl:next.length=256*n:=(by have:=HN2.out;have:=HNL.out;omega)
    have hrl2:rule.length=n:=HN.out.symm;obtain⟨nb,no,rfl,hnb,hnc⟩:=hN2 (fun e=>by rw[e]at hnl;simp at hnl;omega);obtain⟨rb,ro,rfl,hrb,hrc⟩:=hR2 (fun e=>by rw[e]at hrl2;simp at hrl2;omega);have Gp:BX<W2.heap.size:=hbx2.lt;have y0:W2.cell? ⟨BX,0,none⟩=some (.slice (some ⟨nb,no,none⟩) nl cn):=hbx2.cell 0;obtain⟨ra,hra⟩:=afC (rule.getD k 0);have hrk:W2.cell? ⟨rb,ro+k,none⟩=some (.int .i64 ra):=by
     rw[hrc k (by omega),hra,afG,afE (by omega),agr]
    have b1:wr.cell? ⟨OX,1,none⟩=some rv:=HLW.out.ox.cell 1;have HNC:=hid hnc;have HS:=hid hs;have HRA:=hid hra;have Ju:=hid hbx2;have HNl:=hid hnl;clear hsc hs hra hbx2 hN2 hR2 hnl hrl2 hnc hrc Bg;go_upto_region 11 with fail
    have hbd:=(afI wr.heap.size wr).drew;obtain⟨Wd,hWd⟩:=afC wr.drew;have hLd:=HLW.out.low hbd;rw[<-hWd]at hLd;obtain⟨C,hCi,hCo⟩:∃C:World->Prop,(∀W,C W->Bx W OX 27 #[nv,rv]/\Bx W BX 27 #[.slice (some ⟨nb,no,none⟩) nl cn,.slice (some ⟨rb,ro,none⟩) n cr]/\W.cell? ⟨rb,ro+k,none⟩=some (.int .i64 ra))/\∀W,Bx W OX 27 #[nv,rv]->Bx W BX 27 #[.slice (some ⟨nb,no,none⟩) nl cn,.slice (some ⟨rb,ro,none⟩) n cr]->W.cell? ⟨rb,ro+k,none⟩=some (.int .i64 ra)->C W:=⟨_,fun _ h=>h,fun _ h1 h2 h3=>⟨h1,h2,h3⟩⟩;have hCL:∀W,Bx W OX 27 #[nv,rv]->Below W2.heap.size W2 W->C W:=fun W h1 h2=>hCo W h1 (Ju.out.below h2 Gp) ((h2.cell (p:=⟨rb,ro+k,none⟩) hrb).trans hrk);have hC0:C wr.drew:=hWd▸ hCL Wd hLd.ox hLd.lo;haveI:Inhabited (AX.CW C):=⟨⟨_,hC0⟩⟩;haveI:Inhabited (AX.CW fun _=>True):=⟨⟨w,trivial⟩⟩;have a1:∀p:AX.CW C,p.W.cell? ⟨OX,1,none⟩=some rv:=fun p=>(hCi _ p.h).1.cell 1;have a2:∀p:AX.CW C,p.W.cell? ⟨BX,1,none⟩=some (.slice (some ⟨rb,ro,none⟩) n cr):=fun p=>(hCi _ p.h).2.1.cell 1;have a3:∀p:AX.CW C,p.W.cell? ⟨rb,ro+k,none⟩=some (.int .i64 ra):=fun p=>(hCi _ p.h).2.2;have hk0:(0:Int)<=(k:Int):=(by omega);have adg:(k:Int)<(n:Int):=(by omega);refine AX.dF (C:=fun W=>∃p:AX.CW C,W=p.W) (CT:=fun W=>∃p:AX.CW fun _=>True,W=p.W) 10 CP _ (by kernel_rfl) (by kernel_rfl) rfl (by kernel_rfl) (by decide) (by kernel_rfl) (by kernel_rfl) (by intro c a d v w h;cases d<;>exact h) ⟨⟨⟨_,trivial⟩,rfl⟩,⟨⟨_,hC0⟩,rfl⟩⟩ ?_;unfold CP;rw[<-hWd];have HLd:=hid hLd;have HCL:=hid hCL;clear hWd hbd hLd hC0 hCo hCi hCL b1
    repeat (refine AX.bQ _ (by rfl) ?_;go_big_quiet_step (fail);refine afQ ?_)
    refine AX.aV _ (by rfl) (by rfl) ?_;unfold Oper.wp;go_simp
    have hb3:=(afI Wd.heap.size Wd).alloc afD (.cells #[.int .i64 ra] 3);have hL3:=HLd.out.low hb3;have nZ:=Bx.new Wd 3 #[.int .i64 ra];obtain⟨B3,hB3⟩:=afC Wd.heap.size;obtain⟨W3,hW3⟩:=afC (Wd.alloc (.cells #[.int .i64 ra] 3));rw[<-hW3]at hL3 nZ⊢;rw[<-hB3]at nZ⊢;refine⟨⟨⟨⟨W3,trivial⟩,rfl⟩,fun _=>⟨⟨W3,HCL.out _ hL3.ox hL3.lo⟩,rfl⟩⟩,?_⟩;have Yk:ru.length<=1000000:=(by omega);have hlo3:=hL3.lo.size;have hown:=hL3.rw.r;have HL3:=hid hL3;clear hb3 hB3 hW3 hL3;refine AX.aV _ (by rfl) (by rfl) ?_;refine qR W2.heap.size rv ru ra _ _ rfl rfl hown B3 1 rfl nZ Yk hlo3 ?_;intro rv' W4 ho hg hor;have ou:Bx W4 OX 27 #[nv,rv]:=(HL3.out.gro hown hg).1;have hC4:=HCL.out W4 ou (HL3.out.gro hown hg).2.2;have hn1':=fO ho;refine⟨⟨⟨⟨W4,trivial⟩,rfl⟩,fun _=>⟨⟨W4,hC4⟩,rfl⟩⟩,?_⟩;have HO:=hid ho;have HG:=hid hg;have HOR:=hid hor;clear ho hg hor hown nZ hC4;simp only[show Nat.beq 8 10=false from rfl,show Nat.beq 7 10=false from rfl,ahT,Act.put,afH,afL,afM];refine AX.bQ _ (by rfl) ?_;go_big_quiet_step (fail)
    refine afQ ?_;refine AX.aV _ (by rfl) (by rfl) ?_;refine AX.aI (o:=1) (v:=rv') rfl rfl hn1' oJ ou (show 1<2 by decide) ?_;rintro W5 g3 g4 g5;have x5:Bx W5 OX 27 #[nv,rv']:=g3;have hL5:=HL3.out.aaF HO.out HG.out HOR.out x5 g4 g5;refine⟨⟨⟨⟨W5,trivial⟩,rfl⟩,fun h=>by cases h⟩,?_⟩;have HL5:=hid hL5;have ae3:W5.cell? ⟨BX,0,none⟩=some (.slice (some ⟨nb,no,none⟩) nl cn):=(hL5.lo.cell (p:=⟨BX,0,none⟩) Gp).trans y0;have hlo1:(256:Int)*k<=256*((k:Int)+1):=(by omega);have hhi1:(256:Int)*((k:Int)+1)<=cn:=(by have:=HN2.out;have:=HCN.out;omega);have hlo0:(0:Int)<=256*((k:Int)+1):=(by omega);have Xf:(0:Int)<=256*(k:Int):=(by omega);have h256:256*(k+1)-256*k=256:=(by omega);clear g3 g4 g5 x5 hL5 ou hn1' a1 a2 a3 HL3 HO HG HOR hrk hsi;unfold AX.bC;go_upto_region 13 with fail
    rw[h256];go_loopw [6,58] (fun v6 v58 wq=>∃(b:Nat)(y:List Int×List Int)(sv' nv':Value),v6=sv'/\v58=.int .i64 b/\b<=256/\Lw W2 OX M (y.1.map (bF P)) sv' nv' rv' y.1 y.2 (ru++[ra]) wq/\Hid (y=((rowOf next k).take b).foldl (lsT P) x)) (fun _ v58 _=>256-(RowKit.intOf v58).toNat)
    case atStart=>exact⟨0,x,_,nv,rfl,rfl,af0 _,by rw[HQ.out];exact HL5.out,hid rfl⟩
    case round =>
     obtain⟨b,y,sv',nv',rfl,rfl,hb,hlq,hy⟩:=hrel;have aax:(0:Int)<=(b:Int):=(by omega);have hrow:=dX HNl.out hkn;have htn:∀t∈rowOf next k,-1<=t/\t<(n:Int):=fun t ht=>by
      have:=agk.1 HG5.out t (pU ht);simp only[afU,afZ]at this;have h2:=HN.out;omega
     obtain⟨hIy,hyl,hyx⟩:=LsI.steps ((rowOf next k).take b) HI.out (fun t ht=>(htn t (List.mem_of_mem_take ht)).2);rw[<-hy.out,agZ,hrow,Nat.min_eq_left hb,hxl]at hyl;rw[<-hy.out]at hIy hyx;have hyn:=hIy.len;have hy1:=hIy.one
     by_cases hbl:b<256
     ·have P9:(b:Int)<256:=by omega
      have hidx:256*k+b<next.length:=(by have:=HNl.out;omega)
      have hc:=(hlq.lo.cell (p:=⟨nb,no+(256*k+b),none⟩) hnb).trans (HNC.out _ hidx);rw[<-ah1]at hc;obtain⟨t,ht⟩:=afC (next[256*k+b])
      have hrb:(rowOf next k)[b]?=some t:=by
       unfold rowOf;rw[ag1,afR hbl,aii,afE hidx,ht]
      obtain⟨ht1,ht2⟩:=htn t (af7 hrb);rw[<-ht]at hc;have hnext:Hid (lsT P y t=((rowOf next k).take (b+1)).foldl (lsT P) x):=hid (by
       have hbr:b<(rowOf next k).length:=(by omega);have e:(rowOf next k)[b]=t:=(by rw[afE hbr]at hrb;exact agc hrb);rw[agy hbr,agI,<-hy.out,e];rfl)
      have HQ2:=hid hlq;have HY:=hid hIy;have HYL:=hid hyl;have Gq:y.2.length<=1000000:=(by omega);have hb1:W2.heap.size<=wr.heap.size:=hlq.lo.size;have b00:wr.cell? ⟨OX,0,none⟩=some nv':=hlq.ox.cell 0;have hlow:=hlq.lo;clear hrow htn hidx ht hrb hIy hyl hlq hy
      by_cases htz:t<0
      ·have HST:Hid (lsT P y t=(y.1,y.2++[-1])):=hid (afR (.inl htz))
       have hx3:=Bx.new wr 3 #[.int .i64 (-1)];have hL3:=HQ2.out.low ((afI wr.heap.size wr).alloc afD (.cells #[.int .i64 (-1)] 3));have hs3:=hL3.lo.size;have hown:=hL3.rw.n;have HL3:=hid hL3;clear hL3;go_wp2_with (first
        | ((with_reducible refine jH ?_);refine bT W2.heap.size nv' y.2 (-1) rfl hown wr.heap.size 1 rfl hx3 Gq hs3 ?_;rintro nv2 W8 ho hg hor;have oK:=(HL3.out.gro hown hg).1;have hone:=fO ho)
        | ((with_reducible refine bJ ?_);refine AX.aB (o:=0) (v:=nv2) rfl rfl hone oJ oK (show 0<2 by decide) ?_;rintro W9 g3 g4 g5))
       have x9:Bx W9 OX 27 #[nv2,rv']:=g3;have hL9:=HL3.out.Js ho hg hor x9 g4 g5;exact⟨⟨b+1,(y.1,y.2++[-1]),_,nv2,rfl,by simp,by omega,hL9,hid (HST.out.symm.trans hnext.out)⟩,by simp[RowKit.intOf];omega⟩
      ·obtain⟨tn,rfl⟩:∃tn:Nat,t=(tn:Int):=⟨t.toNat,by omega⟩
       have adh:(0:Int)<=(tn:Int):=(by omega);have aaI:=HPB.out.below hlow HPB.out.lt;have hpc:=dO aaI tn (by omega);obtain⟨p,hp⟩:=afC (P.getD tn 0);have hpt:bF P (tn:Int)=p:=(by unfold bF;rw[afY,hp]);rw[<-hp]at hpc;have HPT:=hid hpt;clear hp hpt aaI
       by_cases hpz:p<0
       ·have HST:Hid (lsT P y tn=(y.1,y.2++[-1])):=hid (afR (.inr (by rw[HPT.out];exact hpz)))
        have hx3:=Bx.new wr 3 #[.int .i64 (-1)];have hL3:=HQ2.out.low ((afI wr.heap.size wr).alloc afD (.cells #[.int .i64 (-1)] 3));have hs3:=hL3.lo.size;have hown:=hL3.rw.n;have HL3:=hid hL3;clear hL3;go_wp2_with (first
         | ((with_reducible refine jH ?_);refine bT W2.heap.size nv' y.2 (-1) rfl hown wr.heap.size 1 rfl hx3 Gq hs3 ?_;rintro nv2 W8 ho hg hor;have oK:=(HL3.out.gro hown hg).1;have hone:=fO ho)
         | ((with_reducible refine bJ ?_);refine AX.aB (o:=0) (v:=nv2) rfl rfl hone oJ oK (show 0<2 by decide) ?_;rintro W9 g3 g4 g5))
        have x9:Bx W9 OX 27 #[nv2,rv']:=g3;have hL9:=HL3.out.Js ho hg hor x9 g4 g5;exact⟨⟨b+1,(y.1,y.2++[-1]),_,nv2,rfl,by simp,by omega,hL9,hid (HST.out.symm.trans hnext.out)⟩,by simp[RowKit.intOf];omega⟩
       ·have hlk:=Xj (k:=p) HQ2.out.mp HY.out.nd
        have hix:ixP P y.1 (tn:Int)=fx (y.1.map (bF P)) p:=(by unfold ixP fx;rw[HPT.out]);have hTl:(y.1.map (bF P)).length=y.1.length:=agf _;have hcond:¬((tn:Int)<0\/bF P (tn:Int)<0):=(by rw[HPT.out];omega);obtain⟨fk,hfk⟩:=afC (fx (y.1.map (bF P)) p)
        by_cases hf:fx (y.1.map (bF P)) p<(y.1.map (bF P)).length
        ·have HST:Hid (lsT P y tn=(y.1,y.2++[(fk:Int)])):=hid (by unfold lsT;rw[afO hcond,hix,<-hfk,afR (by omega)])
         rw[afR hf,agL hf,<-hfk]at hlk;clear hf hfk hix hTl hcond;have hx3:=Bx.new wr 3 #[.int .i64 (fk:Int)];have hL3:=HQ2.out.low ((afI wr.heap.size wr).alloc afD (.cells #[.int .i64 (fk:Int)] 3));have hs3:=hL3.lo.size;have hown:=hL3.rw.n;have HL3:=hid hL3;clear hL3;go_wp2_with (first
          | ((with_reducible refine jH ?_);refine bT W2.heap.size nv' y.2 (fk:Int) rfl hown wr.heap.size 1 rfl hx3 Gq hs3 ?_;rintro nv2 W8 ho hg hor;have oK:=(HL3.out.gro hown hg).1;have hone:=fO ho)
          | ((with_reducible refine bJ ?_);refine AX.aB (o:=0) (v:=nv2) rfl rfl hone oJ oK (show 0<2 by decide) ?_;rintro W9 g3 g4 g5)
          | ((with_reducible refine Ef ?_);refine iP rfl rfl hlk ?_))
         have x9:Bx W9 OX 27 #[nv2,rv']:=g3;have hL9:=HL3.out.Js ho hg hor x9 g4 g5;exact⟨⟨b+1,(y.1,y.2++[(fk:Int)]),_,nv2,rfl,by simp,by omega,hL9,hid (HST.out.symm.trans hnext.out)⟩,by simp[RowKit.intOf];omega⟩
        ·have HST:Hid (lsT P y tn=(y.1++[(tn:Int)],y.2++[(y.1.length:Int)])):=hid (by
          have h2:ixP P y.1 (tn:Int)=y.1.length:=by
           have:=ahg (p:=(· == p)) (xs:=y.1.map (bF P));rw[hix];unfold fx at hf⊢;omega
          unfold lsT;rw[afO hcond,h2,afO (ah2 _)])
         rw[afO hf,agC hf]at hlk;have HF:=hid hf;have Yl:y.1.length<=1000000:=(by omega);have HTM:Hid ((y.1++[(tn:Int)]).map (bF P)=y.1.map (bF P)++[p]):=hid (by rw[agt,aij,HPT.out]);obtain⟨sa',sc',rfl⟩:=aU HQ2.out.rw.s;clear hf hfk hix hTl hcond;go_upto_region 22 with (first
          | ((with_reducible refine Ef ?_);refine iP rfl rfl hlk ?_)
          | ((with_reducible refine Jq ?_);refine qC (T:=y.1.map (bF P)) rfl rfl (by rw[agf];rfl) HQ2.out.mp HY.out.nd HF.out ?_;rintro W8 hm8 hb8;have hL8:=HQ2.out.upd hm8 hb8;have hx8:=Bx.new W8 3 #[.int .i64 (tn:Int)];have Ej:=hL8.low ((afI W8.heap.size W8).alloc afD (.cells #[.int .i64 (tn:Int)] 3));have hs8:=Ej.lo.size;have hownS:=Ej.rw.s)
          | ((with_reducible refine jH ?_);refine bT W2.heap.size (.slice sa' y.1.length sc') y.1 (tn:Int) rfl hownS W8.heap.size 1 rfl hx8 Yl hs8 ?_;rintro sv2 W9 ho9 hg9 Ql;have hL9:=Ej.U1 ho9 hg9 Ql;have b9:W9.cell? ⟨OX,0,none⟩=some nv':=hL9.ox.cell 0))
         rw[<-HTM.out]at hL9;have HL9:=hid hL9;clear hL9 hL8 Ej hx8 hs8 hownS hm8 hb8 ho9 hg9 Ql hlk b00;have hx3:=Bx.new W9 3 #[.int .i64 (y.1.length:Int)];have hL3:=HL9.out.low ((afI W9.heap.size W9).alloc afD (.cells #[.int .i64 (y.1.length:Int)] 3));have hs3:=hL3.lo.size;have hown:=hL3.rw.n;have HL3:=hid hL3;clear hL3;go_wp2_with (first
          | ((with_reducible refine jH ?_);refine bT W2.heap.size nv' y.2 (y.1.length:Int) rfl hown W9.heap.size 1 rfl hx3 Gq hs3 ?_;rintro nv2 Wa ho hg hor;have oK:=(HL3.out.gro hown hg).1;have hone:=fO ho)
          | ((with_reducible refine bJ ?_);refine AX.aB (o:=0) (v:=nv2) rfl rfl hone oJ oK (show 0<2 by decide) ?_;rintro Wb g3 g4 g5))
         have x9:Bx Wb OX 27 #[nv2,rv']:=g3;have hLb:=HL3.out.Js ho hg hor x9 g4 g5;exact⟨⟨b+1,(y.1++[(tn:Int)],y.2++[(y.1.length:Int)]),_,nv2,rfl,by simp,by omega,hLb,hid (HST.out.symm.trans hnext.out)⟩,by simp[RowKit.intOf];omega⟩
     ·have P9:¬(b:Int)<256:=by omega
      obtain rfl:b=256:=by omega
      have hlr:lsR next P x i=y:=by
       unfold lsR;rw[<-HS.out,afY,hy.out,agW (by omega)]
      have hrel2:∃(i2:Nat)(x2:List Int×List Int)(ru2:List Int)(sv2 nv2 rv2:Value),u6=sv2/\(Value.int .i64 ((i:Int)+1))=.int .i64 i2/\i2<=x2.1.length/\Lw W2 OX M (x2.1.map (bF P)) sv2 nv2 rv2 x2.1 x2.2 ru2 wr/\LsI P n x2.1 x2.2/\x2.2.length=256*i2/\ru2.length=i2/\Hid (∃F,n<F+i2/\lsL next rule P F i2 x2 ru2=bD next rule):=by
       refine⟨i+1,y,ru++[ra],u6,nv',rv',rfl,by simp,?_,hlq,hIy,by omega,by rw[afP,hrl];rfl,hid ?_⟩
       ·show i+1<=y.1.length
        omega
       ·obtain⟨F,h1,h2⟩:=hF.out
        obtain⟨G,rfl⟩:∃G,F=G+1:=⟨F-1,by omega⟩;unfold lsL at h2;rw[afR hqx,hlr,<-HS.out,afY,<-HRA.out]at h2;exact⟨G,by omega,h2⟩
      have Qm:=hid hrel2;clear hrel2 hlr hy hlq hIy hyl;go_wp2_with fail
      exact⟨Qm.out,by simp[RowKit.intOf];omega⟩
   ·have hi1:¬(i:Int)<(q:Int):=by omega
    have hL:bD next rule=(x.2,ru):=by
     obtain⟨F,h1,h2⟩:=hF.out
     cases F with
     | zero=>omega
     | succ F =>
      unfold lsL at h2;rw[afO (by have:=HQ.out;omega)]at h2;exact h2.symm
    have HL:=hid hL;have b0:wr.cell? ⟨OX,0,none⟩=some nv:=HLW.out.ox.cell 0;have b1:wr.cell? ⟨OX,1,none⟩=some rv:=HLW.out.ox.cell 1;obtain⟨na,nc,en,hnc,_⟩:=iy HLW.out.rw.n;obtain⟨ra,rc,er,_,_⟩:=iy HLW.out.rw.r;have c0:nv.oneCell'=true:=(by rw[en];rfl);have c1:rv.oneCell'=true:=(by rw[er];rfl);have Bg:Below W0.heap.size W0 W2:=HB1.out.trans (HB2.out.mono HB1.out.size);have xA:=(HXR.out.below Bg HXR.out.lt).below HLW.out.lo (by have:=HXR.out.lt;have:=Bg.size;omega);have HWW:=hid Bg;clear hL hnc en er Bg;go_wp2_with ((with_reducible refine bJ ?_);refine AX.aj (vs:=[nv,rv]) rfl rfl Jr xA rfl (by simp[c0,c1]) ?_;rintro W9 u3 u4 u5)
    have x9:Bx W9 (BX+1) 27 #[nv,rv]:=u3;have d0:W9.cell? ⟨BX+1,0,none⟩=some nv:=x9.cell 0;have d1:W9.cell? ⟨BX+1,1,none⟩=some rv:=x9.cell 1;have hs9:dH 27 wr W9:=aP xA u4;have hR9:=HLW.out.rw.aW hs9 (by decide);obtain⟨na,nc,en,hnc,hni⟩:=iy hR9.n;obtain⟨ra,rc,er,_,hri⟩:=iy hR9.r;have hl9:Below w.heap.size wr W9:=AX.ah (by have:=HBX.out;omega) (.inl x9.lt) u4 u5;have hlo:Below w.heap.size w W9:=(HB0.out.trans ((HWW.out.mono HB0.out.size).trans (HLW.out.lo.mono (agb HB0.out.size HWW.out.size)))).trans hl9;exact afJ (v:=.tuple #[.agg #[nv,rv],.int .i64 0]) (by simp[results,Tryz.results32,go_sem,d0,d1]) rfl ⟨na,ra,nc,rc,by rw[HL.out,<-en,<-er],by rw[HL.out];exact hnc,by rw[HL.out];exact hni,by rw[HL.out];exact hri,hlo⟩
end
end Go.Proofs.YtkjgogdkdejljaaGreatDoor.Df
