import Derived.OrdersIn
import Derived.Test.YtkjgogdkdejljaaGreatDoorRxW6
import Derived.Deep.CutRange
set_option maxRecDepth 100000
set_option maxHeartbeats 40000000
namespace Go.Proofs.YtkjgogdkdejljaaGreatDoor.AX
section
open Go Go.RowKit
section
variable {P : Program} {Q : Exit → Act → World → Prop} {n : Nat} {F : Fence} {ro : Option Nat}
theorem Jv(hF:F = { Fence.wide with round:=ro }){row:String}{args:Array Value}{w:World}{R:Value→World→Prop}(h:Rows P row args w R):RowsIn F n P row args w R:=by
 subst hF;exact fun c cs _=>let ⟨v,w',r,s⟩:=h c cs;⟨v,w',r,stepsIn_wide.2 s⟩
theorem GY(hF:F = { Fence.wide with round:=ro }){f:FuncId}{args:Array Value}{w:World}{R:Ending→World→Prop}(h:Calls P f args w R):CallsIn F n P f args w R:=by
 subst hF;exact(callsIn_wide (n:=n)).2 h
theorem Jw(hF:F = { Fence.wide with round:=ro }){o:Oper}{a:Act}{w:World}{K:Act→World→Prop}(hd:∀ c,o.op ≠ .defer c)(h:o.wp P a w K Q):o.wpIn F n P a w K Q:=by
 refine⟨fun _ _=>by rw[hF];trivial,?_⟩;rw[Oper.semAt_eq _ _ _ hd];unfold Oper.wp at h;generalize (execOp a.eval o).run P w=r at *
 cases r with
 | ok x w' =>
  cases x<;>simp only[Oper.upon,Oper.uponIn] at h ⊢ <;>
   first
    | exact h
    | exact⟨fun e=>(by rw[hF] at e;simp[Fence.wide] at e),GY hF h⟩
    | exact⟨fun e=>(by rw[hF] at e;simp[Fence.wide] at e),Jv hF h⟩
 | halt x w'=>cases x<;>simp only[Oper.upon,Oper.uponIn] at h ⊢<;>exact h
theorem lX(hF:F = { Fence.wide with round:=ro }){ops:Array Oper}{md:Region.Mode}(hd:∀(i:Nat)(o:Oper) c,ops[i]?=some o→o.op ≠ .defer c)(hLO:¬LetsOut Q):∀(fuel:Nat)(listed:Array Bool)(a:Act)(w:World),
  wpAny P md ops Q fuel listed a w→wpAnyIn F n P md ops Q fuel listed a w
 | 0,_,_,_,h=>h
 | fuel+1,listed,a,w,h=>⟨h.1,fun i hi=>by
  have h1:=h.2 i hi;unfold wpOp at h1;unfold wpOpIn
  cases ho:ops[i]? with
  | none=>simp only[ho] at h1 ⊢;exact lX hF hd hLO fuel _ _ _ h1
  | some o =>
   simp only[ho] at h1 ⊢;split
   ·rename_i hw
    rw[if_pos hw] at h1;rcases h1 with h1 | h1
    ·exact Oper.wpIn_mono (fun a' w' hk=>lX hF hd hLO fuel _ a' w' hk) (Jw hF (hd i o · ho) h1)
    ·exact(hLO h1.2).elim
   ·rename_i hw
    rw[if_neg hw] at h1;exact⟨fun _ _=>by rw[hF];trivial,lX hF hd hLO fuel _ _ _ h1⟩⟩
def GZ(o:Op):Bool:=match o with | .defer _=>false | _=>true
def EC(l:List Oper):Bool:=l.all fun o=>GZ o.op
theorem uo{l:List Oper}(h:EC l=true)(i:Nat)(o:Oper)(c:Call)(ho:l[i]?=some o):o.op ≠ .defer c:=fun e=>by
 have h1:=List.all_eq_true.1 h o (List.mem_of_getElem? ho);rw[e] at h1;exact absurd h1 (by simp[GZ])
end
end
section
open Go
inductive Plan
 | nil
 | plain (i:Nat) (r:Plan)
 | one (i:Nat) (r:Plan)
 | two (i:Nat) (r:Plan) (j:Nat) (s:Plan)
 | three (i:Nat) (r:Plan) (j:Nat) (s:Plan) (k:Nat) (t:Plan)
def wQ(is:List Nat)(mask:Nat):List Inf→Nat→Bool
 | [],_=>true
 | y::L,j=>(is.any (Nat.beq j) || (Nat.testBit mask j || !(Nat.beq (Nat.land y.dep mask) y.dep))) && wQ is mask L (j+1)
def upF(L:List Inf)(i mask:Nat):Bool:=match L[i]? with
 | none=>false
 | some x=>!(Nat.testBit mask i) && Nat.beq (Nat.land x.dep mask) x.dep
def jF(L:List Inf):Plan→Nat→Nat→Bool
 | .nil,mask,n=>Nat.beq mask (2 ^ L.length-1) && Nat.beq n 0
 | .plain i r,mask,n=>match L[i]?,n with
  | some x,n+1=>upF L i mask && (x.plain && qC i x mask L 0 && jF L r (Nat.lor mask (2 ^ i)) n)
  | _,_=>false
 | .one i r,mask,n=>match n with
  | n+1=>upF L i mask && (wQ [i] mask L 0 && jF L r (Nat.lor mask (2 ^ i)) n)
  | _=>false
 | .two i r j s,mask,n=>match n with
  | n+1=>upF L i mask && upF L j mask && (wQ [i,j] mask L 0 && (jF L r (Nat.lor mask (2 ^ i)) n && jF L s (Nat.lor mask (2 ^ j)) n))
  | _=>false
 | .three i r j s k t,mask,n=>match n with
  | n+1=>upF L i mask && upF L j mask && upF L k mask && (wQ [i,j,k] mask L 0 && (jF L r (Nat.lor mask (2 ^ i)) n && (jF L s (Nat.lor mask (2 ^ j)) n && jF L t (Nat.lor mask (2 ^ k)) n)))
  | _=>false
theorem Ac{is:List Nat}{mask:Nat} : ∀(L:List Inf)(k:Nat),wQ is mask L k=true→∀ j y,L[j]?=some y→k+j∈is∨mask.testBit (k+j)=true∨Nat.land y.dep mask≠y.dep
 | [],_,_,j,y,hj=>by simp at hj
 | z::L,k,h,0,y,hj=>by
  simp only[wQ,Bool.and_eq_true,Bool.or_eq_true,Bool.not_eq_true',List.any_eq_true] at h;obtain rfl:z=y:=by simpa using hj
  rcases h.1 with ⟨x,h1,h2⟩ | h1 | h1
  ·exact .inl (by rw[Nat.beq_eq] at h2;rw[Nat.add_zero,h2];exact h1)
  ·exact .inr (.inl (by simpa using h1))
  ·exact .inr (.inr fun e=>by rw[e] at h1;simp at h1)
 | z::L,k,h,j+1,y,hj=>by
  simp only[wQ,Bool.and_eq_true] at h;have:=Ac L (k+1) h.2 j y (by simpa using hj)
  rwa [show k+1+j=k+(j+1) by omega] at this
section
variable {P : Program} {C : World → Prop} {Q : Exit → Act → World → Prop}
def aV(P:Program)(l:List Oper)(C:World→Prop)(Q:Exit→Act→World→Prop):Plan→Act→World→Prop
 | .nil,a,w=>Q .normal a w
 | .plain i r,a,w=>∃ o,l[i]?=some o∧wpQuiet P l.toArray C (fun a'=>aV P l C Q r a' w) [o] a
 | .one i r,a,w=>wpOp P l.toArray Q i (fun a' w'=>C w'∧aV P l C Q r a' w') a w
 | .two i r j s,a,w=>wpOp P l.toArray Q i (fun a' w'=>C w'∧aV P l C Q r a' w') a w∧wpOp P l.toArray Q j (fun a' w'=>C w'∧aV P l C Q s a' w') a w
 | .three i r j s k t,a,w=>wpOp P l.toArray Q i (fun a' w'=>C w'∧aV P l C Q r a' w') a w∧wpOp P l.toArray Q j (fun a' w'=>C w'∧aV P l C Q s a' w') a w∧wpOp P l.toArray Q k (fun a' w'=>C w'∧aV P l C Q t a' w') a w
theorem jQ{l:List Oper}{i mask:Nat}{listed:Array Bool}(hl:Lst l.length listed mask)(h:upF (infos l) i mask=true):i<l.length∧i∈Region.ready .any l.toArray listed:=by
 unfold upF at h
 cases hx:(infos l)[i]? with
 | none=>rw[hx] at h;cases h
 | some x =>
  rw[hx] at h;simp only[Bool.and_eq_true,Bool.not_eq_true',Nat.beq_eq] at h;obtain⟨hun,Ez⟩:=h;have hil:i<l.length:=by
   have:=(List.getElem?_eq_some_iff.1 hx).1
   simpa[infos] using this
  have ho:l[i]?=some l[i]:=List.getElem?_eq_getElem hil;have hxe:x=iK l.toArray l[i]:=by
   simp only[infos,List.getElem?_map,ho,Option.map_some,Option.some.injEq] at hx;exact hx.symm
  have ho':l.toArray[i]?=some l[i]:=by simp
  have hgl:∀ k,mask.testBit k=true→listed.getD k false=true:=fun k hk=>by
   rw[Array.getD_eq_getD_getElem?,hl.bit k (hl.lt k hk),hk];rfl
  exact⟨hil,mem_ready.2 ⟨by rw[Array.getD_eq_getD_getElem?,hl.bit i hil,hun];rfl,l[i],ho',fun e he hb=>hgl _ (by
   rw[hxe] at Ez;exact Aa Ez (gV.2 ⟨e,he,hb,rfl⟩))⟩⟩
theorem Ad{l:List Oper}{is:List Nat}{mask:Nat}{listed:Array Bool}(hl:Lst l.length listed mask)(hk:wQ is mask (infos l) 0=true){j:Nat}(hj:j∈Region.ready .any l.toArray listed):j∈is:=by
 obtain⟨hj0,oj,hoj,hjd⟩:=mem_ready.1 hj;have hjl:j<l.length:=by have:=(Array.getElem?_eq_some_iff.1 hoj).1;simpa using this
 have hje:(infos l)[j]?=some (iK l.toArray oj):=by
  have:l[j]?=some oj:=by simpa using hoj
  simp[infos,this]
 rcases Ac _ 0 hk j _ hje with h1 | h1 | h1
 ·rwa [Nat.zero_add] at h1
 ·rw[Nat.zero_add] at h1
  rw[Array.getD_eq_getD_getElem?,hl.bit j hjl,h1] at hj0
  cases hj0
 ·refine(h1 (um fun k hk2=>?_)).elim
  obtain⟨e,he,hb,rfl⟩:=gV.1 hk2;have h2:=hjd e he hb
  cases hm:mask.testBit e.on with
  | true=>rfl
  | false =>
   rcases Nat.lt_or_ge e.on l.length with h3 | h3
   ·rw[Array.getD_eq_getD_getElem?,hl.bit _ h3,hm] at h2;cases h2
   ·rw[Array.getD_eq_getD_getElem?,Array.getElem?_eq_none (by rw[hl.size];exact h3)] at h2;cases h2
theorem fU{l:List Oper}(hs:Region.noSelect l.toArray=true)(hQ:∀ c a d v w,Q (.panic c) (Act.put a d v) w→Q (.panic c) a w):∀(r:Plan)(n:Nat)(listed:Array Bool)(mask:Nat)(a:Act)(w:World),C w→Lst l.length listed mask →
  jF (infos l) r mask n=true→aV P l C Q r a w→vX P .any l.toArray C Q n listed a w
 | .nil,n,listed,mask,a,w,_,hl,hB,h=>by
  simp only[jF,Nat.beq_eq,Bool.and_eq_true] at hB;obtain⟨hB,rfl⟩:=hB;refine⟨?_,h⟩;rw[List.eq_nil_iff_forall_not_mem];intro j hj;obtain⟨h0,o,ho,_⟩:=mem_ready.1 hj;have hjl:j<l.length:=by have:=(Array.getElem?_eq_some_iff.1 ho).1;simpa using this
  have hb:=hl.bit j hjl;rw[hB] at hb;have:(2 ^ (infos l).length-1).testBit j=true:=by rw[Nat.testBit_two_pow_sub_one];simp[infos,hjl]
  rw[this] at hb;rw[Array.getD_eq_getD_getElem?,hb] at h0
  cases h0
 | .plain i r,n,listed,mask,a,w,hC,hl,hB,h=>by
  unfold jF at hB
  cases hx:(infos l)[i]? with
  | none=>rw[hx] at hB;cases hB
  | some x =>
   rw[hx] at hB
   cases n with
   | zero=>cases hB
   | succ n =>
    simp only[Bool.and_eq_true] at hB;obtain⟨hu,⟨hp,hf⟩,hB⟩:=hB;obtain⟨hil,eu⟩:=jQ hl hu;have ho:l[i]?=some l[i]:=List.getElem?_eq_getElem hil;have hxe:x=iK l.toArray l[i]:=by
     simp only[infos,List.getElem?_map,ho,Option.map_some,Option.some.injEq] at hx;exact hx.symm
    have ho':l.toArray[i]?=some l[i]:=(by simp);obtain⟨o,ho2,h⟩:=h;obtain rfl:l[i]=o:=by rw[ho] at ho2;exact Option.some.inj ho2
    have hq:qOp P l.toArray C i (fun a'=>aV P l C Q r a' w) a:=(by unfold qOp;simp only[ho'];exact h);obtain⟨v,hy,hK⟩:=yieldsIn_of_qOp ho' hq;refine ng ho' (Region.noSelect_spec hs) (fun c a w=>hQ c a _ _ w) n listed a w hC (fun j oj hj hji hjun hno=>?_) eu (je (by rw[hxe] at hp;exact hp) hy) (fU hs hQ r n _ _ _ w hC (hl.set hil) hB hK);have hjl:j<l.length:=(by have:=(Array.getElem?_eq_some_iff.1 hj).1;simpa using this);have hje:(infos l)[j]?=some (iK l.toArray oj):=by
     have:l[j]?=some oj:=(by simpa using hj);simp[infos,this]
    rcases kL _ 0 hf j _ hje with h1 | h1 | h1 | h1
    ·omega
    ·rw[Nat.zero_add] at h1
     rw[Array.getD_eq_getD_getElem?,hl.bit j hjl,h1] at hjun
     cases hjun
    ·obtain⟨e,he,hb,hon⟩:=gV.1 h1
     exact absurd hon (hno e he hb)
    ·rw[hxe] at h1;exact ni h1
 | .one i r,n,listed,mask,a,w,hC,hl,hB,h=>by
  cases n with
  | zero=>cases hB
  | succ n =>
   simp only[jF,Bool.and_eq_true] at hB;obtain⟨hu,ho,hB⟩:=hB;obtain⟨hil,eu⟩:=jQ hl hu;refine⟨(fun h0=>by rw[h0] at eu;cases eu),fun j hj=>?_⟩;have:=Ad hl ho hj;simp only[List.mem_cons,List.not_mem_nil,or_false] at this;subst this;exact wpOp_mono (fun a' w' hk=>⟨hk.1,fU hs hQ r n _ _ a' w' hk.1 (hl.set hil) hB hk.2⟩) h
 | .two i r j s,n,listed,mask,a,w,hC,hl,hB,h=>by
  cases n with
  | zero=>cases hB
  | succ n =>
   simp only[jF,Bool.and_eq_true] at hB;obtain⟨⟨hu,hv⟩,ho,hB,hB2⟩:=hB;obtain⟨hil,eu⟩:=jQ hl hu;obtain⟨hjl,_⟩:=jQ hl hv;refine⟨(fun h0=>by rw[h0] at eu;cases eu),fun x hx=>?_⟩;have:=Ad hl ho hx;simp only[List.mem_cons,List.not_mem_nil,or_false] at this;rcases this with rfl | rfl
   ·exact wpOp_mono (fun a' w' hk=>⟨hk.1,fU hs hQ r n _ _ a' w' hk.1 (hl.set hil) hB hk.2⟩) h.1
   ·exact wpOp_mono (fun a' w' hk=>⟨hk.1,fU hs hQ s n _ _ a' w' hk.1 (hl.set hjl) hB2 hk.2⟩) h.2
 | .three i r j s k t,n,listed,mask,a,w,hC,hl,hB,h=>by
  cases n with
  | zero=>cases hB
  | succ n =>
   simp only[jF,Bool.and_eq_true] at hB;obtain⟨⟨⟨hu,hv⟩,hz⟩,ho,hB,hB2,hB3⟩:=hB;obtain⟨hil,eu⟩:=jQ hl hu;obtain⟨hjl,_⟩:=jQ hl hv;obtain⟨hkl,_⟩:=jQ hl hz;refine⟨(fun h0=>by rw[h0] at eu;cases eu),fun x hx=>?_⟩;have:=Ad hl ho hx;simp only[List.mem_cons,List.not_mem_nil,or_false] at this;rcases this with rfl | rfl | rfl
   ·exact wpOp_mono (fun a' w' hk=>⟨hk.1,fU hs hQ r n _ _ a' w' hk.1 (hl.set hil) hB hk.2⟩) h.1
   ·exact wpOp_mono (fun a' w' hk=>⟨hk.1,fU hs hQ s n _ _ a' w' hk.1 (hl.set hjl) hB2 hk.2⟩) h.2.1
   ·exact wpOp_mono (fun a' w' hk=>⟨hk.1,fU hs hQ t n _ _ a' w' hk.1 (hl.set hkl) hB3 hk.2⟩) h.2.2
theorem gG{id:Nat}{a:Act}{w:World}{l:List Oper}(r:Plan)(L:List Inf)(hm:P.follows .mixedOrders=true)(hs:Region.noSelect l.toArray=true)(hL:infos l=L)(hB:jF L r 0 l.length=true)
  (hQ:∀ c a d v w,Q (.panic c) (Act.put a d v) w→Q (.panic c) a w) (hC:C w.drew) (h:aV P l C Q r a w.drew):(Code.region id l.toArray true).wp P Q a w:=by
 refine wp_region_any hm ?_;have:=mZ _ _ _ _ (fU (P:=P) (C:=C) (Q:=Q) hs hQ r l.length _ 0 a w.drew hC (Lst.start _) (hL ▸ hB) h)
 simpa using this
theorem aA{l:List Oper}{i:Nat}{r:Plan}{a:Act}{w:World}(o:Oper)(ho:l[i]?=some o)(h:wpQuiet P l.toArray C (fun a'=>aV P l C Q r a' w) [o] a):aV P l C Q (.plain i r) a w:=⟨o,ho,h⟩
theorem ay{l:List Oper}{i:Nat}{K:Act→World→Prop}{a:Act}{w:World}(o:Oper)(ho:l[i]?=some o)(hw:Region.wanted o (yielded l.toArray a.tmps)=true)(h:Oper.wp P o a w K Q):wpOp P l.toArray Q i K a w:=by
 unfold wpOp;have ho':l.toArray[i]?=some o:=by simpa using ho
 simp only[ho',hw,if_true];exact .inl h
theorem bU{l:List Oper}{i:Nat}{K:Act→World→Prop}{a:Act}{w:World}{o:Oper}{f:FuncId}{fn:Func}{c:Code}{xs:Array Operand}{ts:Array TypeId}{vs:Array Value}{R:Ending→World→Prop}(h:Calls P f vs w R)(ho:l[i]?=some o)
  (hop:o.op = .call { callee := .value (.func f),args:=xs,argTypes:=ts }) (hw:Region.wanted o (yielded l.toArray a.tmps)=true) (hf:P.funcs[f]?=some fn) (hn:(fn.name == "runtime.NumGoroutine")=false) (hb:fn.body=some c) (hx:xs.map a.eval=vs)
  (hR:∀ e w',R e w'→∃ v,e = .returned v∧K (a.put o.dst v) w'):wpOp P l.toArray Q i K a w:=by
 refine ay o ho hw ?_;have hrun:(execOp a.eval o).run P w = .ok (.enter f (xs.map a.eval)) w:=by
  have h1:fn.name≠"runtime.NumGoroutine":=by simpa using hn
  simp[execOp,hop,resolve,invoke,Act.eval,callFunc,Deferred.ofValue,hf,h1,hb]
 unfold Oper.wp;rw[hrun];refine Calls.mono (hx ▸ h) fun e w2 hk=>?_;obtain⟨v,rfl,h1⟩:=hR _ _ hk;exact h1
end
section
variable {P : Program} {ops : Array Oper} {Q : Exit → Act → World → Prop} {a : Act} {w : World} {rest : List Oper} {t : TypeId} {x y : Operand} {ty : TypeId} {pos : String} {after : Array Edge} {b : Nat} {cs : Array Value} {e : TypeId} {vs : List Value}
theorem kD{o:Nat}(hp:a.eval x = .pointer (some ⟨b,o,none⟩))(hy:a.eval y = .agg vs.toArray)(hsz:sizeT P t=some vs.length)(hb:w.heap[b]?=some (.cells cs e (0,0)))(hle:o+vs.length≤cs.size)(hone:vs.all Value.oneCell'=true)
  (h:∀ w',w'.heap[b]?=some (.cells (kV cs o vs) e (0,0))→(∀ k,k≠b→w'.heap[k]?=w.heap[k]?)→Same w w'→wpList P ops Q rest a w') :
  wpList P ops Q ({ dst:=none,op := .store t x y,type:=ty,pos:=pos,after:=after,guard:=none }::rest) a w:=by
 obtain⟨w',e1,e2,e3,e4⟩:=dR (P:=P) (o:=o) vs 0 cs w hb (by omega) (fun j _=>by omega) (fun v hv=>List.all_eq_true.1 hone v hv);refine wpList_plain rfl fun K hK=>?_;have hr:(execOp a.eval { dst:=none,op := .store t x y,type:=ty,pos:=pos,after:=after,guard:=none }).run P w = .ok .skip w':=by
  have hne:¬(vs.toArray.size≠vs.length):=by simp
  simp only[execOp,hp,hy,Instr.storeAt,Instr.sureAddr,Sem.run_bind,Sem.run_pure,Result.andThen_ok,storeVar,Value.cells,run_sizeOf hsz,if_neg hne];rw[e1];rfl
 unfold Oper.wp;rw[hr];exact hK _ _ (h w' (by rw[e2,Nat.add_zero]) e3 e4)
end
section
variable {P : Program} {Q : Exit → Act → World → Prop} {K : Act → World → Prop} {a : Act} {w : World} {t : TypeId} {x y : Operand} {ty : TypeId} {pos : String} {after : Array Edge} {b : Nat} {cs : Array Value} {e : TypeId} {vs : List Value}
theorem EI{o:Nat}(hp:a.eval x = .pointer (some ⟨b,o,none⟩))(hy:a.eval y = .agg vs.toArray)(hsz:sizeT P t=some vs.length)(hb:w.heap[b]?=some (.cells cs e (0,0)))(hle:o+vs.length≤cs.size)(hone:vs.all Value.oneCell'=true)
  (h:∀ w',w'.heap[b]?=some (.cells (kV cs o vs) e (0,0))→(∀ k,k≠b→w'.heap[k]?=w.heap[k]?)→Same w w'→K a w') :
  Oper.wp P { dst:=none,op := .store t x y,type:=ty,pos:=pos,after:=after,guard:=none } a w K Q:=by
 obtain⟨w',e1,e2,e3,e4⟩:=dR (P:=P) (o:=o) vs 0 cs w hb (by omega) (fun j _=>by omega) (fun v hv=>List.all_eq_true.1 hone v hv);have hr:(execOp a.eval { dst:=none,op := .store t x y,type:=ty,pos:=pos,after:=after,guard:=none }).run P w = .ok .skip w':=by
  have hne:¬(vs.toArray.size≠vs.length):=by simp
  simp only[execOp,hp,hy,Instr.storeAt,Instr.sureAddr,Sem.run_bind,Sem.run_pure,Result.andThen_ok,storeVar,Value.cells,run_sizeOf hsz,if_neg hne];rw[e1];rfl
 unfold Oper.wp;rw[hr];exact h w' (by rw[e2,Nat.add_zero]) e3 e4
theorem aG(hp:a.eval x = .pointer (some ⟨b,0,none⟩))(hy:a.eval y = .agg vs.toArray)(hsz:sizeT P t=some vs.length)(hb:w.heap[b]?=some (.cells cs e (0,0)))(hle:cs.size=vs.length)(hone:vs.all Value.oneCell'=true)
  (h:∀ w',w'.heap[b]?=some (.cells vs.toArray e (0,0))→(∀ k,k≠b→w'.heap[k]?=w.heap[k]?)→Same w w'→K a w') :
  Oper.wp P { dst:=none,op := .store t x y,type:=ty,pos:=pos,after:=after,guard:=none } a w K Q :=
 EI hp hy hsz hb (by omega) hone fun w' h1 h2 h3=>h w' (by rw[h1,nI vs cs hle.symm]) h2 h3
theorem aI{o:Nat}{v:Value}(hp:a.eval x = .pointer (some ⟨b,o,none⟩))(hy:a.eval y=v)(hv:v.oneCell'=true)(hsz:sizeT P t=some 1)(hb:w.heap[b]?=some (.cells cs e (0,0)))(ho:o<cs.size)
  (h:∀ w',w'.heap[b]?=some (.cells (cs.setIfInBounds o v) e (0,0))→(∀ k,k≠b→w'.heap[k]?=w.heap[k]?)→Same w w'→K a w') :
  Oper.wp P { dst:=none,op := .store t x y,type:=ty,pos:=pos,after:=after,guard:=none } a w K Q:=by
 obtain⟨w',e1,e2,e3,e4⟩:=dR (P:=P) (o:=o) [v] 0 cs w hb (by simp only[List.length_singleton];omega) (fun j _=>by omega) (fun u hu=>by rw[List.mem_singleton.1 hu];exact hv);have hr:(execOp a.eval { dst:=none,op := .store t x y,type:=ty,pos:=pos,after:=after,guard:=none }).run P w = .ok .skip w':=by
  have hne:¬(#[v].size≠1):=by simp
  simp only[execOp,hp,hy,Instr.storeAt,Instr.sureAddr,Sem.run_bind,Sem.run_pure,Result.andThen_ok,storeVar,cells_one hv,run_sizeOf hsz,if_neg hne];rw[e1];rfl
 unfold Oper.wp;rw[hr];exact h w' (by rw[e2];rfl) e3 e4
end
end
end Go.Proofs.YtkjgogdkdejljaaGreatDoor.AX
namespace Go.Proofs.YtkjgogdkdejljaaGreatDoor.Rx
open Go Go.Proofs Go.RowKit
attribute [local go_sem] Oper.semAt_some
theorem bH{P:Program}{ops:Array Oper}{Q:Exit→Act→World→Prop}{a:Act}{w:World}{rest:List Oper}{t:TypeId}{x y:Operand}{ty:TypeId}{pos:String}{after:Array Edge}(h:wpList P ops Q ({ dst:=none,op := .store t x y,type:=ty,pos:=pos,after:=after,guard:=none }::rest) a w) :
 wpList P ops Q ({ dst:=none,op := .store t x y,type:=ty,pos:=pos,after:=after,guard:=none }::rest) a w:=h
def Bx(w:World)(b:Nat)(t:TypeId)(cs:Array Value):Prop:=w.heap[b]?=some (.cells cs t (0,0))
theorem Bx.lt{w:World}{B:Nat}{t:TypeId}{cs:Array Value}(h:Bx w B t cs):B<w.heap.size:=(Array.getElem?_eq_some_iff.1 h).1
theorem Bx.new(w:World)(t:TypeId)(cs:Array Value):Bx (w.alloc (.cells cs t)) w.heap.size t cs:=World.alloc_heap_new w _
theorem Bx.cell{w:World}{B:Nat}{t:TypeId}{cs:Array Value}(h:Bx w B t cs)(j:Nat):w.cell? ⟨B,j,none⟩=cs[j]?:=by simp[World.cell?,show w.heap[B]?=_ from h]
theorem Bx.frozen{w:World}{B:Nat}{t:TypeId}{cs:Array Value}(h:Bx w B t cs)(j:Nat):w.frozen? ⟨B,j,none⟩=false:=by simp[World.frozen?,show w.heap[B]?=_ from h]
theorem Bx.below{n B:Nat}{t:TypeId}{cs:Array Value}{w w':World}(h:Bx w B t cs)(hb:Below n w w')(hn:B<n):Bx w' B t cs:=(hb.block _ hn).trans h
theorem Bx.same{B:Nat}{t:TypeId}{cs:Array Value}{w w':World}(h:Bx w B t cs)(e:w'.heap[B]?=w.heap[B]?):Bx w' B t cs:=e.trans h
theorem Bx.alloc{w:World}{B:Nat}{t:TypeId}{cs:Array Value}(h:Bx w B t cs)(o:Obj):Bx (w.alloc o) B t cs:=(Below.heap_alloc _ _ _ h.lt).trans h
theorem Bx.iQ{S:Nat→Prop}{B:Nat}{t:TypeId}{cs:Array Value}{w w':World}(h:Bx w B t cs)(hb:fV S w w')(hn:¬S B):Bx w' B t cs:=h.same (hb.same _ h.lt hn)
theorem Bx.but{A B:Nat}{t:TypeId}{cs:Array Value}{w w':World}(h:Bx w B t cs)(hb:AX.But A w w')(hn:B≠A):Bx w' B t cs:=h.same (hb.same _ h.lt hn)
theorem Bx.set{w:World}{B:Nat}{t:TypeId}{cs:Array Value}(h:Bx w B t cs)(i:Nat)(v:Value):Bx (w.setCell ⟨B,i,none⟩ v) B t (cs.setIfInBounds i v):=by
 have h':w.heap[B]?=_:=h;simp[Bx,World.setCell,Array.getElem?_modify,h']
theorem Bx.other{W:World}{B B' i:Nat}{t:TypeId}{cs:Array Value}{v:Value}(h:Bx W B t cs)(hne:B≠B'):Bx (W.setCell ⟨B',i,none⟩ v) B t cs:=h.same (Below.heap_setCell _ _ _ _ hne)
theorem Bx.three{w:World}{B:Nat}{t:TypeId}{v0 v1 v2:Value}(h:Bx w B t #[v0,v1,v2]):w.cell? ⟨B,0,none⟩=some v0∧w.cell? ⟨B,1,none⟩=some v1∧w.cell? ⟨B,2,none⟩=some v2:=⟨h.cell 0,h.cell 1,h.cell 2⟩
theorem pV{A n:Nat}{X Y:World}(h:AX.But A X Y)(hA:n≤A)(hn:n≤X.heap.size):Below n X Y:=(fV.vN (S:=(· = A)) h rfl).below hn (fun k e=>by omega)
theorem iP:AX.sizeT Tryz.prog 205=some 3:=by kernel_rfl
theorem adi:AX.sizeT Tryz.prog 202=some 3:=by kernel_rfl
theorem Yf:AX.sizeT Tryz.prog 153=some 6:=by kernel_rfl
theorem sz4:AX.sizeT Tryz.prog 4=some 1:=by kernel_rfl
theorem adk:AX.sizeT Tryz.prog 203=some 1:=by kernel_rfl
theorem adl:AX.sizeT Tryz.prog 200=some 1:=by kernel_rfl
def H9(w w':World)(n:Nat)(x:En)(e:Ending):Prop:=∃ F cf L cl,e = .returned (.agg #[.bool x.e, .slice (some ⟨F,0,none⟩) n cf, .slice (some ⟨L,0,none⟩) n cl])∧w.heap.size≤F∧w.heap.size≤L∧F≠L∧aJ w' F x.f∧aJ w' L x.l
def Ar:AX.Plan := .plain 0 (.plain 1 (.plain 2 (.plain 3 (.plain 4 (.plain 5 (.plain 6 (.plain 7 (.plain 9 (.plain 10 (.two 8 (.two 11 (.plain 12 (.one 13 (.one 14 (.nil)))) 13 (.one 11 (.plain 12 (.one 14 (.nil))))) 13 (.one 8 (.one 11 (.plain 12 (.one 14 (.nil)))))))))))))))
def oZ:List AX.Inf:=[⟨0,16384,16,true⟩,⟨1,32768,16384,true⟩,⟨2,65536,32768,true⟩,⟨4,131072,65568,true⟩,⟨12,262144,196608,true⟩,⟨20,524288,327680,true⟩,⟨0,1048576,16,true⟩,⟨64,2097152,1048576,true⟩,⟨132,4194304,2097152,false⟩,⟨0,8388608,32,true⟩,⟨512,16777216,8388608,true⟩,⟨1280,33554432,16777216,false⟩,⟨2336,67108864,38273024,true⟩,⟨0,128,0,false⟩,⟨16383,0,67108992,false⟩]
theorem U4:AX.jF oZ Ar 0 15=true:=by kernel_rfl
theorem aa1(NB n M c:Nat)(bs:Nat→Nat)(rv ev:Value)(nx:List (List Bool))(a b:En)(Fa cfa La cla Fb cfb Lb clb:Nat)(hn1:1≤n)(hn:n≤1000000)(hM:M≤n)(hfa:a.f.length=n)(hla:a.l.length=n)(hfb:b.f.length=n)(hlb:b.l.length=n)
  (hlM:∀ p,mem a.l p→p<M) (hap:∀ i,i<M→bs i≠Fa∧bs i≠La∧bs i≠Fb∧bs i≠Lb) (w:World) (hN:NAt w NB n M bs nx) (hFa:aJ w Fa a.f) (hLa:aJ w La a.l) (hFb:aJ w Fb b.f) (hLb:aJ w Lb b.l) :
  Calls Tryz.prog 140 #[.agg #[rv,ev, .slice (some ⟨NB,0,none⟩) n c], .agg #[.bool a.e, .slice (some ⟨Fa,0,none⟩) n cfa, .slice (some ⟨La,0,none⟩) n cla], .agg #[.bool b.e, .slice (some ⟨Fb,0,none⟩) n cfb, .slice (some ⟨Lb,0,none⟩) n clb]] w fun e w' =>
   H9 w w' n (Af a b) e ∧
   NAt w' NB n M bs (kN nx a.l b.f)∧fV (fun k=>∃ i,i<M∧k=bs i) w w':=by
 have hFl:=hFa.lt;have hLl:=hLa.lt;have abf:=hFb.lt;have abg:=hLb.lt;have hNl:=hN.lt;have hbb:=fun i (hi:i<M)=>hN.blt hM hi;have hB0:Below w.heap.size w ((((w.alloc (.cells #[rv,ev, .slice (some ⟨NB,0,none⟩) n c] 202)).alloc (.cells #[.bool a.e, .slice (some ⟨Fa,0,none⟩) n cfa, .slice (some ⟨La,0,none⟩) n cla] 205)).alloc (.cells #[.bool b.e, .slice (some ⟨Fb,0,none⟩) n cfb, .slice (some ⟨Lb,0,none⟩) n clb] 205)).alloc (.cells #[.bool false, .slice none 0 0, .slice none 0 0] 205)) :=
  ((((Below.refl _ w).alloc Nat.le.refl _).alloc (by simp) _).alloc (by simp<;>omega) _).alloc (by simp<;>omega) _
 have x3:=(((Bx.new w 202 #[rv,ev, .slice (some ⟨NB,0,none⟩) n c]).alloc (.cells #[.bool a.e, .slice (some ⟨Fa,0,none⟩) n cfa, .slice (some ⟨La,0,none⟩) n cla] 205)).alloc (.cells #[.bool b.e, .slice (some ⟨Fb,0,none⟩) n cfb, .slice (some ⟨Lb,0,none⟩) n clb] 205)).alloc (.cells #[.bool false, .slice none 0 0, .slice none 0 0] 205);have x4:=((Bx.new (w.alloc (.cells #[rv,ev, .slice (some ⟨NB,0,none⟩) n c] 202)) 205 #[.bool a.e, .slice (some ⟨Fa,0,none⟩) n cfa, .slice (some ⟨La,0,none⟩) n cla]).alloc (.cells #[.bool b.e, .slice (some ⟨Fb,0,none⟩) n cfb, .slice (some ⟨Lb,0,none⟩) n clb] 205)).alloc (.cells #[.bool false, .slice none 0 0, .slice none 0 0] 205);have x5:=(Bx.new ((w.alloc (.cells #[rv,ev, .slice (some ⟨NB,0,none⟩) n c] 202)).alloc (.cells #[.bool a.e, .slice (some ⟨Fa,0,none⟩) n cfa, .slice (some ⟨La,0,none⟩) n cla] 205)) 205 #[.bool b.e, .slice (some ⟨Fb,0,none⟩) n cfb, .slice (some ⟨Lb,0,none⟩) n clb]).alloc (.cells #[.bool false, .slice none 0 0, .slice none 0 0] 205);have x6:=Bx.new (((w.alloc (.cells #[rv,ev, .slice (some ⟨NB,0,none⟩) n c] 202)).alloc (.cells #[.bool a.e, .slice (some ⟨Fa,0,none⟩) n cfa, .slice (some ⟨La,0,none⟩) n cla] 205)).alloc (.cells #[.bool b.e, .slice (some ⟨Fb,0,none⟩) n cfb, .slice (some ⟨Lb,0,none⟩) n clb] 205)) 205 #[.bool false, .slice none 0 0, .slice none 0 0];simp only[World.size_alloc] at x4 x5 x6;go_enter Tryz.func140,Tryz.ntmps140
 go_wp2_with fail
 generalize (((w.alloc (.cells #[rv,ev, .slice (some ⟨NB,0,none⟩) n c] 202)).alloc (.cells #[.bool a.e, .slice (some ⟨Fa,0,none⟩) n cfa, .slice (some ⟨La,0,none⟩) n cla] 205)).alloc (.cells #[.bool b.e, .slice (some ⟨Fb,0,none⟩) n cfb, .slice (some ⟨Lb,0,none⟩) n clb] 205)).alloc (.cells #[.bool false, .slice none 0 0, .slice none 0 0] 205)=W0 at *;have hN0:=hN.below hB0 hNl hbb;have abh:=hFa.below hB0 hFl;have Yv:=hLa.below hB0 hLl;have Yw:=hFb.below hB0 abf;have abj:=hLb.below hB0 abg;clear hFa hLa hFb hLb hN;have hfo:=Ig NB La Fb n M c cla cfb bs rv ev nx a.l b.f hM hn hla hfb hlM (fun i hi=>(hap i hi).2.1) (fun i hi=>(hap i hi).2.2.1) W0 hN0 Yv Yw;go_wp2_with (go_at_call 141;refine hfo.mono ?_;rintro e W1 ⟨rfl,hN1,hbu⟩)
 have y3:=x3.iQ hbu (by rintro⟨i,hi,e⟩;have:=hbb i hi;omega);have y4:=x4.iQ hbu (by rintro⟨i,hi,e⟩;have:=hbb i hi;omega);have y5:=x5.iQ hbu (by rintro⟨i,hi,e⟩;have:=hbb i hi;omega);have y6:=x6.iQ hbu (by rintro⟨i,hi,e⟩;have:=hbb i hi;omega);have Yx:=abh.iQ hbu (by rintro⟨i,hi,e⟩;exact(hap i hi).1 e.symm);have Yy:=Yv.iQ hbu (by rintro⟨i,hi,e⟩;exact(hap i hi).2.1 e.symm);have Yz:=Yw.iQ hbu (by rintro⟨i,hi,e⟩;exact(hap i hi).2.2.1 e.symm);have YA:=abj.iQ hbu (by rintro⟨i,hi,e⟩;exact(hap i hi).2.2.2 e.symm);have FV:fV (fun k=>∃ i,i<M∧k=bs i) w W1:=(fV.of_below hB0).trans hbu;have hs1:w.heap.size+4≤W1.heap.size:=by have:=y6.lt;omega
 clear x3 x4 x5 x6 abh Yv Yw abj hN0 hfo hB0 hbu;obtain⟨s,hs⟩:∃ s,s=w.heap.size:=⟨_,rfl⟩;rw[←hs] at y3 y4 y5 y6 hFl hLl abf abg hNl hbb hs1 ⊢;have HS:=Lib.hid hs;clear hs;have hbl:=fun i (hi:i<M)=>hN1.blt hM hi;go_cut [7] from 14 to 26 (fun t7 wz=>∃ X F cf L cl:Nat,t7 = .pointer (some ⟨X,0,none⟩)∧Bx wz X 205 #[.bool (a.e && b.e), .slice (some ⟨F,0,none⟩) n cf, .slice (some ⟨L,0,none⟩) n cl]∧aJ wz F a.f∧aJ wz L b.l∧W1.heap.size≤F∧W1.heap.size≤L∧W1.heap.size≤X∧F≠L∧X≠F∧X≠L∧Below W1.heap.size W1 wz)
 case first =>
  have c4:=fun p=>AX.aF y4.three.1 y4.lt p;have c4':=fun p=>AX.aF y4.three.2.1 y4.lt p;have c5:=fun p=>AX.aF y5.three.1 y5.lt p;have c5':=fun p=>AX.aF y5.three.2.2 y5.lt p;have abk:=fun W (hb:Below W1.heap.size W1 W)=>Ld Fa n cfa a.f hfa hn1 hn W (Yx.below hb Yx.lt);have YC:=fun W (hb:Below W1.heap.size W1 W)=>Ld Lb n clb b.l hlb hn1 hn W (YA.below hb YA.lt);have hW:Below W1.heap.size W1 W1.drew:=(Below.refl _ W1).drew;obtain⟨ae,af,al⟩:=a;obtain⟨be,bf,bl⟩:=b;dsimp only at *;clear y3 y4 y5 y6 hap hlM hbb hbl
  cases ae
  all_goals
   refine AX.gG (C:=fun W=>∃ p:AX.BW W1,W=p.W) Ar oZ (by kernel_rfl) (by kernel_rfl) (by kernel_rfl) U4 (by intro c a d v w h;cases d<;>exact h) ⟨⟨W1.drew,hW⟩,rfl⟩ ?_;unfold Ar;generalize W1.drew=Wd at *
   repeat (refine AX.aA _ (by rfl) ?_;go_big_quiet_step (fail);refine wpQuiet_nil ?_)
   refine⟨?_,?_⟩
   ·refine AX.bU (abk _ hW) (by rfl) (by rfl) (by rfl) Tryz.func169 (by kernel_rfl) (by rfl) (by simp only[List.map_toArray,List.map_cons,List.map_nil];rfl) ?_
    rintro e W2 ⟨⟨F,cf,rfl,gF,rF⟩,hb2⟩;have hW2:Below W1.heap.size W1 W2:=hW.trans (hb2.mono hW.size);have sF:=hW.size;refine⟨_,rfl,⟨⟨W2,hW2⟩,rfl⟩,?_⟩;simp only[Act.put,List.setIfInBounds_toArray,List.set_cons_succ,List.set_cons_zero];refine⟨?_,?_⟩
    ·refine AX.bU (YC _ hW2) (by rfl) (by rfl) (by rfl) Tryz.func169 (by kernel_rfl) (by rfl) (by simp only[List.map_toArray,List.map_cons,List.map_nil];rfl) ?_
     rintro e W3 ⟨⟨L,cl,rfl,gL,rL⟩,hb3⟩;have hW3:Below W1.heap.size W1 W3:=hW2.trans (hb3.mono hW2.size);have sL:=hW2.size;have qF:=rF.lt;replace rF:=rF.below hb3 rF.lt;refine⟨_,rfl,⟨⟨W3,hW3⟩,rfl⟩,?_⟩;simp only[Act.put,List.setIfInBounds_toArray,List.set_cons_succ,List.set_cons_zero];refine AX.aA _ (by rfl) ?_;go_big_quiet_step (fail);refine wpQuiet_nil ?_;refine AX.ay _ (by rfl) (by rfl) ?_;unfold Oper.wp;go_simp
     have rX:=Bx.new W3 205 #[.bool false, .slice none 0 0, .slice none 0 0];have hb4:Below W3.heap.size W3 (W3.alloc (.cells #[.bool false, .slice none 0 0, .slice none 0 0] 205)):=(Below.refl _ _).alloc Nat.le.refl _;have hW4:Below W1.heap.size W1 (W3.alloc (.cells #[.bool false, .slice none 0 0, .slice none 0 0] 205)):=hW3.trans (hb4.mono hW3.size);have qF:=rF.lt;replace rF:=rF.below hb4 rF.lt;have qL:=rL.lt;replace rL:=rL.below hb4 rL.lt;have sX:=hW3.size;obtain⟨X,hX⟩:∃ X,X=W3.heap.size:=⟨_,rfl⟩;generalize W3.alloc (.cells #[.bool false, .slice none 0 0, .slice none 0 0] 205)=W4 at *;rw[←hX] at rX ⊢;refine⟨⟨⟨W4,hW4⟩,rfl⟩,?_⟩;refine AX.ay _ (by rfl) (by rfl) ?_;refine AX.aG (vs:=[.bool _, .slice (some ⟨F,0,none⟩) n cf, .slice (some ⟨L,0,none⟩) n cl]) rfl rfl iP rX rfl rfl ?_;rintro W9 h3 h4 h5;have qF:=rF.lt;have qL:=rL.lt;have hW9:Below W1.heap.size W1 W9:=hW4.trans (AX.aj (show W1.heap.size≤X by omega) (.inl (Array.getElem?_eq_some_iff.1 h3).1) h4 h5);refine⟨⟨⟨W9,hW9⟩,rfl⟩,?_⟩;unfold AX.aV;go_wp2_with fail
     go_meet
     case rel=>exact⟨X,F,cf,L,cl,rfl,h3,rF.same (h4 _ (by omega)),rL.same (h4 _ (by omega)),by omega,by omega,by omega,by omega,by omega,by omega,hW9⟩
    ·refine AX.ay _ (by rfl) (by rfl) ?_
     unfold Oper.wp;go_simp
     have rX:=Bx.new W2 205 #[.bool false, .slice none 0 0, .slice none 0 0];have hb3:Below W2.heap.size W2 (W2.alloc (.cells #[.bool false, .slice none 0 0, .slice none 0 0] 205)):=(Below.refl _ _).alloc Nat.le.refl _;have hW3:Below W1.heap.size W1 (W2.alloc (.cells #[.bool false, .slice none 0 0, .slice none 0 0] 205)):=hW2.trans (hb3.mono hW2.size);have qF:=rF.lt;replace rF:=rF.below hb3 rF.lt;have sX:=hW2.size;obtain⟨X,hX⟩:∃ X,X=W2.heap.size:=⟨_,rfl⟩;generalize W2.alloc (.cells #[.bool false, .slice none 0 0, .slice none 0 0] 205)=W3 at *;rw[←hX] at rX ⊢;refine⟨⟨⟨W3,hW3⟩,rfl⟩,?_⟩;refine AX.bU (YC _ hW3) (by rfl) (by rfl) (by rfl) Tryz.func169 (by kernel_rfl) (by rfl) (by simp only[List.map_toArray,List.map_cons,List.map_nil];rfl) ?_;rintro e W4 ⟨⟨L,cl,rfl,gL,rL⟩,hb4⟩;have hW4:Below W1.heap.size W1 W4:=hW3.trans (hb4.mono hW3.size);have sL:=hW3.size;have qF:=rF.lt;replace rF:=rF.below hb4 rF.lt;have qX:=rX.lt;replace rX:=rX.below hb4 rX.lt;refine⟨_,rfl,⟨⟨W4,hW4⟩,rfl⟩,?_⟩;simp only[Act.put,List.setIfInBounds_toArray,List.set_cons_succ,List.set_cons_zero];refine AX.aA _ (by rfl) ?_;go_big_quiet_step (fail);refine wpQuiet_nil ?_;refine AX.ay _ (by rfl) (by rfl) ?_;refine AX.aG (vs:=[.bool _, .slice (some ⟨F,0,none⟩) n cf, .slice (some ⟨L,0,none⟩) n cl]) rfl rfl iP rX rfl rfl ?_;rintro W9 h3 h4 h5;have qF:=rF.lt;have qL:=rL.lt;have hW9:Below W1.heap.size W1 W9:=hW4.trans (AX.aj (show W1.heap.size≤X by omega) (.inl (Array.getElem?_eq_some_iff.1 h3).1) h4 h5);refine⟨⟨⟨W9,hW9⟩,rfl⟩,?_⟩;unfold AX.aV;go_wp2_with fail
     go_meet
     case rel=>exact⟨X,F,cf,L,cl,rfl,h3,rF.same (h4 _ (by omega)),rL.same (h4 _ (by omega)),by omega,by omega,by omega,by omega,by omega,by omega,hW9⟩
   ·refine AX.ay _ (by rfl) (by rfl) ?_
    unfold Oper.wp;go_simp
    have rX:=Bx.new Wd 205 #[.bool false, .slice none 0 0, .slice none 0 0];have hb2:Below Wd.heap.size Wd (Wd.alloc (.cells #[.bool false, .slice none 0 0, .slice none 0 0] 205)):=(Below.refl _ _).alloc Nat.le.refl _;have hW2:Below W1.heap.size W1 (Wd.alloc (.cells #[.bool false, .slice none 0 0, .slice none 0 0] 205)):=hW.trans (hb2.mono hW.size);have sX:=hW.size;obtain⟨X,hX⟩:∃ X,X=Wd.heap.size:=⟨_,rfl⟩;generalize Wd.alloc (.cells #[.bool false, .slice none 0 0, .slice none 0 0] 205)=W2 at *;rw[←hX] at rX ⊢;refine⟨⟨⟨W2,hW2⟩,rfl⟩,?_⟩;refine AX.bU (abk _ hW2) (by rfl) (by rfl) (by rfl) Tryz.func169 (by kernel_rfl) (by rfl) (by simp only[List.map_toArray,List.map_cons,List.map_nil];rfl) ?_;rintro e W3 ⟨⟨F,cf,rfl,gF,rF⟩,hb3⟩;have hW3:Below W1.heap.size W1 W3:=hW2.trans (hb3.mono hW2.size);have sF:=hW2.size;have qX:=rX.lt;replace rX:=rX.below hb3 rX.lt;refine⟨_,rfl,⟨⟨W3,hW3⟩,rfl⟩,?_⟩;simp only[Act.put,List.setIfInBounds_toArray,List.set_cons_succ,List.set_cons_zero];refine AX.bU (YC _ hW3) (by rfl) (by rfl) (by rfl) Tryz.func169 (by kernel_rfl) (by rfl) (by simp only[List.map_toArray,List.map_cons,List.map_nil];rfl) ?_;rintro e W4 ⟨⟨L,cl,rfl,gL,rL⟩,hb4⟩;have hW4:Below W1.heap.size W1 W4:=hW3.trans (hb4.mono hW3.size);have sL:=hW3.size;have qX:=rX.lt;replace rX:=rX.below hb4 rX.lt;have qF:=rF.lt;replace rF:=rF.below hb4 rF.lt;refine⟨_,rfl,⟨⟨W4,hW4⟩,rfl⟩,?_⟩;simp only[Act.put,List.setIfInBounds_toArray,List.set_cons_succ,List.set_cons_zero];refine AX.aA _ (by rfl) ?_;go_big_quiet_step (fail);refine wpQuiet_nil ?_;refine AX.ay _ (by rfl) (by rfl) ?_;refine AX.aG (vs:=[.bool _, .slice (some ⟨F,0,none⟩) n cf, .slice (some ⟨L,0,none⟩) n cl]) rfl rfl iP rX rfl rfl ?_;rintro W9 h3 h4 h5;have qF:=rF.lt;have qL:=rL.lt;have hW9:Below W1.heap.size W1 W9:=hW4.trans (AX.aj (show W1.heap.size≤X by omega) (.inl (Array.getElem?_eq_some_iff.1 h3).1) h4 h5);refine⟨⟨⟨W9,hW9⟩,rfl⟩,?_⟩;unfold AX.aV;go_wp2_with fail
    go_meet
    case rel=>exact⟨X,F,cf,L,cl,rfl,h3,rF.same (h4 _ (by omega)),rL.same (h4 _ (by omega)),by omega,by omega,by omega,by omega,by omega,by omega,hW9⟩
 case rest =>
  obtain⟨X,F,cf,L,cl,rfl,hX,hF,hL,hgF,hgL,hgX,hFL,hXF,hXL,hz⟩:=hcut;have z4:=y4.below hz y4.lt;have z5:=y5.below hz y5.lt;have z6:=y6.below hz y6.lt;have YD:=Yy.below hz Yy.lt;have adv:=Yz.below hz Yz.lt;have hz2:Below s W1 wc:=hz.mono (by omega);clear y3 y4 y5 y6 Yx Yy Yz YA hz;have Yh:=fun W (h1:aJ W F a.f) (h2:aJ W Fb b.f)=>NG F Fb cf cfb n a.f b.f (by omega) hfa hfb hn W h1 h2;have hor2:=fun W (h1:aJ W L b.l) (h2:aJ W La a.l)=>NG L La cl cla n b.l a.l (by omega) hlb hla hn W h1 h2;obtain⟨f0,f1,f2⟩:=z4.three;obtain⟨g0,g1,g2⟩:=z5.three;obtain⟨ae,af,al⟩:=a;obtain⟨be,bf,bl⟩:=b;dsimp only[Af] at *;obtain⟨x0,x1,x2⟩:=hX.three;have HE:Hid (∀ W,Below s W1 W→NAt W NB n M bs (kN nx al bf)∧fV (fun k=>∃ i,i<M∧k=bs i) w W):=Lib.hid fun W h=>⟨hN1.below h hNl hbb,⟨FV.low.trans (h.mono (Nat.zero_le _)),fun k hk hn=>(h.block k (by rw[HS.out];exact hk)).trans (FV.same k hk hn)⟩⟩;have HG:Hid (w.heap.size≤F∧w.heap.size≤L):=Lib.hid (by have:=HS.out;omega)
  cases ae<;>cases be
  all_goals
   go_wp2_with (first
    | (go_at_call 126;(with_reducible refine (Yh _ hF adv).mono ?_);rintro e W2 ⟨rfl,hF2,hbF⟩;have hz2:=hz2.trans (pV hbF (by omega) (by have:=hz2.size;omega));have z4:=z4.but hbF (by omega);have z5:=z5.but hbF (by omega);have z6:=z6.but hbF (by omega);have hX:=hX.but hbF (by omega);have hF:=hF2;have hL:=hL.but hbF (by omega);have YD:=YD.but hbF (by omega);obtain⟨x0,x1,x2⟩:=hX.three;obtain⟨f0,f1,f2⟩:=z4.three;obtain⟨g0,g1,g2⟩:=z5.three)
    | (go_at_call 126;(with_reducible refine(hor2 _ hL YD).mono ?_);rintro e W2 ⟨rfl,hL2,hbL⟩;have hz2:=hz2.trans (pV hbL (by omega) (by have:=hz2.size;omega));have z4:=z4.but hbL (by omega);have z5:=z5.but hbL (by omega);have z6:=z6.but hbL (by omega);have hX:=hX.but hbL (by omega);have hL:=hL2;have hF:=hF.but hbL (by omega);obtain⟨x0,x1,x2⟩:=hX.three;obtain⟨f0,f1,f2⟩:=z4.three;obtain⟨g0,g1,g2⟩:=z5.three)
    | ((with_reducible refine bH ?_);refine AX.au (vs:=[.bool _, .slice (some ⟨F,0,none⟩) n cf, .slice (some ⟨L,0,none⟩) n cl]) rfl rfl iP z6 rfl rfl ?_;rintro W9 h3 h4 h5;have hz9:=HE.out _ (hz2.trans (AX.aj (show s≤s+1+1+1 by omega) (.inl (Array.getElem?_eq_some_iff.1 h3).1) h4 h5));have hF9:=hF.same (h4 _ (by omega));have hL9:=hL.same (h4 _ (by omega));obtain⟨d0,d1,d2⟩:=Bx.three h3))
   refine bodyPost_ret (v := .agg #[_, .slice (some ⟨F,0,none⟩) n cf, .slice (some ⟨L,0,none⟩) n cl]) (by simp[results,Tryz.results140,go_sem,d0,d1,d2];rfl) rfl ⟨⟨F,cf,L,cl,rfl,HG.out.1,HG.out.2,hFL,hF9,hL9⟩,hz9.1,hz9.2⟩
end Go.Proofs.YtkjgogdkdejljaaGreatDoor.Rx
