import Derived.Test.YtkjgogdkdejljaaGreatDoorLxL10
import Derived.Maps.AppendAt
import Derived.RangeFuncNested
import Derived.TacticsInMore
import Derived.LoopNIn
import Derived.LoopIn
set_option maxRecDepth 100000
set_option maxHeartbeats 40000000
namespace Go.Proofs.YtkjgogdkdejljaaGreatDoor.Lx
open Go Go.Proofs Go.RowKit
attribute [local go_sem] Oper.semAt_some
section
variable {next rule kind : List Int} {kinds : Int} {an ar ak : Option Addr} {cn cr ck : Nat} {w : World}
def Pv(next rule kind:List Int)(kinds:Int)(s:ByteArray)(at_:Int):Value:=if okL next rule kind kinds=true∧0≤at_∧at_≤s.size then .tuple #[tkV (dw next rule kind (sb s) at_.toNat), .int .i64 0] else .tuple #[.agg #[.int .i64 0, .int .i64 0, .int .i64 0, .int .i64 0, .int .i64 0], .int .i64 2]
theorem Xi(hn:next.length≤1000000)(hr:rule.length≤1000000)(hk:kind.length≤1000000)(hN:aK w an next)(hR:aK w ar rule)(hK:aK w ak kind)(s:ByteArray)(at_:Int)(hs:s.size≤1000000) :
  Calls Tryz.prog 20 #[lV an ar ak next.length rule.length kind.length cn cr ck kinds, .string s, .int .i64 at_] w fun e w'=>e = .returned (Pv next rule kind kinds s at_)∧Below w.heap.size w w':=by
 have hmy:=fun W (hb:Below w.heap.size w W)=>KC (cn:=cn) (cr:=cr) (ck:=ck) (kinds:=kinds) hn hr hk (hN.below hb Nat.le.refl) (hR.below hb Nat.le.refl) (hK.below hb Nat.le.refl) s at_ hs;have hnx:=fun(ho:okL next rule kind kinds=true∧0≤at_∧at_≤s.size) W (hb:Below w.heap.size w W)=>Qn (cn:=cn) (cr:=cr) (ck:=ck) (hN.below hb Nat.le.refl) (hR.below hb Nat.le.refl) (hK.below hb Nat.le.refl) ho.1 s at_.toNat (by omega) hs;obtain⟨W0,hW0⟩:∃ W0,W0=((w.alloc (.cells #[.slice an next.length cn, .slice ar rule.length cr, .slice ak kind.length ck, .int .i64 kinds] 29)).alloc (.cells #[.int .i64 0, .int .i64 0, .int .i64 0, .int .i64 0, .int .i64 0] 42)):=⟨_,rfl⟩;have hD:Nx w W0 next rule kind kinds an ar ak cn cr ck:=by
  refine⟨hW0 ▸ ((Below.refl w.heap.size w).alloc Nat.le.refl _).alloc (by simp) _,hW0 ▸ (Bx.new _ _ _).alloc _,?_⟩;have:=Bx.new (w.alloc (.cells #[.slice an next.length cn, .slice ar rule.length cr, .slice ak kind.length ck, .int .i64 kinds] 29)) 42 #[.int .i64 0, .int .i64 0, .int .i64 0, .int .i64 0, .int .i64 0];rw[World.size_alloc] at this;exact hW0 ▸ this
 have hT:W0.heap.size=w.heap.size+1+1:=by rw[hW0];simp
 unfold lV tkV at *;unfold Ep at hmy;unfold Pv tkV;clear hN hR hK
 by_cases ho:okL next rule kind kinds=true∧0≤at_∧at_≤s.size
 ·simp only[if_pos ho] at hmy ⊢
  have hnx:=hnx ho;obtain⟨a,rfl⟩:∃ a:Nat,at_=a:=⟨at_.toNat,by omega⟩;rw[Int.toNat_natCast] at hnx ⊢;clear ho;generalize dw next rule kind (sb s) a=t at *
  have h22:=hmy W0 hD.b;clear hmy;go_enter Tryz.func20,Tryz.ntmps20
  go_wp2_with fail
  rw[←hW0];clear hW0;go_wp2_with (first
   | (go_at_call 47;((with_reducible refine h22.mono ?_);rintro e W1 ⟨rfl,hb1⟩;have hS1:=hD.below (hb1.mono (by omega));have d0:W1.cell? ⟨w.heap.size,0,none⟩=some (.slice an next.length cn):=hS1.d.cell 0;have d1:W1.cell? ⟨w.heap.size,1,none⟩=some (.slice ar rule.length cr):=hS1.d.cell 1;have d2:W1.cell? ⟨w.heap.size,2,none⟩=some (.slice ak kind.length ck):=hS1.d.cell 2;have d3:W1.cell? ⟨w.heap.size,3,none⟩=some (.int .i64 kinds):=hS1.d.cell 3))
   | (go_at_call 48;((with_reducible refine(hnx W1 hS1.b).mono ?_);rintro e W2 ⟨rfl,hb2⟩;have hS2:=hS1.below (hb2.mono (by have:=hb1.size;omega))))
   | ((with_reducible refine bH ?_);refine AX.au (vs:=[.int .i64 t.k, .int .i64 t.f, .int .i64 t.a, .int .i64 t.t, .int .i64 t.e]) rfl rfl jK hS2.z rfl rfl ?_;rintro W3 h3 h4 h5;have hR3:Bx W3 (w.heap.size+1) 42 #[.int .i64 t.k, .int .i64 t.f, .int .i64 t.a, .int .i64 t.t, .int .i64 t.e]:=h3;have hb3:=hS2.b.trans (AX.aj (Nat.le_succ _) (.inl hR3.lt) h4 h5);obtain⟨z0,z1,z2,z3,z4⟩:=Bx.five hR3;clear h3 h4 h5))
  exact bodyPost_ret (v := .tuple #[.agg #[.int .i64 t.k, .int .i64 t.f, .int .i64 t.a, .int .i64 t.t, .int .i64 t.e], .int .i64 0]) (by simp[results,Tryz.results20,go_sem,z0,z1,z2,z3,z4]) rfl ⟨rfl,hb3⟩
 ·simp only[if_neg ho] at hmy ⊢
  clear ho hnx;have h22:=hmy W0 hD.b;clear hmy;go_enter Tryz.func20,Tryz.ntmps20
  go_wp2_with fail
  rw[←hW0];clear hW0;go_wp2_with (first
   | (go_at_call 47;((with_reducible refine h22.mono ?_);rintro e W1 ⟨rfl,hb1⟩;have hS1:=hD.below (hb1.mono (by omega));have d0:W1.cell? ⟨w.heap.size,0,none⟩=some (.slice an next.length cn):=hS1.d.cell 0;have d1:W1.cell? ⟨w.heap.size,1,none⟩=some (.slice ar rule.length cr):=hS1.d.cell 1;have d2:W1.cell? ⟨w.heap.size,2,none⟩=some (.slice ak kind.length ck):=hS1.d.cell 2;have d3:W1.cell? ⟨w.heap.size,3,none⟩=some (.int .i64 kinds):=hS1.d.cell 3))
   | ((with_reducible refine bH ?_);refine AX.au (vs:=[.int .i64 0, .int .i64 0, .int .i64 0, .int .i64 0, .int .i64 0]) rfl rfl jK hS1.z rfl rfl ?_;rintro W3 h3 h4 h5;have hR3:Bx W3 (w.heap.size+1) 42 #[.int .i64 0, .int .i64 0, .int .i64 0, .int .i64 0, .int .i64 0]:=h3;have hb3:=hS1.b.trans (AX.aj (Nat.le_succ _) (.inl hR3.lt) h4 h5);obtain⟨z0,z1,z2,z3,z4⟩:=Bx.five hR3;clear h3 h4 h5))
  exact bodyPost_ret (v := .tuple #[.agg #[.int .i64 0, .int .i64 0, .int .i64 0, .int .i64 0, .int .i64 0], .int .i64 2]) (by simp[results,Tryz.results20,go_sem,z0,z1,z2,z3,z4]) rfl ⟨rfl,hb3⟩
end
def jJ(t:Tk):List Value:=[.int .i64 t.k, .int .i64 t.f, .int .i64 t.a, .int .i64 t.t, .int .i64 t.e]
theorem GL(t:Tk):(jJ t).length=5:=rfl
theorem zQ(B o j:Nat):(⟨B,o,none⟩:Addr).add j=⟨B,o+j,none⟩:=by unfold Addr.add;split<;>simp_all
theorem info30:(Tryz.prog.info? 42).map (fun i=>(i.zero,i.size,i.bytes))=some (some (.agg #[.int .i64 0, .int .i64 0, .int .i64 0, .int .i64 0, .int .i64 0]),5,40):=by kernel_rfl
theorem MR(l:List Tk)(y:Tk):(l++[y]).flatMap jJ=l.flatMap jJ++jJ y:=by simp
theorem Qq(x:Tk):∀ v∈jJ x,v.oneCell'=true:=by
 intro v hv;simp only[jJ,List.mem_cons,List.not_mem_nil,or_false] at hv;rcases hv with rfl | rfl | rfl | rfl | rfl<;>rfl
section
variable {next rule kind : List Int} {kinds : Int} {an ar ak : Option Addr} {cn cr ck : Nat} {w : World}
def lg(w:World)(base:Nat)(v:Value)(l:List Tk):Prop:=w.ownsRow base 42 5 v l.length (l.flatMap jJ)
theorem zU(w:World)(x:Tk):∀ j u,(jJ x)[j]?=some u→(w.alloc (.cells #[.int .i64 x.k, .int .i64 x.f, .int .i64 x.a, .int .i64 x.t, .int .i64 x.e] 42)).cell? ((⟨w.heap.size,0,none⟩:Addr).add j)=some u:=by
 intro j u hj;rw[zQ,Nat.zero_add];simp only[jJ] at hj
 match j,hj with
 | 0,hj=>simp at hj;subst hj;simp
 | 1,hj=>simp at hj;subst hj;simp
 | 2,hj=>simp at hj;subst hj;simp
 | 3,hj=>simp at hj;subst hj;simp
 | 4,hj=>simp at hj;subst hj;simp
 | j+5,hj=>simp at hj
theorem jm{w:World}{b b':Nat}{v:Value}{l:List Tk}(h:lg w b v l)(hb:b'≤b):lg w b' v l:=by
 refine⟨h.1,?_⟩;rcases h.2 with hn | ⟨g,cap,cur,hv,hg,rest⟩
 ·exact .inl hn
 ·exact .inr ⟨g,cap,cur,hv,Nat.le_trans hb hg,rest⟩
end
end Go.Proofs.YtkjgogdkdejljaaGreatDoor.Lx
namespace Go.Proofs.YtkjgogdkdejljaaGreatDoor.AX
section
open Go
section
variable {F : Fence} {m : Nat} {P : Program} {ops : Array Oper} {Q : Exit → Act → World → Prop} {a : Act} {w : World} {rest : List Oper} {t : TypeId} {x y : Operand} {ty : TypeId} {pos : String} {after : Array Edge} {b : Nat} {cs : Array Value} {e : TypeId} {vs : List Value}
theorem dL(hp:a.eval x = .pointer (some ⟨b,0,none⟩))(hy:a.eval y = .agg vs.toArray)(hsz:sizeT P t=some vs.length)(hb:w.heap[b]?=some (.cells cs e (0,0)))(hle:cs.size=vs.length)(hone:vs.all Value.oneCell'=true)
  (h:∀ w',w'.heap[b]?=some (.cells vs.toArray e (0,0))→(∀ k,k≠b→w'.heap[k]?=w.heap[k]?)→Same w w'→wpListIn F m P ops Q rest a w') :
  wpListIn F m P ops Q ({ dst:=none,op := .store t x y,type:=ty,pos:=pos,after:=after,guard:=none }::rest) a w:=by
 obtain⟨w',e1,e2,e3,e4⟩:=dR (P:=P) (o:=0) vs 0 cs w hb (by omega) (fun j _=>by omega) (fun v hv=>List.all_eq_true.1 hone v hv);refine wpListIn_plain rfl fun K hK=>?_;have hr:(execOp a.eval { dst:=none,op := .store t x y,type:=ty,pos:=pos,after:=after,guard:=none }).run P w = .ok .skip w':=by
  have hne:¬(vs.toArray.size≠vs.length):=by simp
  simp only[execOp,hp,hy,Instr.storeAt,Instr.sureAddr,Sem.run_bind,Sem.run_pure,Result.andThen_ok,storeVar,Value.cells,run_sizeOf hsz,if_neg hne];rw[e1];rfl
 unfold Oper.wpIn;refine⟨fun f hf=>(by cases hf),?_⟩;rw[Oper.semAt_plain F _ _ (fun c hc=>by cases hc),hr];refine hK _ _ (h w' ?_ e3 e4);rw[e2,Nat.add_zero,nI vs cs hle.symm]
theorem aH{o:Nat}{v:Value}(hp:a.eval x = .pointer (some ⟨b,o,none⟩))(hy:a.eval y=v)(hv:v.oneCell'=true)(hsz:sizeT P t=some 1)(hb:w.heap[b]?=some (.cells cs e (0,0)))(ho:o<cs.size)
  (h:∀ w',w'.heap[b]?=some (.cells (cs.setIfInBounds o v) e (0,0))→(∀ k,k≠b→w'.heap[k]?=w.heap[k]?)→Same w w'→wpListIn F m P ops Q rest a w') :
  wpListIn F m P ops Q ({ dst:=none,op := .store t x y,type:=ty,pos:=pos,after:=after,guard:=none }::rest) a w:=by
 obtain⟨w',e1,e2,e3,e4⟩:=dR (P:=P) (o:=o) [v] 0 cs w hb (by simp only[List.length_singleton];omega) (fun j _=>by omega) (fun u hu=>by rw[List.mem_singleton.1 hu];exact hv);refine wpListIn_plain rfl fun K hK=>?_;have hr:(execOp a.eval { dst:=none,op := .store t x y,type:=ty,pos:=pos,after:=after,guard:=none }).run P w = .ok .skip w':=by
  have hne:¬(#[v].size≠1):=by simp
  simp only[execOp,hp,hy,Instr.storeAt,Instr.sureAddr,Sem.run_bind,Sem.run_pure,Result.andThen_ok,storeVar,cells_one hv,run_sizeOf hsz,if_neg hne];rw[e1];rfl
 unfold Oper.wpIn;refine⟨fun f hf=>(by cases hf),?_⟩;rw[Oper.semAt_plain F _ _ (fun c hc=>by cases hc),hr];exact hK _ _ (h w' e2 e3 e4)
end
end
section
open Go Go.RowKit
structure But(A:Nat)(X Y:World):Prop where
 low:Below 0 X Y
 same:∀ k,k<X.heap.size→k≠A→Y.heap[k]?=X.heap[k]?
theorem But.refl(A:Nat)(X:World):But A X X:=⟨Below.refl _ _,fun _ _ _=>rfl⟩
theorem But.trans{A:Nat}{X Y Z:World}(h:But A X Y)(k:But A Y Z):But A X Z:=⟨h.low.trans k.low,fun i hi hA=>(k.same i (Nat.lt_of_lt_of_le hi h.low.size) hA).trans (h.same i hi hA)⟩
theorem But.of_below{A:Nat}{X Y:World}(h:Below X.heap.size X Y):But A X Y:=⟨h.mono (Nat.zero_le _),fun k hk _=>h.block k hk⟩
theorem But.below{A n:Nat}{X Y:World}(h:But A X Y)(hn:n≤X.heap.size)(hA:n≤A):Below n X Y:=⟨h.low.os,h.low.tape,h.low.output,h.low.size,fun k hk=>h.same k (by omega) (by omega)⟩
structure Lets(A B:Nat)(X Y:World):Prop where
 low:Below 0 X Y
 same:∀ k o,X.heap[k]?=some o→k≠A→(k<B∨o.isCells=true)→Y.heap[k]?=some o
theorem But.lets{A:Nat}{X Y:World}(h:But A X Y)(B:Nat):Lets A B X Y:=⟨h.low,fun k _ hk hA _=>(h.same k (Array.getElem?_eq_some_iff.1 hk).1 hA).trans hk⟩
theorem Lets.alloc(A B:Nat)(X:World)(o:Obj):Lets A B X (X.alloc o):=(But.of_below ((Below.refl _ X).alloc Nat.le.refl o)).lets B
theorem Lets.put{A B l:Nat}{X:World}{o:Obj}(o':Obj)(h:X.heap[l]?=some o)(hc:o.isCells=false)(hB:B≤l):Lets A B X (X.putObj l o') :=
  ⟨(Below.refl 0 X).grown (grownBy_putObj' X l o') (Nat.zero_le _) (fun k e=>Nat.zero_le _),fun k u hk hA hu=>by
    have hne:k≠l:=fun e=>by subst e;rw[h] at hk;cases hk;rcases hu with hu | hu<;>first | omega | (rw[hc] at hu;cases hu)
    exact (World.putObj_heap_other hne).trans hk⟩
structure Keep(B:Nat→Prop)(H:Nat)(X Y:World):Prop where
 low:Below 0 X Y
 same:∀ k o,X.heap[k]?=some o→(B k∨(H≤k∧o.isCells=true))→Y.heap[k]?=some o
theorem Keep.refl(B:Nat→Prop)(H:Nat)(X:World):Keep B H X X:=⟨Below.refl _ _,fun _ _ h _=>h⟩
theorem Keep.trans{B:Nat→Prop}{H:Nat}{X Y Z:World}(h:Keep B H X Y)(k:Keep B H Y Z):Keep B H X Z:=⟨h.low.trans k.low,fun i o hi ho=>k.same i o (h.same i o hi ho) ho⟩
theorem Keep.put{B:Nat→Prop}{H l:Nat}{X:World}{o:Obj}(o':Obj)(h:X.heap[l]?=some o)(hc:o.isCells=false)(hB:¬B l):Keep B H X (X.putObj l o') :=
  ⟨(Below.refl 0 X).grown (grownBy_putObj' X l o') (Nat.zero_le _) (fun k e=>Nat.zero_le _),fun k u hk hu=>by
    have hne:k≠l:=fun e=>by subst e;rw[h] at hk;cases hk;rcases hu with hu | hu<;>first | exact hB hu | (rw[hc] at hu;cases hu.2)
    exact (World.putObj_heap_other hne).trans hk⟩
theorem Keep.of_below{B:Nat→Prop}{H:Nat}{X Y:World}(h:Below X.heap.size X Y):Keep B H X Y:=⟨h.mono (Nat.zero_le _),fun k _ hk _=>(h.block k (Array.getElem?_eq_some_iff.1 hk).1).trans hk⟩
theorem Keep.turn{B:Nat→Prop}{H b:Nat}{X Y:World}(hl:Below 0 X Y)(h4:∀ k,k≠b→Y.heap[k]?=X.heap[k]?)(hB:¬B b)(hH:b<H):Keep B H X Y :=
 ⟨hl,fun k o hk hu=>(h4 k (fun e=>by subst e;rcases hu with hu | hu<;>first | exact hB hu | omega)).trans hk⟩
section
variable {F : Fence} {n : Nat} {P : Program}
theorem Na{l m:Nat}{r:Loop}{W:World}{args:Array Value}{R:Ending→World→Prop}(hl:W.heap[l]?=some (.loop r))(hs:r.state = .ready)(hz:args.size=r.params.size)(hf:F.fn r.fn)(C:Act→World→Prop)
  (ha:∀ K:Act→World→Prop,(∀ a' W',C a' W'→K a' W')→r.assign.wpIn (F.inRound l) m P (Exit.then K (fun _ _ _=>False)) { tmps:=(r.params.zip args).foldl (fun t (p,v)=>t.setIfInBounds p v) r.tmps,defers:=[] } W)
  (hC:∀ a' W',C a' W'→W'.heap[l]?=some (.loop r)∧r.body.wpIn (F.inRound l) m P (roundPost P l R) a' (W'.putObj l (.loop { r with state := .busy }))):YieldAt F m P l args W R :=
 ⟨_,_,_,_,run_yield hl hz,roundIn_of_wpIn hf (ha _ fun a' W' h=>⟨_,run_beginRound (hC a' W' h).1 hs,(hC a' W' h).2⟩)⟩
theorem pO{α : Type}{g:Operand}{ps:Array Tmp}{assign body:Code}{Q:Exit→Act→World→Prop}{a:Act}{w:World}(hro:F.round=none)(h1:1≤n){gf:Nat}{lb:Array Value}(hg:a.eval g = .func (.func gf) #[] lb)(hFg:F.fn gf)
  (eg:∀ args w,(callFunc gf args).run P w = .ok (.enter gf args) w) {A:Nat} (hA:A<w.heap.size) {encs : α→Array Value} (hps:∀ x,(encs x).size=ps.size) {B:Nat→Prop} (hB:∀ k,B k→k<w.heap.size) {S Sp:List α→Prop} {Pp:List α→α→Prop}
  (hseq:∀(l:Nat)(J:Nat→List α→World→Prop)(Jx:List α→World→Prop)(W:World),Below w.heap.size w W→(∀ H s X Y,J H s X→But A X Y→J H s Y)→(∀ H H' s X,J H s X→H≤H'→J H' s X)→(∀ s X Y,Jx s X→But A X Y→Jx s Y) →
   (∀ pre x H W1,J H pre W1→H≤W1.heap.size→Pp pre x→YieldAt F (n-1-1) P l (encs x) W1 fun e W'=>(e = .returned (.bool true)∧J W'.heap.size (pre++[x]) W'∧Keep B H W1 W')∨(e = .returned (.bool false)∧Jx (pre++[x]) W')) →
   J W.heap.size [] W→CallsIn F (n-1) P gf (#[.func (.yield l) #[] #[]]++lb) W fun e W'=>(∃ v,e = .returned v)∧((∃ H xs,S xs∧J H xs W')∨(∃ pre,Sp pre∧Jx pre W')))
  (I:Nat→List α→World→Prop) (Ix:Code→List α→World→Prop) (hI:∀ H s X Y,I H s X→Lets A w.heap.size X Y→I H s Y) (hIm:∀ H H' s X,I H s X→H≤H'→I H' s X) (hIx:∀ c s X Y,Ix c s X→Lets A w.heap.size X Y→Ix c s Y) (h0:I w.heap.size [] w) (Ax : α→Act→World→Prop) (hAx:∀ x a' X Y,Ax x a' X→Lets A w.heap.size X Y→Ax x a' Y)
  (hassign:∀(l:Nat)(pre:List α)(x : α)(H:Nat)(W:World)(K:Act→World→Prop),I H pre W→H≤W.heap.size→(∀ a' W',KeepsFrom w.heap.size W W'→Keep B H W W'→I H pre W'→Ax x a' W'→K a' W') →
   assign.wpIn (F.inRound l) (n-1-1) P (Exit.then K (fun _ _ _=>False)) { tmps:=(ps.zip (encs x)).foldl (fun t (p,v)=>t.setIfInBounds p v) a.tmps,defers:=[] } W)
  (hbody:∀(l:Nat)(pre:List α)(x : α)(a':Act)(H:Nat)(W:World),I H pre W→H≤W.heap.size→Ax x a' W→Pp pre x→body.wpIn (F.inRound l) (n-1-1) P (ownPostG w.heap.size (Keep B H) (fun s W=>I W.heap.size s W) Ix (pre++[x]) W) a' W)
  (hdone:∀(D H:Nat)(xs:List α)(W:World),w.heap.size≤D→S xs→I H xs W→W.heap[D]?=some (.deferred (some []))→Q .normal { a with defers:={ target := .collected D,args:=#[] }::a.defers } W)
  (hstop:∀(D:Nat)(c:Code)(pre:List α)(W:World),w.heap.size≤D→Sp pre→Ix c pre W→W.heap[D]?=some (.deferred (some []))→c.wpIn F n P Q { a with defers:={ target := .collected D,args:=#[] }::a.defers } W) :
  (Code.rangeFunc g ps assign body).wpIn F n P Q a w:=by
 refine wpIn_rangeFunc fun fn hfn=>?_;rw[hro];have hout:=run_enterLoop_outer (P:=P) (w:=w) fn a.tmps ps assign body;generalize hr:({ state := .ready,pending:=none,fn:=fn,tmps:=a.tmps,params:=ps,assign:=assign,body:=body,defers:=w.heap.size } : Loop)=r at hout;have hr1:r.state = .ready:=by rw[←hr]
 have hr2:r.params=ps:=by rw[←hr]
 have hr3:r.fn=fn:=by rw[←hr]
 have hr4:r.assign=assign:=by rw[←hr]
 have hr5:r.body=body:=by rw[←hr]
 have hr6:r.tmps=a.tmps:=by rw[←hr]
 have hr7:r.pending=none:=by rw[←hr]
 clear hr;have hD:(w.alloc (.deferred (some []))).heap[w.heap.size]?=some (.deferred (some [])):=World.alloc_heap_new w _;have hBD:Below w.heap.size w (w.alloc (.deferred (some []))):=(Below.refl _ w).alloc Nat.le.refl _;have hID:=hI _ _ _ _ h0 (Lets.alloc A w.heap.size w (.deferred (some [])));have hzD:(w.alloc (.deferred (some []))).heap.size=w.heap.size+1:=by simp
 generalize w.alloc (.deferred (some []))=V at *;have hL:(V.alloc (.loop r)).heap[w.heap.size+1]?=some (.loop r):=by rw[←hzD];exact World.alloc_heap_new V _
 have hD1:(V.alloc (.loop r)).heap[w.heap.size]?=some (.deferred (some [])):=(Below.heap_alloc _ _ _ (by omega)).trans hD;have hB1:Below w.heap.size w (V.alloc (.loop r)):=hBD.alloc (by omega) _;have hI1:=hI _ _ _ _ hID (Lets.alloc A w.heap.size V (.loop r));generalize V.alloc (.loop r)=V1 at *;refine⟨w.heap.size+1,_,V1,{ target := .fn (.func gf) lb,args:=#[.func (.yield (w.heap.size+1)) #[] #[]] },V1,gf,#[.func (.yield (w.heap.size+1)) #[] #[]]++lb,V1,hout,?_,?_,?_,fun _=>h1,?_⟩
 ·simp only[resolve,hg]
  simp[go_sem]
 ·intro f' hf'
  simp[Target.leads] at hf';subst hf';exact hFg
 ·simp[invoke,go_sem,eg]
 have bs:∀ {X Y:World} {k:Nat} {o:Obj},But A X Y→X.heap[k]?=some o→k≠A→Y.heap[k]?=some o:=fun h hk hne=>(h.same _ (Array.getElem?_eq_some_iff.1 hk).1 hne).trans hk;refine(hseq (w.heap.size+1) (fun H pre W=>(I H pre W∧W.heap[w.heap.size+1]?=some (.loop r))∧W.heap[w.heap.size]?=some (.deferred (some [])))
  (fun pre W=>(∃ c,Ix c pre W∧W.heap[w.heap.size+1]?=some (.loop { r with state := .done,pending:=some c }))∧W.heap[w.heap.size]?=some (.deferred (some []))) V1 hB1
  (fun H s X Y h hb=>⟨⟨hI _ _ _ _ h.1.1 (hb.lets _),bs hb h.1.2 (by omega)⟩,bs hb h.2 (by omega)⟩) (fun H H' s X h hH=>⟨⟨hIm _ _ _ _ h.1.1 hH,h.1.2⟩,h.2⟩)
  (fun s X Y ⟨⟨c,h,hl⟩,hk⟩ hb=>⟨⟨c,hIx _ _ _ _ h (hb.lets _),bs hb hl (by omega)⟩,bs hb hk (by omega)⟩) ?_ ⟨⟨hIm _ _ _ _ hI1 hB1.size,hL⟩,hD1⟩).mono ?_
 ·rintro pre x H W ⟨⟨hi,hl⟩,hk⟩ hHW hlen
  refine Na hl hr1 (by rw[hr2];exact hps x) (by rw[hr3];exact hfn) (fun a' Wa=>(KeepsFrom w.heap.size W Wa∧Keep B H W Wa)∧I H pre Wa∧Ax x a' Wa) (fun K hK=>by rw[hr2,hr4,hr6];exact hassign _ pre x H W K hi hHW (fun a' Wa h1 h2 h3 h4=>hK a' Wa ⟨⟨h1,h2⟩,h3,h4⟩)) ?_;rintro a' Wa ⟨⟨hkf,hkp⟩,hia,hax⟩;replace hl:=hkf.same _ _ (by omega) hl rfl;replace hk:=hkf.same _ _ Nat.le.refl hk rfl;have hHa:=Nat.le_trans hHW hkf.size;clear hkf hi;refine⟨hl,?_⟩;have hlt:=(Array.getElem?_eq_some_iff.1 hl).1;have hlets:=Lets.put (A:=A) (B:=w.heap.size) (.loop { r with state := .busy }) hl rfl (by omega);have hnB:¬B (w.heap.size+1):=fun h=>by have:=hB _ h;omega
  have hk1:=hkp.trans (Keep.put (B:=B) (H:=H) (.loop { r with state := .busy }) hl rfl hnB);have hl1:(Wa.putObj (w.heap.size+1) (.loop { r with state := .busy })).heap[w.heap.size+1]?=some (.loop { r with state := .busy }):=World.putObj_heap_same hlt;have hd1:(Wa.putObj (w.heap.size+1) (.loop { r with state := .busy })).heap[w.heap.size]?=some (.deferred (some [])):=(World.putObj_heap_other (by omega)).trans hk;have hi1:=hI _ _ _ _ hia hlets;have hH1:=Nat.le_trans hHa hlets.low.size;have acZ:=hAx _ _ _ _ hax hlets;generalize Wa.putObj (w.heap.size+1) (.loop { r with state := .busy })=W1 at *;have hwalk:=hbody (w.heap.size+1) pre x a' H W1 hi1 hH1 acZ hlen;rw[←hr5] at hwalk;refine wpIn_mono hwalk ?_;have key:∀(W2:World)(jump:Option Code),KeepsFrom w.heap.size W1 W2→W2.heap[w.heap.size+1]?=some (.loop { r with state := .busy })∧W2.heap[w.heap.size]?=some (.deferred (some [])):=fun W2 jump hk2=>⟨hk2.same _ _ (by omega) hl1 rfl,hk2.same _ _ Nat.le.refl hd1 rfl⟩;have put:∀(W2:World)(o:Obj),W2.heap[w.heap.size+1]?=some (.loop { r with state := .busy })→W2.heap[w.heap.size]?=some (.deferred (some []))→(W2.putObj (w.heap.size+1) o).heap[w.heap.size+1]?=some o∧(W2.putObj (w.heap.size+1) o).heap[w.heap.size]?=some (.deferred (some [])) :=
   fun W2 o h2 h3=>⟨World.putObj_heap_same (Array.getElem?_eq_some_iff.1 h2).1,(World.putObj_heap_other (by omega)).trans h3⟩
  rintro e a3 W2 hp
  cases e with
  | normal =>
   obtain⟨q1,q2,q3⟩:=hp;obtain⟨e1,e2⟩:=key W2 none q1;have e3:=run_endRound (P:=P) none e1;have e4:({ ({ r with state := .busy } : Loop) with state:=if (none:Option Code).isNone then .ready else .done,pending:=none } : Loop)=r:=(by cases r;simp_all);rw[e4] at e3;obtain⟨e5,e6⟩:=put W2 (.loop r) e1 e2;exact⟨_,_,e3, .inl ⟨rfl,⟨⟨hIm _ _ _ _ (hI _ _ _ _ q3 (Lets.put _ e1 rfl (by omega))) (Lets.put (A:=A) (B:=w.heap.size) (.loop r) e1 rfl (by omega)).low.size,e5⟩,e6⟩,(hk1.trans q2).trans (Keep.put _ e1 rfl hnB)⟩⟩
  | ret =>
   obtain⟨q1,q3⟩:=hp;obtain⟨e1,e2⟩:=key W2 none q1;obtain⟨e5,e6⟩:=put W2 (.loop { r with state := .done,pending:=some .ret }) e1 e2;exact⟨_,_,run_endRound (P:=P) (some .ret) e1, .inr ⟨rfl,⟨.ret,hIx _ _ _ _ q3 (Lets.put _ e1 rfl (by omega)),e5⟩,e6⟩⟩
  | exit id =>
   obtain⟨q1,q3⟩:=hp;obtain⟨e1,e2⟩:=key W2 none q1;obtain⟨e5,e6⟩:=put W2 (.loop { r with state := .done,pending:=some (.exit id) }) e1 e2;exact⟨_,_,run_endRound (P:=P) (some (.exit id)) e1, .inr ⟨rfl,⟨.exit id,hIx _ _ _ _ q3 (Lets.put _ e1 rfl (by omega)),e5⟩,e6⟩⟩
  | goto t =>
   obtain⟨q1,q3⟩:=hp;obtain⟨e1,e2⟩:=key W2 none q1;obtain⟨e5,e6⟩:=put W2 (.loop { r with state := .done,pending:=some (.goto t) }) e1 e2;exact⟨_,_,run_endRound (P:=P) (some (.goto t)) e1, .inr ⟨rfl,⟨.goto t,hIx _ _ _ _ q3 (Lets.put _ e1 rfl (by omega)),e5⟩,e6⟩⟩
  | panic ch=>exact hp.elim
  | outgrown=>exact hp.elim
 ·rintro e W2 ⟨⟨v,rfl⟩,(⟨H,xs,hS,⟨hi,hl⟩,hk⟩ | ⟨pre,hSp,⟨c,hi,hl⟩,hk⟩)⟩
  ·have e3:=run_endLoop (P:=P) hl (by rw[hr1];simp)
   rw[hr7] at e3;exact⟨none,_,e3,hdone _ H xs _ Nat.le.refl hS (hI _ _ _ _ hi (Lets.put _ hl rfl (by omega))) ((World.putObj_heap_other (by omega)).trans hk)⟩
  ·exact⟨some c,_,run_endLoop (P:=P) hl (by simp),hstop _ c pre _ Nat.le.refl hSp (hIx _ _ _ _ hi (Lets.put _ hl rfl (by omega))) ((World.putObj_heap_other (by omega)).trans hk)⟩
end
end
end Go.Proofs.YtkjgogdkdejljaaGreatDoor.AX
namespace Go.Proofs.YtkjgogdkdejljaaGreatDoor.Lx
open Go Go.Proofs Go.RowKit
attribute [local go_sem] Oper.semAt_some
section
variable {next rule kind : List Int} {kinds : Int} {an ar ak : Option Addr} {cn cr ck : Nat} {w : World}
structure Fc(w0:World)(L:Nat)(next rule kind:List Int)(kinds:Int)(an ar ak:Option Addr)(cn cr ck:Nat)(s:ByteArray)(i:Int)(W:World):Prop where
 b:Below w0.heap.size w0 W
 l:Bx W L 29 #[.slice an next.length cn, .slice ar rule.length cr, .slice ak kind.length ck, .int .i64 kinds]
 t:Bx W (L+1) 9 #[.string s]
 a:Bx W (L+2) 3 #[.int .i64 i]
def Fb(n0 L:Nat)(k:Nat):Prop:=k<n0∨(L≤k∧k≤L+2)
theorem Fc.keep{w0:World}{L H:Nat}{s:ByteArray}{i:Int}{X Y:World}(h:Fc w0 L next rule kind kinds an ar ak cn cr ck s i X)(hk:AX.Keep (Fb w0.heap.size L) H X Y):Fc w0 L next rule kind kinds an ar ak cn cr ck s i Y:=by
 have hb:∀ k,k<w0.heap.size→Y.heap[k]?=X.heap[k]?:=fun k hk0=>by
  have hlt:k<X.heap.size:=Nat.lt_of_lt_of_le hk0 h.b.size;rw[hk.same k X.heap[k] (Array.getElem?_eq_getElem hlt) (.inl (.inl hk0)),Array.getElem?_eq_getElem hlt]
 exact⟨⟨hk.low.os.trans h.b.os,hk.low.tape.trans h.b.tape,hk.low.output.trans h.b.output,Nat.le_trans h.b.size hk.low.size,fun k hk0=>(hb k hk0).trans (h.b.block k hk0)⟩,
  hk.same _ _ h.l (.inl (.inr ⟨Nat.le_refl _,by omega⟩)),hk.same _ _ h.t (.inl (.inr ⟨by omega,by omega⟩)),hk.same _ _ h.a (.inl (.inr ⟨by omega,Nat.le_refl _⟩))⟩
theorem Fc.below{w0:World}{L:Nat}{s:ByteArray}{i:Int}{X Y:World}(h:Fc w0 L next rule kind kinds an ar ak cn cr ck s i X)(hk:Below X.heap.size X Y):Fc w0 L next rule kind kinds an ar ak cn cr ck s i Y:=h.keep (H:=0) (AX.Keep.of_below hk)
theorem Jp(s:ByteArray)(i:Int)(w:World) :
  Calls Tryz.prog 41 #[lV an ar ak next.length rule.length kind.length cn cr ck kinds, .string s, .int .i64 i] w fun e w'=>e = .returned (.func (.func 78) #[] #[.pointer (some ⟨w.heap.size,0,none⟩), .pointer (some ⟨w.heap.size+1,0,none⟩), .pointer (some ⟨w.heap.size+2,0,none⟩)]) ∧
   Below w.heap.size w w'∧w'.heap.size=w.heap.size+3∧Fc w w.heap.size next rule kind kinds an ar ak cn cr ck s i w':=by
 unfold lV;have b1:=Bx.new w 29 #[.slice an next.length cn, .slice ar rule.length cr, .slice ak kind.length ck, .int .i64 kinds];have b2:=Bx.new (w.alloc (.cells #[.slice an next.length cn, .slice ar rule.length cr, .slice ak kind.length ck, .int .i64 kinds] 29)) 9 #[.string s];have b3:=Bx.new ((w.alloc (.cells #[.slice an next.length cn, .slice ar rule.length cr, .slice ak kind.length ck, .int .i64 kinds] 29)).alloc (.cells #[.string s] 9)) 3 #[.int .i64 i];have hB:Below w.heap.size w (((w.alloc (.cells #[.slice an next.length cn, .slice ar rule.length cr, .slice ak kind.length ck, .int .i64 kinds] 29)).alloc (.cells #[.string s] 9)).alloc (.cells #[.int .i64 i] 3)):=(((Below.refl _ w).alloc Nat.le.refl _).alloc (by simp) _).alloc (by simp;omega) _;have hz:(((w.alloc (.cells #[.slice an next.length cn, .slice ar rule.length cr, .slice ak kind.length ck, .int .i64 kinds] 29)).alloc (.cells #[.string s] 9)).alloc (.cells #[.int .i64 i] 3)).heap.size=w.heap.size+3:=by simp
 have b1:=(b1.alloc (.cells #[.string s] 9)).alloc (.cells #[.int .i64 i] 3);have b2:=b2.alloc (.cells #[.int .i64 i] 3);rw[World.size_alloc] at b2;rw[World.size_alloc,World.size_alloc] at b3;go_enter Tryz.func41,Tryz.ntmps41
 go_wp2_with fail
 go_ret
 exact⟨rfl,hB,hz,⟨hB,b1,b2,b3⟩⟩
def Es(w:World)(A n:Nat):Nat:=match w.cell? ⟨A,0,none⟩ with
 | some (.int _ q)=>n+1-q.toNat
 | _=>0
theorem zV{w:World}{A n:Nat}{i:Int}(h:Bx w A 3 #[.int .i64 i]):Es w A n=n+1-i.toNat:=by
 unfold Es;rw[show w.cell? ⟨A,0,none⟩=some (.int .i64 i) from h.cell 0]
theorem lW(n:Nat)(hn1:1≤n){w0:World}{L:Nat}(hL:w0.heap.size≤L)(hn:next.length≤1000000)(hr:rule.length≤1000000)(hk:kind.length≤1000000)(hN:aK w0 an next)(hR:aK w0 ar rule)(hK:aK w0 ak kind)(s:ByteArray)(hs:s.size≤1000)
  (hok:okL next rule kind kinds=true) (i0:Nat) (hi0:i0≤s.size) (l:Nat) (J:Nat→List Tk→World→Prop) (Jx:List Tk→World→Prop) (hJ:∀ H q X Y,J H q X→AX.But (L+2) X Y→J H q Y) (hJm:∀ H H' q X,J H q X→H≤H'→J H' q X)
  (hY:∀(pre:List Tk)(x:Tk)(H:Nat)(W:World),J H pre W→H≤W.heap.size→(∃ rest,dD next rule kind (sb s) i0=pre++x::rest)→YieldAt Fence.wide (n-1) Tryz.prog l #[tkV x] W fun e W' =>
   (e = .returned (.bool true)∧J W'.heap.size (pre++[x]) W'∧AX.Keep (Fb w0.heap.size L) H W W')∨(e = .returned (.bool false)∧Jx (pre++[x]) W'))
  (W:World) (hS:Fc w0 L next rule kind kinds an ar ak cn cr ck s i0 W) (h0:J W.heap.size [] W) :
  CallsIn Fence.wide n Tryz.prog 78 #[.func (.yield l) #[] #[], .pointer (some ⟨L,0,none⟩), .pointer (some ⟨L+1,0,none⟩), .pointer (some ⟨L+2,0,none⟩)] W fun e W'=>(∃ v,e = .returned v) ∧
   ((∃ H xs,xs=dD next rule kind (sb s) i0∧J H xs W')∨(∃ pre,(∃ rest,dD next rule kind (sb s) i0=pre++rest)∧Jx pre W')):=by
 have hF:=mJ hok;have hmy:=fun W (hb:Below w0.heap.size w0 W)=>KC (cn:=cn) (cr:=cr) (ck:=ck) (kinds:=kinds) hn hr hk (hN.below hb Nat.le.refl) (hR.below hb Nat.le.refl) (hK.below hb Nat.le.refl) s (i0:Int) (by omega);have hnx:=fun(a:Nat)(ha:a≤s.size) W (hb:Below w0.heap.size w0 W)=>Qn (cn:=cn) (cr:=cr) (ck:=ck) (hN.below hb Nat.le.refl) (hR.below hb Nat.le.refl) (hK.below hb Nat.le.refl) hok s a ha (by omega);have hm0:Ep next rule kind kinds s (i0:Int)=0:=by unfold Ep;rw[if_pos ⟨hok,by omega,by omega⟩]
 rw[hm0] at hmy;have h22:=(callsIn_wide (n:=n-1)).2 (hmy W hS.b);have hbt:=fun(i:Nat)(h:i≤s.size)=>kE hF (kR s) (i:=i) (by rw[bW];exact h);have hln:=fun(i:Nat)(h:i≤s.size)=>lQ hF (kR s) _ i Nat.le.refl (by rw[bW];exact h);have hre:=fun(i:Nat)(h:i≤s.size)=>eH hF (kR s) (i:=i) (by rw[bW];exact h);simp only[bW] at hbt hln;unfold lV tkV at *;clear hm0 hN hR hK hmy;have c1:=hS.l.cell 0;have c2:=hS.l.cell 1;have c3:=hS.l.cell 2;have c4:=hS.l.cell 3;have c5:=hS.t.cell 0;have c6:=hS.a.cell 0;refine callsIn_of_wp Tryz.func78 rfl trivial ?_ rfl;simp only[Tryz.ntmps78,List.size_toArray,List.length_cons,List.length_nil,Nat.reduceAdd,Nat.reduceSub,Array.replicate_succ,Array.replicate_zero,List.push_toArray,List.append_toArray,List.nil_append,List.cons_append];have aaC:Fence.wide.fn 47:=trivial;have aeh:Fence.wide.fn 48:=trivial;have HM:=Lib.hid (show ([]:List Tk)++dD next rule kind (sb s) i0=dD next rule kind (sb s) i0 from rfl);gi_wp2_with (gi_at_call 47;((with_reducible refine h22.mono ?_);rintro e W1 ⟨rfl,hb1⟩;have hS1:=hS.below hb1;have hJ1:=hJm _ _ _ _ (hJ _ _ _ _ h0 (AX.But.of_below hb1)) hb1.size;clear h0 hS c1 c2 c3 c4 c5 c6))
 gi_loopw [] (fun wr=>∃(pre:List Tk)(i:Nat),i≤s.size∧Hid (pre++dD next rule kind (sb s) i=dD next rule kind (sb s) i0)∧Fc w0 L next rule kind kinds an ar ak cn cr ck s i wr∧J wr.heap.size pre wr) (fun wr=>Es wr (L+2) s.size)
 case atStart=>exact⟨[],i0,hi0,HM,hS1,hJ1⟩
 case round =>
  obtain⟨pre,i,hi,HE,hSr,hJr⟩:=hrel;have c1:=hSr.l.cell 0;have c2:=hSr.l.cell 1;have c3:=hSr.l.cell 2;have c4:=hSr.l.cell 3;have c5:=hSr.t.cell 0;have c6:=hSr.a.cell 0;rw[zV hSr.a];clear hS1 hJ1 HM h22;have h23:=(callsIn_wide (n:=n-1)).2 (hnx i hi wr hSr.b);have Ur:=hre i hi;have hbi:=hbt i hi;obtain⟨t,ht⟩:∃ t,t=dw next rule kind (sb s) i:=⟨_,rfl⟩
  rw[←ht] at h23 Ur hbi;have HLEN:Hid (∃ rest,dD next rule kind (sb s) i0=pre++t::rest):=Lib.hid (by rw[←HE.out,Ur];split<;>exact⟨_,rfl⟩);have HRE:=Lib.hid Ur;obtain⟨b1,b2,b3,b4,b5,b6,b7,b8⟩:=hbi;clear ht Ur b1;gi_wp2_with (first
   | (gi_at_call 48;((with_reducible refine h23.mono ?_);rintro e W1 ⟨rfl,hb1⟩;have hT0:=Bx.new W1 42 #[.int .i64 0, .int .i64 0, .int .i64 0, .int .i64 0, .int .i64 0];have hB1:=hb1.alloc hb1.size (.cells #[.int .i64 0, .int .i64 0, .int .i64 0, .int .i64 0, .int .i64 0] 42);have hsz1:=hb1.size))
   | ((with_reducible refine fJ ?_);refine AX.dL (vs:=[.int .i64 t.k, .int .i64 t.f, .int .i64 t.a, .int .i64 t.t, .int .i64 t.e]) rfl rfl jK hT0 rfl rfl ?_;rintro W3 h3 h4 h5;have hT3:Bx W3 W1.heap.size 42 #[.int .i64 t.k, .int .i64 t.f, .int .i64 t.a, .int .i64 t.t, .int .i64 t.e]:=h3;have hB3:=hB1.trans (AX.aj hsz1 (.inl hT3.lt) h4 h5);have hS3:=hSr.below hB3;have hJ3:=hJ _ _ _ _ hJr (AX.But.of_below hB3);obtain⟨x0,x1,x2,x3,x4⟩:=Bx.five hT3;obtain⟨fn,tmps,assign,body,hy,hR⟩:=hY pre t wr.heap.size W3 hJ3 hB3.size HLEN.out;clear h3 h4 h5 hT0 c1 c2 c3 c4 c5 c6))
  refine hR.mono ?_;rintro e W4 (⟨rfl,hJ4,hK4⟩ | ⟨rfl,acV⟩)
  ·have hS4:=hS3.keep hK4
   have hT4:Bx W4 W1.heap.size 42 #[.int .i64 t.k, .int .i64 t.f, .int .i64 t.a, .int .i64 t.t, .int .i64 t.e]:=hK4.same _ _ hT3 (.inr ⟨hsz1,rfl⟩);clear hy hR x0 x1 x2 x3 x4;obtain⟨x0,x1,x2,x3,x4⟩:=Bx.five hT4
   by_cases hk:t.k = -2
   ·have q1:(t.k == -2)=true:=by rw[hk];rfl
    have hE:pre++[t]=dD next rule kind (sb s) i0:=(by rw[←HE.out,HRE.out,if_pos hk])
    have HF:=Lib.hid hE;clear hE hk;gi_wp2
    refine bodyPost_ret (results_none rfl _ _ _) rfl ?_;exact⟨⟨_,rfl⟩, .inl ⟨_,_,HF.out,hJ4⟩⟩
   ·have q1:(t.k == -2)=false:=by simp[hk]
    have hE:(pre++[t])++dD next rule kind (sb s) t.t=dD next rule kind (sb s) i0:=(by rw[←HE.out,HRE.out,if_neg hk,List.append_assoc];rfl)
    have h8:=b8 hk;have HF:=Lib.hid hE;clear hE hk;gi_wp2_with ((with_reducible refine fJ ?_);refine AX.aH (o:=0) (v := .int .i64 t.t) rfl rfl rfl sz3 hS4.a (show 0<1 by decide) ?_;rintro W5 h3 h4 h5;have hA5:Bx W5 (L+2) 3 #[.int .i64 t.t]:=h3;have aaD:Below (L+2) W4 W5:=AX.aj Nat.le.refl (.inl hA5.lt) h4 h5;have lJ:AX.But (L+2) W4 W5:=⟨aaD.mono (Nat.zero_le _),fun k _ hne=>h4 k hne⟩;have hS5:Fc w0 L next rule kind kinds an ar ak cn cr ck s t.t W5:=⟨hS4.b.trans (aaD.mono (by omega)),hS4.l.turn (by omega) h4,hS4.t.turn (by omega) h4,hA5⟩;have hJ5:=hJm _ _ _ _ (hJ _ _ _ _ hJ4 lJ) lJ.low.size;clear h3 h4 h5)
    refine⟨⟨_,_,by omega,HF,hS5,hJ5⟩,?_⟩;rw[zV hS5.a];simp only[Int.toNat_natCast];omega
  ·have hE:∃ rest,dD next rule kind (sb s) i0=(pre++[t])++rest:=by
    rw[←HE.out,HRE.out];split
    ·exact⟨[],by simp⟩
    ·exact⟨_,by rw[List.append_assoc];rfl⟩
   have HF:=Lib.hid hE;clear hE hy hR;gi_wp2
   refine bodyPost_ret (results_none rfl _ _ _) rfl ?_;exact⟨⟨_,rfl⟩, .inr ⟨_,HF.out,acV⟩⟩
end
theorem zW{F:Fence}{n:Nat}{ops:Array Oper}{rest:List Oper}{o:Oper}{a:Act}{Q:Exit→Act→World→Prop}(W:World)(base:Nat)(v:Value)(pre:List Tk)(y:Tk)(hgd:o.guard=none)(s x:Operand)
  (ho:o.op = .call { callee := .builtin .append,args:=#[s,x],argTypes:=#[38,38] }) (hs:a.eval s=v) (hown:lg W base v pre) (ad:Addr) (hx:a.eval x = .slice (some ad) 1 1)
  (hc:∀ j u,(jJ y)[j]?=some u→W.cell? (ad.add j)=some u) (hl:pre.length≤1000000) (hb:base≤W.heap.size)
  (h:∀ v' w',lg w' base v' (pre++[y])→W.grownBy w' v.ownBlock→wpListIn F n Tryz.prog ops Q rest (a.put o.dst v') w'):wpListIn F n Tryz.prog ops Q (o::rest) a W:=by
 obtain⟨ti,hi,hz0,hz1,hz2⟩:=info_parts info30;refine wpListIn_append_own W hgd s x 38 ho base 42 ti (.agg #[.int .i64 0, .int .i64 0, .int .i64 0, .int .i64 0, .int .i64 0]) 5 40 Tryz.underlying38 hi hz0 hz1 hz2 rfl (by decide) v pre.length _ hs hown ad 1 1 (jJ y) hx rfl hc (Qq y) (by unfold maxLen;omega) (by omega) hb ?_;intro v' w' h1 h2 _;refine h v' w' ?_ h2;unfold lg;rw[MR,List.length_append,List.length_singleton];exact h1
def wM(H:Nat)(w:World)(base:Nat)(v:Value)(l:List Tk):Prop:=lg w base v l∧∀ g,v.ownBlock=some g→g<H
theorem wM.lets{A B H base:Nat}{X Y:World}{v:Value}{l:List Tk}(h:wM H X base v l)(hA:A<base)(hl:AX.Lets A B X Y):wM H Y base v l:=by
 refine⟨⟨h.1.1,?_⟩,h.2⟩;rcases h.1.2 with hn | ⟨g,cap,cur,rfl,hg,hh,rest⟩
 ·exact .inl hn
 ·exact .inr ⟨g,cap,cur,rfl,hg,hl.same g _ hh (by omega) (.inr rfl),rest⟩
theorem Bx.lets{A B:Nat}{X Y:World}{b:Nat}{t:TypeId}{cs:Array Value}(h:Bx X b t cs)(hA:b≠A)(hl:AX.Lets A B X Y):Bx Y b t cs:=hl.same b _ h hA (.inr rfl)
theorem But.GN{A B:Nat}{w X Y:World}(h:AX.But A w X)(hB:w.heap.size≤B)(hl:AX.Lets A B X Y):AX.But A w Y :=
 ⟨h.low.trans hl.low,fun k hk hA=>by
  have h1:=h.same k hk hA;have hlt:k<X.heap.size:=Nat.lt_of_lt_of_le hk h.low.size;rw[←h1,hl.same k X.heap[k] (Array.getElem?_eq_getElem hlt) hA (.inl (by omega)),Array.getElem?_eq_getElem hlt]⟩
theorem aQ{w:World}{base:Nat}{e:TypeId}{size:Nat}{v:Value}{n:Nat}{xs:List Value}(h:w.ownsRow base e size v n xs):∃ a c,v = .slice a n c:=by
 rcases h.2 with ⟨rfl,rfl⟩ | ⟨g,cap,cur,rfl,_⟩
 ·exact⟨_,_,rfl⟩
 ·exact⟨_,_,rfl⟩
theorem appended{P:Nat→Prop}{H n₀ b:Nat}{W w1 w2:World}{v v':Value}{l l':List Tk}{tmp:Obj}(_hH:H≤W.heap.size)(hv:Bx W b 38 #[v])(hrow:wM H W n₀ v l)(hb:b<n₀)(hbH:b<H)(hnP:∀ k,b≤k→¬P k)
  (hown:lg w1 n₀ v' l') (hg:(W.alloc tmp).grownBy w1 v.ownBlock) (h3:Bx w2 b 38 #[v']) (h4:∀ k,k≠b→w2.heap[k]?=w1.heap[k]?) (h5:AX.Same w1 w2) (B:Nat) :
  wM w2.heap.size w2 n₀ v' l'∧AX.Keep P H W w2∧KeepsFrom B W w2∧Below b W w2:=by
 have hlow1:Below b (W.alloc tmp) w1:=(Below.refl b _).grown hg (by have:=hv.lt;simp;omega) fun j ej=>by
  rcases hrow.1.2 with ⟨rfl,_⟩ | ⟨g,cap,cur,rfl,hge,_,_⟩
  ·simp[Value.ownBlock] at ej
  ·obtain rfl:g=j:=by simpa[Value.ownBlock] using ej
   omega
 have hlow2:Below b w1 w2:=AX.aj Nat.le.refl (.inl h3.lt) h4 h5;have hal:Below W.heap.size W (W.alloc tmp):=(Below.refl _ W).alloc Nat.le.refl _;have hlow:Below b W w2:=((hal.mono (Nat.le_of_lt hv.lt)).trans hlow1).trans hlow2;have hrow2:lg w2 n₀ v' l':=by
  refine⟨hown.1,?_⟩;rcases hown.2 with hn | ⟨g,cap,cur,rfl,hge,hh,rest⟩
  ·exact .inl hn
  ·exact .inr ⟨g,cap,cur,rfl,hge,(h4 g (by omega)).trans hh,rest⟩
 have same:∀ k o,W.heap[k]?=some o→k≠b→(∀ g,v.ownBlock=some g→k≠g)→w2.heap[k]?=some o:=fun k o hk hkb hkg=>by
  have hlt:=(Array.getElem?_eq_some_iff.1 hk).1;refine(h4 k hkb).trans ((hg.block k (by simp;omega) (fun e=>hkg k e.symm rfl)).trans ((hal.block k hlt).trans hk))
 refine⟨⟨hrow2,fun g e=>(hrow2.lt g e).2⟩,⟨hlow.mono (Nat.zero_le _),fun k o hk hu=>?_⟩,⟨hlow.size,fun k o _ hk ho=>?_⟩,hlow⟩
 ·rcases hu with hp | ⟨hkH,_⟩
  ·have hkb:k<b:=Nat.lt_of_not_le fun h=>hnP k h hp
   exact(hlow.block k hkb).trans hk
  ·exact same k o hk (by omega) fun g e=>by have:=hrow.2 g e;omega
 ·refine same k o hk (fun e=>?_) fun g e=>?_
  ·subst e;rw[show W.heap[k]?=_ from hv] at hk;cases hk;cases ho
  ·intro e2
   subst e2;rcases hrow.1.2 with ⟨rfl,_⟩ | ⟨g',cap,cur,rfl,hge,hh,_⟩
   ·simp[Value.ownBlock] at e
   ·obtain rfl:g'=k:=by simpa[Value.ownBlock] using e
    rw[hh] at hk;cases hk;cases ho
end Go.Proofs.YtkjgogdkdejljaaGreatDoor.Lx
