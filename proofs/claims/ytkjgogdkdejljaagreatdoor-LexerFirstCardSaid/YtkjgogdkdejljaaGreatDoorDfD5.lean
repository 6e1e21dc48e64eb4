import Derived.Test.YtkjgogdkdejljaaGreatDoorDfD2
import Derived.Great.Walk
namespace Go.Proofs.YtkjgogdkdejljaaGreatDoor.AX
open Go
section
variable {F : Fence} {m : Nat} {P : Program} {ops : Array Oper} {Q : Exit -> Act -> World -> Prop} {a : Act} {w : World} {rest : List Oper} {t : TypeId} {x y : Operand} {ty : TypeId} {pos : String} {after : Array Edge} {b : Nat} {cs : Array Value} {e : TypeId} {vs : List Value}
theorem gq(hp:a.eval x=.pointer (some ⟨b,0,none⟩))(hy:a.eval y=.agg vs.toArray)(hsz:sizeT P t=some vs.length)(hb:w.heap[b]?=some (.cells cs e (0,0)))(hle:cs.size=vs.length)(hone:vs.all Value.oneCell'=true)
  (h:∀w',w'.heap[b]?=some (.cells vs.toArray e (0,0))->(∀k,k≠b->w'.heap[k]?=w.heap[k]?)->Same w w'->wpListIn F m P ops Q rest a w'):
  wpListIn F m P ops Q ({dst:=none,op:=.store t x y,type:=ty,pos:=pos,after:=after,guard:=none}::rest) a w:=by
 obtain⟨w',e1,e2,e3,e4⟩:=dM (P:=P) (o:=0) vs 0 cs w hb (by omega) (fun j _=>by omega) (fun v hv=>agk.1 hone v hv);refine wpListIn_plain rfl fun K hK=>?_;have hr:(execOp a.eval {dst:=none,op:=.store t x y,type:=ty,pos:=pos,after:=after,guard:=none}).run P w=.ok .skip w':=by
  have hne:¬(vs.toArray.size≠vs.length):=by simp
  simp only[execOp,hp,hy,Instr.storeAt,Instr.sureAddr,Sem.run_bind,Sem.run_pure,Result.andThen_ok,storeVar,Value.cells,run_sizeOf hsz,afO hne];rw[e1];rfl
 unfold Oper.wpIn;refine⟨fun f hf=>(by cases hf),?_⟩;rw[Oper.semAt_plain F _ _ (fun c hc=>by cases hc),hr];refine hK _ _ (h w' ?_ e3 e4);rw[e2,agV,nT vs cs hle.symm]
theorem fJ{o:Nat}{v:Value}(hp:a.eval x=.pointer (some ⟨b,o,none⟩))(hy:a.eval y=v)(hv:v.oneCell'=true)(hsz:sizeT P t=some 1)(hb:w.heap[b]?=some (.cells cs e (0,0)))(ho:o<cs.size)
  (h:∀w',w'.heap[b]?=some (.cells (cs.setIfInBounds o v) e (0,0))->(∀k,k≠b->w'.heap[k]?=w.heap[k]?)->Same w w'->wpListIn F m P ops Q rest a w'):
  wpListIn F m P ops Q ({dst:=none,op:=.store t x y,type:=ty,pos:=pos,after:=after,guard:=none}::rest) a w:=by
 obtain⟨w',e1,e2,e3,e4⟩:=dM (P:=P) (o:=o) [v] 0 cs w hb (by simp only[ags];omega) (fun j _=>by omega) (fun u hu=>by rw[afK.1 hu];exact hv);refine wpListIn_plain rfl fun K hK=>?_;have hr:(execOp a.eval {dst:=none,op:=.store t x y,type:=ty,pos:=pos,after:=after,guard:=none}).run P w=.ok .skip w':=by
  have hne:¬(#[v].size≠1):=by simp
  simp only[execOp,hp,hy,Instr.storeAt,Instr.sureAddr,Sem.run_bind,Sem.run_pure,Result.andThen_ok,storeVar,cells_one hv,run_sizeOf hsz,afO hne];rw[e1];rfl
 unfold Oper.wpIn;refine⟨fun f hf=>(by cases hf),?_⟩;rw[Oper.semAt_plain F _ _ (fun c hc=>by cases hc),hr];exact hK _ _ (h w' e2 e3 e4)
end
end Go.Proofs.YtkjgogdkdejljaaGreatDoor.AX
namespace Go.Proofs.YtkjgogdkdejljaaGreatDoor.Df
section
open Go Go.Proofs Go.RowKit Go.Shelf
attribute [local go_sem] Oper.semAt_some
def Xm(w:World)(N:Nf)(most:Nat)(e:Ending)(w':World):Prop:=
 Below w.heap.size w w'/\((lD most (jL N) (eF (spl N.cl)) (most+1) 0 [[0]]=none/\e=.returned (.tuple #[.agg #[.slice none 0 0,.slice none 0 0],.int .i64 10])) \/
 ∃tss T an ar cn cr,lD most (jL N) (eF (spl N.cl)) (most+1) 0 [[0]]=some (tss,T)/\e=.returned (.tuple #[.agg #[.slice an (dB (eX (spl N.cl)) tss).length cn,.slice ar (fF N.ru T).length cr],.int .i64 0])/\aH w' an (dB (eX (spl N.cl)) tss)/\aH w' ar (fF N.ru T)/\(dB (eX (spl N.cl)) tss).length<=cn)
def slots(a:Array Value)(k:Nat):Value:=a.getD k undef
def TOk(N:Nf)(T:Sets):Prop:=∀S∈T,S.length<=1024/\∀q∈S,0<=q/\q<(N.cl.length:Int)
def OI(w W:World)(N:Nf)(x0 x1 x2:Value)(U D r ga most i:Nat)(ds:List Deferred):Prop:=
 ∃oth sv nv rv vals T tss,Bs w W x0 x1 x2 U (U+1) D (r+1) r ga (spl N.cl) most oth sv nv rv vals T (dB (eX (spl N.cl)) tss) ((T.take i).map (lX N.ru))/\Mk w.heap.size W ds /\
  rG most (jL N) (eF (spl N.cl)) [[0]] i tss T/\tss.length=i/\i<=T.length/\T.length<=most/\TOk N T/\∀k∈oth,k<W.heap.size
def II(w W:World)(N:Nf)(x0 x1 x2:Value)(U D r ga most RB g j:Nat)(ds:List Deferred)(nv rv:Value)(next rule:List Int)(T0:Sets)(Si:List Int):Prop:=
 ∃oth sv vals T ts rw,Bs w W x0 x1 x2 U (U+1) D (r+1) r ga (spl N.cl) most oth sv nv rv vals T next rule/\Mk w.heap.size W ds /\
  (Bx W g 3 (ci rw)/\Bx W RB 25 #[.slice (some ⟨g,0,none⟩) 256 256]/\RB∉aT (r+1) r sv oth/\g∈oth/\nv.ownBlock≠some g/\rv.ownBlock≠some g) /\
  rowB most (jL N Si) ((eF (spl N.cl)).take j) T0=some (ts,T)/\Rw (spl N.cl) ts j rw/\ts.length=j/\T.length<=most/\TOk N T/\(∃R,T=T0++R)/\∀k∈oth,k<W.heap.size
theorem Bs.set{w W:World}{x0 x1 x2:Value}{U R4 D M r ga:Nat}{d:List Kl}{most:Nat}{oth:List Nat}{sv nv rv:Value}{vals:List Value}{T:Sets}{next rule:List Int}(h:Bs w W x0 x1 x2 U R4 D M r ga d most oth sv nv rv vals T next rule){i:Nat}(hi:i<T.length):
  ∃gs c v,sv=.slice (some ⟨gs,0,none⟩) T.length c/\gs<W.heap.size/\gs∈aT M r sv []/\W.cell? ⟨gs,i,none⟩=some v/\SAt W (aT M r sv oth) v (T.getD i []):=by
 obtain⟨sa,sc,hsv⟩:=aU h.mkr.own;rcases h.mkr.own.2 with ⟨_,h0⟩|⟨gs,cap,cur,e,_,hh,_⟩
 ·omega
 ·have hv:i<vals.length:=by rw[h.mkr.vl];exact hi
  have hc:=h.mkr.own.cells (g:=gs) (by rw[e];rfl) i vals[i] (afE hv);rw[addr_add,af9]at hc;refine⟨gs,cap,vals[i],e,(afF.1 hh).1,by unfold aT;rw[e];simp[Value.ownBlock],hc,?_⟩;rw[afG,afE hi];exact h.mkr.row i _ _ (afE hv) (afE hi)
theorem Mkr.more{W:World}{base:Nat}{oth:List Nat}{M r:Nat}{x0 x1 x2:Value}{most:Nat}{sv:Value}{vals:List Value}{T:Sets}(h:Mkr W base oth M r x0 x1 x2 most sv vals T)(z:Nat)(hz:W.heap.size<=z):Mkr W base (z::oth) M r x0 x1 x2 most sv vals T:=
 {h with
  row:=fun i v S hv hS=>(h.row i v S hv hS).more fun k hk hlt=>Decidable.byContradiction fun hn=>rE hn (z:=z) (by omega) hk}
theorem BJ{o:Oper}{a:Act}{K:Act->World->Prop}{Q:Exit->Act->World->Prop}{W:World}(base:Nat)(v:Value)(pre l:List Int)(s y:Operand)
  (ho:o.op=.call {callee:=.builtin .append,args:=#[s,y],argTypes:=#[25,25]}) (hs:a.eval s=v) (hown:W.ownsRow base 3 1 v pre.length (pre.map (Value.int .i64))) (B c m:Nat) (hm:m=l.length) (hx:a.eval y=.slice (some ⟨B,0,none⟩) m c)
  (hc:∀j (h:j<l.length),W.cell? ⟨B,j,none⟩=some (.int .i64 l[j])) (hl:pre.length<=1000000) (hl2:l.length<=1000000) (hb:base<=W.heap.size)
  (h:∀v' w',w'.ownsRow base 3 1 v' (pre.length+l.length) (pre.map (Value.int .i64)++l.map (Value.int .i64))->W.grownBy w' v.ownBlock->(v'.ownBlock=v.ownBlock\/v'.ownBlock=some W.heap.size)->K (a.put o.dst v') w'):o.wp Tryz.prog a W K Q:=by
 subst hm;obtain⟨ti,hi,hz0,hz1,hz2⟩:=info_parts info3';obtain⟨v',w',hr,h2,h3,_,h5⟩:=run_append_own_at (P:=Tryz.prog) W base 25 o.type 3 ti (.int .i64 0) 1 8 Tryz.underlying25 hi hz0 hz1 hz2 rfl (by decide) v pre.length _ hown ⟨B,0,none⟩ l.length c (l.map (Value.int .i64)) (by simp)
  (fun j u hj=>by
   rw[addr_add,af9];obtain⟨hj',rfl⟩:=afW.1 hj;rw[ahi];exact hc j (by simpa using hj')) (fun u hu=>by
   obtain⟨k,_,rfl⟩:=agv.1 hu;rfl) (by unfold maxLen;omega) (by omega) hb
 unfold Oper.wp execOp;simp only[ho,resolve,invoke,builtin,Sem.run_bind,Sem.run_pure,Result.andThen_ok,agh,agd,agm,hs,hx,hr];exact h v' w' h2 h3 h5
theorem aby{F:Fence}{m:Nat}{P:Program}{ops:Array Oper}{Q:Exit->Act->World->Prop}{a:Act}{w:World}{rest:List Oper}{d:Option Tmp}{t:TypeId}{x y:Operand}{ty:TypeId}{pos:String}{after:Array Edge}
 (h:wpListIn F m P ops Q ({dst:=d,op:=.makeSlice t x y,type:=ty,pos:=pos,after:=after,guard:=none}::rest) a w):
 wpListIn F m P ops Q ({dst:=d,op:=.makeSlice t x y,type:=ty,pos:=pos,after:=after,guard:=none}::rest) a w:=h
theorem abM:AX.sizeT Tryz.prog 27=some 2:=by kernel_rfl
theorem abw:AX.sizeT Tryz.prog 25=some 1:=by kernel_rfl
def Ht:List (Nat×Nat):=[(0,0),(1,0),(2,0),(3,0),(4,0),(5,0),(6,0),(7,0),(8,0),(9,0),(10,2),(11,2),(12,2),(13,0),(14,2)]
theorem adI(W:World):(Instr.makeMap 128 none).run Tryz.prog W=.ok (.map (some W.heap.size)) (W.alloc (.map #[] 0)):=run_makeMap 52 W
theorem Mkr.new{w W:World}{M r:Nat}{x0 x1 x2:Value}{most:Nat}(hb:Bx W M 130 #[x0,x1,x2,.int .i64 most,.slice none 0 0,.map (some r)])(hm:W.heap[r]?=some (.map #[] 0))(h1:w.heap.size<=M)(h2:w.heap.size<=r):Mkr W w.heap.size [] M r x0 x1 x2 most (.slice none 0 0) [] [] where
 box:=hb
 own:=World.ownsRow_nil _ _ _ _
 vl:=rfl
 row i v S hv _:=by simp at hv
 map:=hm
 bM:=h1
 br:=h2
 small U hU:=by simp at hU
def RY:List Int:=List.replicate 256 0
theorem RZ(w:World):(Instr.makeSlice 25 (.int .i64 256) (.int .i64 256)).run Tryz.prog w=.ok (.slice (some ⟨w.heap.size,0,none⟩) 256 256) (w.alloc (.cells (ci RY) 3)):=VK w
theorem Rw.Za(d:List Kl):Rw d [] 0 RY:=Rw.start d
def SF(w V0 V:World)(x0 x1 x2:Value)(U D M r ga:Nat)(d:List Kl)(most:Nat)(oth:List Nat)(sv nv rv:Value)(T:Sets)(S:List Int)(next rule:List Int)(t:Int)(ok:Bool):Prop:=
 Dk V0 V/\V0.heap.size<=V.heap.size/\((ok=false/\mF most T S=none/\Bx V (U+1) 27 #[.slice none 0 0,.slice none 0 0]/\Below w.heap.size w V) \/
  (ok=true/\∃T2 sv' vals',mF most T S=some (t,T2)/\Bs w V x0 x1 x2 U (U+1) D M r ga d most oth sv' nv rv vals' T2 next rule/\(∀k∈oth,k<V.heap.size)/\Ch (aT M r sv []) V0 V/\(sv'.ownBlock=sv.ownBlock\/∃g,sv'.ownBlock=some g/\V0.heap.size<=g)))
section
variable {w V0 V V' : World} {x0 x1 x2 : Value} {U D M r ga : Nat} {d : List Kl} {most : Nat} {oth : List Nat} {sv nv rv : Value} {vals : List Value} {T : Sets} {S next rule : List Int} {t : Int} {ok : Bool}
theorem SF.below(h:SF w V0 V x0 x1 x2 U D M r ga d most oth sv nv rv T S next rule t ok)(hb:Below V.heap.size V V'):SF w V0 V' x0 x1 x2 U D M r ga d most oth sv nv rv T S next rule t ok:=by
 obtain⟨h1,h2,h3⟩:=h;refine⟨h1.trans (Dk.of_below hb),agb h2 hb.size,?_⟩;rcases h3 with ⟨a,b,c,e⟩|⟨a,T2,sv',vals',b,c,e,f,g⟩
 ·exact .inl ⟨a,b,c.below hb c.lt,e.trans (hb.mono e.size)⟩
 ·exact .inr ⟨a,T2,sv',vals',b,c.below hb,fun k hk=>afN (e k hk) hb.size,f.trans (Ch.of_below hb _),g⟩
theorem Bs.cons(h:Bs w V x0 x1 x2 U (U+1) D M r ga d most oth sv nv rv vals T next rule)(hb:Below V.heap.size V V'):Bs w V' x0 x1 x2 U (U+1) D M r ga d most (V.heap.size::oth) sv nv rv vals T next rule:=
 (h.more (V.heap.size::oth) (fun k hk hlt=>by
  rcases afX.1 hk with e|hk
  ·omega
  ·exact hk) (fun k hk=>afV _ hk) (fun k hk=>by
  rcases afX.1 hk with e|hk
  ·rw[e];exact h.low.size
  ·exact h.lo k hk)).below hb
theorem SF.cons(h:SF w V0 V x0 x1 x2 U D M r ga d most oth sv nv rv T S next rule t ok)(hb:Below V.heap.size V V')(hz:V.heap.size<V'.heap.size):SF w V0 V' x0 x1 x2 U D M r ga d most (V.heap.size::oth) sv nv rv T S next rule t ok:=by
 have h':=h.below hb;obtain⟨h1,h2,h3⟩:=h';obtain⟨_,_,k3⟩:=h;refine⟨h1,h2,?_⟩;rcases k3 with ⟨a,b,c,e⟩|⟨a,T2,sv',vals',b,c,e,f,g⟩
 ·rcases h3 with h3|⟨a',_⟩
  ·exact .inl h3
  ·rw[a]at a';cases a'
 ·refine .inr ⟨a,T2,sv',vals',b,c.cons hb,fun k hk=>?_,f.trans (Ch.of_below hb _),g⟩
  rcases afX.1 hk with e'|hk
  ·rw[e'];exact hz
  ·exact afN (e k hk) hb.size
theorem SF.store(h:SF w V0 V x0 x1 x2 U D M r ga d most oth sv nv rv T S next rule t ok){TB:Nat}{cs:Array Value}(hT:TB∈oth)(h0:V0.heap.size<=TB)(hw:w.heap.size<=V0.heap.size)(hcs:V.heap[TB]?=some (.cells cs 3 (0,0)))(hn:nv.ownBlock≠some TB)(hr:rv.ownBlock≠some TB)
  (h4:∀k,k≠TB->V'.heap[k]?=V.heap[k]?) (hl:Below 0 V V'):SF w V0 V' x0 x1 x2 U D M r ga d most oth sv nv rv T S next rule t ok:=by
 obtain⟨h1,h2,h3⟩:=h;have hc:Ch [TB] V V':=Ch.ni (A:=TB) hl h4 (by simp);refine⟨h1.trans (Dk.LP hc fun k hk _ e=>by rw[afK.1 hk,hcs]at e;cases e),agb h2 hl.size,?_⟩;rcases h3 with ⟨a,b,c,e⟩|⟨a,T2,sv',vals',b,c,e,f,g⟩
 ·refine .inl ⟨a,b,(h4 _ (fun e=>by rw[<-e,show V.heap[_]?=_ from c]at hcs;cases hcs)).trans c,e.trans (hc.below e.size fun k hk=>by rw[afK.1 hk];omega)⟩
 ·refine .inr ⟨a,T2,sv',vals',b,c.row hT hcs hn hr hc,fun k hk=>afN (e k hk) hl.size,f.trans' hc fun k hk hlt=>?_,g⟩
  rw[afK.1 hk]at hlt;omega
theorem SF.oZ{X:World}{e:Ending}(hB:Bs w X x0 x1 x2 U (U+1) D M r ga d most oth sv nv rv vals T next rule)(hd:Dk V0 X)(hb:Below V0.heap.size V0 X)(hl:∀k∈oth,k<X.heap.size)(h:lJ X w.heap.size oth M r x0 x1 x2 most sv T S e V):
  ∃t ok,e=.returned (.tuple #[.int .i64 t,.bool ok])/\SF w V0 V x0 x1 x2 U D M r ga d most oth sv nv rv T S next rule t ok:=by
 rcases h with ⟨h1,rfl,h3⟩|⟨t,T2,sv',vals',h1,rfl,h3,h4,h5⟩
 ·refine⟨0,false,rfl,hd.trans (hB.mkr.dk h3),agb hb.size h3.low.size,.inl ⟨rfl,h1,h3.bx hB.rb (fun hm=>hB.nR (iD hm)),hB.low.trans (h3.below hB.low.size fun b hb'=>?_)⟩⟩
  unfold aT at hb';simp only[afX,af2,agz,agx,ahd]at hb';rcases hb' with rfl|rfl|hb'
  ·exact hB.mkr.bM
  ·exact hB.mkr.br
  ·exact(hB.mkr.own.lt b hb').1
 ·exact⟨t,true,rfl,hd.trans (hB.mkr.dk h4),agb hb.size h4.low.size,.inr ⟨rfl,T2,sv',vals',h1,hB.state h3 h4 h5,fun k hk=>afN (hl k hk) h4.low.size,(Ch.of_below hb _).trans h4,h5.imp id fun ⟨g,h6,h7⟩=>⟨g,h6,agb hb.size h7⟩⟩⟩
end
theorem Ch.lets{g b:Nat}{W0 X Y:World}(h:Ch [g,b] W0 X)(hl:AX.Lets b W0.heap.size X Y):Ch [g,b] W0 Y:=⟨h.low.trans hl.low,fun k hk hn=>by
 have h1:=h.same k hk hn;obtain⟨o,ho⟩:∃o,W0.heap[k]?=some o:=⟨_,agD hk⟩;rw[ho]at h1⊢;exact hl.same k o h1 (fun e=>hn (by rw[e];simp)) (.inl hk)⟩
theorem Hy{W:World}{B B':Nat}{t t':TypeId}{cs cs':Array Value}(h:Bx W B t cs)(h':Bx W B' t' cs')(ht:t≠t'):B≠B':=by
 rintro rfl;have:=(show W.heap[B]?=_ from h).symm.trans h'
 cases this
 exact ht rfl
theorem sz3:AX.sizeT Tryz.prog 3=some 1:=by kernel_rfl
theorem yj{w V:World}{x0 x1 x2:Value}{U D M r ga:Nat}{d:List Kl}{most:Nat}{oth:List Nat}{sv nv rv:Value}{vals:List Value}{T:Sets}{next rule:List Int}(h:Bs w V x0 x1 x2 U (U+1) D M r ga d most oth sv nv rv vals T next rule)(hl:∀k∈oth,k<V.heap.size):∀k∈aT M r sv oth,k<V.heap.size:=fun k hk=>by
 unfold aT at hk;simp only[afX,af2,agz]at hk;rcases hk with rfl|rfl|hk|hk
 ·exact h.mkr.box.lt
 ·exact (afF.1 h.mkr.map).1
 ·exact(h.mkr.own.lt k hk).2
 ·exact hl k hk
theorem lJ.ch{W W':World}{base:Nat}{oth:List Nat}{M r:Nat}{x0 x1 x2:Value}{most:Nat}{sv:Value}{T:Sets}{S:List Int}{e:Ending}(h:lJ W base oth M r x0 x1 x2 most sv T S e W'):Ch (aT M r sv []) W W':=by
 rcases h with ⟨_,_,h⟩|⟨_,_,_,_,_,_,_,h,_⟩
 ·exact h
 ·exact h
def Hw:AX.Plan:=.plain 0 (.plain 1 (.plain 2 (.plain 3 (.plain 4 (.plain 6 (.plain 9 (.two 5 (.plain 7 (.two 8 (.two 10 (.two 11 (.plain 12 (.plain 13 (.plain 14 (.one 15 (.one 16 (.plain 17 .nil)))))) 15 (.one 11 (.plain 12 (.plain 13 (.plain 14 (.one 16 (.plain 17 .nil))))))) 15 (.one 10 (.one 11 (.plain 12 (.plain 13 (.plain 14 (.one 16 (.plain 17 .nil)))))))) 15 (.one 8 (.one 10 (.one 11 (.plain 12 (.plain 13 (.plain 14 (.one 16 (.plain 17 .nil)))))))))) 15 (.one 5 (.plain 7 (.one 8 (.one 10 (.one 11 (.plain 12 (.plain 13 (.plain 14 (.one 16 (.plain 17 .nil)))))))))))))))))
end
section
open Go Go.Proofs Go.RowKit
theorem Jj:WideMaps.KeyLaw Tryz.prog 188:=deep_law (m:=3) (by decide) (by kernel_rfl) (by kernel_rfl) (by kernel_rfl)
def W64(l:List Int):Prop:=∀x∈l,-9223372036854775808<=x/\x<9223372036854775808
def sgV(l:List Int):Value:=.agg (ci l)
theorem F7{α β: Type}{f: α->Option β}: ∀(l:List α),(∀x∈l,∃y,f x=some y)->∃ys,l.mapM f=some ys
 | [],_=>⟨[],rfl⟩
 | x::l,h=>by
  obtain⟨y,hy⟩:=h x (afS ..);obtain⟨ys,hys⟩:=F7 l fun z hz=>h z (afV _ hz);exact⟨y::ys,by simp[aiy,hy,hys]⟩
theorem cells3:Tryz.prog.cellsOf 3=1:=by kernel_rfl
theorem F8:Tryz.prog.cellsOf 186=256:=by kernel_rfl
theorem F9:Tryz.prog.cellsOf 188=257:=by kernel_rfl
theorem aau(D:Nat)(x:Int)(h: -9223372036854775808<=x/\x<9223372036854775808):Tryz.prog.keyLits (D+1) 3 [.int .i64 x]=some [.int .i64 x]:=by
 unfold Program.keyLits;rw[Tryz.underlying3];simp only;have hw:(Lit.int .i64 x).wf=true:=by
  simp[Lit.wf,IntKind.min,IntKind.max,IntKind.signed,IntKind.bits];omega
 rw[afR ⟨trivial,hw⟩]
theorem take_one{l:List Int}{i:Nat}(hi:i<l.length):((l.map (Value.int .i64)).drop i).take 1=[.int .i64 l[i]]:=by
 rw[ahw (by simpa using hi)];simp
theorem X4(D:Nat)(l:List Int)(hl:l.length=256)(h:W64 l):∃ls,Tryz.prog.keyLits (D+2) 186 (l.map (Value.int .i64))=some ls:=by
 unfold Program.keyLits;rw[Tryz.underlying186];simp only[F8,cells3,ah5,agf,hl,ain];obtain⟨ys,hy⟩:=F7 (f:=fun i=>Tryz.prog.keyLits (D+1) 3 (((l.map (Value.int .i64)).drop i).take 1)) (List.range 256) fun i hi=>by
  have hi:i<l.length:=by rw[hl];exact agH.1 hi
  exact⟨_,by rw[take_one hi];exact aau D _ (h _ (agu hi))⟩
 exact⟨_,by rw[hy];rfl⟩
theorem X5(D:Nat)(l:List Int)(hl:l.length=257)(h:W64 l):∃ls,Tryz.prog.keyLits (D+3) 188 (l.map (Value.int .i64))=some ls:=by
 cases l with
 | nil=>simp at hl
 | cons x t =>
  have ht:t.length=256:=by simpa using hl
  obtain⟨ys,hy⟩:=X4 D t ht fun z hz=>h z (afV _ hz);have hx:=aau (D+1) x (h x (afS ..));have e1:((((x::t).map (Value.int .i64)).drop 0).take 1)=[.int .i64 x]:=by simp
  have e2:((((x::t).map (Value.int .i64)).drop 1).take 256)=t.map (Value.int .i64):=by
   rw[agd,List.drop_one,List.tail_cons,agW (by rw[agf,ht];exact agq _)]
  unfold Program.keyLits;rw[Tryz.underlying188];simp only[F9,agf,hl];rw[afR ⟨trivial,by kernel_rfl⟩];refine⟨([[.int .i64 x],ys]:List (List Lit)).flatten,?_⟩;simp only[aiy,List.mapM_nil,cells3,F8,e1,e2,hx,hy];rfl
theorem X6{l:List Int}(hl:l.length=257)(h:W64 l):∃s,keyOf Tryz.prog 188 (sgV l)=some s:=by
 obtain⟨D,hD⟩:∃D,Tryz.prog.types.size+1=D+3:=⟨Tryz.prog.types.size-2,by
  have:2<=Tryz.prog.types.size:=Nat.le_of_ble_eq_true (by kernel_rfl);omega⟩
 obtain⟨ls,hls⟩:=X5 D l hl h;unfold keyOf;rw[Tryz.underlying188];simp only;rw[show Tryz.prog.keyType 188=true by kernel_rfl,hD];have hf:(sgV l).formed Tryz.prog 188=true:=by
  unfold sgV Value.formed;rw[Tryz.underlying188];simp only;rw[F9];simp[ci,hl]
 rw[hf];simp only[Bool.and_self,ain];rw[show(sgV l).cells.toList=l.map (Value.int .i64)by simp[sgV,ci,Value.cells],hls];exact⟨_,rfl⟩
def eU:Nat->List (List Int)->List MapEntry
 | _,[]=>[]
 | o,S::T=>{key:=sgV S,val:=.int .i64 (o:Int),born:=o}::eU (o+1) T
theorem yR:∀(o:Nat)(T:List (List Int)) (S:List Int),eU o (T++[S])=eU o T++[{key:=sgV S,val:=.int .i64 ((o+T.length:Nat):Int),born:=o+T.length}]
 | o,[],S=>by simp[eU]
 | o,U::T,S=>by
  show _::eU (o+1) (T++[S])=_::(eU (o+1) T++_)
  rw[yR (o+1) T S,agl,show o+1+T.length=o+(T.length+1)by omega]
theorem vw:∀(o:Nat)(T:List (List Int)) (j:Nat) (e:MapEntry),(eU o T)[j]?=some e->∃S,T[j]?=some S/\e.key=sgV S/\e.val=.int .i64 ((o+j:Nat):Int)
 | _,[],j,e,h=>by simp[eU]at h
 | o,S::T,0,e,h=>by
  simp[eU]at h;subst h;exact⟨S,rfl,rfl,rfl⟩
 | o,S::T,j+1,e,h=>by
  simp only[eU,ahE]at h;obtain⟨U,h1,h2,h3⟩:=vw (o+1) T j e h;exact⟨U,by simpa using h1,h2,by rw[h3];congr 2;omega⟩
theorem Nr{T:List (List Int)}{S:List Int}(h:S∈T):∃e∈eU 0 T,e.key=sgV S:=by
 have:∀(o:Nat)(T:List (List Int)),S∈T->∃e∈eU o T,e.key=sgV S:=by
  intro o T
  induction T generalizing o with
  | nil=>intro h;cases h
  | cons U T ih =>
   intro h;rcases afX.1 h with rfl|h
   ·exact⟨_,afS ..,rfl⟩
   ·obtain⟨e,he,h2⟩:=ih (o+1) h
    exact⟨e,afV _ he,h2⟩
 exact this 0 T h
theorem Gf:∀{a b:List Int},a.map (Value.int .i64)=b.map (Value.int .i64)->a=b
 | [],[],_=>rfl
 | [],_::_,h=>by simp at h
 | _::_,[],h=>by simp at h
 | x::a,y::b,h=>by
  obtain⟨h1,h2⟩:=ais h;rw[(Value.int.inj h1).2,Gf h2]
theorem UO{a b:List Int}(h:sgV a=sgV b):a=b:=by
 unfold sgV ci at h;have h1:=Value.agg.inj h;have h2:a.map (Value.int .i64)=b.map (Value.int .i64):=by simpa using h1
 exact Gf h2
def Sg(S:List Int):Prop:=S.length=257/\W64 S
theorem Sg.key{S:List Int}(h:Sg S):∃l,keyOf Tryz.prog 188 (sgV S)=some l:=X6 h.1 h.2
theorem Xg{W:World}{T:List (List Int)}{S:List Int}(hS:Sg S)(hT:∀U∈T,Sg U)(hn:T.Nodup):
  (Instr.findKey 188 (sgV S) (eU 0 T)).run Tryz.prog W=.ok (if fi T S<T.length then some (fi T S,.int .i64 (fi T S:Int))else none) W:=by
 obtain⟨l,hl⟩:=hS.key;rcases Jj.find W hl (eU 0 T) (fun e he=>by
  obtain⟨j,hj⟩:=ahv he;obtain⟨U,h1,h2,_⟩:=vw 0 T j e hj;rw[h2];exact(hT U (af7 h1)).key)with ⟨h1,h2⟩|⟨j,e,h1,h2,h3⟩
 ·have hno:S∉T:=fun h=>by
   obtain⟨e,he,h3⟩:=Nr h;exact h2 e he h3
  have:¬fi T S<T.length:=fun h=>by
   unfold fi at h;have:=ag4 (w:=h);simp only[ahe]at this;exact hno (this▸ agu h)
  rw[h1,afO this]
 ·obtain⟨U,h4,h5,h6⟩:=vw 0 T j e h2
  have hU:U=S:=UO (h5.symm.trans h3);subst hU;obtain⟨hj,hju⟩:=afW.1 h4;have hlt:fi T U<T.length:=agT ⟨U,af7 h4,by simp⟩;have hfj:fi T U=j:=by
   have h7:T[fi T U]=U:=by
    have:=ag4 (w:=hlt);simp only[ahe]at this;exact this
   exact (aib hn).1 (h7.trans hju.symm)
  rw[h1,afR hlt,hfj,h6,af9]
theorem aav{W:World}{r:Nat}{T:List (List Int)}{c:Nat}{S:List Int}(hb:W.heap[r]?=some (.map (eU 0 T).toArray c))(hS:Sg S)(hT:∀U∈T,Sg U)(hn:T.Nodup):
  (Instr.lookup 185 (.map (some r)) (sgV S) true).run Tryz.prog W=.ok (.tuple #[.int .i64 (if fi T S<T.length then (fi T S:Int)else 0),.bool (decide (fi T S<T.length))]) W:=by
 have hm:Tryz.prog.underlying 185=some (.map 188 3):=Tryz.underlying185;obtain⟨l,hl⟩:=hS.key;have hc:=Jj.check W (eU 0 T).toArray.isEmpty hl;have hf:=Xg (W:=W) hS hT hn;have hz:=Tryz.zeroValue3
 by_cases h:fi T S<T.length
 ·rw[afR h]at hf
  rw[afR h,agL h];simp only[Instr.lookup,Sem.run_bind,run_underlying hm,Result.andThen_ok,MapKept.run_getObj_map hb,Sem.run_pure,hc,hf];rfl
 ·rw[afO h]at hf
  rw[afO h,agC h];simp only[Instr.lookup,Sem.run_bind,run_underlying hm,Result.andThen_ok,MapKept.run_getObj_map hb,Sem.run_pure,hc,hf,hz];rfl
theorem ac5{W:World}{r:Nat}{T:List (List Int)}{S:List Int}(hb:W.heap[r]?=some (.map (eU 0 T).toArray T.length))(hS:Sg S)(hT:∀U∈T,Sg U)(hn:T.Nodup)(hno:¬fi T S<T.length):
  ∃W',(Instr.mapUpdate 185 (.map (some r)) (sgV S) (.int .i64 T.length)).run Tryz.prog W=.ok () W'/\W'.heap[r]?=some (.map (eU 0 (T++[S])).toArray (T++[S]).length)/\AX.But r W W':=by
 have hm:Tryz.prog.underlying 185=some (.map 188 3):=Tryz.underlying185;have hf:=Xg (W:=W) hS hT hn;rw[afO hno]at hf;obtain⟨l,hl⟩:=hS.key;have hc:=Jj.check W false hl;have hx:((eU 0 T).toArray.push {key:=sgV S,val:=.int .i64 (T.length:Int),born:=T.length})=(eU 0 (T++[S])).toArray:=by
  rw[yR,af9];simp
 refine⟨{W with heap:=W.heap.setIfInBounds r (.map ((eU 0 T).toArray.push {key:=sgV S,val:=.int .i64 (T.length:Int),born:=T.length}) (T.length+1))},?_,?_,⟨⟨rfl,rfl,rfl,by simp,fun j hj=>absurd hj (agp _)⟩,fun j hj hne=>(MapKept.heap_set hb).2 j hne⟩⟩
 ·simp only[Instr.mapUpdate,Sem.run_bind,run_underlying hm,Result.andThen_ok,MapKept.run_getObj_map hb,hc,hf,MapKept.run_setObj_map _ hb]
 ·rw[<-hx,afP]
  exact (MapKept.heap_set hb).1
end
section
def jR(next part:List Int)(i:Nat)(own:Int):List Int:=own::(rowOf next i).map fun t=>if 0<=t then part.getD t.toNat 0 else -1
def ptS(next part:List Int)(x:List (List Int)×List Int)(i:Nat):List (List Int)×List Int:=
 if part.getD i 0<0 then (x.1,x.2.set i (-1))else
  (if fi x.1 (jR next part i (part.getD i 0))<x.1.length then x.1 else x.1++[jR next part i (part.getD i 0)],x.2.set i (fi x.1 (jR next part i (part.getD i 0)):Int))
def ptR(next part:List Int)(k:Nat):List (List Int)×List Int:=(List.range k).foldl (ptS next part) ([],List.replicate part.length 0)
def ptL(next:List Int):Nat->Int->List Int->List Int
 | 0,_,p=>p
 | f+1,n,p=>if ((ptR next p p.length).1.length:Int)=n then (ptR next p p.length).2 else ptL next f (ptR next p p.length).1.length (ptR next p p.length).2
def jK(next rule:List Int):List Int:=(List.range rule.length).map fun i=>if (kF next rule).getD i false=true then rule.getD i 0+1 else -1
def lC(next rule:List Int):List Int:=ptL next (rule.length+3) (-1) (jK next rule)
theorem sN(next part:List Int)(k:Nat):ptR next part (k+1)=ptS next part (ptR next part k) k:=by
 unfold ptR;rw[ahQ,agI];rfl
theorem PZ(T:List (List Int))(S:List Int):fi T S<=T.length:=ahg
theorem vC{T:List (List Int)}{S:List Int}: fi T S<T.length↔S∈T:=by
 unfold fi;rw[List.findIdx_lt_length]
 constructor
 ·rintro⟨x,hx,e⟩
  rw[<-(ahe.1 e)];exact hx
 ·intro h
  exact⟨S,h,by simp⟩
structure PtI(part:List Int)(k:Nat)(x:List (List Int)×List Int):Prop where
 len:x.2.length=part.length
 nd:x.1.Nodup
 most:x.1.length<=k
 own:∀S∈x.1,∃j,j<k/\0<=part.getD j 0/\S.head?=some (part.getD j 0)
 has:∀j,j<k->0<=part.getD j 0->∃S∈x.1,S.head?=some (part.getD j 0)
 vals:∀j,j<k -> -1<=x.2.getD j 0/\x.2.getD j 0<x.1.length
 all:∀m,m<x.1.length->∃j,j<k/\x.2.getD j 0=(m:Int)
theorem bW{l:List Int}{i:Nat}{v:Int}(h:i<l.length):(l.set i v).getD i 0=v:=by
 rw[afG,agX h,agr]
theorem getD_set_ne{l:List Int}{i j:Nat}{v:Int}(h:i≠j):(l.set i v).getD j 0=l.getD j 0:=by
 rw[afG,agM h,afG]
theorem ptI(next part:List Int):∀k,k<=part.length->PtI part k (ptR next part k)
 | 0,_=>⟨by simp[ptR],by simp[ptR],by simp[ptR],by simp[ptR],fun j h=>absurd h (agp _),fun j h=>absurd h (agp _),by simp[ptR]⟩
 | k+1,hk=>by
  have h:=ptI next part k (by omega)
  rw[sN];generalize ptR next part k=x at h⊢
  have hkl:k<x.2.length:=by rw[h.len];omega
  unfold ptS;split
  ·rename_i hneg
   refine⟨by rw[agA];exact h.len,h.nd,ah3 h.most,fun S hS=>?_,fun j hj h0=>?_,fun j hj=>?_,fun m hm=>?_⟩
   ·obtain⟨j,h1,h2⟩:=h.own S hS
    exact⟨j,by omega,h2⟩
   ·have:j≠k:=fun e=>by subst e;omega
    exact h.has j (by omega) h0
   ·by_cases e:k=j
    ·subst e
     simp only;rw[bW hkl];omega
    ·simp only
     rw[getD_set_ne e];exact h.vals j (by omega)
   ·obtain⟨j,h1,h2⟩:=h.all m hm
    exact⟨j,by omega,by simp only;rw[getD_set_ne (by omega)];exact h2⟩
  ·rename_i hpos
   generalize hS:jR next part k (part.getD k 0)=S
   have hhd:S.head?=some (part.getD k 0):=(by rw[<-hS];rfl);have hfl:=PZ x.1 S
   by_cases hf:fi x.1 S<x.1.length
   ·rw[afR hf]
    refine⟨by simp only;rw[agA];exact h.len,h.nd,ah3 h.most,fun U hU=>?_,fun j hj h0=>?_,fun j hj=>?_,fun m hm=>?_⟩
    ·obtain⟨j,h1,h2⟩:=h.own U hU
     exact⟨j,by omega,h2⟩
    ·by_cases e:j=k
     ·subst e
      exact⟨S,vC.1 hf,hhd⟩
     ·exact h.has j (by omega) h0
    ·simp only
     by_cases e:k=j
     ·subst e
      rw[bW hkl];omega
     ·rw[getD_set_ne e]
      exact h.vals j (by omega)
    ·obtain⟨j,h1,h2⟩:=h.all m hm
     exact⟨j,by omega,by simp only;rw[getD_set_ne (by omega)];exact h2⟩
   ·rw[afO hf]
    have hno:S∉x.1:=fun h=>hf (vC.2 h);have hfe:fi x.1 S=x.1.length:=(by omega);refine⟨by simp only;rw[agA];exact h.len,?_,?_,fun U hU=>?_,fun j hj h0=>?_,fun j hj=>?_,fun m hm=>?_⟩
    ·simp only
     rw[ahD];exact⟨h.nd,by simp,fun a ha b hb e=>hno (by rw[afK.1 hb]at e;rw[<-e];exact ha)⟩
    ·simp only
     rw[afP,ags];have:=h.most;omega
    ·rcases af2.1 hU with hU|hU
     ·obtain⟨j,h1,h2⟩:=h.own U hU
      exact⟨j,by omega,h2⟩
     ·rw[afK.1 hU]
      exact⟨k,by omega,by omega,hhd⟩
    ·by_cases e:j=k
     ·subst e
      exact⟨S,by simp,hhd⟩
     ·obtain⟨U,h1,h2⟩:=h.has j (by omega) h0
      exact⟨U,agY _ h1,h2⟩
    ·simp only
     rw[afP,ags]
     by_cases e:k=j
     ·subst e
      rw[bW hkl];omega
     ·rw[getD_set_ne e]
      have:=h.vals j (by omega);omega
    ·simp only at hm⊢
     rw[afP,ags]at hm
     by_cases e:m=x.1.length
     ·subst e
      exact⟨k,by omega,by rw[bW hkl,hfe]⟩
     ·obtain⟨j,h1,h2⟩:=h.all m (by omega)
      exact⟨j,by omega,by rw[getD_set_ne (by omega)];exact h2⟩
def Cov(n:Int)(part:List Int):Prop:=∀m:Nat,(m:Int)<n->∃j,j<part.length/\part.getD j 0=(m:Int)
theorem Jk{next part:List Int}{n:Int}(h:Cov n part):n<=((ptR next part part.length).1.length:Int):=by
 have hI:=ptI next part part.length afD
 generalize ptR next part part.length=x at hI⊢
 by_cases hn:n<=0
 ·omega
 obtain⟨m,rfl⟩:∃m:Nat,n=(m:Int):=⟨n.toNat,by omega⟩;have hsub:((List.range m).map fun i:Nat=>some (i:Int)).length<=(x.1.map List.head?).length:=by
  refine agQ ?_ fun y hy=>?_
  ·refine ahb.2 (List.nodup_range.imp fun hne e=>hne ?_)
   have:=agc e;omega
  ·obtain⟨i,hi,rfl⟩:=agv.1 hy
   obtain⟨j,hj,he⟩:=h i (by have:=agH.1 hi;omega);obtain⟨S,hS,hh⟩:=hI.has j hj (by omega);exact agv.2 ⟨S,hS,by rw[hh,he]⟩
 simp only[agf,ahF]at hsub;omega
theorem yS(next part:List Int):Cov ((ptR next part part.length).1.length:Int) (ptR next part part.length).2:=fun m hm=>by
 have hI:=ptI next part part.length afD
 obtain⟨j,h1,h2⟩:=hI.all m (by omega);exact⟨j,by rw[hI.len];exact h1,h2⟩
theorem yT(next:List Int):∀(f f':Nat)(n:Int)(p:List Int),Cov n p->(p.length:Int)-n<f->(p.length:Int)-n<f'->n<=p.length->ptL next f n p=ptL next f' n p
 | 0,_,_,_,_,h,_,hn=>by omega
 | f+1,0,_,_,_,_,h,hn=>by omega
 | f+1,f'+1,n,p,hc,h,h',hn=>by
  have hI:=ptI next p p.length afD
  have h1:=Jk (next:=next) hc;unfold ptL;split
  ·rfl
  ·rename_i hne
   have:=hI.most;exact yT next f f' _ _ (yS next p) (by rw[hI.len];omega) (by rw[hI.len];omega) (by rw[hI.len];omega)
end
section
open Go Go.Proofs Go.RowKit
attribute [local go_sem] Oper.semAt_some
def zS:List Int:=List.replicate 257 0
def zT:List Int:=List.replicate 256 0
theorem P5:zS.length=257:=by kernel_rfl
theorem yU:(Tryz.prog.info? 188).map (fun i=>(i.zero,i.size))=some (some (sgV zS),257):=by kernel_rfl
theorem KX(w:World):(zeroValue 188).run Tryz.prog w=.ok (sgV zS) w:=by
 cases h:Tryz.prog.info? 188 with
 | none=>have:=yU;rw[h]at this;cases this
 | some i =>
  have h2:=yU;rw[h]at h2;simp only[ag8,ahc,Prod.mk.injEq]at h2;simp[zeroValue,typeInfo,Sem.run_bind,h,h2.1]
theorem UQ(cs:Array Value)(h:1<=cs.size)(x:Int):Instr.fill (fun i=>([(0,1),(1,256)]:List (Nat×Nat))[i]?) cs [(0,.int .i64 x)]=some (cs.setIfInBounds 0 (.int .i64 x)):=by
 show(if (decide ((1:Nat)≠1) || decide (0+1 > cs.size))=true then none else some (cs.setIfInBounds (0+0) (.int .i64 x)))=_
 rw[show decide (0+1 > cs.size)=false from agC (by omega)];rfl
theorem X7(x:Int):zS.set 0 x=x::zT:=rfl
theorem P6(x:Int)(w:World):(Instr.build 188 #[(0,.int .i64 x)]).run Tryz.prog w=.ok (sgV (x::zT)) w:=by
 have hf:=UQ (sgV zS).cells (by show 1<=(ci zS).size;simp[ci,P5]) x;have hc:(sgV zS).cells.setIfInBounds 0 (.int .i64 x)=ci (x::zT):=by
  show(ci zS).setIfInBounds 0 (.int .i64 x)=_
  rw[Jl,X7]
 rw[hc]at hf;simp only[Instr.build,Sem.run_bind,KX,Result.andThen_ok,run_underlying Tryz.underlying188];simp[Sem.run_bind];rw[hf];rfl
theorem mk25(n:Nat)(hn:n<=1000)(w:World):(Instr.makeSlice 25 (.int .i64 n) (.int .i64 n)).run Tryz.prog w=.ok (.slice (some ⟨w.heap.size,0,none⟩) n n) (w.alloc (.cells (ci (List.replicate n 0)) 3)):=by
 obtain⟨ti,hi,hz0,hz1,hz2⟩:=info_parts info3';have h:=run_makeSlice (P:=Tryz.prog) (w:=w) 25 3 ti (.int .i64 0) Tryz.underlying25 hi hz0 .i64 .i64 (n:Int) (n:Int) (by omega) (ah0 _) (by rw[hz1];simp;omega) (by rw[hz2];omega) (by omega);rw[afY]at h;rw[h];have e:madeCells (Value.int .i64 0).cells (n*ti.size)=ci (List.replicate n 0):=by
  rw[hz1,ah5];refine air.1 ?_
  show(madeCells #[Value.int .i64 0] n).toList=_
  rw[toList_madeCells_one];simp[ci]
 rw[e]
section
variable {ops : Array Oper} {rest : List Oper} {a : Act} {w : World} {Q : Exit -> Act -> World -> Prop} {dst : Option Tmp} {ty : TypeId} {pos : String} {after : Array Edge}
theorem X8{y:Operand}(h:wpList Tryz.prog ops Q ({dst:=dst,op:=.build 188 #[(0,y)],type:=ty,pos:=pos,after:=after,guard:=none}::rest) a w):wpList Tryz.prog ops Q ({dst:=dst,op:=.build 188 #[(0,y)],type:=ty,pos:=pos,after:=after,guard:=none}::rest) a w:=h
theorem xE{y:Operand}(x:Int)(hy:a.eval y=.int .i64 x)(h:wpList Tryz.prog ops Q rest (a.put dst (sgV (x::zT))) w):wpList Tryz.prog ops Q ({dst:=dst,op:=.build 188 #[(0,y)],type:=ty,pos:=pos,after:=after,guard:=none}::rest) a w:=by
 refine Go.Great.wpList_readTo rfl dst rfl (sgV (x::zT)) ?_ h;have hb:=P6 x w;unfold execOp;simp only[agh,agd,agm,hy];simp[hb]
theorem X9(h:wpList Tryz.prog ops Q ({dst:=dst,op:=.alloc 188,type:=ty,pos:=pos,after:=after,guard:=none}::rest) a w):wpList Tryz.prog ops Q ({dst:=dst,op:=.alloc 188,type:=ty,pos:=pos,after:=after,guard:=none}::rest) a w:=h
theorem xG(h:wpList Tryz.prog ops Q rest (a.put dst (.pointer (some ⟨w.heap.size,0,none⟩))) (w.alloc (.cells (ci zS) 188))):wpList Tryz.prog ops Q ({dst:=dst,op:=.alloc 188,type:=ty,pos:=pos,after:=after,guard:=none}::rest) a w:=by
 refine Go.Great.wpList_allocTo rfl dst rfl _ _ ?_ h;have hz:=KX w;unfold execOp;simp[go_sem,hz];rfl
theorem P7{x:Operand}(h:wpList Tryz.prog ops Q ({dst:=dst,op:=.load 188 x,type:=ty,pos:=pos,after:=after,guard:=none}::rest) a w):wpList Tryz.prog ops Q ({dst:=dst,op:=.load 188 x,type:=ty,pos:=pos,after:=after,guard:=none}::rest) a w:=h
theorem oG{x:Operand}{B:Nat}{S:List Int}(hx:a.eval x=.pointer (some ⟨B,0,none⟩))(hB:Bx w B 188 (ci S))(hS:S.length=257)(h:wpList Tryz.prog ops Q rest (a.put dst (sgV S)) w):wpList Tryz.prog ops Q ({dst:=dst,op:=.load 188 x,type:=ty,pos:=pos,after:=after,guard:=none}::rest) a w:=
 wpList_load_row rfl 188 x rfl B hx 188 (ci S) (0,0) _ hB Tryz.underlying188 rfl (by
  have:=yU
  cases h:Tryz.prog.info? 188 with
  | none=>rw[h]at this;cases this
  | some i =>
   rw[h]at this;simp only[ag8,ahc,Prod.mk.injEq]at this;simp[this.2,ci,hS]) h
end
end
end Go.Proofs.YtkjgogdkdejljaaGreatDoor.Df
