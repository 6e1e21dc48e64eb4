import Derived.Test.YtkjgogdkdejljaaGreatDoorDfN19
set_option maxRecDepth 100000
set_option maxHeartbeats 40000000
namespace Go.Proofs.YtkjgogdkdejljaaGreatDoor.Df
section
open Go Go.Proofs Go.RowKit
attribute [local go_sem] Oper.semAt_some
def MAt(W:World)(r:Nat)(ks:List Int):Prop:=∃ es clock,W.heap[r]?=some (.map es clock)∧es.toList.map (·.key)=ks.map (Value.int .i64)∧(∀ x∈es.toList,x.val = .agg #[])∧MapKept.Stamped es clock
theorem MAt.hat{W:World}{r:Nat}{ks:List Int}(h:MAt W r ks):HAt W r ks:=by
 obtain⟨es,c,h1,h2,_,h3⟩:=h;exact⟨es,c,h1,h2,h3⟩
theorem MAt.lt{W:World}{r:Nat}{ks:List Int}(h:MAt W r ks):r<W.heap.size:=h.hat.lt
theorem MAt.same{W W':World}{r:Nat}{ks:List Int}(h:MAt W r ks)(he:W'.heap[r]?=W.heap[r]?):MAt W' r ks:=by
 obtain⟨es,c,h1,h2⟩:=h;exact⟨es,c,he.trans h1,h2⟩
theorem MAt.nodup{W:World}{r:Nat}{ks:List Int}(h:MAt W r ks):ks.Nodup:=by
 obtain⟨es,c,_,h2,_,h3⟩:=h;have h4:(es.toList.map (·.key)).Nodup:=List.pairwise_map.2 (((MapKept.stamped_iff es c).1 h3).2.2);rw[h2] at h4;exact (List.pairwise_map.1 h4).imp fun hne e=>hne (by rw[e])
theorem EO{es:Array MapEntry}{ks:List Int}(hk:es.toList.map (·.key)=ks.map (Value.int .i64)):∀ x∈es.toList,∃ k∈ks,x.key = .int .i64 k:=fun x hx=>by
 have:x.key∈es.toList.map (·.key):=List.mem_map_of_mem hx;rw[hk,List.mem_map] at this;obtain⟨n,h1,e⟩:=this;exact⟨n,h1,e.symm⟩
theorem MAt.put{W:World}{r:Nat}{ks:List Int}(h:MAt W r ks)(k:Int):∃ W',(Instr.mapUpdate 112 (.map (some r)) (.int .i64 k) (.agg #[])).run Tryz.prog W = .ok () W'∧MAt W' r (kW ks k)∧W'.heap.size=W.heap.size∧Below 0 W W'∧∀ j,j≠r→W'.heap[j]?=W.heap[j]?:=by
 obtain⟨es,clock,hb,hk,hv,hs⟩:=h;have hks:∀ x∈es.toList,MapKept.IsKey (.int .i64) x.key:=fun x hx=>by
  obtain⟨n,_,e⟩:=EO hk x hx;rw[e];rfl
 have hm:Tryz.prog.underlying 112=some (.map 3 125):=Tryz.underlying112;have hd:Tryz.prog.underlying 3=some (.int .i64):=Tryz.underlying3;have hkk:MapKept.IsKey (.int .i64) (Value.int .i64 k):=rfl;rcases MapKept.findNow_spec hkk es.toList 0 hks with ⟨h1,h2⟩ | ⟨j,e,h1,h2,h3⟩
 ·refine⟨{ W with heap:=W.heap.setIfInBounds r (.map (es.push { key := .int .i64 k,val := .agg #[],born:=clock }) (clock+1)) },?_,⟨_,_,(MapKept.heap_set hb).1,?_,?_,MapKept.stamped_push hs h2⟩,by simp,⟨rfl,rfl,rfl,by simp,fun j hj=>absurd hj (Nat.not_lt_zero _)⟩,(MapKept.heap_set hb).2⟩
  ·simp[Instr.mapUpdate,run_underlying hm,MapKept.run_getObj_map hb,MapKept.run_checkKey hd hkk,MapKept.run_findKey hd h1,MapKept.run_setObj_map _ hb,Result.andThen]
  ·have hn:k∉ks:=fun hmem=>by
    have:Value.int .i64 k∈es.toList.map (·.key):=(by rw[hk];exact List.mem_map_of_mem hmem);obtain⟨x,hx,e⟩:=List.mem_map.1 this;exact h2 x hx e
   unfold kW;rw[if_neg hn];simp[hk]
  ·intro x hx
   rw[Array.toList_push,List.mem_append] at hx;rcases hx with hx | hx
   ·exact hv x hx
   ·rw[List.mem_singleton.1 hx]
 ·have hj:es[j]?=some e:=by simpa using h2
  have hkey:∀ e',es[j]?=some e'→({ e' with key := .int .i64 k,val := .agg #[] } : MapEntry).key=e'.key:=fun e' he'=>by rw[hj] at he';cases he';exact h3.symm
  refine⟨{ W with heap:=W.heap.setIfInBounds r (.map (es.modify j fun e=>{ e with key := .int .i64 k,val := .agg #[] }) clock) },?_,⟨_,_,(MapKept.heap_set hb).1,?_,?_,MapKept.stamped_modify hs _ _ (fun _ _=>rfl) (fun e' _ he'=>hkey e' he')⟩,by simp,⟨rfl,rfl,rfl,by simp,fun j hj=>absurd hj (Nat.not_lt_zero _)⟩,(MapKept.heap_set hb).2⟩
  ·simp[Instr.mapUpdate,run_underlying hm,MapKept.run_getObj_map hb,MapKept.run_checkKey hd hkk,MapKept.run_findKey hd h1,hj,h3,MapKept.run_keyThatStays hkk,MapKept.run_setObj_map _ hb,Result.andThen]
  ·rw[MapKept.modify_keys _ _ hkey,hk]
   have hn:k∈ks:=by
    have:e.key∈es.toList.map (·.key):=List.mem_map_of_mem (List.mem_of_getElem? h2);rw[h3,hk] at this;obtain⟨x,hx,e2⟩:=List.mem_map.1 this
    cases e2
    exact hx
   unfold kW;rw[if_pos hn]
  ·intro x hx
   rw[Array.mem_toList_iff,Array.mem_iff_getElem] at hx;obtain⟨i,hi,rfl⟩:=hx;rw[Array.getElem_modify];split
   ·rfl
   ·exact hv _ (by simp)
theorem EP(ks:List Int)(k x:Int):x∈kW ks k↔x=k∨x∈ks:=by
 unfold kW;split
 ·rename_i h
  exact⟨.inr,fun h'=>h'.elim (fun e=>by rw[e];exact h) id⟩
 ·rw[List.mem_append,List.mem_singleton]
  exact⟨fun h=>h.symm,fun h=>h.symm⟩
def aP(W:World)(r:Nat)(S:List Int):Prop:=∃ ks,MAt W r ks∧∀ x,x∈ks↔x∈S
theorem aP.lt{W:World}{r:Nat}{S:List Int}(h:aP W r S):r<W.heap.size:=by obtain⟨_,h,_⟩:=h;exact h.lt
theorem aP.same{W W':World}{r:Nat}{S:List Int}(h:aP W r S)(he:W'.heap[r]?=W.heap[r]?):aP W' r S:=by obtain⟨ks,h,h2⟩:=h;exact⟨ks,h.same he,h2⟩
theorem aP.below{n:Nat}{W W':World}{r:Nat}{S:List Int}(h:aP W r S)(hb:Below n W W')(hn:W.heap.size≤n):aP W' r S:=h.same (hb.block r (Nat.lt_of_lt_of_le h.lt hn))
theorem aP.eqv{W:World}{r:Nat}{S T:List Int}(h:aP W r S)(he:∀ x,x∈S↔x∈T):aP W r T:=by obtain⟨ks,h,h2⟩:=h;exact⟨ks,h,fun x=>(h2 x).trans (he x)⟩
theorem aP.new(W:World):aP (W.alloc (.map #[] 0)) W.heap.size []:=⟨[],⟨#[],0,(MapKept.heap_alloc W _).1,rfl,by simp,MapKept.stamped_empty 0⟩,fun _=>Iff.rfl⟩
theorem aP.map{W:World}{r:Nat}{S:List Int}(h:aP W r S):∃ es c,W.heap[r]?=some (.map es c):=by obtain⟨_,⟨es,c,h,_⟩,_⟩:=h;exact⟨es,c,h⟩
theorem Bv:∀ {l:List MapEntry},l.Pairwise (fun x y=>x.key≠y.key)→∀ {x y:MapEntry},x∈l→y∈l→x.key=y.key→x=y
 | [],_,_,_,hx,_,_=>by cases hx
 | e::l,h,x,y,hx,hy,hk=>by
  obtain⟨h1,h2⟩:=List.pairwise_cons.1 h;rcases List.mem_cons.1 hx with a | a<;>rcases List.mem_cons.1 hy with b | b
  ·rw[a,b]
  ·exact absurd (by rw[←a];exact hk) (h1 _ b)
  ·exact absurd (by rw[←b];exact hk.symm) (h1 _ a)
  ·exact Bv h2 a b hk
def jG(W:World)(It r:Nat)(ks dn:List Int):Prop:=∃ es clock since seen c0,W.heap[r]?=some (.map es clock)∧es.toList.map (·.key)=ks.map (Value.int .i64)∧(∀ x∈es.toList,x.val = .agg #[])∧MapKept.Stamped es clock ∧
 W.heap[It]?=some (.mapIter (some r) since seen c0)∧(∀ x∈es.toList,x.born<since)∧since≤c0∧since≤clock∧(∀ x∈es.toList,∀ k,x.key = .int .i64 k→(k∈dn↔seen.contains x.born=true))∧dn.Nodup∧∀ k∈dn,k∈ks
theorem jG.lt{W:World}{It r:Nat}{ks dn:List Int}(h:jG W It r ks dn):It<W.heap.size∧r<W.heap.size∧It≠r:=by
 obtain⟨es,c,s,se,c0,h1,_,_,_,h5,_⟩:=h;refine⟨(Array.getElem?_eq_some_iff.1 h5).1,(Array.getElem?_eq_some_iff.1 h1).1,fun e=>?_⟩;rw[e,h1] at h5
 cases h5
theorem jG.same{W W':World}{It r:Nat}{ks dn:List Int}(h:jG W It r ks dn)(h1:W'.heap[r]?=W.heap[r]?)(h2:W'.heap[It]?=W.heap[It]?):jG W' It r ks dn:=by
 obtain⟨es,c,s,se,c0,g1,g2,g3,g4,g5,g6⟩:=h;exact⟨es,c,s,se,c0,h1.trans g1,g2,g3,g4,h2.trans g5,g6⟩
theorem NR{W:World}{r:Nat}{ks:List Int}(h:MAt W r ks):∃ W',(Instr.range 112 (.map (some r))).run Tryz.prog W = .ok (.pointer (some ⟨W.heap.size,0,none⟩)) W'∧jG W' W.heap.size r ks []∧Below W.heap.size W W'∧W'.heap.size=W.heap.size+1:=by
 have hl:=h.lt;obtain⟨es,c,h1,h2,h3,h4⟩:=h;refine⟨_,run_range_map W 112 3 125 r es c Tryz.underlying112 h1,⟨es,c,c,#[],c,((MapKept.heap_alloc W _).2 r hl).trans h1,h2,h3,h4,(MapKept.heap_alloc W _).1,h4.1,Nat.le_refl _,Nat.le_refl _,fun x _ k _=>by simp,List.nodup_nil,by simp⟩,(Below.refl _ W).alloc Nat.le.refl _,by simp⟩
def lft(W:World)(It r:Nat):Nat :=
 match W.heap[r]?,W.heap[It]? with
 | some (.map es _),some (.mapIter _ _ seen _)=>(leftOf es seen).size
 | _,_=>0
theorem rO{W W':World}{It r:Nat}(h1:W'.heap[r]?=W.heap[r]?)(h2:W'.heap[It]?=W.heap[It]?):lft W' It r=lft W It r:=by unfold lft;rw[h1,h2]
theorem RS{W:World}{It r:Nat}{ks dn:List Int}(h:jG W It r ks dn)(ty:TypeId) :
  ((∀ k∈ks,k∈dn)∧(Instr.next (.pointer (some ⟨It,0,none⟩)) false ty).run Tryz.prog W = .ok (.tuple #[.bool false]) W) ∨
  ∃ k W',k∈ks∧k∉dn∧(Instr.next (.pointer (some ⟨It,0,none⟩)) false ty).run Tryz.prog W = .ok (.tuple #[.bool true, .int .i64 k, .agg #[]]) W'∧jG W' It r ks (dn++[k])∧Below 0 W W'∧W'.heap.size=W.heap.size∧(∀ j,j≠It→W'.heap[j]?=W.heap[j]?)∧lft W' It r<lft W It r ∧
   (Instr.entry (.pointer (some ⟨It,0,none⟩))).run Tryz.prog W' = .ok (.tuple #[.int .i64 k, .agg #[]]) W':=by
 have hne:=h.lt.2.2;obtain⟨es,c,s,se,c0,g1,g2,g3,g4,g5,g6,g7,g8,g9,g10,g11⟩:=h;rcases run_next_at (P:=Tryz.prog) W ty It r s c0 se es c g5 g1 g6 g7 with ⟨h0,hrun⟩ | ⟨e,he,w1,hal,hrun⟩
 ·refine .inl ⟨fun k hk=>?_,hrun⟩
  have:Value.int .i64 k∈es.toList.map (·.key):=by rw[g2];exact List.mem_map_of_mem hk
  obtain⟨x,hx,e⟩:=List.mem_map.1 this;exact(g9 x hx k e).2 (all_seen es se h0 x hx)
 ·obtain⟨hem,hes⟩:=mem_left he
  obtain⟨k,hk1,hk2⟩:=EO g2 e hem;rw[hk2,g3 e hem] at hrun;have hnd:k∉dn:=fun hd=>by
   rw[(g9 e hem k hk2).1 hd] at hes
   cases hes
  have g5':w1.heap[It]?=some (.mapIter (some r) s se c0):=by rcases hal with rfl | rfl<;>exact g5
  have g1':w1.heap[r]?=some (.map es c):=by rcases hal with rfl | rfl<;>exact g1
  have hset:=MapKept.heap_set (o' := .mapIter (some r) s (se.push e.born) c) g5';have hst:=(MapKept.stamped_iff es c).1 g4;have hr':(ChangeMaps.setBlock w1 It (.mapIter (some r) s (se.push e.born) c)).heap[r]?=some (.map es c):=(hset.2 r (fun e=>hne e.symm)).trans g1';refine .inr ⟨k,_,hk1,hnd,hrun,⟨es,c,s,se.push e.born,c,hr',g2,g3,g4,hset.1,g6,g8,g8,fun x hx k' hk'=>?_,?_,fun k' hk'=>?_⟩,?_,?_,?_,?_,?_⟩
  ·rw[contains_push,List.mem_append,List.mem_singleton,g9 x hx k' hk',Bool.or_eq_true]
   refine or_congr Iff.rfl ?_;rw[beq_iff_eq]
   constructor
   ·intro e1
    have hkeq:x.key=e.key:=(by rw[hk',hk2,e1]);rw[Bv hst.2.2 hx hem hkeq]
   ·intro hb
    have:=born_inj hst.2.1 hx hem hb;rw[this,hk2] at hk'
    cases hk'
    rfl
  ·exact List.nodup_append.2 ⟨g10,by simp,fun a ha b hb=>by rw[List.mem_singleton.1 hb];exact fun e=>hnd (e ▸ ha)⟩
  ·rcases List.mem_append.1 hk' with h | h
   ·exact g11 k' h
   ·rw[List.mem_singleton.1 h];exact hk1
  ·rcases hal with rfl | rfl<;>exact⟨rfl,rfl,rfl,by simp[ChangeMaps.setBlock],fun j hj=>absurd hj (Nat.not_lt_zero _)⟩
  ·rcases hal with rfl | rfl<;>simp[ChangeMaps.setBlock]
  ·intro j hj
   rcases hal with rfl | rfl<;>exact hset.2 j hj
  ·have:=left_shrinks es se e he
   unfold lft;rw[hr',show (ChangeMaps.setBlock w1 It (.mapIter (some r) s (se.push e.born) c)).heap[It]?=_ from hset.1,g1,g5];exact this
  ·have:=run_entry_at (P:=Tryz.prog) _ It r s se es c e hset.1 hr' hem hst.2.1
   rw[hk2,g3 e hem] at this;exact this
section
variable {ops : Array Oper} {rest : List Oper} {o : Oper} {a : Act} {Q : Exit → Act → World → Prop} (W : World)
theorem kX(hg:o.guard=none)(m:Operand)(hop:o.op=Op.range 112 m)(r:Nat)(ks:List Int)(hm:a.eval m = .map (some r))(h:MAt W r ks)
  (hK:∀ W',jG W' W.heap.size r ks []→Below W.heap.size W W'→W'.heap.size=W.heap.size+1→wpList Tryz.prog ops Q rest (a.put o.dst (.pointer (some ⟨W.heap.size,0,none⟩))) W') :
  wpList Tryz.prog ops Q (o::rest) a W:=by
 refine wpList_plain hg fun K' hK'=>?_;obtain⟨w',hrun,r1,r2,r3⟩:=NR h;unfold Oper.wp;simp[execOp,hop,hm,hrun,Result.andThen];exact hK' _ _ (hK w' r1 r2 r3)
theorem mG(hg:o.guard=none)(it:Operand)(hop:o.op=Op.next it false)(It r:Nat)(ks dn:List Int)(hit:a.eval it = .pointer (some ⟨It,0,none⟩))(h:jG W It r ks dn)
  (hDone:(∀ k∈ks,k∈dn)→wpList Tryz.prog ops Q rest (a.put o.dst (.tuple #[.bool false])) W)
  (hMore:∀ k W',k∈ks→k∉dn→jG W' It r ks (dn++[k])→Below 0 W W'→W'.heap.size=W.heap.size→(∀ j,j≠It→W'.heap[j]?=W.heap[j]?)→lft W' It r<lft W It r →
   (Instr.entry (.pointer (some ⟨It,0,none⟩))).run Tryz.prog W' = .ok (.tuple #[.int .i64 k, .agg #[]]) W'→wpList Tryz.prog ops Q rest (a.put o.dst (.tuple #[.bool true, .int .i64 k, .agg #[]])) W') :
  wpList Tryz.prog ops Q (o::rest) a W:=by
 refine wpList_plain hg fun K' hK'=>?_;unfold Oper.wp;rcases RS h o.type with ⟨hd,hrun⟩ | ⟨k,W',h1,h2,hrun,h3,h4,h5,h6,h7,h8⟩
 ·simp[execOp,hop,hit,hrun,Result.andThen]
  exact hK' _ _ (hDone hd)
 ·simp[execOp,hop,hit,hrun,Result.andThen]
  exact hK' _ _ (hMore k W' h1 h2 h3 h4 h5 h6 h7 h8)
theorem ER{m kx v:Operand}{ty:TypeId}{pos:String}{after:Array Edge}(r:Nat)(ks:List Int)(k:Int)
  (hm:a.eval m = .map (some r)) (hk:a.eval kx = .int .i64 k) (hv:a.eval v = .agg #[]) (hH:MAt W r ks)
  (h:∀ W',MAt W' r (kW ks k)→W'.heap.size=W.heap.size→Below 0 W W'→(∀ j,j≠r→W'.heap[j]?=W.heap[j]?)→wpList Tryz.prog ops Q rest a W') :
  wpList Tryz.prog ops Q ({ dst:=none,op := .mapUpdate 112 m kx v,type:=ty,pos:=pos,after:=after,guard:=none }::rest) a W:=by
 obtain⟨W',hr,h1,h2,h3,h4⟩:=hH.put k;refine wpList_plain rfl fun K hK=>?_;have hx:(execOp a.eval { dst:=none,op := .mapUpdate 112 m kx v,type:=ty,pos:=pos,after:=after,guard:=none }).run Tryz.prog W = .ok .skip W':=by
  simp only[execOp,hm,hk,hv,Sem.run_bind,hr];rfl
 unfold Oper.wp;rw[hx];exact hK _ _ (h _ h1 h2 h3 h4)
theorem ES{m kx v:Operand}{ty:TypeId}{pos:String}{after:Array Edge}(r:Nat)(ks:List Int)(k:Int)
  (hm:a.eval m = .map (some r)) (hk:a.eval kx = .int .i64 k) (hv:a.eval v = .agg #[]) (hH:MAt W r ks)
  (h:∀ W',MAt W' r (kW ks k)→W'.heap.size=W.heap.size→Below 0 W W'→(∀ j,j≠r→W'.heap[j]?=W.heap[j]?)→wpList Tryz.prog ops Q rest a W') :
  wpList Tryz.prog ops Q ({ dst:=none,op := .insert 112 m kx v,type:=ty,pos:=pos,after:=after,guard:=none }::rest) a W:=by
 obtain⟨W',hr,h1,h2,h3,h4⟩:=hH.put k;refine wpList_plain rfl fun K hK=>?_;have hx:(execOp a.eval { dst:=none,op := .insert 112 m kx v,type:=ty,pos:=pos,after:=after,guard:=none }).run Tryz.prog W = .ok .skip W':=by
  simp only[execOp,hm,hk,hv,Sem.run_bind,hr];rfl
 unfold Oper.wp;rw[hx];exact hK _ _ (h _ h1 h2 h3 h4)
end
theorem Ll{d s:Nat}{D S:List Int}(w:World)(hne:d≠s)(hD:aP w d D)(hS:aP w s S) :
  Calls Tryz.prog 127 #[.map (some d), .map (some s)] w fun e w'=>e = .returned (.tuple #[])∧aP w' d (jy D S)∧AX.But d w w':=by
 obtain⟨ks,hM,hks⟩:=hS;obtain⟨ds,hN,hds⟩:=hD;have hKS:=Lib.hid hks;have hDS:=Lib.hid hds;clear hks hds;go_enter Tryz.func127,Tryz.ntmps127
 go_wp2_with (first | (at_range;refine kX _ rfl _ rfl s ks rfl hM ?_;intro w0 hrg hb0 hs0) | fail)
 go_frame
 obtain⟨It,hIt⟩:∃ It,It=w.heap.size:=⟨_,rfl⟩;have hdI:d≠It:=by have:=hN.lt;omega
 have hN0:=hN.same (hb0.block d hN.lt);have lJ:AX.But d w w0:=AX.But.of_below hb0;rw[←hIt] at hrg ⊢;have HIt:=Lib.hid hIt;clear hIt hb0 hs0 hN hM;go_loopw [9] (fun _ wr=>∃ dn dk,jG wr It s ks dn∧MAt wr d dk∧Hid (∀ x,x∈dk↔x∈D∨x∈dn)∧AX.But d w wr) (fun _ wr=>lft wr It s)
 case atStart=>exact⟨[],ds,hrg,hN0,Lib.hid (fun x=>by rw[hDS.out];simp),lJ⟩
 case round =>
  obtain⟨dn,dk,pW,hN',hmem,hb'⟩:=hrel;go_wp2_with (at_next;refine mG _ rfl _ rfl It s ks dn rfl pW ?_ ?_)
  ·intro hall
   have hfin:aP wr d (jy D S):=⟨dk,hN',fun x=>by
    rw[hmem.out x,lF];refine or_congr Iff.rfl ⟨fun h=>?_,fun h=>hall x ((hKS.out x).2 h)⟩;obtain⟨_,_,_,_,_,_,_,_,_,_,_,_,_,_,_,h11⟩:=pW;exact(hKS.out x).1 (h11 x h)⟩
   clear pW hN' hmem hall;go_wp2_with fail
   exact bodyPost_end (v := .tuple #[]) (by simp[results,Tryz.results127,go_sem]) rfl ⟨rfl,hfin,hb'⟩
  ·intro k W1 hk hnd hrg1 hb1 hz1 hs1 hl1 hen
   have hN1:=hN'.same (hs1 d hdI);have hA:=(Below.refl W1.heap.size W1).alloc Nat.le.refl (.cells #[] 125);have hI1:=hrg1.lt;have hrg2:=hrg1.same (hA.block s hI1.2.1) (hA.block It hI1.1);have hN2:=hN1.same (hA.block d hN1.lt);have hl2:lft (W1.alloc (.cells #[] 125)) It s<lft wr It s:=(by rw[rO (hA.block s hI1.2.1) (hA.block It hI1.1)];exact hl1);have hB2:AX.But d w (W1.alloc (.cells #[] 125)):=⟨hb'.low.trans (hb1.trans (hA.mono (Nat.zero_le _))),fun j hj hjd=>(hA.block j (by have:=hb'.low.size;omega)).trans ((hs1 j (by have:=HIt.out;omega)).trans (hb'.same j hj hjd))⟩;have YF:Hid (∀ x,x∈kW dk k↔x∈D∨x∈dn++[k]):=Lib.hid fun x=>by
    rw[EP,hmem.out x,List.mem_append,List.mem_singleton]
    constructor
    ·rintro (h | h | h)<;>simp[h]
    ·rintro (h | h | h)<;>simp[h]
   clear hrg1 hN1 hb1 hs1 hl1 hA hmem pW hN' hb' hk hnd;go_wp2_with (at_mapUpdate;refine ER _ d dk k rfl rfl rfl hN2 ?_;intro W2 hN3 hz2 hb2 hs2)
   go_roundw
   case rel=>exact⟨_,_,hrg2.same (hs2 s hne.symm) (hs2 It hdI.symm),hN3,YF,⟨hB2.low.trans hb2,fun j hj hjd=>(hs2 j hjd).trans (hB2.same j hj hjd)⟩⟩
   case measure=>rw[rO (hs2 s hne.symm) (hs2 It hdI.symm)];exact hl2
def RU(w:World)(A B:List Int)(e:Ending)(w':World):Prop:=∃ r,e = .returned (.map (some r))∧w.heap.size≤r∧aP w' r (jy A B)∧Below w.heap.size w w'
theorem lK{ra rb b o c:Nat}{A B:List Int}(w:World)(hA:aP w ra A)(hB:aP w rb B)(hb:b<w.heap.size)(h0:w.cell? ⟨b,o,none⟩=some (.map (some ra)))(h1:w.cell? ⟨b,o+1,none⟩=some (.map (some rb))) :
  Calls Tryz.prog 97 #[.slice (some ⟨b,o,none⟩) 2 c] w (RU w A B):=by
 have hr:=aP.new w;have hz:=(Below.refl w.heap.size w).alloc Nat.le.refl (.map #[] 0);obtain⟨r,hrr⟩:∃ r,r=w.heap.size:=⟨_,rfl⟩;have har:ra<r:=by rw[hrr];exact hA.lt
 have hbr:rb<r:=by rw[hrr];exact hB.lt
 have adC:b<r:=by rw[hrr];exact hb
 have hA':=hA.below hz Nat.le.refl;have hB':=hB.below hz Nat.le.refl;have h0':=(hz.cell (p:=⟨b,o,none⟩) hb).trans h0;have h1':=(hz.cell (p:=⟨b,o+1,none⟩) hb).trans h1;have hsz:w.heap.size≤(w.alloc (.map #[] 0)).heap.size:=hz.size;rw[←hrr] at hr;have hc:∀ W (S T:List Int) (x:Nat),x<r→aP W r S→aP W x T→Calls Tryz.prog 127 #[.map (some r), .map (some x)] W fun e w'=>e = .returned (.tuple #[])∧aP w' r (jy S T)∧AX.But r W w':=fun W S T x hx h1 h2=>Ll W (by omega) h1 h2;have HR:=Lib.hid hrr;clear hA hB h0 h1 hb;have hmk:=fun W=>ET W;go_enter Tryz.func97,Tryz.ntmps97
 go_upto_region 2 with fail
 rw[←hrr];obtain⟨W0,hW0⟩:∃ W0,W0=w.alloc (.map #[] 0):=⟨_,rfl⟩;rw[←hW0] at hr hz hA' hB' h0' h1' hsz ⊢;clear hrr hW0 hmk;go_wp2_with fail
 go_loopw [9] (fun i wr=>∃(n:Nat)(S:List Int),i = .int .i64 n∧(n=0∧S = []∨n=1∧S=jy [] A∨n=2∧S=jy (jy [] A) B)∧aP wr r S∧AX.But r W0 wr) (fun i _=>2-(intOf i).toNat)
 case atStart=>exact⟨0,[],rfl, .inl ⟨rfl,rfl⟩,hr,AX.But.refl _ _⟩
 case round =>
  obtain⟨n,S,rfl,hn,hS,hb'⟩:=hrel;have hrW:r<W0.heap.size:=hr.lt;have k0:=(show wr.cell? ⟨b,o,none⟩=W0.cell? ⟨b,o,none⟩ by unfold World.cell?;rw[hb'.same b (by omega) (by omega)]).trans h0';have k1:=(show wr.cell? ⟨b,o+1,none⟩=W0.cell? ⟨b,o+1,none⟩ by unfold World.cell?;rw[hb'.same b (by omega) (by omega)]).trans h1';have ka:=hA'.same (hb'.same ra (by omega) (by omega));have kb:=hB'.same (hb'.same rb (by omega) (by omega));rcases hn with ⟨rfl,rfl⟩ | ⟨rfl,rfl⟩ | ⟨rfl,rfl⟩
  ·have h2:=hc wr _ _ ra har hS ka
   clear hc;go_wp2_with (go_at_call 127;((with_reducible refine h2.mono ?_);rintro e W3 ⟨rfl,hS3,hb3⟩))
   go_roundw
   case rel=>exact⟨1,_,rfl, .inr (.inl ⟨rfl,rfl⟩),hS3,hb'.trans hb3⟩
   case measure=>decide
  ·have h2:=hc wr _ _ rb hbr hS kb
   clear hc;go_wp2_with (go_at_call 127;((with_reducible refine h2.mono ?_);rintro e W3 ⟨rfl,hS3,hb3⟩))
   go_roundw
   case rel=>exact⟨2,_,rfl, .inr (.inr ⟨rfl,rfl⟩),hS3,hb'.trans hb3⟩
   case measure=>decide
  ·clear hc
   go_wp2_with fail
   have hB9:Below w.heap.size w wr:=hz.trans ⟨hb'.low.os,hb'.low.tape,hb'.low.output,hb'.low.size,fun j hj=>hb'.same j (by omega) (by have:=HR.out;omega)⟩;exact bodyPost_ret (v := .map (some r)) (by simp[results,Tryz.results97,go_sem]) rfl ⟨r,rfl,Nat.le_of_eq HR.out.symm,hS.eqv (fun x=>by rw[lF,lF,lF];simp),hB9⟩
theorem Vr(S:List Int)(hS:S.length≤1000000)(hb:∀ k∈S,0≤k∧k<65536)(aS:Option Addr)(cs:Nat)(w:World)(hI:aK w aS S) :
  Calls Tryz.prog 101 #[.slice aS S.length cs] w fun e w'=>e = .returned (.string ⟨(jB S).toArray⟩)∧Below w.heap.size w w':=by
 obtain⟨m,hm⟩:∃ m,m=S.length:=⟨_,rfl⟩;have HS:=Lib.hid hm;have HB:=Lib.hid hb;rw[←hm] at hS ⊢;clear hm hb;have hr0:MP w w.heap.size (.slice none 0 0) []:=World.ownsRow_nil _ _ _ _;go_enter Tryz.func101,Tryz.ntmps101
 go_wp2_with fail
 go_loopw [3,8] (fun t3 i wr=>∃ k:Nat,k≤m∧i = .int .i64 k∧MP wr w.heap.size t3 (jB (S.take k))∧Below w.heap.size w wr)
  (fun _ i _=>m-(intOf i).toNat)
 case atStart=>exact⟨0,Nat.zero_le _,rfl,hr0,Below.refl _ _⟩
 case round =>
  clear hr0;obtain⟨k,hk,rfl,hr,hb⟩:=hrel
  by_cases hkl:k<m
  ·obtain⟨q,hq⟩:∃ q,S[k]?=some q:=⟨_,List.getElem?_eq_getElem (by rw[←HS.out];exact hkl)⟩
   have hqb:=HB.out q (List.mem_of_getElem? hq);obtain⟨p,rfl⟩:∃ p:Nat,q=(p:Int):=⟨q.toNat,by omega⟩;obtain⟨Bs,os,rfl,hBs,hSc⟩:=hI (by intro e;rw[e] at hq;cases hq);have hkS:k<S.length:=(by rw[←HS.out];exact hkl);have d0:=(hb.cell (p:=⟨Bs,os+k,none⟩) hBs).trans (hSc k hkS);have hqe:S[k]=(p:Int):=(by obtain⟨_,e⟩:=List.getElem?_eq_some_iff.1 hq;exact e);rw[hqe] at d0;have hK:Hid (jB (S.take (k+1))=jB (S.take k)++[UInt8.ofNat (p / 256),UInt8.ofNat p]):=Lib.hid (by
    rw[List.take_succ_eq_append_getElem hkS,hqe];unfold jB;rw[List.flatMap_append]
    congr 1
    simp only[List.flatMap_cons,List.flatMap_nil,List.append_nil]
    congr 1
    ·congr 1;omega
    ·congr 1
     rw[←UInt8.toNat_inj,UInt8.toNat_ofNat',UInt8.toNat_ofNat'];omega)
   have hk0:(0:Int)≤(k:Int):=(by omega);have hk1:(k:Int)<(m:Int):=(by omega);have hkt:(k:Int).toNat=k:=(by omega);have hp0:p<65536:=(by omega);clear hq hSc hqe hqb;have x0:(((UInt8.ofNat (p / 256)).toNat:Nat):Int)=(p:Int) / 256:=(by rw[UInt8.toNat_ofNat'];omega);have x1:(((UInt8.ofNat p).toNat:Nat):Int)=(p:Int) % 256:=(by rw[UInt8.toNat_ofNat'];omega);have hbw:Below w.heap.size wr (wr.alloc (.cells #[.int .u8 ((p:Int) / 256), .int .u8 ((p:Int) % 256)] 5)):=(Below.refl _ wr).alloc hb.size _;have hc0:(wr.alloc (.cells #[.int .u8 ((p:Int) / 256), .int .u8 ((p:Int) % 256)] 5)).cell? ⟨wr.heap.size,0,none⟩=some (.int .u8 (((UInt8.ofNat (p / 256)).toNat:Nat):Int)):=(by rw[x0];simp);have hc1:(wr.alloc (.cells #[.int .u8 ((p:Int) / 256), .int .u8 ((p:Int) % 256)] 5)).cell? ⟨wr.heap.size,1,none⟩=some (.int .u8 (((UInt8.ofNat p).toNat:Nat):Int)):=(by rw[x1];simp);have hra:MP (wr.alloc (.cells #[.int .u8 ((p:Int) / 256), .int .u8 ((p:Int) % 256)] 5)) w.heap.size u3 (jB (S.take k)):=World.ownsRow.alloc hr _;have aaz:w.heap.size≤(wr.alloc (.cells #[.int .u8 ((p:Int) / 256), .int .u8 ((p:Int) % 256)] 5)).heap.size:=Nat.le_trans hb.size (by simp);have acO:(jB (S.take k)).length≤10000000:=by
    have:∀ l:List Int,(jB l).length=2*l.length:=fun l=>by
     unfold jB
     induction l with
     | nil=>rfl
     | cons a l ih=>rw[List.flatMap_cons,List.length_append,ih];simp;omega
    rw[this,List.length_take];omega
   have HC0:=Lib.hid hc0;have HC1:=Lib.hid hc1;clear x0 x1 hc0 hc1;go_wp2_with (at_builtin;refine Gz _ w.heap.size u3 _ (UInt8.ofNat (p / 256)) (UInt8.ofNat p) rfl _ _ rfl rfl hra wr.heap.size 2 rfl HC0.out HC1.out acO aaz ?_;intro v' W5 hr5 hg5)
   exact⟨⟨k+1,by omega,by simp,by rw[hK.out];exact hr5,(hb.trans hbw).trans ((Below.refl w.heap.size _).grown hg5 aaz fun g e=>(World.ownsRow.lt hra g e).1)⟩,by simp[intOf];omega⟩
  ·obtain rfl:k=m:=by omega
   rw[HS.out,List.take_length] at hr;rw[←HS.out] at *;have hcv:(convert 106 9 u3).run Tryz.prog wr = .ok (.string ⟨(jB S).toArray⟩) wr:=by
    rcases hr.2 with ⟨rfl,hn⟩ | ⟨g,cap,cur,rfl,_⟩
    ·rw[List.eq_nil_of_length_eq_zero hn]
     exact run_convert_bytes_nil wr 106 5 Tryz.underlying106 Tryz.underlying5 _ _ 9 Tryz.underlying9
    ·have:=run_convert_bytes_arg (P:=Tryz.prog) wr 106 5 Tryz.underlying106 Tryz.underlying5 g 0 (jB S).length cap ((jB S).map fun b=>((b.toNat:Nat):Int)) (by simp) (fun i hi=>by
      have:=World.ownsRow.cellAt hr i (by simpa using hi);rw[Nat.zero_add,this];simp[hi]) 9 Tryz.underlying9
     rw[this]
     congr 2
     simp[strOfNums,Function.comp_def]
   clear hr;go_wp2_with fail
   go_ret
   exact⟨rfl,hb⟩
end
section
open Go.Lib (hid)
open Go Go.Proofs Go.RowKit
attribute [local go_sem] Oper.semAt_some
def Kw:List (Nat×Bool):=[(0,false),(1,false),(2,false),(3,false),(4,false),(6,false),(5,true),(7,true)]
theorem lu{bad:List Nat}{base:Nat}{e:TypeId}{k:Nat}{v:Value}{n:Nat}{xs:List Value}{w w':World}(h:w.ownsRow base e k v n xs)(hc:Ch bad w w')(hb:∀ g,v.ownBlock=some g→g∉bad):w'.ownsRow base e k v n xs:=by
 refine⟨h.1,?_⟩;rcases h.2 with hn | ⟨g,cap,cur,rfl,hg,hh,rest⟩
 ·exact .inl hn
 ·exact .inr ⟨g,cap,cur,rfl,hg,(hc.same g (Array.getElem?_eq_some_iff.1 hh).1 (hb g rfl)).trans hh,rest⟩
theorem Mkr.ch{W W':World}{base:Nat}{oth bad:List Nat}{M r:Nat}{x0 x1 x2:Value}{most:Nat}{sv:Value}{vals:List Value}{T:Sets}(h:Mkr W base oth M r x0 x1 x2 most sv vals T)(hc:Ch bad W W')(hb:∀ b∈bad,b∈oth)(hM:M∉bad)(hr:r∉bad)(hg:∀ g,sv.ownBlock=some g→g∉bad):Mkr W' base oth M r x0 x1 x2 most sv vals T where
 box:=hc.bx h.box hM
 own:=lu h.own hc hg
 vl:=h.vl
 row i v S hv hS:=(h.row i v S hv hS).ch (hc.mono fun b hm _=>by unfold aX;simp[hb b hm])
 map:=(hc.same r (Array.getElem?_eq_some_iff.1 h.map).1 hr).trans h.map
 bM:=h.bM
 br:=h.br
 small:=h.small
theorem Mkr.below{W W':World}{base:Nat}{oth:List Nat}{M r:Nat}{x0 x1 x2:Value}{most:Nat}{sv:Value}{vals:List Value}{T:Sets}(h:Mkr W base oth M r x0 x1 x2 most sv vals T)(hb:Below W.heap.size W W'):Mkr W' base oth M r x0 x1 x2 most sv vals T :=
 h.ch (Ch.of_below hb []) (fun _ h=>by simp at h) (by simp) (by simp) (fun _ _=>by simp)
theorem SAt.step{M r:Nat}{sv sv':Value}{oth:List Nat}{X Y:World}{v:Value}{l:List Int}(h:SAt X (aX M r sv oth) v l)(hc:Ch (aX M r sv []) X Y)(hs:sv'.ownBlock=sv.ownBlock∨∃ g,sv'.ownBlock=some g∧X.heap.size≤g):SAt Y (aX M r sv' oth) v l:=by
 have h1:SAt X (aX M r sv (sv'.ownBlock.toList++oth)) v l:=h.more fun k hk hlt=>by
  unfold aX at hk ⊢;simp only[List.mem_cons,List.mem_append,Option.mem_toList] at hk ⊢;rcases hk with hk | hk | hk | hk | hk
  ·exact .inl hk
  ·exact .inr (.inl hk)
  ·exact .inr (.inr (.inl hk))
  ·rcases hs with hs | ⟨g,hg,hge⟩
   ·rw[hs] at hk;exact .inr (.inr (.inl hk))
   ·rw[hg] at hk;cases hk;omega
  ·exact .inr (.inr (.inr hk))
 refine(h1.ch (hc.mono fun k hk _=>?_)).more fun k hk _=>?_
 ·unfold aX at hk ⊢
  simp only[List.mem_cons,List.mem_append,Option.mem_toList,List.not_mem_nil,or_false] at hk ⊢;rcases hk with hk | hk | hk
  ·exact .inl hk
  ·exact .inr (.inl hk)
  ·exact .inr (.inr (.inl hk))
 ·unfold aX at hk ⊢
  simp only[List.mem_cons,List.mem_append,Option.mem_toList] at hk ⊢;rcases hk with hk | hk | hk | hk
  ·exact .inl hk
  ·exact .inr (.inl hk)
  ·exact .inr (.inr (.inr (.inl hk)))
  ·exact .inr (.inr (.inr (.inr hk)))
theorem Mkr.push{X W5 W6 W8:World}{base:Nat}{oth:List Nat}{M r:Nat}{x0 x1 x2:Value}{most:Nat}{sv:Value}{vals:List Value}{T:Sets}(h:Mkr X base oth M r x0 x1 x2 most sv vals T){S:List Int}{vS v':Value}(hS:SAt X (aX M r sv oth) vS S)(hSm:Small S)
  (h6:W5.ownsRow base 25 1 v' (T.length+1) (vals++[vS])) (h7:X.grownBy W5 sv.ownBlock) (h8:v'.ownBlock=sv.ownBlock∨v'.ownBlock=some X.heap.size) (g3:Bx W6 M 130 #[x0,x1,x2, .int .i64 most,v', .map (some r)]) (g4:∀ k,k≠M→W6.heap[k]?=W5.heap[k]?) (hl:Below 0 W5 W6) (hc:Ch [r] W6 W8)
  (hm8:W8.heap[r]?=some (.map (fD 0 (T++[S])).toArray (T++[S]).length)):Mkr W8 base oth M r x0 x1 x2 most v' (vals++[vS]) (T++[S])∧Ch (aX M r sv []) X W8:=by
 have c1:Ch (aX M r sv []) X W5:=Ch.tK h7 fun g hg=>by unfold aX;simp[hg]
 have c2:Ch (aX M r sv []) X W6:=c1.trans (Ch.mP (A:=M) hl g4 (by unfold aX;simp));have c3:Ch (aX M r sv []) X W8:=c2.trans (hc.mono fun b hb _=>by unfold aX;simp at hb;simp[hb]);have h8':v'.ownBlock=sv.ownBlock∨∃ g,v'.ownBlock=some g∧X.heap.size≤g:=h8.imp id fun e=>⟨_,e,Nat.le_refl _⟩;have hne:M∉[r]:=by simpa using h.ne
 have x5:Bx W5 M 130 _:=(h7.block M h.box.lt (fun e=>h.neM e.symm)).trans h.box;have o6:W6.ownsRow base 25 1 v' (T.length+1) (vals++[vS]):=lu h6 (Ch.mP (A:=M) (bad:=[M]) hl g4 (by simp)) fun g hg=>by
  obtain⟨cs,hcs⟩:=bQ h6 g hg;intro hm;rw[List.mem_singleton.1 hm,show W5.heap[M]?=_ from x5] at hcs
  cases hcs
 have r5:W5.heap[r]?=some (.map (fD 0 T).toArray T.length):=(h7.block r (Array.getElem?_eq_some_iff.1 h.map).1 (fun e=>h.ner e.symm)).trans h.map;have r6:W6.heap[r]?=some (.map (fD 0 T).toArray T.length):=(g4 r (fun e=>h.ne e.symm)).trans r5;refine⟨⟨hc.bx g3 hne,?_,?_,?_,hm8,h.bM,h.br,?_⟩,c3⟩
 ·rw[List.length_append]
  refine lu o6 hc fun g hg hm=>?_;obtain⟨cs,hcs⟩:=bQ o6 g hg;rw[List.mem_singleton.1 hm,r6] at hcs
  cases hcs
 ·simp[h.vl]
 ·intro i v U hv hU
  by_cases hi:i<T.length
  ·rw[List.getElem?_append_left (by rw[h.vl];exact hi)] at hv
   rw[List.getElem?_append_left hi] at hU;exact(h.row i v U hv hU).step c3 h8'
  ·rw[List.getElem?_append_right (by rw[h.vl];omega),h.vl] at hv
   rw[List.getElem?_append_right (by omega)] at hU;have e:i-T.length=0:=by
    have:=(List.getElem?_eq_some_iff.1 hU).1;simp at this;omega
   rw[e] at hv hU;simp at hv hU;subst hv;subst hU;exact hS.step c3 h8'
 ·intro U hU
  rcases List.mem_append.1 hU with hU | hU
  ·exact h.small U hU
  ·rw[List.mem_singleton.1 hU];exact hSm
theorem Je{a:Act}{K:Act→World→Prop}{Q:Exit→Act→World→Prop}{m kx v:Operand}{ty:TypeId}{pos:String}{after:Array Edge}{W:World}{r:Nat}{T:Sets}{S:List Int}{n:Nat}{ks:ByteArray}(hn:n=T.length)(hks:ks=⟨(jB S).toArray⟩)
  (hm:a.eval m = .map (some r)) (hk:a.eval kx = .string ks) (hv:a.eval v = .int .i64 n) (hb:W.heap[r]?=some (.map (fD 0 T).toArray T.length)) (hS:Small S) (hT:∀ U∈T,Small U) (hf:¬fi T S<T.length)
  (h:∀ W',W'.heap[r]?=some (.map (fD 0 (T++[S])).toArray (T++[S]).length)→AX.But r W W'→K a W') :
  Oper.wp Tryz.prog { dst:=none,op := .mapUpdate 128 m kx v,type:=ty,pos:=pos,after:=after,guard:=none } a W K Q:=by
 obtain⟨W',hr,h1,h2⟩:=ZL hb hS hT hf;have hx:(execOp a.eval { dst:=none,op := .mapUpdate 128 m kx v,type:=ty,pos:=pos,after:=after,guard:=none }).run Tryz.prog W = .ok .skip W':=by
  have hr':(Instr.mapUpdate 128 (.map (some r)) (.string ks) (.int .i64 n)).run Tryz.prog W = .ok () W':=by rw[hks,hn];exact hr
  simp only[execOp,hm,hk,hv,Sem.run_bind,hr'];rfl
 unfold Oper.wp;rw[hx];exact h _ h1 h2
def lC(W:World)(base:Nat)(oth:List Nat)(M r:Nat)(x0 x1 x2:Value)(most:Nat)(sv:Value)(T:Sets)(S:List Int)(e:Ending)(W':World):Prop :=
 (lU most T S=none∧e = .returned (.tuple #[.int .i64 0, .bool false])∧Ch (aX M r sv []) W W') ∨
 ∃ t T1 sv' vals',lU most T S=some (t,T1)∧e = .returned (.tuple #[.int .i64 t, .bool true])∧Mkr W' base oth M r x0 x1 x2 most sv' vals' T1∧Ch (aX M r sv []) W W'∧(sv'.ownBlock=sv.ownBlock∨∃ g,sv'.ownBlock=some g∧W.heap.size≤g)
theorem Ud{P:Program}{ops:Array Oper}{Q:Exit→Act→World→Prop}{a:Act}{w:World}{rest:List Oper}{t:TypeId}{x y:Operand}{ty:TypeId}{pos:String}{after:Array Edge}(h:wpList P ops Q ({ dst:=none,op := .store t x y,type:=ty,pos:=pos,after:=after,guard:=none }::rest) a w) :
 wpList P ops Q ({ dst:=none,op := .store t x y,type:=ty,pos:=pos,after:=after,guard:=none }::rest) a w:=h
theorem xH(most:Nat)(T:Sets)(S:List Int):lU most T S=if S = [] then some (-1,T) else if fi T S<T.length then some ((fi T S:Int),T) else if T.length=most then none else some ((T.length:Int),T++[S]):=rfl
theorem acp:AX.sizeT Tryz.prog 72=some 1:=by kernel_rfl
theorem CJ{W:World}{base:Nat}{oth:List Nat}{M r:Nat}{x0 x1 x2:Value}{most:Nat}{sv:Value}{vals:List Value}{T:Sets}(h:Mkr W base oth M r x0 x1 x2 most sv vals T){S:List Int}{vS:Value}(hS:SAt W (aX M r sv oth) vS S)(hSm:Small S)(hSl:S.length≤1000000)(hb:base≤W.heap.size)(hT:T.length≤1000) :
  Calls Tryz.prog 62 #[.pointer (some ⟨M,0,none⟩),vS] W (lC W base oth M r x0 x1 x2 most sv T S):=by
 have HM:=hid h;have HS:=hid hS;obtain⟨aS,cS,rfl,hSI⟩:=hS.Ua;obtain⟨n,hn⟩:∃ n,n=S.length:=⟨_,rfl⟩;have HN:=hid hn
 by_cases hS0:S = []
 ·have ha:lU most T S=some (-1,T):=by unfold lU;rw[if_pos hS0]
  have hn0:n=0:=by rw[hn,hS0];rfl
  have HA:=hid ha;rw[←hn];subst hn0;clear hn ha hS0 hSI hS h;go_enter Tryz.func62,Tryz.ntmps62
  go_wp2_with fail
  exact bodyPost_ret (v := .tuple #[.int .i64 (-1), .bool true]) (by simp[results,Tryz.results62,go_sem]) rfl (.inr ⟨-1,T,sv,vals,HA.out,rfl,HM.out,Ch.refl _ _, .inl rfl⟩)
 ·have hn1:0<n:=by rw[hn];exact List.length_pos_iff.2 hS0
  have hk:∀ p:AX.BW W,Calls Tryz.prog 101 #[.slice aS n cS] p.W fun e w'=>e = .returned (.string ⟨(jB S).toArray⟩)∧Below p.W.heap.size p.W w':=fun p=>by
   rw[hn];exact Vr S hSl hSm aS cS p.W (hSI.below p.h Nat.le.refl)
  have hm5:∀ p:AX.BW W,p.W.cell? ⟨M,5,none⟩=some (.map (some r)):=fun p=>(h.box.below p.h h.box.lt).cell 5;have hrl:=(Array.getElem?_eq_some_iff.1 h.map).1;have hlk:∀ p:AX.BW W,(Instr.lookup 128 (.map (some r)) (.string ⟨(jB S).toArray⟩) true).run Tryz.prog p.W = .ok (.tuple #[.int .i64 (if fi T S<T.length then (fi T S:Int) else 0), .bool (decide (fi T S<T.length))]) p.W:=fun p =>
   Xv ((p.h.block r hrl).trans h.map) hSm h.small
  obtain⟨m,hm⟩:∃ m,m=T.length:=⟨_,rfl⟩;obtain⟨f,hf⟩:∃ f,f=fi T S:=⟨_,rfl⟩;obtain⟨ks,hks⟩:∃ ks:ByteArray,ks=⟨(jB S).toArray⟩:=⟨_,rfl⟩;rw[←hf,←hm,←hks] at hlk;rw[←hks] at hk;have HMm:=hid hm;have HF:=hid hf;have HKS:=hid hks;have HSI:=hid hSI;have hMl:=h.box.lt;rw[←hn];have hnz:((n:Int) == 0)=false:=by simp;omega
  by_cases hfm:f<m
  ·have ha:lU most T S=some ((f:Int),T):=by
    rw[xH,←hf,←hm,if_neg hS0,if_pos hfm]
   have HA:=hid ha;rw[if_pos hfm,decide_eq_true hfm] at hlk;clear hm hf hks hSI hS h ha hS0 hn hrl;go_enter Tryz.func62,Tryz.ntmps62
   go_upto_region 3 with (fail)
   refine AX.aO (by kernel_rfl) (by kernel_rfl) ?_
   repeat (go_big_quiet_step (first | (go_at_call 101;with_reducible exact AX.fH (hk _))))
   refine wpQuiet_nil ?_;rintro W2 ⟨p,rfl⟩;obtain⟨W2,hb2⟩:=p;change Below _ _ _ at hb2;clear hk hm5 hlk;go_wp2_with fail
   exact bodyPost_ret (v := .tuple #[.int .i64 f, .bool true]) (by simp[results,Tryz.results62,go_sem]) rfl (.inr ⟨f,T,sv,vals,HA.out,rfl,HM.out.below hb2,Ch.of_below hb2 _, .inl rfl⟩)
  ·rw[if_neg hfm,decide_eq_false hfm] at hlk
   obtain⟨sa,sc,hsv⟩:=aQ h.own;rw[←hm] at hsv;subst hsv;have hm4:∀ X,Below W.heap.size W X→X.cell? ⟨M,4,none⟩=some (.slice sa m sc):=fun X hX=>(h.box.below hX h.box.lt).cell 4;have hm3:∀ X,Below W.heap.size W X→X.cell? ⟨M,3,none⟩=some (.int .i64 most):=fun X hX=>(h.box.below hX h.box.lt).cell 3
   by_cases hmm:m=most
   ·have ha:lU most T S=none:=by
     rw[xH,←hf,←hm,if_neg hS0,if_neg hfm,if_pos hmm]
    have HA:=hid ha;subst hmm;clear hm hf hks hSI hS h ha hS0 hn hrl hfm;go_enter Tryz.func62,Tryz.ntmps62
    go_upto_region 3 with (fail)
    refine AX.aO (by kernel_rfl) (by kernel_rfl) ?_
    repeat (go_big_quiet_step (first | (go_at_call 101;with_reducible exact AX.fH (hk _))))
    refine wpQuiet_nil ?_;rintro W2 ⟨p,rfl⟩;obtain⟨W2,hb2⟩:=p;change Below _ _ _ at hb2;have g4:=hm4 _ hb2;have g3:=hm3 _ hb2;clear hk hm5 hlk hm4 hm3;go_wp2_with fail
    exact bodyPost_ret (v := .tuple #[.int .i64 0, .bool false]) (by simp[results,Tryz.results62,go_sem]) rfl (.inl ⟨HA.out,rfl,Ch.of_below hb2 _⟩)
   ·have ha:lU most T S=some ((m:Int),T++[S]):=by
     rw[xH,←hf,←hm,if_neg hS0,if_neg hfm,if_neg hmm]
    have HA:=hid ha;have HFM:=hid hfm;have hne:((m:Int) == (most:Int))=false:=(by simp;omega);rw[←hm] at hT;have hvl:vals.length=m:=(by rw[hm];exact h.vl);clear hm hf hks hSI hS h ha hS0 hn hrl hfm hmm;go_enter Tryz.func62,Tryz.ntmps62
    go_upto_region 3 with (fail)
    refine AX.aO (by kernel_rfl) (by kernel_rfl) ?_
    repeat (go_big_quiet_step (first | (go_at_call 101;with_reducible exact AX.fH (hk _))))
    refine wpQuiet_nil ?_;rintro W2 ⟨p,rfl⟩;obtain⟨W2,hb2⟩:=p;change Below _ _ _ at hb2;have g4:=hm4 _ hb2;have g3:=hm3 _ hb2;clear hk hm5 hlk hm4 hm3;have HM2:=HM.out.below hb2;have hb9:base≤W2.heap.size:=Nat.le_trans hb hb2.size;have cB:=(Bx.new W2 25 #[.slice aS n cS]).cell 0;have hWa:=(Below.refl W2.heap.size W2).alloc Nat.le.refl (.cells #[.slice aS n cS] 25);have HMa:=HM2.below hWa;have hm0:HMa.own=HMa.own:=rfl;have hown:=HMa.own;rw[←HMm.out] at hown;have hba:base≤(W2.alloc (.cells #[.slice aS n cS] 25)).heap.size:=Nat.le_trans hb9 hWa.size;have hxb:=HMa.box;have ZQ:=HMa.neM;clear hm0;go_wp2_with (first
     | (at_builtin;refine PZ _ base (.slice sa m sc) vals (.slice aS n cS) rfl _ _ rfl rfl m hvl hown W2.heap.size 1 rfl cB rfl (by omega) hba ?_;intro v' W5 h6 h7 h8;have hx5:Bx W5 M 130 #[x0,x1,x2, .int .i64 most, .slice sa m sc, .map (some r)]:=(h7.block M hxb.lt (fun e=>ZQ e.symm)).trans hxb;obtain⟨lv,cv,rfl⟩:=aQ h6)
     | ((with_reducible refine Ud ?_);refine AX.aB (o:=4) (v := .slice lv (m+1) cv) rfl rfl rfl acp hx5 (show 4<6 by decide) ?_;rintro W6 g3' g4' g5'))
    have hx6:Bx W6 M 130 #[x0,x1,x2, .int .i64 most, .slice lv (m+1) cv, .map (some r)]:=g3';have hl6:Below 0 W5 W6:=AX.aj (Nat.zero_le _) (.inl hx6.lt) g4' g5';have r5:W5.heap[r]?=some (.map (fD 0 T).toArray T.length):=(h7.block r (Array.getElem?_eq_some_iff.1 HMa.map).1 (fun e=>HMa.ner e.symm)).trans HMa.map;have r6:W6.heap[r]?=some (.map (fD 0 T).toArray T.length):=(g4' r (fun e=>HMa.ne e.symm)).trans r5;have hSa:SAt (W2.alloc (.cells #[.slice aS n cS] 25)) (aX M r (.slice sa m sc) oth) (.slice aS n cS) S:=by
     have:=HS.out.ch (Ch.of_below (hb2.trans (hWa.mono hb2.size)) _);rw[←HN.out] at this;exact this
    have c6:Ch (aX M r (.slice sa m sc) oth) (W2.alloc (.cells #[.slice aS n cS] 25)) W6:=(Ch.tK h7 fun g hg=>by unfold aX;simp[hg]).trans (Ch.mP (A:=M) hl6 g4' (by unfold aX;simp));have hS6:=hSa.ch c6;have hMr:=HMa.ne;have hk6:∀ X,Ch [r] W6 X→Calls Tryz.prog 101 #[.slice aS n cS] X fun e w'=>e = .returned (.string ks)∧Below X.heap.size X w':=fun X hX=>by
     obtain⟨a',c',he,hI⟩:=(hS6.ch (hX.mono fun b hb _=>by unfold aX;simp at hb;simp[hb])).Ua
     cases he
     rw[HKS.out];have:=Vr S hSl hSm aS cS X hI;rw[←HN.out] at this;exact this
    obtain⟨C,hCi,hCo⟩:∃ C:World→Prop,(∀ X,C X→Ch [r] W6 X)∧∀ X,Ch [r] W6 X→C X:=⟨fun X=>Ch [r] W6 X,fun _ h=>h,fun _ h=>h⟩;have hC0:C W6.drew:=hCo _ (Ch.of_below (Below.refl _ W6).drew _);haveI:Inhabited (AX.CW C):=⟨⟨_,hC0⟩⟩;have hc5:∀ p:AX.CW C,p.W.cell? ⟨M,5,none⟩=some (.map (some r)):=fun p=>((hCi _ p.h).bx hx6 (by simpa using hMr)).cell 5;have HCi:=hid hCi;have HCo:=hid hCo;have ZR:=hid HMa;have H6:=hid h6;have H8:=hid h8;have HSa:=hid hSa;clear h6 h8 g3' hx5 hxb hown ZQ hSa c6 hS6 HMa HM2 cB hCi hCo g3 g4 r5;refine AX.gI (C:=fun W=>∃ p:AX.CW C,W=p.W) Kw _ (by kernel_rfl) (by kernel_rfl) rfl (by kernel_rfl) (by kernel_rfl) (by intro c a d v w h;cases d<;>exact h) ⟨⟨_,hC0⟩,rfl⟩ ?_;unfold Kw
    repeat (refine AX.dF _ (by rfl) ?_;go_big_quiet_step (fail);refine wpQuiet_nil ?_)
    refine AX.pJ (hk6 _ (HCi.out _ hC0)) (by rfl) (by rfl) (by rfl) Tryz.func101 (by kernel_rfl) (by rfl) (by simp only[List.map_toArray,List.map_cons,List.map_nil];rfl) ?_;rintro e W7 ⟨rfl,hb7⟩;have c7:Ch [r] W6 W7:=(HCi.out _ hC0).trans (Ch.of_below hb7 _);have r7:W7.heap[r]?=some (.map (fD 0 T).toArray T.length):=(hb7.block r (Array.getElem?_eq_some_iff.1 r6).1).trans r6;refine⟨_,rfl,⟨⟨_,HCo.out _ c7⟩,rfl⟩,?_⟩;simp only[Act.put,List.setIfInBounds_toArray,List.set_cons_succ,List.set_cons_zero];refine AX.kC _ (by rfl) (by rfl) ?_;refine Je HMm.out HKS.out (by rfl) (by rfl) (by rfl) r7 hSm ZR.out.small (by rw[←HMm.out,←HF.out];exact HFM.out) ?_;intro W8 hm8 hb8;have c8:Ch [r] W6 W8:=c7.trans (Ch.vN hb8 (by simp));refine⟨⟨⟨_,HCo.out _ c8⟩,rfl⟩,?_⟩;have hp:=ZR.out.push HSa.out hSm (v' := .slice lv (m+1) cv) (by rw[←HMm.out];exact H6.out) h7 H8.out hx6 g4' hl6 c8 hm8;have ZT:Ch (aX M r (.slice sa m sc) []) W (W2.alloc (.cells #[.slice aS n cS] 25)):=Ch.of_below (hb2.trans (hWa.mono hb2.size)) _;have HP:=hid hp;have hzz:W.heap.size≤(W2.alloc (.cells #[.slice aS n cS] 25)).heap.size:=Nat.le_trans hb2.size hWa.size;have HWa:=hid ZT;have HZ:=hid hzz;clear hp ZT hzz hk6 hc5;unfold AX.fZ;go_wp2_with fail
    exact bodyPost_ret (v := .tuple #[.int .i64 m, .bool true]) (by simp[results,Tryz.results62,go_sem]) rfl (.inr ⟨m,T++[S],_,_,HA.out,rfl,HP.out.1,HWa.out.trans HP.out.2,H8.out.imp id fun e=>⟨_,e,HZ.out⟩⟩)
end
end Go.Proofs.YtkjgogdkdejljaaGreatDoor.Df
