import Derived.Shelf.SlSortCmp.WholeK
import Derived.Test.YtkjgogdkdejljaaGreatDoorDfN20
set_option maxRecDepth 100000
set_option maxHeartbeats 40000000
namespace Go.Proofs.YtkjgogdkdejljaaGreatDoor.Df
section
open Go Go.Proofs Go.RowKit Go.Shelf
attribute [local go_sem] Oper.semAt_some
theorem kH.below{n b a0 a1 a2 a3:Nat}{w w':World}(h:kH b a0 a1 a2 a3 w)(hb:Below n w w')(hn:b<n):kH b a0 a1 a2 a3 w' :=
 ⟨(hb.cell (p:=⟨b,0,none⟩) hn).trans h.1,(hb.cell (p:=⟨b,1,none⟩) hn).trans h.2.1,(hb.cell (p:=⟨b,2,none⟩) hn).trans h.2.2.1,(hb.cell (p:=⟨b,3,none⟩) hn).trans h.2.2.2⟩
theorem zI(a0 a1 a2 a3:Nat)(w:World) :
  Calls Tryz.prog 67 #[.agg #[.int .u64 a0, .int .u64 a1, .int .u64 a2, .int .u64 a3]] w fun e w'=>e = .returned (.func (.func 110) #[] #[.pointer (some ⟨w.heap.size,0,none⟩)])∧w'=w.alloc (.cells #[.int .u64 a0, .int .u64 a1, .int .u64 a2, .int .u64 a3] 116):=by
 go_enter Tryz.func67,Tryz.ntmps67
 go_wp2
 go_ret
 exact⟨rfl,rfl⟩
def BD(n:Nat)(w w':World):Prop:=Below n w w'∧w'.drawn=w.drawn
theorem BD.refl(n:Nat)(w:World):BD n w w:=⟨Below.refl _ _,rfl⟩
theorem BD.alloc{n:Nat}{w w':World}(h:BD n w w')(hn:n≤w'.heap.size)(o:Obj):BD n w (w'.alloc o):=⟨h.1.alloc hn o,h.2⟩
theorem BD.setCell{n:Nat}{w w':World}(h:BD n w w')(B i:Nat)(hn:n≤B)(v:Value):BD n w (w'.setCell ⟨B,i,none⟩ v):=⟨h.1.setCell (p:=⟨B,i,none⟩) hn v,h.2⟩
theorem BD.putObj{n:Nat}{w w':World}(h:BD n w w')(l:Nat)(hn:n≤l)(o:Obj):BD n w (w'.putObj l o) :=
 ⟨h.1.trans ⟨rfl,rfl,rfl,by simp[World.putObj],fun k hk=>World.putObj_heap_other (by omega)⟩,h.2⟩
theorem BD.grow{w w':World}(h:BD w.heap.size w w'):∃ os,w'=Go.Sort.grow w os:=by
 obtain⟨⟨h1,h2,h3,h4,h5⟩,h6⟩:=h;refine⟨w'.heap.extract w.heap.size w'.heap.size,?_⟩;have hh:w'.heap=w.heap++w'.heap.extract w.heap.size w'.heap.size:=by
  apply Array.ext_getElem?;intro i;rw[Array.getElem?_append];split
  ·exact h5 i (by assumption)
  ·rw[Array.getElem?_extract]
   split
   ·congr 1
    omega
   ·exact Array.getElem?_eq_none (by omega)
 cases w
 cases w'
 simp only[Go.Sort.grow] at *;subst h1 h2 h3 h6
 congr 1
def lst(l:List Nat):Nat:=l.headD 0
theorem Uo(a0 a1 a2 a3 k:Nat)(hk:k≤256):∃ t,gX a0 a1 a2 a3=upB a0 a1 a2 a3 k++t:=by
 have e:List.range 256=List.range k++(List.range (256-k)).map (k + ·):=by
  rw[←List.range_add]
  congr 1
  omega
 unfold gX upB;rw[e,List.filter_append];exact⟨_,rfl⟩
theorem Jl{g:Operand}{assign body:Code}{Q:Exit→Act→World→Prop}{a:Act}{W4:World}{b:Nat}{t:Tmp}(hg:a.eval g = .func (.func 110) #[] #[.pointer (some ⟨b,0,none⟩)])
  (a0 a1 a2 a3:Nat) (hw:wlt a0 a1 a2 a3) (hT:TabAt W4) (hC:kH b a0 a1 a2 a3 W4) (hb:b<W4.heap.size) (h0:0<W4.heap.size) (I:Nat→World→Prop)
  (hI:∀ x W l o,I x W→W4.heap.size≤l→I x (W.putObj l o))
  (XP:∀(l x:Nat)(W:World)(K:Act→World→Prop),x<256 →
   (∀ a1:Act,(∀ Wb,BD W4.heap.size W4 Wb→body.wpIn (Fence.wide.inRound l) 2 Tryz.prog (fun e _ W'=>e = .ret∧I x W'∧∀ k,W4.heap.size≤k→W'.heap[k]?=Wb.heap[k]?) a1 Wb)→K a1 W) →
   assign.wpIn (Fence.wide.inRound l) 2 Tryz.prog (Exit.then K (fun _ _ _=>False)) { tmps:=a.tmps.setIfInBounds t (.int .u8 x),defers:=[] } W)
  (hdone:gX a0 a1 a2 a3 = []→∀(D:Nat)(W:World),W4.heap.size≤D→BD W4.heap.size W4 W→W.heap[D]?=some (.deferred (some []))→Q .normal { a with defers:={ target := .collected D,args:=#[] }::a.defers } W)
  (hstop:∀(x D:Nat)(W:World),gX a0 a1 a2 a3=x::(gX a0 a1 a2 a3).tail→W4.heap.size≤D→I x W→W.heap[D]?=some (.deferred (some []))→Code.ret.wpIn Fence.wide 4 Tryz.prog Q { a with defers:={ target := .collected D,args:=#[] }::a.defers } W) :
  (Code.rangeFunc g #[t] assign body).wpIn Fence.wide 4 Tryz.prog Q a W4:=by
 have eg:∀ args w,(callFunc 110 args).run Tryz.prog w = .ok (.enter 110 args) w:=enters_of Tryz.func110 (by kernel_rfl) rfl;refine wpIn_rangeFunc ?_;intro fn hfn;obtain⟨rec,hrec⟩:∃ rec:LoopState→Option Code→Loop,rec=fun st pe=>{ state:=st,pending:=pe,fn,tmps:=a.tmps,params:=#[t],assign,body,defers:=W4.heap.size }:=⟨_,rfl⟩;obtain⟨W6,hW6⟩:∃ W6,(W4.alloc (.deferred (some []))).alloc (.loop (rec .ready none))=W6:=⟨_,rfl⟩;have hL:W6.heap[W4.heap.size+1]?=some (.loop (rec .ready none)):=by
  rw[←hW6];have:=World.alloc_heap_new (W4.alloc (.deferred (some []))) (.loop (rec .ready none));rwa [World.size_alloc] at this
 have hD:W6.heap[W4.heap.size]?=some (.deferred (some [])):=by
  rw[←hW6];exact (Below.heap_alloc _ _ _ (by simp)).trans (World.alloc_heap_new W4 _)
 have hB6:BD W4.heap.size W4 W6:=by rw[←hW6];exact ((BD.refl _ W4).alloc Nat.le.refl _).alloc (by simp) _
 refine⟨W4.heap.size+1,[{ target := .collected W4.heap.size,args:=#[] }],W6,{ target := .fn (.func 110) #[.pointer (some ⟨b,0,none⟩)],args:=#[.func (.yield (W4.heap.size+1)) #[] #[]] },W6,110,
  #[.func (.yield (W4.heap.size+1)) #[] #[], .pointer (some ⟨b,0,none⟩)],W6,?_,?_,fun _ _=>trivial,?_,fun _=>by decide,?_⟩
 ·rw[←hW6,hrec];exact run_enterLoop_outer _ _ _ _ _
 ·simp only[resolve,hg]
  simp[go_sem]
 ·simp[invoke,go_sem,eg]
 have hT6:TabAt W6:=hT.below hB6.1 h0;have hC6:kH b a0 a1 a2 a3 W6:=hC.below hB6.1 hb;refine(lW Fence.wide 3 trivial trivial rfl (by decide) (W4.heap.size+1) b 1 a0 a1 a2 a3 hw (by decide) (fun pre W=>pre = []∧W=W6)
  (fun pre W=>∃ x,pre = [x]∧I x W∧W.heap[W4.heap.size+1]?=some (.loop (rec .done (some .ret)))∧W.heap[W4.heap.size]?=some (.deferred (some []))) ?_ W6 hT6 hC6 ⟨rfl,rfl⟩).mono ?_
 ·rintro pre x W ⟨rfl,rfl⟩ - hx
  refine⟨fn,_,assign,body,by have:=run_yield (P:=Tryz.prog) (args:=#[.int .u8 (x:Nat)]) hL (by rw[hrec];rfl);rw[hrec] at this;refine this.trans ?_;simp,roundIn_of_wpIn hfn (XP _ x W _ hx fun a1 hb1=>⟨_,run_beginRound hL (by rw[hrec]),?_⟩)⟩;have hl2:(W.putObj (W4.heap.size+1) (.loop { rec .ready none with state := .busy })).heap[W4.heap.size+1]?=some (.loop { rec .ready none with state := .busy }):=World.putObj_heap_same (Array.getElem?_eq_some_iff.1 hL).1;have hk2:(W.putObj (W4.heap.size+1) (.loop { rec .ready none with state := .busy })).heap[W4.heap.size]?=some (.deferred (some [])):=(World.putObj_heap_other (by omega)).trans hD;refine wpIn_mono (hb1 _ (hB6.putObj _ (by omega) _)) ?_;rintro e a3 W3 ⟨rfl,hi,hk⟩;have hl3:=(hk _ (by omega)).trans hl2;refine⟨_,_,run_endRound _ hl3, .inr ⟨rfl,x,rfl,hI _ _ _ _ hi (by omega),?_,?_⟩⟩
  ·rw[hrec];rw[hrec] at hl3;exact World.putObj_heap_same (Array.getElem?_eq_some_iff.1 hl3).1
  ·exact (World.putObj_heap_other (by omega)).trans ((hk _ (by omega)).trans hk2)
 ·rintro e W2 ⟨⟨v,rfl⟩,(⟨ys,hys,rfl,rfl⟩ | ⟨pre,⟨k,hk,hp⟩,x,rfl,hi,hl,hd⟩)⟩
  ·exact⟨none,_,by have:=run_endLoop (P:=Tryz.prog) hL (by rw[hrec];simp);rw[hrec] at this;exact this,hdone hys.symm _ _ Nat.le.refl (hB6.putObj _ (by omega) _) ((World.putObj_heap_other (by omega)).trans hD)⟩
  ·refine⟨some .ret,_,by have:=run_endLoop (P:=Tryz.prog) hl (by rw[hrec];simp);rw[hrec] at this;exact this,hstop x _ _ ?_ Nat.le.refl (hI _ _ _ _ hi (by omega)) ((World.putObj_heap_other (by omega)).trans hd)⟩
   obtain⟨tl,ht⟩:=Uo a0 a1 a2 a3 k hk;rw[←hp] at ht;rw[ht];rfl
theorem Gh(a0 a1 a2 a3:Nat)(hw:wlt a0 a1 a2 a3)(w:World)(hp:0<w.heap.size)(hT:TabAt w) :
  Calls Tryz.prog 65 #[.agg #[.int .u64 a0, .int .u64 a1, .int .u64 a2, .int .u64 a3]] w fun e w'=>e = .returned (.tuple #[.int .u8 (lst (gX a0 a1 a2 a3):Nat), .bool !(gX a0 a1 a2 a3).isEmpty])∧BD w.heap.size w w':=by
 refine(callsIn_wide (n:=4)).1 ?_;have h1:1≤4:=by omega
 have hE:=fun W=>callsIn_wide (n:=3) |>.2 (zI a0 a1 a2 a3 W);have h26:Fence.wide.fn 67:=trivial;have HE:=Lib.hid hE;clear hE;obtain⟨W4,hW4⟩:∃ W4,W4=(((w.alloc (.cells #[.int .u64 a0, .int .u64 a1, .int .u64 a2, .int .u64 a3] 116)).alloc (.cells #[.int .u8 0] 5)).alloc (.cells #[.bool false] 4)).alloc (.cells #[.int .u64 a0, .int .u64 a1, .int .u64 a2, .int .u64 a3] 116):=⟨_,rfl⟩;have hsz:W4.heap.size=w.heap.size+1+1+1+1:=by rw[hW4];simp
 have hB4:BD w.heap.size w W4:=by rw[hW4];exact ((((BD.refl _ w).alloc Nat.le.refl _).alloc (by simp) _).alloc (by simp;omega) _).alloc (by simp;omega) _
 have b1:Boxed W4 (w.heap.size+1) 5 (.int .u8 0):=by
  have:=Boxed.new (w.alloc (.cells #[.int .u64 a0, .int .u64 a1, .int .u64 a2, .int .u64 a3] 116)) 5 (.int .u8 0);simp only[World.size_alloc] at this;rw[hW4];exact(this.alloc _).alloc _
 have b2:Boxed W4 (w.heap.size+1+1) 4 (.bool false):=by
  have:=Boxed.new ((w.alloc (.cells #[.int .u64 a0, .int .u64 a1, .int .u64 a2, .int .u64 a3] 116)).alloc (.cells #[.int .u8 0] 5)) 4 (.bool false);simp only[World.size_alloc] at this;rw[hW4];exact this.alloc _
 have hC4:kH (w.heap.size+1+1+1) a0 a1 a2 a3 W4:=by rw[hW4];exact⟨by go_simp,by go_simp,by go_simp,by go_simp⟩
 have hT4:=hT.below hB4.1 hp;have HW:=Lib.hid hW4;have HS:=Lib.hid hsz;clear hW4 hsz hT;refine callsIn_of_wp_marks (F:=Fence.wide) Tryz.func65 rfl trivial ?_ rfl;simp only[Tryz.ntmps65,List.size_toArray,List.length_cons,List.length_nil,Nat.reduceAdd,Nat.reduceSub,Array.replicate_succ,Array.replicate_zero,List.push_toArray,List.append_toArray,List.nil_append,List.cons_append];gi_wp2_with (gi_at_call 67;refine (HE.out _).mono ?_;rintro e w' ⟨rfl,rfl⟩)
 rw[←HW.out];refine Jl (b:=w.heap.size+1+1+1) (by rfl) a0 a1 a2 a3 hw hT4 hC4 (by rw[HS.out];omega) (by rw[HS.out];omega)
  (fun x W=>BD w.heap.size w W∧Boxed W (w.heap.size+1) 5 (.int .u8 (x:Nat))∧Boxed W (w.heap.size+1+1) 4 (.bool true)) ?_ ?_ ?_ ?_
 ·rintro x W l o ⟨h1,h2,h3⟩ hl
  rw[HS.out] at hl;exact⟨h1.putObj _ (by omega) _,(World.putObj_heap_other (by omega)).trans h2,(World.putObj_heap_other (by omega)).trans h3⟩
 ·intro l x W K hx hK
  gi_wp2
  intro Wb hWb;have hs4:=HS.out;have d1:Boxed Wb (w.heap.size+1) 5 (.int .u8 0):=(hWb.1.block _ (by omega)).trans b1;have d2:Boxed Wb (w.heap.size+1+1) 4 (.bool false):=(hWb.1.block _ (by omega)).trans b2;have c1:=d1.cell;have f1:=d1.frozen;have c2:=d2.cell;have f2:=d2.frozen;gi_wp2
  refine⟨⟨?_,?_,?_⟩,?_⟩
  ·have hB:BD w.heap.size w Wb:=⟨hB4.1.trans (hWb.1.mono (by omega)),hWb.2.trans hB4.2⟩
   exact(hB.setCell _ _ (by omega) _).setCell _ _ (by omega) _
  ·exact(d1.set _).other (by omega) _
  ·exact(d2.other (by omega) _).set _
  ·intro k hk
   rw[Below.heap_setCell _ _ _ _ (by show k≠w.heap.size+1+1;omega),Below.heap_setCell _ _ _ _ (by show k≠w.heap.size+1;omega)]
 ·intro he D W hD hB hk
  have hs4:=HS.out;have d1:Boxed W (w.heap.size+1) 5 (.int .u8 0):=(hB.1.block _ (by omega)).trans b1;have d2:Boxed W (w.heap.size+1+1) 4 (.bool false):=(hB.1.block _ (by omega)).trans b2;have c1:=d1.cell;have f1:=d1.frozen;have c2:=d2.cell;have f2:=d2.frozen;have hBW:BD w.heap.size w W:=⟨hB4.1.trans (hB.1.mono (by omega)),hB.2.trans hB4.2⟩;gi_wp2
  have e1:=(d1.set (.int .u8 0)).other (show w.heap.size+1≠w.heap.size+1+1 by omega) (.bool false);have e2:=(d2.other (show w.heap.size+1+1≠w.heap.size+1 by omega) (.int .u8 0)).set (.bool false);have hK':=((KeepsOthers.setCell W ⟨w.heap.size+1,0,none⟩ (.int .u8 0)).trans (KeepsOthers.setCell _ ⟨w.heap.size+1+1,0,none⟩ (.bool false))).same D _ hk rfl;have hB2:=(hBW.setCell (w.heap.size+1) 0 (by omega) (.int .u8 0)).setCell (w.heap.size+1+1) 0 (by omega) (.bool false);generalize ((W.setCell ⟨w.heap.size+1,0,none⟩ (.int .u8 0)).setCell ⟨w.heap.size+1+1,0,none⟩ (.bool false))=W1 at e1 e2 hK' hB2 ⊢;refine⟨by simp, .inl ⟨_,_,rfl,run_takeDeferred hK',?_⟩⟩;have g1:=cell_kept e1.cell (grownBy_putObj' W1 D (.deferred none)) (fun r e=>by cases e;exact⟨_,hK',rfl⟩);have g2:=cell_kept e2.cell (grownBy_putObj' W1 D (.deferred none)) (fun r e=>by cases e;exact⟨_,hK',rfl⟩);refine⟨.tuple #[.int .u8 (lst (gX a0 a1 a2 a3):Nat), .bool !(gX a0 a1 a2 a3).isEmpty],?_,rfl,hB2.putObj _ (by omega) _⟩;rw[he];simp[results,Tryz.f36,go_sem,g1,g2,lst]
 ·rintro x D W hx hD ⟨hBW,e1,e2⟩ hk
  have hs4:=HS.out;gi_wp2
  refine⟨by simp, .inl ⟨_,_,rfl,run_takeDeferred hk,?_⟩⟩;have g1:=cell_kept e1.cell (grownBy_putObj' W D (.deferred none)) (fun r e=>by cases e;exact⟨_,hk,rfl⟩);have g2:=cell_kept e2.cell (grownBy_putObj' W D (.deferred none)) (fun r e=>by cases e;exact⟨_,hk,rfl⟩);refine⟨.tuple #[.int .u8 (lst (gX a0 a1 a2 a3):Nat), .bool !(gX a0 a1 a2 a3).isEmpty],?_,rfl,hBW.putObj _ (by omega) _⟩;rw[hx];simp[results,Tryz.f36,go_sem,g1,g2,lst]
end
section
open Go Go.Proofs Go.RowKit Go.Shelf Go.Lib Go.Sort
attribute [local go_sem] Oper.semAt_some
def zy(a b:Nat):Int:=if a<b then -1 else if b<a then 1 else 0
def bI(x:Kl):List Value:=[.int .u64 (x.a:Nat), .int .u64 (x.b:Nat), .int .u64 (x.c:Nat), .int .u64 (x.d:Nat)]
theorem MB(a b:Nat)(w:World):Calls Tryz.prog 107 #[.int .u8 (a:Nat), .int .u8 (b:Nat)] w fun e w'=>e = .returned (.int .i64 (zy a b))∧w'=w:=by
 by_cases h1:a<b
 ·have e:zy a b = -1:=by simp[zy,h1]
  rw[e];have d1:decide ((a:Int)<(b:Int))=true:=by simp;omega
  go_enter Tryz.func107,Tryz.ntmps107
  go_wp2
  go_ret
  exact⟨rfl,rfl⟩
 ·by_cases h2:b<a
  ·have e:zy a b=1:=by simp[zy,h1,h2]
   rw[e];have d1:decide ((a:Int)<(b:Int))=false:=(by simp;omega);have d2:decide ((b:Int)<(a:Int))=true:=(by simp;omega);go_enter Tryz.func107,Tryz.ntmps107
   go_wp2
   go_ret
   exact⟨rfl,rfl⟩
  ·have e:zy a b=0:=by simp[zy,h1,h2]
   rw[e];have d1:decide ((a:Int)<(b:Int))=false:=(by simp;omega);have d2:decide ((b:Int)<(a:Int))=false:=(by simp;omega);go_enter Tryz.func107,Tryz.ntmps107
   go_wp2
   go_ret
   exact⟨rfl,rfl⟩
theorem D9(x:Kl)(w:World)(hp:0<w.heap.size)(hT:TabAt w):Calls Tryz.prog 65 #[.agg (bI x).toArray] w fun e w'=>e = .returned (.tuple #[.int .u8 (x.low:Nat), .bool !x.by_.isEmpty])∧BD w.heap.size w w' :=
 Gh x.a x.b x.c x.d x.h w hp hT
theorem MC(x y:Kl)(w:World)(hp:0<w.heap.size)(hT:TabAt w):Calls Tryz.prog 106 #[.agg (bI x).toArray, .agg (bI y).toArray] w fun e w'=>e = .returned (.int .i64 (zy x.low y.low))∧BD w.heap.size w w':=by
 have hl:∀ W,Hid (BD w.heap.size w W)→Calls Tryz.prog 65 _ W _:=fun W h=>D9 x W (Nat.lt_of_lt_of_le hp h.out.1.size) (hT.below h.out.1 hp);have hr:∀ W,Hid (BD w.heap.size w W)→Calls Tryz.prog 65 _ W _:=fun W h=>D9 y W (Nat.lt_of_lt_of_le hp h.out.1.size) (hT.below h.out.1 hp);have hc:=MB x.low y.low;have HL:=Lib.hid hl;have HR:=Lib.hid hr;clear hl hr;obtain⟨xa,xb,xc,xd,xh⟩:=x;obtain⟨ya,yb,yc,yd,yh⟩:=y;simp only[bI] at *;generalize (⟨xa,xb,xc,xd,xh⟩:Kl).low=p at *;generalize (⟨ya,yb,yc,yd,yh⟩:Kl).low=q at *;generalize (⟨xa,xb,xc,xd,xh⟩:Kl).by_=px at *;generalize (⟨ya,yb,yc,yd,yh⟩:Kl).by_=qx at *;generalize zy p q=r at *;have HC:=Lib.hid hc;clear hc;obtain⟨W1,hW1⟩:∃ W1,W1=(w.alloc (.cells #[.int .u64 (xa:Nat), .int .u64 (xb:Nat), .int .u64 (xc:Nat), .int .u64 (xd:Nat)] 116)).alloc (.cells #[.int .u64 (ya:Nat), .int .u64 (yb:Nat), .int .u64 (yc:Nat), .int .u64 (yd:Nat)] 116):=⟨_,rfl⟩;have hB1:BD w.heap.size w W1:=by rw[hW1];exact ((BD.refl _ w).alloc Nat.le.refl _).alloc (by simp) _
 have c2:kH (w.heap.size+1) ya yb yc yd W1:=by rw[hW1];exact⟨by go_simp,by go_simp,by go_simp,by go_simp⟩
 have hs1:W1.heap.size=w.heap.size+1+1:=by rw[hW1];simp
 have HW:=Lib.hid hW1;clear hW1;go_enter Tryz.func106,Tryz.ntmps106
 go_wp2_with fail
 rw[←HW.out];refine (HL.out _ hB1).mono ?_;rintro e W2 ⟨rfl,hB2⟩;have c3:=c2.below hB2.1 (by omega);have hB2':BD w.heap.size w W2:=⟨hB1.1.trans (hB2.1.mono (by omega)),hB2.2.trans hB1.2⟩;obtain⟨d0,d1,d2,d3⟩:=c3;go_wp2_with fail
 refine (HR.out _ hB2').mono ?_;rintro e W3 ⟨rfl,hB3⟩;have ach:BD w.heap.size w W3:=⟨hB2'.1.trans (hB3.1.mono hB2'.1.size),hB3.2.trans hB2'.2⟩;clear d0 d1 d2 d3;go_wp2_with (go_at_call 107;refine (HC.out _).mono ?_;rintro e w' ⟨rfl,rfl⟩)
 go_ret
 exact⟨rfl,ach⟩
end
end Go.Proofs.YtkjgogdkdejljaaGreatDoor.Df
namespace Go.Proofs.YtkjgogdkdejljaaGreatDoor.AX
open Go
section
variable {P : Program} {Q : Exit → Act → World → Prop} {n : Nat} {F : Fence} {ro : Option Nat}
theorem Ef{C:World→Prop}{id:Nat}{a:Act}{w:World}{l:List Oper}(r:Plan)(L:List Inf)(hm:P.follows .mixedOrders=true)(hs:Region.noSelect l.toArray=true)(hnd:EC l=true)(hL:infos l=L)(hB:jF L r 0 l.length=true)
  (hF:F = { Fence.wide with round:=ro }) (hC:C w.drew) (h:aV P l C (fun e a' w'=>e = .normal∧Q .normal a' w') r a w.drew):(Code.region id l.toArray true).wpIn F n P Q a w:=by
 refine Code.wpIn_mono (Q:=fun e a' w'=>e = .normal∧Q .normal a' w') ?_ ?_
 ·rintro e a' w' ⟨rfl,h⟩
  exact h
 refine wpIn_region_any hm ?_;have:=lX (n:=n) (Q:=fun e a' w'=>e = .normal∧Q .normal a' w') hF (fun i o c ho=>uo hnd i o c (by simpa using ho)) (by rintro⟨a,w,h,_⟩;cases h) _ _ _ _ (mZ _ _ _ _ (fU (P:=P) (C:=C) hs (by rintro c a d v w ⟨h,_⟩;cases h) r l.length _ 0 a w.drew hC (Lst.start _) (hL ▸ hB) h))
 simpa using this
theorem Ee{C CT:World→Prop}{id:Nat}{a:Act}{w:World}{l:List Oper}(i0:Nat)(r:List (Nat×Nat))(L:List Inf)(hm:P.follows .mixedOrders=true)(hs:Region.noSelect l.toArray=true)(hnd:EC l=true)(hL:infos l=L)(hlen:r.length=l.length)(hi0:i0<l.length)(hB:pY L (asF r) 0=true)(hW:ED L i0 r=true)
  (hF:F = { Fence.wide with round:=ro }) (hC:CT w.drew∧C w.drew) (h:bD P l C CT i0 (fun e a' w'=>e = .normal∧Q .normal a' w') false r a w.drew):(Code.region id l.toArray true).wpIn F n P Q a w:=by
 refine Code.wpIn_mono (Q:=fun e a' w'=>e = .normal∧Q .normal a' w') ?_ ?_
 ·rintro e a' w' ⟨rfl,h⟩
  exact h
 refine wpIn_region_any hm ?_;have:=lX (n:=n) (Q:=fun e a' w'=>e = .normal∧Q .normal a' w') hF (fun i o c ho=>uo hnd i o c (by simpa using ho)) (by rintro⟨a,w,h,_⟩;cases h) _ _ _ _ (ny _ _ _ _ (iw (P:=P) (C:=C) (CT:=CT) hi0 hs (by rintro c a d v w ⟨h,_⟩;cases h) r _ 0 a w.drew ⟨hC.1,fun _=>hC.2⟩ (Lst.start _) (hL ▸ hB) (hL ▸ hW) (by simpa using h)));rw[hlen] at this
 simpa using this
theorem MK{s:Code}{a:Act}{w:World}(R:Act→World→Prop)(first:s.wpIn F n P (fun e a' w'=>e = .normal∧R a' w') a w)(rest:∀ a' w',R a' w'→Q .normal a' w'):s.wpIn F n P Q a w :=
 Code.wpIn_mono (by rintro e a' w' ⟨rfl,h⟩;exact rest _ _ h) first
end
section
variable {P : Program} {C CT : World → Prop} {Q : Exit → Act → World → Prop} {i0 : Nat}
def gY(L:List Inf)(m:Nat):List Nat:=(List.range L.length).filter fun i=>upF L i m
def iq(P:Program)(l:List Oper)(C CT:World→Prop)(K:Act→Prop):List (Nat×Bool)→Act→Prop
 | [],a=>K a
 | (i,b)::r,a=>∃ o,l[i]?=some o∧wpQuiet P l.toArray (if b then C else CT) (fun a'=>iq P l C CT K r a') [o] a
def Nj(L:List Inf)(i0:Nat):List (Nat×Bool)→Nat→Nat→Bool
 | [],mask,e=>Nat.beq mask e
 | (i,b)::r,mask,e=>match L[i]?,L[i0]? with
  | some x,some x0=>(upF L i mask && (x.plain && qC i x mask L 0)) && ((!(Nat.beq i i0) && (!b || Nat.testBit x0.dep i)) && Nj L i0 r (Nat.lor mask (2 ^ i)) e)
  | _,_=>false
theorem Nk{l:List Oper}(hi0:i0<l.length)(hs:Region.noSelect l.toArray=true)(hQ:∀ c a d v w,Q (.panic c) (Act.put a d v) w→Q (.panic c) a w)(N:Nat→Nat→Act→World→Prop)(tail:List (Nat×Nat))(mE:Nat)
  (ht:pY (infos l) (asF tail) mE=true) (hf:ED (infos l) i0 tail=true)
  (hN:∀ n m a w,N n m a w→(C w∧CT w∧m.testBit i0=false)∧((m=mE∧n=tail.length∧bD P l C CT i0 Q false tail a w)∨(∃ k,n=k+1∧gY (infos l) m≠[]∧∀ i∈gY (infos l) m,i≠i0∧wpOp P l.toArray Q i (fun a' w'=>N k (Nat.lor m (2 ^ i)) a' w') a w))) :
  ∀(n:Nat)(listed:Array Bool)(mask:Nat)(a:Act)(w:World),Lst l.length listed mask→N n mask a w→wpAnyL P .any l.toArray (Dl C CT i0) Q n listed a w:=by
 intro n
 induction n with
 | zero =>
  intro listed mask a w hl h;obtain⟨⟨h1,h2,h3⟩,⟨rfl,h4,h5⟩ | ⟨k,h4,_⟩⟩:=hN _ _ _ _ h
  ·have:=iw (P:=P) (C:=C) (CT:=CT) (Q:=Q) hi0 hs hQ tail listed mask a w ⟨h2,fun _=>h1⟩ hl ht hf (by rw[h3];exact h5)
   rw[←h4] at this;exact this
  ·omega
 | succ n ih =>
  intro listed mask a w hl h;obtain⟨⟨h1,h2,h3⟩,⟨rfl,h4,h5⟩ | ⟨k,h4,h5,h6⟩⟩:=hN _ _ _ _ h
  ·have:=iw (P:=P) (C:=C) (CT:=CT) (Q:=Q) hi0 hs hQ tail listed mask a w ⟨h2,fun _=>h1⟩ hl ht hf (by rw[h3];exact h5)
   rw[←h4] at this;exact this
  ·obtain rfl:n=k:=by omega
   refine⟨fun h0=>?_,fun j hj=>?_⟩
   ·obtain⟨i,hi⟩:=List.exists_mem_of_ne_nil _ h5
    have hu:=(List.mem_filter.1 hi).2;have:=(jQ hl hu).2;rw[h0] at this
    cases this
   ·obtain⟨hj0,oj,hoj,hjd⟩:=mem_ready.1 hj
    have hjl:j<l.length:=(by have:=(Array.getElem?_eq_some_iff.1 hoj).1;simpa using this);have hje:(infos l)[j]?=some (iK l.toArray oj):=by
     have:l[j]?=some oj:=(by simpa using hoj);simp[infos,this]
    have hu:upF (infos l) j mask=true:=by
     unfold upF;rw[hje];simp only[Bool.and_eq_true,Bool.not_eq_true',Nat.beq_eq]
     constructor
     ·rw[Array.getD_eq_getD_getElem?,hl.bit j hjl] at hj0
      exact hj0
     ·refine um fun k hk2=>?_
      obtain⟨e,he,hb,rfl⟩:=gV.1 hk2;have h2:=hjd e he hb
      cases hm:mask.testBit e.on with
      | true=>rfl
      | false =>
       rcases Nat.lt_or_ge e.on l.length with h3 | h3
       ·rw[Array.getD_eq_getD_getElem?,hl.bit _ h3,hm] at h2;cases h2
       ·rw[Array.getD_eq_getD_getElem?,Array.getElem?_eq_none (by rw[hl.size];exact h3)] at h2;cases h2
    have hmem:j∈gY (infos l) mask:=List.mem_filter.2 ⟨List.mem_range.2 (by simpa[infos] using hjl),hu⟩;obtain⟨hne,hw⟩:=h6 j hmem;refine wpOp_mono (fun a' w' hk=>?_) hw;have hset:=hl.set hjl;obtain⟨⟨g1,g2,g3⟩,_⟩:=hN _ _ _ _ hk;exact⟨⟨g2,fun _=>g1⟩,ih _ _ a' w' hset hk⟩
theorem nC{l:List Oper}(hi0:i0<l.length)(hs:Region.noSelect l.toArray=true)(hQ:∀ c a d v w,Q (.panic c) (Act.put a d v) w→Q (.panic c) a w)(n e:Nat)(w:World)(hCw:C w)(hCT:CT w)(he:e.testBit i0=false)(K:Act→Prop)
  (hK:∀ a listed,Lst l.length listed e→K a→wpAnyL P .any l.toArray (Dl C CT i0) Q n listed a w) :
  ∀ (r:List (Nat×Bool)) (listed:Array Bool) (mask:Nat) (a:Act),Lst l.length listed mask→mask.testBit i0=false→Nj (infos l) i0 r mask e=true→iq P l C CT K r a→wpAnyL P .any l.toArray (Dl C CT i0) Q (r.length+n) listed a w
 | [],listed,mask,a,hl,_,hB,h=>by
  simp only[Nj,Nat.beq_eq] at hB;subst hB;rw[List.length_nil,Nat.zero_add];exact hK a listed hl h
 | (i,b)::r,listed,mask,a,hl,hm0,hB,h=>by
  simp only[Nj] at hB;obtain⟨x0,hx0⟩:∃ x0,(infos l)[i0]?=some x0:=⟨(infos l)[i0]'(by simpa[infos] using hi0),by simp[infos,hi0]⟩
  cases hx:(infos l)[i]? with
  | none=>rw[hx] at hB;cases hB
  | some x =>
   rw[hx,hx0] at hB;simp only[Bool.and_eq_true,Bool.not_eq_true',Bool.or_eq_true] at hB;obtain⟨⟨hu,hp,hf⟩,⟨hne0,hd0⟩,hB⟩:=hB;obtain⟨hil,eu⟩:=jQ hl hu;have hne:i≠i0:=fun e=>by rw[e] at hne0;simp at hne0
   have ho:l[i]?=some l[i]:=List.getElem?_eq_getElem hil;have hxe:x=iK l.toArray l[i]:=by
    simp only[infos,List.getElem?_map,ho,Option.map_some,Option.some.injEq] at hx;exact hx.symm
   have ho':l.toArray[i]?=some l[i]:=(by simp);have hset:=hl.set hil;have hDi:∀ listed w,Dl C CT i0 (listed.setIfInBounds i true) w↔Dl C CT i0 listed w:=fun listed w=>by
    unfold Dl;rw[getD_set_ne false hne]
   obtain⟨o,ho2,h⟩:=h;obtain rfl:l[i]=o:=by rw[ho] at ho2;exact Option.some.inj ho2
   have hm1:(Nat.lor mask (2 ^ i)).testBit i0=false:=by
    show(mask ||| 2 ^ i).testBit i0=_
    rw[Nat.testBit_or,Nat.testBit_two_pow,hm0]
    simpa using hne
   have hfree:∀(j:Nat)(oj:Oper),l.toArray[j]?=some oj→j≠i→listed.getD j true=false→(∀ e∈oj.after,Region.binds .any e=true→e.on≠i)→l[i].apart l.toArray oj=true:=fun j oj hj hji hjun hno=>by
    have hjl:j<l.length:=(by have:=(Array.getElem?_eq_some_iff.1 hj).1;simpa using this);have hje:(infos l)[j]?=some (iK l.toArray oj):=by
     have:l[j]?=some oj:=(by simpa using hj);simp[infos,this]
    rcases kL _ 0 hf j _ hje with h1 | h1 | h1 | h1
    ·omega
    ·rw[Nat.zero_add] at h1
     rw[Array.getD_eq_getD_getElem?,hl.bit j hjl,h1] at hjun
     cases hjun
    ·obtain⟨e,he,hb,hon⟩:=gV.1 h1
     exact absurd hon (hno e he hb)
    ·rw[hxe] at h1;exact ni h1
   rw[List.length_cons,show r.length+1+n=(r.length+n)+1 by omega]
   cases b with
   | false =>
    have h:wpQuiet P l.toArray CT (fun a'=>iq P l C CT K r a') [l[i]] a:=h;have hq:qOp P l.toArray CT i (fun a'=>iq P l C CT K r a') a:=(by unfold qOp;simp only[ho'];exact h);obtain⟨v,hy,hK2⟩:=yieldsIn_of_qOp ho' hq;exact wpAnyL_first (Y:=CT) (fun _=>True) ho' (Region.noSelect_spec hs) (fun c a w=>hQ c a _ _ w) (fun listed w _ h2=>h2.1) (fun _ _ _ _ _ _=>trivial) hDi (r.length+n) listed a w ⟨hCT,fun _=>hCw⟩ trivial hfree eu (je (by rw[hxe] at hp;exact hp) hy) (nC hi0 hs hQ n e w hCw hCT he K hK r _ _ _ hset hm1 hB hK2)
   | true =>
    have h:wpQuiet P l.toArray C (fun a'=>iq P l C CT K r a') [l[i]] a:=h;have hq:qOp P l.toArray C i (fun a'=>iq P l C CT K r a') a:=(by unfold qOp;simp only[ho'];exact h);obtain⟨v,hy,hK2⟩:=yieldsIn_of_qOp ho' hq;have XZ:x0=iK l.toArray l[i0]:=by
     have:l[i0]?=some l[i0]:=List.getElem?_eq_getElem hi0;simp only[infos,List.getElem?_map,this,Option.map_some,Option.some.injEq] at hx0;exact hx0.symm
    have hd0:=hd0.resolve_left (by decide);rw[XZ] at hd0;obtain⟨ed,hed,hb,hon⟩:=gV.1 hd0;have EF:∀ listed,i∈Region.ready .any l.toArray listed→i0∉Region.ready .any l.toArray listed:=fun listed hr h0=>by
     obtain⟨_,o0,ho0,hall⟩:=mem_ready.1 h0;have:l.toArray[i0]?=some l[i0]:=(by simp[hi0]);rw[this] at ho0;obtain rfl:=Option.some.inj ho0;have g1:=hall ed hed hb;have g0:=(mem_ready.1 hr).1;rw[hon] at g1;rcases Nat.lt_or_ge i listed.size with h' | h'
     ·simp[h'] at g0 g1;rw[g0] at g1;cases g1
     ·simp[Array.getElem?_eq_none h'] at g1
    refine wpAnyL_first (Y:=C) (fun listed=>listed.getD i0 false=false) ho' (Region.noSelect_spec hs) (fun c a w=>hQ c a _ _ w) (fun listed w h1 h2=>h2.2 h1) (fun listed j h1 hr hj hji=>?_) hDi (r.length+n) listed a w ⟨hCT,fun _=>hCw⟩ ?_ hfree eu (je (by rw[hxe] at hp;exact hp) hy) (nC hi0 hs hQ n e w hCw hCT he K hK r _ _ _ hset hm1 hB hK2)
    ·rw[getD_set_ne false (fun e=>by subst e;exact EF _ hr hj)]
     exact h1
    ·rw[Array.getD_eq_getD_getElem?,hl.bit i0 hi0,hm0];rfl
theorem yw{id:Nat}{a:Act}{w:World}{l:List Oper}(i0:Nat)(r:List (Nat×Bool))(tail:List (Nat×Nat))(m0 mE n:Nat)(N:Nat→Nat→Act→World→Prop)(L:List Inf)(hm:P.follows .mixedOrders=true)(hs:Region.noSelect l.toArray=true)(hL:infos l=L)(hi0:i0<l.length)(hlen:r.length+n=l.length)
  (hp:Nj L i0 r 0 m0=true) (he:m0.testBit i0=false) (ht:pY L (asF tail) mE=true) (hf:ED L i0 tail=true) (hQ:∀ c a d v w,Q (.panic c) (Act.put a d v) w→Q (.panic c) a w) (hC:CT w.drew∧C w.drew)
  (hN:∀ n m a w,N n m a w→(C w∧CT w∧m.testBit i0=false)∧((m=mE∧n=tail.length∧bD P l C CT i0 Q false tail a w)∨(∃ k,n=k+1∧gY L m≠[]∧∀ i∈gY L m,i≠i0∧wpOp P l.toArray Q i (fun a' w'=>N k (Nat.lor m (2 ^ i)) a' w') a w)))
  (h:iq P l C CT (fun a=>N n m0 a w.drew) r a):(Code.region id l.toArray true).wp P Q a w:=by
 subst hL;refine wp_region_any hm ?_;have:=ny _ _ _ _ (nC (P:=P) (C:=C) (CT:=CT) (Q:=Q) hi0 hs hQ n m0 w.drew hC.2 hC.1 he _ (fun a listed hl h=>Nk (P:=P) (C:=C) (CT:=CT) (Q:=Q) hi0 hs hQ N tail mE ht hf hN n listed m0 a w.drew hl h) r _ 0 a (Lst.start _) (by simp) hp h);rw[hlen] at this
 simpa using this
theorem wH{id:Nat}{a:Act}{w:World}{l:List Oper}(fr:Act→(Nat→Value)→Act)(A0:Act→Prop)(Kx:Nat→Nat→(Nat→Value)→World→Prop)(Fin:(Nat→Value)→World→Prop)(i0:Nat)(r:List (Nat×Bool))(tail:List (Nat×Nat))(m0 mE n:Nat)(L:List Inf)
  (hm:P.follows .mixedOrders=true) (hs:Region.noSelect l.toArray=true) (hL:infos l=L) (hi0:i0<l.length) (hlen:r.length+n=l.length)
  (hp:Nj L i0 r 0 m0=true) (he:m0.testBit i0=false) (ht:pY L (asF tail) mE=true) (hf:ED L i0 tail=true) (hQ:∀ c a d v w,Q (.panic c) (Act.put a d v) w→Q (.panic c) a w) (hC:CT w.drew∧C w.drew)
  (hN:∀ a0,A0 a0→(∀ v w,Fin v w→Q .normal (fr a0 v) w)→∀ n m v w,Kx n m v w→(C w∧CT w∧m.testBit i0=false)∧((m=mE∧n=tail.length∧bD P l C CT i0 Q false tail (fr a0 v) w) ∨
   (∃ k,n=k+1∧gY L m≠[]∧∀ i∈gY L m,i≠i0∧wpOp P l.toArray Q i (fun a' w'=>∃ v',a'=fr a0 v'∧Kx k (Nat.lor m (2 ^ i)) v' w') (fr a0 v) w)))
  (h:iq P l C CT (fun a=>∃ a0 v,A0 a0∧(∀ v w,Fin v w→Q .normal (fr a0 v) w)∧a=fr a0 v∧Kx n m0 v w.drew) r a):(Code.region id l.toArray true).wp P Q a w:=by
 refine yw (C:=C) (CT:=CT) i0 r tail m0 mE n (fun n m a w=>∃ a0 v,A0 a0∧(∀ v w,Fin v w→Q .normal (fr a0 v) w)∧a=fr a0 v∧Kx n m v w) L hm hs hL hi0 hlen hp he ht hf hQ hC ?_ ?_
 ·rintro n m _ w ⟨a0,v,h1,h2,rfl,h3⟩
  obtain⟨h4,h5 | ⟨k,h5,h6,h7⟩⟩:=hN a0 h1 h2 n m v w h3
  ·exact⟨h4, .inl h5⟩
  ·refine⟨h4, .inr ⟨k,h5,h6,fun i hi=>?_⟩⟩
   obtain⟨h8,h9⟩:=h7 i hi;exact⟨h8,wpOp_mono (fun a' w' h=>by obtain⟨v',e,hk⟩:=h;exact⟨a0,v',h1,h2,e,hk⟩) h9⟩
 ·exact h
theorem Dx{l:List Oper}{K:Act→Prop}{i:Nat}{r:List (Nat×Bool)}{a:Act}(o:Oper)(ho:l[i]?=some o)(h:wpQuiet P l.toArray C (fun a'=>iq P l C CT K r a') [o] a):iq P l C CT K ((i,true)::r) a:=⟨o,ho,h⟩
theorem RX{l:List Oper}{K:Act→Prop}{i:Nat}{r:List (Nat×Bool)}{a:Act}(o:Oper)(ho:l[i]?=some o)(h:wpQuiet P l.toArray CT (fun a'=>iq P l C CT K r a') [o] a):iq P l C CT K ((i,false)::r) a:=⟨o,ho,h⟩
end
end Go.Proofs.YtkjgogdkdejljaaGreatDoor.AX
namespace Go.Proofs.YtkjgogdkdejljaaGreatDoor.Df
open Go Go.Proofs Go.RowKit
attribute [local go_sem] Oper.semAt_some
def Dv(W:World)(base:Nat)(v:Value)(l:List Kl):Prop:=W.ownsRow base 116 4 v l.length (l.flatMap bI)
def bJ(W:World)(base:Nat)(v:Value)(l:List Int):Prop:=W.ownsRow base 3 1 v l.length (l.map (Value.int .i64))
def jA(W:World)(base:Nat)(v:Value)(ms:List Nat):Prop:=W.ownsRow base 112 1 v ms.length (ms.map fun r=>Value.map (some r))
theorem iF{w:World}{base:Nat}{e:TypeId}{size n:Nat}{v:Value}{xs:List Value}(h:w.ownsRow base e size v n xs)(g:Nat)(hg:v.ownBlock=some g):∃ cur,w.heap[g]?=some (.cells cur e (0,0)):=bQ h g hg
theorem bY{w w':World}{base:Nat}{e:TypeId}{size n:Nat}{v:Value}{xs:List Value}(h:w.ownsRow base e size v n xs)(he:∀ g,v.ownBlock=some g→w'.heap[g]?=w.heap[g]?):w'.ownsRow base e size v n xs:=by
 refine⟨h.1,?_⟩;rcases h.2 with ⟨rfl,hn⟩ | ⟨g,cap,cur,rfl,hg,hh,rest⟩
 ·exact .inl ⟨rfl,hn⟩
 ·exact .inr ⟨g,cap,cur,rfl,hg,(he g rfl).trans hh,rest⟩
theorem bG{w w':World}{base:Nat}{e:TypeId}{size n:Nat}{v:Value}{xs:List Value}(h:w.ownsRow base e size v n xs)(hb:Below w.heap.size w w'):w'.ownsRow base e size v n xs :=
 bY h fun g hg=>by obtain⟨cur,hc⟩:=iF h g hg;exact hb.block g (Array.getElem?_eq_some_iff.1 hc).1
def dQ(t:TypeId)(W W':World):Prop:=∀(j:Nat)(o:Obj),W.heap[j]?=some o→(∀ cs,o ≠ .cells cs t (0,0))→W'.heap[j]?=W.heap[j]?
theorem aC{W W':World}{base:Nat}{e t:TypeId}{size n:Nat}{v:Value}{xs:List Value}(h:W.ownsRow base e size v n xs)(hs:dQ t W W')(hne:e≠t):W'.ownsRow base e size v n xs :=
 bY h fun g hg=>by
  obtain⟨cs,hc⟩:=iF h g hg;exact hs g _ hc fun cs' e'=>by cases e';exact hne rfl
theorem aZ{W W':World}{base:Nat}{t:TypeId}{size n:Nat}{v:Value}{xs:List Value}(h:W.ownsRow base t size v n xs)(hg:W.grownBy W' v.ownBlock):dQ t W W':=fun j o hj hne =>
 hg.block j (Array.getElem?_eq_some_iff.1 hj).1 fun e=>by
  obtain⟨cs,hc⟩:=iF h j e.symm;rw[hj] at hc
  cases hc
  exact hne cs rfl
theorem Bx.aY{W W':World}{B:Nat}{e t:TypeId}{cs:Array Value}(h:Bx W B e cs)(hs:dQ t W W')(hne:e≠t):Bx W' B e cs:=(hs B _ h fun cs' e'=>by cases e';exact hne rfl).trans h
theorem aP.aY{W W':World}{r:Nat}{S:List Int}{t:TypeId}(h:aP W r S)(hs:dQ t W W'):aP W' r S:=by
 obtain⟨es,c,hm⟩:=h.map;exact h.same (hs r _ hm fun cs e=>by cases e)
theorem aT{W W':World}{B:Nat}{t:TypeId}{cs:Array Value}(hB:W.heap[B]?=some (.cells cs t (0,0)))(h:∀ j,j≠B→W'.heap[j]?=W.heap[j]?):dQ t W W' :=
 fun j o hj hne=>h j fun e'=>by subst e';rw[hB] at hj;cases hj;exact hne _ rfl
def ours(t:TypeId):Prop:=t=110∨t=116∨t=3∨t=112
structure Kp(base:Nat)(W W':World):Prop where
 low:Below base W W'
 keep:∀(k:Nat)(o:Obj),W.heap[k]?=some o→(∀ cs t,ours t→o ≠ .cells cs t (0,0))→W'.heap[k]?=W.heap[k]?
theorem Kp.trans{base:Nat}{X Y Z:World}(h:Kp base X Y)(k:Kp base Y Z):Kp base X Z:=⟨h.low.trans k.low,fun i o hi hn=>by
 have h1:=h.keep i o hi hn;exact(k.keep i o (h1.trans hi) hn).trans h1⟩
theorem Kp.of_below{base:Nat}{X Y:World}(h:Below X.heap.size X Y)(hb:base≤X.heap.size):Kp base X Y:=⟨h.mono hb,fun k _ hk _=>h.block k (Array.getElem?_eq_some_iff.1 hk).1⟩
theorem Kp.oW{base:Nat}{X Y:World}{t:TypeId}(hl:Below base X Y)(h:dQ t X Y)(ht:ours t):Kp base X Y:=⟨hl,fun k o hk hn=>h k o hk fun cs=>hn cs t ht⟩
theorem aP.kp{base:Nat}{W W':World}{r:Nat}{S:List Int}(h:aP W r S)(hs:Kp base W W'):aP W' r S:=by
 obtain⟨es,c,hm⟩:=h.map;exact h.same (hs.keep r _ hm fun cs t _ e=>by cases e)
theorem Bx.kp{base:Nat}{W W':World}{B:Nat}{e:TypeId}{cs:Array Value}(h:Bx W B e cs)(hs:Kp base W W')(hne:¬ours e):Bx W' B e cs:=(hs.keep B _ h fun cs' t ht e'=>by cases e';exact hne ht).trans h
structure Bd(base:Nat)(W:World)(Bb:Nat)(cv rv sv:Value)(s:NS)(ms:List Nat):Prop where
 low:base≤Bb
 box:Bx W Bb 110 #[cv, .slice none 0 0,rv,sv]
 c:Dv W base cv s.cl
 r:bJ W base rv s.ru
 sw:jA W base sv ms
 n1:ms.length=s.cl.length
 n2:s.nx.length=s.cl.length
 n3:s.ru.length=s.cl.length
 set:∀(i r:Nat)(S:List Int),ms[i]?=some r→s.nx[i]?=some S→aP W r S
theorem Bd.below{base:Nat}{W W':World}{Bb:Nat}{cv rv sv:Value}{s:NS}{ms:List Nat}(h:Bd base W Bb cv rv sv s ms)(hb:Below W.heap.size W W'):Bd base W' Bb cv rv sv s ms :=
 ⟨h.low,h.box.below hb h.box.lt,bG h.c hb,bG h.r hb,bG h.sw hb,h.n1,h.n2,h.n3,fun i r S h1 h2=>(h.set i r S h1 h2).below hb Nat.le.refl⟩
theorem NT:(Tryz.prog.info? 116).map (fun i=>(i.zero,i.size,i.bytes))=some (some (.agg #[.int .u64 0, .int .u64 0, .int .u64 0, .int .u64 0]),4,32):=by kernel_rfl
theorem NU:(Tryz.prog.info? 3).map (fun i=>(i.zero,i.size,i.bytes))=some (some (.int .i64 0),1,8):=by kernel_rfl
theorem NV:(Tryz.prog.info? 112).map (fun i=>(i.zero,i.size,i.bytes))=some (some (.map none),1,8):=by kernel_rfl
section
variable {o : Oper} {a : Act} {K : Act → World → Prop} {Q : Exit → Act → World → Prop} {W : World}
theorem Ij(base:Nat)(v:Value)(l:List Kl)(y:Kl)(s x:Operand)
  (ho:o.op = .call { callee := .builtin .append,args:=#[s,x],argTypes:=#[71,71] }) (hs:a.eval s=v) (hown:Dv W base v l) (B c:Nat) (hx:a.eval x = .slice (some ⟨B,0,none⟩) 1 c)
  (hc:Bx W B 116 (bI y).toArray) (hl:l.length≤1000000) (hb:base≤W.heap.size)
  (h:∀ v' w',Dv w' base v' (l++[y])→W.grownBy w' v.ownBlock→K (a.put o.dst v') w'):o.wp Tryz.prog a W K Q:=by
 obtain⟨ti,hi,hz0,hz1,hz2⟩:=info_parts NT;obtain⟨v',w',hr,h2,h3,h4,h5⟩:=run_append_own_at (P:=Tryz.prog) W base 71 o.type 116 ti (.agg #[.int .u64 0, .int .u64 0, .int .u64 0, .int .u64 0]) 4 32 Tryz.underlying71 hi hz0 hz1 hz2 rfl (by decide) v l.length _ hown ⟨B,0,none⟩ 1 c (bI y) rfl
  (fun j u hj=>by rw[addr_add,Nat.zero_add,hc.cell];simpa using hj) (fun u hu=>by
   simp only[bI,List.mem_cons,List.not_mem_nil,or_false] at hu;rcases hu with rfl | rfl | rfl | rfl<;>rfl) (by unfold maxLen;omega) (by omega) hb
 unfold Oper.wp execOp;simp only[ho,resolve,invoke,builtin,Sem.run_bind,Sem.run_pure,Result.andThen_ok,List.map_toArray,List.map_cons,List.map_nil,hs,hx,hr];refine h v' w' ?_ h3;unfold Dv;rw[List.length_append,List.flatMap_append]
 simpa using h2
theorem Ik(base:Nat)(v:Value)(l:List Int)(y:Int)(s x:Operand)
  (ho:o.op = .call { callee := .builtin .append,args:=#[s,x],argTypes:=#[25,25] }) (hs:a.eval s=v) (hown:bJ W base v l) (B c:Nat) (hx:a.eval x = .slice (some ⟨B,0,none⟩) 1 c)
  (hc:Bx W B 3 #[.int .i64 y]) (hl:l.length≤1000000) (hb:base≤W.heap.size)
  (h:∀ v' w',bJ w' base v' (l++[y])→W.grownBy w' v.ownBlock→K (a.put o.dst v') w'):o.wp Tryz.prog a W K Q:=by
 obtain⟨ti,hi,hz0,hz1,hz2⟩:=info_parts NU;obtain⟨v',w',hr,h2,h3,h4,h5⟩:=run_append_own_at (P:=Tryz.prog) W base 25 o.type 3 ti (.int .i64 0) 1 8 Tryz.underlying25 hi hz0 hz1 hz2 rfl (by decide) v l.length _ hown ⟨B,0,none⟩ 1 c [.int .i64 y] rfl
  (fun j u hj=>by rw[addr_add,Nat.zero_add,hc.cell];simpa using hj) (fun u hu=>by rw[List.mem_singleton.1 hu];rfl) (by unfold maxLen;omega) (by omega) hb
 unfold Oper.wp execOp;simp only[ho,resolve,invoke,builtin,Sem.run_bind,Sem.run_pure,Result.andThen_ok,List.map_toArray,List.map_cons,List.map_nil,hs,hx,hr];refine h v' w' ?_ h3;unfold bJ;rw[List.length_append,List.map_append];exact h2
theorem Il(base:Nat)(v:Value)(l:List Nat)(y:Nat)(s x:Operand)
  (ho:o.op = .call { callee := .builtin .append,args:=#[s,x],argTypes:=#[108,108] }) (hs:a.eval s=v) (hown:jA W base v l) (B c:Nat) (hx:a.eval x = .slice (some ⟨B,0,none⟩) 1 c)
  (hc:Bx W B 112 #[.map (some y)]) (hl:l.length≤1000000) (hb:base≤W.heap.size)
  (h:∀ v' w',jA w' base v' (l++[y])→W.grownBy w' v.ownBlock→K (a.put o.dst v') w'):o.wp Tryz.prog a W K Q:=by
 obtain⟨ti,hi,hz0,hz1,hz2⟩:=info_parts NV;obtain⟨v',w',hr,h2,h3,h4,h5⟩:=run_append_own_at (P:=Tryz.prog) W base 108 o.type 112 ti (.map none) 1 8 Tryz.underlying108 hi hz0 hz1 hz2 rfl (by decide) v l.length _ hown ⟨B,0,none⟩ 1 c [.map (some y)] rfl
  (fun j u hj=>by rw[addr_add,Nat.zero_add,hc.cell];simpa using hj) (fun u hu=>by rw[List.mem_singleton.1 hu];rfl) (by unfold maxLen;omega) (by omega) hb
 unfold Oper.wp execOp;simp only[ho,resolve,invoke,builtin,Sem.run_bind,Sem.run_pure,Result.andThen_ok,List.map_toArray,List.map_cons,List.map_nil,hs,hx,hr];refine h v' w' ?_ h3;unfold jA;rw[List.length_append,List.map_append];exact h2
end
end Go.Proofs.YtkjgogdkdejljaaGreatDoor.Df
