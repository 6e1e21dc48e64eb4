import Derived.Test.YtkjgogdkdejljaaGreatDoorDfB8
set_option maxRecDepth 100000
set_option maxHeartbeats 40000000
namespace Go.Proofs.YtkjgogdkdejljaaGreatDoor.Df
section
open Go Go.Proofs Go.RowKit
open Rx (Nd eP iO jw pre_eq jk IRd XAt)
theorem Fe{base Bb:Nat}{Wb:World}{v:Value}{r:List Nd}(hWb:Wb.heap.size≤base)(hR:jk Wb v r)(ok:eP r)(wd:∀ x∈r,x.Wd):∀ (f i:Nat),i<f→i<r.length→∀(w:World)(s:NS)(cv rv sv:Value)(ms:List Nat),ig s→Below base Wb w→Bd base w Bb cv rv sv s ms→s.cl.length+szN r (i:Int)≤100000→base≤w.heap.size →
  Calls Tryz.prog 57 #[.pointer (some ⟨Bb,0,none⟩),v, .int .i64 i] w (qJ base Bb (aU r f i s) w)
 | 0,_,h,_,_,_,_,_,_,_,_,_,_,_,_=>absurd h (Nat.not_lt_zero _)
 | f+1,i,hf,hi,w,s,cv,rv,sv,ms,hs,hlow,hd,hsz,hb=>by
  obtain⟨x,hxd⟩:∃ x,x=r.getD i default:=⟨_,rfl⟩;have hx:r[i]?=some x:=by rw[hxd,List.getD_eq_getElem?_getD,List.getElem?_eq_getElem hi,Option.getD_some]
  have nd:=ok.nd i _ hx;have hw:=wd x (List.mem_of_getElem? hx);have hs1:=U5 ok hi;rw[←hxd] at hs1;refine Lu hWb hR f i hx hxd.symm nd ⟨hw.a,hw.b,hw.c,hw.d⟩ ?_ ?_ w s cv rv sv ms hs hlow hd (by omega) hb
  ·intro k hk w s cv rv sv ms hs hlow hd hsz hb
   have:=nd.kids k hk;obtain⟨j,rfl⟩:∃ j:Nat,k=(j:Int):=⟨k.toNat,by omega⟩;exact Fe hWb hR ok wd f j (by omega) (by omega) w s cv rv sv ms hs hlow hd hsz hb
  ·intro k hk s hs
   have:=nd.kids k hk;obtain⟨j,rfl⟩:∃ j:Nat,k=(j:Int):=⟨k.toNat,by omega⟩;exact rM ok f j (by omega) (by omega) s hs
theorem JV{r:List Nd}(ok:eP r):szN r ((r.length:Int)-1)=r.length:=Rx.Sl ok
def wV(ru:List Int)(L:List Int)(i:Int):List Int:=(List.range ru.length).map fun k:Nat=>if (k:Int)∈L then i else ru.getD k 0
def su(s:NS)(L:List Int)(i:Int):NS:=⟨s.cl,s.nx,wV s.ru L i⟩
def Au(e:Bool)(s:NS)(i:Int):NS:=if e=true∧s.ru.getD 0 0<0 then ⟨s.cl,s.nx,s.ru.set 0 i⟩ else s
def Aw(t:NS)(i:Nat)(r:List Nd):NS :=
 Au (aU r r.length ((r.length-1:Nat):Int) t).2.e (su ((aU r r.length ((r.length-1:Nat):Int) t).1.join [0] (aU r r.length ((r.length-1:Nat):Int) t).2.f) (aU r r.length ((r.length-1:Nat):Int) t).2.l i) i
def nM(rs:List (List Nd)):Nat→NS
 | 0=>NS.push ⟨[],[],[]⟩ Kl.zero
 | j+1=>Aw (nM rs j) j (rs.getD j [])
def uS(rs:List (List Nd)):NS:=nM rs rs.length
theorem lM(ru L:List Int)(i:Int):(wV ru L i).length=ru.length:=by simp[wV]
theorem yB(ru L:List Int)(i:Int)(k:Nat)(hk:k<ru.length):(wV ru L i)[k]?=some (if (k:Int)∈L then i else ru.getD k 0):=by simp[wV,hk]
theorem Oc(ru:List Int)(i:Int):wV ru [] i=ru:=by
 refine List.ext_getElem? fun k=>?_
 by_cases hk:k<ru.length
 ·rw[yB ru [] i k hk,if_neg (by simp),List.getD_eq_getElem?_getD,List.getElem?_eq_getElem hk]
  rfl
 ·rw[List.getElem?_eq_none (by rw[lM];omega),List.getElem?_eq_none (by omega)]
theorem LD(ru dn:List Int)(i:Int)(k:Nat):wV ru (dn++[(k:Int)]) i=(wV ru dn i).set k i:=by
 refine List.ext_getElem? fun j=>?_
 by_cases hj:j<ru.length
 ·rw[yB ru _ i j hj]
  by_cases e:k=j
  ·subst e
   rw[List.getElem?_set_self (by rw[lM];exact hj),if_pos (by simp)]
  ·rw[List.getElem?_set_ne e,yB ru _ i j hj]
   congr 1
   have:(j:Int)∈dn++[(k:Int)]↔(j:Int)∈dn:=by
    rw[List.mem_append,List.mem_singleton];exact⟨fun h=>h.resolve_right fun e'=>e (by omega), .inl⟩
   simp only[this]
 ·rw[List.getElem?_eq_none (by rw[lM];omega),List.getElem?_eq_none (by rw[List.length_set,lM];omega)]
theorem Oe(ru A B:List Int)(i:Int)(h:∀ x,x∈A↔x∈B):wV ru A i=wV ru B i:=by
 unfold wV;simp only[h]
theorem ig.rul{s:NS}(h:ig s)(L:List Int){i:Int}(hi : -1≤i∧i<16):ig (su s L i):=by
 refine⟨h.one,h.nx,(lM _ _ _).trans h.ru,h.zero,h.up,fun r hr=>?_⟩;obtain⟨k,hk,rfl⟩:=List.mem_map.1 hr;have hk:k<s.ru.length:=List.mem_range.1 hk;split
 ·exact hi
 ·refine h.rule _ ?_
  rw[List.getD_eq_getElem?_getD,List.getElem?_eq_getElem hk,Option.getD_some];exact List.getElem_mem hk
theorem ig.zer{s:NS}(h:ig s)(e:Bool){i:Int}(hi : -1≤i∧i<16):ig (Au e s i):=by
 unfold Au;split
 ·refine⟨h.one,h.nx,?_,h.zero,h.up,fun r hr=>?_⟩
  ·show(s.ru.set 0 i).length=_
   rw[List.length_set];exact h.ru
  ·rcases List.mem_or_eq_of_mem_set hr with h1 | h1
   ·exact h.rule r h1
   ·rw[h1];exact hi
 ·exact h
theorem Sm(e:Bool)(s:NS)(i:Int):(Au e s i).cl=s.cl:=by unfold Au;split<;>rfl
theorem ig.first:ig (NS.push ⟨[],[],[]⟩ Kl.zero):=by
 refine⟨by simp[NS.push],by simp[NS.push],by simp[NS.push],by simp[NS.push],fun l hl=>?_,fun r hr=>?_⟩
 ·have hl:l∈[[]]:=hl
  rw[List.mem_singleton.1 hl];exact In.nil _
 ·have hr:r∈[(-1:Int)]:=hr
  rw[List.mem_singleton.1 hr];omega
theorem Og{t:NS}(ht:ig t){r:List Nd}(ok:eP r)(i:Nat)(hi:i<16):ig (Aw t i r)∧(Aw t i r).cl.length≤t.cl.length+r.length∧NdP t (aU r r.length ((r.length-1:Nat):Int) t) r.length:=by
 have h1:=ok.one;have h:=rM ok r.length (r.length-1) (by omega) (by omega) t ht;have hz:=JV ok;rw[show ((r.length:Int)-1)=((r.length-1:Nat):Int) by omega] at hz;rw[hz] at h;refine⟨((h.ok.join _ h.pl.f).rul _ (by omega)).zer _ (by omega),?_,h⟩;unfold Aw;rw[Sm];exact h.most
theorem DC{rs:List (List Nd)}(ok:∀ r∈rs,eP r)(hl:rs.length≤16):∀ j,j≤rs.length→ig (nM rs j)∧(nM rs j).cl.length≤1+512*j
 | 0,_=>⟨ig.first,by simp[nM,NS.push]⟩
 | j+1,hj=>by
  obtain⟨h1,h2⟩:=DC ok hl j (by omega);have hm:rs.getD j []∈rs:=by
   rw[List.getD_eq_getElem?_getD,List.getElem?_eq_getElem (by omega),Option.getD_some];exact List.getElem_mem _
  have hr:=ok _ hm;obtain⟨h3,h4,_⟩:=Og h1 hr j (by omega);have:=hr.most;refine⟨h3,?_⟩
  show (Aw _ _ _).cl.length≤_
  omega
theorem Va{n:Nat} : ∀ {l:List Int} {last:Int},Srt l→(∀ x∈l,last<x∧x<(n:Int))→Up (n:Int) last l
 | [],_,_,_=>trivial
 | y::l,last,h,hi=>by
  obtain⟨h1,h2⟩:=List.pairwise_cons.1 h;have:=hi y (List.mem_cons_self ..);exact⟨this.1,this.2,Va h2 fun x hx=>⟨h1 x hx,(hi x (List.mem_cons_of_mem _ hx)).2⟩⟩
theorem ig.nf{s:NS}(h:ig s)(hm:s.cl.length≤1024):yC ⟨s.cl,s.nx,s.ru⟩ :=
 ⟨h.one,hm,h.nx,h.ru,h.zero,fun l hl=>Va (h.up l hl).s fun x hx=>by have:=(h.up l hl).i x hx;exact⟨by omega,this.2⟩,h.rule⟩
end
section
open Go Go.Proofs Go.RowKit
open Rx (Nd eP iO jw pre_eq jk IRd XAt)
attribute [local go_sem] Oper.semAt_some
def BH:List (Nat×Nat):=[(0,0),(1,0),(2,0),(3,0),(4,0),(5,0),(6,0),(7,2),(8,2),(9,2),(10,2),(11,1),(12,1),(13,0),(14,2)]
theorem SE:(Tryz.prog.info? 25).map (fun i=>(i.zero,i.size,i.bytes))=some (some (.slice none 0 0),1,24):=by kernel_rfl
theorem aby:AX.sizeT Tryz.prog 72=some 1:=by kernel_rfl
theorem Iy{o:Oper}{a:Act}{K:Act→World→Prop}{Q:Exit→Act→World→Prop}{W:World}(base:Nat)(v:Value)(l:List Value)(y:Value)(s x:Operand)
  (ho:o.op = .call { callee := .builtin .append,args:=#[s,x],argTypes:=#[72,72] }) (hs:a.eval s=v) (hown:W.ownsRow base 25 1 v l.length l) (B c:Nat) (hx:a.eval x = .slice (some ⟨B,0,none⟩) 1 c)
  (hc:Bx W B 25 #[y]) (hy:y.oneCell'=true) (hl:l.length≤1000000) (hb:base≤W.heap.size)
  (h:∀ v' w',w'.ownsRow base 25 1 v' (l++[y]).length (l++[y])→W.grownBy w' v.ownBlock→K (a.put o.dst v') w'):o.wp Tryz.prog a W K Q:=by
 obtain⟨ti,hi,hz0,hz1,hz2⟩:=info_parts SE;obtain⟨v',w',hr,h2,h3,h4,h5⟩:=run_append_own_at (P:=Tryz.prog) W base 72 o.type 25 ti (.slice none 0 0) 1 24 Tryz.underlying72 hi hz0 hz1 hz2 rfl (by decide) v l.length _ hown ⟨B,0,none⟩ 1 c [y] rfl
  (fun j u hj=>by rw[addr_add,Nat.zero_add,hc.cell];simpa using hj) (fun u hu=>by rw[List.mem_singleton.1 hu];exact hy) (by unfold maxLen;omega) (by omega) hb
 unfold Oper.wp execOp;simp only[ho,resolve,invoke,builtin,Sem.run_bind,Sem.run_pure,Result.andThen_ok,List.map_toArray,List.map_cons,List.map_nil,hs,hx,hr];refine h v' w' ?_ h3;rw[List.length_append];exact h2
theorem DI{W:World}{base:Nat}{v:Value}{l:List Int}(h:W.ownsRow base 3 1 v l.length (l.map (Value.int .i64))):∃ la c,v = .slice la l.length c∧aK W la l:=by
 rcases h.2 with ⟨e,hn⟩ | ⟨g,cap,cur,e,_⟩
 ·have:l = []:=List.length_eq_zero_iff.1 hn
  subst this;exact⟨none,0,e,fun h=>absurd rfl h⟩
 ·subst e
  refine⟨_,_,rfl,fun _=>⟨g,0,rfl,(World.ownsRow.lt h g rfl).2,fun j hj=>?_⟩⟩;have:=World.ownsRow.cellAt h j (by omega);rw[Nat.zero_add,this,List.getElem?_map,List.getElem?_eq_getElem hj];rfl
theorem SG{W:World}{base:Nat}{v:Value}{l:List Kl}(h:Dv W base v l):∃ la c,v = .slice la l.length c∧Iz W la l:=by
 rcases h.2 with ⟨e,hn⟩ | ⟨g,cap,cur,e,_⟩
 ·have:l = []:=List.length_eq_zero_iff.1 hn
  subst this;exact⟨none,0,e,fun h=>absurd rfl h⟩
 ·subst e
  refine⟨_,_,rfl,fun _=>⟨g,0,rfl,(World.ownsRow.lt h g rfl).2,fun j hj=>?_⟩⟩;have hget:∀(l:List Kl)(j:Nat)(hj:j<l.length),(l.flatMap bI)[j*4]?=some (.int .u64 (l[j].a:Nat))∧(l.flatMap bI)[j*4+1]?=some (.int .u64 (l[j].b:Nat))∧(l.flatMap bI)[j*4+2]?=some (.int .u64 (l[j].c:Nat))∧(l.flatMap bI)[j*4+3]?=some (.int .u64 (l[j].d:Nat)):=by
   intro l
   induction l with
   | nil=>intro j hj;simp at hj
   | cons x l ih =>
    intro j hj
    cases j with
    | zero=>simp[bI]
    | succ j =>
     have:=ih j (by simpa using hj);have e:∀ t,((x::l).flatMap bI)[(j+1)*4+t]?=(l.flatMap bI)[j*4+t]?:=fun t=>by
      rw[List.flatMap_cons,List.getElem?_append_right (by simp[bI];omega)]
      congr 1
      simp[bI];omega
     have e0:=e 0;simp only[Nat.add_zero] at e0;rw[e0,e 1,e 2,e 3];exact this
  obtain⟨g0,g1,g2,g3⟩:=hget l j hj;refine⟨?_,?_,?_,?_⟩
  all_goals rw[Nat.zero_add,World.ownsRow.cellAt h _ (by omega)]
  ·exact g0
  ·exact g1
  ·exact g2
  ·exact g3
structure Bq(w:World)(s:NS)(A Bb:Nat)(cv rv sv:Value)(ms:List Nat)(k:Nat)(nv:Value)(wz:World):Prop where
 xa:Bx wz A 74 #[.slice none 0 0, .slice none 0 0, .slice none 0 0]
 nb:w.heap.size≤Bb
 box:Bx wz Bb 110 #[cv,nv,rv,sv]
 nv:∃ vals,vals.length=k∧wz.ownsRow w.heap.size 25 1 nv vals.length vals∧∀ i l,i<k→s.nx[i]?=some l→∃ v,vals[i]?=some v∧wz.ownsRow w.heap.size 3 1 v l.length (l.map (Value.int .i64))
 c:Dv wz w.heap.size cv s.cl
 r:bJ wz w.heap.size rv s.ru
 sw:jA wz w.heap.size sv ms
 set:∀(i r:Nat)(S:List Int),ms[i]?=some r→s.nx[i]?=some S→aP wz r S
 lo:Below w.heap.size w wz
section
variable {w : World} {s : NS} {A Bb : Nat} {cv rv sv : Value} {ms : List Nat} {k : Nat} {nv : Value} {wz wy : World}
theorem Bq.low(h:Bq w s A Bb cv rv sv ms k nv wz)(hb:Below wz.heap.size wz wy):Bq w s A Bb cv rv sv ms k nv wy:=by
 refine⟨h.xa.below hb h.xa.lt,h.nb,h.box.below hb h.box.lt,?_,bG h.c hb,bG h.r hb,bG h.sw hb,fun i r S h1 h2=>(h.set i r S h1 h2).below hb Nat.le.refl,h.lo.trans (hb.mono h.lo.size)⟩;obtain⟨vals,h1,h2,h3⟩:=h.nv;exact⟨vals,h1,bG h2 hb,fun i l e1 e2=>by obtain⟨v,h4,h5⟩:=h3 i l e1 e2;exact⟨v,h4,bG h5 hb⟩⟩
theorem Bq.put{l:List Int}{v nv':Value}{wx:World}(h:Bq w s A Bb cv rv sv ms k nv wz)(hl:s.nx[k]?=some l)(hv:wz.ownsRow w.heap.size 3 1 v l.length (l.map (Value.int .i64))){vals:List Value}(hk:vals.length=k)(hown:wz.ownsRow w.heap.size 25 1 nv vals.length vals)
  (YW:∀ i l,i<k→s.nx[i]?=some l→∃ v,vals[i]?=some v∧wz.ownsRow w.heap.size 3 1 v l.length (l.map (Value.int .i64))) (ho:wy.ownsRow w.heap.size 25 1 nv' (vals++[v]).length (vals++[v])) (hg:wz.grownBy wy nv.ownBlock)
  (g3:Bx wx Bb 110 #[cv,nv',rv,sv]) (g4:∀ j,j≠Bb→wx.heap[j]?=wy.heap[j]?) (g5:AX.Same wy wx):Bq w s A Bb cv rv sv ms (k+1) nv' wx:=by
 have hs1:dQ 25 wz wy:=aZ hown hg;have hb1:Below w.heap.size wz wy:=(Below.refl _ wz).grown hg h.lo.size fun k hk=>(World.ownsRow.lt hown k hk).1;have YX:=h.box.aY hs1 (by decide);have hs2:dQ 110 wy wx:=aT YX g4;have hb2:Below w.heap.size wy wx:=AX.aj h.nb (.inl g3.lt) g4 g5;refine⟨(h.xa.aY hs1 (by decide)).aY hs2 (by decide),h.nb,g3,⟨vals++[v],by simp[hk],aC ho hs2 (by decide),fun i l' e1 e2=>?_⟩,aC (aC h.c hs1 (by decide)) hs2 (by decide),aC (aC h.r hs1 (by decide)) hs2 (by decide),aC (aC h.sw hs1 (by decide)) hs2 (by decide),fun i r S h1 h2=>((h.set i r S h1 h2).aY hs1).aY hs2,h.lo.trans (hb1.trans hb2)⟩
 by_cases e:i<k
 ·obtain⟨v',h4,h5⟩:=YW i l' e e2
  exact⟨v',by rw[List.getElem?_append_left (by omega)];exact h4,aC (aC h5 hs1 (by decide)) hs2 (by decide)⟩
 ·have:i=k:=by omega
  subst this;rw[hl] at e2
  cases e2
  exact⟨v,by rw[←hk];simp,aC (aC hv hs1 (by decide)) hs2 (by decide)⟩
theorem Bq.abz(h:Bq w s A Bb cv rv sv ms k nv wz)(hs:dQ 74 wz wy)(hk:k=s.nx.length)(hx:s.nx.length=s.cl.length)(hr:s.ru.length=s.cl.length):∃ ac an ar cc cn cr,cv = .slice ac s.cl.length cc∧nv = .slice an s.cl.length cn∧rv = .slice ar s.cl.length cr∧uT wy ⟨s.cl,s.nx,s.ru⟩ ac an ar:=by
 obtain⟨ac,cc,e1,h1⟩:=SG (aC h.c hs (by decide));obtain⟨ar,cr,e2,h2⟩:=DI (aC h.r hs (by decide));obtain⟨vals,h3,h4,h5⟩:=h.nv;rcases h4.2 with ⟨e,hn⟩ | ⟨g,cap,cur,e,_⟩
 ·have h0:s.nx = []:=List.length_eq_zero_iff.1 (by omega)
  exact⟨ac,none,ar,cc,0,cr,e1,by rw[e,show s.cl.length=0 by omega],by rw[e2,hr],h1,fun hne=>absurd h0 hne,h2⟩
 ·subst e
  have h4:=aC h4 hs (by decide);refine⟨ac,some ⟨g,0,none⟩,ar,cc,cap,cr,e1,by rw[h3,hk,hx],by rw[e2,hr],h1,fun _=>⟨g,0,rfl,(World.ownsRow.lt h4 g rfl).2,fun j hj=>?_⟩,h2⟩;have hj:j<s.nx.length:=hj;obtain⟨v,h6,h7⟩:=h5 j s.nx[j] (by omega) (List.getElem?_eq_getElem hj);obtain⟨la,c,e3,h8⟩:=DI (aC h7 hs (by decide));refine⟨la,c,?_,h8⟩;rw[Nat.zero_add,World.ownsRow.cellAt h4 j (by omega),h6,e3]
end
theorem nZ{W:World}{base:Nat}{e:TypeId}{k:Nat}{v:Value}{n:Nat}{xs:List Value}(h:W.ownsRow base e k v n xs):v.oneCell'=true:=by
 rcases h.2 with ⟨e,_⟩ | ⟨g,cap,cur,e,_⟩<;>rw[e]<;>rfl
end
section
open Go.Lib (hid)
open Go Go.Proofs Go.RowKit
open Rx (Nd eP iO jw pre_eq jk IRd XAt)
attribute [local go_sem] Oper.semAt_some
def Oh(W:World)(la:Option Addr)(rs:List (List Nd)):Prop:=∀ i r,rs[i]?=some r→∃ B off,la=some ⟨B,off,none⟩∧B<W.heap.size∧∃ vr,vr.oneCell'=true∧W.cell? ⟨B,off+i,none⟩=some vr∧jk W vr r
theorem Oh.below{W W':World}{la:Option Addr}{rs:List (List Nd)}(h:Oh W la rs)(hb:Below W.heap.size W W'):Oh W' la rs:=fun i r hr=>by
 obtain⟨B,off,e,h1,vr,h0,h2,h3⟩:=h i r hr;exact⟨B,off,e,Nat.lt_of_lt_of_le h1 hb.size,vr,h0,(hb.cell (p:=⟨B,off+i,none⟩) h1).trans h2,h3.below Nat.le.refl hb⟩
def Oi(rs:List (List Nd))(w:World)(e:Ending)(w':World):Prop :=
 Below w.heap.size w w'∧((1024<(uS rs).cl.length∧e = .returned (.tuple #[.agg #[.slice none 0 0, .slice none 0 0, .slice none 0 0], .int .i64 10])) ∨
  ((uS rs).cl.length≤1024∧∃ ac an ar cc cn cr,e = .returned (.tuple #[nfV ac an ar (uS rs).cl.length (uS rs).cl.length (uS rs).cl.length cc cn cr, .int .i64 0])∧uT w' ⟨(uS rs).cl,(uS rs).nx,(uS rs).ru⟩ ac an ar))
theorem Bd.YR{base:Nat}{W:World}{Bb:Nat}{cv sv:Value}{g cap:Nat}{s:NS}{ms:List Nat}{k:Nat}{i:Int}{ru':List Int}(h:Bd base W Bb cv (.slice (some ⟨g,0,none⟩) s.ru.length cap) sv s ms)(hr:ru'=s.ru.set k i) :
  Bd base (W.setCell ⟨g,k,none⟩ (.int .i64 i)) Bb cv (.slice (some ⟨g,0,none⟩) s.ru.length cap) sv ⟨s.cl,s.nx,ru'⟩ ms∧dQ 3 W (W.setCell ⟨g,k,none⟩ (.int .i64 i)):=by
 obtain⟨h1,h2⟩:=World.ownsRow.stored h.r k (.int .i64 i);have hs:dQ 3 W (W.setCell ⟨g,k,none⟩ (.int .i64 i)):=aZ h.r h2;subst hr;refine⟨⟨h.low,h.box.aY hs (by decide),aC h.c hs (by decide),?_,aC h.sw hs (by decide),h.n1,h.n2,?_,fun i x T hi hT=>(h.set i x T hi hT).aY hs⟩,hs⟩
 ·unfold bJ
  rw[List.length_set,List.map_set];exact h1
 ·show(s.ru.set k i).length=_
  rw[List.length_set];exact h.n3
theorem Sr:AX.sizeT Tryz.prog 74=some 3:=by kernel_rfl
theorem Sv:¬ours 74:=by unfold ours;decide
structure Bl(rs:List (List Nd))(w:World)(A Bb M0:Nat)(t:NS)(wz:World):Prop where
 xa:Bx wz A 74 #[.slice none 0 0, .slice none 0 0, .slice none 0 0]
 m0:aP wz M0 [0]
 bd:∃ cv rv sv ms,Bd w.heap.size wz Bb cv rv sv t ms
 lo:Below w.heap.size w wz
theorem LG(rs:List (List Nd))(la:Option Addr)(c:Nat)(ok:∀ r∈rs,eP r)(wd:∀ r∈rs,∀ x∈r,x.Wd)(hl:rs.length≤16)(w:World)(h:Oh w la rs):Calls Tryz.prog 30 #[.slice la rs.length c] w (Oi rs w):=by
 obtain⟨n,hn⟩:∃ n,n=rs.length:=⟨_,rfl⟩;have hn16:n≤16:=by omega
 have adw:¬(16:Int)<(n:Int):=by omega
 have HN:=hid hn;have HOK:=hid ok;have HWD:=hid wd;rw[←hn];obtain⟨A,hA⟩:∃ A,A=w.heap.size:=⟨_,rfl⟩;obtain⟨W0,hW0⟩:∃ W0,W0=w.alloc (.cells #[.slice none 0 0, .slice none 0 0, .slice none 0 0] 74):=⟨_,rfl⟩;have hb0:Below w.heap.size w W0:=by rw[hW0];exact (Below.refl w.heap.size w).alloc Nat.le.refl _
 have xa:Bx W0 A 74 #[.slice none 0 0, .slice none 0 0, .slice none 0 0]:=by rw[hW0,hA];exact Bx.new w 74 _
 have hR0:=h.below hb0;have HA:=hid hA;have HB0:=hid hb0;have HR:=hid hR0;have HR0:=hid h;have HXA:=hid xa;clear hn ok wd hl h hb0 hR0 xa;go_enter Tryz.func30,Tryz.ntmps30
 go_upto_region 1 with fail
 rw[←hW0,←hA];clear hW0 hA;go_upto_region 4 with fail
 go_loopw [21] (fun i wr=>∃ j:Nat,i = .int .i64 j∧j≤n∧Below W0.heap.size W0 wr) (fun i _=>n-(intOf i).toNat)
 case atStart=>exact⟨0,rfl,Nat.zero_le _,Below.refl _ _⟩
 case round =>
  obtain⟨j,rfl,hj,hbj⟩:=hrel;have hj0:(0:Int)≤(j:Int):=by omega
  by_cases hlt:j<n
  ·have hj1:(j:Int)<(n:Int):=by omega
   obtain⟨r,hr⟩:∃ r,rs[j]?=some r:=⟨_,List.getElem?_eq_getElem (by have:=HN.out;omega)⟩;obtain⟨B,off,rfl,hB,vr,h0,h1,h2⟩:=HR.out j r hr;have hok:=HOK.out r (List.mem_of_getElem? hr);have qc:=(hbj.cell (p:=⟨B,off+j,none⟩) hB).trans h1;have hch:=Rx.jH r vr (by have:=hok.most;omega) wr (h2.below Nat.le.refl hbj);rw[show Rx.eU r=0 from if_pos hok] at hch;clear hok h1 h2 hr;go_wp2_with (go_at_call 55;((with_reducible refine hch.mono ?_);rintro e W2 ⟨rfl,hb2⟩))
   go_roundw
   case rel=>exact⟨j+1,by simp,by omega,hbj.trans (hb2.mono hbj.size)⟩
   case measure=>simp[intOf];omega
  ·have hj1:¬(j:Int)<(n:Int):=by omega
   go_upto_region 11 with fail
   obtain⟨Bb,hBb⟩:∃ Bb,Bb=wr.heap.size:=⟨_,rfl⟩;have hba:=(Below.refl wr.heap.size wr).alloc Nat.le.refl (.cells #[.slice none 0 0, .slice none 0 0, .slice none 0 0, .slice none 0 0] 110);have hbx:Bx (wr.alloc (.cells #[.slice none 0 0, .slice none 0 0, .slice none 0 0, .slice none 0 0] 110)) wr.heap.size 110 #[.slice none 0 0, .slice none 0 0, .slice none 0 0, .slice none 0 0]:=Bx.new wr 110 _;obtain⟨W1,hW1⟩:∃ W1,W1=wr.alloc (.cells #[.slice none 0 0, .slice none 0 0, .slice none 0 0, .slice none 0 0] 110):=⟨_,rfl⟩;rw[←hW1] at hba hbx ⊢;have hwr:w.heap.size≤wr.heap.size:=Nat.le_trans HB0.out.size hbj.size;rw[←hBb] at hbx ⊢;have Sz:Bd w.heap.size W1 Bb (.slice none 0 0) (.slice none 0 0) (.slice none 0 0) ⟨[],[],[]⟩ []:=⟨by omega,hbx,⟨rfl, .inl ⟨rfl,rfl⟩⟩,⟨rfl, .inl ⟨rfl,rfl⟩⟩,⟨rfl, .inl ⟨rfl,rfl⟩⟩,rfl,rfl,rfl,fun i r S h1 h2=>by simp at h1⟩;have hlo1:Below w.heap.size w W1:=HB0.out.trans ((hbj.mono HB0.out.size).trans (hba.mono hwr));have xa1:=(HXA.out.below hbj HXA.out.lt).below hba (by have:=HXA.out.lt;have:=hbj.size;omega);have hst:Calls Tryz.prog 56 #[.pointer (some ⟨Bb,0,none⟩), .agg #[.int .u64 0, .int .u64 0, .int .u64 0, .int .u64 0]] W1 (EU w.heap.size Bb ⟨[],[],[]⟩ [] Kl.zero W1):=Bz Kl.zero W1 Sz (by decide) hlo1.size;have HLo:=hid hlo1;have YS:=hid xa1;clear hBb hba hbx hW1 hwr Sz hlo1 xa1 hbj;go_upto_region 13 with (go_at_call 56;((with_reducible refine hst.mono ?_);rintro e W2 ⟨M0,cv0,rv0,sv0,M,rfl,hm0,hBd,hKp⟩))
   have hBl:Bl rs w A Bb M0 (nM rs 0) W2:=⟨YS.out.kp hKp Sv,hm0,⟨_,_,_,_,hBd⟩,HLo.out.trans hKp.low⟩;have hbl:=hid hBl;clear hBl hm0 hBd hKp hst HLo YS hlt hj1 HR HXA HB0;go_loopw [39] (fun i wr=>∃ j:Nat,i = .int .i64 j∧j≤n∧Hid (Bl rs w A Bb M0 (nM rs j) wr)) (fun i _=>n-(intOf i).toNat)
   case atStart=>exact⟨0,rfl,Nat.zero_le _,hbl⟩
   case round =>
    obtain⟨j,rfl,hj,hB⟩:=hrel;have hj0:(0:Int)≤(j:Int):=by omega
    by_cases hlt:j<n
    ·have hj1:(j:Int)<(n:Int):=by omega
     obtain⟨r,hr⟩:∃ r,rs[j]?=some r:=⟨_,List.getElem?_eq_getElem (by have:=HN.out;omega)⟩;obtain⟨B,off,rfl,hBl,vr,hv1,hv2,hv3⟩:=HR0.out j r hr;have hmem:=List.mem_of_getElem? hr;have hok:=HOK.out r hmem;have hwd:=HWD.out r hmem;have qc:=(hB.out.lo.cell (p:=⟨B,off+j,none⟩) hBl).trans hv2;obtain⟨h2,h3⟩:=DC HOK.out (by have:=HN.out;omega) j (by have:=HN.out;omega);obtain⟨cv,rv,sv,ms,hBd⟩:=hB.out.bd;have hr1:=hok.one;have hr2:=hok.most;have hz:=JV hok;rw[show ((r.length:Int)-1)=((r.length-1:Nat):Int) by omega] at hz;obtain⟨ho1,ho2,ho3⟩:=Og h2 hok j (by omega);have hcall:=Fe Nat.le.refl hv3 hok hwd r.length (r.length-1) (by omega) (by omega) wr (nM rs j) cv rv sv ms h2 hB.out.lo hBd (by rw[hz];omega) hB.out.lo.size;have hnext:Hid (nM rs (j+1)=Aw (nM rs j) j r):=hid (by
      show Aw (nM rs j) j (rs.getD j [])=_
      rw[List.getD_eq_getElem?_getD,hr,Option.getD_some])
     unfold Aw at hnext;obtain⟨y,hy⟩:∃ y,y=aU r r.length ((r.length-1:Nat):Int) (nM rs j):=⟨_,rfl⟩;rw[←hy] at hcall hnext ho3;obtain⟨la',c',rfl,hrr⟩:=hv3;rw[show ((r.length-1:Nat):Int)=(r.length:Int)-1 by omega] at hcall;obtain⟨rl,hrl⟩:∃ rl,rl=r.length:=⟨_,rfl⟩;have adI:(1:Int)≤(rl:Int):=(by omega);have hrl2:(rl:Int)≤512:=(by omega);rw[←hrl] at hcall qc;have HO3:=hid ho3;clear hv1 hv2 hrr hr hmem hok hwd h2 h3 hr1 hr2 hz ho1 ho2 ho3 hy hrl hBd;go_upto_region 16 with (first
      | (go_at_call 57;((with_reducible refine hcall.mono ?_);rintro e W2 ⟨rf,rl2,cv2,rv2,sv2,ms2,rfl,hsf,hsl,qI,wU⟩;have x2:=Bx.new W2 118 #[.bool false, .map none, .map none];have ha2:=(Below.refl W2.heap.size W2).alloc Nat.le.refl (.cells #[.bool false, .map none, .map none] 118)))
      | ((with_reducible refine dP ?_);refine AX.au (vs:=[.bool y.2.e, .map (some rf), .map (some rl2)]) rfl rfl iR x2 rfl rfl ?_;rintro W3 g3 g4 g5))
     have x3:Bx W3 W2.heap.size 118 #[.bool y.2.e, .map (some rf), .map (some rl2)]:=g3;have hl3:Below W2.heap.size W2 W3:=ha2.trans (AX.aj Nat.le.refl (.inl x3.lt) g4 g5);have Ir:Kp w.heap.size wr W3:=wU.trans (Kp.of_below hl3 (Nat.le_trans hB.out.lo.size wU.low.size));have nY:=qI.below hl3;have uO:=hsf.below hl3 Nat.le.refl;have uP:=hsl.below hl3 Nat.le.refl;have hm3:=hB.out.m0.kp Ir;have xa3:=hB.out.xa.kp Ir Sv;have hlo3:=hB.out.lo.trans Ir.low;obtain⟨D,hD⟩:∃ D,D=W2.heap.size:=⟨_,rfl⟩;rw[←hD] at x3 ⊢;have hj:=yx W3 nY hm3 uO (fun x hx=>by rw[List.mem_singleton.1 hx];have:=HO3.out.ok.one;omega) hlo3.size;have y1:W3.cell? ⟨D,1,none⟩=some (.map (some rf)):=x3.cell 1;have YT:=hid hlo3;have hDw:w.heap.size≤D:=(by have:=hB.out.lo.size;have:=wU.low.size;omega);clear g3 g4 g5 ha2 x2 hsf hsl qI wU hl3 Ir hcall hD uO nY qc hB hlo3;go_upto_region 17 with (go_at_call 58;((with_reducible refine hj.mono ?_);rintro e W4 ⟨rfl,⟨ms4,yA⟩,uN⟩))
     have x4:=x3.kp uN BF;have abu:=uP.kp uN;have hm4:=hm3.kp uN;have xa4:=xa3.kp uN Sv;have DF:=YT.out.trans uN.low;obtain⟨ks,hM,hks⟩:=abu;have y2:W4.cell? ⟨D,2,none⟩=some (.map (some rl2)):=x4.cell 2;have HKS:=hid hks;obtain⟨u,hu⟩:∃ u,u=y.1.join [0] y.2.f:=⟨_,rfl⟩;rw[←hu] at yA hnext;have hHu:=hid (show u.cl=y.1.cl by rw[hu];rfl);clear hks hj y1 x3 uP hm3 xa3 YT uN hu;go_wp2_with (at_range;refine kX _ rfl _ rfl rl2 ks rfl hM ?_;intro w0 hrg hb0 hs0)
     go_frame
     obtain⟨It,hIt⟩:∃ It,It=W4.heap.size:=⟨_,rfl⟩;rw[←hIt] at hrg ⊢;have Sz:=yA.below hb0;have hk0:Kp w.heap.size W4 w0:=Kp.of_below hb0 DF.size;have RY:Hid (w.heap.size≤It):=hid (by have:=DF.size;omega);have HIt:=hid hIt;have hu2:=yA.n3;have HU2:=hid hu2;have abv:=hid DF;have HX4:=hid x4;have HM4:=hid hm4;have abw:=hid xa4;clear hIt hb0 hs0 hM yA DF x4 hm4 xa4 y2 hu2;go_loopw [58] (fun _ wi=>∃ dn,jG wi It rl2 ks dn∧Bd w.heap.size wi Bb cv2 rv2 sv2 (su u dn j) ms4∧Kp w.heap.size W4 wi) (fun _ wi=>lft wi It rl2)
     case atStart=>exact⟨[],hrg,by unfold su;rw[Oc];exact Sz,hk0⟩
     case round =>
      obtain⟨dn,pW,hBd,hKp⟩:=hrel;go_wp2_with (at_next;refine mG _ rfl _ rfl It rl2 ks dn rfl pW ?_ ?_)
      ·intro hall
       have heq:su u dn j=su u y.2.l j:=by
        unfold su;rw[Oe u.ru dn y.2.l j fun x=>?_];rw[←HKS.out x];refine⟨fun h=>?_,fun h=>hall x h⟩;obtain⟨_,_,_,_,_,_,_,_,_,_,_,_,_,_,_,h11⟩:=pW;exact h11 x h
       rw[heq] at hBd;have xd:=HX4.out.kp hKp BF;have y0:wr.cell? ⟨D,0,none⟩=some (.bool y.2.e):=xd.cell 0;have xa5:=abw.out.kp hKp Sv;have hm5:=HM4.out.kp hKp;have SA:=abv.out.trans hKp.low;obtain⟨s2,hs2⟩:∃ s2,s2=su u y.2.l j:=⟨_,rfl⟩;rw[←hs2] at hBd hnext;have hru:1≤s2.ru.length:=(by rw[hBd.n3,hs2];show 1≤u.cl.length;rw[hHu.out];exact HO3.out.ok.one);have hdone:∀ W,Bl rs w A Bb M0 (Au y.2.e s2 j) W→Hid (Bl rs w A Bb M0 (nM rs (j+1)) W):=fun W h=>hid (by rw[hnext.out];exact h);obtain⟨g,cap,hsv⟩:∃ g cap,rv2 = .slice (some ⟨g,0,none⟩) s2.ru.length cap:=by
        rcases hBd.r.2 with ⟨_,h0⟩ | ⟨g,cap,cur,e,_⟩
        ·omega
        ·exact⟨g,cap,e⟩
       have Oj:=hBd;rw[hsv] at Oj;have hr1:=Oj.r;obtain⟨m,hm⟩:∃ m,m=s2.ru.length:=⟨_,rfl⟩;have hbx:wr.cell? ⟨Bb,2,none⟩=some (.slice (some ⟨g,0,none⟩) m cap):=(by rw[hm];exact Oj.box.cell 2);have hkm:(0:Int)<(m:Int):=(by omega);obtain⟨x0,hx0⟩:∃ x0,x0=s2.ru.getD 0 0:=⟨_,rfl⟩;have hcell:wr.cell? ⟨g,0,none⟩=some (.int .i64 x0):=by
        have:=World.ownsRow.cellAt hr1 0 (by omega);rw[this,List.getElem?_map,hx0,List.getD_eq_getElem?_getD,List.getElem?_eq_getElem (by omega)];rfl
       have hfz:wr.frozen? ⟨g,0,none⟩=false:=World.ownsRow.frozenAt hr1 0;have hg:=(World.ownsRow.lt hr1 g rfl).1;obtain⟨be,hbe⟩:∃ b,b=y.2.e:=⟨_,rfl⟩;rw[←hbe] at y0 hdone;have Ol:=hid hdone;have HBd:=hid hBd;have VI:=hid Oj;have HSV:=hid hsv;have HM5:=hid hm5;have VR:=hid xa5;have VT:=hid SA;have HG:=hid hg;have HX0:=hid hx0;clear hdone hBd Oj hsv hm5 xa5 SA hg hx0 hr1 hbe hs2 hru hm xd hKp pW heq hall
       cases be
       ·go_wp2_with fail
        exact⟨⟨j+1,by simp,by omega,Ol.out wr (by rw[show Au false s2 j=s2 from if_neg (by simp)];exact⟨VR.out,HM5.out,⟨_,_,_,_,HBd.out⟩,VT.out⟩)⟩,by simp[intOf];omega⟩
       ·by_cases hneg:x0<0
        ·go_wp2_with fail
         obtain⟨h4,h5⟩:=Bd.YR (k:=0) (i:=(j:Int)) VI.out rfl;rw[←HSV.out] at h4;have hl4:Below w.heap.size wr (wr.setCell ⟨g,0,none⟩ (.int .i64 j)):=(Below.refl _ wr).setCell (p:=⟨g,0,none⟩) HG.out _;exact⟨⟨j+1,by simp,by omega,Ol.out _ (by rw[show Au true s2 j=⟨s2.cl,s2.nx,s2.ru.set 0 j⟩ from if_pos ⟨rfl,by rw[←HX0.out];exact hneg⟩];exact⟨VR.out.aY h5 (by decide),HM5.out.aY h5,⟨_,_,_,_,h4⟩,VT.out.trans hl4⟩)⟩,by simp[intOf];omega⟩
        ·go_wp2_with fail
         exact⟨⟨j+1,by simp,by omega,Ol.out wr (by rw[show Au true s2 j=s2 from if_neg (fun h=>hneg (by rw[HX0.out];exact h.2))];exact⟨VR.out,HM5.out,⟨_,_,_,_,HBd.out⟩,VT.out⟩)⟩,by simp[intOf];omega⟩
      ·intro kk W1 hk hnd hrg1 hb1 hz1 hs1 hl1 hen
       have hki:=HO3.out.pl.l.i kk ((HKS.out kk).1 hk);obtain⟨k,rfl⟩:∃ k:Nat,kk=(k:Int):=⟨kk.toNat,by omega⟩;have hku:k<u.ru.length:=(by rw[HU2.out,hHu.out];omega);have jX:Bd w.heap.size W1 Bb cv2 rv2 sv2 (su u dn j) ms4:=by
        obtain⟨a,b,c,d,hit⟩:=pW.iter;exact hBd.oth (fun j cs t hj=>hs1 j fun e=>by rw[e,hit] at hj;cases hj) (fun j es c hj=>hs1 j fun e=>by rw[e,hit] at hj;cases hj)
       have nX:Kp w.heap.size W4 W1:=⟨hKp.low.trans ⟨hb1.os,hb1.tape,hb1.output,by omega,fun j hj=>hs1 j (by have:=RY.out;omega)⟩,fun j o hj hn=>(hs1 j (by have:=(Array.getElem?_eq_some_iff.1 hj).1;have:=HIt.out;omega)).trans (hKp.keep j o hj hn)⟩;have hlen:(su u dn j).ru.length=u.ru.length:=lM _ _ _;obtain⟨g,cap,hsv⟩:∃ g cap,rv2 = .slice (some ⟨g,0,none⟩) (su u dn j).ru.length cap:=by
        rcases jX.r.2 with ⟨_,h0⟩ | ⟨g,cap,cur,e,_⟩
        ·omega
        ·exact⟨g,cap,e⟩
       obtain⟨m,hm⟩:∃ m,m=(su u dn j).ru.length:=⟨_,rfl⟩;have adJ:(0:Int)≤(k:Int):=(by omega);have hkm:(k:Int)<(m:Int):=(by omega);have hbx:W1.cell? ⟨Bb,2,none⟩=some (.slice (some ⟨g,0,none⟩) m cap):=(by rw[hm,←hsv];exact jX.box.cell 2);have hr1:=jX.r;rw[hsv] at hr1;have hcell:∃ x,W1.cell? ⟨g,k,none⟩=some (.int .i64 x):=by
        obtain⟨x,hx⟩:∃ x,(su u dn j).ru[k]?=some x:=⟨_,List.getElem?_eq_getElem (by omega)⟩;exact⟨x,by rw[World.ownsRow.cellAt hr1 k (by omega),List.getElem?_map,hx];rfl⟩
       obtain⟨x0,hcell⟩:=hcell;have hfz:W1.frozen? ⟨g,k,none⟩=false:=World.ownsRow.frozenAt hr1 k;have hg:=(World.ownsRow.lt hr1 g rfl).1;have hgl:=(World.ownsRow.lt hr1 g rfl).2;have HM:=hid hm;have HSV:=hid hsv;have HBd:=hid jX;have HKp:=hid nX;have HRg:=hid hrg1;have HL:=hid hl1;have HGl:=hid hg;clear hr1 hs1 hb1 hz1 pW hBd hKp hk hki hnd jX nX hm hsv hrg1 hl1 hku hlen hg hgl;go_wp2_with fail
       have h3:=HBd.out;rw[HSV.out] at h3;obtain⟨h4,h5⟩:=Bd.YR (k:=k) (i:=(j:Int)) (ru':=wV u.ru (dn++[(k:Int)]) j) h3 (LD _ _ _ _);rw[←HSV.out] at h4;have hl4:Below w.heap.size W1 (W1.setCell ⟨g,k,none⟩ (.int .i64 j)):=(Below.refl _ W1).setCell (p:=⟨g,k,none⟩) HGl.out _;have Ls:=HRg.out.aY h5;exact⟨⟨dn++[(k:Int)],Ls.1,h4,HKp.out.trans (Kp.oW hl4 h5 (.inr (.inr (.inl rfl))))⟩,by rw[Ls.2];exact HL.out⟩
    ·have hj1:¬(j:Int)<(n:Int):=by omega
     obtain rfl:j=n:=by omega
     obtain⟨s,hs⟩:∃ s,s=nM rs j:=⟨_,rfl⟩;have YU:uS rs=s:=(by rw[hs,HN.out];rfl);obtain⟨h2,h3⟩:=DC HOK.out (by have:=HN.out;omega) j (by have:=HN.out;omega);rw[←hs] at h2 h3;have hB1:=hB.out;rw[←hs] at hB1;obtain⟨cv,rv,sv,ms,hBd⟩:=hB1.bd;have hB2:Bq w s A Bb cv rv sv ms 0 (.slice none 0 0) wr:=⟨hB1.xa,hBd.low,hBd.box,⟨[],rfl,⟨rfl, .inl ⟨rfl,rfl⟩⟩,fun i l h=>absurd h (Nat.not_lt_zero _)⟩,hBd.c,hBd.r,hBd.sw,hBd.set,hB1.lo⟩;have hn1:=hBd.n1;have hn2:=hBd.n2;have hn3:=hBd.n3;obtain⟨g,cap,rfl⟩:∃ g cap,sv = .slice (some ⟨g,0,none⟩) ms.length cap:=by
      rcases hBd.sw.2 with ⟨_,h0⟩ | ⟨g,cap,cur,e,_⟩
      ·have:=h2.one;omega
      ·exact⟨g,cap,e⟩
     obtain⟨m,hm⟩:∃ m,m=ms.length:=⟨_,rfl⟩;have hq:wr.cell? ⟨Bb,3,none⟩=some (.slice (some ⟨g,0,none⟩) m cap):=(by rw[hm];exact hBd.box.cell 3);have HB2:=hid hB2;have SC:=hid YU;have HOk:=hid h2;have HN1:=hid hn1;have HN2:=hid hn2;have HN3:=hid hn3;have HM:=hid hm;have adK:(m:Int)≤100000:=(by omega);clear hs YU h2 h3 hB1 hB hBd hB2 hn1 hn2 hn3
     by_cases hbig:1024<(m:Int)
     ·have xA:=HB2.out.xa
      go_wp2_with ((with_reducible refine dP ?_);refine AX.au (vs:=[.slice none 0 0, .slice none 0 0, .slice none 0 0]) rfl rfl Sr xA rfl rfl ?_;rintro W9 g3 g4 g5)
      have x9:Bx W9 A 74 #[.slice none 0 0, .slice none 0 0, .slice none 0 0]:=g3;have d0:W9.cell? ⟨A,0,none⟩=some (.slice none 0 0):=x9.cell 0;have d1:W9.cell? ⟨A,1,none⟩=some (.slice none 0 0):=x9.cell 1;have d2:W9.cell? ⟨A,2,none⟩=some (.slice none 0 0):=x9.cell 2;have hl9:Below w.heap.size wr W9:=AX.aj (Nat.le_of_eq HA.out.symm) (.inl x9.lt) g4 g5;exact bodyPost_ret (v := .tuple #[.agg #[.slice none 0 0, .slice none 0 0, .slice none 0 0], .int .i64 10]) (by simp[results,Tryz.results30,go_sem,d0,d1,d2]) rfl ⟨HB2.out.lo.trans hl9, .inl ⟨by rw[SC.out,←HN1.out,←HM.out];omega,rfl⟩⟩
     ·go_upto_region 27 with fail
      clear hq;rw[←HM.out] at HB2;go_loopw [102] (fun i wq=>∃(k:Nat)(nv:Value),i = .int .i64 k∧k≤m∧Hid (Bq w s A Bb cv rv (.slice (some ⟨g,0,none⟩) m cap) ms k nv wq)) (fun i _=>m-(intOf i).toNat)
      case atStart=>exact⟨0,_,rfl,Nat.zero_le _,HB2⟩
      case round =>
       obtain⟨k,nv,rfl,hk,hB⟩:=hrel;have hk0:(0:Int)≤(k:Int):=by omega
       by_cases hkl:k<m
       ·have hk1:(k:Int)<(m:Int):=by omega
        obtain⟨r,hr⟩:∃ r,ms[k]?=some r:=⟨_,List.getElem?_eq_getElem (by have:=HM.out;omega)⟩;obtain⟨S,hS⟩:∃ S,s.nx[k]?=some S:=⟨_,List.getElem?_eq_getElem (by have:=HN2.out;have:=HN1.out;have:=HM.out;omega)⟩;have hin:=HOk.out.up S (List.mem_of_getElem? hS);have hcell:wr.cell? ⟨g,k,none⟩=some (.map (some r)):=by
         have hsw:=hB.out.sw;rw[HM.out] at hsw;rw[World.ownsRow.cellAt hsw k (by have:=HM.out;omega),List.getElem?_map,hr];rfl
        go_upto_region 29 with fail
        have hbd:=(Below.refl wr.heap.size wr).drew;have hB2:=hB.out.low hbd;obtain⟨Wd,hWd⟩:∃ Wd,Wd=wr.drew:=⟨_,rfl⟩;rw[←hWd] at hB2;obtain⟨C,hCi,hCo⟩:∃ C:World→Prop,(∀ W,C W→Bx W Bb 110 #[cv,nv,rv, .slice (some ⟨g,0,none⟩) m cap])∧∀ W,Bx W Bb 110 #[cv,nv,rv, .slice (some ⟨g,0,none⟩) m cap]→C W:=⟨_,fun _ h=>h,fun _ h=>h⟩;have hC0:C wr.drew:=hCo _ (hWd ▸ hB2.box);haveI:Inhabited (AX.CW C):=⟨⟨_,hC0⟩⟩;haveI:Inhabited (AX.CW fun _=>True):=⟨⟨w,trivial⟩⟩;have a1:∀ p:AX.CW C,p.W.cell? ⟨Bb,1,none⟩=some nv:=fun p=>(hCi _ p.h).cell 1;have adL:nv.oneCell'=true:=(by obtain⟨vals,_,h2,_⟩:=hB.out.nv;exact nZ h2);refine AX.dH (C:=fun W=>∃ p:AX.CW C,W=p.W) (CT:=fun W=>∃ p:AX.CW fun _=>True,W=p.W) 14 BH _ (by kernel_rfl) (by kernel_rfl) rfl (by kernel_rfl) (by decide) (by kernel_rfl) (by kernel_rfl) (by intro c a d v w h;cases d<;>exact h) ⟨⟨⟨_,trivial⟩,rfl⟩,⟨⟨_,hC0⟩,rfl⟩⟩ ?_;unfold BH;rw[←hWd];have HB3:=hid hB2;have HIn:=hid hin;have HSS:=hid hS;have HRR:=hid hr;clear hWd hB hbd hC0 hB2 hin hS hr hcell
        repeat (refine AX.bT _ (by rfl) ?_;go_big_quiet_step (fail);refine wpQuiet_nil ?_)
        refine AX.eF (Fg r Wd) (by rfl) (by rfl) (by rfl) Tryz.func60 (by kernel_rfl) (by rfl) (by simp only[List.map_toArray,List.map_cons,List.map_nil];rfl) ?_;rintro e W1 ⟨rfl,hW1⟩;have hb1:Below Wd.heap.size Wd W1:=(by rw[hW1];exact (Below.refl _ Wd).alloc Nat.le.refl _);have yD:Bx W1 Wd.heap.size 112 #[.map (some r)]:=(by rw[hW1];exact Bx.new Wd 112 _);have hB4:=HB3.out.low hb1;obtain⟨ks,hM,hks⟩:=hB4.set k r S HRR.out HSS.out;have hperm:ks.Perm S:=(List.perm_ext_iff_of_nodup hM.nodup (HIn.out.s.imp fun h e=>by omega)).2 hks;have hS1:∀ x∈S,0≤x∧x<100000:=fun x hx=>by have:=HIn.out.i x hx;have:=HN1.out;have:=HM.out;omega
        have YV:=yE (W:=W1) (Bm:=Wd.heap.size) hM.hat hperm HIn.out.s hS1 (RQ HIn.out.s (n:=100000) hS1) yD.lt (yD.cell 0);have HB4:=hid hB4;clear hW1 hb1 yD hM hks hperm hS1 hB4;refine⟨_,rfl,⟨⟨⟨W1,trivial⟩,rfl⟩,fun _=>⟨⟨W1,hCo _ HB4.out.box⟩,rfl⟩⟩,?_⟩;simp only[show Nat.beq 7 14=false from rfl,Bool.or_self,Act.put,List.setIfInBounds_toArray,List.set_cons_succ,List.set_cons_zero];refine AX.eF YV (by rfl) (by rfl) (by rfl) Tryz.func59 (by kernel_rfl) (by rfl) (by simp only[List.map_toArray,List.map_cons,List.map_nil];rfl) ?_;rintro e W2 ⟨v,rfl,hown,hb2⟩;have hB5:=HB4.out.low hb2;have hv:=jm hown HB4.out.lo.size;obtain⟨va,vc,rfl⟩:=aQ hv;refine⟨_,rfl,⟨⟨⟨W2,trivial⟩,rfl⟩,fun _=>⟨⟨W2,hCo _ hB5.box⟩,rfl⟩⟩,?_⟩;have HB5:=hid hB5;have HV:=hid hv;clear hb2 YV hown hB5 hv HB4;simp only[show Nat.beq 8 14=false from rfl,Bool.or_self,Act.put,List.setIfInBounds_toArray,List.set_cons_succ,List.set_cons_zero];refine AX.aW _ (by rfl) (by rfl) ?_;unfold Oper.wp;go_simp
        have hb3:=(Below.refl W2.heap.size W2).alloc Nat.le.refl (.cells #[.slice va S.length vc] 25);have hB6:=HB5.out.low hb3;have hv6:=bG HV.out hb3;have wS:=Bx.new W2 25 #[.slice va S.length vc];obtain⟨B3,hB3⟩:∃ B3,B3=W2.heap.size:=⟨_,rfl⟩;obtain⟨W3,hW3⟩:∃ W3,W3=W2.alloc (.cells #[.slice va S.length vc] 25):=⟨_,rfl⟩;rw[←hW3] at hB6 hv6 wS ⊢;rw[←hB3] at wS ⊢;refine⟨⟨⟨⟨W3,trivial⟩,rfl⟩,fun _=>⟨⟨W3,hCo _ hB6.box⟩,rfl⟩⟩,?_⟩;obtain⟨vals,hv1,hv2,hv3⟩:=hB6.nv;have hvl:vals.length≤1000000:=(by omega);have abx:=hB6.lo.size;have HB6:=hid hB6;have HV6:=hid hv6;have HV3:=hid hv3;have HV1:=hid hv1;have HV2:=hid hv2;clear hb3 hB3 hW3 hB6 hv6 hv3 hv1;refine AX.aW _ (by rfl) (by rfl) ?_;refine Iy w.heap.size nv vals (.slice va S.length vc) _ _ rfl rfl hv2 B3 1 rfl wS rfl hvl abx ?_;intro nv' W4 ho hg;have yF:Bx W4 Bb 110 #[cv,nv,rv, .slice (some ⟨g,0,none⟩) m cap]:=HB6.out.box.aY (aZ HV2.out hg) (by decide);have hn1:=nZ ho;refine⟨⟨⟨⟨W4,trivial⟩,rfl⟩,fun _=>⟨⟨W4,hCo _ yF⟩,rfl⟩⟩,?_⟩;have HHo:=hid ho;have HHg:=hid hg;clear ho hg hv2 wS;simp only[show Nat.beq 10 14=false from rfl,show Nat.beq 9 14=false from rfl,Bool.or_self,Act.put,List.setIfInBounds_toArray,List.set_cons_succ,List.set_cons_zero]
        repeat (refine AX.dS _ (by rfl) ?_;go_big_quiet_step (fail);refine wpQuiet_nil ?_)
        refine AX.bT _ (by rfl) ?_;go_big_quiet_step (fail)
        refine wpQuiet_nil ?_;refine AX.aW _ (by rfl) (by rfl) ?_;refine AX.aI (o:=1) (v:=nv') rfl rfl hn1 aby yF (show 1<4 by decide) ?_;rintro W5 g3 g4 g5;have x5:Bx W5 Bb 110 #[cv,nv',rv, .slice (some ⟨g,0,none⟩) m cap]:=g3;have hB7:=HB6.out.put HSS.out HV6.out HV1.out HV2.out HV3.out HHo.out HHg.out x5 g4 g5;refine⟨⟨⟨⟨W5,trivial⟩,rfl⟩,fun h=>by cases h⟩,?_⟩;have HB7:=hid hB7;clear g3 g4 g5 x5 hB7 yF hn1 a1;unfold AX.bD;go_wp2_with fail
        exact⟨⟨k+1,nv',by simp,by omega,HB7⟩,by simp[intOf];omega⟩
       ·have hk1:¬(k:Int)<(m:Int):=by omega
        obtain rfl:k=m:=by omega
        have c1:=nZ hB.out.c;have c3:=nZ hB.out.r;have c2:nv.oneCell'=true:=(by obtain⟨vals,_,h2,_⟩:=hB.out.nv;exact nZ h2);have b0:wr.cell? ⟨Bb,0,none⟩=some cv:=hB.out.box.cell 0;have b1:wr.cell? ⟨Bb,1,none⟩=some nv:=hB.out.box.cell 1;have b2:wr.cell? ⟨Bb,2,none⟩=some rv:=hB.out.box.cell 2;have xA:=hB.out.xa;go_wp2_with ((with_reducible refine dP ?_);refine AX.au (vs:=[cv,nv,rv]) rfl rfl Sr xA rfl (by simp[c1,c2,c3]) ?_;rintro W9 g3 g4 g5)
        have x9:Bx W9 A 74 #[cv,nv,rv]:=g3;have d0:W9.cell? ⟨A,0,none⟩=some cv:=x9.cell 0;have d1:W9.cell? ⟨A,1,none⟩=some nv:=x9.cell 1;have d2:W9.cell? ⟨A,2,none⟩=some rv:=x9.cell 2;have hl9:Below w.heap.size wr W9:=AX.aj (Nat.le_of_eq HA.out.symm) (.inl x9.lt) g4 g5;have hs9:dQ 74 wr W9:=aT xA g4;obtain⟨ac,an,ar,cc,cn,cr,e1,e2,e3,hnf⟩:=hB.out.abz hs9 (by rw[HN2.out,←HN1.out];exact HM.out) HN2.out HN3.out;exact bodyPost_ret (v := .tuple #[.agg #[cv,nv,rv], .int .i64 0]) (by simp[results,Tryz.results30,go_sem,d0,d1,d2]) rfl ⟨hB.out.lo.trans hl9, .inr ⟨by rw[SC.out,←HN1.out,←HM.out];omega,ac,an,ar,cc,cn,cr,by rw[SC.out,e1,e2,e3];rfl,by rw[SC.out];exact hnf⟩⟩
end
end Go.Proofs.YtkjgogdkdejljaaGreatDoor.Df
