import Derived.Test.YtkjgogdkdejljaaGreatDoorDfH2a
set_option maxRecDepth 100000
set_option maxHeartbeats 40000000
namespace Go.Proofs.YtkjgogdkdejljaaGreatDoor.Df
section
open Lx (Tk Fits bP tokF dw dD dJ kZ eH kE)
section
variable {next rule kind : List Int} {kinds : Int}
theorem Xj(H:Fits next rule kind kinds)(A t:List Nat)(hA:∀ b∈A,b<256)(ht:∀ b∈t,b<256):∀ (m i:Nat),t.length-i≤m→i≤t.length→dD next rule kind (A++t) (A.length+i)=(dD next rule kind t i).map (shT A.length):=by
 have hAt:∀ b∈A++t,b<256:=fun b hb=>by
  rcases List.mem_append.1 hb with h | h
  ·exact hA b h
  ·exact ht b h
 have key:∀ i,i≤t.length→(t.length-i=0→(dw next rule kind t i).k = -2):=fun i hi h0=>by
  refine Classical.byContradiction fun hk=>?_;have h:=kQ H ht hi;have:=h.ne hk;have:=h.a;have:=h.nn;omega
 intro m
 induction m with
 | zero =>
  intro i hm hi;rw[eH H ht hi,eH H hAt (by rw[List.length_append];omega),DY H A t ht i hi,if_pos (key i hi (by omega)),if_pos (show(shT A.length (dw next rule kind t i)).k = -2 from key i hi (by omega))];rfl
 | succ m ih =>
  intro i hm hi;rw[eH H ht hi,eH H hAt (by rw[List.length_append];omega),DY H A t ht i hi];have h:=kQ H ht hi;generalize dw next rule kind t i=x at h ⊢
  by_cases hk:x.k = -2
  ·rw[if_pos hk,if_pos (show(shT A.length x).k = -2 from hk)]
   rfl
  ·rw[if_neg hk,if_neg (show ¬(shT A.length x).k = -2 from hk)]
   have:=h.ne hk;have:=h.a;have:=h.nn
   show shT A.length x::dD next rule kind (A++t) (A.length+x.t)=_
   rw[ih x.t (by omega) h.nn];rfl
theorem Px(H:Fits next rule kind kinds)(t:List Nat)(ht:∀ b∈t,b<256)(by_:Nat)(hb:by_≤t.length):(dD next rule kind (t.drop by_) 0).map (shT by_)=dD next rule kind t by_:=by
 have h:=Xj H (t.take by_) (t.drop by_) (fun b hb=>ht b (List.mem_of_mem_take hb)) (fun b hb=>ht b (List.mem_of_mem_drop hb)) _ 0 Nat.le.refl (Nat.zero_le _);rw[List.take_append_drop,List.length_take,Nat.min_eq_left hb,Nat.add_zero] at h;exact h.symm
end
theorem L8(e:Nat):∀ (l:List Lx.Tk),e≤Lx.nT l e:=by
 intro l;unfold Lx.nT
 induction l generalizing e with
 | nil=>exact Nat.le_refl _
 | cons x l ih=>rw[List.foldl_cons];exact Nat.le_trans (Nat.le_max_left ..) (ih _)
theorem Py(R:List Lx.Tk)(i a b:Nat):Lx.nT (R.take a) i≤Lx.nT (R.take (a+b)) i:=by
 have e:R.take (a+b)=R.take a++(R.drop a).take b:=List.take_add ..;rw[e];generalize R.take a=A
 show _≤(A++(R.drop a).take b).foldl _ i
 rw[List.foldl_append];exact L8 _ _
theorem Cc(l:List Nat):(Lx.lT l).size=l.length:=by
 show ((l.map UInt8.ofNat).toArray).size=_
 rw[List.size_toArray,List.length_map]
theorem Pz(l:List Nat)(n:Nat):(Lx.lT l).extract 0 n=Lx.lT (l.take n):=by
 refine ByteArray.ext ?_;rw[ByteArray.data_extract];refine Array.toList_inj.1 ?_;rw[Array.toList_extract,List.extract_eq_take_drop]
 show List.take (n-0) (List.drop 0 (l.map UInt8.ofNat))=(l.take n).map UInt8.ofNat
 simp[List.map_take]
theorem PD(R:List Lx.Tk)(a b:Nat):(Lx.lT ((R.take a).map Lx.byt)).size≤(Lx.lT ((R.take (a+b)).map Lx.byt)).size ∧
  (Lx.lT ((R.take (a+b)).map Lx.byt)).extract 0 (Lx.lT ((R.take a).map Lx.byt)).size=Lx.lT ((R.take a).map Lx.byt):=by
 rw[Cc,Cc,Pz];simp only[List.length_map,List.length_take];refine⟨by omega,?_⟩;rw[←List.map_take,List.take_take]
 congr 2
 by_cases h:a≤R.length
 ·congr 1;omega
 ·rw[List.take_of_length_le (by omega),List.take_of_length_le (by omega)]
end
section
open Go Go.Proofs Go.RowKit
attribute [local go_sem] Oper.semAt_some
def qy(x:Lx.Tk):Nat→Value
 | 0 => .int .i64 x.k
 | 1 => .int .i64 x.f
 | 2 => .int .i64 x.a
 | 3 => .int .i64 x.t
 | _ => .int .i64 x.e
structure qg(W:World)(g o:Nat)(L:List Lx.Tk):Prop where
 lt:g<W.heap.size
 at_:∀ i x,L[i]?=some x→∀ j,j<5→W.cell? ⟨g,o+i*5+j,none⟩=some (qy x j)
theorem qg.below{W W':World}{g o n:Nat}{L:List Lx.Tk}(h:qg W g o L)(hb:Below n W W')(hg:g<n):qg W' g o L :=
 ⟨Nat.lt_of_lt_of_le h.lt hb.size,fun i x hx j hj=>(hb.cell (p:=⟨g,o+i*5+j,none⟩) hg).trans (h.at_ i x hx j hj)⟩
theorem qg.drop{W:World}{g o:Nat}{L:List Lx.Tk}(h:qg W g o L)(q:Nat):qg W g (o+q*5) (L.drop q) :=
 ⟨h.lt,fun i x hx j hj=>by
  rw[List.getElem?_drop] at hx;have:=h.at_ (q+i) x hx j hj
  rwa [show o+(q+i)*5+j=o+q*5+i*5+j by omega] at this⟩
theorem qg.D5{W:World}{base g n c:Nat}{L:List Lx.Tk}(h:W.ownsRow base 42 5 (.slice (some ⟨g,0,none⟩) n c) n (L.flatMap Lx.jJ)):qg W g 0 L :=
  ⟨(h.lt g rfl).2,fun i x hx j hj=>by
    obtain⟨hi,rfl⟩:=List.getElem?_eq_some_iff.1 hx;obtain⟨h0,h1,h2,h3,h4⟩:=Lx.lS h hi;rw[Nat.zero_add]
    match j,hj with
    | 0,_=>exact h0
    | 1,_=>exact h1
    | 2,_=>exact h2
    | 3,_=>exact h3
    | 4,_=>exact h4⟩
theorem FY(l:List Lx.Tk)(hl:l.length≤1000000)(w:World)(ga oa gb ob ca cb:Nat)(hA:qg w ga oa l)(hB:qg w gb ob l) :
  Calls Tryz.prog 26 #[.slice (some ⟨ga,oa,none⟩) l.length ca, .slice (some ⟨gb,ob,none⟩) l.length cb] w fun e w'=>e = .returned (.bool true)∧Below w.heap.size w w':=by
 have hga:=hA.lt;have hgb:=hB.lt;have hcA:=hA.at_;have hcB:=hB.at_;clear hA hB;go_enter Tryz.func26,Tryz.ntmps26
 go_wp2
 obtain⟨wo,rfl⟩:∃ wo:World,wo=w:=⟨_,rfl⟩;go_loopw [5] (fun vi wr=>∃ i:Nat,vi = .int .i64 i∧i≤l.length∧Below wo.heap.size wo wr) (fun vi _=>l.length-(intOf vi).toNat)
 case atStart=>exact⟨0,rfl,Nat.zero_le _,Below.refl _ _⟩
 case round =>
  obtain⟨i,rfl,hi,hb⟩:=hrel;rcases Nat.lt_or_eq_of_le hi with hlt | rfl
  ·have hx:=List.getElem?_eq_getElem hlt
   have a0:=(hb.cell (p:=⟨ga,oa+i*5+0,none⟩) hga).trans (hcA i _ hx 0 (by decide));have a1:=(hb.cell (p:=⟨ga,oa+i*5+1,none⟩) hga).trans (hcA i _ hx 1 (by decide));have a2:=(hb.cell (p:=⟨ga,oa+i*5+2,none⟩) hga).trans (hcA i _ hx 2 (by decide));have a3:=(hb.cell (p:=⟨ga,oa+i*5+3,none⟩) hga).trans (hcA i _ hx 3 (by decide));have a4:=(hb.cell (p:=⟨ga,oa+i*5+4,none⟩) hga).trans (hcA i _ hx 4 (by decide));have b0:=(hb.cell (p:=⟨gb,ob+i*5+0,none⟩) hgb).trans (hcB i _ hx 0 (by decide));have b1:=(hb.cell (p:=⟨gb,ob+i*5+1,none⟩) hgb).trans (hcB i _ hx 1 (by decide));have b2:=(hb.cell (p:=⟨gb,ob+i*5+2,none⟩) hgb).trans (hcB i _ hx 2 (by decide));have b3:=(hb.cell (p:=⟨gb,ob+i*5+3,none⟩) hgb).trans (hcB i _ hx 3 (by decide));have b4:=(hb.cell (p:=⟨gb,ob+i*5+4,none⟩) hgb).trans (hcB i _ hx 4 (by decide));simp only[Nat.add_zero,qy] at a0 a1 a2 a3 a4 b0 b1 b2 b3 b4;clear hx;generalize l[i]=t at *;have i0:(0:Int)≤(i:Int):=(by omega);have i1:(i:Int)<(l.length:Int):=(by omega);clear hcA hcB;go_wp2
   go_region
   have hbd:=hb.drew;generalize wr.drew=W2 at *;clear a0 a1 a2 a3 a4 b0 b1 b2 b3 b4;go_wp2
   go_roundw
   case rel=>exact⟨i+1,by go_num,by omega,hbd⟩
   case measure=>simp[intOf];omega
  ·clear hcA hcB
   go_wp2
   exact bodyPost_ret (v := .bool true) (by simp[results,Tryz.results26,go_sem]) rfl ⟨rfl,hb⟩
def MSt(W:World)(g k n:Nat)(M:List Lx.Tk):Prop:=∃ cs:Array Value,W.heap[g]?=some (.cells cs 42 (0,0))∧∀ i x,M[i]?=some x→∀ j,j<5→cs[i*5+j]?=some (qy (if i<k then shT n x else x) j)
theorem MSt.D5{W:World}{base g m c n:Nat}{L:List Lx.Tk}(h:W.ownsRow base 42 5 (.slice (some ⟨g,0,none⟩) m c) m (L.flatMap Lx.jJ)):MSt W g 0 n L:=by
 have hc:=(qg.D5 h).at_;rcases h.2 with ⟨h1,_⟩ | ⟨g',cap,cur,h1,_,h2,_⟩
 ·cases h1
 ·cases h1
  refine⟨cur,h2,fun i x hx j hj=>?_⟩;have:=hc i x hx j hj;rw[Nat.zero_add] at this;rw[if_neg (Nat.not_lt_zero _),←this];simp[World.cell?,h2]
theorem MSt.done{W:World}{g k n:Nat}{M:List Lx.Tk}(h:MSt W g k n M)(hk:M.length≤k):qg W g 0 (M.map (shT n)):=by
 obtain⟨cs,h1,h2⟩:=h;refine⟨(Array.getElem?_eq_some_iff.1 h1).1,fun i x hx j hj=>?_⟩;rw[List.getElem?_map] at hx;obtain⟨y,hy,rfl⟩:=Option.map_eq_some_iff.1 hx;have:=h2 i y hy j hj;have hi:=(List.getElem?_eq_some_iff.1 hy).1;rw[if_pos (by omega)] at this;rw[Nat.zero_add,←this];simp[World.cell?,h1]
theorem MSt.next{cs:Array Value}{k n:Nat}{M:List Lx.Tk}{x:Lx.Tk}(h2:∀ i x,M[i]?=some x→∀ j,j<5→cs[i*5+j]?=some (qy (if i<k then shT n x else x) j))(hx:M[k]?=some x) :
  ∀ i y,M[i]?=some y→∀ j,j<5→((((cs.setIfInBounds (k*5+1) (.int .i64 ((x.f:Int)+(n:Int)))).setIfInBounds (k*5+2) (.int .i64 ((x.a:Int)+(n:Int)))).setIfInBounds (k*5+3) (.int .i64 ((x.t:Int)+(n:Int)))).setIfInBounds (k*5+4) (.int .i64 ((x.e:Int)+(n:Int))))[i*5+j]?=some (qy (if i<k+1 then shT n y else y) j):=by
 intro i y hy j hj;have hz:∀ j,j<5→k*5+j<cs.size:=fun j hj=>(Array.getElem?_eq_some_iff.1 (h2 k x hx j hj)).1
 by_cases hik:i=k
 ·subst hik
  obtain rfl:x=y:=by rw[hx] at hy;exact Option.some.inj hy
  rw[if_pos (Nat.lt_succ_self _)];have g0:=h2 i x hx 0 (by decide);rw[if_neg (Nat.lt_irrefl _)] at g0;have e1:=hz 1 (by decide);have e2:=hz 2 (by decide);have e3:=hz 3 (by decide);have e4:=hz 4 (by decide)
  match j,hj with
  | 0,_ =>
   rw[Array.getElem?_setIfInBounds_ne (by omega),Array.getElem?_setIfInBounds_ne (by omega),Array.getElem?_setIfInBounds_ne (by omega),Array.getElem?_setIfInBounds_ne (by omega),g0];rfl
  | 1,_ =>
   rw[Array.getElem?_setIfInBounds_ne (by omega),Array.getElem?_setIfInBounds_ne (by omega),Array.getElem?_setIfInBounds_ne (by omega),Array.getElem?_setIfInBounds_self_of_lt (by omega)];simp[qy,shT,Int.add_comm]
  | 2,_ =>
   rw[Array.getElem?_setIfInBounds_ne (by omega),Array.getElem?_setIfInBounds_ne (by omega),Array.getElem?_setIfInBounds_self_of_lt (by simp;omega)];simp[qy,shT,Int.add_comm]
  | 3,_ =>
   rw[Array.getElem?_setIfInBounds_ne (by omega),Array.getElem?_setIfInBounds_self_of_lt (by simp;omega)];simp[qy,shT,Int.add_comm]
  | 4,_ =>
   rw[Array.getElem?_setIfInBounds_self_of_lt (by simp;omega)];simp[qy,shT,Int.add_comm]
 ·have:=h2 i y hy j hj
  rw[Array.getElem?_setIfInBounds_ne (by omega),Array.getElem?_setIfInBounds_ne (by omega),Array.getElem?_setIfInBounds_ne (by omega),Array.getElem?_setIfInBounds_ne (by omega),this]
  by_cases h:i<k
  ·rw[if_pos h,if_pos (by omega)]
  ·rw[if_neg h,if_neg (by omega)]
end
section
open Go.Lib (hid)
open Go Go.Proofs Go.RowKit
attribute [local go_sem] Oper.semAt_some
def Kr:List (Nat×Bool):=[(0,false),(1,false),(2,false),(3,false),(4,true),(5,false),(6,false),(7,false),(8,false),(9,false)]
def FZ:List (Nat×Nat):=(0,1)::(1,1)::(2,1)::(3,1)::(4,1)::(5,1)::(6,1)::(7,1)::(8,1)::(9,1)::(10,1)::(11,1)::(12,0)::(13,1)::(14,1)::(15,1)::(16,1)::(17,1)::(18,1)::(19,0)::(20,1)::(21,1)::(22,1)::(23,1)::(24,1)::(25,1)::(26,0)::(27,1)::(28,1)::(29,1)::(30,1)::(31,1)::(32,1)::(33,0)::(34,1)::(35,1)::(36,1)::(37,1)::(38,2)::(39,1)::(40,1)::(41,2)::(42,1)::(43,1)::(44,2)::(45,1)::(46,1)::(47,2)::[]
theorem TG(s:ByteArray)(n:Nat):Lx.sb (s.extract n s.size)=(Lx.sb s).drop n:=by
 unfold Lx.sb;rw[ByteArray.data_extract,Array.toList_extract,List.extract_eq_take_drop,List.map_take,List.map_drop];refine List.take_of_length_le ?_;rw[List.length_drop,List.length_map,Array.length_toList];exact Nat.le_refl _
theorem TI{W:World}{base:Nat}{e:TypeId}{k g:Nat}{n m c:Nat}{xs:List Value}(h:W.ownsRow base e k (.slice (some ⟨g,0,none⟩) m c) n xs):n≤c:=by
 rcases h.2 with ⟨h1,_⟩ | ⟨g',cap,cur,h1,_,_,h4,_⟩
 ·cases h1
 ·cases h1
  exact h4
theorem ab7(R:List Rl)(hl:R.length≤9223372036854775807)(la:Option Addr)(c:Nat)(s:ByteArray)(which k more:Int)(w:World)(hp:0<w.heap.size)(hT:TabAt w)(hR:uZ w la R) :
  Calls Tryz.prog 8 #[.slice la R.length c, .string s, .int .i64 which, .int .i64 k, .int .i64 more] w fun e w'=>e = .returned (.bool true)∧Below w.heap.size w w':=by
 have hlv:=FD w hp hT;have hlg:=fun(W:World)(hb:Below w.heap.size w W)=>BZ R hl la c W (hR.below hb Nat.le.refl);have hbu:=fun(hlt:kF R=true)(W:World)(hb:Below w.heap.size w W)=>O9 R hlt la c W (Nat.lt_of_lt_of_le hp hb.size) (hT.below hb hp) (hR.below hb Nat.le.refl);unfold DX at hbu;obtain⟨lt,hlt⟩:∃ lt,lt=kF R:=⟨_,rfl⟩;rw[←hlt] at hlg hbu;obtain⟨n,hn⟩:∃ n,n=R.length:=⟨_,rfl⟩;rw[←hn] at hlg hbu ⊢;clear hlt hn hR hT hl
 cases lt with
 | false =>
  clear hbu;go_enter Tryz.func8,Tryz.ntmps8
  go_wp2_with (first
   | (go_at_call 9;((with_reducible refine hlv.mono ?_);rintro e W1 ⟨rfl,hb1⟩))
   | (go_at_call 10;((with_reducible refine(hlg _ hb1).mono ?_);rintro e W2 ⟨rfl,rfl⟩)))
  exact bodyPost_ret (v := .bool true) (by simp[results,Tryz.results8,go_sem]) rfl ⟨rfl,hb1⟩
 | true =>
  replace hbu:=hbu rfl
  by_cases hs:(60:Int)<(s.size:Int)
  ·clear hbu
   go_enter Tryz.func8,Tryz.ntmps8
   go_wp2_with (first
    | (go_at_call 9;((with_reducible refine hlv.mono ?_);rintro e W1 ⟨rfl,hb1⟩))
    | (go_at_call 10;((with_reducible refine(hlg _ hb1).mono ?_);rintro e W2 ⟨rfl,rfl⟩)))
   exact bodyPost_ret (v := .bool true) (by simp[results,Tryz.results8,go_sem]) rfl ⟨rfl,hb1⟩
  go_enter Tryz.func8,Tryz.ntmps8
  go_upto_region 6 with (first
   | (go_at_call 9;((with_reducible refine hlv.mono ?_);rintro e W1 ⟨rfl,hb1⟩))
   | (go_at_call 10;((with_reducible refine(hlg _ hb1).mono ?_);rintro e W2 ⟨rfl,rfl⟩))
   | (go_at_call 11;((with_reducible refine(hbu _ hb1).mono ?_);rintro e W3 ⟨v0,v1,v2,v3,at_,er,rfl,hone,hb3,hcase⟩;have xN:=Bx.new W3 29 #[.slice none 0 0, .slice none 0 0, .slice none 0 0, .int .i64 0]))
   | ((with_reducible refine bZ ?_);refine AX.au (vs:=[v0,v1,v2,v3]) rfl rfl DJ xN rfl hone ?_;rintro W4 g3 g4 g5))
  have x4:Bx W4 W3.heap.size 29 #[v0,v1,v2,v3]:=g3;have nS:Below W3.heap.size W3 W4:=((Below.refl W3.heap.size W3).alloc Nat.le.refl _).trans (AX.aj Nat.le.refl (.inl x4.lt) g4 g5);obtain⟨NB,hNB⟩:∃ NB,NB=W3.heap.size:=⟨_,rfl⟩;rw[←hNB] at x4 ⊢;have HB4:Hid (Below w.heap.size w W4):=hid ((hb1.trans (hb3.mono hb1.size)).trans (nS.mono (Nat.le_trans hb1.size hb3.size)));rcases hcase with her | ⟨rfl,next,rule,kind,kinds,an,ar,ak,cn,cr,ck,hok,hn1,hr1,hk1,rfl,rfl,rfl,rfl,hN,hRu,hK⟩
  ·have hd:decide (er=0)=false:=decide_eq_false her
   clear hb1 hb3 nS g3 g4 g5 xN hNB hbu hlg hlv x4;go_wp2_with fail
   exact bodyPost_ret (v := .bool true) (by simp[results,Tryz.results8,go_sem]) rfl ⟨rfl,HB4.out⟩
  have hN4:=hN.below nS Nat.le.refl;have hR4:=hRu.below nS Nat.le.refl;have hK4:=hK.below nS Nat.le.refl;have ab1:s.size≤60:=by omega
  have hall:=Lx.all_in (w:=W4) (cn:=cn) (cr:=cr) (ck:=ck) hn1 hr1 hk1 hN4 hR4 hK4 s (by omega) hok;have hfit:=Lx.mJ hok;have hbt:=Lx.kR s;have hsl:(Lx.sb s).length=s.size:=Lx.bW s;have htl:=vG hfit hbt _ 0 Nat.le.refl (Nat.zero_le _);have hrl:=Lx.lQ hfit hbt _ 0 Nat.le.refl (Nat.zero_le _);obtain⟨T,hT⟩:∃ T,T=Lx.dD next rule kind (Lx.sb s) 0:=⟨_,rfl⟩
  have hmm:∀(q:Nat)(x:Lx.Tk),T[q]?=some x→x.f≤s.size∧T.drop q=Lx.dD next rule kind (Lx.sb s) x.f∧(Lx.dD next rule kind (Lx.sb (s.extract x.f s.size)) 0).map (shT x.f)=T.drop q:=fun q x hx=>by
   obtain⟨hf,hd⟩:=row_drop hfit hbt q 0 (Nat.zero_le _) x (by rw[←hT];exact hx);rw[hsl] at hf;rw[←hT] at hd;refine⟨hf,hd,?_⟩;rw[hd,TG,Px hfit _ hbt _ (by rw[hsl];exact hf)]
  have hal2:∀(i0:Nat)(M:List Lx.Tk),Lx.dD next rule kind (Lx.sb (s.extract i0 s.size)) 0=M→∀ W (_:Below W4.heap.size W4 W),Calls Tryz.prog 16 #[Lx.lV an ar ak next.length rule.length kind.length cn cr ck kinds, .string (s.extract i0 s.size)] W fun e w'=>(∃ v,e = .returned (.tuple #[v, .int .i64 0])∧Lx.lg w' W.heap.size v M)∧Below W.heap.size W w' :=
   fun i0 M hM W hb=>hM ▸ Lx.all_in (w:=W) (cn:=cn) (cr:=cr) (ck:=ck) hn1 hr1 hk1 (hN4.below hb Nat.le.refl) (hR4.below hb Nat.le.refl) (hK4.below hb Nat.le.refl) _ (by rw[ByteArray.size_extract];omega) hok
  have htk:∀(i0:Nat)(M:List Lx.Tk),i0≤s.size→Lx.dD next rule kind (Lx.sb s) i0=M→∀ W (_:Below W4.heap.size W4 W),Calls Tryz.prog 25 #[Lx.lV an ar ak next.length rule.length kind.length cn cr ck kinds, .string s, .int .i64 (i0:Int)] W fun e w'=>(∃ v,e = .returned (.tuple #[v, .bool true])∧Lx.lg w' W.heap.size v M)∧Below W.heap.size W w' :=
   fun i0 M hi hM W hb=>hM ▸ Lx.L9 (w:=W) (cn:=cn) (cr:=cr) (ck:=ck) hn1 hr1 hk1 (hN4.below hb Nat.le.refl) (hR4.below hb Nat.le.refl) (hK4.below hb Nat.le.refl) s (by omega) hok i0 hi
  have hwin:∀(i0:Nat)(M:List Lx.Tk),i0≤s.size→Lx.dD next rule kind (Lx.sb s) i0=M→∀ k:Int,0≤k→k≤9→∀ W (_:Below W4.heap.size W4 W),Calls Tryz.prog 24 #[Lx.lV an ar ak next.length rule.length kind.length cn cr ck kinds, .string s, .int .i64 (i0:Int), .int .i64 k] W fun e w'=>e = .returned (Lx.AO M i0 k)∧Below W.heap.size W w':=fun i0 M hi0 hM k hk0 hk9 W hb=>by
   subst hM
   by_cases ab8:k<1
   ·obtain rfl:k=0:=by omega
    exact Lx.Mc hn1 hr1 hk1 (hN4.below hb Nat.le.refl) (hR4.below hb Nat.le.refl) (hK4.below hb Nat.le.refl) s i0 (by omega) hok hi0 0 (by omega)
   ·exact Lx.Md hn1 hr1 hk1 (hN4.below hb Nat.le.refl) (hR4.below hb Nat.le.refl) (hK4.below hb Nat.le.refl) s i0 (by omega) hok hi0 k ab8 hk9
  unfold Lx.lV at hall hal2 htk hwin;rw[←hT] at hall htl hrl;obtain⟨nl,hnl⟩:∃ nl,nl=next.length:=⟨_,rfl⟩
  obtain⟨rl,hrl2⟩:∃ rl,rl=rule.length:=⟨_,rfl⟩;obtain⟨kl,hkl⟩:∃ kl,kl=kind.length:=⟨_,rfl⟩;rw[←hnl,←hrl2,←hkl] at hall hal2 htk hwin x4 ⊢;have HX4:=hid x4;have HFI:=hid hfit;have HBT:=hid hbt;have HT:=hid hT;have HTL:=hid htl;have HRL:=hid hrl;have HSL:=hid hsl;have HMM:=hid hmm;have HA2:=hid hal2;have HTK:=hid htk;have HWI:=hid hwin;have l0:=x4.cell 0;have l1:=x4.cell 1;have l2:=x4.cell 2;have l3:=x4.cell 3;clear hb1 hb3 nS g3 g4 g5 xN hNB hbu hlg hlv x4 hN hRu hK hN4 hR4 hK4 hok hn1 hr1 hk1 hfit hbt hT htl hrl hsl hnl hrl2 hkl hone hmm hal2 htk hwin;go_upto_region 9 with (go_at_call 16;((with_reducible refine hall.mono ?_);rintro e W5 ⟨⟨v,rfl,hv⟩,hb5⟩))
  have Xd:1≤T.length:=HTL.out.pos;obtain⟨g,c5,rfl⟩:=ou hv (by omega);have hc5:T.length≤c5:=TI hv;have hg5:=(World.ownsRow.lt hv g rfl).2;have hcl:∀(i:Nat)(x:Lx.Tk),T[i]?=some x→W5.cell? ⟨g,i*5,none⟩=some (.int .i64 x.k)∧W5.cell? ⟨g,i*5+1,none⟩=some (.int .i64 x.f)∧W5.cell? ⟨g,i*5+2,none⟩=some (.int .i64 x.a)∧W5.cell? ⟨g,i*5+3,none⟩=some (.int .i64 x.t)∧W5.cell? ⟨g,i*5+4,none⟩=some (.int .i64 x.e):=fun i x hx=>by
   obtain⟨hi,rfl⟩:=List.getElem?_eq_some_iff.1 hx;exact Lx.lS hv hi
  have HCL:=hid hcl;obtain⟨tl,htl⟩:∃ tl,tl=T.length:=⟨_,rfl⟩;rw[←htl] at Xd hc5 ⊢;have ab3:tl≤61:=by have:=HRL.out;have:=HSL.out;omega
  have htz:¬(tl:Int)=0:=by omega
  have HTN:=hid htl;clear hv hcl htl hall;go_upto_region 11 with fail
  have hpk:=yZ which tl (by omega) (by omega);unfold yY at hpk;go_upto_region 12 with (go_at_call 19;((with_reducible refine(hpk _).mono ?_);rintro e W6 ⟨q,hq,rfl,rfl⟩;obtain⟨x,hx⟩:∃ x,T[q]?=some x:=⟨_,List.getElem?_eq_getElem (by have:=HTN.out;omega)⟩;obtain⟨e0,e1,e2,e3,e4⟩:=HCL.out q x hx;obtain⟨hxf,hdr,hmp⟩:=HMM.out q x hx;have hq0:(0:Int)≤(q:Int):=(by omega);have hq1:(q:Int)<(tl:Int):=(by omega);obtain⟨by_,hby⟩:∃ n,n=x.f:=⟨_,rfl⟩;rw[←hby] at e1 hxf hdr hmp;clear e0 e2 e3 e4 hx hby))
  go_upto_region 13 with fail
  have n1:¬(by_:Int)<0:=by omega
  have n2:¬(s.size:Int)<(by_:Int):=by omega
  have n3:(by_:Int)≤(s.size:Int):=by omega
  obtain⟨M,hM⟩:∃ M,M=Lx.dD next rule kind (Lx.sb (s.extract by_ s.size)) 0:=⟨_,rfl⟩
  have ha2:=HA2.out by_ M hM.symm;have HYB:Hid (∀ y∈M,y.f≤60∧y.a≤60∧y.t≤60∧y.e≤61):=hid fun y hy=>by
   rw[hM] at hy;obtain⟨j,hj⟩:=List.getElem?_of_mem hy;have hln:(Lx.sb (s.extract by_ s.size)).length≤60:=(by rw[Lx.bW,ByteArray.size_extract];omega);obtain⟨hf,ht⟩:=Kq HFI.out (Lx.kR _) j y hj;have:=kQ HFI.out (Lx.kR (s.extract by_ s.size)) hf;rw[ht] at this;obtain⟨_,_,_,h4,h5,_,h7,_,_⟩:=this;omega
  rw[←hM] at hmp;have hml:M.length=tl-q:=by
   have:=congrArg List.length hmp;rw[List.length_map,List.length_drop,←HTN.out] at this;exact this
  have HMP:=hid hmp;have HDR:=hid hdr;have HML:=hid hml;clear hM hmp hdr hpk hml;go_upto_region 15 with fail
  haveI:Inhabited (AX.BW W6):=⟨⟨W6,Below.refl _ _⟩⟩;have hN6:NB<W6.heap.size:=Nat.lt_of_lt_of_le HX4.out.lt hb5.size;have hx6:=HX4.out.below hb5 HX4.out.lt;have m0:=AX.aF (hx6.cell 0:W6.cell? ⟨NB,0,none⟩=some (.slice an nl cn)) hN6;have m1:=AX.aF (hx6.cell 1:W6.cell? ⟨NB,1,none⟩=some (.slice ar rl cr)) hN6;have m2:=AX.aF (hx6.cell 2:W6.cell? ⟨NB,2,none⟩=some (.slice ak kl ck)) hN6;have m3:=AX.aF (hx6.cell 3:W6.cell? ⟨NB,3,none⟩=some (.int .i64 kinds)) hN6;have hWd:Below W6.heap.size W6 W6.drew:=(Below.refl _ W6).drew;have Zx:Below W4.heap.size W4 W6.drew:=hb5.trans (hWd.mono hb5.size);clear e1 hx6 l0 l1 l2 l3;refine AX.gI (C:=fun W=>∃ p:AX.BW W6,W=p.W) Kr _ (by kernel_rfl) (by kernel_rfl) rfl (by kernel_rfl) (by kernel_rfl) (by intro c a d v w h;cases d<;>exact h) ⟨⟨W6.drew,hWd⟩,rfl⟩ ?_;unfold Kr
  repeat (refine AX.dF _ (by rfl) ?_;go_big_quiet_step (fail);refine wpQuiet_nil ?_)
  refine AX.pJ (ha2 _ Zx) (by rfl) (by rfl) (by rfl) Tryz.func16 (by kernel_rfl) (by rfl) (by simp only[List.map_toArray,List.map_cons,List.map_nil];rfl) ?_;rintro e W7 ⟨⟨v,rfl,hv⟩,hb7⟩;have ab9:1≤M.length:=by have:=HML.out;omega
  have acd:=hv;obtain⟨gm,cm,rfl⟩:=ou hv (by omega);have hgm:W6.drew.heap.size≤gm:=(World.ownsRow.lt hv gm rfl).1;have adW:=(World.ownsRow.lt hv gm rfl).2;have hm7:MSt W7 gm 0 by_ M:=MSt.D5 hv;have hW7:Below W6.heap.size W6 W7:=hWd.trans (hb7.mono hWd.size);refine⟨_,rfl,⟨⟨W7,hW7⟩,rfl⟩,?_⟩;simp only[Act.put,List.setIfInBounds_toArray,List.set_cons_succ,List.set_cons_zero]
  repeat (refine AX.dF _ (by rfl) ?_;go_big_quiet_step (fail);refine wpQuiet_nil ?_)
  unfold AX.fZ;obtain⟨ml,hml⟩:∃ ml,ml=M.length:=⟨_,rfl⟩;rw[←hml] at ab9 ⊢;have adX:ml≤61:=by have:=HML.out;omega
  have Zy:W6.heap.size≤gm:=Nat.le_trans hWd.size hgm;have Xk:=hid hml;have HM7:=hid hm7;have HW7:=hid hW7;have ace:=hid Zy;clear m0 m1 m2 m3 acd hv hb7 hWd Zx ha2 hml hm7 hW7 hgm Zy;go_upto_region 17 with fail
  go_loopw [19] (fun v19 wr=>∃ i:Nat,v19 = .int .i64 i∧i≤ml∧Hid (MSt wr gm i by_ M)∧Hid (Below W6.heap.size W6 wr)) (fun v19 _=>ml-(intOf v19).toNat)
  case atStart=>exact⟨0,rfl,Nat.zero_le _,HM7,HW7⟩
  case round =>
   obtain⟨i,rfl,hi,hms,hbw⟩:=hrel;have hi0:(0:Int)≤(i:Int):=by omega
   by_cases hlt:i<ml
   ·have hi1:(i:Int)<(ml:Int):=by omega
    obtain⟨y,hy⟩:∃ y,M[i]?=some y:=⟨_,List.getElem?_eq_getElem (by have:=Xk.out;omega)⟩;obtain⟨cs,hcs,hcell⟩:=hms.out;have hgw:gm<wr.heap.size:=(Array.getElem?_eq_some_iff.1 hcs).1;have hsz:∀ j,j<5→i*5+j<cs.size:=fun j hj=>(Array.getElem?_eq_some_iff.1 (hcell i y hy j hj)).1;have c1:=hcell i y hy 1 (by decide);have c2:=hcell i y hy 2 (by decide);have c3:=hcell i y hy 3 (by decide);have c4:=hcell i y hy 4 (by decide);rw[if_neg (Nat.lt_irrefl _)] at c1 c2 c3 c4;simp only[qy] at c1 c2 c3 c4;have hnx:=MSt.next hcell hy
    have acf:=hid hnx;have hsz1:=hid (hsz 1 (by decide));have hsz2:=hid (hsz 2 (by decide));have hsz3:=hid (hsz 3 (by decide));have I5:=hid (hsz 4 (by decide));have hyM:y.f≤60∧y.a≤60∧y.t≤60∧y.e≤61:=HYB.out y (List.mem_of_getElem? hy);obtain⟨yk,yf,ya,yt,ye⟩:=y;simp only at c1 c2 c3 c4 hyM hnx;have w1:IntKind.i64.wrap ((yf:Int)+(by_:Int))=(yf:Int)+(by_:Int):=(by rw[IntKind.wrap_i64];omega);have w2:IntKind.i64.wrap ((ya:Int)+(by_:Int))=(ya:Int)+(by_:Int):=(by rw[IntKind.wrap_i64];omega);have w3:IntKind.i64.wrap ((yt:Int)+(by_:Int))=(yt:Int)+(by_:Int):=(by rw[IntKind.wrap_i64];omega);have w4:IntKind.i64.wrap ((ye:Int)+(by_:Int))=(ye:Int)+(by_:Int):=(by rw[IntKind.wrap_i64];omega);obtain⟨C,hCi,hCo⟩:∃ C:World→Prop,(∀ W,C W→W.heap[gm]?=some (.cells cs 42 (0,0)))∧(∀ W,W.heap[gm]?=some (.cells cs 42 (0,0))→C W):=⟨_,fun _ h=>h,fun _ h=>h⟩;have hC0:C wr.drew:=hCo _ hcs;haveI:Inhabited (AX.CW C):=⟨⟨_,hC0⟩⟩;haveI:Inhabited (AX.CW fun _:World=>True):=⟨⟨wr,trivial⟩⟩;have b1:∀ p:AX.CW C,p.W.cell? ⟨gm,i*5+1,none⟩=some (.int .i64 yf):=fun p=>by have:=hCi _ p.h;simp[World.cell?,this,c1]
    have b2:∀ p:AX.CW C,p.W.cell? ⟨gm,i*5+2,none⟩=some (.int .i64 ya):=fun p=>by have:=hCi _ p.h;simp[World.cell?,this,c2]
    have b3:∀ p:AX.CW C,p.W.cell? ⟨gm,i*5+3,none⟩=some (.int .i64 yt):=fun p=>by have:=hCi _ p.h;simp[World.cell?,this,c3]
    have b4:∀ p:AX.CW C,p.W.cell? ⟨gm,i*5+4,none⟩=some (.int .i64 ye):=fun p=>by have:=hCi _ p.h;simp[World.cell?,this,c4]
    have hbW:Below W6.heap.size W6 wr.drew:=hbw.out.trans ((Below.refl W6.heap.size wr).drew);have HCS:Hid (wr.drew.heap[gm]?=some (.cells cs 42 (0,0))):=hid hcs;clear hcell hsz c1 c2 c3 c4 hyM hnx hy hms hcs hbw hCo;go_upto_region 19 with fail
    obtain⟨Wd,hWd⟩:∃ Wd,Wd=wr.drew:=⟨_,rfl⟩;rw[←hWd] at hbW HCS;refine AX.dH (C:=fun W=>∃ p:AX.CW C,W=p.W) (CT:=fun W=>∃ p:AX.CW fun _=>True,W=p.W) 38 FZ _ (by kernel_rfl) (by kernel_rfl) rfl (by kernel_rfl) (by decide) (by kernel_rfl) (by kernel_rfl) (by intro c a d v w h;cases d<;>exact h) ⟨⟨⟨_,trivial⟩,rfl⟩,⟨⟨_,hC0⟩,rfl⟩⟩ ?_;unfold FZ;rw[←hWd];clear hWd hC0
    repeat ((first | (refine AX.bT _ (by rfl) ?_) | (refine AX.dS _ (by rfl) ?_));go_big_quiet_step (fail);refine wpQuiet_nil ?_)
    have hGM:=ace.out;have hgd:gm<Wd.heap.size:=(Array.getElem?_eq_some_iff.1 HCS.out).1;refine AX.aW _ (by rfl) (by rfl) ?_;refine AX.aI (o:=i*5+1) (v := .int .i64 ((yf:Int)+(by_:Int))) rfl rfl rfl sz3 HCS.out hsz1.out ?_;rintro W1 k1 o1 s1;refine⟨⟨⟨⟨_,trivial⟩,rfl⟩,fun h=>by cases h⟩,?_⟩
    repeat ((refine AX.dS _ (by rfl) ?_);go_big_quiet_step (fail);refine wpQuiet_nil ?_)
    refine AX.aW _ (by rfl) (by rfl) ?_;refine AX.aI (o:=i*5+2) (v := .int .i64 ((ya:Int)+(by_:Int))) rfl rfl rfl sz3 k1 (by simp only[Array.size_setIfInBounds];exact hsz2.out) ?_;rintro W2 k2 o2 s2;refine⟨⟨⟨⟨_,trivial⟩,rfl⟩,fun h=>by cases h⟩,?_⟩
    repeat ((refine AX.dS _ (by rfl) ?_);go_big_quiet_step (fail);refine wpQuiet_nil ?_)
    refine AX.aW _ (by rfl) (by rfl) ?_;refine AX.aI (o:=i*5+3) (v := .int .i64 ((yt:Int)+(by_:Int))) rfl rfl rfl sz3 k2 (by simp only[Array.size_setIfInBounds];exact hsz3.out) ?_;rintro W3 k3 o3 s3;refine⟨⟨⟨⟨_,trivial⟩,rfl⟩,fun h=>by cases h⟩,?_⟩
    repeat ((refine AX.dS _ (by rfl) ?_);go_big_quiet_step (fail);refine wpQuiet_nil ?_)
    refine AX.aW _ (by rfl) (by rfl) ?_;refine AX.aI (o:=i*5+4) (v := .int .i64 ((ye:Int)+(by_:Int))) rfl rfl rfl sz3 k3 (by simp only[Array.size_setIfInBounds];exact I5.out) ?_;rintro W4' k4 o4 s4;refine⟨⟨⟨⟨_,trivial⟩,rfl⟩,fun h=>by cases h⟩,?_⟩;unfold AX.bD;have hb1:=AX.aj hGM (.inl (Array.getElem?_eq_some_iff.1 k1).1) o1 s1;have hb2:=AX.aj hGM (.inl (Array.getElem?_eq_some_iff.1 k2).1) o2 s2;have hb3:=AX.aj hGM (.inl (Array.getElem?_eq_some_iff.1 k3).1) o3 s3;have hb4:=AX.aj hGM (.inl (Array.getElem?_eq_some_iff.1 k4).1) o4 s4;have hbz:Hid (Below W6.heap.size W6 W4'):=hid ((((hbW.trans hb1).trans hb2).trans hb3).trans hb4);have hmz:Hid (MSt W4' gm (i+1) by_ M):=hid ⟨_,k4,acf.out⟩;clear k1 k2 k3 k4 o1 o2 o3 o4 s1 s2 s3 s4 hb1 hb2 hb3 hb4 b1 b2 b3 b4 w1 w2 w3 w4 hbW hgd;go_upto_region 18 with fail
    go_wp2_with fail
    exact⟨⟨i+1,by simp,by omega,hmz,hbz⟩,by simp[intOf];omega⟩
   ·have hi1:¬(i:Int)<(ml:Int):=by omega
    obtain rfl:i=ml:=by omega
    obtain⟨D,hD⟩:∃ D,D=T.drop q:=⟨_,rfl⟩;have hDl:D.length=i:=(by rw[hD,List.length_drop,←HTN.out,Xk.out,HML.out]);have hTA:qg W6 g 0 T:=⟨hg5,fun i x hx j hj=>by
     obtain⟨e0,e1,e2,e3,e4⟩:=HCL.out i x hx;rw[Nat.zero_add]
     match j,hj with
     | 0,_=>exact e0
     | 1,_=>exact e1
     | 2,_=>exact e2
     | 3,_=>exact e3
     | 4,_=>exact e4⟩
    have hta:=(hTA.below hbw.out hg5).drop q;have hma:=hms.out.done (by have:=Xk.out;omega);rw[HMP.out] at hma;rw[Nat.zero_add] at hta;have AP:Below W4.heap.size W4 wr:=hb5.trans (hbw.out.mono hb5.size);have TJ:=HDR.out.symm;rw[←hD] at hta hma TJ;have htk:=HTK.out by_ D hxf TJ;have hwi:=HWI.out by_ D hxf TJ;have Zz:Below w.heap.size w wr:=HB4.out.trans (AP.mono HB4.out.size);have HTA:=hid hta;have HMA:=hid hma;have HDL:=hid hDl;have HDD:=hid hD;have HB0:=hid Zz;have hx6:=HX4.out.below AP HX4.out.lt;have l0:=hx6.cell 0;have l1:=hx6.cell 1;have l2:=hx6.cell 2;have l3:=hx6.cell 3;have hp5:∀(k:Int)(w:World),Calls Tryz.prog 19 #[.int .i64 k, .int .i64 5] w (yY 5 w):=fun k w=>yZ k 5 (by omega) (by omega) w;unfold yY at hp5;clear hTA hta hma TJ hDl hD hms hbw hx6 Zz HM7 HW7;go_upto_region 21 with (go_at_call 25;((with_reducible refine(htk _ AP).mono ?_);rintro e W8 ⟨⟨v,rfl,hv⟩,hb8⟩;have hDl:=HDL.out;obtain⟨gu,cu,rfl⟩:=ou hv (by omega);have hu:=qg.D5 hv;have HU:=hid hu;rw[hDl];clear hu hv hDl))
    have F5:Below W4.heap.size W4 W8:=AP.trans (hb8.mono AP.size);have l0:=(hb8.cell (p:=⟨NB,0,none⟩) (Nat.lt_of_lt_of_le HX4.out.lt AP.size)).trans l0;have l1:=(hb8.cell (p:=⟨NB,1,none⟩) (Nat.lt_of_lt_of_le HX4.out.lt AP.size)).trans l1;have l2:=(hb8.cell (p:=⟨NB,2,none⟩) (Nat.lt_of_lt_of_le HX4.out.lt AP.size)).trans l2;have l3:=(hb8.cell (p:=⟨NB,3,none⟩) (Nat.lt_of_lt_of_le HX4.out.lt AP.size)).trans l3;have ZA:Hid (qg W8 gm 0 D):=hid (HMA.out.below hb8 HMA.out.lt);have ZC:Hid (qg W8 g (q*5) D):=hid (HTA.out.below hb8 HTA.out.lt);have HB8:Hid (Below w.heap.size w W8):=hid (HB0.out.trans (hb8.mono HB0.out.size));clear htk hb8 AP HMA HTA HB0;go_upto_region 22 with (go_at_call 19;first | ((with_reducible refine(hp5 k _).mono ?_);rintro e W9 ⟨kk,hk5,rfl,rfl⟩) | ((with_reducible refine(hp5 more _).mono ?_);rintro e W9 ⟨mm,hm5,rfl,rfl⟩))
    have hwk:=hwi (kk:Int) (by omega) (by omega);have hwm:=hwi ((kk:Int)+(mm:Int)) (by omega) (by omega);unfold Lx.AO at hwk hwm;rw[Int.toNat_natCast] at hwk;rw[show ((kk:Int)+(mm:Int)).toNat=kk+mm by omega] at hwm;obtain⟨A,hA⟩:∃ A,A=Lx.lT ((D.take kk).map Lx.byt):=⟨_,rfl⟩;obtain⟨B,hB⟩:∃ B,B=Lx.lT ((D.take (kk+mm)).map Lx.byt):=⟨_,rfl⟩;obtain⟨xa,hxa⟩:∃ x,x=Lx.nT (D.take kk) by_:=⟨_,rfl⟩;obtain⟨xb,hxb⟩:∃ x,x=Lx.nT (D.take (kk+mm)) by_:=⟨_,rfl⟩;have hAB:=PD D kk mm;have hex:=Py D by_ kk mm;rw[←hA,←hB] at hAB;rw[←hxa,←hxb] at hex;rw[←hA,←hxa] at hwk;rw[←hB,←hxb] at hwm;obtain⟨adY,adZ⟩:=hAB;clear hA hB hxa hxb hwi hp5;go_upto_region 23 with (go_at_call 24;((with_reducible refine(hwk _ F5).mono ?_);rintro e W10 ⟨rfl,sO⟩))
    have ZE:Below W4.heap.size W4 W10:=F5.trans (sO.mono F5.size);have l0:=(sO.cell (p:=⟨NB,0,none⟩) (Nat.lt_of_lt_of_le HX4.out.lt F5.size)).trans l0;have l1:=(sO.cell (p:=⟨NB,1,none⟩) (Nat.lt_of_lt_of_le HX4.out.lt F5.size)).trans l1;have l2:=(sO.cell (p:=⟨NB,2,none⟩) (Nat.lt_of_lt_of_le HX4.out.lt F5.size)).trans l2;have l3:=(sO.cell (p:=⟨NB,3,none⟩) (Nat.lt_of_lt_of_le HX4.out.lt F5.size)).trans l3;clear hwk;have wkm:IntKind.i64.wrap ((kk:Int)+(mm:Int))=(kk:Int)+(mm:Int):=(by rw[IntKind.wrap_i64];omega);go_upto_region 24 with (go_at_call 24;((with_reducible refine(hwm _ ZE).mono ?_);rintro e W11 ⟨rfl,IY⟩))
    have F6:=sO.trans (IY.mono sO.size);have HMZ:=ZA.out.below F6 ZA.out.lt;have HTZ:=ZC.out.below F6 ZC.out.lt;have HUZ:=HU.out.below F6 HU.out.lt;have HBZ:Hid (Below w.heap.size w W11):=hid (HB8.out.trans (F6.mono HB8.out.size));have hdl:=HDL.out;have hs1:=FY D (by omega) W11 gm 0 g (q*5) cm (c5-q) HMZ HTZ;have hs2:=fun(W:World)(hb:Below W11.heap.size W11 W)=>FY D (by omega) W gu 0 gm 0 cu cm (HUZ.below hb HUZ.lt) (HMZ.below hb HMZ.lt);have hti:tl-q=i:=(by have:=congrArg List.length HDD.out;rw[List.length_drop,←HTN.out,hdl] at this;omega);rw[hdl] at hs1 hs2;replace hs1:Calls Tryz.prog 26 #[.slice (some ⟨gm,0,none⟩) i cm, .slice (some ⟨g,q*5,none⟩) (tl-q) (c5-q)] W11 fun e w'=>e = .returned (.bool true)∧Below W11.heap.size W11 w':=(by rw[hti];exact hs1);have hcq:¬c5=q:=(by omega);have hqt:(q:Int)≤(tl:Int):=(by omega);have ad1:(A.size:Int)≤(B.size:Int):=(by omega);have ad2:(xa:Int)≤(xb:Int):=(by omega);clear l0 l1 l2 l3 hwm hdl HMZ HTZ HUZ F6 ZE F5 hti;go_wp2_with (first
     | (go_at_call 26;first | ((with_reducible refine hs1.mono ?_);rintro e W12 ⟨rfl,sN⟩) | ((with_reducible refine(hs2 _ sN).mono ?_);rintro e W13 ⟨rfl,acg⟩)))
    have hbz:Below w.heap.size w W13:=HBZ.out.trans ((sN.trans (acg.mono sN.size)).mono HBZ.out.size);exact bodyPost_ret (v := .bool true) (by simp[results,Tryz.results8,go_sem]) rfl ⟨rfl,hbz⟩
end
end Go.Proofs.YtkjgogdkdejljaaGreatDoor.Df
