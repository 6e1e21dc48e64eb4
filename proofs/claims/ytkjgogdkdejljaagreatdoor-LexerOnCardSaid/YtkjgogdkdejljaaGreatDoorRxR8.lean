import Derived.Test.YtkjgogdkdejljaaGreatDoorRxS4
import Derived.Test.YtkjgogdkdejljaaGreatDoorRxR11
set_option maxRecDepth 100000
set_option maxHeartbeats 40000000
namespace Go.Proofs.YtkjgogdkdejljaaGreatDoor.Rx
section
open Go Go.Proofs Go.RowKit
attribute [local go_sem] Oper.semAt_some
theorem VD:AX.sizeT Tryz.prog 166=some 1:=by kernel_rfl
theorem jA.less{W:World}{base Sb c:Nat}{fs:List (Value×Value)}{f:Value×Value}(h:jA W base (.slice (some ⟨Sb,0,none⟩) (fs.length+1) c) (fs++[f])):jA W base (.slice (some ⟨Sb,0,none⟩) fs.length c) fs∧fs.length+1≤c:=by
 rcases h.2 with ⟨e1,_⟩ | ⟨g,cap,cur,e1,hg,hh,hc1,hc2,hc3,hc4⟩
 ·cases e1
 ·obtain⟨rfl,rfl⟩:Sb=g∧c=cap:=by
   injection e1 with a1 a2 a3
   injection a1 with a1
   injection a1 with a1
   exact⟨a1,a3⟩
  have hl:(fs++[f]).length=fs.length+1:=by simp
  rw[hl] at hc1 hc4;refine⟨⟨KT fs, .inr ⟨Sb,c,cur,rfl,hg,hh,by omega,hc2,hc3,?_⟩⟩,hc1⟩;have e2:fs.flatMap nH=((fs++[f]).flatMap nH).take (fs.length*2):=by
   rw[List.flatMap_append,←KT fs,List.take_left]
  rw[e2,←hc4,List.take_take]
  congr 1
  omega
section
variable {w W W' : World} {Rb : Nat} {s : ByteArray} {at_ e : Int} {rv sv : Value} {r : List NL} {fs : List (Value × Value)} {rows : List (Value × List Int)}
theorem St.pop{Sb c:Nat}{f:Value×Value}(h:St w W Rb s at_ e rv (.slice (some ⟨Sb,0,none⟩) (fs.length+1) c) r (fs++[f]) rows)(hR:Rdr W' Rb s at_ rv (.slice (some ⟨Sb,0,none⟩) fs.length c) e)(h4:∀ j,j≠Rb→W'.heap[j]?=W.heap[j]?)(h5:AX.Same W W') :
  St w W' Rb s at_ e rv (.slice (some ⟨Sb,0,none⟩) fs.length c) r fs rows:=by
 have hs:dQ 168 W W':=aT h.rd h4;exact⟨h.low.trans (AX.aj (n:=w.heap.size) h.rb (.inl hR.lt) h4 h5),h.rb,hR,aC h.ro hs (by decide),aC h.so.less.1 hs (by decide),fun p hp=>aC (h.io p hp) hs (by decide),h.dis,fun y hy=>(h.ka y hy).aY hs (by decide),h.kd,h.kb⟩
def UM(w W':World)(Rb:Nat)(s:ByteArray)(at_ e:Int)(sv:Value)(fs:List (Value×Value))(rows:List (Value×List Int))(z:List Nd×Int):Prop :=
 ∃ rv' r',St w W' Rb s at_ e rv' sv r' fs rows∧r'.map (·.x)=z.1
theorem Q8(r:List Nd)(k:Int)(l:List Int):(dA mkI r k l).1.length≤r.length+1:=by
 match l with
 | []=>simp[dA,mkI]
 | [x]=>simp[dA]
 | x::y::l=>simp[dA,mkI]
theorem VA{Sb c:Nat}(av iv:Value)(A I:List Int)(h:St w W Rb s at_ e rv (.slice (some ⟨Sb,0,none⟩) (fs.length+1) c) r (fs++[(av,iv)]) ((av,A)::(iv,I)::rows))(hl:r.length≤9000)(hA:A.length≤9000)(hf:fs.length≤900) :
  Calls Tryz.prog 92 #[.pointer (some ⟨Rb,0,none⟩)] W fun x W'=>x = .returned (.int .i64 (fP mkI (r.map (·.x)) A I).2)∧UM w W' Rb s at_ e (.slice (some ⟨Sb,0,none⟩) fs.length c) fs rows (fP mkI (r.map (·.x)) A I):=by
 have ha:=VB av iv A I h (by omega) (by omega) hf;have hml:=Q8 (r.map (·.x)) 3 I;rw[List.length_map] at hml;unfold fP;obtain⟨rr,hrr⟩:∃ rr,rr=dA mkI (r.map (·.x)) 3 I:=⟨_,rfl⟩;rw[←hrr] at ha hml ⊢;clear hrr h;obtain⟨A1,hA1⟩:∃ A1,A1=A++[rr.2]:=⟨_,rfl⟩;rw[←hA1];obtain⟨z,hz⟩:∃ z,z=dA mkI rr.1 4 A1:=⟨_,rfl⟩;rw[←hz];have HZ:=Lib.hid hz;have HA1:=Lib.hid hA1;clear hz hA1;go_enter Tryz.func92,Tryz.ntmps92
 go_wp2_with (go_at_call 117;(with_reducible refine ha.mono ?_);rintro x W1 ⟨rfl,rv1,r1,av1,h1,hr1⟩)
 have ht:=QO Rb Sb (fs.length+1) c (by omega) (by omega) s at_ rv1 e W1 h1.rd;rw[Nat.add_sub_cancel] at ht;rw[←HA1.out] at h1;have hav:bJ W1 w.heap.size av1 A1:=h1.io (av1,A1) (List.mem_cons_self ..);obtain⟨la,ca,rfl⟩:=hav.form;have hm:=fun W2 (h2:St w W2 Rb s at_ e rv1 (.slice (some ⟨Sb,0,none⟩) (fs.length+1) c) r1 (fs++[(.slice la A1.length ca, .slice none 0 0)]) ((.slice la A1.length ca,A1)::rows))=>QZ 4 (.slice la A1.length ca) A1 h2 (by
  have:r1.length=(r1.map (·.x)).length:=by simp
  rw[hr1] at this;omega)
 rw[hr1,←HZ.out] at hm;have HR1:=Lib.hid hr1;clear hr1 ha hav;go_wp2_with (first
  | (go_at_call 123;(with_reducible refine ht.mono ?_);rintro x W2 ⟨rfl,hb2⟩;have h2:=h1.below hb2;obtain⟨c0,c1⟩:=h2.top rfl;dsimp only at c0)
  | (go_at_call 122;(with_reducible refine(hm _ h2).mono ?_);rintro x W3 ⟨rfl,rv3,r3,h3,hr3⟩))
 have h3c:=h3.so.less.2;obtain⟨C,hCi,hCo⟩:∃ C:World→Prop,(∀ Z,C Z→Z.cell? ⟨Rb,3,none⟩=some (.slice (some ⟨Sb,0,none⟩) (fs.length+1) c))∧(∀ Z,Z.cell? ⟨Rb,3,none⟩=some (.slice (some ⟨Sb,0,none⟩) (fs.length+1) c)→C Z):=⟨_,fun _ h=>h,fun _ h=>h⟩;have hbd:=(Below.refl W3.heap.size W3).drew;have h3d:=h3.below hbd;have hW0:C W3.drew:=hCo _ (h3d.rd.cell 3);haveI:Inhabited (AX.CW C):=⟨⟨_,hW0⟩⟩;haveI:Inhabited (AX.CW fun _=>True):=⟨⟨w,trivial⟩⟩;have a0:=fun p:AX.CW C=>hCi _ p.h;clear hCo hCi;have hn0:(0:Int)≤(fs.length:Int):=by omega
 have hn1:(fs.length:Int)≤(c:Int):=by omega
 have hn2:((fs.length:Int)).toNat=fs.length:=by omega
 refine AX.dH (C:=fun W=>∃ p:AX.CW C,W=p.W) (CT:=fun W=>∃ p:AX.CW fun _=>True,W=p.W) 14 [(0,0),(1,0),(2,0),(3,0),(4,0),(5,0),(6,0),(7,0),(8,0),(9,0),(10,0),(11,0),(12,1),(13,0),(14,2)] _ (by kernel_rfl) (by kernel_rfl) rfl (by kernel_rfl) (by decide) (by kernel_rfl) (by kernel_rfl) (by intro c a d v w h;cases d<;>exact h) ⟨⟨⟨_,trivial⟩,rfl⟩,⟨⟨_,hW0⟩,rfl⟩⟩ ?_;clear hW0 hbd h3;generalize W3.drew=Wd at *
 repeat ((first | refine AX.bT _ (by rfl) ?_ | refine AX.dS _ (by rfl) ?_);go_big_quiet_step (fail);refine wpQuiet_nil ?_)
 refine AX.aW _ (by rfl) (by rfl) ?_;refine AX.aI (o:=3) (v := .slice (some ⟨Sb,0,none⟩) fs.length c) rfl rfl rfl VD h3d.rd (show 3<5 by decide) ?_;rintro W4 g3 g4 g5;have h4:=h3d.pop g3 g4 g5;refine⟨⟨⟨⟨W4,trivial⟩,rfl⟩,fun h=>by cases h⟩,?_⟩;clear h3d g3 g4 g5;unfold AX.bD;go_wp2_with fail
 exact bodyPost_ret (v := .int .i64 z.2) (by simp[results,Tryz.results92,go_sem]) rfl ⟨rfl,_,_,h4,hr3⟩
end
section
variable {w W W' : World} {Rb : Nat} {s : ByteArray} {at_ e : Int} {rv sv : Value} {r : List NL} {fs : List (Value × Value)} {rows : List (Value × List Int)}
theorem St.Yc{Sb c:Nat}{f:Value×Value}(h:St w W Rb s at_ e rv (.slice (some ⟨Sb,0,none⟩) (fs.length+1) c) r (fs++[f]) rows)(hf:fs.length≤900) :
  Calls Tryz.prog 123 #[.pointer (some ⟨Rb,0,none⟩)] W fun x w'=>x = .returned (.pointer (some ⟨Sb,fs.length*2,none⟩))∧Below W.heap.size W w':=by
 have ht:=QO Rb Sb (fs.length+1) c (by omega) (by omega) s at_ rv e W h.rd
 rwa [Nat.add_sub_cancel] at ht
def Q9(w W':World)(Rb:Nat)(s:ByteArray)(at_ e:Int)(rv sv av:Value)(r:List NL)(fs:List (Value×Value))(rows:List (Value×List Int))(l:List Int):Prop :=
 ∃ iv',St w W' Rb s at_ e rv sv r (fs++[(av,iv')]) ((iv',l)::rows)
theorem Rf{Sb c:Nat}(av iv:Value)(I:List Int)(n:Int)(h:St w W Rb s at_ e rv (.slice (some ⟨Sb,0,none⟩) (fs.length+1) c) r (fs++[(av,iv)]) ((iv,I)::rows))(hI:I.length≤9000)(hf:fs.length≤900) :
  Calls Tryz.prog 118 #[.pointer (some ⟨Rb,0,none⟩), .int .i64 n] W fun x W'=>x = .returned (.tuple #[])∧Q9 w W' Rb s at_ e rv (.slice (some ⟨Sb,0,none⟩) (fs.length+1) c) av r fs rows (I++[n]):=by
 go_enter Tryz.func118,Tryz.ntmps118
 go_wp2_with (first
  | (go_at_call 123;(with_reducible refine(h.Yc hf).mono ?_);rintro x W1 ⟨rfl,hb1⟩;have h1:=h.below hb1;clear h;have h:=h1;clear h1;obtain⟨c0,c1⟩:=h.top rfl;dsimp only at c1;have hcb:=(Bx.new W1 3 #[.int .i64 n]).cell 0;have h7:=h.below ((Below.refl W1.heap.size W1).alloc Nat.le.refl (.cells #[.int .i64 n] 3));have hr7:bJ (W1.alloc (.cells #[.int .i64 n] 3)) w.heap.size iv I:=h7.io _ (List.mem_cons_self ..);have hz7:=h7.low.size)
  | (at_builtin;refine Rh _ w.heap.size iv I n rfl _ _ rfl rfl hr7 _ 1 rfl hcb (by omega) hz7 ?_;intro v' W8 hr8 hg8 Yb;have h8:=h7.num hr8 hg8 Yb;have aaW:v'.oneCell'=true:=(by obtain⟨lv,cv,hv'⟩:=hr8.form;subst hv';rfl);obtain⟨cs8,hs8,hz8⟩:=h8.Q7;have hz9:fs.length*2+2≤cs8.size:=(by rw[List.length_append,List.length_singleton] at hz8;omega))
  | ((with_reducible refine bH ?_);refine AX.aB (o:=fs.length*2+1) (v:=v') rfl rfl aaW Q5 hs8 (by omega) ?_;rintro W9 g3 g4 g5;have h9:=h8.set (q:=1) (v:=v') (f':=(av,v')) hs8 g3 g4 g5 (by decide) rfl))
 exact bodyPost_end (v := .tuple #[]) (by simp[results,Tryz.results118,go_sem]) rfl ⟨rfl,_,h9⟩
end
theorem bJ.setLast{W W':World}{base g c:Nat}{cs:Array Value}{D:List Int}{x y:Int}(h:bJ W base (.slice (some ⟨g,0,none⟩) (D.length+1) c) (D++[x]))(hc:W.heap[g]?=some (.cells cs 3 (0,0)))
  (h':W'.heap[g]?=some (.cells (cs.setIfInBounds D.length (.int .i64 y)) 3 (0,0))):bJ W' base (.slice (some ⟨g,0,none⟩) (D.length+1) c) (D++[y]):=by
 rcases h.2 with ⟨e1,_⟩ | ⟨g',cap,cur,e1,hg,hh,hc1,hc2,hc3,hc4⟩
 ·cases e1
 ·obtain⟨rfl,rfl⟩:g=g'∧c=cap:=by
   injection e1 with a1 a2 a3
   injection a1 with a1
   injection a1 with a1
   exact⟨a1,a3⟩
  rw[hc] at hh;obtain rfl:cs=cur:=by cases hh;rfl
  have hl:(D++[x]).length=D.length+1:=by simp
  rw[hl] at hc1 hc4;have hl2:(D++[y]).length=D.length+1:=by simp
  refine⟨by simp, .inr ⟨g,c,_,by rw[hl2],hg,h',by rw[hl2];exact hc1,hc2,by rw[Array.size_setIfInBounds];exact hc3,?_⟩⟩;rw[hl2];rw[Nat.mul_one] at hc4 ⊢;have hsz:D.length+1≤cs.toList.length:=by
   have:cs.toList.length=c*1:=(by rw[Array.length_toList];exact hc3);omega
  apply List.ext_getElem?;intro i;have h4:=congrArg (fun l=>l[i]?) hc4;simp only[List.getElem?_take,List.map_append,List.getElem?_append,List.length_map] at h4;rw[List.getElem?_take,Array.toList_setIfInBounds,List.getElem?_set,List.map_append,List.getElem?_append,List.length_map]
  by_cases hi:i<D.length+1
  ·rw[if_pos hi] at h4 ⊢
   by_cases hi2:D.length=i
   ·subst hi2
    rw[if_pos rfl,if_pos (by omega),if_neg (by omega),Nat.sub_self];rfl
   ·rw[if_neg hi2,h4,if_pos (by omega),if_pos (by omega)]
  ·rw[if_neg hi,if_neg (by omega),List.getElem?_eq_none (by simp;omega)]
section
variable {w W W' : World} {Rb : Nat} {s : ByteArray} {at_ e : Int} {rv sv : Value} {r : List NL} {fs : List (Value × Value)} {rows : List (Value × List Int)}
theorem St.setLast{g c:Nat}{cs:Array Value}{D:List Int}{x y:Int}(h:St w W Rb s at_ e rv sv r fs ((.slice (some ⟨g,0,none⟩) (D.length+1) c,D++[x])::rows))(hc:W.heap[g]?=some (.cells cs 3 (0,0)))
  (h3:W'.heap[g]?=some (.cells (cs.setIfInBounds D.length (.int .i64 y)) 3 (0,0))) (h4:∀ j,j≠g→W'.heap[j]?=W.heap[j]?) (h5:AX.Same W W'):St w W' Rb s at_ e rv sv r fs ((.slice (some ⟨g,0,none⟩) (D.length+1) c,D++[y])::rows):=by
 have hv:bJ W w.heap.size (.slice (some ⟨g,0,none⟩) (D.length+1) c) (D++[x]):=h.io _ (List.mem_cons_self ..);have s1:dQ 3 W W':=aT hc h4;have hb:=(World.ownsRow.lt hv g rfl).1;have hd:=(List.pairwise_cons.1 h.dis).1;refine⟨h.low.trans (AX.aj (n:=w.heap.size) hb (.inl (Array.getElem?_eq_some_iff.1 h3).1) h4 h5),h.rb,(s1 Rb _ 168 h.rd (by decide)).trans h.rd,aC h.ro s1 (by decide),aC h.so s1 (by decide),fun q hq=>?_,?_,fun y' hy=>?_,fun y' hy q hq=>?_,h.kb⟩
 ·rcases List.mem_cons.1 hq with rfl | hq
  ·exact hv.setLast hc h3
  ·exact bY (h.io q (List.mem_cons_of_mem _ hq)) fun g' eg=>h4 g' fun e'=>hd q hq g' (by rw[e'];rfl) eg
 ·exact List.pairwise_cons.2 ⟨fun q hq=>hd q hq,(List.pairwise_cons.1 h.dis).2⟩
 ·rcases h.ka y' hy with hk | ⟨B,c',cs',e1,e2,e3,e4⟩
  ·exact .inl hk
  ·have e5:=h4 B (fun e'=>h.kd y' hy _ (List.mem_cons_self ..) B (by rw[e'];rfl) (by rw[e1];rfl))
   exact .inr ⟨B,c',cs',e1,e5.trans e2,e3,fun i x hx=>(dh e5).trans (e4 i x hx)⟩
 ·rcases List.mem_cons.1 hq with rfl | hq
  ·exact h.kd y' hy (_,D++[x]) (List.mem_cons_self ..)
  ·exact h.kd y' hy q (List.mem_cons_of_mem _ hq)
theorem St.Yd{g n c:Nat}{l:List Int}(h:St w W Rb s at_ e rv sv r fs ((.slice (some ⟨g,0,none⟩) n c,l)::rows)):∃ cs,W.heap[g]?=some (.cells cs 3 (0,0))∧l.length≤cs.size:=by
 have hv:bJ W w.heap.size (.slice (some ⟨g,0,none⟩) n c) l:=h.io _ (List.mem_cons_self ..);rcases hv.2 with ⟨e1,_⟩ | ⟨g',cap,cur,e1,hg,hh,hc1,hc2,hc3,hc4⟩
 ·cases e1
 ·obtain rfl:g=g':=by
   injection e1 with a1 a2 a3
   injection a1 with a1
   injection a1 with a1
  exact⟨cur,hh,by rw[hc3];omega⟩
theorem St.at(h:St w W Rb s at_ e rv sv r fs rows):W.cell? ⟨Rb,1,none⟩=some (.int .i64 at_):=h.rd.cell 1
theorem sz3:AX.sizeT Tryz.prog 3=some 1:=by kernel_rfl
def ND(w W':World)(Rb:Nat)(s:ByteArray)(at_ e:Int)(sv av iv:Value)(fs:List (Value×Value))(rows:List (Value×List Int))(l:List Int)(z:List Nd):Prop :=
 ∃ rv' r',St w W' Rb s at_ e rv' sv r' (fs++[(av,iv)]) ((iv,l)::rows)∧r'.map (·.x)=z
theorem Ak{Sb c:Nat}(a:Nat)(k:Int)(av iv:Value)(h:St w W Rb s a 0 rv (.slice (some ⟨Sb,0,none⟩) (fs.length+1) c) r (fs++[(av,iv)]) ((iv,[])::rows))(hf:fs.length≤900) :
  Calls Tryz.prog 119 #[.pointer (some ⟨Rb,0,none⟩), .int .i64 k] W fun x W'=>x = .returned (.tuple #[])∧St w W' Rb s a 7 rv (.slice (some ⟨Sb,0,none⟩) (fs.length+1) c) r (fs++[(av,iv)]) ((iv,[])::rows):=by
 obtain⟨li,ci,rfl⟩:=bJ.form (show bJ W w.heap.size iv [] from h.io (iv,[]) (List.mem_cons_self ..));have e0:((([]:List Int).length:Nat):Int)=0:=rfl;have ht:=h.Yc hf;go_enter Tryz.func119,Tryz.ntmps119
 go_wp2_with (first
  | (go_at_call 123;(with_reducible refine ht.mono ?_);rintro x W1 ⟨rfl,hb1⟩;have h1:=h.below hb1;obtain⟨c0,c1⟩:=h1.top rfl;dsimp only at c1;have d1:=h1.at)
  | (go_at_call 91;(with_reducible refine(lD Rb s _ rv _ 0 _ _ _ h1.rd).mono ?_);rintro x W2 ⟨rfl,hR2,hb2⟩;have h2:=h1.box hb2 hR2))
 exact bodyPost_ret (v := .tuple #[]) (by simp[results,Tryz.results119,go_sem]) rfl ⟨rfl,h2⟩
theorem Am{Sb c:Nat}(a:Nat)(ha:a≤1000000)(k:Int)(av iv:Value)(D:List Int)(x:Int)(h:St w W Rb s a 0 rv (.slice (some ⟨Sb,0,none⟩) (fs.length+1) c) r (fs++[(av,iv)]) ((iv,D++[x])::rows))(hl:r.length≤9000)(hD:D.length≤9000)(hf:fs.length≤900) :
  Calls Tryz.prog 119 #[.pointer (some ⟨Rb,0,none⟩), .int .i64 k] W fun y W'=>y = .returned (.tuple #[])∧ND w W' Rb s ((a:Int)+1) 0 (.slice (some ⟨Sb,0,none⟩) (fs.length+1) c) av iv fs rows (D++[(r.length:Int)]) (mkI (r.map (·.x)) (h5 k) [x]).1:=by
 have hv0:bJ W w.heap.size iv (D++[x]):=h.io (iv,_) (List.mem_cons_self ..);obtain⟨g,ci,cs,rfl,hg,hgb,hgs,hgc⟩:=hv0.cells (by simp);have hDl:(D++[x]).length=D.length+1:=by simp
 rw[hDl] at h hgs hv0 ⊢;have ht:=h.Yc hf;have hd0:(0:Int)≤(D.length:Int):=by omega
 have hd1:(D.length:Int)<(D.length:Int)+1:=by omega
 have hd2:((D.length:Int)).toNat=D.length:=by omega
 have hd3:¬((D.length:Int)+1=0):=by omega
 have aaX:=hgc D.length x (by simp);go_enter Tryz.func119,Tryz.ntmps119
 go_wp2_with (go_at_call 123;(with_reducible refine ht.mono ?_);rintro y W1 ⟨rfl,hb1⟩;have h1:=h.below hb1;obtain⟨c0,c1⟩:=h1.top rfl;dsimp only at c1;have d1:=h1.at)
 have hSl:Sb<W1.heap.size:=(World.ownsRow.lt h1.so Sb rfl).2;have a1:=AX.aF c1 hSl;refine AX.aO (by kernel_rfl) (by kernel_rfl) ?_
 repeat (go_big_quiet_step (fail))
 refine wpQuiet_nil ?_;rintro W2 ⟨p,rfl⟩;obtain⟨W2,hb2⟩:=p;change Below _ _ _ at hb2;have h2:=h1.below hb2;have hbb:Below W.heap.size W W2:=hb1.trans (hb2.mono hb1.size);have hgl:=(Array.getElem?_eq_some_iff.1 hg).1;have g0:W2.cell? ⟨g,D.length,none⟩=some (.int .i64 x):=(hbb.cell (p:=⟨g,D.length,none⟩) hgl).trans aaX;have hg2:W2.heap[g]?=some (.cells cs 3 (0,0)):=(hbb.block g hgl).trans hg;clear c0 c1 d1 a1 h1 hb1 ht h hgc aaX hv0 hg;have h3:=h2.below ((Below.refl W2.heap.size W2).alloc Nat.le.refl (.cells #[.int .i64 x] 3));have hx3:KAt (W2.alloc (.cells #[.int .i64 x] 3)) none (.slice (some ⟨W2.heap.size,0,none⟩) 1 1) [x] := .inr ⟨W2.heap.size,0,#[.int .i64 x],rfl,World.alloc_heap_new W2 _,by simp,fun i y hy=>by
  cases i with
  | zero=>simp at hy;subst hy;exact (Bx.new W2 3 #[.int .i64 x]).cell 0
  | succ i=>simp at hy⟩
 have hap:∀ p∈(Value.slice (some ⟨g,0,none⟩) (D.length+1) ci,D++[x])::rows,Apart p.1 (.slice (some ⟨W2.heap.size,0,none⟩) 1 1):=fun p hp j hj hj2=>by
  have h4:=(World.ownsRow.lt (h2.io p hp) j hj).2;have h5:W2.heap.size=j:=by simpa[Value.ownBlock] using hj2
  omega
 have hp:=KU k .zero (.slice (some ⟨W2.heap.size,0,none⟩) 1 1) [x] h3 hx3 hap (fun j hj=>by
  have h5:W2.heap.size=j:=by simpa[Value.ownBlock] using hj
  have:=h2.low.size;omega) (by omega)
 rw[show C4.v .zero = .agg #[.int .u64 0, .int .u64 0, .int .u64 0, .int .u64 0] from rfl] at hp;clear hg2 hgb hgs;go_wp2_with (first
  | (go_at_call 120;(with_reducible refine hp.mono ?_);rintro y W4 ⟨rfl,rv4,h4⟩;obtain⟨cs4,hg4,hz4⟩:=h4.Yd;have hz5:D.length+1≤cs4.size:=(by rw[hDl] at hz4;exact hz4))
  | ((with_reducible refine bH ?_);refine AX.aB (o:=D.length) (v := .int .i64 r.length) rfl rfl rfl sz3 hg4 (by omega) ?_;rintro W5 g3 g4 g5;have h5:=h4.setLast hg4 g3 g4 g5;have d5:=h5.at;have f5:=h5.rd.frozen 1;have h6:=h5.box (iM W5 Rb 1 (.int .i64 ((a:Int)+1))) (Bx.set h5.rd 1 (.int .i64 ((a:Int)+1)))))
 exact bodyPost_end (v := .tuple #[]) (by simp[results,Tryz.results119,go_sem]) rfl ⟨rfl,rv4,r++[⟨JJ k C4.zero [x], .slice (some ⟨W2.heap.size,0,none⟩) 1 1⟩],h6,by rw[List.map_append];rfl⟩
end
end
section
open Go Go.Proofs Go.RowKit Go.Shelf
attribute [local go_sem] Oper.semAt_some
def uk(k i a b:Nat):Value := .int .u64 ((if i<k then a ||| b else a:Nat):Int)
theorem union_k(a b c d e f g h:Nat)(ha:a<18446744073709551616)(hb:b<18446744073709551616)(hc:c<18446744073709551616)(hd:d<18446744073709551616)(he:e<18446744073709551616)(hf:f<18446744073709551616)(hg:g<18446744073709551616)(hh:h<18446744073709551616)(w:World) :
  Calls Tryz.prog 166 #[.agg #[.int .u64 a, .int .u64 b, .int .u64 c, .int .u64 d], .agg #[.int .u64 e, .int .u64 f, .int .u64 g, .int .u64 h]] w fun x w'=>x = .returned (.agg #[.int .u64 (a ||| e:Nat), .int .u64 (b ||| f:Nat), .int .u64 (c ||| g:Nat), .int .u64 (d ||| h:Nat)])∧Below w.heap.size w w':=by
 have xa:=bits_or_u64_nat a e ha he;have xb:=bits_or_u64_nat b f hb hf;have xc:=bits_or_u64_nat c g hc hg;have xd:=bits_or_u64_nat d h hd hh;clear ha hb hc hd he hf hg hh;go_enter Tryz.func166,Tryz.ntmps166
 go_wp2
 go_loopw [8] (fun i wr=>∃ k:Nat,k≤4∧i = .int .i64 k∧Bx wr w.heap.size 116 #[uk k 0 a e,uk k 1 b f,uk k 2 c g,uk k 3 d h]∧Bx wr (w.heap.size+2) 116 #[.int .u64 0, .int .u64 0, .int .u64 0, .int .u64 0]∧Below w.heap.size w wr)
  (fun i _=>4-(intOf i).toNat)
 case atStart =>
  have hz:=Bx.new ((w.alloc (.cells #[.int .u64 a, .int .u64 b, .int .u64 c, .int .u64 d] 116)).alloc (.cells #[.int .u64 e, .int .u64 f, .int .u64 g, .int .u64 h] 116)) 116 #[.int .u64 0, .int .u64 0, .int .u64 0, .int .u64 0];exact⟨0,by omega,rfl,((Bx.new w 116 _).alloc _).alloc _,by simpa using hz,(((Below.refl _ w).alloc Nat.le.refl _).alloc (by simp) _).alloc (by simp;omega) _⟩
 case round =>
  obtain⟨k,hk,rfl,h1,h2,hB⟩:=hrel;obtain rfl | rfl | rfl | rfl | rfl:k=0∨k=1∨k=2∨k=3∨k=4:=by omega
  ·have c0:wr.cell? ⟨w.heap.size,0,none⟩=some (.int .u64 (a:Nat)):=h1.cell 0
   have f0:=h1.frozen 0;have ix:=sW (.int .u64 e) (.int .u64 f) (.int .u64 g) (.int .u64 h);have hs:Bx (wr.setCell ⟨w.heap.size,0,none⟩ (.int .u64 (a ||| e:Nat))) w.heap.size 116 #[uk 1 0 a e,uk 1 1 b f,uk 1 2 c g,uk 1 3 d h]:=Bx.set h1 0 (.int .u64 (a ||| e:Nat));have ho:Bx (wr.setCell ⟨w.heap.size,0,none⟩ (.int .u64 (a ||| e:Nat))) (w.heap.size+2) 116 _:=h2.other (by omega);have hb:=hB.setCell (p:=⟨w.heap.size,0,none⟩) Nat.le.refl (.int .u64 (a ||| e:Nat));go_wp2
   exact⟨⟨1,by omega,rfl,hs,ho,hb⟩,by simp[intOf]⟩
  ·have c0:wr.cell? ⟨w.heap.size,1,none⟩=some (.int .u64 (b:Nat)):=h1.cell 1
   have f0:=h1.frozen 1;have ix:=tq (.int .u64 e) (.int .u64 f) (.int .u64 g) (.int .u64 h);have hs:Bx (wr.setCell ⟨w.heap.size,1,none⟩ (.int .u64 (b ||| f:Nat))) w.heap.size 116 #[uk 2 0 a e,uk 2 1 b f,uk 2 2 c g,uk 2 3 d h]:=Bx.set h1 1 (.int .u64 (b ||| f:Nat));have ho:Bx (wr.setCell ⟨w.heap.size,1,none⟩ (.int .u64 (b ||| f:Nat))) (w.heap.size+2) 116 _:=h2.other (by omega);have hb:=hB.setCell (p:=⟨w.heap.size,1,none⟩) Nat.le.refl (.int .u64 (b ||| f:Nat));go_wp2
   exact⟨⟨2,by omega,rfl,hs,ho,hb⟩,by simp[intOf]⟩
  ·have c0:wr.cell? ⟨w.heap.size,2,none⟩=some (.int .u64 (c:Nat)):=h1.cell 2
   have f0:=h1.frozen 2;have ix:=tu (.int .u64 e) (.int .u64 f) (.int .u64 g) (.int .u64 h);have hs:Bx (wr.setCell ⟨w.heap.size,2,none⟩ (.int .u64 (c ||| g:Nat))) w.heap.size 116 #[uk 3 0 a e,uk 3 1 b f,uk 3 2 c g,uk 3 3 d h]:=Bx.set h1 2 (.int .u64 (c ||| g:Nat));have ho:Bx (wr.setCell ⟨w.heap.size,2,none⟩ (.int .u64 (c ||| g:Nat))) (w.heap.size+2) 116 _:=h2.other (by omega);have hb:=hB.setCell (p:=⟨w.heap.size,2,none⟩) Nat.le.refl (.int .u64 (c ||| g:Nat));go_wp2
   exact⟨⟨3,by omega,rfl,hs,ho,hb⟩,by simp[intOf]⟩
  ·have c0:wr.cell? ⟨w.heap.size,3,none⟩=some (.int .u64 (d:Nat)):=h1.cell 3
   have f0:=h1.frozen 3;have ix:=tC (.int .u64 e) (.int .u64 f) (.int .u64 g) (.int .u64 h);have hs:Bx (wr.setCell ⟨w.heap.size,3,none⟩ (.int .u64 (d ||| h:Nat))) w.heap.size 116 #[uk 4 0 a e,uk 4 1 b f,uk 4 2 c g,uk 4 3 d h]:=Bx.set h1 3 (.int .u64 (d ||| h:Nat));have ho:Bx (wr.setCell ⟨w.heap.size,3,none⟩ (.int .u64 (d ||| h:Nat))) (w.heap.size+2) 116 _:=h2.other (by omega);have hb:=hB.setCell (p:=⟨w.heap.size,3,none⟩) Nat.le.refl (.int .u64 (d ||| h:Nat));go_wp2
   exact⟨⟨4,by omega,rfl,hs,ho,hb⟩,by simp[intOf]⟩
  ·have c0:wr.cell? ⟨w.heap.size,0,none⟩=some (.int .u64 (a ||| e:Nat)):=h1.cell 0
   have c1:wr.cell? ⟨w.heap.size,1,none⟩=some (.int .u64 (b ||| f:Nat)):=h1.cell 1;have c2:wr.cell? ⟨w.heap.size,2,none⟩=some (.int .u64 (c ||| g:Nat)):=h1.cell 2;have c3:wr.cell? ⟨w.heap.size,3,none⟩=some (.int .u64 (d ||| h:Nat)):=h1.cell 3;clear xa xb xc xd;go_wp2_with ((with_reducible refine bH ?_);refine AX.au (vs:=[.int .u64 (a ||| e:Nat), .int .u64 (b ||| f:Nat), .int .u64 (c ||| g:Nat), .int .u64 (d ||| h:Nat)]) rfl rfl vJ h2 rfl rfl ?_;rintro W9 h3 h4 h5)
   have h3':Bx W9 (w.heap.size+2) 116 #[.int .u64 (a ||| e:Nat), .int .u64 (b ||| f:Nat), .int .u64 (c ||| g:Nat), .int .u64 (d ||| h:Nat)]:=h3;have d0:=h3'.cell 0;have d1:=h3'.cell 1;have d2:=h3'.cell 2;have d3:=h3'.cell 3;have hB9:Below w.heap.size w W9:=hB.trans (AX.aj (by omega) (.inl (Array.getElem?_eq_some_iff.1 h3).1) h4 h5);exact bodyPost_ret (v := .agg #[.int .u64 (a ||| e:Nat), .int .u64 (b ||| f:Nat), .int .u64 (c ||| g:Nat), .int .u64 (d ||| h:Nat)]) (by simp[results,Tryz.results166,go_sem,d0,d1,d2,d3]) rfl ⟨rfl,hB9⟩
end
end Go.Proofs.YtkjgogdkdejljaaGreatDoor.Rx
