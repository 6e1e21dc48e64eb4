import Derived.Test.YtkjgogdkdejljaaGreatDoorLxL31
import Derived.Lib.TrailingZeros
namespace Go.Proofs.YtkjgogdkdejljaaGreatDoor.Lx
open Go Go.Proofs Go.RowKit
attribute [local go_sem] Oper.semAt_some
def Cj(x:Nat):Value := .int .u8 (x:Int)
def aH(w:World)(base:Nat)(v:Value)(l:List Nat):Prop:=w.ownsRow base 5 1 v l.length (l.map Cj)
theorem info5:(Tryz.prog.info? 5).map (fun i=>(i.zero,i.size,i.bytes))=some (some (.int .u8 0),1,1):=by kernel_rfl
theorem gW{F:Fence}{n:Nat}{ops:Array Oper}{rest:List Oper}{o:Oper}{a:Act}{Q:Exit→Act→World→Prop}(W:World)(base:Nat)(v:Value)(pre:List Nat)(y:Nat)(hgd:o.guard=none)(s x:Operand)
  (ho:o.op = .call { callee := .builtin .append,args:=#[s,x],argTypes:=#[106,106] }) (hs:a.eval s=v) (hown:aH W base v pre) (ad:Addr) (hx:a.eval x = .slice (some ad) 1 1)
  (hc:W.cell? ad=some (Cj y)) (hl:pre.length≤1000000) (hb:base≤W.heap.size)
  (h:∀ v' w',aH w' base v' (pre++[y])→W.grownBy w' v.ownBlock→wpListIn F n Tryz.prog ops Q rest (a.put o.dst v') w'):wpListIn F n Tryz.prog ops Q (o::rest) a W:=by
 obtain⟨ti,hi,hz0,hz1,hz2⟩:=info_parts info5
 refine wpListIn_append_own W hgd s x 106 ho base 5 ti (.int .u8 0) 1 1 Tryz.underlying106 hi hz0 hz1 hz2 rfl (by decide) v pre.length _ hs hown ad 1 1 [Cj y] hx rfl (fun j u hj=>?_) (fun u hu=>by rw[List.mem_singleton.1 hu];rfl) (by unfold maxLen;omega) (by omega) hb ?_
 ·match j,hj with
  | 0,hj =>
   obtain rfl:Cj y=u:=by simpa using hj
   have:ad.add 0=ad:=by unfold Addr.add;split<;>simp_all
   rw[this];exact hc
 ·intro v' w' h1 h2 _
  refine h v' w' ?_ h2
  unfold aH
  rw[List.length_append,List.map_append]
  exact h1
theorem Ca{ops:Array Oper}{rest:List Oper}{o:Oper}{a:Act}{Q:Exit→Act→World→Prop}(W:World)(base:Nat)(v:Value)(pre:List Nat)(y:Nat)(hgd:o.guard=none)(s x:Operand)
  (ho:o.op = .call { callee := .builtin .append,args:=#[s,x],argTypes:=#[106,106] }) (hs:a.eval s=v) (hown:aH W base v pre) (ad:Addr) (hx:a.eval x = .slice (some ad) 1 1)
  (hc:W.cell? ad=some (Cj y)) (hl:pre.length≤1000000) (hb:base≤W.heap.size)
  (h:∀ v' w',aH w' base v' (pre++[y])→Below base W w'→wpList Tryz.prog ops Q rest (a.put o.dst v') w'):wpList Tryz.prog ops Q (o::rest) a W:=by
 obtain⟨ti,hi,hz0,hz1,hz2⟩:=info_parts info5
 refine wpList_append_own W hgd s x 106 ho base 5 ti (.int .u8 0) 1 1 Tryz.underlying106 hi hz0 hz1 hz2 rfl (by decide) v pre.length _ hs hown ad 1 1 [Cj y] hx rfl (fun j u hj=>?_) (fun u hu=>by rw[List.mem_singleton.1 hu];rfl) (by unfold maxLen;omega) (by omega) hb ?_
 ·match j,hj with
  | 0,hj =>
   obtain rfl:Cj y=u:=by simpa using hj
   have:ad.add 0=ad:=by unfold Addr.add;split<;>simp_all
   rw[this];exact hc
 ·intro v' w' h1 h2 _
  refine h v' w' ?_ ((Below.refl base W).grown h2 hb fun k hk=>(hown.lt k hk).1)
  unfold aH
  rw[List.length_append,List.map_append]
  exact h1
def oJ(l:List Nat):ByteArray:=⟨(l.map UInt8.ofNat).toArray⟩
theorem Ck{W:World}{base:Nat}{v:Value}{l:List Nat}(h:aH W base v l):(convert 106 9 v).run Tryz.prog W = .ok (.string (oJ l)) W:=by
 rcases h.2 with ⟨rfl,hn⟩ | ⟨g,cap,cur,rfl,_⟩
 ·obtain rfl:l = []:=List.eq_nil_of_length_eq_zero hn
  exact run_convert_bytes_nil W 106 5 Tryz.underlying106 Tryz.underlying5 _ _ 9 Tryz.underlying9
 ·have:=run_convert_bytes_arg (P:=Tryz.prog) W 106 5 Tryz.underlying106 Tryz.underlying5 g 0 l.length cap (List.map (fun x:Nat=>(x:Int)) l) (by simp) (fun i hi=>by
   have:=World.ownsRow.cellAt h i (by omega)
   rw[Nat.zero_add,this]
   simp[hi,Cj]) 9 Tryz.underlying9
  rw[this,show strOfNums (List.map (fun x:Nat=>(x:Int)) l)=oJ l from by unfold strOfNums oJ;rw[List.map_map];rfl]
def byt(t:Tk):Nat:=if t.k = -2 then 255 else if t.k = -1 then 254 else t.k.toNat
def lC(l:List Tk)(e:Nat):Nat:=l.foldl (fun e t=>max e t.e) e
def wW(R:List Tk)(i0:Nat)(k:Int):Value := .tuple #[.string (oJ ((R.take k.toNat).map byt)), .int .i64 (lC (R.take k.toNat) i0:Nat), .int .i64 0]
end Go.Proofs.YtkjgogdkdejljaaGreatDoor.Lx
namespace Go.Proofs.YtkjgogdkdejljaaGreatDoor.Df
open Lx (Tk Fits dQ eP eD fP vv iy lN)
section
variable {next rule kind : List Int} {kinds : Int} {t : List Nat}
theorem E9(H:Fits next rule kind kinds)(ht:∀ b∈t,b<256)(fr:Nat):∀ (f i e:Nat),t.length-i≤f→i≤t.length →
  (dQ next rule kind t fr f i e).t<(dQ next rule kind t fr f i e).e∧((dQ next rule kind t fr f i e).k = -2→(dQ next rule kind t fr f i e).a=t.length∧(dQ next rule kind t fr f i e).t=t.length)∧((dQ next rule kind t fr f i e).k ≠ -2→(dQ next rule kind t fr f i e).a<(dQ next rule kind t fr f i e).t)
 | 0,i,e,hf,hi=>by
  unfold dQ
  exact⟨Nat.lt_succ_self _,fun _=>⟨rfl,rfl⟩,fun h=>absurd rfl h⟩
 | f+1,i,e,hf,hi=>by
  unfold dQ
  by_cases hlt:i<t.length
  ·rw[if_pos hlt]
   have hx:=vv H ht hlt
   generalize fP next rule t i=x at *
   obtain⟨r,to,ex⟩:=x
   simp only at hx ⊢
   obtain⟨x1,x2,x3,x4,x5,x6,x7⟩:=hx
   by_cases hr:r<0
   ·rw[if_pos (.inl hr)]
    simp only[if_pos hr]
    exact⟨by omega,fun h=>by omega,fun _=>by omega⟩
   ·have hrl:r.toNat<kind.length:=by omega
    have hk:=H.bk _ (Lx.bL hrl)
    rw[if_neg hr]
    generalize kind.getD r.toNat 0=k at *
    split
    ·simp only
     exact⟨by omega,fun h=>by omega,fun _=>by omega⟩
    ·exact E9 H ht fr f to (max e ex) (by omega) (by omega)
  ·rw[if_neg hlt]
   exact⟨Nat.lt_succ_self _,fun _=>⟨rfl,rfl⟩,fun h=>absurd rfl h⟩
structure MI(n i:Nat)(x:Tk):Prop where
 f:x.f=i
 k : -2≤x.k∧x.k<16
 a:i≤x.a
 tt:x.a≤x.t
 nn:x.t≤n
 e:x.t<x.e
 e1:x.e≤n+1
 en:x.k = -2→x.a=n∧x.t=n
 ne:x.k ≠ -2→x.a<x.t
theorem tH(H:Fits next rule kind kinds)(ht:∀ b∈t,b<256){i:Nat}(hi:i≤t.length):MI t.length i (eP next rule kind t i):=by
 obtain⟨h1,h2,h3,h4,h5,h6,h7,_⟩:=lN H ht hi
 obtain⟨g1,g2,g3⟩:=E9 H ht i (t.length-i) i 0 Nat.le.refl hi
 exact⟨h1,⟨h2,h3⟩,h4,h5,h6,g1,h7,g2,g3⟩
inductive jF (n:Nat):Nat→List Tk→Prop where
 | last {i:Nat} {x:Tk} : MI n i x→x.k = -2→jF n i [x]
 | more {i:Nat} {x:Tk} {R:List Tk} : MI n i x→x.k ≠ -2→jF n x.t R→jF n i (x::R)
theorem xW(H:Fits next rule kind kinds)(ht:∀ b∈t,b<256):∀ (m i:Nat),t.length-i≤m→i≤t.length→jF t.length i (eD next rule kind t i)
 | 0,i,hm,hi=>by
  rw[iy H ht hi]
  have h:=tH H ht hi
  have hk:(eP next rule kind t i).k = -2:=Classical.byContradiction fun hk=>by
   have:=h.ne hk
   have:=h.a
   have:=h.nn
   omega
  rw[if_pos hk]
  exact .last h hk
 | m+1,i,hm,hi=>by
  rw[iy H ht hi]
  have h:=tH H ht hi
  by_cases hk:(eP next rule kind t i).k = -2
  ·rw[if_pos hk]
   exact .last h hk
  ·rw[if_neg hk]
   have:=h.ne hk
   have:=h.a
   have:=h.nn
   exact .more h hk (xW H ht m _ (by omega) h.nn)
theorem Bo(H:Fits next rule kind kinds)(ht:∀ b∈t,b<256):∀ (j i:Nat),i≤t.length→∀ x,(eD next rule kind t i)[j]?=some x→x.f≤t.length∧(eD next rule kind t i).drop j=eD next rule kind t x.f
 | 0,i,hi,x,hx=>by
  have h:=tH H ht hi
  have hx2:eP next rule kind t i=x:=by
   rw[iy H ht hi] at hx
   split at hx<;>simpa using hx
  subst hx2
  rw[h.f]
  exact⟨hi,rfl⟩
 | j+1,i,hi,x,hx=>by
  have h:=tH H ht hi
  rw[iy H ht hi] at hx ⊢
  split at hx
  ·simp at hx
  ·rename_i hk
   rw[if_neg hk,List.drop_succ_cons]
   rw[List.getElem?_cons_succ] at hx
   exact Bo H ht j _ h.nn x hx
end
theorem jF.pos{n i:Nat}{R:List Tk}(h:jF n i R):1≤R.length:=by cases h<;>simp
theorem jF.at{n i j:Nat}{R:List Tk}(h:jF n i (R.drop j))(hj:j<R.length):∃ x,R[j]?=some x∧MI n i x∧(x.k = -2↔j+1=R.length)∧(x.k = -2→x.t=n)∧(x.k ≠ -2→jF n x.t (R.drop (j+1))):=by
 rw[List.drop_eq_getElem_cons hj] at h
 refine⟨R[j],List.getElem?_eq_getElem hj,?_⟩
 generalize R[j]=x at h
 have hl:(R.drop (j+1)).length=R.length-(j+1):=List.length_drop
 generalize hr:R.drop (j+1)=r at h hl ⊢
 cases h with
 | last h1 h2 =>
  refine⟨h1,⟨fun _=>?_,fun _=>h2⟩,fun _=>(h1.en h2).2,fun h=>absurd h2 h⟩
  simp at hl
  omega
 | more h1 h2 h3 =>
  refine⟨h1,⟨fun h=>absurd h h2,fun e=>?_⟩,fun h=>absurd h h2,fun _=>h3⟩
  have:=h3.pos
  omega
end Go.Proofs.YtkjgogdkdejljaaGreatDoor.Df
namespace Go.Proofs.YtkjgogdkdejljaaGreatDoor.Df
open Go
def wd(a b c d i:Nat):Nat:=if i=0 then a else if i=1 then b else if i=2 then c else d
def hasB(a b c d x:Nat):Bool:=(wd a b c d (x / 64)).testBit (x % 64)
def upB(a b c d n:Nat):List Nat:=(List.range n).filter (hasB a b c d)
def fE(a b c d:Nat):List Nat:=upB a b c d 256
theorem Bp(a b c d n:Nat):upB a b c d (n+1)=upB a b c d n++(if hasB a b c d n then [n] else []):=by
 unfold upB;rw[List.range_succ,List.filter_append];congr 1;simp[List.filter_cons]
theorem vw(a b c d n:Nat):∀ k,(∀ j,j<k→hasB a b c d (n+j)=false)→upB a b c d (n+k)=upB a b c d n
 | 0,_=>rfl
 | k+1,h=>by
  rw[←Nat.add_assoc,Bp,h k (by omega),vw a b c d n k (fun j hj=>h j (by omega))]
  simp
theorem tK(a b c d n:Nat):(upB a b c d n).length≤n:=by
 have:=List.length_filter_le (hasB a b c d) (List.range n)
 simpa[upB] using this
theorem lQ(x:Nat)(h0:x≠0)(h:x<18446744073709551616):Lib.ctz 64 x<64∧x.testBit (Lib.ctz 64 x)=true∧∀ j,j<Lib.ctz 64 x→x.testBit j=false:=by
 obtain⟨m,hm,hk⟩:=Lib.ctzFrom_spec 64 x (by omega) (by simpa using h)
 have e:Lib.ctz 64 x=Lib.ctzFrom 64 x:=by simp[Lib.ctz,h0]
 rw[e]
 refine⟨hk,?_,fun j hj=>?_⟩
 ·rw[hm,Nat.testBit_two_pow_mul]
  simp[←hm]
 ·rw[hm,Nat.testBit_two_pow_mul]
  have:¬Lib.ctzFrom 64 x≤j:=by omega
  simp[this]
theorem oM(x:Nat)(h0:x≠0)(h:x<18446744073709551616):x &&& (x-1)<x∧∀ j,(x &&& (x-1)).testBit j=(decide (Lib.ctz 64 x+1≤j) && x.testBit j):=by
 obtain⟨m,hm,hk⟩:=Lib.ctzFrom_spec 64 x (by omega) (by simpa using h)
 have e:Lib.ctz 64 x=Lib.ctzFrom 64 x:=by simp[Lib.ctz,h0]
 rw[e]
 generalize Lib.ctzFrom 64 x=k at hm hk
 have hp:0<2 ^ k:=Nat.two_pow_pos k
 have e1:x-1=2 ^ k*(2*m)+(2 ^ k-1):=by rw[hm,Nat.mul_add];omega
 have key:∀ j,(x &&& (x-1)).testBit j=(decide (k+1≤j) && x.testBit j):=by
  intro j
  rw[Nat.testBit_and]
  by_cases h1:j<k
  ·have:x.testBit j=false:=by
    rw[hm,Nat.testBit_two_pow_mul]
    have:¬k≤j:=by omega
    simp[this]
   simp[this]
  ·obtain⟨i,rfl⟩:∃ i,j=k+i:=⟨j-k,by omega⟩
   have hx:x.testBit (k+i)=(2*m+1).testBit i:=by rw[hm,Nat.testBit_two_pow_mul];simp
   have hx1:(x-1).testBit (k+i)=(2*m).testBit i:=by
    rw[e1,Nat.testBit_two_pow_mul_add _ (by omega)]
    have:¬k+i<k:=by omega
    simp[this]
   rw[hx,hx1]
   cases i with
   | zero=>simp[Nat.testBit_zero]
   | succ i =>
    rw[Nat.testBit_succ,Nat.testBit_succ]
    have d1:(2*m+1) / 2=m:=by omega
    have d2:2*m / 2=m:=by omega
    rw[d1,d2]
    simp
 refine⟨?_,key⟩
 have hle:x &&& (x-1)≤x:=Nat.and_le_left
 have hne:x &&& (x-1)≠x:=by
  intro hh
  have h1:=key k
  rw[hh] at h1
  have:x.testBit k=true:=by rw[hm,Nat.testBit_two_pow_mul];simp
  rw[this] at h1
  simp at h1
  omega
 omega
theorem tL(a b c d k t x:Nat)(h0:x≠0)(hx:x<18446744073709551616)(h:∀ j,x.testBit j=(decide (t≤j) && (wd a b c d k).testBit j)) :
  t≤Lib.ctz 64 x∧upB a b c d (64*k+(Lib.ctz 64 x+1))=upB a b c d (64*k+t)++[64*k+Lib.ctz 64 x]:=by
 obtain⟨hk,h1,h2⟩:=lQ x h0 hx
 have ht':t≤Lib.ctz 64 x:=by
  rw[h] at h1
  simp at h1
  exact h1.1
 refine⟨ht',?_⟩
 have hb:∀ j,j<64→hasB a b c d (64*k+j)=(wd a b c d k).testBit j:=fun j hj=>by
  unfold hasB
  have e1:(64*k+j) / 64=k:=by omega
  have e2:(64*k+j) % 64=j:=by omega
  rw[e1,e2]
 have hw:∀ j,t≤j→j<Lib.ctz 64 x→(wd a b c d k).testBit j=false:=fun j h3 h4=>by
  have:=h2 j h4
  rw[h] at this
  simpa[h3] using this
 rw[←Nat.add_assoc,Bp]
 have e:=vw a b c d (64*k+t) (Lib.ctz 64 x-t) (fun j hj=>by
  have:64*k+t+j=64*k+(t+j):=by omega
  rw[this,hb _ (by omega)]
  exact hw _ (by omega) (by omega))
 have e3:64*k+t+(Lib.ctz 64 x-t)=64*k+Lib.ctz 64 x:=by omega
 rw[e3] at e
 rw[e,hb _ hk]
 rw[h] at h1
 have h1:=h1
 simp at h1
 rw[if_pos h1.2]
theorem tN(a b c d k t:Nat)(ht:t≤64)(h:∀ j,(0:Nat).testBit j=(decide (t≤j) && (wd a b c d k).testBit j)) :
  upB a b c d (64*(k+1))=upB a b c d (64*k+t):=by
 have e:=vw a b c d (64*k+t) (64-t) (fun j hj=>by
  unfold hasB
  have e1:(64*k+t+j) / 64=k:=by omega
  have e2:(64*k+t+j) % 64=t+j:=by omega
  rw[e1,e2]
  have:=h (t+j)
  simp at this
  exact this)
 rw[←e]
 congr 1
 omega
theorem left_step{x t c v:Nat}(h:∀ j,x.testBit j=(decide (t≤j) && v.testBit j))(hd:∀ j,(x &&& (x-1)).testBit j=(decide (c+1≤j) && x.testBit j))(ht:t≤c) :
  ∀ j,(x &&& (x-1)).testBit j=(decide (c+1≤j) && v.testBit j):=fun j=>by
 rw[hd,h]
 by_cases h1:c+1≤j
 ·have h2:t≤j:=by omega
  simp[h1,h2]
 ·simp[h1]
def cw(l:List Nat)(i:Nat):Nat:=l.foldl (fun w b=>if b / 64=i then w ||| 2 ^ (b % 64) else w) 0
theorem zx(l:List Nat)(b i:Nat):cw (l++[b]) i=if b / 64=i then cw l i ||| 2 ^ (b % 64) else cw l i:=by simp[cw]
theorem jN(i:Nat):cw [] i=0:=rfl
theorem fD(l:List Nat)(i:Nat):cw l i<18446744073709551616:=by
 unfold cw
 suffices h:∀(l:List Nat)(w:Nat),w<2 ^ 64→l.foldl (fun w b=>if b / 64=i then w ||| 2 ^ (b % 64) else w) w<2 ^ 64 from by simpa using h l 0 (by decide)
 intro l
 induction l with
 | nil=>intro w h;exact h
 | cons b l ih =>
  intro w h
  rw[List.foldl_cons]
  apply ih
  split
  ·exact Nat.or_lt_two_pow h (Nat.pow_lt_pow_right (by decide) (Nat.mod_lt _ (by decide)))
  ·exact h
theorem JD(i j:Nat)(hj:j<64)(l:List Nat):(cw l i).testBit j=decide (64*i+j∈l):=by
 unfold cw
 suffices h:∀(l:List Nat)(w:Nat),(l.foldl (fun w b=>if b / 64=i then w ||| 2 ^ (b % 64) else w) w).testBit j=(w.testBit j || decide (64*i+j∈l)) from by simpa using h l 0
 intro l
 induction l with
 | nil=>intro w;simp
 | cons b l ih =>
  intro w
  rw[List.foldl_cons,ih]
  by_cases hb:b / 64=i
  ·rw[if_pos hb,Nat.testBit_or,Nat.testBit_two_pow]
   by_cases hm:b % 64=j
   ·have:64*i+j=b:=by omega
    simp[hm,this]
   ·have:¬ 64*i+j=b:=by omega
    simp[hm,this]
  ·rw[if_neg hb]
   have:¬ 64*i+j=b:=by omega
   simp[this]
theorem TY(l:List Nat)(i:Nat)(hi:i<4):wd (cw l 0) (cw l 1) (cw l 2) (cw l 3) i=cw l i:=by
 obtain rfl | rfl | rfl | rfl:i=0∨i=1∨i=2∨i=3:=by omega
 all_goals rfl
theorem Qs(l:List Nat)(b:Nat)(hb:b<256):hasB (cw l 0) (cw l 1) (cw l 2) (cw l 3) b=decide (b∈l):=by
 unfold hasB
 rw[TY l _ (by omega),JD _ _ (by omega)]
 have:64*(b / 64)+b % 64=b:=by omega
 rw[this]
theorem Bu{x y:Nat}(hx:x<18446744073709551616)(hy:y<18446744073709551616)(h:∀ j,j<64→x.testBit j=y.testBit j):x=y:=by
 apply Nat.eq_of_testBit_eq
 intro j
 rcases Nat.lt_or_ge j 64 with hj | hj
 ·exact h j hj
 ·have e:18446744073709551616≤2 ^ j:=Nat.le_trans (by decide:18446744073709551616≤2 ^ 64) (Nat.pow_le_pow_right (by decide) hj)
  rw[Nat.testBit_lt_two_pow (Nat.lt_of_lt_of_le hx e),Nat.testBit_lt_two_pow (Nat.lt_of_lt_of_le hy e)]
theorem zy{a b c d n x:Nat} : x∈upB a b c d n↔x<n∧hasB a b c d x=true:=by
 unfold upB
 rw[List.mem_filter]
 simp
theorem qJ(a b c d i j:Nat)(hj:j<64):hasB a b c d (64*i+j)=(wd a b c d i).testBit j:=by
 unfold hasB
 have e1:(64*i+j) / 64=i:=by omega
 have e2:(64*i+j) % 64=j:=by omega
 rw[e1,e2]
theorem T9(a b c d i:Nat)(hi:i<4)(hw:∀ k,wd a b c d k<18446744073709551616):cw (fE a b c d) i=wd a b c d i :=
 Bu (fD _ _) (hw i) fun j hj=>by
  rw[JD i j hj]
  unfold fE
  rw[←qJ a b c d i j hj]
  cases h:hasB a b c d (64*i+j) with
  | true=>simpa using zy.2 ⟨by omega,h⟩
  | false=>simpa using fun hm=>by rw[(zy.1 hm).2] at h;cases h
def wlt(a0 a1 a2 a3:Nat):Prop:=∀ k,wd a0 a1 a2 a3 k<18446744073709551616
def rng(low high:Nat):List Nat:=List.range' low (high+1-low)
theorem Fh{low high x:Nat} : x∈rng low high↔low≤x∧x≤high:=by
 unfold rng
 rw[List.mem_range'_1]
 omega
def nw(a:Nat):Nat:=18446744073709551615 ^^^ a
theorem lS(a:Nat)(h:a<18446744073709551616):nw a<18446744073709551616:=Nat.xor_lt_two_pow (n:=64) (by decide) h
theorem JE(j:Nat)(hj:j<64):(18446744073709551615:Nat).testBit j=true:=by
 rw[show (18446744073709551615:Nat)=2 ^ 64-1 from by decide,Nat.testBit_two_pow_sub_one]
 simpa using hj
theorem Qt(a j:Nat)(hj:j<64):(nw a).testBit j = !a.testBit j:=by
 unfold nw
 rw[Nat.testBit_xor,JE j hj]
 simp
theorem qg{a0 a1 a2 a3:Nat}(h0:a0<18446744073709551616)(h1:a1<18446744073709551616)(h2:a2<18446744073709551616)(h3:a3<18446744073709551616):wlt a0 a1 a2 a3:=fun k=>by
 unfold wd;split;exact h0;split;exact h1;split;exact h2;exact h3
section
variable {a0 a1 a2 a3 b0 b1 b2 b3 : Nat}
theorem Qu(h:wlt a0 a1 a2 a3):wlt (nw a0) (nw a1) (nw a2) (nw a3):=qg (lS _ (h 0)) (lS _ (h 1)) (lS _ (h 2)) (lS _ (h 3))
theorem Qv(h:wlt a0 a1 a2 a3)(k:wlt b0 b1 b2 b3):wlt (a0 ||| b0) (a1 ||| b1) (a2 ||| b2) (a3 ||| b3) :=
 qg (Nat.or_lt_two_pow (n:=64) (h 0) (k 0)) (Nat.or_lt_two_pow (n:=64) (h 1) (k 1)) (Nat.or_lt_two_pow (n:=64) (h 2) (k 2)) (Nat.or_lt_two_pow (n:=64) (h 3) (k 3))
theorem MN(k:wlt b0 b1 b2 b3):wlt (a0 &&& b0) (a1 &&& b1) (a2 &&& b2) (a3 &&& b3) :=
 qg (Nat.and_lt_two_pow (n:=64) _ (k 0)) (Nat.and_lt_two_pow (n:=64) _ (k 1)) (Nat.and_lt_two_pow (n:=64) _ (k 2)) (Nat.and_lt_two_pow (n:=64) _ (k 3))
theorem Qw(i:Nat):wd (a0 &&& b0) (a1 &&& b1) (a2 &&& b2) (a3 &&& b3) i=wd a0 a1 a2 a3 i &&& wd b0 b1 b2 b3 i:=by
 unfold wd;split;rfl;split;rfl;split<;>rfl
theorem JF(x:Nat):hasB (a0 &&& b0) (a1 &&& b1) (a2 &&& b2) (a3 &&& b3) x=(hasB a0 a1 a2 a3 x && hasB b0 b1 b2 b3 x):=by
 unfold hasB;rw[Qw,Nat.testBit_and]
end
structure Kl where
 a:Nat
 b:Nat
 c:Nat
 d:Nat
 h:wlt a b c d
namespace Kl
def zero:Kl:=⟨0,0,0,0,qg (by decide) (by decide) (by decide) (by decide)⟩
instance:Inhabited Kl:=⟨zero⟩
def has(x:Kl)(i:Nat):Bool:=hasB x.a x.b x.c x.d i
def by_(x:Kl):List Nat:=fE x.a x.b x.c x.d
def and(x y:Kl):Kl:=⟨x.a &&& y.a,x.b &&& y.b,x.c &&& y.c,x.d &&& y.d,MN y.h⟩
def or(x y:Kl):Kl:=⟨x.a ||| y.a,x.b ||| y.b,x.c ||| y.c,x.d ||| y.d,Qv x.h y.h⟩
def not(x:Kl):Kl:=⟨nw x.a,nw x.b,nw x.c,nw x.d,Qu x.h⟩
def ofL(l:List Nat):Kl:=⟨cw l 0,cw l 1,cw l 2,cw l 3,qg (fD _ _) (fD _ _) (fD _ _) (fD _ _)⟩
def full:Kl:=ofL (rng 0 255)
def isZ(x:Kl):Bool:=x.a == 0 && (x.b == 0 && (x.c == 0 && x.d == 0))
theorem MO{x y:Kl}(h0:x.a=y.a)(h1:x.b=y.b)(h2:x.c=y.c)(h3:x.d=y.d):x=y:=by
 cases x;cases y;simp only at h0 h1 h2 h3;subst h0 h1 h2 h3;rfl
theorem MP{x y:Kl}(h:∀ i,i<256→x.has i=y.has i):x=y:=by
 have key:∀ k,k<4→wd x.a x.b x.c x.d k=wd y.a y.b y.c y.d k:=fun k hk =>
  Bu (x.h k) (y.h k) fun j hj=>by
   rw[←qJ _ _ _ _ k j hj,←qJ _ _ _ _ k j hj]
   exact h _ (by omega)
 exact MO (key 0 (by decide)) (key 1 (by decide)) (key 2 (by decide)) (key 3 (by decide))
theorem jG(x y:Kl)(i:Nat):(x.and y).has i=(x.has i && y.has i):=JF i
theorem tO(x:Kl)(i:Nat)(hi:i<256):x.not.has i = !x.has i:=by
 show hasB (nw x.a) (nw x.b) (nw x.c) (nw x.d) i=_
 unfold has hasB
 have e:wd (nw x.a) (nw x.b) (nw x.c) (nw x.d) (i / 64)=nw (wd x.a x.b x.c x.d (i / 64)):=by unfold wd;split;rfl;split;rfl;split<;>rfl
 rw[e,Qt _ _ (by omega)]
theorem MQ(l:List Nat)(i:Nat)(hi:i<256):(ofL l).has i=decide (i∈l):=Qs l i hi
theorem Bv(i:Nat)(hi:i<256):full.has i=true:=by
 unfold full
 rw[MQ _ i hi]
 simp only[Fh]
 simp;omega
theorem Bw(i:Nat):zero.has i=false:=by
 have e:wd 0 0 0 0 (i / 64)=0:=by unfold wd;split;rfl;split;rfl;split<;>rfl
 show hasB 0 0 0 0 i=false
 unfold hasB
 rw[e];simp
theorem oO(x:Kl):x.isZ=true↔x=zero:=by
 unfold isZ
 simp only[Bool.and_eq_true,beq_iff_eq]
 exact⟨fun ⟨h0,h1,h2,h3⟩=>MO h0 h1 h2 h3,fun h=>by subst h;exact⟨rfl,rfl,rfl,rfl⟩⟩
theorem vB{x:Kl}{i:Nat} : i∈x.by_↔i<256∧x.has i=true:=zy
theorem zA{x:Kl}(h:x.isZ=false):∃ i,i<256∧x.has i=true:=by
 false_or_by_contra
 rename_i hn
 have:x=zero:=MP fun i hi=>by
  rw[Bw]
  cases hx:x.has i with
  | false=>rfl
  | true=>exact(hn ⟨i,hi,hx⟩).elim
 rw[(oO x).2 this] at h
 cases h
theorem xY{x:Kl}{i:Nat}(h:x.has i=true):x.isZ=false:=by
 cases hz:x.isZ with
 | false=>rfl
 | true=>rw[(oO x).1 hz,Bw] at h;cases h
def low(x:Kl):Nat:=x.by_.headD 0
theorem MR{x:Kl}{i:Nat}(h:x.has i=true)(hi:i<256):x.low∈x.by_∧x.low≤i:=by
 have hm:i∈x.by_:=vB.2 ⟨hi,h⟩
 have hs:x.by_.Pairwise (· < ·):=by
  unfold by_ fE upB
  exact List.Pairwise.filter _ List.pairwise_lt_range
 unfold low
 cases hx:x.by_ with
 | nil=>rw[hx] at hm;cases hm
 | cons y l =>
  rw[hx] at hm hs
  refine⟨List.mem_cons_self,?_⟩
  rcases List.mem_cons.1 hm with rfl | hm
  ·exact Nat.le_refl _
  ·exact Nat.le_of_lt ((List.pairwise_cons.1 hs).1 _ hm)
theorem JG(x:Kl):x.low<256:=by
 unfold low
 cases h:x.by_ with
 | nil=>decide
 | cons y l=>exact(vB.1 (h ▸ List.mem_cons_self:y∈x.by_)).1
end Kl
open Kl
def halves(c x:Kl):List Kl:=(if (x.and c).isZ then [] else [x.and c])++(if (x.and c.not).isZ then [] else [x.and c.not])
def stp(out:List Kl)(c:Kl):List Kl:=out.flatMap (halves c)
def parts(l:List Kl):List Kl:=l.foldl stp [full]
def Apart(l:List Kl)(p q:Kl):Prop:=∀ i j,i<256→j<256→p.has i=true→q.has j=true→∃ c∈l,c.has i≠c.has j
structure dU(l out:List Kl):Prop where
 some:∀ p∈out,∃ i,i<256∧p.has i=true
 same:∀ p∈out,∀ i j,i<256→j<256→p.has i=true→p.has j=true→∀ c∈l,c.has i=c.has j
 apart:out.Pairwise (Apart l)
 all:∀ i,i<256→∃ p∈out,p.has i=true
theorem jr{c x p:Kl} : p∈halves c x↔(p=x.and c∨p=x.and c.not)∧p.isZ=false:=by
 unfold halves
 rw[List.mem_append]
 constructor
 ·rintro (h | h)
  ·split at h
   ·cases h
   ·rename_i hz
    obtain rfl:=List.mem_singleton.1 h
    exact⟨.inl rfl,by simpa using hz⟩
  ·split at h
   ·cases h
   ·rename_i hz
    obtain rfl:=List.mem_singleton.1 h
    exact⟨.inr rfl,by simpa using hz⟩
 ·rintro⟨rfl | rfl,h⟩
  ·exact .inl (by rw[if_neg (by simp[h])];exact List.mem_singleton.2 rfl)
  ·exact .inr (by rw[if_neg (by simp[h])];exact List.mem_singleton.2 rfl)
theorem kG{c x p:Kl}(h:p∈halves c x){i:Nat}(hi:p.has i=true):x.has i=true:=by
 rcases (jr.1 h).1 with rfl | rfl<;>rw[jG] at hi<;>simp at hi<;>exact hi.1
theorem DV(c x:Kl):(halves c x).length≤2:=by
 unfold halves
 rw[List.length_append]
 split<;>split<;>simp
theorem dU.start:dU [] [full] where
 some p hp:=by obtain rfl:=List.mem_singleton.1 hp;exact⟨0,by decide,Bv 0 (by decide)⟩
 same p hp i j _ _ _ _ c hc:=by cases hc
 apart:=List.pairwise_singleton _ _
 all i hi:=⟨full,List.mem_singleton.2 rfl,Bv i hi⟩
theorem dU.step{l out:List Kl}(h:dU l out)(c:Kl):dU (l++[c]) (stp out c) where
 some p hp:=by
  obtain⟨x,_,hp⟩:=List.mem_flatMap.1 hp
  exact zA (jr.1 hp).2
 same p hp i j hi hj h1 h2 c' hc':=by
  obtain⟨x,hx,hp⟩:=List.mem_flatMap.1 hp
  rcases List.mem_append.1 hc' with hc' | hc'
  ·exact h.same x hx i j hi hj (kG hp h1) (kG hp h2) c' hc'
  ·obtain rfl:=List.mem_singleton.1 hc'
   rcases (jr.1 hp).1 with rfl | rfl
   ·rw[jG] at h1 h2;simp at h1 h2;rw[h1.2,h2.2]
   ·rw[jG,tO _ _ hi] at h1;rw[jG,tO _ _ hj] at h2;simp at h1 h2;rw[h1.2,h2.2]
 apart:=by
  unfold stp
  rw[List.pairwise_flatMap]
  refine⟨fun x hx=>?_,h.apart.imp fun {x y} hxy p hp q hq i j hi hj h1 h2=>?_⟩
  ·have hpq:Apart (l++[c]) (x.and c) (x.and c.not):=fun i j hi hj h1 h2=>by
    refine⟨c,List.mem_append.2 (.inr (List.mem_singleton.2 rfl)),?_⟩
    rw[jG] at h1;rw[jG,tO _ _ hj] at h2;simp at h1 h2;rw[h1.2,h2.2];decide
   unfold halves
   split<;>split
   ·exact List.Pairwise.nil
   ·exact List.pairwise_singleton _ _
   ·exact List.pairwise_singleton _ _
   ·exact List.Pairwise.cons (fun y hy=>by obtain rfl:=List.mem_singleton.1 hy;exact hpq) (List.pairwise_singleton _ _)
  ·obtain⟨c',hc',hne⟩:=hxy i j hi hj (kG hp h1) (kG hq h2)
   exact⟨c',List.mem_append.2 (.inl hc'),hne⟩
 all i hi:=by
  obtain⟨x,hx,hxi⟩:=h.all i hi
  cases hc:c.has i with
  | true =>
   have hh:(x.and c).has i=true:=by rw[jG,hxi,hc];rfl
   exact⟨_,List.mem_flatMap.2 ⟨x,hx,jr.2 ⟨.inl rfl,xY hh⟩⟩,hh⟩
  | false =>
   have hh:(x.and c.not).has i=true:=by rw[jG,tO _ _ hi,hxi,hc];rfl
   exact⟨_,List.mem_flatMap.2 ⟨x,hx,jr.2 ⟨.inr rfl,xY hh⟩⟩,hh⟩
theorem MS(out:List Kl)(c:Kl):(stp out c).length≤2*out.length:=by
 unfold stp
 induction out with
 | nil=>simp
 | cons x l ih=>rw[List.flatMap_cons,List.length_append,List.length_cons];have:=DV c x;omega
theorem DW(l:List Kl)(c:Kl):parts (l++[c])=stp (parts l) c:=by simp[parts]
theorem dU.more:∀ (l:List Kl) {l0 out:List Kl},dU l0 out→dU (l0++l) (l.foldl stp out)
 | [],l0,out,h=>by rw[List.append_nil];exact h
 | c::l,l0,out,h=>by
  have:=dU.more l (h.step c)
  rwa [List.append_assoc] at this
theorem oP(l:List Kl):dU l (parts l):=dU.more l .start
theorem dU.perm{l out out':List Kl}(h:dU l out)(hp:out'.Perm out):dU l out' where
 some p hm:=h.some p (hp.mem_iff.1 hm)
 same p hm:=h.same p (hp.mem_iff.1 hm)
 apart:=hp.symm.pairwise h.apart fun {p q} hpq i j hi hj h1 h2=>by
  obtain⟨c,hc,hne⟩:=hpq j i hj hi h2 h1
  exact⟨c,hc,fun e=>hne e.symm⟩
 all i hi:=by
  obtain⟨p,hm,hh⟩:=h.all i hi
  exact⟨p,hp.mem_iff.2 hm,hh⟩
end Go.Proofs.YtkjgogdkdejljaaGreatDoor.Df
namespace Go.Proofs.YtkjgogdkdejljaaGreatDoor.Df
open Go Go.Proofs Go.RowKit
attribute [local go_sem] Oper.semAt_some
def aJ(w:World)(a:Option Addr)(l:List Int):Prop:=l≠[]→∃ b off,a=some ⟨b,off,none⟩∧b<w.heap.size∧∀ j (h:j<l.length),w.cell? ⟨b,off+j,none⟩=some (.int .i64 l[j])
theorem aJ.below{n:Nat}{w w':World}{a:Option Addr}{l:List Int}(h:aJ w a l)(hb:Below n w w')(hn:w.heap.size≤n):aJ w' a l:=fun h0=>by
 obtain⟨b,off,rfl,h1,h2⟩:=h h0
 exact⟨b,off,rfl,Nat.lt_of_lt_of_le h1 hb.size,fun j hj=>(hb.cell (p:=⟨b,off+j,none⟩) (by simp only;omega)).trans (h2 j hj)⟩
theorem aJ.at{w:World}{a:Option Addr}{l:List Int}(h:aJ w a l){j:Nat}(hj:j<l.length):∃ b off,a=some ⟨b,off,none⟩∧b<w.heap.size∧w.cell? ⟨b,off+j,none⟩=some (.int .i64 l[j]):=by
 obtain⟨b,off,h0,h1,h2⟩:=h (by intro e;subst e;simp at hj)
 exact⟨b,off,h0,h1,h2 j hj⟩
def dV(an ar:Option Addr)(n r cn cr:Nat):Value := .agg #[.slice an n cn, .slice ar r cr]
def inR(lo hi:Int)(l:List Int):Bool:=l.all fun x=>decide (lo≤x) && decide (x<hi)
def okT(next rule:List Int):Bool:=decide (1≤rule.length) && (decide (rule.length≤512) && (decide (next.length=256*rule.length) && (inR (-1) 16 rule && inR (-1) rule.length next)))
def dH(next rule:List Int):Int:=if okT next rule=true then 0 else 2
theorem iQ(next rule:List Int)(hn:next.length≤1000000)(hr:rule.length≤1000000)(an ar:Option Addr)(cn cr:Nat)(w:World)(hN:aJ w an next)(hR:aJ w ar rule) :
  Calls Tryz.prog 36 #[.agg #[.slice an next.length cn, .slice ar rule.length cr]] w fun e w'=>e = .returned (.int .i64 (dH next rule))∧Below w.heap.size w w' :=
 Lx.iQ next rule hn hr an ar cn cr w hN hR
def Dv(w:World)(a:Option Addr)(l:List Kl):Prop:=l≠[]→∃ b off,a=some ⟨b,off,none⟩∧b<w.heap.size∧∀ j (h:j<l.length),w.cell? ⟨b,off+j*4,none⟩=some (.int .u64 (l[j].a:Nat))∧w.cell? ⟨b,off+j*4+1,none⟩=some (.int .u64 (l[j].b:Nat))∧w.cell? ⟨b,off+j*4+2,none⟩=some (.int .u64 (l[j].c:Nat))∧w.cell? ⟨b,off+j*4+3,none⟩=some (.int .u64 (l[j].d:Nat))
theorem Dv.below{n:Nat}{w w':World}{a:Option Addr}{l:List Kl}(h:Dv w a l)(hb:Below n w w')(hn:w.heap.size≤n):Dv w' a l:=fun h0=>by
 obtain⟨b,off,rfl,h1,h2⟩:=h h0
 refine⟨b,off,rfl,Nat.lt_of_lt_of_le h1 hb.size,fun j hj=>?_⟩
 obtain⟨c0,c1,c2,c3⟩:=h2 j hj
 exact⟨(hb.cell (p:=⟨b,off+j*4,none⟩) (by simp only;omega)).trans c0,(hb.cell (p:=⟨b,off+j*4+1,none⟩) (by simp only;omega)).trans c1,(hb.cell (p:=⟨b,off+j*4+2,none⟩) (by simp only;omega)).trans c2,(hb.cell (p:=⟨b,off+j*4+3,none⟩) (by simp only;omega)).trans c3⟩
def MV(w:World)(a:Option Addr)(l:List (List Int)):Prop:=l≠[]→∃ b off,a=some ⟨b,off,none⟩∧b<w.heap.size∧∀ j (h:j<l.length),∃ la c,w.cell? ⟨b,off+j,none⟩=some (.slice la l[j].length c)∧aJ w la l[j]
theorem MV.below{n:Nat}{w w':World}{a:Option Addr}{l:List (List Int)}(h:MV w a l)(hb:Below n w w')(hn:w.heap.size≤n):MV w' a l:=fun h0=>by
 obtain⟨b,off,rfl,h1,h2⟩:=h h0
 refine⟨b,off,rfl,Nat.lt_of_lt_of_le h1 hb.size,fun j hj=>?_⟩
 obtain⟨la,c,c0,c1⟩:=h2 j hj
 exact⟨la,c,(hb.cell (p:=⟨b,off+j,none⟩) (by simp only;omega)).trans c0,c1.below hb hn⟩
structure Nf where
 cl:List Kl
 nx:List (List Int)
 ru:List Int
def nfV(ac an ar:Option Addr)(nc nn nr cc cn cr:Nat):Value := .agg #[.slice ac nc cc, .slice an nn cn, .slice ar nr cr]
structure qy(w:World)(N:Nf)(ac an ar:Option Addr):Prop where
 c:Dv w ac N.cl
 n:MV w an N.nx
 r:aJ w ar N.ru
theorem qy.below{n:Nat}{w w':World}{N:Nf}{ac an ar:Option Addr}(h:qy w N ac an ar)(hb:Below n w w')(hn:w.heap.size≤n):qy w' N ac an ar:=⟨h.c.below hb hn,h.n.below hb hn,h.r.below hb hn⟩
def Up(k:Int):Int→List Int→Prop
 | _,[]=>True
 | last,t::l=>last<t∧t<k∧Up k t l
structure uG(N:Nf):Prop where
 one:1≤N.cl.length
 most:N.cl.length≤1024
 nx:N.nx.length=N.cl.length
 ru:N.ru.length=N.cl.length
 zero:N.cl.head?=some Kl.zero
 up:∀ l∈N.nx,Up N.cl.length 0 l
 rule:∀ r∈N.ru,-1≤r∧r<16
open Classical in
noncomputable def ckN(N:Nf):Int:=if uG N then 0 else 2
end Go.Proofs.YtkjgogdkdejljaaGreatDoor.Df
namespace Go.Proofs.YtkjgogdkdejljaaGreatDoor.Rx
abbrev Lg:=List Int→Prop
def eU:Lg:=fun _=>False
def mQ:Lg:=fun s=>s = []
def lor(A B:Lg):Lg:=fun s=>A s∨B s
def zZ(A B:Lg):Lg:=fun s=>∃ u v,s=u++v∧A u∧B v
inductive nu (A:Lg):Lg
 | nil:nu A []
 | more {u v:List Int} : A u→nu A v→nu A (u++v)
inductive Path (H:Nat→Int→Prop) (G:Nat→Nat→Prop) (L:Nat→Prop):Nat→List Int→Prop
 | one {p:Nat} {c:Int} : H p c→L p→Path H G L p [c]
 | cons {p q:Nat} {c:Int} {s:List Int} : H p c→G p q→Path H G L q s→Path H G L p (c::s)
def Run(H:Nat→Int→Prop)(F L:Nat→Prop)(G:Nat→Nat→Prop)(s:List Int):Prop:=∃ p,F p∧Path H G L p s
variable {H : Nat → Int → Prop} {G G' G1 G2 : Nat → Nat → Prop} {L L' L1 L2 F F1 F2 P P1 P2 : Nat → Prop}
theorem Path.inside(hG:∀ p q,P p→G p q→G' p q∧P q)(hL:∀ p,P p→L p→L' p){p:Nat}{s:List Int}(h:Path H G L p s):P p→Path H G' L' p s:=by
 induction h with
 | one hc hl=>intro hp;exact .one hc (hL _ hp hl)
 | cons hc hg _ ih=>intro hp;exact .cons hc (hG _ _ hp hg).1 (ih (hG _ _ hp hg).2)
theorem Path.mono(hG:∀ p q,G p q→G' p q)(hL:∀ p,L p→L' p){p:Nat}{s:List Int}(h:Path H G L p s):Path H G' L' p s :=
 h.inside (P:=fun _=>True) (fun p q _ hg=>⟨hG p q hg,trivial⟩) (fun p _ hl=>hL p hl) trivial
theorem Path.append(hJ:∀ p q,L1 p→F q→G p q){p q:Nat}{u v:List Int}(h:Path H G L1 p u)(hq:F q)(hv:Path H G L q v):Path H G L p (u++v):=by
 induction h with
 | one hc hl=>exact .cons hc (hJ _ _ hl hq) hv
 | cons hc hg _ ih=>exact .cons hc hg ih
structure Good(H:Nat→Int→Prop)(P:Nat→Prop)(e:Prop)(F L:Nat→Prop)(G:Nat→Nat→Prop)(A:Lg):Prop where
 f:∀ p,F p→P p
 l:∀ p,L p→P p
 g:∀ p q,G p q→P p∧P q
 a:∀ s,A s↔(e∧s = [])∨Run H F L G s
theorem Good.of{e e':Prop}{F':Nat→Prop}{P':Nat→Prop}{A A':Lg}(h:Good H P e F L G A)(hP:∀ p,P p→P' p)(he:e'↔e)(hF:∀ p,F' p↔F p)(hL:∀ p,L' p↔L p)(hG:∀ p q,G' p q↔G p q)(hA:∀ s,A' s↔A s):Good H P' e' F' L' G' A' where
 f:=fun p x=>hP p (h.f p ((hF p).1 x))
 l:=fun p x=>hP p (h.l p ((hL p).1 x))
 g:=fun p q x=>⟨hP p (h.g p q ((hG p q).1 x)).1,hP q (h.g p q ((hG p q).1 x)).2⟩
 a:=fun s=>by
  rw[hA,h.a,he]
  constructor
  ·rintro (x | ⟨p,x,y⟩)
   ·exact .inl x
   ·exact .inr ⟨p,(hF p).2 x,y.mono (fun p q=>(hG p q).2) (fun p=>(hL p).2)⟩
  ·rintro (x | ⟨p,x,y⟩)
   ·exact .inl x
   ·exact .inr ⟨p,(hF p).1 x,y.mono (fun p q=>(hG p q).1) (fun p=>(hL p).1)⟩
theorem Cq:Good H (fun _=>False) True (fun _=>False) (fun _=>False) (fun _ _=>False) mQ where
 f:=fun _ x=>x.elim
 l:=fun _ x=>x.elim
 g:=fun _ _ x=>x.elim
 a:=fun s=>by simp[mQ,Run]
theorem Hq:Good H (fun _=>False) False (fun _=>False) (fun _=>False) (fun _ _=>False) eU where
 f:=fun _ x=>x.elim
 l:=fun _ x=>x.elim
 g:=fun _ _ x=>x.elim
 a:=fun s=>by simp[eU,Run]
theorem Hr(i:Nat):Good H (fun p=>p=i) False (fun p=>p=i) (fun p=>p=i) (fun _ _=>False) (fun s=>∃ c,s = [c]∧H i c) where
 f:=fun _ x=>x
 l:=fun _ x=>x
 g:=fun _ _ x=>x.elim
 a:=fun s=>by
  constructor
  ·rintro⟨c,rfl,hc⟩;exact .inr ⟨i,rfl, .one hc rfl⟩
  ·rintro (⟨x,_⟩ | ⟨p,rfl,y⟩)
   ·exact x.elim
   ·cases y with
    | one hc _=>exact⟨_,rfl,hc⟩
    | cons _ hg _=>exact hg.elim
theorem ND{e2:Prop}(hd:∀ p,P1 p→P2 p→False)(hf2:∀ p,F2 p→P2 p)(hl2:∀ p,L2 p→P2 p)(hg1:∀ p q,G1 p q→P1 p∧P1 q)(hg2:∀ p q,G2 p q→P2 p∧P2 q)(hl1:∀ p,L1 p→P1 p)
  {p:Nat} {s:List Int} (h:Path H (fun p q=>G1 p q∨G2 p q∨(L1 p∧F2 q)) (fun p=>L2 p∨(e2∧L1 p)) p s) :
  P1 p→(Path H G1 L1 p s∧e2)∨∃ u v q,s=u++v∧Path H G1 L1 p u∧F2 q∧Path H G2 L2 q v:=by
 induction h with
 | one hc hl =>
  intro hp
  rcases hl with hl | ⟨he,hl⟩
  ·exact(hd _ hp (hl2 _ hl)).elim
  ·exact .inl ⟨.one hc hl,he⟩
 | cons hc hg hr ih =>
  intro hp
  rcases hg with hg | hg | ⟨hl,hf⟩
  ·rcases ih (hg1 _ _ hg).2 with ⟨x,he⟩ | ⟨u,v,q,rfl,x,y,z⟩
   ·exact .inl ⟨.cons hc hg x,he⟩
   ·exact .inr ⟨_::u,v,q,rfl, .cons hc hg x,y,z⟩
  ·exact(hd _ hp (hg2 _ _ hg).1).elim
  ·refine .inr ⟨[_],_,_,rfl, .one hc hl,hf,hr.inside (P:=P2) ?_ ?_ (hf2 _ hf)⟩
   ·rintro a b ha (x | x | ⟨x,_⟩)
    ·exact(hd _ (hg1 _ _ x).1 ha).elim
    ·exact⟨x,(hg2 _ _ x).2⟩
    ·exact(hd _ (hl1 _ x) ha).elim
   ·rintro a ha (x | ⟨_,x⟩)
    ·exact x
    ·exact(hd _ (hl1 _ x) ha).elim
theorem Kw{e1 e2:Prop}{A1 A2:Lg}(h1:Good H P1 e1 F1 L1 G1 A1)(h2:Good H P2 e2 F2 L2 G2 A2)(hd:∀ p,P1 p→P2 p→False) :
  Good H (fun p=>P1 p∨P2 p) (e1∧e2) (fun p=>F1 p∨(e1∧F2 p)) (fun p=>L2 p∨(e2∧L1 p)) (fun p q=>G1 p q∨G2 p q∨(L1 p∧F2 q)) (zZ A1 A2) where
 f:=fun p x=>x.elim (fun y => .inl (h1.f p y)) (fun y => .inr (h2.f p y.2))
 l:=fun p x=>x.elim (fun y => .inr (h2.l p y)) (fun y => .inl (h1.l p y.2))
 g:=fun p q x=>by
  rcases x with x | x | ⟨x,y⟩
  ·exact⟨.inl (h1.g _ _ x).1, .inl (h1.g _ _ x).2⟩
  ·exact⟨.inr (h2.g _ _ x).1, .inr (h2.g _ _ x).2⟩
  ·exact⟨.inl (h1.l _ x), .inr (h2.f _ y)⟩
 a:=fun s=>by
  constructor
  ·rintro⟨u,v,rfl,hu,hv⟩
   rcases (h1.a u).1 hu with ⟨e,rfl⟩ | ⟨p,hp,x⟩<;>rcases (h2.a v).1 hv with ⟨e',rfl⟩ | ⟨q,hq,y⟩
   ·exact .inl ⟨⟨e,e'⟩,rfl⟩
   ·exact .inr ⟨q, .inr ⟨e,hq⟩,y.mono (fun _ _ z => .inr (.inl z)) (fun _ z => .inl z)⟩
   ·exact .inr ⟨p, .inl hp,by rw[List.append_nil];exact x.mono (fun _ _ z => .inl z) (fun _ z => .inr ⟨e',z⟩)⟩
   ·exact .inr ⟨p, .inl hp,(x.mono (G':=fun p q=>G1 p q∨G2 p q∨(L1 p∧F2 q)) (L':=L1) (fun _ _ z => .inl z) (fun _ z=>z)).append (F:=F2) (fun _ _ a b => .inr (.inr ⟨a,b⟩)) hq (y.mono (fun _ _ z => .inr (.inl z)) (fun _ z => .inl z))⟩
  ·rintro (⟨⟨e,e'⟩,rfl⟩ | ⟨p,hp | ⟨e,hp⟩,x⟩)
   ·exact⟨[],[],rfl,(h1.a _).2 (.inl ⟨e,rfl⟩),(h2.a _).2 (.inl ⟨e',rfl⟩)⟩
   ·rcases ND hd h2.f h2.l h1.g h2.g h1.l x (h1.f _ hp) with ⟨y,e⟩ | ⟨u,v,q,rfl,y,hq,z⟩
    ·exact⟨s,[],by simp,(h1.a _).2 (.inr ⟨p,hp,y⟩),(h2.a _).2 (.inl ⟨e,rfl⟩)⟩
    ·exact⟨u,v,rfl,(h1.a _).2 (.inr ⟨p,hp,y⟩),(h2.a _).2 (.inr ⟨q,hq,z⟩)⟩
   ·refine⟨[],s,rfl,(h1.a _).2 (.inl ⟨e,rfl⟩),(h2.a _).2 (.inr ⟨p,hp,x.inside (P:=P2) ?_ ?_ (h2.f _ hp)⟩)⟩
    ·rintro a b ha (x | x | ⟨x,_⟩)
     ·exact(hd _ (h1.g _ _ x).1 ha).elim
     ·exact⟨x,(h2.g _ _ x).2⟩
     ·exact(hd _ (h1.l _ x) ha).elim
    ·rintro a ha (x | ⟨_,x⟩)
     ·exact x
     ·exact(hd _ (h1.l _ x) ha).elim
theorem Ky{e1 e2:Prop}{A1 A2:Lg}(h1:Good H P1 e1 F1 L1 G1 A1)(h2:Good H P2 e2 F2 L2 G2 A2)(hd:∀ p,P1 p→P2 p→False) :
  Good H (fun p=>P1 p∨P2 p) (e1∨e2) (fun p=>F1 p∨F2 p) (fun p=>L1 p∨L2 p) (fun p q=>G1 p q∨G2 p q) (lor A1 A2) where
 f:=fun p x=>x.imp (h1.f p) (h2.f p)
 l:=fun p x=>x.imp (h1.l p) (h2.l p)
 g:=fun p q x=>by
  rcases x with x | x
  ·exact⟨.inl (h1.g _ _ x).1, .inl (h1.g _ _ x).2⟩
  ·exact⟨.inr (h2.g _ _ x).1, .inr (h2.g _ _ x).2⟩
 a:=fun s=>by
  constructor
  ·rintro (hu | hu)
   ·rcases (h1.a s).1 hu with ⟨e,rfl⟩ | ⟨p,hp,x⟩
    ·exact .inl ⟨.inl e,rfl⟩
    ·exact .inr ⟨p, .inl hp,x.mono (fun _ _ => .inl) (fun _ => .inl)⟩
   ·rcases (h2.a s).1 hu with ⟨e,rfl⟩ | ⟨p,hp,x⟩
    ·exact .inl ⟨.inr e,rfl⟩
    ·exact .inr ⟨p, .inr hp,x.mono (fun _ _ => .inr) (fun _ => .inr)⟩
  ·rintro (⟨e | e,rfl⟩ | ⟨p,hp | hp,x⟩)
   ·exact .inl ((h1.a _).2 (.inl ⟨e,rfl⟩))
   ·exact .inr ((h2.a _).2 (.inl ⟨e,rfl⟩))
   ·refine .inl ((h1.a _).2 (.inr ⟨p,hp,x.inside (P:=P1) ?_ ?_ (h1.f _ hp)⟩))
    ·rintro a b ha (y | y)
     ·exact⟨y,(h1.g _ _ y).2⟩
     ·exact(hd _ ha (h2.g _ _ y).1).elim
    ·rintro a ha (y | y)
     ·exact y
     ·exact(hd _ ha (h2.l _ y)).elim
   ·refine .inr ((h2.a _).2 (.inr ⟨p,hp,x.inside (P:=P2) ?_ ?_ (h2.f _ hp)⟩))
    ·rintro a b ha (y | y)
     ·exact(hd _ (h1.g _ _ y).1 ha).elim
     ·exact⟨y,(h2.g _ _ y).2⟩
    ·rintro a ha (y | y)
     ·exact(hd _ (h1.l _ y) ha).elim
     ·exact y
theorem Cr{e:Prop}{A:Lg}(h:Good H P e F L G A){p:Nat}{s:List Int}(x:Path H (fun p q=>G p q∨(L p∧F q)) L p s) :
  ∃ u v,s=u++v∧Path H G L p u∧nu A v:=by
 induction x with
 | one hc hl=>exact⟨[_],[],rfl, .one hc hl, .nil⟩
 | cons hc hg _ ih =>
  obtain⟨u,v,rfl,y,z⟩:=ih
  rcases hg with hg | ⟨hl,hf⟩
  ·exact⟨_::u,v,rfl, .cons hc hg y,z⟩
  ·exact⟨[_],u++v,rfl, .one hc hl, .more ((h.a _).2 (.inr ⟨_,hf,y⟩)) z⟩
theorem yL{e:Prop}{A:Lg}(h:Good H P e F L G A):Good H P True F L (fun p q=>G p q∨(L p∧F q)) (nu A) where
 f:=h.f
 l:=h.l
 g:=fun p q x=>x.elim (h.g p q) (fun y=>⟨h.l p y.1,h.f q y.2⟩)
 a:=fun s=>by
  constructor
  ·intro x
   induction x with
   | nil=>exact .inl ⟨trivial,rfl⟩
   | @more u v hu _ ih =>
    rcases (h.a u).1 hu with ⟨_,rfl⟩ | ⟨p,hp,x⟩
    ·exact ih
    ·rcases ih with ⟨_,rfl⟩ | ⟨q,hq,y⟩
     ·exact .inr ⟨p,hp,by rw[List.append_nil];exact x.mono (fun _ _ => .inl) (fun _ z=>z)⟩
     ·exact .inr ⟨p,hp,(x.mono (G':=fun p q=>G p q∨(L p∧F q)) (L':=L) (fun _ _ => .inl) (fun _ z=>z)).append (F:=F) (fun _ _ a b => .inr ⟨a,b⟩) hq y⟩
  ·rintro (⟨_,rfl⟩ | ⟨p,hp,x⟩)
   ·exact .nil
   ·obtain⟨u,v,rfl,y,z⟩:=Cr h x
    exact .more ((h.a _).2 (.inr ⟨p,hp,y⟩)) z
theorem Ht{e:Prop}{A:Lg}(h:Good H P e F L G A):Good H P e F L (fun p q=>G p q∨(L p∧F q)) (zZ A (nu A)) where
 f:=h.f
 l:=h.l
 g:=fun p q x=>x.elim (h.g p q) (fun y=>⟨h.l p y.1,h.f q y.2⟩)
 a:=fun s=>by
  constructor
  ·rintro⟨u,v,rfl,hu,hv⟩
   rcases (h.a u).1 hu with ⟨e,rfl⟩ | ⟨p,hp,x⟩<;>rcases ((yL h).a v).1 hv with ⟨_,rfl⟩ | ⟨q,hq,y⟩
   ·exact .inl ⟨e,rfl⟩
   ·exact .inr ⟨q,hq,y⟩
   ·exact .inr ⟨p,hp,by rw[List.append_nil];exact x.mono (fun _ _ => .inl) (fun _ z=>z)⟩
   ·exact .inr ⟨p,hp,(x.mono (G':=fun p q=>G p q∨(L p∧F q)) (L':=L) (fun _ _ => .inl) (fun _ z=>z)).append (F:=F) (fun _ _ a b => .inr ⟨a,b⟩) hq y⟩
  ·rintro (⟨e,rfl⟩ | ⟨p,hp,x⟩)
   ·exact⟨[],[],rfl,(h.a _).2 (.inl ⟨e,rfl⟩), .nil⟩
   ·obtain⟨u,v,rfl,y,z⟩:=Cr h x
    exact⟨u,v,rfl,(h.a _).2 (.inr ⟨p,hp,y⟩),z⟩
theorem Eu{e:Prop}{A:Lg}(h:Good H P e F L G A):Good H P True F L G (lor A mQ) where
 f:=h.f
 l:=h.l
 g:=h.g
 a:=fun s=>by
  constructor
  ·rintro (x | rfl)
   ·rcases (h.a s).1 x with ⟨_,y⟩ | y
    ·exact .inl ⟨trivial,y⟩
    ·exact .inr y
   ·exact .inl ⟨trivial,rfl⟩
  ·rintro (⟨_,rfl⟩ | x)
   ·exact .inr rfl
   ·exact .inl ((h.a _).2 (.inr x))
end Go.Proofs.YtkjgogdkdejljaaGreatDoor.Rx
