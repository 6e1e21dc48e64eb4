import Derived.Lib.TrailingZeros
import Derived.Test.YtkjgogdkdejljaaGreatDoorLxL28
import Derived.Deep.RegionWith
import Derived.Deep.Cut
import Derived.Laws.Cover1
set_option maxHeartbeats 40000000
namespace Go.Proofs.YtkjgogdkdejljaaGreatDoor.Df
section
open Go
def wd(a b c d i:Nat):Nat:=if i=0 then a else if i=1 then b else if i=2 then c else d
def hasB(a b c d x:Nat):Bool:=(wd a b c d (x / 64)).testBit (x % 64)
def upB(a b c d n:Nat):List Nat:=(List.range n).filter (hasB a b c d)
def gX(a b c d:Nat):List Nat:=upB a b c d 256
theorem F7(a b c d n:Nat):upB a b c d (n+1)=upB a b c d n++(if hasB a b c d n then [n] else []):=by
 unfold upB;rw[List.range_succ,List.filter_append];congr 1;simp[List.filter_cons]
theorem zu(a b c d n:Nat):∀ k,(∀ j,j<k→hasB a b c d (n+j)=false)→upB a b c d (n+k)=upB a b c d n
 | 0,_=>rfl
 | k+1,h=>by
  rw[←Nat.add_assoc,F7,h k (by omega),zu a b c d n k (fun j hj=>h j (by omega))];simp
theorem xB(a b c d n:Nat):(upB a b c d n).length≤n:=by
 have:=List.length_filter_le (hasB a b c d) (List.range n)
 simpa[upB] using this
theorem oI(x:Nat)(h0:x≠0)(h:x<18446744073709551616):Lib.ctz 64 x<64∧x.testBit (Lib.ctz 64 x)=true∧∀ j,j<Lib.ctz 64 x→x.testBit j=false:=by
 obtain⟨m,hm,hk⟩:=Lib.ctzFrom_spec 64 x (by omega) (by simpa using h);have e:Lib.ctz 64 x=Lib.ctzFrom 64 x:=by simp[Lib.ctz,h0]
 rw[e];refine⟨hk,?_,fun j hj=>?_⟩
 ·rw[hm,Nat.testBit_two_pow_mul]
  simp[←hm]
 ·rw[hm,Nat.testBit_two_pow_mul]
  have:¬Lib.ctzFrom 64 x≤j:=by omega
  simp[this]
theorem sS(x:Nat)(h0:x≠0)(h:x<18446744073709551616):x &&& (x-1)<x∧∀ j,(x &&& (x-1)).testBit j=(decide (Lib.ctz 64 x+1≤j) && x.testBit j):=by
 obtain⟨m,hm,hk⟩:=Lib.ctzFrom_spec 64 x (by omega) (by simpa using h);have e:Lib.ctz 64 x=Lib.ctzFrom 64 x:=by simp[Lib.ctz,h0]
 rw[e];generalize Lib.ctzFrom 64 x=k at hm hk;have hp:0<2 ^ k:=Nat.two_pow_pos k;have e1:x-1=2 ^ k*(2*m)+(2 ^ k-1):=by rw[hm,Nat.mul_add];omega
 have key:∀ j,(x &&& (x-1)).testBit j=(decide (k+1≤j) && x.testBit j):=by
  intro j;rw[Nat.testBit_and]
  by_cases h1:j<k
  ·have:x.testBit j=false:=by
    rw[hm,Nat.testBit_two_pow_mul];have:¬k≤j:=(by omega);simp[this]
   simp[this]
  ·obtain⟨i,rfl⟩:∃ i,j=k+i:=⟨j-k,by omega⟩
   have hx:x.testBit (k+i)=(2*m+1).testBit i:=(by rw[hm,Nat.testBit_two_pow_mul];simp);have hx1:(x-1).testBit (k+i)=(2*m).testBit i:=by
    rw[e1,Nat.testBit_two_pow_mul_add _ (by omega)];have:¬k+i<k:=(by omega);simp[this]
   rw[hx,hx1]
   cases i with
   | zero=>simp[Nat.testBit_zero]
   | succ i =>
    rw[Nat.testBit_succ,Nat.testBit_succ];have d1:(2*m+1) / 2=m:=(by omega);have d2:2*m / 2=m:=(by omega);rw[d1,d2];simp
 refine⟨?_,key⟩;have hle:x &&& (x-1)≤x:=Nat.and_le_left;have hne:x &&& (x-1)≠x:=by
  intro hh;have h1:=key k;rw[hh] at h1;have:x.testBit k=true:=by rw[hm,Nat.testBit_two_pow_mul];simp
  rw[this] at h1;simp at h1;omega
 omega
theorem xC(a b c d k t x:Nat)(h0:x≠0)(hx:x<18446744073709551616)(h:∀ j,x.testBit j=(decide (t≤j) && (wd a b c d k).testBit j)) :
  t≤Lib.ctz 64 x∧upB a b c d (64*k+(Lib.ctz 64 x+1))=upB a b c d (64*k+t)++[64*k+Lib.ctz 64 x]:=by
 obtain⟨hk,h1,h2⟩:=oI x h0 hx;have ht':t≤Lib.ctz 64 x:=by
  rw[h] at h1;simp at h1;exact h1.1
 refine⟨ht',?_⟩;have hb:∀ j,j<64→hasB a b c d (64*k+j)=(wd a b c d k).testBit j:=fun j hj=>by
  unfold hasB;have e1:(64*k+j) / 64=k:=by omega
  have e2:(64*k+j) % 64=j:=by omega
  rw[e1,e2]
 have hw:∀ j,t≤j→j<Lib.ctz 64 x→(wd a b c d k).testBit j=false:=fun j h3 h4=>by
  have:=h2 j h4;rw[h] at this
  simpa[h3] using this
 rw[←Nat.add_assoc,F7];have e:=zu a b c d (64*k+t) (Lib.ctz 64 x-t) (fun j hj=>by
  have:64*k+t+j=64*k+(t+j):=by omega
  rw[this,hb _ (by omega)];exact hw _ (by omega) (by omega))
 have e3:64*k+t+(Lib.ctz 64 x-t)=64*k+Lib.ctz 64 x:=by omega
 rw[e3] at e;rw[e,hb _ hk];rw[h] at h1;have h1:=h1;simp at h1;rw[if_pos h1.2]
theorem xE(a b c d k t:Nat)(ht:t≤64)(h:∀ j,(0:Nat).testBit j=(decide (t≤j) && (wd a b c d k).testBit j)) :
  upB a b c d (64*(k+1))=upB a b c d (64*k+t):=by
 have e:=zu a b c d (64*k+t) (64-t) (fun j hj=>by
  unfold hasB;have e1:(64*k+t+j) / 64=k:=by omega
  have e2:(64*k+t+j) % 64=t+j:=by omega
  rw[e1,e2];have:=h (t+j);simp at this;exact this)
 rw[←e]
 congr 1
 omega
theorem left_step{x t c v:Nat}(h:∀ j,x.testBit j=(decide (t≤j) && v.testBit j))(hd:∀ j,(x &&& (x-1)).testBit j=(decide (c+1≤j) && x.testBit j))(ht:t≤c) :
  ∀ j,(x &&& (x-1)).testBit j=(decide (c+1≤j) && v.testBit j):=fun j=>by
 rw[hd,h]
 by_cases h1:c+1≤j
 ·have h2:t≤j:=by omega
  simp[h1,h2]
 ·simp[h1]
def cw(l:List Nat)(i:Nat):Nat:=l.foldl (fun w b=>if b / 64=i then w ||| 2 ^ (b % 64) else w) 0
theorem D6(l:List Nat)(b i:Nat):cw (l++[b]) i=if b / 64=i then cw l i ||| 2 ^ (b % 64) else cw l i:=by simp[cw]
theorem lq(i:Nat):cw [] i=0:=rfl
theorem gW(l:List Nat)(i:Nat):cw l i<18446744073709551616:=by
 unfold cw
 suffices h:∀(l:List Nat)(w:Nat),w<2 ^ 64→l.foldl (fun w b=>if b / 64=i then w ||| 2 ^ (b % 64) else w) w<2 ^ 64 from by simpa using h l 0 (by decide)
 intro l
 induction l with
 | nil=>intro w h;exact h
 | cons b l ih =>
  intro w h;rw[List.foldl_cons];apply ih;split
  ·exact Nat.or_lt_two_pow h (Nat.pow_lt_pow_right (by decide) (Nat.mod_lt _ (by decide)))
  ·exact h
theorem PE(i j:Nat)(hj:j<64)(l:List Nat):(cw l i).testBit j=decide (64*i+j∈l):=by
 unfold cw
 suffices h:∀(l:List Nat)(w:Nat),(l.foldl (fun w b=>if b / 64=i then w ||| 2 ^ (b % 64) else w) w).testBit j=(w.testBit j || decide (64*i+j∈l)) from by simpa using h l 0
 intro l
 induction l with
 | nil=>intro w;simp
 | cons b l ih =>
  intro w;rw[List.foldl_cons,ih]
  by_cases hb:b / 64=i
  ·rw[if_pos hb,Nat.testBit_or,Nat.testBit_two_pow]
   by_cases hm:b % 64=j
   ·have:64*i+j=b:=by omega
    simp[hm,this]
   ·have:¬ 64*i+j=b:=by omega
    simp[hm,this]
  ·rw[if_neg hb]
   have:¬ 64*i+j=b:=(by omega);simp[this]
theorem ZF(l:List Nat)(i:Nat)(hi:i<4):wd (cw l 0) (cw l 1) (cw l 2) (cw l 3) i=cw l i:=by
 obtain rfl | rfl | rfl | rfl:i=0∨i=1∨i=2∨i=3:=by omega
 all_goals rfl
theorem Xl(l:List Nat)(b:Nat)(hb:b<256):hasB (cw l 0) (cw l 1) (cw l 2) (cw l 3) b=decide (b∈l):=by
 unfold hasB;rw[ZF l _ (by omega),PE _ _ (by omega)];have:64*(b / 64)+b % 64=b:=by omega
 rw[this]
theorem F8{x y:Nat}(hx:x<18446744073709551616)(hy:y<18446744073709551616)(h:∀ j,j<64→x.testBit j=y.testBit j):x=y:=by
 apply Nat.eq_of_testBit_eq;intro j;rcases Nat.lt_or_ge j 64 with hj | hj
 ·exact h j hj
 ·have e:18446744073709551616≤2 ^ j:=Nat.le_trans (by decide:18446744073709551616≤2 ^ 64) (Nat.pow_le_pow_right (by decide) hj)
  rw[Nat.testBit_lt_two_pow (Nat.lt_of_lt_of_le hx e),Nat.testBit_lt_two_pow (Nat.lt_of_lt_of_le hy e)]
theorem D7{a b c d n x:Nat} : x∈upB a b c d n↔x<n∧hasB a b c d x=true:=by
 unfold upB;rw[List.mem_filter];simp
theorem vH(a b c d i j:Nat)(hj:j<64):hasB a b c d (64*i+j)=(wd a b c d i).testBit j:=by
 unfold hasB;have e1:(64*i+j) / 64=i:=by omega
 have e2:(64*i+j) % 64=j:=by omega
 rw[e1,e2]
theorem ZG(a b c d i:Nat)(hi:i<4)(hw:∀ k,wd a b c d k<18446744073709551616):cw (gX a b c d) i=wd a b c d i :=
 F8 (gW _ _) (hw i) fun j hj=>by
  rw[PE i j hj];unfold gX;rw[←vH a b c d i j hj]
  cases h:hasB a b c d (64*i+j) with
  | true=>simpa using D7.2 ⟨by omega,h⟩
  | false=>simpa using fun hm=>by rw[(D7.1 hm).2] at h;cases h
def wlt(a0 a1 a2 a3:Nat):Prop:=∀ k,wd a0 a1 a2 a3 k<18446744073709551616
def rng(low high:Nat):List Nat:=List.range' low (high+1-low)
theorem Kt{low high x:Nat} : x∈rng low high↔low≤x∧x≤high:=by
 unfold rng;rw[List.mem_range'_1];omega
def nw(a:Nat):Nat:=18446744073709551615 ^^^ a
theorem oJ(a:Nat)(h:a<18446744073709551616):nw a<18446744073709551616:=Nat.xor_lt_two_pow (n:=64) (by decide) h
theorem PG(j:Nat)(hj:j<64):(18446744073709551615:Nat).testBit j=true:=by
 rw[show (18446744073709551615:Nat)=2 ^ 64-1 from by decide,Nat.testBit_two_pow_sub_one]
 simpa using hj
theorem Xm(a j:Nat)(hj:j<64):(nw a).testBit j = !a.testBit j:=by
 unfold nw;rw[Nat.testBit_xor,PG j hj];simp
theorem yg{a0 a1 a2 a3:Nat}(h0:a0<18446744073709551616)(h1:a1<18446744073709551616)(h2:a2<18446744073709551616)(h3:a3<18446744073709551616):wlt a0 a1 a2 a3:=fun k=>by
 unfold wd;split;exact h0;split;exact h1;split;exact h2;exact h3
section
variable {a0 a1 a2 a3 b0 b1 b2 b3 : Nat}
theorem Xn(h:wlt a0 a1 a2 a3):wlt (nw a0) (nw a1) (nw a2) (nw a3):=yg (oJ _ (h 0)) (oJ _ (h 1)) (oJ _ (h 2)) (oJ _ (h 3))
theorem TK(k:wlt b0 b1 b2 b3):wlt (a0 &&& b0) (a1 &&& b1) (a2 &&& b2) (a3 &&& b3) :=
 yg (Nat.and_lt_two_pow (n:=64) _ (k 0)) (Nat.and_lt_two_pow (n:=64) _ (k 1)) (Nat.and_lt_two_pow (n:=64) _ (k 2)) (Nat.and_lt_two_pow (n:=64) _ (k 3))
theorem Xo(i:Nat):wd (a0 &&& b0) (a1 &&& b1) (a2 &&& b2) (a3 &&& b3) i=wd a0 a1 a2 a3 i &&& wd b0 b1 b2 b3 i:=by
 unfold wd;split;rfl;split;rfl;split<;>rfl
theorem PI(x:Nat):hasB (a0 &&& b0) (a1 &&& b1) (a2 &&& b2) (a3 &&& b3) x=(hasB a0 a1 a2 a3 x && hasB b0 b1 b2 b3 x):=by
 unfold hasB;rw[Xo,Nat.testBit_and]
end
structure Kl where
 a:Nat
 b:Nat
 c:Nat
 d:Nat
 h:wlt a b c d
namespace Kl
def zero:Kl:=⟨0,0,0,0,yg (by decide) (by decide) (by decide) (by decide)⟩
instance:Inhabited Kl:=⟨zero⟩
def has(x:Kl)(i:Nat):Bool:=hasB x.a x.b x.c x.d i
def by_(x:Kl):List Nat:=gX x.a x.b x.c x.d
def and(x y:Kl):Kl:=⟨x.a &&& y.a,x.b &&& y.b,x.c &&& y.c,x.d &&& y.d,TK y.h⟩
def not(x:Kl):Kl:=⟨nw x.a,nw x.b,nw x.c,nw x.d,Xn x.h⟩
def ofL(l:List Nat):Kl:=⟨cw l 0,cw l 1,cw l 2,cw l 3,yg (gW _ _) (gW _ _) (gW _ _) (gW _ _)⟩
def full:Kl:=ofL (rng 0 255)
def isZ(x:Kl):Bool:=x.a == 0 && (x.b == 0 && (x.c == 0 && x.d == 0))
theorem TL{x y:Kl}(h0:x.a=y.a)(h1:x.b=y.b)(h2:x.c=y.c)(h3:x.d=y.d):x=y:=by
 cases x;cases y;simp only at h0 h1 h2 h3;subst h0 h1 h2 h3;rfl
theorem TM{x y:Kl}(h:∀ i,i<256→x.has i=y.has i):x=y:=by
 have key:∀ k,k<4→wd x.a x.b x.c x.d k=wd y.a y.b y.c y.d k:=fun k hk =>
  F8 (x.h k) (y.h k) fun j hj=>by
   rw[←vH _ _ _ _ k j hj,←vH _ _ _ _ k j hj];exact h _ (by omega)
 exact TL (key 0 (by decide)) (key 1 (by decide)) (key 2 (by decide)) (key 3 (by decide))
theorem kS(x y:Kl)(i:Nat):(x.and y).has i=(x.has i && y.has i):=PI i
theorem xG(x:Kl)(i:Nat)(hi:i<256):x.not.has i = !x.has i:=by
 show hasB (nw x.a) (nw x.b) (nw x.c) (nw x.d) i=_
 unfold has hasB;have e:wd (nw x.a) (nw x.b) (nw x.c) (nw x.d) (i / 64)=nw (wd x.a x.b x.c x.d (i / 64)):=by unfold wd;split;rfl;split;rfl;split<;>rfl
 rw[e,Xm _ _ (by omega)]
theorem TN(l:List Nat)(i:Nat)(hi:i<256):(ofL l).has i=decide (i∈l):=Xl l i hi
theorem F9(i:Nat)(hi:i<256):full.has i=true:=by
 unfold full;rw[TN _ i hi];simp only[Kt];simp;omega
theorem Gf(i:Nat):zero.has i=false:=by
 have e:wd 0 0 0 0 (i / 64)=0:=by unfold wd;split;rfl;split;rfl;split<;>rfl
 show hasB 0 0 0 0 i=false
 unfold hasB;rw[e];simp
theorem sU(x:Kl):x.isZ=true↔x=zero:=by
 unfold isZ;simp only[Bool.and_eq_true,beq_iff_eq];exact⟨fun ⟨h0,h1,h2,h3⟩=>TL h0 h1 h2 h3,fun h=>by subst h;exact⟨rfl,rfl,rfl,rfl⟩⟩
theorem zx{x:Kl}{i:Nat} : i∈x.by_↔i<256∧x.has i=true:=D7
theorem D8{x:Kl}(h:x.isZ=false):∃ i,i<256∧x.has i=true:=by
 false_or_by_contra
 rename_i hn;have:x=zero:=TM fun i hi=>by
  rw[Gf]
  cases hx:x.has i with
  | false=>rfl
  | true=>exact(hn ⟨i,hi,hx⟩).elim
 rw[(sU x).2 this] at h
 cases h
theorem Ce{x:Kl}{i:Nat}(h:x.has i=true):x.isZ=false:=by
 cases hz:x.isZ with
 | false=>rfl
 | true=>rw[(sU x).1 hz,Gf] at h;cases h
def low(x:Kl):Nat:=x.by_.headD 0
theorem TP{x:Kl}{i:Nat}(h:x.has i=true)(hi:i<256):x.low∈x.by_∧x.low≤i:=by
 have hm:i∈x.by_:=zx.2 ⟨hi,h⟩;have hs:x.by_.Pairwise (· < ·):=by
  unfold by_ gX upB;exact List.Pairwise.filter _ List.pairwise_lt_range
 unfold low
 cases hx:x.by_ with
 | nil=>rw[hx] at hm;cases hm
 | cons y l =>
  rw[hx] at hm hs;refine⟨List.mem_cons_self,?_⟩;rcases List.mem_cons.1 hm with rfl | hm
  ·exact Nat.le_refl _
  ·exact Nat.le_of_lt ((List.pairwise_cons.1 hs).1 _ hm)
theorem PK(x:Kl):x.low<256:=by
 unfold low
 cases h:x.by_ with
 | nil=>decide
 | cons y l=>exact(zx.1 (h ▸ List.mem_cons_self:y∈x.by_)).1
end Kl
open Kl
def halves(c x:Kl):List Kl:=(if (x.and c).isZ then [] else [x.and c])++(if (x.and c.not).isZ then [] else [x.and c.not])
def stp(out:List Kl)(c:Kl):List Kl:=out.flatMap (halves c)
def parts(l:List Kl):List Kl:=l.foldl stp [full]
def Apart(l:List Kl)(p q:Kl):Prop:=∀ i j,i<256→j<256→p.has i=true→q.has j=true→∃ c∈l,c.has i≠c.has j
structure fG(l out:List Kl):Prop where
 some:∀ p∈out,∃ i,i<256∧p.has i=true
 same:∀ p∈out,∀ i j,i<256→j<256→p.has i=true→p.has j=true→∀ c∈l,c.has i=c.has j
 apart:out.Pairwise (Apart l)
 all:∀ i,i<256→∃ p∈out,p.has i=true
theorem kG{c x p:Kl} : p∈halves c x↔(p=x.and c∨p=x.and c.not)∧p.isZ=false:=by
 unfold halves;rw[List.mem_append]
 constructor
 ·rintro (h | h)
  ·split at h
   ·cases h
   ·rename_i hz
    obtain rfl:=List.mem_singleton.1 h;exact⟨.inl rfl,by simpa using hz⟩
  ·split at h
   ·cases h
   ·rename_i hz
    obtain rfl:=List.mem_singleton.1 h;exact⟨.inr rfl,by simpa using hz⟩
 ·rintro⟨rfl | rfl,h⟩
  ·exact .inl (by rw[if_neg (by simp[h])];exact List.mem_singleton.2 rfl)
  ·exact .inr (by rw[if_neg (by simp[h])];exact List.mem_singleton.2 rfl)
theorem mM{c x p:Kl}(h:p∈halves c x){i:Nat}(hi:p.has i=true):x.has i=true:=by
 rcases (kG.1 h).1 with rfl | rfl<;>rw[kS] at hi<;>simp at hi<;>exact hi.1
theorem I7(c x:Kl):(halves c x).length≤2:=by
 unfold halves;rw[List.length_append];split<;>split<;>simp
theorem fG.start:fG [] [full] where
 some p hp:=by obtain rfl:=List.mem_singleton.1 hp;exact⟨0,by decide,F9 0 (by decide)⟩
 same p hp i j _ _ _ _ c hc:=by cases hc
 apart:=List.pairwise_singleton _ _
 all i hi:=⟨full,List.mem_singleton.2 rfl,F9 i hi⟩
theorem fG.step{l out:List Kl}(h:fG l out)(c:Kl):fG (l++[c]) (stp out c) where
 some p hp:=by
  obtain⟨x,_,hp⟩:=List.mem_flatMap.1 hp;exact D8 (kG.1 hp).2
 same p hp i j hi hj h1 h2 c' hc':=by
  obtain⟨x,hx,hp⟩:=List.mem_flatMap.1 hp;rcases List.mem_append.1 hc' with hc' | hc'
  ·exact h.same x hx i j hi hj (mM hp h1) (mM hp h2) c' hc'
  ·obtain rfl:=List.mem_singleton.1 hc'
   rcases (kG.1 hp).1 with rfl | rfl
   ·rw[kS] at h1 h2;simp at h1 h2;rw[h1.2,h2.2]
   ·rw[kS,xG _ _ hi] at h1;rw[kS,xG _ _ hj] at h2;simp at h1 h2;rw[h1.2,h2.2]
 apart:=by
  unfold stp;rw[List.pairwise_flatMap];refine⟨fun x hx=>?_,h.apart.imp fun {x y} hxy p hp q hq i j hi hj h1 h2=>?_⟩
  ·have hpq:Apart (l++[c]) (x.and c) (x.and c.not):=fun i j hi hj h1 h2=>by
    refine⟨c,List.mem_append.2 (.inr (List.mem_singleton.2 rfl)),?_⟩;rw[kS] at h1;rw[kS,xG _ _ hj] at h2;simp at h1 h2;rw[h1.2,h2.2];decide
   unfold halves;split<;>split
   ·exact List.Pairwise.nil
   ·exact List.pairwise_singleton _ _
   ·exact List.pairwise_singleton _ _
   ·exact List.Pairwise.cons (fun y hy=>by obtain rfl:=List.mem_singleton.1 hy;exact hpq) (List.pairwise_singleton _ _)
  ·obtain⟨c',hc',hne⟩:=hxy i j hi hj (mM hp h1) (mM hq h2)
   exact⟨c',List.mem_append.2 (.inl hc'),hne⟩
 all i hi:=by
  obtain⟨x,hx,hxi⟩:=h.all i hi
  cases hc:c.has i with
  | true =>
   have hh:(x.and c).has i=true:=(by rw[kS,hxi,hc];rfl);exact⟨_,List.mem_flatMap.2 ⟨x,hx,kG.2 ⟨.inl rfl,Ce hh⟩⟩,hh⟩
  | false =>
   have hh:(x.and c.not).has i=true:=(by rw[kS,xG _ _ hi,hxi,hc];rfl);exact⟨_,List.mem_flatMap.2 ⟨x,hx,kG.2 ⟨.inr rfl,Ce hh⟩⟩,hh⟩
theorem TQ(out:List Kl)(c:Kl):(stp out c).length≤2*out.length:=by
 unfold stp
 induction out with
 | nil=>simp
 | cons x l ih=>rw[List.flatMap_cons,List.length_append,List.length_cons];have:=I7 c x;omega
theorem I8(l:List Kl)(c:Kl):parts (l++[c])=stp (parts l) c:=by simp[parts]
theorem fG.more:∀ (l:List Kl) {l0 out:List Kl},fG l0 out→fG (l0++l) (l.foldl stp out)
 | [],l0,out,h=>by rw[List.append_nil];exact h
 | c::l,l0,out,h=>by
  have:=fG.more l (h.step c)
  rwa [List.append_assoc] at this
theorem sV(l:List Kl):fG l (parts l):=fG.more l .start
theorem fG.perm{l out out':List Kl}(h:fG l out)(hp:out'.Perm out):fG l out' where
 some p hm:=h.some p (hp.mem_iff.1 hm)
 same p hm:=h.same p (hp.mem_iff.1 hm)
 apart:=hp.symm.pairwise h.apart fun {p q} hpq i j hi hj h1 h2=>by
  obtain⟨c,hc,hne⟩:=hpq j i hj hi h2 h1;exact⟨c,hc,fun e=>hne e.symm⟩
 all i hi:=by
  obtain⟨p,hm,hh⟩:=h.all i hi;exact⟨p,hp.mem_iff.2 hm,hh⟩
end
section
open Go Go.Proofs Go.RowKit
attribute [local go_sem] Oper.semAt_some
def aK(w:World)(a:Option Addr)(l:List Int):Prop:=l≠[]→∃ b off,a=some ⟨b,off,none⟩∧b<w.heap.size∧∀ j (h:j<l.length),w.cell? ⟨b,off+j,none⟩=some (.int .i64 l[j])
theorem aK.below{n:Nat}{w w':World}{a:Option Addr}{l:List Int}(h:aK w a l)(hb:Below n w w')(hn:w.heap.size≤n):aK w' a l:=fun h0=>by
 obtain⟨b,off,rfl,h1,h2⟩:=h h0;exact⟨b,off,rfl,Nat.lt_of_lt_of_le h1 hb.size,fun j hj=>(hb.cell (p:=⟨b,off+j,none⟩) (by simp only;omega)).trans (h2 j hj)⟩
theorem aK.at{w:World}{a:Option Addr}{l:List Int}(h:aK w a l){j:Nat}(hj:j<l.length):∃ b off,a=some ⟨b,off,none⟩∧b<w.heap.size∧w.cell? ⟨b,off+j,none⟩=some (.int .i64 l[j]):=by
 obtain⟨b,off,h0,h1,h2⟩:=h (by intro e;subst e;simp at hj);exact⟨b,off,h0,h1,h2 j hj⟩
def inR(lo hi:Int)(l:List Int):Bool:=l.all fun x=>decide (lo≤x) && decide (x<hi)
def okT(next rule:List Int):Bool:=decide (1≤rule.length) && (decide (rule.length≤512) && (decide (next.length=256*rule.length) && (inR (-1) 16 rule && inR (-1) rule.length next)))
def eU(next rule:List Int):Int:=if okT next rule=true then 0 else 2
theorem jH(next rule:List Int)(hn:next.length≤1000000)(hr:rule.length≤1000000)(an ar:Option Addr)(cn cr:Nat)(w:World)(hN:aK w an next)(hR:aK w ar rule) :
  Calls Tryz.prog 36 #[.agg #[.slice an next.length cn, .slice ar rule.length cr]] w fun e w'=>e = .returned (.int .i64 (eU next rule))∧Below w.heap.size w w' :=
 Lx.jH next rule hn hr an ar cn cr w hN hR
def Iz(w:World)(a:Option Addr)(l:List Kl):Prop:=l≠[]→∃ b off,a=some ⟨b,off,none⟩∧b<w.heap.size∧∀ j (h:j<l.length),w.cell? ⟨b,off+j*4,none⟩=some (.int .u64 (l[j].a:Nat))∧w.cell? ⟨b,off+j*4+1,none⟩=some (.int .u64 (l[j].b:Nat))∧w.cell? ⟨b,off+j*4+2,none⟩=some (.int .u64 (l[j].c:Nat))∧w.cell? ⟨b,off+j*4+3,none⟩=some (.int .u64 (l[j].d:Nat))
theorem Iz.below{n:Nat}{w w':World}{a:Option Addr}{l:List Kl}(h:Iz w a l)(hb:Below n w w')(hn:w.heap.size≤n):Iz w' a l:=fun h0=>by
 obtain⟨b,off,rfl,h1,h2⟩:=h h0;refine⟨b,off,rfl,Nat.lt_of_lt_of_le h1 hb.size,fun j hj=>?_⟩;obtain⟨c0,c1,c2,c3⟩:=h2 j hj;exact⟨(hb.cell (p:=⟨b,off+j*4,none⟩) (by simp only;omega)).trans c0,(hb.cell (p:=⟨b,off+j*4+1,none⟩) (by simp only;omega)).trans c1,(hb.cell (p:=⟨b,off+j*4+2,none⟩) (by simp only;omega)).trans c2,(hb.cell (p:=⟨b,off+j*4+3,none⟩) (by simp only;omega)).trans c3⟩
def TR(w:World)(a:Option Addr)(l:List (List Int)):Prop:=l≠[]→∃ b off,a=some ⟨b,off,none⟩∧b<w.heap.size∧∀ j (h:j<l.length),∃ la c,w.cell? ⟨b,off+j,none⟩=some (.slice la l[j].length c)∧aK w la l[j]
theorem TR.below{n:Nat}{w w':World}{a:Option Addr}{l:List (List Int)}(h:TR w a l)(hb:Below n w w')(hn:w.heap.size≤n):TR w' a l:=fun h0=>by
 obtain⟨b,off,rfl,h1,h2⟩:=h h0;refine⟨b,off,rfl,Nat.lt_of_lt_of_le h1 hb.size,fun j hj=>?_⟩;obtain⟨la,c,c0,c1⟩:=h2 j hj;exact⟨la,c,(hb.cell (p:=⟨b,off+j,none⟩) (by simp only;omega)).trans c0,c1.below hb hn⟩
structure Nf where
 cl:List Kl
 nx:List (List Int)
 ru:List Int
def nfV(ac an ar:Option Addr)(nc nn nr cc cn cr:Nat):Value := .agg #[.slice ac nc cc, .slice an nn cn, .slice ar nr cr]
structure uT(w:World)(N:Nf)(ac an ar:Option Addr):Prop where
 c:Iz w ac N.cl
 n:TR w an N.nx
 r:aK w ar N.ru
theorem uT.below{n:Nat}{w w':World}{N:Nf}{ac an ar:Option Addr}(h:uT w N ac an ar)(hb:Below n w w')(hn:w.heap.size≤n):uT w' N ac an ar:=⟨h.c.below hb hn,h.n.below hb hn,h.r.below hb hn⟩
def Up(k:Int):Int→List Int→Prop
 | _,[]=>True
 | last,t::l=>last<t∧t<k∧Up k t l
structure yC(N:Nf):Prop where
 one:1≤N.cl.length
 most:N.cl.length≤1024
 nx:N.nx.length=N.cl.length
 ru:N.ru.length=N.cl.length
 zero:N.cl.head?=some Kl.zero
 up:∀ l∈N.nx,Up N.cl.length 0 l
 rule:∀ r∈N.ru,-1≤r∧r<16
open Classical in
noncomputable def ckN(N:Nf):Int:=if yC N then 0 else 2
end
end Go.Proofs.YtkjgogdkdejljaaGreatDoor.Df
namespace Go.Proofs.YtkjgogdkdejljaaGreatDoor.Rx
section
abbrev Lg:=List Int→Prop
def gy:Lg:=fun _=>False
def qj:Lg:=fun s=>s = []
def lor(A B:Lg):Lg:=fun s=>A s∨B s
def EG(A B:Lg):Lg:=fun s=>∃ u v,s=u++v∧A u∧B v
inductive qG (A:Lg):Lg
 | nil:qG A []
 | more {u v:List Int} : A u→qG A v→qG A (u++v)
inductive Path (H:Nat→Int→Prop) (G:Nat→Nat→Prop) (L:Nat→Prop):Nat→List Int→Prop
 | one {p:Nat} {c:Int} : H p c→L p→Path H G L p [c]
 | cons {p q:Nat} {c:Int} {s:List Int} : H p c→G p q→Path H G L q s→Path H G L p (c::s)
def Run(H:Nat→Int→Prop)(F L:Nat→Prop)(G:Nat→Nat→Prop)(s:List Int):Prop:=∃ p,F p∧Path H G L p s
variable {H : Nat → Int → Prop} {G G' G1 G2 : Nat → Nat → Prop} {L L' L1 L2 F F1 F2 P P1 P2 : Nat → Prop}
theorem Path.inside(hG:∀ p q,P p→G p q→G' p q∧P q)(hL:∀ p,P p→L p→L' p){p:Nat}{s:List Int}(h:Path H G L p s):P p→Path H G' L' p s:=by
 induction h with
 | one hc hl=>intro hp;exact .one hc (hL _ hp hl)
 | cons hc hg _ ih=>intro hp;exact .cons hc (hG _ _ hp hg).1 (ih (hG _ _ hp hg).2)
theorem Path.mono(hG:∀ p q,G p q→G' p q)(hL:∀ p,L p→L' p){p:Nat}{s:List Int}(h:Path H G L p s):Path H G' L' p s :=
 h.inside (P:=fun _=>True) (fun p q _ hg=>⟨hG p q hg,trivial⟩) (fun p _ hl=>hL p hl) trivial
theorem Path.append(hJ:∀ p q,L1 p→F q→G p q){p q:Nat}{u v:List Int}(h:Path H G L1 p u)(hq:F q)(hv:Path H G L q v):Path H G L p (u++v):=by
 induction h with
 | one hc hl=>exact .cons hc (hJ _ _ hl hq) hv
 | cons hc hg _ ih=>exact .cons hc hg ih
structure Good(H:Nat→Int→Prop)(P:Nat→Prop)(e:Prop)(F L:Nat→Prop)(G:Nat→Nat→Prop)(A:Lg):Prop where
 f:∀ p,F p→P p
 l:∀ p,L p→P p
 g:∀ p q,G p q→P p∧P q
 a:∀ s,A s↔(e∧s = [])∨Run H F L G s
theorem Good.of{e e':Prop}{F':Nat→Prop}{P':Nat→Prop}{A A':Lg}(h:Good H P e F L G A)(hP:∀ p,P p→P' p)(he:e'↔e)(hF:∀ p,F' p↔F p)(hL:∀ p,L' p↔L p)(hG:∀ p q,G' p q↔G p q)(hA:∀ s,A' s↔A s):Good H P' e' F' L' G' A' where
 f:=fun p x=>hP p (h.f p ((hF p).1 x))
 l:=fun p x=>hP p (h.l p ((hL p).1 x))
 g:=fun p q x=>⟨hP p (h.g p q ((hG p q).1 x)).1,hP q (h.g p q ((hG p q).1 x)).2⟩
 a:=fun s=>by
  rw[hA,h.a,he]
  constructor
  ·rintro (x | ⟨p,x,y⟩)
   ·exact .inl x
   ·exact .inr ⟨p,(hF p).2 x,y.mono (fun p q=>(hG p q).2) (fun p=>(hL p).2)⟩
  ·rintro (x | ⟨p,x,y⟩)
   ·exact .inl x
   ·exact .inr ⟨p,(hF p).1 x,y.mono (fun p q=>(hG p q).1) (fun p=>(hL p).1)⟩
theorem G5:Good H (fun _=>False) True (fun _=>False) (fun _=>False) (fun _ _=>False) qj where
 f:=fun _ x=>x.elim
 l:=fun _ x=>x.elim
 g:=fun _ _ x=>x.elim
 a:=fun s=>by simp[qj,Run]
theorem Nl:Good H (fun _=>False) False (fun _=>False) (fun _=>False) (fun _ _=>False) gy where
 f:=fun _ x=>x.elim
 l:=fun _ x=>x.elim
 g:=fun _ _ x=>x.elim
 a:=fun s=>by simp[gy,Run]
theorem Np(i:Nat):Good H (fun p=>p=i) False (fun p=>p=i) (fun p=>p=i) (fun _ _=>False) (fun s=>∃ c,s = [c]∧H i c) where
 f:=fun _ x=>x
 l:=fun _ x=>x
 g:=fun _ _ x=>x.elim
 a:=fun s=>by
  constructor
  ·rintro⟨c,rfl,hc⟩;exact .inr ⟨i,rfl, .one hc rfl⟩
  ·rintro (⟨x,_⟩ | ⟨p,rfl,y⟩)
   ·exact x.elim
   ·cases y with
    | one hc _=>exact⟨_,rfl,hc⟩
    | cons _ hg _=>exact hg.elim
theorem Ux{e2:Prop}(hd:∀ p,P1 p→P2 p→False)(hf2:∀ p,F2 p→P2 p)(hl2:∀ p,L2 p→P2 p)(hg1:∀ p q,G1 p q→P1 p∧P1 q)(hg2:∀ p q,G2 p q→P2 p∧P2 q)(hl1:∀ p,L1 p→P1 p)
  {p:Nat} {s:List Int} (h:Path H (fun p q=>G1 p q∨G2 p q∨(L1 p∧F2 q)) (fun p=>L2 p∨(e2∧L1 p)) p s) :
  P1 p→(Path H G1 L1 p s∧e2)∨∃ u v q,s=u++v∧Path H G1 L1 p u∧F2 q∧Path H G2 L2 q v:=by
 induction h with
 | one hc hl =>
  intro hp;rcases hl with hl | ⟨he,hl⟩
  ·exact(hd _ hp (hl2 _ hl)).elim
  ·exact .inl ⟨.one hc hl,he⟩
 | cons hc hg hr ih =>
  intro hp;rcases hg with hg | hg | ⟨hl,hf⟩
  ·rcases ih (hg1 _ _ hg).2 with ⟨x,he⟩ | ⟨u,v,q,rfl,x,y,z⟩
   ·exact .inl ⟨.cons hc hg x,he⟩
   ·exact .inr ⟨_::u,v,q,rfl, .cons hc hg x,y,z⟩
  ·exact(hd _ hp (hg2 _ _ hg).1).elim
  ·refine .inr ⟨[_],_,_,rfl, .one hc hl,hf,hr.inside (P:=P2) ?_ ?_ (hf2 _ hf)⟩
   ·rintro a b ha (x | x | ⟨x,_⟩)
    ·exact(hd _ (hg1 _ _ x).1 ha).elim
    ·exact⟨x,(hg2 _ _ x).2⟩
    ·exact(hd _ (hl1 _ x) ha).elim
   ·rintro a ha (x | ⟨_,x⟩)
    ·exact x
    ·exact(hd _ (hl1 _ x) ha).elim
theorem Qz{e1 e2:Prop}{A1 A2:Lg}(h1:Good H P1 e1 F1 L1 G1 A1)(h2:Good H P2 e2 F2 L2 G2 A2)(hd:∀ p,P1 p→P2 p→False) :
  Good H (fun p=>P1 p∨P2 p) (e1∧e2) (fun p=>F1 p∨(e1∧F2 p)) (fun p=>L2 p∨(e2∧L1 p)) (fun p q=>G1 p q∨G2 p q∨(L1 p∧F2 q)) (EG A1 A2) where
 f:=fun p x=>x.elim (fun y => .inl (h1.f p y)) (fun y => .inr (h2.f p y.2))
 l:=fun p x=>x.elim (fun y => .inr (h2.l p y)) (fun y => .inl (h1.l p y.2))
 g:=fun p q x=>by
  rcases x with x | x | ⟨x,y⟩
  ·exact⟨.inl (h1.g _ _ x).1, .inl (h1.g _ _ x).2⟩
  ·exact⟨.inr (h2.g _ _ x).1, .inr (h2.g _ _ x).2⟩
  ·exact⟨.inl (h1.l _ x), .inr (h2.f _ y)⟩
 a:=fun s=>by
  constructor
  ·rintro⟨u,v,rfl,hu,hv⟩
   rcases (h1.a u).1 hu with ⟨e,rfl⟩ | ⟨p,hp,x⟩<;>rcases (h2.a v).1 hv with ⟨e',rfl⟩ | ⟨q,hq,y⟩
   ·exact .inl ⟨⟨e,e'⟩,rfl⟩
   ·exact .inr ⟨q, .inr ⟨e,hq⟩,y.mono (fun _ _ z => .inr (.inl z)) (fun _ z => .inl z)⟩
   ·exact .inr ⟨p, .inl hp,by rw[List.append_nil];exact x.mono (fun _ _ z => .inl z) (fun _ z => .inr ⟨e',z⟩)⟩
   ·exact .inr ⟨p, .inl hp,(x.mono (G':=fun p q=>G1 p q∨G2 p q∨(L1 p∧F2 q)) (L':=L1) (fun _ _ z => .inl z) (fun _ z=>z)).append (F:=F2) (fun _ _ a b => .inr (.inr ⟨a,b⟩)) hq (y.mono (fun _ _ z => .inr (.inl z)) (fun _ z => .inl z))⟩
  ·rintro (⟨⟨e,e'⟩,rfl⟩ | ⟨p,hp | ⟨e,hp⟩,x⟩)
   ·exact⟨[],[],rfl,(h1.a _).2 (.inl ⟨e,rfl⟩),(h2.a _).2 (.inl ⟨e',rfl⟩)⟩
   ·rcases Ux hd h2.f h2.l h1.g h2.g h1.l x (h1.f _ hp) with ⟨y,e⟩ | ⟨u,v,q,rfl,y,hq,z⟩
    ·exact⟨s,[],by simp,(h1.a _).2 (.inr ⟨p,hp,y⟩),(h2.a _).2 (.inl ⟨e,rfl⟩)⟩
    ·exact⟨u,v,rfl,(h1.a _).2 (.inr ⟨p,hp,y⟩),(h2.a _).2 (.inr ⟨q,hq,z⟩)⟩
   ·refine⟨[],s,rfl,(h1.a _).2 (.inl ⟨e,rfl⟩),(h2.a _).2 (.inr ⟨p,hp,x.inside (P:=P2) ?_ ?_ (h2.f _ hp)⟩)⟩
    ·rintro a b ha (x | x | ⟨x,_⟩)
     ·exact(hd _ (h1.g _ _ x).1 ha).elim
     ·exact⟨x,(h2.g _ _ x).2⟩
     ·exact(hd _ (h1.l _ x) ha).elim
    ·rintro a ha (x | ⟨_,x⟩)
     ·exact x
     ·exact(hd _ (h1.l _ x) ha).elim
theorem QA{e1 e2:Prop}{A1 A2:Lg}(h1:Good H P1 e1 F1 L1 G1 A1)(h2:Good H P2 e2 F2 L2 G2 A2)(hd:∀ p,P1 p→P2 p→False) :
  Good H (fun p=>P1 p∨P2 p) (e1∨e2) (fun p=>F1 p∨F2 p) (fun p=>L1 p∨L2 p) (fun p q=>G1 p q∨G2 p q) (lor A1 A2) where
 f:=fun p x=>x.imp (h1.f p) (h2.f p)
 l:=fun p x=>x.imp (h1.l p) (h2.l p)
 g:=fun p q x=>by
  rcases x with x | x
  ·exact⟨.inl (h1.g _ _ x).1, .inl (h1.g _ _ x).2⟩
  ·exact⟨.inr (h2.g _ _ x).1, .inr (h2.g _ _ x).2⟩
 a:=fun s=>by
  constructor
  ·rintro (hu | hu)
   ·rcases (h1.a s).1 hu with ⟨e,rfl⟩ | ⟨p,hp,x⟩
    ·exact .inl ⟨.inl e,rfl⟩
    ·exact .inr ⟨p, .inl hp,x.mono (fun _ _ => .inl) (fun _ => .inl)⟩
   ·rcases (h2.a s).1 hu with ⟨e,rfl⟩ | ⟨p,hp,x⟩
    ·exact .inl ⟨.inr e,rfl⟩
    ·exact .inr ⟨p, .inr hp,x.mono (fun _ _ => .inr) (fun _ => .inr)⟩
  ·rintro (⟨e | e,rfl⟩ | ⟨p,hp | hp,x⟩)
   ·exact .inl ((h1.a _).2 (.inl ⟨e,rfl⟩))
   ·exact .inr ((h2.a _).2 (.inl ⟨e,rfl⟩))
   ·refine .inl ((h1.a _).2 (.inr ⟨p,hp,x.inside (P:=P1) ?_ ?_ (h1.f _ hp)⟩))
    ·rintro a b ha (y | y)
     ·exact⟨y,(h1.g _ _ y).2⟩
     ·exact(hd _ ha (h2.g _ _ y).1).elim
    ·rintro a ha (y | y)
     ·exact y
     ·exact(hd _ ha (h2.l _ y)).elim
   ·refine .inr ((h2.a _).2 (.inr ⟨p,hp,x.inside (P:=P2) ?_ ?_ (h2.f _ hp)⟩))
    ·rintro a b ha (y | y)
     ·exact(hd _ (h1.g _ _ y).1 ha).elim
     ·exact⟨y,(h2.g _ _ y).2⟩
    ·rintro a ha (y | y)
     ·exact(hd _ (h1.l _ y) ha).elim
     ·exact y
theorem G6{e:Prop}{A:Lg}(h:Good H P e F L G A){p:Nat}{s:List Int}(x:Path H (fun p q=>G p q∨(L p∧F q)) L p s) :
  ∃ u v,s=u++v∧Path H G L p u∧qG A v:=by
 induction x with
 | one hc hl=>exact⟨[_],[],rfl, .one hc hl, .nil⟩
 | cons hc hg _ ih =>
  obtain⟨u,v,rfl,y,z⟩:=ih;rcases hg with hg | ⟨hl,hf⟩
  ·exact⟨_::u,v,rfl, .cons hc hg y,z⟩
  ·exact⟨[_],u++v,rfl, .one hc hl, .more ((h.a _).2 (.inr ⟨_,hf,y⟩)) z⟩
theorem Dc{e:Prop}{A:Lg}(h:Good H P e F L G A):Good H P True F L (fun p q=>G p q∨(L p∧F q)) (qG A) where
 f:=h.f
 l:=h.l
 g:=fun p q x=>x.elim (h.g p q) (fun y=>⟨h.l p y.1,h.f q y.2⟩)
 a:=fun s=>by
  constructor
  ·intro x
   induction x with
   | nil=>exact .inl ⟨trivial,rfl⟩
   | @more u v hu _ ih =>
    rcases (h.a u).1 hu with ⟨_,rfl⟩ | ⟨p,hp,x⟩
    ·exact ih
    ·rcases ih with ⟨_,rfl⟩ | ⟨q,hq,y⟩
     ·exact .inr ⟨p,hp,by rw[List.append_nil];exact x.mono (fun _ _ => .inl) (fun _ z=>z)⟩
     ·exact .inr ⟨p,hp,(x.mono (G':=fun p q=>G p q∨(L p∧F q)) (L':=L) (fun _ _ => .inl) (fun _ z=>z)).append (F:=F) (fun _ _ a b => .inr ⟨a,b⟩) hq y⟩
  ·rintro (⟨_,rfl⟩ | ⟨p,hp,x⟩)
   ·exact .nil
   ·obtain⟨u,v,rfl,y,z⟩:=G6 h x
    exact .more ((h.a _).2 (.inr ⟨p,hp,y⟩)) z
theorem Nr{e:Prop}{A:Lg}(h:Good H P e F L G A):Good H P e F L (fun p q=>G p q∨(L p∧F q)) (EG A (qG A)) where
 f:=h.f
 l:=h.l
 g:=fun p q x=>x.elim (h.g p q) (fun y=>⟨h.l p y.1,h.f q y.2⟩)
 a:=fun s=>by
  constructor
  ·rintro⟨u,v,rfl,hu,hv⟩
   rcases (h.a u).1 hu with ⟨e,rfl⟩ | ⟨p,hp,x⟩<;>rcases ((Dc h).a v).1 hv with ⟨_,rfl⟩ | ⟨q,hq,y⟩
   ·exact .inl ⟨e,rfl⟩
   ·exact .inr ⟨q,hq,y⟩
   ·exact .inr ⟨p,hp,by rw[List.append_nil];exact x.mono (fun _ _ => .inl) (fun _ z=>z)⟩
   ·exact .inr ⟨p,hp,(x.mono (G':=fun p q=>G p q∨(L p∧F q)) (L':=L) (fun _ _ => .inl) (fun _ z=>z)).append (F:=F) (fun _ _ a b => .inr ⟨a,b⟩) hq y⟩
  ·rintro (⟨e,rfl⟩ | ⟨p,hp,x⟩)
   ·exact⟨[],[],rfl,(h.a _).2 (.inl ⟨e,rfl⟩), .nil⟩
   ·obtain⟨u,v,rfl,y,z⟩:=G6 h x
    exact⟨u,v,rfl,(h.a _).2 (.inr ⟨p,hp,y⟩),z⟩
theorem Jz{e:Prop}{A:Lg}(h:Good H P e F L G A):Good H P True F L G (lor A qj) where
 f:=h.f
 l:=h.l
 g:=h.g
 a:=fun s=>by
  constructor
  ·rintro (x | rfl)
   ·rcases (h.a s).1 x with ⟨_,y⟩ | y
    ·exact .inl ⟨trivial,y⟩
    ·exact .inr y
   ·exact .inl ⟨trivial,rfl⟩
  ·rintro (⟨_,rfl⟩ | x)
   ·exact .inr rfl
   ·exact .inl ((h.a _).2 (.inr x))
structure Nd where
 k:Int
 a:Nat
 b:Nat
 c:Nat
 d:Nat
 kids:List Int
deriving Inhabited
def Nd.wd(x:Nd)(i:Nat):Nat:=if i=0 then x.a else if i=1 then x.b else if i=2 then x.c else x.d
def Nd.has(x:Nd)(v:Int):Bool:=(x.wd (v.toNat / 64)).testBit (v.toNat % 64)
def nV(k:Int):Int:=if k=1∨k=2 then 0 else if k=3∨k=4 then 2 else if k=5∨k=6∨k=7 then 1 else 0
def jl(k:Int):Int:=if k=1∨k=2 then 0 else if k=3∨k=4 then 512 else if k=5∨k=6∨k=7 then 1 else 0
def Ae(k:Int):Bool:=decide (1≤k) && decide (k≤7)
structure iO(i:Nat)(x:Nd):Prop where
 k:1≤x.k∧x.k≤7
 low:nV x.k≤x.kids.length
 high:(x.kids.length:Int)≤jl x.k
 cls:x.k≠2→x.a=0∧x.b=0∧x.c=0∧x.d=0
 kids:∀ k∈x.kids,0≤k∧k<i
def bg(r:List Nd):List Int:=r.flatMap Nd.kids
structure eP(r:List Nd):Prop where
 one:1≤r.length
 most:r.length≤512
 nd:∀ i x,r[i]?=some x→iO i x
 once:∀ j:Nat,j+1<r.length→(bg r).count (j:Int)=1
def mem(s:List Bool)(p:Nat):Prop:=s[p]?=some true
def rD(nx:List (List Bool))(p q:Nat):Prop:=∃ row,nx[p]?=some row∧mem row q
def zeros(n:Nat):List Bool:=List.replicate n false
def orS(a b:List Bool):List Bool:=List.zipWith (fun x y=>x || y) a b
def kN(nx:List (List Bool))(l f:List Bool):List (List Bool):=List.zipWith (fun row is=>if is=true then orS row f else row) nx l
structure En where
 e:Bool
 f:List Bool
 l:List Bool
deriving Inhabited
def Af(a b:En):En:=⟨a.e && b.e,if a.e=true then orS a.f b.f else a.f,if b.e=true then orS b.l a.l else b.l⟩
def JA(a b:En):En:=⟨a.e || b.e,orS a.f b.f,orS a.l b.l⟩
def en(ends:List En)(k:Int):En:=ends.getD k.toNat default
def jV(ends:List En)(s:List (List Bool)×En)(k:Int):List (List Bool)×En:=(kN s.1 s.2.l (en ends k).f,Af s.2 (en ends k))
def iE(ends:List En)(s:En)(k:Int):En:=JA s (en ends k)
def dM(n:Nat)(ends:List En)(nx:List (List Bool))(i:Nat)(x:Nd):List (List Bool)×En :=
 if x.k=2 then (nx,⟨false,(zeros n).set i true,(zeros n).set i true⟩)
 else if x.k=3 then x.kids.foldl (jV ends) (nx,⟨true,zeros n,zeros n⟩)
 else
  let y:=x.kids.foldl (iE ends) ⟨decide (x.k=1),zeros n,zeros n⟩
  (if x.k=5∨x.k=6 then kN nx y.l y.f else nx,⟨if x.k=5∨x.k=7 then true else y.e,y.f,y.l⟩)
def jv(r:List Nd):Nat→List En×List (List Bool)
 | 0=>([],List.replicate r.length [])
 | m+1 =>
  let s:=jv r m
  let t:=dM r.length s.1 (s.2.set m (zeros r.length)) m (r.getD m default)
  (s.1++[t.2],t.1)
def AY(r:List Nd)(may:List Bool)(c:Int):List Bool:=(List.range r.length).map fun i=>may.getD i false && (r.getD i default).has c
def JB(nx:List (List Bool))(hit:List Bool)(acc:List Bool)(i:Nat):List Bool:=if hit.getD i false=true then orS acc (nx.getD i []) else acc
def Uy(r:List Nd)(nx:List (List Bool))(hit:List Bool):List Bool:=(List.range r.length).foldl (JB nx hit) (zeros r.length)
def QB(r:List Nd)(nx:List (List Bool))(s:List Bool×List Bool)(c:Int):List Bool×List Bool:=(Uy r nx (AY r s.1 c),AY r s.1 c)
def QC(hit last:List Bool):Bool:=(List.range hit.length).any fun i=>hit.getD i false && last.getD i false
def jZ(r:List Nd)(s:List Int):Bool :=
 let t:=jv r r.length
 let top:=t.1.getD (r.length-1) default
 if s = [] then top.e else QC (s.foldl (QB r t.2) (top.f,[])).2 top.l
theorem iy(n p:Nat):¬mem (zeros n) p:=by
 simp[mem,zeros,List.getElem?_replicate]
theorem iL{a b:List Bool}(h:a.length=b.length):(orS a b).length=a.length:=by simp[orS,h]
theorem jR{a b:List Bool}(h:a.length=b.length)(p:Nat):mem (orS a b) p↔mem a p∨mem b p:=by
 unfold mem orS;rw[List.getElem?_zipWith]
 by_cases hp:p<a.length
 ·rw[List.getElem?_eq_getElem hp,List.getElem?_eq_getElem (h ▸ hp)]
  simp
 ·rw[List.getElem?_eq_none (by omega),List.getElem?_eq_none (by omega)]
  simp
theorem uq{nx:List (List Bool)}{l f:List Bool}(h:nx.length=l.length):(kN nx l f).length=nx.length:=by simp[kN,h]
theorem oQ{nx:List (List Bool)}{l f:List Bool}(h:nx.length=l.length)(p:Nat)(row:List Bool)(hr:nx[p]?=some row) :
  (kN nx l f)[p]?=some (if l.getD p false=true then orS row f else row):=by
 have hp:p<nx.length:=by
  rcases Nat.lt_or_ge p nx.length with x | x
  ·exact x
  ·rw[List.getElem?_eq_none x] at hr;simp at hr
 unfold kN;rw[List.getElem?_zipWith,hr,List.getElem?_eq_getElem (h ▸ hp)];simp[List.getD,List.getElem?_eq_getElem (h ▸ hp:p<l.length)]
theorem getD_mem(l:List Bool)(p:Nat):l.getD p false=true↔mem l p:=by
 unfold mem;rw[List.getD_eq_getElem?_getD]
 cases l[p]?<;>simp
theorem QD{nx:List (List Bool)}{l f:List Bool}(h:nx.length=l.length)(hr:∀ p,mem l p→∃ row,nx[p]?=some row∧row.length=f.length)(p q:Nat) :
  rD (kN nx l f) p q↔rD nx p q∨(mem l p∧mem f q):=by
 constructor
 ·rintro⟨row,h1,h2⟩
  have hp:p<nx.length:=by
   rcases Nat.lt_or_ge p (kN nx l f).length with x | x
   ·rw[uq h] at x;exact x
   ·rw[List.getElem?_eq_none x] at h1;simp at h1
  have h3:=oQ (f:=f) h p _ (List.getElem?_eq_getElem hp);rw[h1] at h3;have h4:=Option.some.inj h3
  by_cases hl:l.getD p false=true
  ·rw[if_pos hl] at h4
   obtain⟨row',e1,e2⟩:=hr p ((getD_mem l p).1 hl);rw[List.getElem?_eq_getElem hp] at e1;rw[Option.some.inj e1] at h4;rw[h4,jR e2] at h2;rcases h2 with h2 | h2
   ·exact .inl ⟨row',by rw[List.getElem?_eq_getElem hp];exact e1,h2⟩
   ·exact .inr ⟨(getD_mem l p).1 hl,h2⟩
  ·rw[if_neg hl] at h4
   exact .inl ⟨row,by rw[h4];exact List.getElem?_eq_getElem hp,h2⟩
 ·rintro (⟨row,h1,h2⟩ | ⟨h1,h2⟩)
  ·have h3:=oQ (f:=f) h p row h1
   refine⟨_,h3,?_⟩
   by_cases hl:l.getD p false=true
   ·rw[if_pos hl]
    obtain⟨row',e1,e2⟩:=hr p ((getD_mem l p).1 hl);rw[h1] at e1;rw[jR (by rw[Option.some.inj e1];exact e2)];exact .inl h2
   ·rw[if_neg hl];exact h2
  ·obtain⟨row,e1,e2⟩:=hr p h1
   refine⟨_,oQ (f:=f) h p row e1,?_⟩;rw[if_pos ((getD_mem l p).2 h1),jR e2];exact .inr h2
theorem mem_set(n i p:Nat)(hi:i<n):mem ((zeros n).set i true) p↔p=i:=by
 unfold mem zeros;rw[List.getElem?_set]
 by_cases h:i=p
 ·subst h;simp[hi]
 ·rw[if_neg h];simp[List.getElem?_replicate];omega
end
section
open Go Go.Proofs Go.RowKit
attribute [local go_sem] Oper.semAt_some
def aJ(W:World)(B:Nat)(l:List Bool):Prop:=∃ cs:Array Value,W.heap[B]?=some (.cells cs 4 (0,0))∧∀(i:Nat)(b:Bool),l[i]?=some b→cs[i]?=some (.bool b)
theorem aJ.lt{W:World}{B:Nat}{l:List Bool}(h:aJ W B l):B<W.heap.size:=by obtain⟨cs,h,_⟩:=h;exact (Array.getElem?_eq_some_iff.1 h).1
theorem aJ.at{W:World}{B:Nat}{l:List Bool}(h:aJ W B l)(i:Nat)(b:Bool)(hb:l[i]?=some b):W.cell? ⟨B,i,none⟩=some (.bool b):=by
 obtain⟨cs,h,hc⟩:=h;simp[World.cell?,h,hc i b hb]
theorem aJ.frozen{W:World}{B:Nat}{l:List Bool}(h:aJ W B l)(j:Nat):W.frozen? ⟨B,j,none⟩=false:=by
 obtain⟨cs,h,_⟩:=h;simp[World.frozen?,h]
theorem aJ.same{W W':World}{B:Nat}{l:List Bool}(h:aJ W B l)(e:W'.heap[B]?=W.heap[B]?):aJ W' B l:=by
 obtain⟨cs,h,hc⟩:=h;exact⟨cs,e.trans h,hc⟩
theorem aJ.below{n B:Nat}{l:List Bool}{w w':World}(h:aJ w B l)(hb:Below n w w')(hn:B<n):aJ w' B l:=h.same (hb.block _ hn)
theorem aJ.but{A B:Nat}{l:List Bool}{w w':World}(h:aJ w B l)(hb:AX.But A w w')(hn:B≠A):aJ w' B l:=h.same (hb.same _ h.lt hn)
theorem aJ.other{W:World}{B B' i:Nat}{l:List Bool}{v:Value}(h:aJ W B l)(hne:B≠B'):aJ (W.setCell ⟨B',i,none⟩ v) B l:=h.same (Below.heap_setCell _ _ _ _ hne)
theorem aJ.set{W:World}{B:Nat}{l:List Bool}(h:aJ W B l)(i:Nat)(b:Bool):aJ (W.setCell ⟨B,i,none⟩ (.bool b)) B (l.set i b):=by
 obtain⟨cs,h,hc⟩:=h;have hb:=(Array.getElem?_eq_some_iff.1 h).1;refine⟨cs.setIfInBounds i (.bool b),by simp[World.setCell,Array.getElem?_modify,h],fun j c hj=>?_⟩;rw[Array.getElem?_setIfInBounds];rw[List.getElem?_set] at hj
 by_cases e:i=j
 ·subst e
  rw[if_pos rfl] at hj ⊢;split at hj
  ·rename_i hl
   have:=hc i l[i] (List.getElem?_eq_getElem hl);rw[if_pos (Array.getElem?_eq_some_iff.1 this).1,Option.some.inj hj]
  ·cases hj
 ·rw[if_neg e] at hj ⊢
  exact hc j c hj
theorem iM(w:World)(A i:Nat)(v:Value):AX.But A w (w.setCell ⟨A,i,none⟩ v) :=
 ⟨(Below.refl 0 w).setCell (p:=⟨A,i,none⟩) (Nat.zero_le _) v,fun _ _ hk=>Below.heap_setCell _ _ _ _ hk⟩
theorem NG(A B ca cb n:Nat)(la lb:List Bool)(hAB:B≠A)(hla:la.length=n)(hlb:lb.length=n)(hn:n≤1000000)(w:World)(hA:aJ w A la)(hB:aJ w B lb) :
  Calls Tryz.prog 126 #[.slice (some ⟨A,0,none⟩) n ca, .slice (some ⟨B,0,none⟩) n cb] w fun e w'=>e = .returned (.tuple #[])∧aJ w' A (orS la lb)∧AX.But A w w':=by
 go_enter Tryz.func126,Tryz.ntmps126
 go_wp2
 obtain⟨wo,rfl⟩:∃ wo:World,wo=w:=⟨_,rfl⟩;go_loopw [8] (fun i wr=>∃(k:Nat)(m:List Bool),k≤n∧i = .int .i64 k∧aJ wr A m∧m.length=n∧(∀ j,j<k→m[j]?=(orS la lb)[j]?)∧(∀ j,k≤j→m[j]?=la[j]?)∧AX.But A wo wr)
  (fun i _=>n-(intOf i).toNat)
 case atStart=>exact⟨0,la,Nat.zero_le _,rfl,hA,hla,fun j h=>by omega,fun j _=>rfl,AX.But.refl _ _⟩
 case round =>
  obtain⟨k,m,hk,rfl,hm,hml,h1,h2,lJ⟩:=hrel
  by_cases hlt:k<n
  ·have hB':=hB.but lJ hAB
   obtain⟨x,hx⟩:∃ x,la[k]?=some x:=⟨_,List.getElem?_eq_getElem (by omega)⟩;obtain⟨y,hy⟩:∃ y,lb[k]?=some y:=⟨_,List.getElem?_eq_getElem (by omega)⟩;have hmx:=(h2 k Nat.le.refl).trans hx;have HO:=Lib.hid (show(orS la lb)[k]?=some (x || y) by unfold orS;rw[List.getElem?_zipWith,hx,hy]);have HM:=Lib.hid hmx;have c0:=hm.at k x hmx;have c1:=hB'.at k y hy;have f0:=hm.frozen k;clear hmx hx hy;have hk0:(0:Int)≤(k:Int):=(by omega);have hk1:(k:Int)<(n:Int):=(by omega);have hkt:(k:Int).toNat=k:=(by omega);have hme:∀ b,b=(x || y)→aJ (wr.setCell ⟨A,k,none⟩ (.bool b)) A (m.set k b)∧(m.set k b).length=n∧(∀ j,j<k+1→(m.set k b)[j]?=(orS la lb)[j]?)∧(∀ j,k+1≤j→(m.set k b)[j]?=la[j]?)∧AX.But A wo (wr.setCell ⟨A,k,none⟩ (.bool b)):=by
    rintro b rfl;refine⟨hm.set k _,by simpa using hml,fun j hj=>?_,fun j hj=>?_,lJ.trans (iM _ _ _ _)⟩
    ·rw[List.getElem?_set]
     by_cases e:k=j
     ·subst e;rw[if_pos rfl,if_pos (by omega),HO.out]
     ·rw[if_neg e];exact h1 j (by omega)
    ·rw[List.getElem?_set,if_neg (by omega)];exact h2 j (by omega)
   have HME:=Lib.hid hme;clear hme h1 h2
   cases x<;>cases y
   all_goals
    go_wp2
    go_roundw
    case rel =>
     obtain⟨q1,q2,q3,q4,q5⟩:=HME.out _ rfl;exact⟨k+1,_,by omega,by simp,q1,q2,q3,q4,q5⟩
    case measure=>simp[intOf];omega
  ·obtain rfl:k=n:=by omega
   have e:m=orS la lb:=List.ext_getElem? fun j=>by
    by_cases hj:j<k
    ·exact h1 j hj
    ·rw[List.getElem?_eq_none (by omega),List.getElem?_eq_none (by simp[orS];omega)]
   subst e;go_wp2
   exact bodyPost_end (v := .tuple #[]) (by simp[results,Tryz.results126,go_sem]) rfl ⟨rfl,hm,lJ⟩
end
end Go.Proofs.YtkjgogdkdejljaaGreatDoor.Rx
