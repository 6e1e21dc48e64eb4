import Derived.Test.YtkjgogdkdejljaaGreatDoorRxA1
import Derived.Deep.RegionWith
import Derived.Laws.Cover1
import Derived.Lib.ConvBytes
namespace Go.Proofs.YtkjgogdkdejljaaGreatDoor.Rx
structure Nd where
 k:Int
 a:Nat
 b:Nat
 c:Nat
 d:Nat
 kids:List Int
deriving Inhabited
def Nd.wd(x:Nd)(i:Nat):Nat:=if i=0 then x.a else if i=1 then x.b else if i=2 then x.c else x.d
def Nd.has(x:Nd)(v:Int):Bool:=(x.wd (v.toNat / 64)).testBit (v.toNat % 64)
def kY(k:Int):Int:=if k=1∨k=2 then 0 else if k=3∨k=4 then 2 else if k=5∨k=6∨k=7 then 1 else 0
def gM(k:Int):Int:=if k=1∨k=2 then 0 else if k=3∨k=4 then 512 else if k=5∨k=6∨k=7 then 1 else 0
def wC(k:Int):Bool:=decide (1≤k) && decide (k≤7)
structure gH(i:Nat)(x:Nd):Prop where
 k:1≤x.k∧x.k≤7
 low:kY x.k≤x.kids.length
 high:(x.kids.length:Int)≤gM x.k
 cls:x.k≠2→x.a=0∧x.b=0∧x.c=0∧x.d=0
 kids:∀ k∈x.kids,0≤k∧k<i
def aW(r:List Nd):List Int:=r.flatMap Nd.kids
structure dx(r:List Nd):Prop where
 one:1≤r.length
 most:r.length≤512
 nd:∀ i x,r[i]?=some x→gH i x
 once:∀ j:Nat,j+1<r.length→(aW r).count (j:Int)=1
def mem(s:List Bool)(p:Nat):Prop:=s[p]?=some true
def nV(nx:List (List Bool))(p q:Nat):Prop:=∃ row,nx[p]?=some row∧mem row q
def zeros(n:Nat):List Bool:=List.replicate n false
def orS(a b:List Bool):List Bool:=List.zipWith (fun x y=>x || y) a b
def jD(nx:List (List Bool))(l f:List Bool):List (List Bool):=List.zipWith (fun row is=>if is=true then orS row f else row) nx l
structure En where
 e:Bool
 f:List Bool
 l:List Bool
deriving Inhabited
def wD(a b:En):En:=⟨a.e && b.e,if a.e=true then orS a.f b.f else a.f,if b.e=true then orS b.l a.l else b.l⟩
def Ev(a b:En):En:=⟨a.e || b.e,orS a.f b.f,orS a.l b.l⟩
def en(ends:List En)(k:Int):En:=ends.getD k.toNat default
def jf(ends:List En)(s:List (List Bool)×En)(k:Int):List (List Bool)×En:=(jD s.1 s.2.l (en ends k).f,wD s.2 (en ends k))
def fT(ends:List En)(s:En)(k:Int):En:=Ev s (en ends k)
def bT(n:Nat)(ends:List En)(nx:List (List Bool))(i:Nat)(x:Nd):List (List Bool)×En :=
 if x.k=2 then (nx,⟨false,(zeros n).set i true,(zeros n).set i true⟩)
 else if x.k=3 then x.kids.foldl (jf ends) (nx,⟨true,zeros n,zeros n⟩)
 else
  let y:=x.kids.foldl (fT ends) ⟨decide (x.k=1),zeros n,zeros n⟩
  (if x.k=5∨x.k=6 then jD nx y.l y.f else nx,⟨if x.k=5∨x.k=7 then true else y.e,y.f,y.l⟩)
def iF(r:List Nd):Nat→List En×List (List Bool)
 | 0=>([],List.replicate r.length [])
 | m+1 =>
  let s:=iF r m
  let t:=bT r.length s.1 (s.2.set m (zeros r.length)) m (r.getD m default)
  (s.1++[t.2],t.1)
def w9(r:List Nd)(may:List Bool)(c:Int):List Bool:=(List.range r.length).map fun i=>may.getD i false && (r.getD i default).has c
def Ew(nx:List (List Bool))(hit:List Bool)(acc:List Bool)(i:Nat):List Bool:=if hit.getD i false=true then orS acc (nx.getD i []) else acc
def NG(r:List Nd)(nx:List (List Bool))(hit:List Bool):List Bool:=(List.range r.length).foldl (Ew nx hit) (zeros r.length)
def Kz(r:List Nd)(nx:List (List Bool))(s:List Bool×List Bool)(c:Int):List Bool×List Bool:=(NG r nx (w9 r s.1 c),w9 r s.1 c)
def KA(hit last:List Bool):Bool:=(List.range hit.length).any fun i=>hit.getD i false && last.getD i false
def jl(r:List Nd)(s:List Int):Bool :=
 let t:=iF r r.length
 let top:=t.1.getD (r.length-1) default
 if s = [] then top.e else KA (s.foldl (Kz r t.2) (top.f,[])).2 top.l
theorem fM(n p:Nat):¬mem (zeros n) p:=by
 simp[mem,zeros,List.getElem?_replicate]
theorem gD{a b:List Bool}(h:a.length=b.length):(orS a b).length=a.length:=by simp[orS,h]
theorem iZ{a b:List Bool}(h:a.length=b.length)(p:Nat):mem (orS a b) p↔mem a p∨mem b p:=by
 unfold mem orS
 rw[List.getElem?_zipWith]
 by_cases hp:p<a.length
 ·rw[List.getElem?_eq_getElem hp,List.getElem?_eq_getElem (h ▸ hp)]
  simp
 ·rw[List.getElem?_eq_none (by omega),List.getElem?_eq_none (by omega)]
  simp
theorem pQ{nx:List (List Bool)}{l f:List Bool}(h:nx.length=l.length):(jD nx l f).length=nx.length:=by simp[jD,h]
theorem l5{nx:List (List Bool)}{l f:List Bool}(h:nx.length=l.length)(p:Nat)(row:List Bool)(hr:nx[p]?=some row) :
  (jD nx l f)[p]?=some (if l.getD p false=true then orS row f else row):=by
 have hp:p<nx.length:=by
  rcases Nat.lt_or_ge p nx.length with x | x
  ·exact x
  ·rw[List.getElem?_eq_none x] at hr;simp at hr
 unfold jD
 rw[List.getElem?_zipWith,hr,List.getElem?_eq_getElem (h ▸ hp)]
 simp[List.getD,List.getElem?_eq_getElem (h ▸ hp:p<l.length)]
theorem bL(l:List Bool)(p:Nat):l.getD p false=true↔mem l p:=by
 unfold mem
 rw[List.getD_eq_getElem?_getD]
 cases l[p]?<;>simp
theorem KC{nx:List (List Bool)}{l f:List Bool}(h:nx.length=l.length)(hr:∀ p,mem l p→∃ row,nx[p]?=some row∧row.length=f.length)(p q:Nat) :
  nV (jD nx l f) p q↔nV nx p q∨(mem l p∧mem f q):=by
 constructor
 ·rintro⟨row,h1,h2⟩
  have hp:p<nx.length:=by
   rcases Nat.lt_or_ge p (jD nx l f).length with x | x
   ·rw[pQ h] at x;exact x
   ·rw[List.getElem?_eq_none x] at h1;simp at h1
  have h3:=l5 (f:=f) h p _ (List.getElem?_eq_getElem hp)
  rw[h1] at h3
  have h4:=Option.some.inj h3
  by_cases hl:l.getD p false=true
  ·rw[if_pos hl] at h4
   obtain⟨row',e1,e2⟩:=hr p ((bL l p).1 hl)
   rw[List.getElem?_eq_getElem hp] at e1
   rw[Option.some.inj e1] at h4
   rw[h4,iZ e2] at h2
   rcases h2 with h2 | h2
   ·exact .inl ⟨row',by rw[List.getElem?_eq_getElem hp];exact e1,h2⟩
   ·exact .inr ⟨(bL l p).1 hl,h2⟩
  ·rw[if_neg hl] at h4
   exact .inl ⟨row,by rw[h4];exact List.getElem?_eq_getElem hp,h2⟩
 ·rintro (⟨row,h1,h2⟩ | ⟨h1,h2⟩)
  ·have h3:=l5 (f:=f) h p row h1
   refine⟨_,h3,?_⟩
   by_cases hl:l.getD p false=true
   ·rw[if_pos hl]
    obtain⟨row',e1,e2⟩:=hr p ((bL l p).1 hl)
    rw[h1] at e1
    rw[iZ (by rw[Option.some.inj e1];exact e2)]
    exact .inl h2
   ·rw[if_neg hl];exact h2
  ·obtain⟨row,e1,e2⟩:=hr p h1
   refine⟨_,l5 (f:=f) h p row e1,?_⟩
   rw[if_pos ((bL l p).2 h1),iZ e2]
   exact .inr h2
theorem mem_set(n i p:Nat)(hi:i<n):mem ((zeros n).set i true) p↔p=i:=by
 unfold mem zeros
 rw[List.getElem?_set]
 by_cases h:i=p
 ·subst h;simp[hi]
 ·rw[if_neg h];simp[List.getElem?_replicate];omega
end Go.Proofs.YtkjgogdkdejljaaGreatDoor.Rx
namespace Go.Proofs.YtkjgogdkdejljaaGreatDoor.Rx
open Go Go.Proofs Go.RowKit
attribute [local go_sem] Oper.semAt_some
def aH(W:World)(B:Nat)(l:List Bool):Prop:=∃ cs:Array Value,W.heap[B]?=some (.cells cs 4 (0,0))∧∀(i:Nat)(b:Bool),l[i]?=some b→cs[i]?=some (.bool b)
theorem aH.lt{W:World}{B:Nat}{l:List Bool}(h:aH W B l):B<W.heap.size:=by obtain⟨cs,h,_⟩:=h;exact (Array.getElem?_eq_some_iff.1 h).1
theorem aH.at{W:World}{B:Nat}{l:List Bool}(h:aH W B l)(i:Nat)(b:Bool)(hb:l[i]?=some b):W.cell? ⟨B,i,none⟩=some (.bool b):=by
 obtain⟨cs,h,hc⟩:=h
 simp[World.cell?,h,hc i b hb]
theorem aH.frozen{W:World}{B:Nat}{l:List Bool}(h:aH W B l)(j:Nat):W.frozen? ⟨B,j,none⟩=false:=by
 obtain⟨cs,h,_⟩:=h
 simp[World.frozen?,h]
theorem aH.same{W W':World}{B:Nat}{l:List Bool}(h:aH W B l)(e:W'.heap[B]?=W.heap[B]?):aH W' B l:=by
 obtain⟨cs,h,hc⟩:=h
 exact⟨cs,e.trans h,hc⟩
theorem aH.below{n B:Nat}{l:List Bool}{w w':World}(h:aH w B l)(hb:Below n w w')(hn:B<n):aH w' B l:=h.same (hb.block _ hn)
theorem aH.but{A B:Nat}{l:List Bool}{w w':World}(h:aH w B l)(hb:AX.But A w w')(hn:B≠A):aH w' B l:=h.same (hb.same _ h.lt hn)
theorem aH.other{W:World}{B B' i:Nat}{l:List Bool}{v:Value}(h:aH W B l)(hne:B≠B'):aH (W.setCell ⟨B',i,none⟩ v) B l:=h.same (Below.heap_setCell _ _ _ _ hne)
theorem aH.set{W:World}{B:Nat}{l:List Bool}(h:aH W B l)(i:Nat)(b:Bool):aH (W.setCell ⟨B,i,none⟩ (.bool b)) B (l.set i b):=by
 obtain⟨cs,h,hc⟩:=h
 have hb:=(Array.getElem?_eq_some_iff.1 h).1
 refine⟨cs.setIfInBounds i (.bool b),by simp[World.setCell,Array.getElem?_modify,h],fun j c hj=>?_⟩
 rw[Array.getElem?_setIfInBounds]
 rw[List.getElem?_set] at hj
 by_cases e:i=j
 ·subst e
  rw[if_pos rfl] at hj ⊢
  split at hj
  ·rename_i hl
   have:=hc i l[i] (List.getElem?_eq_getElem hl)
   rw[if_pos (Array.getElem?_eq_some_iff.1 this).1,Option.some.inj hj]
  ·cases hj
 ·rw[if_neg e] at hj ⊢
  exact hc j c hj
theorem gG(w:World)(A i:Nat)(v:Value):AX.But A w (w.setCell ⟨A,i,none⟩ v) :=
 ⟨(Below.refl 0 w).setCell (p:=⟨A,i,none⟩) (Nat.zero_le _) v,fun _ _ hk=>Below.heap_setCell _ _ _ _ hk⟩
set_option maxHeartbeats 4000000 in
theorem Ib(A B ca cb n:Nat)(la lb:List Bool)(hAB:B≠A)(hla:la.length=n)(hlb:lb.length=n)(hn:n≤1000000)(w:World)(hA:aH w A la)(hB:aH w B lb) :
  Calls Tryz.prog 126 #[.slice (some ⟨A,0,none⟩) n ca, .slice (some ⟨B,0,none⟩) n cb] w fun e w'=>e = .returned (.tuple #[])∧aH w' A (orS la lb)∧AX.But A w w':=by
 go_enter Tryz.func126,Tryz.ntmps126
 go_wp2
 obtain⟨wo,rfl⟩:∃ wo:World,wo=w:=⟨_,rfl⟩
 go_loopw [8] (fun i wr=>∃(k:Nat)(m:List Bool),k≤n∧i = .int .i64 k∧aH wr A m∧m.length=n∧(∀ j,j<k→m[j]?=(orS la lb)[j]?)∧(∀ j,k≤j→m[j]?=la[j]?)∧AX.But A wo wr)
  (fun i _=>n-(intOf i).toNat)
 case atStart=>exact⟨0,la,Nat.zero_le _,rfl,hA,hla,fun j h=>by omega,fun j _=>rfl,AX.But.refl _ _⟩
 case round =>
  obtain⟨k,m,hk,rfl,hm,hml,h1,h2,jV⟩:=hrel
  by_cases hlt:k<n
  ·have hB':=hB.but jV hAB
   obtain⟨x,hx⟩:∃ x,la[k]?=some x:=⟨_,List.getElem?_eq_getElem (by omega)⟩
   obtain⟨y,hy⟩:∃ y,lb[k]?=some y:=⟨_,List.getElem?_eq_getElem (by omega)⟩
   have hmx:=(h2 k Nat.le.refl).trans hx
   have HO:=Lib.hid (show(orS la lb)[k]?=some (x || y) by unfold orS;rw[List.getElem?_zipWith,hx,hy])
   have HM:=Lib.hid hmx
   have c0:=hm.at k x hmx
   have c1:=hB'.at k y hy
   have f0:=hm.frozen k
   clear hmx hx hy
   have hk0:(0:Int)≤(k:Int):=by omega
   have hk1:(k:Int)<(n:Int):=by omega
   have hkt:(k:Int).toNat=k:=by omega
   have hme:∀ b,b=(x || y)→aH (wr.setCell ⟨A,k,none⟩ (.bool b)) A (m.set k b)∧(m.set k b).length=n∧(∀ j,j<k+1→(m.set k b)[j]?=(orS la lb)[j]?)∧(∀ j,k+1≤j→(m.set k b)[j]?=la[j]?)∧AX.But A wo (wr.setCell ⟨A,k,none⟩ (.bool b)):=by
    rintro b rfl
    refine⟨hm.set k _,by simpa using hml,fun j hj=>?_,fun j hj=>?_,jV.trans (gG _ _ _ _)⟩
    ·rw[List.getElem?_set]
     by_cases e:k=j
     ·subst e;rw[if_pos rfl,if_pos (by omega),HO.out]
     ·rw[if_neg e];exact h1 j (by omega)
    ·rw[List.getElem?_set,if_neg (by omega)];exact h2 j (by omega)
   have HME:=Lib.hid hme
   clear hme h1 h2
   cases x<;>cases y
   all_goals
    go_wp2
    go_roundw
    case rel =>
     obtain⟨q1,q2,q3,q4,q5⟩:=HME.out _ rfl
     exact⟨k+1,_,by omega,by simp,q1,q2,q3,q4,q5⟩
    case measure=>simp[intOf];omega
  ·obtain rfl:k=n:=by omega
   have e:m=orS la lb:=List.ext_getElem? fun j=>by
    by_cases hj:j<k
    ·exact h1 j hj
    ·rw[List.getElem?_eq_none (by omega),List.getElem?_eq_none (by simp[orS];omega)]
   subst e
   go_wp2
   exact bodyPost_end (v := .tuple #[]) (by simp[results,Tryz.results126,go_sem]) rfl ⟨rfl,hm,jV⟩
structure eH(S:Nat→Prop)(X Y:World):Prop where
 low:Below 0 X Y
 same:∀ k,k<X.heap.size→¬S k→Y.heap[k]?=X.heap[k]?
theorem eH.refl(S:Nat→Prop)(X:World):eH S X X:=⟨Below.refl _ _,fun _ _ _=>rfl⟩
theorem eH.trans{S:Nat→Prop}{X Y Z:World}(h:eH S X Y)(k:eH S Y Z):eH S X Z:=⟨h.low.trans k.low,fun i hi hA=>(k.same i (Nat.lt_of_lt_of_le hi h.low.size) hA).trans (h.same i hi hA)⟩
theorem eH.of_below{S:Nat→Prop}{X Y:World}(h:Below X.heap.size X Y):eH S X Y:=⟨h.mono (Nat.zero_le _),fun k hk _=>h.block k hk⟩
theorem eH.qR{S:Nat→Prop}{A:Nat}{X Y:World}(h:AX.But A X Y)(hA:S A):eH S X Y:=⟨h.low,fun k hk hn=>h.same k hk (fun e=>hn (e ▸ hA))⟩
theorem eH.below{S:Nat→Prop}{n:Nat}{X Y:World}(h:eH S X Y)(hn:n≤X.heap.size)(hA:∀ k,S k→n≤k):Below n X Y:=⟨h.low.os,h.low.tape,h.low.output,h.low.size,fun k hk=>h.same k (by omega) (fun e=>by have:=hA k e;omega)⟩
theorem aH.gJ{S:Nat→Prop}{B:Nat}{l:List Bool}{w w':World}(h:aH w B l)(hb:eH S w w')(hn:¬S B):aH w' B l:=h.same (hb.same _ h.lt hn)
structure NAt(W:World)(NB n M:Nat)(bs:Nat→Nat)(nx:List (List Bool)):Prop where
 len:nx.length=n
 cells:∃ cs:Array Value,W.heap[NB]?=some (.cells cs 203 (0,0))∧cs.size=n∧∀ i,i<M→cs[i]?=some (.slice (some ⟨bs i,0,none⟩) n n)
 row:∀ i row,i<M→nx[i]?=some row→aH W (bs i) row∧row.length=n
 inj:∀ i j,i<M→j<M→bs i=bs j→i=j
 nb:∀ i,i<M→bs i≠NB
theorem NAt.cell{W:World}{NB n M:Nat}{bs:Nat→Nat}{nx:List (List Bool)}(h:NAt W NB n M bs nx){i:Nat}(hi:i<M):W.cell? ⟨NB,i,none⟩=some (.slice (some ⟨bs i,0,none⟩) n n):=by
 obtain⟨cs,h1,_,h2⟩:=h.cells
 simp[World.cell?,h1,h2 i hi]
theorem NAt.lt{W:World}{NB n M:Nat}{bs:Nat→Nat}{nx:List (List Bool)}(h:NAt W NB n M bs nx):NB<W.heap.size:=by
 obtain⟨cs,h1,_⟩:=h.cells
 exact (Array.getElem?_eq_some_iff.1 h1).1
theorem NAt.same{W W':World}{NB n M:Nat}{bs:Nat→Nat}{nx:List (List Bool)}(h:NAt W NB n M bs nx)(h1:W'.heap[NB]?=W.heap[NB]?)(h2:∀ i,i<M→W'.heap[bs i]?=W.heap[bs i]?):NAt W' NB n M bs nx:=by
 obtain⟨cs,a,b,c⟩:=h.cells
 exact⟨h.len,⟨cs,h1.trans a,b,c⟩,fun i row hi hr=>⟨(h.row i row hi hr).1.same (h2 i hi),(h.row i row hi hr).2⟩,h.inj,h.nb⟩
theorem NAt.below{W W':World}{m NB n M:Nat}{bs:Nat→Nat}{nx:List (List Bool)}(h:NAt W NB n M bs nx)(hb:Below m W W')(h1:NB<m)(h2:∀ i,i<M→bs i<m):NAt W' NB n M bs nx :=
 h.same (hb.block _ h1) (fun i hi=>hb.block _ (h2 i hi))
theorem NAt.blt{W:World}{NB n M:Nat}{bs:Nat→Nat}{nx:List (List Bool)}(h:NAt W NB n M bs nx)(hM:M≤n){i:Nat}(hi:i<M):bs i<W.heap.size :=
 (h.row i _ hi (List.getElem?_eq_getElem (by rw[h.len];omega))).1.lt
theorem NAt.turn{W W':World}{NB n M:Nat}{bs:Nat→Nat}{nx:List (List Bool)}(h:NAt W NB n M bs nx)(hM:M≤n){k:Nat}(hk:k<M){row:List Bool}(hr:aH W' (bs k) row)(hl:row.length=n)(hb:AX.But (bs k) W W'):NAt W' NB n M bs (nx.set k row):=by
 obtain⟨cs,a,b,c⟩:=h.cells
 refine⟨by rw[List.length_set,h.len],⟨cs,(hb.same _ h.lt (fun e=>h.nb k hk e.symm)).trans a,b,c⟩,fun i r hi hr'=>?_,h.inj,h.nb⟩
 rw[List.getElem?_set] at hr'
 by_cases e:k=i
 ·subst e
  rw[if_pos rfl,if_pos (by rw[h.len];omega)] at hr'
  rw[←Option.some.inj hr']
  exact⟨hr,hl⟩
 ·rw[if_neg e] at hr'
  exact⟨(h.row i r hi hr').1.but hb (fun e'=>e (h.inj _ _ hi hk e').symm),(h.row i r hi hr').2⟩
set_option maxHeartbeats 4000000 in
theorem Db(NB L F n M c cl cf:Nat)(bs:Nat→Nat)(rv ev:Value)(nx:List (List Bool))(l f:List Bool)(hM:M≤n)(hn:n≤1000000)(hl:l.length=n)(hf:f.length=n)(hlM:∀ p,mem l p→p<M)
  (hbl:∀ i,i<M→bs i≠L) (hbf:∀ i,i<M→bs i≠F) (w:World) (hN:NAt w NB n M bs nx) (hL:aH w L l) (hF:aH w F f) :
  Calls Tryz.prog 141 #[.agg #[rv,ev, .slice (some ⟨NB,0,none⟩) n c], .slice (some ⟨L,0,none⟩) n cl, .slice (some ⟨F,0,none⟩) n cf] w fun e w' =>
   e = .returned (.tuple #[])∧NAt w' NB n M bs (jD nx l f)∧eH (fun k=>∃ i,i<M∧k=bs i) w w':=by
 have hNl:=hN.lt
 have hbb:=fun i (hi:i<M)=>hN.blt hM hi
 have hLl:=hL.lt
 have hFl:=hF.lt
 go_enter Tryz.func141,Tryz.ntmps141
 go_wp2
 generalize hW0:w.alloc _=W0
 have hX0:W0.heap[w.heap.size]?=some (.cells #[rv,ev, .slice (some ⟨NB,0,none⟩) n c] 202 (0,0)):=by rw[←hW0];exact World.alloc_heap_new w _
 have hB0:Below w.heap.size w W0:=by rw[←hW0];exact (Below.refl _ w).alloc Nat.le.refl _
 have hN0:NAt W0 NB n M bs nx:=hN.below hB0 hNl hbb
 have hL0:=hL.below hB0 hLl
 have hF0:=hF.below hB0 hFl
 clear hW0
 obtain⟨ns,hns⟩:∃ ns,ns=w.heap.size:=⟨_,rfl⟩
 rw[←hns] at hX0 hB0 hNl hbb hLl hFl ⊢
 have HNS:=Lib.hid hns
 clear hns
 go_loopw [10] (fun i wr=>∃(k:Nat)(m:List (List Bool)),k≤n∧i = .int .i64 k∧NAt wr NB n M bs m∧(∀ j,j<k→m[j]?=(jD nx l f)[j]?)∧(∀ j,k≤j→m[j]?=nx[j]?)∧eH (fun k=>∃ i,i<M∧k=bs i) W0 wr)
  (fun i _=>n-(intOf i).toNat)
 case atStart=>exact⟨0,nx,Nat.zero_le _,rfl,hN0,fun j h=>by omega,fun j _=>rfl,eH.refl _ _⟩
 case round =>
  obtain⟨k,m,hk,rfl,hm,h1,h2,jV⟩:=hrel
  have hX:wr.cell? ⟨ns,2,none⟩=some (.slice (some ⟨NB,0,none⟩) n c):=by
   have:=(jV.same ns (by rw[Array.getElem?_eq_some_iff] at hX0;exact hX0.1) (by rintro⟨i,hi,e⟩;have:=hbb i hi;omega)).trans hX0
   simp[World.cell?,this]
  by_cases hlt:k<n
  ·obtain⟨x,hx⟩:∃ x,l[k]?=some x:=⟨_,List.getElem?_eq_getElem (by omega)⟩
   have c0:=(hL0.gJ jV (by rintro⟨i,hi,e⟩;exact hbl i hi e.symm)).at k x hx
   have hk0:(0:Int)≤(k:Int):=by omega
   have hk1:(k:Int)<(n:Int):=by omega
   have hkt:(k:Int).toNat=k:=by omega
   obtain⟨row,hrow⟩:∃ row,nx[k]?=some row:=⟨_,List.getElem?_eq_getElem (by rw[hN.len];exact hlt)⟩
   have Ls:=l5 (f:=f) (by rw[hN.len,hl]:nx.length=l.length) k row hrow
   have hmk:=(h2 k Nat.le.refl).trans hrow
   have hld:l.getD k false=x:=by rw[List.getD_eq_getElem?_getD,hx];rfl
   rw[hld] at Ls
   cases x with
   | false =>
    have HR:=Lib.hid (show m[k]?=(jD nx l f)[k]? by rw[hmk,Ls];rfl)
    clear hx hrow Ls hmk hld
    go_wp2
    go_roundw
    case rel=>exact⟨k+1,m,by omega,by simp,hm,fun j hj=>by
     by_cases e:j=k
     ·subst e;exact HR.out
     ·exact h1 j (by omega),fun j hj=>h2 j (by omega),jV⟩
    case measure=>simp[intOf];omega
   | true =>
    have hkM:=hlM k hx
    have hc:=hm.cell hkM
    obtain⟨hr1,hr2⟩:=hm.row k row hkM hmk
    have hF1:=hF0.gJ jV (by rintro⟨i,hi,e⟩;exact hbf i hi e.symm)
    have hor:=Ib (bs k) F n cf n row f (fun e=>hbf k hkM e.symm) hr2 hf hn wr hr1 hF1
    have HR:=Lib.hid (show(jD nx l f)[k]?=some (orS row f) by rw[Ls];rfl)
    have HL:=Lib.hid (show(orS row f).length=n by rw[gD (by rw[hr2,hf]),hr2])
    clear hx hrow Ls hmk hld hr1 hr2
    generalize orS row f=row' at *
    have hbk:=hm.blt hM hkM
    go_wp2_with (go_at_call 126;refine hor.mono ?_;rintro e Wd ⟨rfl,hrd,hbd⟩)
    go_roundw
    case rel=>exact⟨k+1,m.set k row',by omega,by simp,hm.turn hM hkM hrd HL.out hbd,fun j hj=>by
     rw[List.getElem?_set]
     by_cases e:k=j
     ·subst e;rw[if_pos rfl,if_pos (by rw[hm.len];omega),HR.out]
     ·rw[if_neg e];exact h1 j (by omega),fun j hj=>by
     rw[List.getElem?_set,if_neg (by omega)];exact h2 j (by omega),jV.trans (.qR hbd ⟨k,hkM,rfl⟩)⟩
    case measure=>simp[intOf];omega
  ·obtain rfl:k=n:=by omega
   have e:m=jD nx l f:=List.ext_getElem? fun j=>by
    by_cases hj:j<k
    ·exact h1 j hj
    ·rw[List.getElem?_eq_none (by rw[hm.len];omega),List.getElem?_eq_none (by rw[pQ (by rw[hN.len,hl]),hN.len];omega)]
   subst e
   go_wp2
   refine bodyPost_end (v := .tuple #[]) (by simp[results,Tryz.results141,go_sem]) rfl ⟨rfl,hm,?_⟩
   exact(eH.of_below (HNS.out ▸ hB0)).trans jV
theorem addr_add(B o j:Nat):(⟨B,o,none⟩:Addr).add j=⟨B,o+j,none⟩:=by unfold Addr.add;split<;>simp_all
theorem Lu:(Tryz.prog.info? 4).map (fun i=>(i.zero,i.size,i.bytes))=some (some (.bool false),1,1):=by kernel_rfl
theorem Lv(W:World)(B off n c:Nat):(binOp .eql 203 (.slice (some ⟨B,off,none⟩) n c) (.slice none 0 0)).run Tryz.prog W = .ok (.bool false) W:=by kernel_rfl
set_option maxRecDepth 100000 in
set_option maxHeartbeats 2000000 in
theorem FW(B n c:Nat)(l:List Bool)(hl:l.length=n)(h1n:1≤n)(hn:n≤1000000)(w:World)(hB:aH w B l) :
  Calls Tryz.prog 169 #[.slice (some ⟨B,0,none⟩) n c] w fun e w'=>(∃ B' c',e = .returned (.slice (some ⟨B',0,none⟩) n c')∧w.heap.size≤B'∧aH w' B' l)∧Below w.heap.size w w':=by
 have hq:=Lv
 obtain⟨ti,hi,hz0,hz1,hz2⟩:=info_parts Lu
 have hown:(w.alloc (.cells #[] 4)).ownsRow w.heap.size 4 1 (.slice (some ⟨w.heap.size,0,none⟩) 0 0) 0 []:=⟨rfl, .inr ⟨w.heap.size,0,#[],rfl,Nat.le_refl _,World.alloc_heap_new w _,Nat.le_refl _,by unfold maxLen;omega,rfl,rfl⟩⟩
 have hB0:Below w.heap.size w (w.alloc (.cells #[] 4)):=(Below.refl _ w).alloc Nat.le.refl _
 have VL:=hB.below hB0 hB.lt
 have hnews:∀ j u,(l.map Value.bool)[j]?=some u→(w.alloc (.cells #[] 4)).cell? ((⟨B,0,none⟩:Addr).add j)=some u:=fun j u hj=>by
  rw[addr_add,Nat.zero_add]
  rw[List.getElem?_map] at hj
  cases e:l[j]? with
  | none=>rw[e] at hj;cases hj
  | some b=>rw[e] at hj;cases hj;exact VL.at j b e
 have hone:∀ v∈l.map Value.bool,v.oneCell'=true:=fun v hv=>by
  obtain⟨b,_,rfl⟩:=List.mem_map.1 hv;rfl
 go_enter Tryz.func169,Tryz.ntmps169
 go_wp2_with (at_builtin;refine wpList_append_own _ rfl _ _ 203 rfl w.heap.size 4 ti (.bool false) 1 1 Tryz.underlying203 hi hz0 hz1 hz2 rfl (by decide) _ 0 [] rfl hown ⟨B,0,none⟩ n c (l.map Value.bool) rfl (by simp[hl]) hnews hone (by unfold maxLen;omega) (by omega) (by simp) ?_;intro v' w1 hown' hgrow _)
 have hBl:Below w.heap.size w w1:=hB0.grown hgrow (by simp) fun k hk=>(hown.lt k hk).1
 rw[Nat.zero_add,List.nil_append] at hown'
 rcases hown'.2 with ⟨rfl,h0⟩ | ⟨g,cap,cur,rfl,hg,hh,h1,h2,h3,h4⟩
 ·omega
 ·refine bodyPost_ret (v := .slice (some ⟨g,0,none⟩) n cap) (by simp[results,Tryz.results169,go_sem]) rfl ⟨⟨g,cap,rfl,hg,cur,hh,fun i b hb=>?_⟩,hBl⟩
  have hj:(cur.toList.take (n*1))[i]?=some (.bool b):=by rw[h4,List.getElem?_map,hb];rfl
  rw[List.getElem?_take] at hj
  split at hj
  ·simpa using hj
  ·cases hj
theorem wrap_two_pow(r:Nat)(hr:r<64):IntKind.u64.wrap ((2:Int) ^ r)=((2 ^ r:Nat):Int):=by
 have h:2 ^ r<2 ^ 64:=Nat.pow_lt_pow_right (by decide) hr
 have h:2 ^ r<18446744073709551616:=by simpa using h
 have e:((2:Int) ^ r)=((2 ^ r:Nat):Int):=by simp
 rw[e]
 generalize 2 ^ r=m at *
 rw[IntKind.wrap_u64]
 omega
theorem kH(a r:Nat):a &&& 2 ^ r=if a.testBit r then 2 ^ r else 0:=by
 apply Nat.eq_of_testBit_eq
 intro j
 rw[Nat.testBit_and,Nat.testBit_two_pow]
 by_cases h:r=j
 ·subst h
  cases a.testBit r<;>simp
 ·cases a.testBit r<;>simp[h]
theorem iT(a r:Nat)(ha:a<18446744073709551616)(hr:r<64):(bits .and .u64 (a:Int) (IntKind.u64.wrap ((2:Int) ^ r)) != 0)=a.testBit r:=by
 have h:2 ^ r<2 ^ 64:=Nat.pow_lt_pow_right (by decide) hr
 rw[wrap_two_pow r hr,bits_and_u64_nat a _ ha (by simpa using h),kH]
 have hp:0<2 ^ r:=Nat.two_pow_pos r
 generalize 2 ^ r=m at hp
 cases hb:a.testBit r with
 | true=>simp;omega
 | false=>simp
structure Nd.Wd(x:Nd):Prop where
 a:x.a<18446744073709551616
 b:x.b<18446744073709551616
 c:x.c<18446744073709551616
 d:x.d<18446744073709551616
set_option maxHeartbeats 2000000 in
theorem VJ(x:Nd)(hx:x.Wd)(b:Nat)(hb:b<256)(w:World) :
  Calls Tryz.prog 125 #[.agg #[.int .u64 x.a, .int .u64 x.b, .int .u64 x.c, .int .u64 x.d], .int .u8 b] w fun e w'=>e = .returned (.bool (x.has (b:Nat)))∧Below w.heap.size w w':=by
 obtain⟨k,a0,a1,a2,a3,kids⟩:=x
 obtain⟨l0,l1,l2,l3⟩:=hx
 simp only at l0 l1 l2 l3
 obtain⟨r,hr⟩:∃ r:Nat,r=b % 64:=⟨_,rfl⟩
 have iV:r<64:=by omega
 have hrm:(b:Int) % 64=(r:Nat):=by omega
 have h4:b / 64=0∨b / 64=1∨b / 64=2∨b / 64=3:=by omega
 have hB:Below w.heap.size w (w.alloc (.cells #[.int .u64 a0, .int .u64 a1, .int .u64 a2, .int .u64 a3] 116)):=(Below.refl _ w).alloc Nat.le.refl _
 have HH:Hid (Nd.has ⟨k,a0,a1,a2,a3,kids⟩ (b:Nat)=(if b / 64=0 then a0 else if b / 64=1 then a1 else if b / 64=2 then a2 else a3).testBit r):=Lib.hid (by subst hr;simp[Nd.has,Nd.wd])
 clear hr
 obtain hq | hq | hq | hq:=h4
 all_goals
  simp only[hq] at HH
 ·have hqi:(b:Int) / 64=0:=by omega
  have ho:=iT _ r l0 iV
  clear hq
  go_enter Tryz.func125,Tryz.ntmps125
  go_wp2
  go_ret
  exact⟨by rw[HH.out];rfl,hB⟩
 ·have hqi:(b:Int) / 64=1:=by omega
  have ho:=iT _ r l1 iV
  clear hq
  go_enter Tryz.func125,Tryz.ntmps125
  go_wp2
  go_ret
  exact⟨by rw[HH.out];rfl,hB⟩
 ·have hqi:(b:Int) / 64=2:=by omega
  have ho:=iT _ r l2 iV
  clear hq
  go_enter Tryz.func125,Tryz.ntmps125
  go_wp2
  go_ret
  exact⟨by rw[HH.out];rfl,hB⟩
 ·have hqi:(b:Int) / 64=3:=by omega
  have ho:=iT _ r l3 iV
  clear hq
  go_enter Tryz.func125,Tryz.ntmps125
  go_wp2
  go_ret
  exact⟨by rw[HH.out];rfl,hB⟩
set_option maxHeartbeats 2000000 in
theorem FX(k:Int)(w:World):Calls Tryz.prog 94 #[.int .i64 k] w fun e w'=>e = .returned (.tuple #[.int .i64 (kY k), .int .i64 (gM k), .bool (wC k)])∧w'=w:=by
  have h8:k=1∨k=2∨k=3∨k=4∨k=5∨k=6∨k=7∨(k≠1∧k≠2∧k≠3∧k≠4∧k≠5∧k≠6∧k≠7):=by omega
  rcases h8 with rfl | rfl | rfl | rfl | rfl | rfl | rfl | ⟨h1,h2,h3,h4,h5,h6,h7⟩
  all_goals
    first
      | (have e:kY k=0∧gM k=0∧wC k=false:=⟨by simp[kY,h1,h2,h3,h4,h5,h6,h7],by simp[gM,h1,h2,h3,h4,h5,h6,h7],by simp[wC];omega⟩
         rw[e.1,e.2.1,e.2.2]
         clear e)
      | skip
    go_enter Tryz.func94,Tryz.ntmps94
    go_wp2
    refine bodyPost_ret (v := .tuple #[.int .i64 _, .int .i64 _, .bool _]) (by first | (simp[results,Tryz.results94,go_sem];done) | (simp[results,Tryz.results94,go_sem];decide)) rfl ⟨rfl,rfl⟩
def IRd(W:World)(v:Value)(l:List Int):Prop:=∃(la:Option Addr)(c:Nat),v = .slice la l.length (l.length+c)∧(la=none→l = [])∧∀ a,la=some a→l≠[]→∃ B off,a=⟨B,off,none⟩∧B<W.heap.size∧∀ i x,l[i]?=some x→W.cell? ⟨B,off+i,none⟩=some (.int .i64 x)
theorem IRd.below{n:Nat}{w w':World}{v:Value}{l:List Int}(h:IRd w v l)(hn:w.heap.size≤n)(hb:Below n w w'):IRd w' v l:=by
 obtain⟨la,c,rfl,h1,h2⟩:=h
 exact⟨la,c,rfl,h1,fun a e ne=>by obtain⟨B,off,e1,e2,e3⟩:=h2 a e ne;exact⟨B,off,e1,Nat.lt_of_lt_of_le e2 hb.size,fun i x hx=>(hb.cell (p:=⟨B,off+i,none⟩) (Nat.lt_of_lt_of_le e2 hn)).trans (e3 i x hx)⟩⟩
theorem IRd.old{W:World}{v:Value}{l:List Int}(h:IRd W v l):∃(la:Option Addr)(c:Nat),v = .slice la l.length c∧(la=none→l = [])∧∀ a,la=some a→l≠[]→∃ B off,a=⟨B,off,none⟩∧B<W.heap.size∧∀ i x,l[i]?=some x→W.cell? ⟨B,off+i,none⟩=some (.int .i64 x):=by
 obtain⟨la,c,h⟩:=h
 exact⟨la,_,h⟩
structure XAt(W:World)(B o:Nat)(x:Nd):Prop where
 c0:W.cell? ⟨B,o,none⟩=some (.int .i64 x.k)
 c1:W.cell? ⟨B,o+1,none⟩=some (.int .u64 (x.a:Nat))
 c2:W.cell? ⟨B,o+2,none⟩=some (.int .u64 (x.b:Nat))
 c3:W.cell? ⟨B,o+3,none⟩=some (.int .u64 (x.c:Nat))
 c4:W.cell? ⟨B,o+4,none⟩=some (.int .u64 (x.d:Nat))
 c5:∃ v,W.cell? ⟨B,o+5,none⟩=some v∧IRd W v x.kids
theorem XAt.below{n B o:Nat}{x:Nd}{w w':World}(h:XAt w B o x)(hn:w.heap.size≤n)(hb:Below n w w')(hB:B<n):XAt w' B o x :=
  ⟨(hb.cell (p:=⟨B,o,none⟩) hB).trans h.c0,(hb.cell (p:=⟨B,o+1,none⟩) hB).trans h.c1,(hb.cell (p:=⟨B,o+2,none⟩) hB).trans h.c2,(hb.cell (p:=⟨B,o+3,none⟩) hB).trans h.c3,(hb.cell (p:=⟨B,o+4,none⟩) hB).trans h.c4,by
    obtain⟨v,h1,h2⟩:=h.c5
    exact⟨v,(hb.cell (p:=⟨B,o+5,none⟩) hB).trans h1,h2.below hn hb⟩⟩
def iB(W:World)(v:Value)(r:List Nd):Prop:=∃(la:Option Addr)(c:Nat),v = .slice la r.length c∧(la=none→r = [])∧∀ a,la=some a→r≠[]→∃ B off,a=⟨B,off,none⟩∧B<W.heap.size∧∀ i x,r[i]?=some x→XAt W B (off+i*6) x
theorem iB.below{n:Nat}{w w':World}{v:Value}{r:List Nd}(h:iB w v r)(hn:w.heap.size≤n)(hb:Below n w w'):iB w' v r:=by
 obtain⟨la,c,rfl,h1,h2⟩:=h
 exact⟨la,c,rfl,h1,fun a e ne=>by obtain⟨B,off,e1,e2,e3⟩:=h2 a e ne;exact⟨B,off,e1,Nat.lt_of_lt_of_le e2 hb.size,fun i x hx=>(e3 i x hx).below hn hb (Nat.lt_of_lt_of_le e2 hn)⟩⟩
def aJ(W:World)(B:Nat)(l:List Int):Prop:=∃ cs:Array Value,W.heap[B]?=some (.cells cs 3 (0,0))∧∀(i:Nat)(b:Int),l[i]?=some b→cs[i]?=some (.int .i64 b)
theorem aJ.lt{W:World}{B:Nat}{l:List Int}(h:aJ W B l):B<W.heap.size:=by obtain⟨cs,h,_⟩:=h;exact (Array.getElem?_eq_some_iff.1 h).1
theorem aJ.at{W:World}{B:Nat}{l:List Int}(h:aJ W B l)(i:Nat)(b:Int)(hb:l[i]?=some b):W.cell? ⟨B,i,none⟩=some (.int .i64 b):=by
 obtain⟨cs,h,hc⟩:=h
 simp[World.cell?,h,hc i b hb]
theorem aJ.frozen{W:World}{B:Nat}{l:List Int}(h:aJ W B l)(j:Nat):W.frozen? ⟨B,j,none⟩=false:=by
 obtain⟨cs,h,_⟩:=h
 simp[World.frozen?,h]
theorem aJ.same{W W':World}{B:Nat}{l:List Int}(h:aJ W B l)(e:W'.heap[B]?=W.heap[B]?):aJ W' B l:=by
 obtain⟨cs,h,hc⟩:=h
 exact⟨cs,e.trans h,hc⟩
theorem aJ.below{n B:Nat}{l:List Int}{w w':World}(h:aJ w B l)(hb:Below n w w')(hn:B<n):aJ w' B l:=h.same (hb.block _ hn)
theorem aJ.set{W:World}{B:Nat}{l:List Int}(h:aJ W B l)(i:Nat)(b:Int):aJ (W.setCell ⟨B,i,none⟩ (.int .i64 b)) B (l.set i b):=by
 obtain⟨cs,h,hc⟩:=h
 have hb:=(Array.getElem?_eq_some_iff.1 h).1
 refine⟨cs.setIfInBounds i (.int .i64 b),by simp[World.setCell,Array.getElem?_modify,h],fun j c hj=>?_⟩
 rw[Array.getElem?_setIfInBounds]
 rw[List.getElem?_set] at hj
 by_cases e:i=j
 ·subst e
  rw[if_pos rfl] at hj ⊢
  split at hj
  ·rename_i hl
   have:=hc i l[i] (List.getElem?_eq_getElem hl)
   rw[if_pos (Array.getElem?_eq_some_iff.1 this).1,Option.some.inj hj]
  ·cases hj
 ·rw[if_neg e] at hj ⊢
  exact hc j c hj
theorem R7(x:Int)(w:World):Calls Tryz.prog 95 #[.int .i64 x] w fun e w'=>e = .returned (.bool (x != 1))∧w'=w:=by
 go_enter Tryz.func95,Tryz.ntmps95
 go_wp2
 exact bodyPost_ret (v := .bool (x != 1)) (by simp[results,Tryz.results95,go_sem]) rfl ⟨rfl,rfl⟩
set_option maxHeartbeats 4000000 in
theorem zP(B n c:Nat)(l:List Int)(hn:n≤l.length)(hl:l.length≤1000000)(w:World)(hB:aJ w B l) :
  Calls Tryz.prog 76 #[.slice (some ⟨B,0,none⟩) n c, .func (.func 95) #[] #[]] w fun e w'=>(∃ z:Int,e = .returned (.int .i64 z)∧((0≤z∧∃ x∈l.take n,x≠1)∨(z = -1∧∀ x∈l.take n,x=1)))∧w'=w:=by
 go_enter Tryz.func76,Tryz.ntmps76
 go_wp2
 obtain⟨wo,rfl⟩:∃ wo:World,wo=w:=⟨_,rfl⟩
 go_loopw [8] (fun i wr=>∃ k:Nat,k≤n∧i = .int .i64 k∧Hid (∀ x∈l.take k,x=1)∧wr=wo) (fun i _=>n-(intOf i).toNat)
 case atStart=>exact⟨0,Nat.zero_le _,rfl,Lib.hid (by simp),rfl⟩
 case round =>
  obtain⟨k,hk,rfl,hH,rfl⟩:=hrel
  by_cases hlt:k<n
  ·obtain⟨x,hx⟩:∃ x,l[k]?=some x:=⟨_,List.getElem?_eq_getElem (by omega)⟩
   have c0:=hB.at k x hx
   have hn1:=R7 x wr
   have hk0:(0:Int)≤(k:Int):=by omega
   have hk1:(k:Int)<(n:Int):=by omega
   have HT:Hid (l.take (k+1)=l.take k++[x]):=Lib.hid (by rw[List.take_add_one,hx];rfl)
   have HM:Hid (x∈l.take n):=Lib.hid (by rw[List.mem_take_iff_getElem];exact⟨k,by omega,by rw[List.getElem?_eq_getElem (by omega)] at hx;exact Option.some.inj hx⟩)
   clear hx
   by_cases h1:x=1
   ·subst h1
    rw[show ((1:Int) != 1)=false from rfl] at hn1
    go_wp2_with (go_at_call 95;refine hn1.mono ?_;rintro e Wd ⟨rfl,rfl⟩)
    go_roundw
    case rel=>exact⟨k+1,by omega,by simp,Lib.hid (by rw[HT.out];intro y hy;rcases List.mem_append.1 hy with hy | hy;exact hH.out y hy;simpa using hy),by trivial⟩
    case measure=>simp[intOf];omega
   ·have hb:(x != 1)=true:=by simpa using h1
    rw[hb] at hn1
    have H1:=Lib.hid h1
    clear h1 hb
    go_wp2_with (go_at_call 95;refine hn1.mono ?_;rintro e Wd ⟨rfl,rfl⟩)
    exact bodyPost_ret (v := .int .i64 k) (by simp[results,Tryz.results76,go_sem]) rfl ⟨⟨k,rfl, .inl ⟨by omega,x,HM.out,H1.out⟩⟩,rfl⟩
  ·obtain rfl:k=n:=by omega
   go_wp2
   exact bodyPost_ret (v := .int .i64 (-1)) (by simp[results,Tryz.results76,go_sem]) rfl ⟨⟨-1,rfl, .inr ⟨rfl,hH.out⟩⟩,rfl⟩
open Classical in
theorem contains_k(B n c:Nat)(l:List Int)(hn:n≤l.length)(hl:l.length≤1000000)(w:World)(hB:aJ w B l) :
  Calls Tryz.prog 38 #[.slice (some ⟨B,0,none⟩) n c, .func (.func 95) #[] #[]] w fun e w'=>e = .returned (.bool (decide (∃ x∈l.take n,x≠1)))∧w'=w:=by
 have h:=zP B n c l hn hl w hB
 go_enter Tryz.func38,Tryz.ntmps38
 go_wp2_with (go_at_call 76;refine h.mono ?_;rintro e Wd ⟨⟨z,rfl,hz⟩,rfl⟩)
 have e:decide (∃ x∈l.take n,x≠1)=decide (z ≥ 0):=by
  rcases hz with ⟨h1,h2⟩ | ⟨h1,h2⟩
  ·rw[decide_eq_true h2,decide_eq_true h1]
  ·rw[decide_eq_false (by rintro⟨x,hx,h3⟩;exact h3 (h2 x hx)),decide_eq_false (by omega)]
 rw[e]
 exact bodyPost_ret (v := .bool (decide (z ≥ 0))) (by simp[results,Tryz.results38,go_sem]) rfl ⟨rfl,rfl⟩
end Go.Proofs.YtkjgogdkdejljaaGreatDoor.Rx
namespace Go.Proofs.YtkjgogdkdejljaaGreatDoor.Rx
variable {r : List Nd}
def Par(r:List Nd)(p q:Nat):Prop:=∃ x,r[q]?=some x∧(p:Int)∈x.kids
inductive jE (r:List Nd):Nat→Nat→Prop
 | refl (p:Nat):jE r p p
 | up {p q i:Nat} : Par r p q→jE r q i→jE r p i
theorem fO(x:Nd)(r:List Nd):aW (x::r)=x.kids++aW r:=by simp[aW]
theorem count_le(a:Int):∀(r:List Nd)(q:Nat)(x:Nd),r[q]?=some x→x.kids.count a≤(aW r).count a
 | [],_,_,h=>by simp at h
 | y::r,0,x,h=>by
  simp at h;subst h
  rw[fO,List.count_append];omega
 | y::r,q+1,x,h=>by
  have:=count_le a r q x (by simpa using h)
  rw[fO,List.count_append];omega
theorem rA(a:Int):∀(r:List Nd)(q q':Nat)(x y:Nd),q<q'→r[q]?=some x→r[q']?=some y→a∈x.kids→a∈y.kids→2≤(aW r).count a
 | [],_,_,_,_,_,h,_,_,_=>by simp at h
 | z::r,0,q'+1,x,y,_,h,h',hx,hy=>by
  simp at h;subst h
  have h1:=count_le a r q' y (by simpa using h')
  have h2:=List.count_pos_iff.2 hx
  have h3:=List.count_pos_iff.2 hy
  rw[fO,List.count_append];omega
 | z::r,q+1,q'+1,x,y,hq,h,h',hx,hy=>by
  have:=rA a r q q' x y (by omega) (by simpa using h) (by simpa using h') hx hy
  rw[fO,List.count_append];omega
 | z::r,q+1,0,x,y,hq,_,_,_,_=>by omega
theorem lt_of_some{α : Type}{l:List α}{i:Nat}{x : α}(h:l[i]?=some x):i<l.length:=by
 rcases Nat.lt_or_ge i l.length with y | y
 ·exact y
 ·rw[List.getElem?_eq_none y] at h;simp at h
theorem Par.lt(ok:dx r){p q:Nat}(h:Par r p q):p<q:=by
 obtain⟨x,hx,hp⟩:=h
 have:=((ok.nd q x hx).kids _ hp).2
 omega
theorem Par.Rm{p q:Nat}(h:Par r p q):q<r.length:=by
 obtain⟨x,hx,_⟩:=h
 exact lt_of_some hx
theorem FC(ok:dx r){p q q':Nat}(h:Par r p q)(h':Par r p q'):q=q':=by
 have l1:=h.lt ok
 have l2:=h.Rm
 have hc:=ok.once p (by omega)
 obtain⟨x,hx,hp⟩:=h
 obtain⟨y,hy,hp'⟩:=h'
 rcases Nat.lt_trichotomy q q' with e | e | e
 ·have:=rA _ r q q' x y e hx hy hp hp';omega
 ·exact e
 ·have:=rA _ r q' q y x e hy hx hp' hp;omega
theorem Ey(ok:dx r){i:Nat}{x:Nd}(hx:r[i]?=some x):x.kids.Nodup:=by
 rw[List.nodup_iff_count]
 intro a
 by_cases ha:a∈x.kids
 ·have h1:=(ok.nd i x hx).kids a ha
  have h2:=lt_of_some hx
  have h3:=ok.once a.toNat (by omega)
  have h4:=count_le a r i x hx
  rw[show ((a.toNat:Nat):Int)=a by omega] at h3
  omega
 ·rw[List.count_eq_zero_of_not_mem ha];omega
theorem jE.le(ok:dx r){p i:Nat}(h:jE r p i):p≤i:=by
 induction h with
 | refl=>exact Nat.le_refl _
 | up hp _ ih=>have:=hp.lt ok;omega
theorem jE.snoc{p k i:Nat}(h:jE r p k)(hk:Par r k i):jE r p i:=by
 induction h with
 | refl=>exact .up hk (.refl _)
 | up hp _ ih=>exact .up hp (ih hk)
theorem jE.last{p i:Nat}(h:jE r p i):p=i∨∃ k,Par r k i∧jE r p k:=by
 induction h with
 | refl=>exact .inl rfl
 | up hp _ ih =>
  rcases ih with rfl | ⟨k,hk,hd⟩
  ·exact .inr ⟨_,hp, .refl _⟩
  ·exact .inr ⟨k,hk, .up hp hd⟩
theorem KD(ok:dx r){p k k':Nat}(h:jE r p k)(h':jE r p k'):jE r k k'∨jE r k' k:=by
 induction h with
 | refl=>exact .inl h'
 | up hp hd ih =>
  cases h' with
  | refl=>exact .inr (.up hp hd)
  | up hp' hd' =>
   have:=FC ok hp hp'
   subst this
   exact ih hd'
theorem FD(ok:dx r){k k' i:Nat}(hk:Par r k i)(hk':Par r k' i)(hd:jE r k k'):k=k':=by
 cases hd with
 | refl=>rfl
 | up hp hd =>
  have:=FC ok hp hk
  subst this
  have h1:=hd.le ok
  have h2:=hk'.lt ok
  omega
theorem Ez(ok:dx r){p k k' i:Nat}(hk:Par r k i)(hk':Par r k' i)(h:jE r p k)(h':jE r p k'):k=k':=by
 rcases KD ok h h' with x | x
 ·exact FD ok hk hk' x
 ·exact (FD ok hk' hk x).symm
end Go.Proofs.YtkjgogdkdejljaaGreatDoor.Rx
namespace Go.Proofs.YtkjgogdkdejljaaGreatDoor.Rx
open Go Go.Proofs Go.RowKit
attribute [local go_sem] Oper.semAt_some
open Classical in
noncomputable def dH(r:List Nd):Int:=if dx r then 0 else 2
def gQ(n:Nat)(ks:List Int):List Int:=(List.range n).map fun j:Nat=>((ks.count (j:Int):Nat):Int)
theorem je(n:Nat)(ks:List Int):(gQ n ks).length=n:=by simp[gQ]
theorem kD(n:Nat)(ks:List Int)(j:Nat)(hj:j<n):(gQ n ks)[j]?=some ((ks.count (j:Int):Nat):Int):=by simp[gQ,hj]
theorem Ih(n:Nat)(ks:List Int)(j:Nat)(hj:j<n):(gQ n ks).set j (((ks.count (j:Int):Nat):Int)+1)=gQ n (ks++[(j:Int)]):=by
 apply List.ext_getElem?
 intro i
 rw[List.getElem?_set]
 by_cases hi:i<n
 ·rw[kD n (ks++[(j:Int)]) i hi,kD n ks i hi,List.count_append,List.count_singleton]
  by_cases e:j=i
  ·subst e;rw[if_pos rfl,if_pos (by rw[je];exact hj),if_pos (by simp)];simp
  ·rw[if_neg e,if_neg (by simp;omega)];simp
 ·rw[List.getElem?_eq_none (by rw[je];omega:(gQ n (ks++[(j:Int)])).length≤i),List.getElem?_eq_none (by rw[je];omega:(gQ n ks).length≤i)]
  rw[if_neg (by omega)]
theorem sH(r:List Nd)(k:Nat)(x:Nd)(h:r[k]?=some x):aW (r.take (k+1))=aW (r.take k)++x.kids:=by
 rw[List.take_add_one,h,aW,List.flatMap_append];simp[aW]
def LA(x:Nd):Prop:=(1≤x.k∧x.k≤7)∧kY x.k≤x.kids.length∧(x.kids.length:Int)≤gM x.k∧(x.k≠2→x.a=0∧x.b=0∧x.c=0∧x.d=0)
theorem Oi(a b c d:Nat)(W:World):(binOp .neq 116 (.agg #[.int .u64 a, .int .u64 b, .int .u64 c, .int .u64 d]) (.agg #[.int .u64 0, .int .u64 0, .int .u64 0, .int .u64 0])).run Tryz.prog W = .ok (.bool (!decide (a=0∧b=0∧c=0∧d=0))) W:=by
 cases a<;>cases b<;>cases c<;>cases d<;>kernel_rfl
theorem info3':(Tryz.prog.info? 3).map (fun i=>(i.zero,i.size,i.bytes))=some (some (.int .i64 0),1,8):=by kernel_rfl
theorem Dc(z:Value)(k i:Nat)(h:i<k):(madeCells #[z] k)[i]?=some z:=by
 simp[madeCells,h,Nat.mod_one]
theorem Oj(n:Nat)(hn:n≤1000)(w:World):∃ W0,(Instr.makeSlice 25 (.int .i64 n) (.int .i64 n)).run Tryz.prog w = .ok (.slice (some ⟨w.heap.size,0,none⟩) n n) W0∧aJ W0 w.heap.size (gQ n [])∧Below w.heap.size w W0∧W0.heap.size=w.heap.size+1:=by
 obtain⟨ti,hi,hz0,hz1,hz2⟩:=info_parts info3'
 have h:=run_makeSlice (P:=Tryz.prog) (w:=w) 25 3 ti (.int .i64 0) Tryz.underlying25 hi hz0 .i64 .i64 (n:Int) (n:Int) (by omega) (Int.le_refl _) (by rw[hz1];simp;omega) (by rw[hz2];omega) (by omega)
 refine⟨_,by rw[Int.toNat_natCast] at h;exact h,⟨_,World.alloc_heap_new w _,fun i b hb=>?_⟩,(Below.refl _ w).alloc Nat.le.refl _,by simp⟩
 have hi':=lt_of_some hb
 rw[je] at hi'
 rw[kD n [] i hi'] at hb
 show(madeCells #[Value.int .i64 0] (n*ti.size))[i]?=_
 rw[hz1,Nat.mul_one]
 have:=Dc (.int .i64 0) n i hi'
 simp at hb
 subst hb
 exact this
end Go.Proofs.YtkjgogdkdejljaaGreatDoor.Rx
