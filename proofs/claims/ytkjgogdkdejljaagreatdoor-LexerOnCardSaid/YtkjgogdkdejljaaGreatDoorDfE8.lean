import Derived.Test.YtkjgogdkdejljaaGreatDoorDfE3
import Derived.Test.YtkjgogdkdejljaaGreatDoorDfN23
set_option maxRecDepth 100000
set_option maxHeartbeats 40000000
namespace Go.Proofs.YtkjgogdkdejljaaGreatDoor.Df
section
open Go Go.Proofs Go.RowKit
open Rx (Nd eP iO)
structure Bt(N:Nf)(most:Nat)(tss:List (List Int))(T:Sets):Prop where
 len:tss.length=T.length
 most:T.length≤most
 one:1≤T.length
 bd:∀ i,i<256*T.length → -1≤(dI (fF (spl N.cl)) tss).getD i 0∧(dI (fF (spl N.cl)) tss).getD i 0<(T.length:Int)
theorem getD_mem{l:List Int}{i:Nat}(h:i<l.length):l.getD i 0∈l:=by
 rw[List.getD_eq_getElem?_getD,List.getElem?_eq_getElem h];exact List.getElem_mem h
theorem Bt.of{N:Nf}{most:Nat}(hm:1≤most){tss:List (List Int)}{T:Sets}(h:kY most (jC N) (eY (spl N.cl)) (most+1) 0 [[0]]=some (tss,T)):Bt N most tss T:=by
 obtain⟨h1,h2,h3,⟨R,h4⟩,h5⟩:=DT h (by simpa using hm) (by simp) (by omega);obtain⟨r,hl⟩:=Zh (fF (spl N.cl)) h hm;refine⟨hl,h2,by rw[h4];simp,fun i hi=>?_⟩;obtain⟨k,x,hx,rfl⟩:∃ k x,x<256∧i=256*k+x:=⟨i / 256,i % 256,Nat.mod_lt _ (by decide),by omega⟩;have hk:k<T.length:=by omega
 have L:=WR (qN N.cl) (IU N.cl);rw[vF _ _ _ _ (by omega) hx];obtain⟨a1,_,_,a4⟩:=h5 k (by omega);have hlt:fF (spl N.cl) x<(tss.getD k []).length:=by rw[a1];exact L.lt x hx
 exact a4 _ (getD_mem hlt)
theorem Bt.ok{N:Nf}(o:yC N){most:Nat}(hm:most≤512){tss:List (List Int)}{T:Sets}(h:Bt N most tss T):okT (dI (fF (spl N.cl)) tss) (iG N.ru T)=true:=by
 have hl:(iG N.ru T).length=T.length:=by unfold iG;simp
 have h1:=h.one;have h2:=h.most;have hn:(dI (fF (spl N.cl)) tss).length=256*T.length:=by rw[qO,h.len]
 unfold okT inR;simp only[Bool.and_eq_true,decide_eq_true_eq,List.all_eq_true];refine⟨by omega,by omega,by omega,fun x hx=>?_,fun x hx=>?_⟩
 ·unfold iG at hx
  obtain⟨S,_,rfl⟩:=List.mem_map.1 hx;exact IV N.ru o.rule S
 ·obtain⟨i,hi,rfl⟩:=List.mem_iff_getElem.1 hx
  have:=h.bd i (by omega);rw[List.getD_eq_getElem?_getD,List.getElem?_eq_getElem hi,Option.getD_some] at this;rw[hl];exact this
theorem O1{n:Int→NS→NS×Pl}(hn:∀ k s,∀ x∈(n k s).1.ru,x∈s.ru∨x = -1):∀(ks:List Int)(t:NS×Pl),∀ x∈(ks.foldl (jV n) t).1.ru,x∈t.1.ru∨x = -1
 | [],t,x,h => .inl h
 | k::ks,t,x,h=>by
  rcases O1 hn ks _ x h with h | h
  ·exact hn k t.1 x h
  ·exact .inr h
theorem O4{n:Int→NS→NS×Pl}(hn:∀ k s,∀ x∈(n k s).1.ru,x∈s.ru∨x = -1):∀(ks:List Int)(t:NS×Pl),∀ x∈(ks.foldl (iE n) t).1.ru,x∈t.1.ru∨x = -1
 | [],t,x,h => .inl h
 | k::ks,t,x,h=>by
  rcases O4 hn ks _ x h with h | h
  ·exact hn k t.1 x h
  ·exact .inr h
theorem pI(r:List Nd):∀(f:Nat)(i:Int)(s:NS),∀ x∈(aU r f i s).1.ru,x∈s.ru∨x = -1
 | 0,i,s,x,h => .inl h
 | f+1,i,s,x,h=>by
  unfold aU at h;simp only at h;split at h
  ·exact .inl h
  split at h
  ·rcases List.mem_append.1 h with h | h
   ·exact .inl h
   ·exact .inr (List.mem_singleton.1 h)
  split at h
  ·rcases O1 (pI r f) _ _ x h with h | h
   ·exact pI r f _ _ x h
   ·exact .inr h
  split at h
  ·exact O4 (pI r f) _ _ x h
  ·split at h
   ·exact pI r f _ _ x h
   ·exact pI r f _ _ x h
theorem O5(rs:List (List Nd)):∀ j,∀ x∈(nM rs j).ru,-1≤x∧x<(j:Int)
 | 0,x,h=>by
  have h:x∈[(-1:Int)]:=h;rw[List.mem_singleton.1 h];omega
 | j+1,x,h=>by
  have hn:=pI (rs.getD j []) (rs.getD j []).length (((rs.getD j []).length-1:Nat):Int) (nM rs j);have hih:=O5 rs j;have h:x∈(Aw (nM rs j) j (rs.getD j [])).ru:=h;unfold Aw at h;generalize aU (rs.getD j []) (rs.getD j []).length (((rs.getD j []).length-1:Nat):Int) (nM rs j)=y at h hn;have hy:∀ x∈y.1.ru,-1≤x∧x<(j:Int):=fun x hx=>by
   rcases hn x hx with h | h
   ·exact hih x h
   ·omega
  have h2:∀ x∈(su (y.1.join [0] y.2.f) y.2.l j).ru,-1≤x∧x<((j+1:Nat):Int):=fun x hx=>by
   obtain⟨k,hk,rfl⟩:=List.mem_map.1 hx;have hk:k<y.1.ru.length:=List.mem_range.1 hk;split
   ·omega
   ·have:=hy (y.1.ru.getD k 0) (getD_mem hk)
    change -1≤y.1.ru.getD k 0∧y.1.ru.getD k 0<_;omega
  unfold Au at h;split at h
  ·rcases List.mem_or_eq_of_mem_set h with h | h
   ·exact h2 x h
   ·omega
  ·exact h2 x h
theorem Vl{next rule part:List Int}(hok:okT next rule=true)(Pr:Int→Prop)(hPr:∀ r∈rule,Pr r):∀(f i:Nat)(x:List Int×List Int)(ru:List Int),LsI part rule.length x.1 x.2→(∀ r∈ru,Pr r)→∀ r∈(lsL next rule part f i x ru).2,Pr r
 | 0,i,x,ru,_,hr=>hr
 | f+1,i,x,ru,h,hr=>by
  have hok2:=hok;simp only[okT,Bool.and_eq_true,decide_eq_true_eq] at hok2;obtain⟨g1,g2,g3,g4,g5⟩:=hok2;unfold lsL;split
  ·rename_i hlt
   have hs:=h.in_ (x.1.getD i 0) (getD_mem hlt);obtain⟨h1,h2,h3⟩:=LsI.steps (rowOf next (x.1.getD i 0).toNat) h fun t ht=>by
    have:=List.all_eq_true.1 g5 t (pz ht);simp only[Bool.and_eq_true,decide_eq_true_eq] at this;exact this.2
   refine Vl hok Pr hPr f (i+1) _ _ h1 fun r hm=>?_;rcases List.mem_append.1 hm with hm | hm
   ·exact hr r hm
   ·rw[List.mem_singleton.1 hm]
    exact hPr _ (getD_mem (by omega))
  ·exact hr
theorem O6{next rule:List Int}(hok:okT next rule=true)(Pr:Int→Prop)(hPr:∀ r∈rule,Pr r):∀ r∈(bK next rule).2,Pr r:=by
 have hok2:=hok;simp only[okT,Bool.and_eq_true,decide_eq_true_eq] at hok2;exact Vl hok Pr hPr _ 0 _ _ ⟨by simp,by simp,fun s hs=>by rw[List.mem_singleton.1 hs];omega,by simp⟩ (by simp)
def yU(R:List Rl):List ByteArray:=R.map (·.nm)
def ku(R:List Rl):List (List Nd):=R.map fun x=>(rdP x.re).1
def kdP(R:List Rl):List Int×Int:=R.foldl (fun k x=>if x.tr=true then (k.1++[-1],k.2) else (k.1++[k.2],k.2+1)) ([],0)
def FB(R:List Rl):Prop:=∀ j x,R[j]?=some x→(iU (yU (R.take j)) x).2=0
def nfP(R:List Rl):Nf:=⟨(uS (ku R)).cl,(uS (ku R)).nx,(uS (ku R)).ru⟩
structure qp(R:List Rl)(tss:List (List Int))(T:Sets):Prop where
 ne:R≠[]
 ok:FB R
 cl:(nfP R).cl.length≤1024
 bl:kY 512 (jC (nfP R)) (eY (spl (nfP R).cl)) 513 0 [[0]]=some (tss,T)
def nO(R:List Rl)(tss:List (List Int))(T:Sets):List Int×List Int:=bK (dI (fF (spl (nfP R).cl)) tss) (iG (nfP R).ru T)
theorem FP(R:List Rl)(x:Rl):kdP (R++[x])=if x.tr=true then ((kdP R).1++[-1],(kdP R).2) else ((kdP R).1++[(kdP R).2],(kdP R).2+1):=by
 unfold kdP;rw[List.foldl_append];rfl
theorem DU:∀(n:Nat)(R:List Rl),R.length=n→(kdP R).1.length=n∧0≤(kdP R).2∧(kdP R).2≤n∧∀ k∈(kdP R).1,-1≤k∧k<(kdP R).2
 | 0,R,h=>by
  obtain rfl:=List.length_eq_zero_iff.1 h;exact⟨rfl,Int.le_refl _,Int.le_refl _,fun k hk=>by cases hk⟩
 | n+1,R,h=>by
  obtain⟨A,x,rfl⟩:∃ A x,R=A++[x]:=⟨R.dropLast,R.getLast (by intro e;subst e;simp at h),(List.dropLast_concat_getLast _).symm⟩;obtain⟨h1,h2,h3,h4⟩:=DU n A (by simp at h;exact h);rw[FP];split
  ·refine⟨by simp[h1],h2,by show(kdP A).2≤_;omega,fun k hk=>?_⟩
   rcases List.mem_append.1 hk with hk | hk
   ·exact h4 k hk
   ·rw[List.mem_singleton.1 hk];exact⟨by omega,by show -1<(kdP A).2;omega⟩
  ·refine⟨by simp[h1],by show 0≤(kdP A).2+1;omega,by show(kdP A).2+1≤_;omega,fun k hk=>?_⟩
   rcases List.mem_append.1 hk with hk | hk
   ·have:=h4 k hk
    show _∧k<(kdP A).2+1
    omega
   ·rw[List.mem_singleton.1 hk];show _∧(kdP A).2<(kdP A).2+1;omega
end
section
open Go Go.Proofs Go.RowKit
open Rx (Nd eP iO Ms mkI nP dG cZ Reads jY)
theorem yV{s:ByteArray}{b:Ms (List Nd) Int} : ∀(F:Nat)(x:Ms (List Nd) Int),Rx.Reach mkI s b x→Rx.Reach mkI s b (runM s F x)
 | 0,x,h=>h
 | F+1,x,h=>by
  unfold runM;split
  ·rename_i hm
   exact yV F _ (.more h hm)
  ·exact h
theorem BP{s:ByteArray} : ∀(F:Nat)(x:Ms (List Nd) Int),yQ s x≤F→dG s.size (runM s F x).a (runM s F x).e=false
 | 0,x,h=>by
  unfold yQ at h;refine Bool.eq_false_iff.2 fun hm=>?_;obtain⟨h1,h2⟩:=cZ.1 hm;change x.e=0 at h1;rw[if_pos h1] at h;omega
 | F+1,x,h=>by
  unfold runM;split
  ·rename_i hm
   obtain⟨h1,h2⟩:=cZ.1 hm;refine BP F _ ?_;unfold yQ at h ⊢;rw[if_pos h1] at h;split
   ·rename_i h0
    have:=Rx.DL mkI s x h1 h2 h0;omega
   ·omega
  ·rename_i hm
   exact Bool.eq_false_iff.2 hm
theorem FQ{s:ByteArray}(hs:s.size≤256):Reads s (wI s):=by
 have h:=yV (s:=s) (s.size+1) (nP []) (.refl _);refine⟨h,BP _ _ ?_,(Rx.FT hs h).1⟩
 show(if (0:Int)=0 then s.size-0+1 else 0)≤_
 rw[if_pos rfl];omega
theorem Zi{s:ByteArray}(hs:s.size≤254)(h:(rdP s).2=0):eP (rdP s).1∧∀ y∈(rdP s).1,y.Wd:=by
 obtain⟨h1,h2⟩:=OT h;have hr:=FQ (s:=s) (by omega);rw[h2];exact⟨(Rx.BM hs hr h1).ok,J4 hr⟩
theorem BR{names:List ByteArray}{x:Rl}(h:(iU names x).2=0):(rdP x.re).2=0∧(iU names x).1=(rdP x.re).1∧Rx.jZ (rdP x.re).1 []=false:=by
 unfold iU at h ⊢;split at h
 ·cases h
 split at h
 ·cases h
 rename_i h1 h2;rw[if_neg h1,if_neg h2]
 by_cases h0:(rdP x.re).2=0
 ·rw[if_pos h0] at h
  refine⟨h0,rfl,Bool.eq_false_iff.2 fun hm=>?_⟩;rw[if_pos hm] at h
  cases h
 ·rw[if_neg h0] at h
  exact absurd h h0
theorem J5{R:List Rl}(h:FB R)(hs:∀ x∈R,x.re.size≤254):(∀ r∈ku R,eP r)∧∀ r∈ku R,∀ y∈r,y.Wd:=by
 have:∀ r∈ku R,eP r∧∀ y∈r,y.Wd:=fun r hr=>by
  obtain⟨x,hx,rfl⟩:=List.mem_map.1 hr;obtain⟨j,hj⟩:=List.getElem?_of_mem hx;exact Zi (hs x hx) (BR (h j x hj)).1
 exact⟨fun r hr=>(this r hr).1,fun r hr=>(this r hr).2⟩
theorem O7{R:List Rl}(h:FB R)(hs:∀ x∈R,x.re.size≤254)(hl:R.length≤16)(hc:(nfP R).cl.length≤1024):yC (nfP R):=by
 have hlen:(ku R).length=R.length:=List.length_map _;exact (DC (J5 h hs).1 (by omega) (ku R).length Nat.le.refl).1.nf hc
theorem IQ{R:List Rl}{tss:List (List Int)}{T:Sets}(h:qp R tss T)(hs:∀ x∈R,x.re.size≤254)(hl:R.length≤16) :
  okT (dI (fF (spl (nfP R).cl)) tss) (iG (nfP R).ru T)=true∧Lx.okL (nO R tss T).1 (nO R tss T).2 (kdP R).1 (kdP R).2=true:=by
 have o:=O7 h.ok hs hl h.cl;have hB:=Bt.of (by decide) h.bl;have h1:=hB.ok o Nat.le.refl;have h2:=OC h1;obtain⟨k1,k2,k3,k4⟩:=DU _ R rfl;have hlen:(ku R).length=R.length:=List.length_map _;have hr:∀ r∈(nfP R).ru,-1≤r∧r<(R.length:Int):=fun r hr=>by
  have:=O5 (ku R) (ku R).length r hr;omega
 have hne:0<R.length:=List.length_pos_iff.2 h.ne;have hf:∀ S,nJ (nfP R).ru S<(R.length:Int):=fun S=>by
  have:∀(S:List Int)(o:Int),o<(R.length:Int)→S.foldl (jD (nfP R).ru) o<(R.length:Int):=by
   intro S
   induction S with
   | nil=>intro o h;exact h
   | cons k S ih =>
    intro o h;refine ih _ ?_;unfold jD;split
    ·have hz:∀ i,(nfP R).ru.getD i (-1)<(R.length:Int):=fun i=>by
      rw[List.getD_eq_getElem?_getD]
      cases hi:(nfP R).ru[i]? with
      | none=>simp only[Option.getD_none];omega
      | some v=>exact(hr v (List.mem_of_getElem? hi)).2
     split
     ·exact hz _
     ·exact h
    ·exact h
  exact this S (-1) (by omega)
 refine⟨h1,?_⟩;have h4:∀ r∈(nO R tss T).2,r<(R.length:Int):=O6 h1 (fun r=>r<(R.length:Int)) fun r hm=>by
  obtain⟨S,_,rfl⟩:=List.mem_map.1 hm;exact hf S
 unfold Lx.okL;simp only[Bool.and_eq_true,decide_eq_true_eq];refine⟨h2,k2,by omega,?_,List.all_eq_true.2 fun r hm=>?_⟩
 ·unfold Lx.inR
  refine List.all_eq_true.2 fun k hk=>?_;have:=k4 k hk;simp only[Bool.and_eq_true,decide_eq_true_eq];exact this
 ·have:=h4 r hm
  rw[decide_eq_true_eq,k1];exact this
end
section
open Go Go.Proofs Go.RowKit
open Rx (Nd eP iO jk vC)
attribute [local go_sem] Oper.semAt_some
theorem DJ:AX.sizeT Tryz.prog 29=some 4:=by kernel_rfl
theorem jK:AX.sizeT Tryz.prog 30=some 1:=by kernel_rfl
def wJ:Array Value:=#[.slice none 0 0, .slice none 0 0, .slice none 0 0, .int .i64 0]
def WS(L:Nat)(er:Int)(W:World)(e:Ending)(w':World):Prop:=e = .returned (.tuple #[])∧((er=0∧w'=W)∨(er≠0∧Bx w' L 29 wJ∧(∀ j,j≠L→w'.heap[j]?=W.heap[j]?)∧AX.Same W w'))
theorem WT(E L:Nat)(er:Int)(cs:Array Value)(W:World)(hE:Bx W E 30 #[.int .i64 er])(hL:Bx W L 29 cs)(hc:cs.size=4) :
  CallsD Tryz.prog 28 #[.pointer (some ⟨E,0,none⟩), .pointer (some ⟨L,0,none⟩)] .returning W fun e u' w'=>u' = .returning∧WS L er W e w':=by
 have c0:W.cell? ⟨E,0,none⟩=some (.int .i64 er):=hE.cell 0;have HL:=Lib.hid hL;clear hE hL
 by_cases h0:er=0
 ·subst h0
  go_enter_d Tryz.func28,Tryz.ntmps28
  go_wp2_with fail
  exact bodyPost_end (v := .tuple #[]) (by simp[results,Tryz.results28,go_sem]) rfl (by exact⟨rfl, .inl ⟨rfl,rfl⟩⟩)
 ·have hd:decide (er=0)=false:=decide_eq_false h0
  go_enter_d Tryz.func28,Tryz.ntmps28
  go_wp2_with ((with_reducible refine bZ ?_);refine AX.au (vs:=[.slice none 0 0, .slice none 0 0, .slice none 0 0, .int .i64 0]) rfl rfl DJ HL.out hc rfl ?_;rintro W9 g3 g4 g5)
  exact bodyPost_end (v := .tuple #[]) (by simp[results,Tryz.results28,go_sem]) rfl (by exact⟨rfl, .inr ⟨h0,g3,g4,g5⟩⟩)
def RIn(S:Nat→Prop)(W:World)(v:Value)(r:List Nd):Prop:=v.oneCell'=true∧∀ W',W.heap.size≤W'.heap.size→(∀ k,S k→W'.heap[k]?=W.heap[k]?)→jk W' v r
theorem RIn.go{S S':Nat→Prop}{W W2:World}{v:Value}{r:List Nd}(h:RIn S W v r)(hs:W.heap.size≤W2.heap.size)(hk:∀ k,S k→W2.heap[k]?=W.heap[k]?)(hS:∀ k,S k→S' k):RIn S' W2 v r :=
 ⟨h.1,fun W' h1 h2=>h.2 W' (Nat.le_trans hs h1) fun k hk'=>(h2 k (hS k hk')).trans (hk k hk')⟩
theorem RIn.row{S:Nat→Prop}{W:World}{v:Value}{r:List Nd}(h:RIn S W v r):jk W v r:=h.2 W Nat.le.refl fun _ _=>rfl
theorem RIn.of{W W':World}{v:Value}{r:List Nd}(S:Nat→Prop)(h:vC W.heap.size W' v r)(ho:v.oneCell'=true):RIn (fun k=>S k∨(W.heap.size≤k∧k<W'.heap.size)) W' v r :=
 ⟨ho,fun W2 h1 h2=>h W2 h1 fun j hj hlt=>h2 j (.inr ⟨hj,hlt⟩)⟩
structure Lb(w:World)(L E M:Nat)(names:List ByteArray)(kd:List Int×Int)(vals:List Value)(rs:List (List Nd))(av kv:Value)(S:Nat→Prop)(wz:World):Prop where
 lo:Below w.heap.size w wz
 lb:Bx wz L 29 #[.slice none 0 0, .slice none 0 0,kv, .int .i64 kd.2]
 eb:Bx wz E 30 #[.int .i64 0]
 mp:wz.heap[M]?=some (.map (dZ 0 names).toArray names.length)
 ao:wz.ownsRow w.heap.size 44 1 av vals.length vals
 ko:bJ wz w.heap.size kv kd.1
 vl:vals.length=rs.length
 vr:∀ (j:Nat) v r,vals[j]?=some v→rs[j]?=some r→RIn S wz v r
 sd:∀ k,S k→k<wz.heap.size∧k≠L∧k≠M∧av.ownBlock≠some k∧kv.ownBlock≠some k
 bl:w.heap.size≤L
 bm:w.heap.size≤M
section
variable {w wz wy wx : World} {L E M : Nat} {names : List ByteArray} {kd : List Int × Int} {vals : List Value} {rs : List (List Nd)} {av kv v' : Value} {S : Nat → Prop}
theorem Lb.mlt(h:Lb w L E M names kd vals rs av kv S wz):M<wz.heap.size:=(Array.getElem?_eq_some_iff.1 h.mp).1
theorem nom{W:World}{B M:Nat}{t:TypeId}{cs:Array Value}{es:Array MapEntry}{c:Nat}(h:Bx W B t cs)(hM:W.heap[M]?=some (.map es c)):B≠M:=fun e=>by
 subst e;rw[show W.heap[B]?=_ from h] at hM
 cases hM
theorem xw{W:World}{base M:Nat}{e:TypeId}{k:Nat}{v:Value}{n:Nat}{xs:List Value}{es:Array MapEntry}{c:Nat}(h:W.ownsRow base e k v n xs)(hM:W.heap[M]?=some (.map es c)):v.ownBlock≠some M:=fun e=>by
 obtain⟨cs,hc⟩:=iF h M e;rw[hM] at hc
 cases hc
theorem Lb.low(h:Lb w L E M names kd vals rs av kv S wz)(hb:Below wz.heap.size wz wy):Lb w L E M names kd vals rs av kv S wy :=
 ⟨h.lo.trans (hb.mono h.lo.size),h.lb.below hb h.lb.lt,h.eb.below hb h.eb.lt,(hb.block M h.mlt).trans h.mp,bG h.ao hb,bG h.ko hb,h.vl,
  fun j v r h1 h2=>(h.vr j v r h1 h2).go hb.size (fun k hk=>hb.block k (h.sd k hk).1) fun _ hk=>hk,
  fun k hk=>⟨Nat.lt_of_lt_of_le (h.sd k hk).1 hb.size,(h.sd k hk).2⟩,h.bl,h.bm⟩
theorem Lb.rule{names':List ByteArray}(h:Lb w L E M names kd vals rs av kv S wz)(hb:AX.But M wz wy)(hm:wy.heap[M]?=some (.map (dZ 0 names').toArray names'.length)) :
  Lb w L E M names' kd vals rs av kv (fun k=>S k∨(wz.heap.size≤k∧k<wy.heap.size)) wy :=
 ⟨h.lo.trans (hb.below h.lo.size h.bm),(hb.same L h.lb.lt (nom h.lb h.mp)).trans h.lb,(hb.same E h.eb.lt (nom h.eb h.mp)).trans h.eb,hm,
  bY h.ao fun g hg=>hb.same g (World.ownsRow.lt h.ao g hg).2 fun e=>xw h.ao h.mp (e ▸ hg),
  bY h.ko fun g hg=>hb.same g (World.ownsRow.lt h.ko g hg).2 fun e=>xw h.ko h.mp (e ▸ hg),h.vl,
  fun j v r h1 h2=>(h.vr j v r h1 h2).go hb.low.size (fun k hk=>hb.same k (h.sd k hk).1 (h.sd k hk).2.2.1) fun _ hk => .inl hk,
  fun k hk=>by
   have hs:=hb.low.size;rcases hk with hk | ⟨h1,h2⟩
   ·exact⟨Nat.lt_of_lt_of_le (h.sd k hk).1 hs,(h.sd k hk).2⟩
   ·have:=h.lb.lt
    have:=h.mlt;exact⟨h2,by omega,by omega,fun e=>by have:=(World.ownsRow.lt h.ao k e).2;omega,fun e=>by have:=(World.ownsRow.lt h.ko k e).2;omega⟩,h.bl,h.bm⟩
theorem FU{a b:Option Nat}{k n:Nat}(h:b=a∨b=some n)(hk:k<n)(ha:a≠some k):b≠some k:=by
 rcases h with h | h
 ·rw[h];exact ha
 ·rw[h];intro e;cases e;omega
theorem Lb.abV{v:Value}{r:List Nd}(h:Lb w L E M names kd vals rs av kv S wz)(hr:RIn S wz v r)(ho:wy.ownsRow w.heap.size 44 1 v' (vals++[v]).length (vals++[v]))(hg:wz.grownBy wy av.ownBlock)(hv:v'.ownBlock=av.ownBlock∨v'.ownBlock=some wz.heap.size) :
  Lb w L E M names kd (vals++[v]) (rs++[r]) v' kv S wy:=by
 have hs:dQ 44 wz wy:=aZ h.ao hg;have hk:∀ k,S k→wy.heap[k]?=wz.heap[k]?:=fun k hk=>hg.block k (h.sd k hk).1 fun e=>(h.sd k hk).2.2.2.1 e.symm;refine⟨h.lo.grown hg h.lo.size fun k e=>(World.ownsRow.lt h.ao k e).1,h.lb.aY hs (by decide),h.eb.aY hs (by decide),(hg.block M h.mlt fun e=>xw h.ao h.mp e.symm).trans h.mp,ho,aC h.ko hs (by decide),by simp[h.vl],fun j v0 r0 h1 h2=>?_,fun k hk=>⟨Nat.lt_of_lt_of_le (h.sd k hk).1 hg.size,(h.sd k hk).2.1,(h.sd k hk).2.2.1,FU hv (h.sd k hk).1 (h.sd k hk).2.2.2.1,(h.sd k hk).2.2.2.2⟩,h.bl,h.bm⟩
 by_cases hj:j<vals.length
 ·rw[List.getElem?_append_left hj] at h1
  rw[List.getElem?_append_left (by rw[←h.vl];exact hj)] at h2;exact(h.vr j v0 r0 h1 h2).go hg.size hk fun _ hk=>hk
 ·have hj2:j=vals.length:=by
   have:=(List.getElem?_eq_some_iff.1 h1).1;simp at this;omega
  subst hj2;rw[List.getElem?_append_right Nat.le.refl,Nat.sub_self] at h1;rw[h.vl,List.getElem?_append_right Nat.le.refl,Nat.sub_self] at h2;simp at h1 h2;subst h1 h2;exact hr.go hg.size hk fun _ hk=>hk
theorem Lb.num{n:Int}(h:Lb w L E M names kd vals rs av kv S wz)(x:Bx wx L 29 #[.slice none 0 0, .slice none 0 0,kv, .int .i64 n])(g4:∀ j,j≠L→wx.heap[j]?=wz.heap[j]?)(g5:AX.Same wz wx) :
  Lb w L E M names (kd.1,n) vals rs av kv S wx:=by
 have hs:dQ 29 wz wx:=aT h.lb g4;have hb:Below w.heap.size wz wx:=AX.aj h.bl (.inl x.lt) g4 g5;exact⟨h.lo.trans hb,x,h.eb.aY hs (by decide),(g4 M (nom h.lb h.mp).symm).trans h.mp,aC h.ao hs (by decide),aC h.ko hs (by decide),h.vl,fun j v0 r0 h1 h2=>(h.vr j v0 r0 h1 h2).go hb.size (fun k hk=>g4 k (h.sd k hk).2.1) fun _ hk=>hk,
  fun k hk=>⟨Nat.lt_of_lt_of_le (h.sd k hk).1 hb.size,(h.sd k hk).2⟩,h.bl,h.bm⟩
theorem Lb.Zj{l:List Int}(h:Lb w L E M names kd vals rs av kv S wz)(ho:bJ wy w.heap.size v' l)(hg:wz.grownBy wy kv.ownBlock)(hv:v'.ownBlock=kv.ownBlock∨v'.ownBlock=some wz.heap.size)
  (x:Bx wx L 29 #[.slice none 0 0, .slice none 0 0,v', .int .i64 kd.2]) (g4:∀ j,j≠L→wx.heap[j]?=wy.heap[j]?) (g5:AX.Same wy wx):Lb w L E M names (l,kd.2) vals rs av v' S wx:=by
 have hs:dQ 3 wz wy:=aZ h.ko hg;have hl:=h.lb.aY hs (by decide);have hs2:dQ 29 wy wx:=aT hl g4;have hb:Below w.heap.size wy wx:=AX.aj h.bl (.inl x.lt) g4 g5;have hM:wy.heap[M]?=some (.map (dZ 0 names).toArray names.length):=(hg.block M h.mlt fun e=>xw h.ko h.mp e.symm).trans h.mp;refine⟨(h.lo.grown hg h.lo.size fun k e=>(World.ownsRow.lt h.ko k e).1).trans hb,x,(h.eb.aY hs (by decide)).aY hs2 (by decide),(g4 M (nom hl hM).symm).trans hM,aC (aC h.ao hs (by decide)) hs2 (by decide),aC ho hs2 (by decide),h.vl,fun j v0 r0 h1 h2=>(h.vr j v0 r0 h1 h2).go (Nat.le_trans hg.size hb.size) (fun k hk=>(g4 k (h.sd k hk).2.1).trans (hg.block k (h.sd k hk).1 fun e=>(h.sd k hk).2.2.2.2 e.symm)) fun _ hk=>hk,
  fun k hk=>⟨Nat.lt_of_lt_of_le (Nat.lt_of_lt_of_le (h.sd k hk).1 hg.size) hb.size,(h.sd k hk).2.1,(h.sd k hk).2.2.1,(h.sd k hk).2.2.2.1,FU hv (h.sd k hk).1 (h.sd k hk).2.2.2.2⟩,h.bl,h.bm⟩
theorem Lb.rows(h:Lb w L E M names kd vals rs av kv S wz):∃ la c,av = .slice la rs.length c∧Oh wz la rs:=by
 rcases h.ao.2 with ⟨e,hn⟩ | ⟨g,cap,cur,e,hg,hh,_⟩
 ·have hz:rs.length=0:=by rw[←h.vl];exact hn
  refine⟨none,0,by rw[e,hz],fun i r hr=>?_⟩;have:=(List.getElem?_eq_some_iff.1 hr).1;omega
 ·refine⟨some ⟨g,0,none⟩,cap,by rw[e,h.vl],fun i r hr=>?_⟩
  have hi:=(List.getElem?_eq_some_iff.1 hr).1;have hv:vals[i]?=some (vals[i]'(by rw[h.vl];exact hi)):=List.getElem?_eq_getElem _;have hR:=h.vr i _ r hv hr;have hc:=World.ownsRow.cells h.ao (g:=g) (by rw[e];rfl) i _ hv;rw[addr_add] at hc;exact⟨g,0,rfl,(Array.getElem?_eq_some_iff.1 hh).1,_,hR.1,hc,hR.row⟩
end
theorem WU:(Tryz.prog.info? 44).map (fun i=>(i.zero,i.size,i.bytes))=some (some (.slice none 0 0),1,24):=by kernel_rfl
section
variable {ops : Array Oper} {rest : List Oper} {a : Act} {W : World} {Q : Exit → Act → World → Prop} {dst : Option Tmp} {ty : TypeId} {pos : String} {after : Array Edge} {s x : Operand}
theorem WV(h:wpList Tryz.prog ops Q ({ dst:=dst,op := .call { callee := .builtin .append,args:=#[s,x],argTypes:=#[68,68] },type:=ty,pos:=pos,after:=after,guard:=none }::rest) a W):wpList Tryz.prog ops Q ({ dst:=dst,op := .call { callee := .builtin .append,args:=#[s,x],argTypes:=#[68,68] },type:=ty,pos:=pos,after:=after,guard:=none }::rest) a W:=h
theorem DV(base:Nat)(v:Value)(l:List Value)(y:Value)(hs:a.eval s=v)(hown:W.ownsRow base 44 1 v l.length l)(B c:Nat)(hx:a.eval x = .slice (some ⟨B,0,none⟩) 1 c)
  (hc:Bx W B 44 #[y]) (hy:y.oneCell'=true) (hl:l.length≤1000000) (hb:base≤W.heap.size)
  (h:∀ v' w',w'.ownsRow base 44 1 v' (l++[y]).length (l++[y])→W.grownBy w' v.ownBlock→(v'.ownBlock=v.ownBlock∨v'.ownBlock=some W.heap.size)→wpList Tryz.prog ops Q rest (a.put dst v') w'):wpList Tryz.prog ops Q ({ dst:=dst,op := .call { callee := .builtin .append,args:=#[s,x],argTypes:=#[68,68] },type:=ty,pos:=pos,after:=after,guard:=none }::rest) a W:=by
 obtain⟨ti,hi,hz0,hz1,hz2⟩:=info_parts WU;obtain⟨v',w',hr,h2,h3,h4,h5⟩:=run_append_own_at (P:=Tryz.prog) W base 68 ty 44 ti (.slice none 0 0) 1 24 Tryz.underlying68 hi hz0 hz1 hz2 rfl (by decide) v l.length _ hown ⟨B,0,none⟩ 1 c [y] rfl
  (fun j u hj=>by rw[addr_add,Nat.zero_add,hc.cell];simpa using hj) (fun u hu=>by rw[List.mem_singleton.1 hu];exact hy) (by unfold maxLen;omega) (by omega) hb
 refine wpList_plain rfl fun K hK=>?_;unfold Oper.wp execOp;simp only[resolve,invoke,builtin,Sem.run_bind,Sem.run_pure,Result.andThen_ok,List.map_toArray,List.map_cons,List.map_nil,hs,hx,hr];refine hK _ _ (h v' w' ?_ h3 h5);rw[List.length_append];exact h2
end
end
end Go.Proofs.YtkjgogdkdejljaaGreatDoor.Df
