import Derived.Test.YtkjgogdkdejljaaGreatDoorLxMm
import Derived.WalkKit
import Derived.ProofKit
import Derived.OpenShut
import Derived.BigQuiet
import Derived.Lib.Hide
set_option maxRecDepth 100000
set_option maxHeartbeats 40000000
namespace Go.Proofs.YtkjgogdkdejljaaGreatDoor.Lx
open Go Go.Proofs Go.RowKit
attribute [local go_sem] Oper.semAt_some
def aK(w:World)(a:Option Addr)(l:List Int):Prop:=l≠[]→∃ b off,a=some ⟨b,off,none⟩∧b<w.heap.size∧∀ j (h:j<l.length),w.cell? ⟨b,off+j,none⟩=some (.int .i64 l[j])
theorem aK.below{n:Nat}{w w':World}{a:Option Addr}{l:List Int}(h:aK w a l)(hb:Below n w w')(hn:w.heap.size≤n):aK w' a l:=fun h0=>by
 obtain⟨b,off,rfl,h1,h2⟩:=h h0;exact⟨b,off,rfl,Nat.lt_of_lt_of_le h1 hb.size,fun j hj=>(hb.cell (p:=⟨b,off+j,none⟩) (by simp only;omega)).trans (h2 j hj)⟩
theorem aK.at{w:World}{a:Option Addr}{l:List Int}(h:aK w a l){j:Nat}(hj:j<l.length):∃ b off,a=some ⟨b,off,none⟩∧b<w.heap.size∧w.cell? ⟨b,off+j,none⟩=some (.int .i64 l[j]):=by
 obtain⟨b,off,h0,h1,h2⟩:=h (by intro e;subst e;simp at hj);exact⟨b,off,h0,h1,h2 j hj⟩
def dV(an ar:Option Addr)(n r cn cr:Nat):Value := .agg #[.slice an n cn, .slice ar r cr]
def inR(lo hi:Int)(l:List Int):Bool:=l.all fun x=>decide (lo≤x) && decide (x<hi)
def okT(next rule:List Int):Bool:=decide (1≤rule.length) && (decide (rule.length≤512) && (decide (next.length=256*rule.length) && (inR (-1) 16 rule && inR (-1) rule.length next)))
theorem tX(lo:Int):∀(l:List Int)(z:Int),lo≤l.foldl min z↔lo≤z∧∀ x∈l,lo≤x
 | [],z=>by simp
 | x::l,z=>by
  rw[List.foldl_cons,tX lo l,Int.le_min];simp only[List.mem_cons,forall_eq_or_imp,and_assoc]
theorem tY(hi:Int):∀(l:List Int)(z:Int),l.foldl max z<hi↔z<hi∧∀ x∈l,x<hi
 | [],z=>by simp
 | x::l,z=>by
  rw[List.foldl_cons,tY hi l,Int.max_lt];simp only[List.mem_cons,forall_eq_or_imp,and_assoc]
theorem XQ(l:List Int)(h:l≠[])(lo:Int):(lo≤Lib.minOf l)↔∀ x∈l,lo≤x:=by
 cases l with
 | nil=>exact absurd rfl h
 | cons z l =>
  unfold Lib.minOf;rw[tX];simp
theorem max_lt(l:List Int)(h:l≠[])(hi:Int):(Lib.maxOf l<hi)↔∀ x∈l,x<hi:=by
 cases l with
 | nil=>exact absurd rfl h
 | cons z l =>
  unfold Lib.maxOf;rw[tY];simp
theorem KD(l:List Int)(h:l≠[])(lo hi:Int):inR lo hi l=true↔lo≤Lib.minOf l∧Lib.maxOf l<hi:=by
 rw[XQ l h,max_lt l h];unfold inR;simp only[List.all_eq_true,Bool.and_eq_true,decide_eq_true_eq];exact⟨fun k=>⟨fun x hx=>(k x hx).1,fun x hx=>(k x hx).2⟩,fun k x hx=>⟨k.1 x hx,k.2 x hx⟩⟩
theorem Vw(l:List Int)(h:0<l.length)(hl:l.length≤1000000)(a:Option Addr)(c:Nat)(w:World)(hR:aK w a l) :
  Calls Tryz.prog 75 #[.slice a l.length c] w fun e w'=>e = .returned (.int .i64 (Lib.minOf l))∧w=w':=by
 obtain⟨b,off,rfl,_,h2⟩:=hR (by intro e;subst e;simp at h);refine(slices_Min_int b off l.length c l w h Nat.le.refl (by omega) (fun j hj=>by rw[h2 j hj];simp[List.getD,hj])).mono ?_;rintro e w' ⟨rfl,rfl⟩;exact⟨by rw[List.take_length],rfl⟩
theorem Qr(l:List Int)(h:0<l.length)(hl:l.length≤1000000)(a:Option Addr)(c:Nat)(w:World)(hR:aK w a l) :
  Calls Tryz.prog 37 #[.slice a l.length c] w fun e w'=>e = .returned (.int .i64 (Lib.maxOf l))∧w=w':=by
 obtain⟨b,off,rfl,_,h2⟩:=hR (by intro e;subst e;simp at h);refine(slices_Max_int b off l.length c l w h Nat.le.refl (by omega) (fun j hj=>by rw[h2 j hj];simp[List.getD,hj])).mono ?_;rintro e w' ⟨rfl,rfl⟩;exact⟨by rw[List.take_length],rfl⟩
def eU(next rule:List Int):Int:=if okT next rule=true then 0 else 2
theorem jH(next rule:List Int)(hn:next.length≤1000000)(hr:rule.length≤1000000)(an ar:Option Addr)(cn cr:Nat)(w:World)(hN:aK w an next)(hR:aK w ar rule) :
    Calls Tryz.prog 36 #[.agg #[.slice an next.length cn, .slice ar rule.length cr]] w fun e w'=>e = .returned (.int .i64 (eU next rule))∧Below w.heap.size w w':=by
  have hB:=(Below.refl w.heap.size w).alloc Nat.le.refl (.cells #[.slice an next.length cn, .slice ar rule.length cr] 27)
  by_cases h0:1≤rule.length∧rule.length≤512∧next.length=256*rule.length
  · obtain⟨h1,h2,h3⟩:=h0
    have k1:=fun W hW=>Vw rule h1 hr ar cr W hW;have k2:=fun W hW=>Qr rule h1 hr ar cr W hW;have k3:=fun W hW=>Vw next (by omega) hn an cn W hW
    have k4:=fun W hW=>Qr next (by omega) hn an cn W hW
    have HV:Hid (eU next rule=if ((-1≤Lib.minOf rule∧Lib.maxOf rule<16) ∧ -1≤Lib.minOf next∧Lib.maxOf next<rule.length) then 0 else 2):=Lib.hid <| by
      unfold eU okT;rw[decide_eq_true h1,decide_eq_true h2,decide_eq_true h3,Bool.true_and,Bool.true_and,Bool.true_and];simp only[Bool.and_eq_true,KD rule (by intro e;subst e;simp at h1),KD next (by intro e;subst e;simp at h3;omega)]
    have hN':=hN.below hB Nat.le.refl;have hR':=hR.below hB Nat.le.refl;generalize Lib.minOf rule=m1 at *;generalize Lib.maxOf rule=m2 at *;generalize Lib.minOf next=m3 at *
    generalize Lib.maxOf next=m4 at *
    generalize eU next rule=cv at *
    have H3:Hid (next.length=256*rule.length):=Lib.hid h3;have h3a:(next.length:Int)-256*rule.length≤0:=(by omega);have h3b:0≤(next.length:Int)-256*rule.length:=(by omega);have hne:((next.length:Int) == 256*(rule.length:Int))=true:=(by simp;omega);have hne':((next.length:Int) != 256*(rule.length:Int))=false:=(by simp;omega);clear h3;generalize next.length=N at *
    generalize rule.length=R at *;clear hN hR;go_enter Tryz.func36,Tryz.ntmps36
    go_wp2_with (first
      | (go_at_call 75;((with_reducible refine(k1 _ hR').mono ?_);rintro e Wd ⟨rfl,rfl⟩))
      | (go_at_call 75;((with_reducible refine(k3 _ hN').mono ?_);rintro e Wd ⟨rfl,rfl⟩))
      | (go_at_call 37;((with_reducible refine(k2 _ hR').mono ?_);rintro e Wd ⟨rfl,rfl⟩))
      | (go_at_call 37;((with_reducible refine(k4 _ hN').mono ?_);rintro e Wd ⟨rfl,rfl⟩)))
    all_goals first
      | (have E:cv=2:=by rw[HV.out,if_neg (by omega)]
         exact bodyPost_ret (v := .int .i64 cv) (by simp[results,Tryz.results36,go_sem,E]) rfl ⟨rfl,hB⟩)
      | (have E:cv=0:=by rw[HV.out,if_pos (by omega)]
         exact bodyPost_ret (v := .int .i64 cv) (by simp[results,Tryz.results36,go_sem,E]) rfl ⟨rfl,hB⟩)
  · have HV:Hid (eU next rule=2):=Lib.hid <| if_neg fun h=>h0 (by
      unfold okT at h;simp only[Bool.and_eq_true,decide_eq_true_eq] at h;exact⟨h.1,h.2.1,h.2.2.1⟩)
    generalize eU next rule=cv at *
    generalize next.length=N at *
    generalize rule.length=R at *;go_enter Tryz.func36,Tryz.ntmps36
    go_wp2_with fail
    all_goals first
      | (exfalso;have q:((1:Int)≤(R:Int)∧(R:Int)≤512)∧((N:Int) != 256*(R:Int))=false:=by assumption
         have q:=q.2;simp at q;omega)
      | (have E:cv=2:=HV.out
         exact bodyPost_ret (v := .int .i64 cv) (by simp[results,Tryz.results36,go_sem,E]) rfl ⟨rfl,hB⟩)
theorem aK.get{w:World}{a:Option Addr}{l:List Int}(h:aK w a l){j:Nat}(hj:j<l.length):∃ b off,a=some ⟨b,off,none⟩∧b<w.heap.size∧w.cell? ⟨b,off+j,none⟩=some (.int .i64 (l.getD j 0)):=by
 obtain⟨b,off,h0,h1,h2⟩:=h (by intro e;subst e;simp at hj);exact⟨b,off,h0,h1,by rw[h2 j hj];simp[hj]⟩
theorem XT{lo hi:Int}{l:List Int}(h:∀ k,k<l.length→lo≤l.getD k 0∧l.getD k 0<hi):inR lo hi l=true:=by
 unfold inR;simp only[List.all_eq_true,Bool.and_eq_true,decide_eq_true_eq];intro x hx;obtain⟨k,hk,rfl⟩:=List.getElem_of_mem hx;have:=h k hk
 rwa [show l.getD k 0=l[k] by simp[hk]] at this
theorem Us{lo hi:Int}{l:List Int}{k:Nat}(hk:k<l.length)(h:¬(lo≤l.getD k 0∧l.getD k 0<hi)):inR lo hi l=false:=by
 rw[Bool.eq_false_iff];intro e;unfold inR at e;simp only[List.all_eq_true,Bool.and_eq_true,decide_eq_true_eq] at e;apply h;rw[show l.getD k 0=l[k] by simp[hk]];exact e _ (List.getElem_mem hk)
end Go.Proofs.YtkjgogdkdejljaaGreatDoor.Lx
namespace Go.Proofs.YtkjgogdkdejljaaGreatDoor.AX
section
open Go
def Qw(b:Builtin):Bool :=
 match b with
 | .len | .cap | .min | .max=>true
 | _=>false
def Ew(o:Op):Bool :=
 match o with
 | .call c=>match c.callee with
  | .builtin b=>Qw b
  | _=>false
 | .nilCheck _ | .move _ | .assign _ | .pick .. | .load .. | .binOp .. | .unOp .. | .convert .. | .build .. | .fieldAddr .. | .field .. | .indexAddr .. | .index .. | .extract .. | .slice ..=>true
 | _=>false
theorem xM{P:Program}{s:Sem Value}{w w':World}{n:Next}(h:(do let x ←s;pure (Next.value x):Sem Next).run P w = .ok n w'):∃ u,n = .value u:=by
 simp only[Sem.run_bind] at h
 cases hs:s.run P w with
 | ok x w1=>rw[hs] at h;simp at h;exact⟨_,h.1.symm⟩
 | halt x w1=>rw[hs] at h;simp at h
theorem Nb{P:Program}{ρ : Operand→Value}{o:Oper}{w w':World}{n:Next}(hp:Ew o.op=true)(h:(execOp ρ o).run P w = .ok n w'):∃ u,n = .value u:=by
 obtain⟨dst,op,type,pos,after,guard⟩:=o
 cases op<;>simp only[Ew,Bool.false_eq_true] at hp<;>simp only[execOp] at h
 case nilCheck x =>
  generalize ρ x=v at h
  repeat' split at h
  all_goals first
   | exact xM h
   | (simp at h;exact⟨_,h.1.symm⟩)
   | (simp[runtimePanic,goPanic] at h;done)
   | skip
  all_goals
   simp only[Sem.run_bind] at h;unfold Result.andThen at h;split at h
   ·dsimp only at h
    split at h
    ·split at h
     ·simp[unsupported] at h
     ·simp at h;exact⟨_,h.1.symm⟩
    ·cases h
   ·cases h
 case move=>simp at h;exact⟨_,h.1.symm⟩
 case assign=>simp at h;exact⟨_,h.1.symm⟩
 case call c =>
  obtain⟨callee,args,ats⟩:=c
  cases callee<;>simp only[Bool.false_eq_true] at hp
  rename_i b
  cases b<;>simp only[Qw,Bool.false_eq_true] at hp
  all_goals exact xM (by simpa[resolve,invoke,builtin] using h)
 case pick=>exact xM (s:=do pure (if ←asBool _ then _ else _)) (by simpa using h)
 all_goals exact xM h
section
variable {P : Program} {ops : Array Oper} {md : Region.Mode} {C : World → Prop} {Q : Exit → Act → World → Prop}
def jP(P:Program)(ops:Array Oper)(C:World→Prop)(o:Oper)(v:Value)(a:Act):Prop :=
 (Region.wanted o (yielded ops a.tmps)=true∧∀ w,C w→(execOp a.eval o).run P w = .ok (.value v) w)∨(Region.wanted o (yielded ops a.tmps)=false∧v=undef)
theorem je{o:Oper}{v:Value}{a:Act}(hp:Ew o.op=true)(h:YieldsIn P ops C o v a):jP P ops C o v a:=by
 rcases h with ⟨h1,h2⟩ | h
 ·refine .inl ⟨h1,fun w hw=>?_⟩
  have h3:=h2 w hw;unfold Oper.quietAt at h3
  cases hr:(execOp a.eval o).run P w with
  | ok n w' =>
   obtain⟨u,rfl⟩:=Nb hp hr;rw[hr] at h3;obtain⟨rfl,rfl⟩:=h3;rfl
  | halt x w'=>rw[hr] at h3;exact h3.elim
 ·exact .inr h
theorem jP.at{i:Nat}{o:Oper}{v:Value}{a:Act}(hi:ops[i]?=some o)(hy:jP P ops C o v a){K:Act→World→Prop}{w:World}(hw:C w)(h:K (a.put o.dst v) w):wpOp P ops Q i K a w:=by
 unfold wpOp;simp only[hi];rcases hy with ⟨h1,h2⟩ | ⟨h1,rfl⟩
 ·rw[if_pos h1]
  refine .inl ?_;unfold Oper.wp;rw[h2 w hw];exact h
 ·rw[if_neg (by rw[h1];decide)]
  exact h
def vX(P:Program)(md:Region.Mode)(ops:Array Oper)(C:World→Prop)(Q:Exit→Act→World→Prop):Nat→Array Bool→Act→World→Prop
 | 0,listed,a,w=>Region.ready md ops listed = []∧Q .normal a w
 | fuel+1,listed,a,w=>(Region.ready md ops listed = []→Q .normal a w) ∧
  ∀ i∈Region.ready md ops listed,wpOp P ops Q i (fun a' w'=>C w'∧vX P md ops C Q fuel (listed.setIfInBounds i true) a' w') a w
theorem mZ:∀(fuel:Nat)(listed:Array Bool)(a:Act)(w:World),vX P md ops C Q fuel listed a w→wpAny P md ops Q fuel listed a w
 | 0,_,_,_,h=>h
 | fuel+1,_,_,_,h=>⟨h.1,fun i hi=>wpOp_mono (fun a' w' h'=>mZ fuel _ a' w' h'.2) (h.2 i hi)⟩
def KG(d:Option Tmp)(a a':Act):Prop:=∃ ds u,a'=({ a with defers:=ds } : Act).put d u
theorem Oper.XY{oj:Oper}{a:Act}{w:World}{K:Act→World→Prop}{d:Option Tmp}{v:Value}(he:execOp (a.put d v).eval oj=execOp a.eval oj)(hd:∀ t,d=some t→oj.dst≠some t)
  (hQ:∀ c a w,Q (.panic c) (a.put d v) w→Q (.panic c) a w) (h:oj.wp P (a.put d v) w K Q):oj.wp P a w (fun a' w'=>KG oj.dst a a'∧K (a'.put d v) w') Q:=by
 have two:∀(u:Value)(w':World),K ((a.put d v).put oj.dst u) w'→KG oj.dst a (a.put oj.dst u)∧K ((a.put oj.dst u).put d v) w':=fun u w' hk =>
  ⟨⟨a.defers,u,rfl⟩,by rw[←Act.put_comm a v u hd];exact hk⟩
 unfold Oper.wp at h ⊢;rw[he] at h
 cases hr:(execOp a.eval oj).run P w with
 | halt x w' =>
  rw[hr] at h
  cases x<;>simp only[Oper.upon] at h ⊢
  exact hQ _ _ _ h
 | ok n w' =>
  rw[hr] at h
  cases n<;>simp only[Oper.upon] at h ⊢
  case value u=>exact two u w' h
  case skip=>exact two _ w' h
  case enter f args =>
   refine Calls.mono h fun e w2 hk=>?_
   cases e with
   | returned u=>exact two u w2 hk
   | panicked c=>exact hQ _ _ _ hk
   | outgrown=>exact hk
  case row row args=>exact Rows.mono h fun u w2 hk=>two u w2 hk
  case defer x =>
   refine⟨⟨x::a.defers,undef,rfl⟩,?_⟩;rw[←Act.put_comm _ v undef hd,←Act.put_defers];exact h
theorem Nh{oj oi:Oper}{a a':Act}(h:KG oj.dst a a')(hs:∀ cs b,oi.op ≠ .select cs b)(hap:∀ d,oj.dst=some d→d∉oi.looksAt ops) :
  execOp a'.eval oi=execOp a.eval oi∧Region.wanted oi (yielded ops a'.tmps)=Region.wanted oi (yielded ops a.tmps):=by
 obtain⟨ds,u,rfl⟩:=h;refine⟨(execOp_put oi hs { a with defers:=ds } oj.dst u hap).trans ?_,(wanted_put oi { a with defers:=ds } oj.dst u hap).trans rfl⟩;rfl
theorem CZ{j:Nat}{oi oj:Oper}{v:Value}(hj:ops[j]?=some oj)(hap:oi.apart ops oj=true)(hsi:∀ cs b,oi.op ≠ .select cs b)(hsj:∀ cs b,oj.op ≠ .select cs b)
  (hQ:∀ c a w,Q (.panic c) (a.put oi.dst v) w→Q (.panic c) a w) {K:Act→World→Prop} {a:Act} {w:World} (hy:jP P ops C oi v a) (h:wpOp P ops Q j K (a.put oi.dst v) w) :
  wpOp P ops Q j (fun a' w'=>jP P ops C oi v a'∧K (a'.put oi.dst v) w') a w:=by
 obtain⟨h1,h2,h3⟩:=Oper.apart_spec hap;have keep:∀ a',KG oj.dst a a'→jP P ops C oi v a':=fun a' hm=>by
  obtain⟨e1,e2⟩:=Nh hm hsi h3;unfold jP;rw[e1,e2];exact hy
 unfold wpOp at h ⊢;simp only[hj] at h ⊢;rw[wanted_put oj a oi.dst v h1] at h
 by_cases hw:Region.wanted oj (yielded ops a.tmps)=true
 ·rw[if_pos hw] at h ⊢
  rcases h with h | ⟨h4,h5⟩
  ·exact .inl (Oper.wp_mono (fun a' w' hk=>⟨keep a' hk.1,hk.2⟩) (Oper.XY (execOp_put oj hsj a oi.dst v h1) h2 hQ h))
  ·refine .inr ⟨?_,h5⟩
   unfold Oper.asks at h4 ⊢;rw[execOp_put oj hsj a oi.dst v h1] at h4;exact h4
 ·rw[if_neg hw] at h ⊢
  refine⟨keep _ ⟨a.defers,_,rfl⟩,?_⟩;rw[←Act.put_comm a v undef h2];exact h
theorem ng{i:Nat}{oi:Oper}{v:Value}(hi:ops[i]?=some oi)(hsel:∀(j:Nat)(o:Oper) cs b,ops[j]?=some o→o.op ≠ .select cs b)
  (hQ:∀ c a w,Q (.panic c) (a.put oi.dst v) w→Q (.panic c) a w):∀(fuel:Nat)(listed:Array Bool)(a:Act)(w:World),C w →
   (∀ j oj,ops[j]?=some oj→j≠i→listed.getD j true=false→(∀ e∈oj.after,Region.binds md e=true→e.on≠i)→oi.apart ops oj=true) →
   i∈Region.ready md ops listed→jP P ops C oi v a→vX P md ops C Q fuel (listed.setIfInBounds i true) (a.put oi.dst v) w→vX P md ops C Q (fuel+1) listed a w
 | 0,listed,a,w,hC,_,hr,hy,H=>by
  refine⟨(fun h=>by rw[h] at hr;cases hr),fun j hj=>?_⟩
  by_cases hji:j=i
  ·subst hji;exact hy.at hi hC ⟨hC,H⟩
  ·have:=ready_mono hj hji
   rw[H.1] at this
   cases this
 | fuel+1,listed,a,w,hC,hfree,hr,hy,H=>by
  refine⟨(fun h=>by rw[h] at hr;cases hr),fun j hj=>?_⟩
  by_cases hji:j=i
  ·subst hji;exact hy.at hi hC ⟨hC,H⟩
  ·obtain⟨hun,oj,hoj,hall⟩:=mem_ready.1 hj
   have hno:∀ e∈oj.after,Region.binds md e=true→e.on≠i:=fun e he hb e1=>by
    have g1:=hall e he hb;have g0:=(mem_ready.1 hr).1;rw[e1] at g1;rcases Nat.lt_or_ge i listed.size with h' | h'
    ·simp[h'] at g0 g1;rw[g0] at g1;cases g1
    ·simp[Array.getElem?_eq_none h'] at g1
   refine wpOp_mono (fun a' w' h3=>⟨h3.2.1,ng hi hsel hQ fuel (listed.setIfInBounds j true) a' w' h3.2.1 (fun k ok hk hki Qx hnk=>hfree k ok hk hki ?_ hnk) (ready_mono hr (Ne.symm hji)) h3.1 ?_⟩)
    (CZ hoj (hfree j oj hoj hji hun hno) (fun cs b=>hsel i oi cs b hi) (fun cs b=>hsel j oj cs b hoj) hQ hy (H.2 j (ready_mono hj hji)))
   ·by_cases hjk:j=k
    ·subst hjk;exact hun
    ·rw[getD_set_ne true hjk] at Qx;exact Qx
   ·rw[Array.setIfInBounds_comm _ _ hji]
    exact h3.2.2
def fZ(P:Program)(l:List Oper)(C:World→Prop)(Q:Exit→Act→World→Prop):List (Nat×Bool)→Act→World→Prop
 | [],a,w=>Q .normal a w
 | (i,false)::r,a,w=>∃ o,l[i]?=some o∧wpQuiet P l.toArray C (fun a'=>fZ P l C Q r a' w) [o] a
 | (i,true)::r,a,w=>wpOp P l.toArray Q i (fun a' w'=>C w'∧fZ P l C Q r a' w') a w
theorem dF{l:List Oper}{i:Nat}{r:List (Nat×Bool)}{a:Act}{w:World}(o:Oper)(ho:l[i]?=some o)(h:wpQuiet P l.toArray C (fun a'=>fZ P l C Q r a' w) [o] a):fZ P l C Q ((i,false)::r) a w:=⟨o,ho,h⟩
theorem Qy{l:List Oper}{i:Nat}{r:List (Nat×Bool)}{a:Act}{w:World}{o:Oper}{f:FuncId}{fn:Func}{c:Code}{xs:Array Operand}{ts:Array TypeId}(ho:l[i]?=some o)
  (hop:o.op = .call { callee := .value (.func f),args:=xs,argTypes:=ts }) (hw:Region.wanted o (yielded l.toArray a.tmps)=true) (hf:P.funcs[f]?=some fn) (hn:(fn.name == "runtime.NumGoroutine")=false) (hb:fn.body=some c)
  (h:Calls P f (xs.map a.eval) w fun e w'=>∃ v,e = .returned v∧C w'∧fZ P l C Q r (a.put o.dst v) w'):fZ P l C Q ((i,true)::r) a w:=by
 unfold fZ wpOp;have ho':l.toArray[i]?=some o:=by simpa using ho
 simp only[ho',hw,if_true];refine .inl ?_;have hrun:(execOp a.eval o).run P w = .ok (.enter f (xs.map a.eval)) w:=by
  have h1:fn.name≠"runtime.NumGoroutine":=by simpa using hn
  simp[execOp,hop,resolve,invoke,Act.eval,callFunc,Deferred.ofValue,hf,h1,hb]
 unfold Oper.wp;rw[hrun];refine Calls.mono h fun e w2 hk=>?_;obtain⟨v,rfl,h1,h2⟩:=hk;exact⟨h1,h2⟩
theorem pJ{l:List Oper}{i:Nat}{r:List (Nat×Bool)}{a:Act}{w:World}{o:Oper}{f:FuncId}{fn:Func}{c:Code}{xs:Array Operand}{ts:Array TypeId}{vs:Array Value}{R:Ending→World→Prop}(h:Calls P f vs w R)(ho:l[i]?=some o)
  (hop:o.op = .call { callee := .value (.func f),args:=xs,argTypes:=ts }) (hw:Region.wanted o (yielded l.toArray a.tmps)=true) (hf:P.funcs[f]?=some fn) (hn:(fn.name == "runtime.NumGoroutine")=false) (hb:fn.body=some c) (hx:xs.map a.eval=vs)
  (hR:∀ e w',R e w'→∃ v,e = .returned v∧C w'∧fZ P l C Q r (a.put o.dst v) w'):fZ P l C Q ((i,true)::r) a w :=
 Qy ho hop hw hf hn hb (hx ▸ h.mono hR)
end
def bitsOf(l:List Nat):Nat:=l.foldl (fun m t=>m ||| 2 ^ t) 0
theorem C9(k:Nat):∀(l:List Nat)(m:Nat),(l.foldl (fun m t=>m ||| 2 ^ t) m).testBit k=(m.testBit k || decide (k∈l))
 | [],m=>by simp
 | t::l,m=>by
  rw[List.foldl_cons,C9 k l,Nat.testBit_or,Nat.testBit_two_pow]
  by_cases e:t=k
  ·subst e;simp
  ·have:¬k=t:=fun h=>e h.symm
   simp[e,this]
theorem jf(l:List Nat)(k:Nat):(bitsOf l).testBit k=decide (k∈l):=by unfold bitsOf;rw[C9];simp
def Ju(o:Oper):List Nat:=(o.after.toList.filter fun e=>Region.binds .any e).map (·.on)
def wP(o:Oper):List Nat:=o.dst.toList
structure Inf where
 dep:Nat
 dst:Nat
 look:Nat
 plain:Bool
def iK(ops:Array Oper)(o:Oper):Inf:=⟨bitsOf (Ju o),bitsOf (wP o),bitsOf (o.looksAt ops),Ew o.op⟩
def infos(l:List Oper):List Inf:=l.map (iK l.toArray)
def Ey(x y:Inf):Bool:=Nat.beq (Nat.land x.dst (Nat.lor y.look y.dst)) 0 && Nat.beq (Nat.land y.dst x.look) 0
def qC(i:Nat)(x:Inf)(mask:Nat):List Inf→Nat→Bool
 | [],_=>true
 | y::L,j=>(Nat.beq j i || (Nat.testBit mask j || (Nat.testBit y.dep i || Ey x y))) && qC i x mask L (j+1)
def GX(i:Nat)(mask:Nat):List Inf→Nat→Bool
 | [],_=>true
 | y::L,j=>(Nat.beq j i || (Nat.testBit mask j || !(Nat.beq (Nat.land y.dep mask) y.dep))) && GX i mask L (j+1)
def pY(L:List Inf):List (Nat×Bool)→Nat→Bool
 | [],mask=>Nat.beq mask (2 ^ L.length-1)
 | (i,b)::r,mask=>match L[i]? with
  | none=>false
  | some x=>(!(Nat.testBit mask i) && Nat.beq (Nat.land x.dep mask) x.dep) && ((match b with | true=>GX i mask L 0 | false=>x.plain && qC i x mask L 0) && pY L r (Nat.lor mask (2 ^ i)))
theorem kL{i:Nat}{x:Inf}{mask:Nat} : ∀(L:List Inf)(k:Nat),qC i x mask L k=true→∀ j y,L[j]?=some y→k+j=i∨mask.testBit (k+j)=true∨y.dep.testBit i=true∨Ey x y=true
 | [],_,_,j,y,hj=>by simp at hj
 | z::L,k,h,0,y,hj=>by
  simp only[qC,Bool.and_eq_true,Bool.or_eq_true,Nat.beq_eq] at h;obtain rfl:z=y:=by simpa using hj
  simpa using h.1
 | z::L,k,h,j+1,y,hj=>by
  simp only[qC,Bool.and_eq_true] at h;have:=kL L (k+1) h.2 j y (by simpa using hj)
  rwa [show k+1+j=k+(j+1) by omega] at this
theorem qZ{i:Nat}{mask:Nat} : ∀(L:List Inf)(k:Nat),GX i mask L k=true→∀ j y,L[j]?=some y→k+j=i∨mask.testBit (k+j)=true∨Nat.land y.dep mask≠y.dep
 | [],_,_,j,y,hj=>by simp at hj
 | z::L,k,h,0,y,hj=>by
  simp only[GX,Bool.and_eq_true,Bool.or_eq_true,Nat.beq_eq,Bool.not_eq_true'] at h;obtain rfl:z=y:=by simpa using hj
  rcases h.1 with h1 | h1 | h1
  ·exact .inl (by simpa using h1)
  ·exact .inr (.inl (by simpa using h1))
  ·exact .inr (.inr fun e=>by rw[e] at h1;simp at h1)
 | z::L,k,h,j+1,y,hj=>by
  simp only[GX,Bool.and_eq_true] at h;have:=qZ L (k+1) h.2 j y (by simpa using hj)
  rwa [show k+1+j=k+(j+1) by omega] at this
theorem qE{a b:Nat}(h:Nat.land a b=0){k:Nat}(ha:a.testBit k=true):b.testBit k=false:=by
 have:(a &&& b).testBit k=false:=by rw[show a &&& b=Nat.land a b from rfl,h];simp
 rw[Nat.testBit_and,ha] at this
 simpa using this
theorem ni{ops:Array Oper}{x y:Oper}(h:Ey (iK ops x) (iK ops y)=true):x.apart ops y=true:=by
 simp only[Ey,Bool.and_eq_true,Nat.beq_eq,iK] at h;obtain⟨h1,h2⟩:=h;unfold Oper.apart;rw[Bool.and_eq_true]
 constructor
 ·cases hd:x.dst with
  | none=>rfl
  | some d =>
   have hb:(bitsOf (wP x)).testBit d=true:=(by rw[jf];simp[wP,hd]);have:=qE h1 hb;rw[show Nat.lor (bitsOf (y.looksAt ops)) (bitsOf (wP y))=bitsOf (y.looksAt ops) ||| bitsOf (wP y) from rfl,Nat.testBit_or,Bool.or_eq_false_iff,jf,jf] at this;obtain⟨g1,g2⟩:=this;simp only[Bool.and_eq_true,Bool.not_eq_true',bne_iff_ne,ne_eq];refine⟨by simpa using g1,fun e=>?_⟩;rw[decide_eq_false_iff_not] at g2;exact g2 (by simp[wP,e])
 ·cases hd:y.dst with
  | none=>rfl
  | some d =>
   have hb:(bitsOf (wP y)).testBit d=true:=(by rw[jf];simp[wP,hd]);have:=qE h2 hb;rw[jf] at this
   simpa using this
theorem Aa{a m:Nat}(h:Nat.land a m=a){k:Nat}(ha:a.testBit k=true):m.testBit k=true:=by
 have:(a &&& m).testBit k=true:=by rw[show a &&& m=Nat.land a m from rfl,h];exact ha
 rw[Nat.testBit_and] at this;simp at this;exact this.2
theorem um{a m:Nat}(h:∀ k,a.testBit k=true→m.testBit k=true):Nat.land a m=a:=by
 show a &&& m=a
 apply Nat.eq_of_testBit_eq;intro k;rw[Nat.testBit_and]
 cases ha:a.testBit k with
 | false=>rfl
 | true=>rw[h k ha];rfl
structure Lst(n:Nat)(listed:Array Bool)(mask:Nat):Prop where
 size:listed.size=n
 bit:∀ j,j<n→listed[j]?=some (mask.testBit j)
 lt:∀ j,mask.testBit j=true→j<n
theorem Lst.start(n:Nat):Lst n (Array.replicate n false) 0:=⟨by simp,fun j hj=>by simp[hj],fun j h=>by simp at h⟩
theorem Lst.set{n:Nat}{listed:Array Bool}{mask i:Nat}(h:Lst n listed mask)(hi:i<n):Lst n (listed.setIfInBounds i true) (Nat.lor mask (2 ^ i)):=by
 have hb:∀ j,(Nat.lor mask (2 ^ i)).testBit j=(mask.testBit j || decide (i=j)):=fun j=>by
  show(mask ||| 2 ^ i).testBit j=_
  rw[Nat.testBit_or,Nat.testBit_two_pow]
 refine⟨by simp[h.size],fun j hj=>?_,fun j hj=>?_⟩
 ·rw[hb,Array.getElem?_setIfInBounds]
  by_cases e:i=j
  ·subst e;simp[h.size,hi]
  ·simp[e,h.bit j hj]
 ·rw[hb] at hj
  simp at hj;rcases hj with hj | rfl
  ·exact h.lt j hj
  ·exact hi
section
variable {P : Program} {C : World → Prop} {Q : Exit → Act → World → Prop}
theorem gV{o:Oper}{k:Nat} : (bitsOf (Ju o)).testBit k=true↔∃ e∈o.after,Region.binds .any e=true∧e.on=k:=by
 rw[jf];simp[Ju,and_assoc]
theorem rC{l:List Oper}(hs:Region.noSelect l.toArray=true)(hQ:∀ c a d v w,Q (.panic c) (Act.put a d v) w→Q (.panic c) a w):∀ (r:List (Nat×Bool)) (listed:Array Bool) (mask:Nat) (a:Act) (w:World),C w→Lst l.length listed mask →
  pY (infos l) r mask=true→fZ P l C Q r a w→vX P .any l.toArray C Q r.length listed a w
 | [],listed,mask,a,w,_,hl,hB,h=>by
  simp only[pY,Nat.beq_eq] at hB;refine⟨?_,h⟩;rw[List.eq_nil_iff_forall_not_mem];intro j hj;obtain⟨h0,o,ho,_⟩:=mem_ready.1 hj;have hjl:j<l.length:=by have:=(Array.getElem?_eq_some_iff.1 ho).1;simpa using this
  have hb:=hl.bit j hjl;rw[hB] at hb;have:(2 ^ (infos l).length-1).testBit j=true:=by rw[Nat.testBit_two_pow_sub_one];simp[infos,hjl]
  rw[this] at hb;rw[Array.getD_eq_getD_getElem?,hb] at h0
  cases h0
 | (i,b)::r,listed,mask,a,w,hC,hl,hB,h=>by
  simp only[pY] at hB
  cases hx:(infos l)[i]? with
  | none=>rw[hx] at hB;cases hB
  | some x =>
   rw[hx] at hB;simp only[Bool.and_eq_true,Bool.not_eq_true',Nat.beq_eq] at hB;obtain⟨⟨hun,Ez⟩,hk,hB⟩:=hB;have hil:i<l.length:=by
    have:=(List.getElem?_eq_some_iff.1 hx).1
    simpa[infos] using this
   have ho:l[i]?=some l[i]:=List.getElem?_eq_getElem hil;have hxe:x=iK l.toArray l[i]:=by
    simp only[infos,List.getElem?_map,ho,Option.map_some,Option.some.injEq] at hx;exact hx.symm
   have ho':l.toArray[i]?=some l[i]:=(by simp);have hgl:∀ k,mask.testBit k=true→listed.getD k false=true:=fun k hk=>by
    rw[Array.getD_eq_getD_getElem?,hl.bit k (hl.lt k hk),hk];rfl
   have eu:i∈Region.ready .any l.toArray listed:=mem_ready.2 ⟨by rw[Array.getD_eq_getD_getElem?,hl.bit i hil,hun];rfl,l[i],ho',fun e he hb=>hgl _ (by
    rw[hxe] at Ez;exact Aa Ez (gV.2 ⟨e,he,hb,rfl⟩))⟩
   have hset:=hl.set hil
   cases b with
   | false =>
    simp only[Bool.and_eq_true] at hk;obtain⟨hp,hf⟩:=hk;obtain⟨o,ho2,h⟩:=h;obtain rfl:l[i]=o:=by rw[ho] at ho2;exact Option.some.inj ho2
    have hq:qOp P l.toArray C i (fun a'=>fZ P l C Q r a' w) a:=(by unfold qOp;simp only[ho'];exact h);obtain⟨v,hy,hK⟩:=yieldsIn_of_qOp ho' hq;refine ng ho' (Region.noSelect_spec hs) (fun c a w=>hQ c a _ _ w) r.length listed a w hC (fun j oj hj hji hjun hno=>?_) eu (je (by rw[hxe] at hp;exact hp) hy) (rC hs hQ r _ _ _ w hC hset hB hK);have hjl:j<l.length:=(by have:=(Array.getElem?_eq_some_iff.1 hj).1;simpa using this);have hje:(infos l)[j]?=some (iK l.toArray oj):=by
     have:l[j]?=some oj:=(by simpa using hj);simp[infos,this]
    rcases kL _ 0 hf j _ hje with h1 | h1 | h1 | h1
    ·omega
    ·rw[Nat.zero_add] at h1
     rw[Array.getD_eq_getD_getElem?,hl.bit j hjl,h1] at hjun
     cases hjun
    ·obtain⟨e,he,hb,hon⟩:=gV.1 h1
     exact absurd hon (hno e he hb)
    ·rw[hxe] at h1;exact ni h1
   | true =>
    refine⟨(fun h0=>by rw[h0] at eu;cases eu),fun j hj=>?_⟩;obtain⟨hj0,oj,hoj,hjd⟩:=mem_ready.1 hj;have hjl:j<l.length:=(by have:=(Array.getElem?_eq_some_iff.1 hoj).1;simpa using this);have hje:(infos l)[j]?=some (iK l.toArray oj):=by
     have:l[j]?=some oj:=(by simpa using hoj);simp[infos,this]
    have hji:j=i:=by
     rcases qZ _ 0 hk j _ hje with h1 | h1 | h1
     ·omega
     ·rw[Nat.zero_add] at h1
      rw[Array.getD_eq_getD_getElem?,hl.bit j hjl,h1] at hj0
      cases hj0
     ·refine(h1 (um fun k hk2=>?_)).elim
      obtain⟨e,he,hb,rfl⟩:=gV.1 hk2;have h2:=hjd e he hb
      cases hm:mask.testBit e.on with
      | true=>rfl
      | false =>
       rcases Nat.lt_or_ge e.on l.length with h3 | h3
       ·rw[Array.getD_eq_getD_getElem?,hl.bit _ h3,hm] at h2;cases h2
       ·rw[Array.getD_eq_getD_getElem?,Array.getElem?_eq_none (by rw[hl.size];exact h3)] at h2;cases h2
    subst hji;exact wpOp_mono (fun a' w' hk=>⟨hk.1,rC hs hQ r _ _ a' w' hk.1 hset hB hk.2⟩) h
theorem gI{id:Nat}{a:Act}{w:World}{l:List Oper}(r:List (Nat×Bool))(L:List Inf)(hm:P.follows .mixedOrders=true)(hs:Region.noSelect l.toArray=true)(hL:infos l=L)(hlen:r.length=l.length)(hB:pY L r 0=true)
  (hQ:∀ c a d v w,Q (.panic c) (Act.put a d v) w→Q (.panic c) a w) (hC:C w.drew) (h:fZ P l C Q r a w.drew):(Code.region id l.toArray true).wp P Q a w:=by
 refine wp_region_any hm ?_;have:=mZ _ _ _ _ (rC (P:=P) (C:=C) (Q:=Q) hs hQ r _ 0 a w.drew hC (Lst.start _) (hL ▸ hB) h);rw[hlen] at this
 simpa using this
theorem kC{l:List Oper}{i:Nat}{r:List (Nat×Bool)}{a:Act}{w:World}(o:Oper)(ho:l[i]?=some o)(hw:Region.wanted o (yielded l.toArray a.tmps)=true)(h:Oper.wp P o a w (fun a' w'=>C w'∧fZ P l C Q r a' w') Q):fZ P l C Q ((i,true)::r) a w:=by
 unfold fZ wpOp;have ho':l.toArray[i]?=some o:=by simpa using ho
 simp only[ho',hw,if_true];exact .inl h
structure CW(C:World→Prop) where
 W:World
 h:C W
end
end
section
open Go Go.RowKit
structure BW(w:World) where
 W:World
 h:Below w.heap.size w W
instance (w:World):Inhabited (BW w):=⟨⟨w,Below.refl _ w⟩⟩
theorem aO{P:Program}{id:Nat}{Q:Exit→Act→World→Prop}{a:Act}{w:World}{l:List Oper}(hm:P.follows .mixedOrders=true)(hB:Region.lexB .any l.toArray=true)
  (h:wpQuiet P l.toArray (fun w'=>∃ p:BW w,w'=p.W) (fun a'=>∀ w',(∃ p:BW w,w'=p.W)→Q .normal a' w') l a):(Code.region id l.toArray true).wp P Q a w :=
 wp_region_quiet (C:=fun w'=>∃ p:BW w,w'=p.W) hm hB ⟨⟨w.drew,(Below.refl _ w).drew⟩,rfl⟩ (by simpa using h)
theorem fH{P:Program}{f:FuncId}{args:Array Value}{w:World}{p:BW w}{v:Value}
  (h:Calls P f args p.W fun e w'=>e = .returned v∧Below p.W.heap.size p.W w'):Calls P f args p.W fun e w''=>e = .returned v∧∃ q:BW w,w''=q.W :=
 h.mono fun _ w' ⟨he,hb⟩=>⟨he,⟨w',p.h.trans (hb.mono p.h.size)⟩,rfl⟩
theorem aF{w:World}{b o:Nat}{v:Value}(h:w.cell? ⟨b,o,none⟩=some v)(hb:b<w.heap.size):∀ p:BW w,p.W.cell? ⟨b,o,none⟩=some v:=fun p=>(p.h.cell (p:=⟨b,o,none⟩) hb).trans h
end
end Go.Proofs.YtkjgogdkdejljaaGreatDoor.AX
namespace Go.Proofs.YtkjgogdkdejljaaGreatDoor.Lx
open Go.Lib (hid)
open Go Go.Proofs Go.RowKit
attribute [local go_sem] Oper.semAt_some
def okL(next rule kind:List Int)(kinds:Int):Bool:=okT next rule && (decide (0≤kinds) && (decide (kinds≤16) && (inR (-1) kinds kind && rule.all fun x=>decide (x<kind.length))))
def mY(next rule kind:List Int)(kinds:Int):Int:=if okL next rule kind kinds=true then 0 else 2
theorem XW{B:Nat}{kinds:Int}{w:World}(x:Int)(h:w.cell? ⟨B,3,none⟩=some (.int .i64 kinds)):Calls Tryz.prog 39 #[.int .i64 x, .pointer (some ⟨B,0,none⟩)] w fun e w'=>e = .returned (.bool (decide (x < -1) || decide (kinds≤x)))∧w=w':=by
 by_cases h1:x < -1
 ·obtain⟨b,hb⟩:∃ b,b=(decide (x < -1) || decide (kinds≤x)):=⟨_,rfl⟩
  rw[←hb];have HB:=hid (show b=true by rw[hb];simp[h1]);clear hb;go_enter Tryz.func39,Tryz.ntmps39
  go_wp2
  go_ret
  exact⟨by rw[HB.out];rfl,rfl⟩
 ·obtain⟨b,hb⟩:∃ b,b=(decide (x < -1) || decide (kinds≤x)):=⟨_,rfl⟩
  rw[←hb];have h2 : -1≤x:=by omega
  have HB:=hid (show b=decide (kinds≤x) by rw[hb,decide_eq_false (by omega:¬x < -1),Bool.false_or]);clear hb h1;go_enter Tryz.func39,Tryz.ntmps39
  go_wp2
  exact bodyPost_ret (v := .bool b) (by simp[results,Tryz.results39,go_sem,HB.out];omega) rfl ⟨rfl,rfl⟩
def Idx(bad:Bool)(w:World)(e:Ending)(w':World):Prop:=∃ i:Int,e = .returned (.int .i64 i)∧decide (0≤i)=bad∧w=w'
theorem Et(kind:List Int)(hl:kind.length≤1000000){B:Nat}{kinds:Int}(a:Option Addr)(c:Nat)(w:World)(h:w.cell? ⟨B,3,none⟩=some (.int .i64 kinds))(hR:aK w a kind) :
  Calls Tryz.prog 76 #[.slice a kind.length c, .func (.func 39) #[] #[.pointer (some ⟨B,0,none⟩)]] w (Idx (!inR (-1) kinds kind) w):=by
 obtain⟨bad,hbad⟩:∃ b,b = !inR (-1) kinds kind:=⟨_,rfl⟩;rw[←hbad];obtain⟨kd,hkd⟩:∃ f:Nat→Int,f=fun k=>kind.getD k 0:=⟨_,rfl⟩;have HF:Hid (∀ k,k<kind.length→¬(-1≤kd k∧kd k<kinds)→bad=true):=hid fun k hk h=>by rw[hkd] at h;rw[hbad,Us hk h];rfl
 have HT:Hid ((∀ k,k<kind.length → -1≤kd k∧kd k<kinds)→bad=false):=hid fun a=>by rw[hkd] at a;rw[hbad,XT a];rfl
 have HR:Hid (∀ j,j<kind.length→∃ b off,a=some ⟨b,off,none⟩∧b<w.heap.size∧w.cell? ⟨b,off+j,none⟩=some (.int .i64 (kd j))):=hid fun j hj=>by rw[hkd];exact hR.get hj
 have hc:=fun x=>XW x h;clear hbad hkd hR h;generalize kind.length=N at *;go_enter Tryz.func76,Tryz.ntmps76
 go_wp2
 go_loop [8] (fun i=>∃ k:Nat,k≤N∧i = .int .i64 k∧Hid (∀ j,j<k → -1≤kd j∧kd j<kinds)) (fun i=>N-(intOf i).toNat)
 case atStart=>exact⟨0,Nat.zero_le _,rfl,hid fun j hj=>absurd hj (by omega)⟩
 case round =>
  obtain⟨k,hk,rfl,hg⟩:=hrel;rcases Nat.lt_or_ge k N with hlt | hge
  ·obtain⟨b,off,rfl,hb,hcell⟩:=HR.out k hlt
   have hk0:(0:Int)≤(k:Int):=(by omega);have hk1:(k:Int)<(N:Int):=(by omega);have HE:=hid (HF.out k hlt);have HG:Hid ((-1≤kd k∧kd k<kinds)→∀ j,j<k+1 → -1≤kd j∧kd j<kinds):=hid fun h j hj=>by
    rcases Nat.lt_or_ge j k with h1 | h1
    ·exact hg.out j h1
    ·obtain rfl:j=k:=by omega
     exact h
   generalize kd k=x at *;obtain⟨bx,hbx⟩:∃ b,b=(decide (x < -1) || decide (kinds≤x)):=⟨_,rfl⟩;have hcx:=hc x;rw[←hbx] at hcx;have HX:=hid hbx;clear hbx hc
   cases bx with
   | false =>
    have HG':Hid (∀ j,j<k+1 → -1≤kd j∧kd j<kinds):=hid (HG.out (by have:=HX.out;simp at this;omega));go_wp2_with (go_at_call 39;((with_reducible refine hcx.mono ?_);rintro e Wd ⟨rfl,rfl⟩))
    go_round
    case rel=>exact⟨k+1,by omega,by simp,HG'⟩
    case measure=>simp[intOf];omega
   | true =>
    have HB:=hid (HE.out (by have:=HX.out;simp at this;omega));go_wp2_with (go_at_call 39;((with_reducible refine hcx.mono ?_);rintro e Wd ⟨rfl,rfl⟩))
    go_ret
    exact⟨_,rfl,by rw[HB.out];simp,rfl⟩
  ·obtain rfl:k=N:=by omega
   have HB:=hid (HT.out hg.out);go_wp2
   go_ret
   exact⟨_,rfl,by rw[HB.out];rfl,rfl⟩
theorem contains_k(kind:List Int)(hl:kind.length≤1000000){B:Nat}{kinds:Int}(a:Option Addr)(c:Nat)(w:World)(h:w.cell? ⟨B,3,none⟩=some (.int .i64 kinds))(hR:aK w a kind) :
  Calls Tryz.prog 38 #[.slice a kind.length c, .func (.func 39) #[] #[.pointer (some ⟨B,0,none⟩)]] w fun e w'=>e = .returned (.bool !inR (-1) kinds kind)∧w=w':=by
 have hk:=Et kind hl a c w h hR;generalize (!inR (-1) kinds kind)=bad at *;clear hR h;go_enter Tryz.func38,Tryz.ntmps38
 go_wp2_with (go_at_call 76;((with_reducible refine hk.mono ?_);rintro e Wd ⟨i,rfl,hi,rfl⟩))
 exact bodyPost_ret (v := .bool bad) (by simp[results,Tryz.results38,go_sem]) rfl ⟨rfl,rfl⟩
end Go.Proofs.YtkjgogdkdejljaaGreatDoor.Lx
