import Derived.Test.YtkjgogdkdejljaaGreatDoorLxMm
import Derived.ProofKit
import Derived.OpenShut
import Derived.Deep.Cut
import Derived.OneCell
import Derived.Test.YtkjgogdkdejljaaGreatDoorDfN14
import Derived.Lib.AppendZeros
import Derived.Lib.UnsafeStr
import Derived.Lib.Bytealg
import Derived.Shelf.SlIterI.Nil
set_option maxRecDepth 100000
set_option maxHeartbeats 40000000
namespace Go.Proofs.YtkjgogdkdejljaaGreatDoor.Lx
open Go Go.Proofs Go.RowKit
attribute [local go_sem] Oper.semAt_some
def aH(w:World)(a:Option Addr)(l:List Int):Prop:=l≠[]->∃b off,a=some ⟨b,off,none⟩/\b<w.heap.size/\∀j (h:j<l.length),w.cell? ⟨b,off+j,none⟩=some (.int .i64 l[j])
theorem aH.below{n:Nat}{w w':World}{a:Option Addr}{l:List Int}(h:aH w a l)(hb:Below n w w')(hn:w.heap.size<=n):aH w' a l:=fun h0=>by
 obtain⟨b,off,rfl,h1,h2⟩:=h h0;exact⟨b,off,rfl,afN h1 hb.size,fun j hj=>(hb.cell (p:=⟨b,off+j,none⟩) (by simp only;omega)).trans (h2 j hj)⟩
theorem aH.at{w:World}{a:Option Addr}{l:List Int}(h:aH w a l){j:Nat}(hj:j<l.length):∃b off,a=some ⟨b,off,none⟩/\b<w.heap.size/\w.cell? ⟨b,off+j,none⟩=some (.int .i64 l[j]):=by
 obtain⟨b,off,h0,h1,h2⟩:=h (by intro e;subst e;simp at hj);exact⟨b,off,h0,h1,h2 j hj⟩
def dV(an ar:Option Addr)(n r cn cr:Nat):Value:=.agg #[.slice an n cn,.slice ar r cr]
def inR(lo hi:Int)(l:List Int):Bool:=l.all fun x=>decide (lo<=x) && decide (x<hi)
def okT(next rule:List Int):Bool:=decide (1<=rule.length) && (decide (rule.length<=512) && (decide (next.length=256*rule.length) && (inR (-1) 16 rule && inR (-1) rule.length next)))
theorem uj(lo:Int):∀(l:List Int)(z:Int),lo<=l.foldl min z↔lo<=z/\∀x∈l,lo<=x
 | [],z=>by simp
 | x::l,z=>by
  rw[agw,uj lo l,Int.le_min];simp only[afX,forall_eq_or_imp,aiB]
theorem um(hi:Int):∀(l:List Int)(z:Int),l.foldl max z<hi↔z<hi/\∀x∈l,x<hi
 | [],z=>by simp
 | x::l,z=>by
  rw[agw,um hi l,Int.max_lt];simp only[afX,forall_eq_or_imp,aiB]
theorem Zi(l:List Int)(h:l≠[])(lo:Int):(lo<=Lib.minOf l)↔∀x∈l,lo<=x:=by
 cases l with
 | nil=>exact absurd rfl h
 | cons z l =>
  unfold Lib.minOf;rw[uj];simp
theorem max_lt(l:List Int)(h:l≠[])(hi:Int):(Lib.maxOf l<hi)↔∀x∈l,x<hi:=by
 cases l with
 | nil=>exact absurd rfl h
 | cons z l =>
  unfold Lib.maxOf;rw[um];simp
theorem LW(l:List Int)(h:l≠[])(lo hi:Int):inR lo hi l=true↔lo<=Lib.minOf l/\Lib.maxOf l<hi:=by
 rw[Zi l h,max_lt l h];unfold inR;simp only[agk,afU,afZ];exact⟨fun k=>⟨fun x hx=>(k x hx).1,fun x hx=>(k x hx).2⟩,fun k x hx=>⟨k.1 x hx,k.2 x hx⟩⟩
theorem XD(l:List Int)(h:0<l.length)(hl:l.length<=1000000)(a:Option Addr)(c:Nat)(w:World)(hR:aH w a l):
  Calls Tryz.prog 75 #[.slice a l.length c] w fun e w'=>e=.returned (.int .i64 (Lib.minOf l))/\w=w':=by
 obtain⟨b,off,rfl,_,h2⟩:=hR (by intro e;subst e;simp at h);refine(slices_Min_int b off l.length c l w h afD (by omega) (fun j hj=>by rw[h2 j hj];simp[List.getD,hj])).mono ?_;rintro e w' ⟨rfl,rfl⟩;exact⟨by rw[agK],rfl⟩
theorem SN(l:List Int)(h:0<l.length)(hl:l.length<=1000000)(a:Option Addr)(c:Nat)(w:World)(hR:aH w a l):
  Calls Tryz.prog 37 #[.slice a l.length c] w fun e w'=>e=.returned (.int .i64 (Lib.maxOf l))/\w=w':=by
 obtain⟨b,off,rfl,_,h2⟩:=hR (by intro e;subst e;simp at h);refine(slices_Max_int b off l.length c l w h afD (by omega) (fun j hj=>by rw[h2 j hj];simp[List.getD,hj])).mono ?_;rintro e w' ⟨rfl,rfl⟩;exact⟨by rw[agK],rfl⟩
def eu(next rule:List Int):Int:=if okT next rule=true then 0 else 2
theorem jQ(next rule:List Int)(hn:next.length<=1000000)(hr:rule.length<=1000000)(an ar:Option Addr)(cn cr:Nat)(w:World)(hN:aH w an next)(hR:aH w ar rule):
    Calls Tryz.prog 36 #[.agg #[.slice an next.length cn,.slice ar rule.length cr]] w fun e w'=>e=.returned (.int .i64 (eu next rule))/\Below w.heap.size w w':=by
  have hB:=(afI w.heap.size w).alloc afD (.cells #[.slice an next.length cn,.slice ar rule.length cr] 27)
  by_cases h0:1<=rule.length/\rule.length<=512/\next.length=256*rule.length
  · obtain⟨h1,h2,h3⟩:=h0
    have k1:=fun W hW=>XD rule h1 hr ar cr W hW;have k2:=fun W hW=>SN rule h1 hr ar cr W hW;have k3:=fun W hW=>XD next (by omega) hn an cn W hW
    have k4:=fun W hW=>SN next (by omega) hn an cn W hW
    have HV:Hid (eu next rule=if ((-1<=Lib.minOf rule/\Lib.maxOf rule<16) /\ -1<=Lib.minOf next/\Lib.maxOf next<rule.length)then 0 else 2):=Lib.hid <| by
      unfold eu okT;rw[agL h1,agL h2,agL h3,ahM,ahM,ahM];simp only[afU,LW rule (by intro e;subst e;simp at h1),LW next (by intro e;subst e;simp at h3;omega)]
    have hN':=hN.below hB afD;have hR':=hR.below hB afD;generalize Lib.minOf rule=m1 at *;generalize Lib.maxOf rule=m2 at *;generalize Lib.minOf next=m3 at *
    generalize Lib.maxOf next=m4 at *
    generalize eu next rule=cv at *
    have H3:Hid (next.length=256*rule.length):=Lib.hid h3;have h3a:(next.length:Int)-256*rule.length<=0:=(by omega);have h3b:0<=(next.length:Int)-256*rule.length:=(by omega);have hne:((next.length:Int) == 256*(rule.length:Int))=true:=(by simp;omega);have hne':((next.length:Int) != 256*(rule.length:Int))=false:=(by simp;omega);clear h3;generalize next.length=N at *
    generalize rule.length=R at *;clear hN hR;go_enter Tryz.func36,Tryz.ntmps36
    go_wp2_with (first
      | (go_at_call 75;((with_reducible refine(k1 _ hR').mono ?_);rintro e Wd ⟨rfl,rfl⟩))
      | (go_at_call 75;((with_reducible refine(k3 _ hN').mono ?_);rintro e Wd ⟨rfl,rfl⟩))
      | (go_at_call 37;((with_reducible refine(k2 _ hR').mono ?_);rintro e Wd ⟨rfl,rfl⟩))
      | (go_at_call 37;((with_reducible refine(k4 _ hN').mono ?_);rintro e Wd ⟨rfl,rfl⟩)))
    all_goals first
      | (have E:cv=2:=by rw[HV.out,afO (by omega)]
         exact afJ (v:=.int .i64 cv) (by simp[results,Tryz.results36,go_sem,E]) rfl ⟨rfl,hB⟩)
      | (have E:cv=0:=by rw[HV.out,afR (by omega)]
         exact afJ (v:=.int .i64 cv) (by simp[results,Tryz.results36,go_sem,E]) rfl ⟨rfl,hB⟩)
  · have HV:Hid (eu next rule=2):=Lib.hid <| afO fun h=>h0 (by
      unfold okT at h;simp only[afU,afZ]at h;exact⟨h.1,h.2.1,h.2.2.1⟩)
    generalize eu next rule=cv at *
    generalize next.length=N at *
    generalize rule.length=R at *;go_enter Tryz.func36,Tryz.ntmps36
    go_wp2_with fail
    all_goals first
      | (exfalso;have q:((1:Int)<=(R:Int)/\(R:Int)<=512)/\((N:Int) != 256*(R:Int))=false:=by assumption
         have q:=q.2;simp at q;omega)
      | (have E:cv=2:=HV.out
         exact afJ (v:=.int .i64 cv) (by simp[results,Tryz.results36,go_sem,E]) rfl ⟨rfl,hB⟩)
end Go.Proofs.YtkjgogdkdejljaaGreatDoor.Lx
namespace Go.Proofs.YtkjgogdkdejljaaGreatDoor.Df
section
open Go Go.Proofs Go.RowKit
attribute [local go_sem] Oper.semAt_some
def aH(w:World)(a:Option Addr)(l:List Int):Prop:=l≠[]->∃b off,a=some ⟨b,off,none⟩/\b<w.heap.size/\∀j (h:j<l.length),w.cell? ⟨b,off+j,none⟩=some (.int .i64 l[j])
theorem aH.below{n:Nat}{w w':World}{a:Option Addr}{l:List Int}(h:aH w a l)(hb:Below n w w')(hn:w.heap.size<=n):aH w' a l:=fun h0=>by
 obtain⟨b,off,rfl,h1,h2⟩:=h h0;exact⟨b,off,rfl,afN h1 hb.size,fun j hj=>(hb.cell (p:=⟨b,off+j,none⟩) (by simp only;omega)).trans (h2 j hj)⟩
theorem aH.at{w:World}{a:Option Addr}{l:List Int}(h:aH w a l){j:Nat}(hj:j<l.length):∃b off,a=some ⟨b,off,none⟩/\b<w.heap.size/\w.cell? ⟨b,off+j,none⟩=some (.int .i64 l[j]):=by
 obtain⟨b,off,h0,h1,h2⟩:=h (by intro e;subst e;simp at hj);exact⟨b,off,h0,h1,h2 j hj⟩
def inR(lo hi:Int)(l:List Int):Bool:=l.all fun x=>decide (lo<=x) && decide (x<hi)
def okT(next rule:List Int):Bool:=decide (1<=rule.length) && (decide (rule.length<=512) && (decide (next.length=256*rule.length) && (inR (-1) 16 rule && inR (-1) rule.length next)))
def eu(next rule:List Int):Int:=if okT next rule=true then 0 else 2
theorem jQ(next rule:List Int)(hn:next.length<=1000000)(hr:rule.length<=1000000)(an ar:Option Addr)(cn cr:Nat)(w:World)(hN:aH w an next)(hR:aH w ar rule):
  Calls Tryz.prog 36 #[.agg #[.slice an next.length cn,.slice ar rule.length cr]] w fun e w'=>e=.returned (.int .i64 (eu next rule))/\Below w.heap.size w w':=
 Lx.jQ next rule hn hr an ar cn cr w hN hR
def Jf(w:World)(a:Option Addr)(l:List Kl):Prop:=l≠[]->∃b off,a=some ⟨b,off,none⟩/\b<w.heap.size/\∀j (h:j<l.length),w.cell? ⟨b,off+j*4,none⟩=some (.int .u64 (l[j].a:Nat))/\w.cell? ⟨b,off+j*4+1,none⟩=some (.int .u64 (l[j].b:Nat))/\w.cell? ⟨b,off+j*4+2,none⟩=some (.int .u64 (l[j].c:Nat))/\w.cell? ⟨b,off+j*4+3,none⟩=some (.int .u64 (l[j].d:Nat))
theorem Jf.below{n:Nat}{w w':World}{a:Option Addr}{l:List Kl}(h:Jf w a l)(hb:Below n w w')(hn:w.heap.size<=n):Jf w' a l:=fun h0=>by
 obtain⟨b,off,rfl,h1,h2⟩:=h h0;refine⟨b,off,rfl,afN h1 hb.size,fun j hj=>?_⟩;obtain⟨c0,c1,c2,c3⟩:=h2 j hj;exact⟨(hb.cell (p:=⟨b,off+j*4,none⟩) (by simp only;omega)).trans c0,(hb.cell (p:=⟨b,off+j*4+1,none⟩) (by simp only;omega)).trans c1,(hb.cell (p:=⟨b,off+j*4+2,none⟩) (by simp only;omega)).trans c2,(hb.cell (p:=⟨b,off+j*4+3,none⟩) (by simp only;omega)).trans c3⟩
def Vw(w:World)(a:Option Addr)(l:List (List Int)):Prop:=l≠[]->∃b off,a=some ⟨b,off,none⟩/\b<w.heap.size/\∀j (h:j<l.length),∃la c,w.cell? ⟨b,off+j,none⟩=some (.slice la l[j].length c)/\aH w la l[j]
theorem Vw.below{n:Nat}{w w':World}{a:Option Addr}{l:List (List Int)}(h:Vw w a l)(hb:Below n w w')(hn:w.heap.size<=n):Vw w' a l:=fun h0=>by
 obtain⟨b,off,rfl,h1,h2⟩:=h h0;refine⟨b,off,rfl,afN h1 hb.size,fun j hj=>?_⟩;obtain⟨la,c,c0,c1⟩:=h2 j hj;exact⟨la,c,(hb.cell (p:=⟨b,off+j,none⟩) (by simp only;omega)).trans c0,c1.below hb hn⟩
structure Nf where
 cl:List Kl
 nx:List (List Int)
 ru:List Int
def nfV(ac an ar:Option Addr)(nc nn nr cc cn cr:Nat):Value:=.agg #[.slice ac nc cc,.slice an nn cn,.slice ar nr cr]
structure uZ(w:World)(N:Nf)(ac an ar:Option Addr):Prop where
 c:Jf w ac N.cl
 n:Vw w an N.nx
 r:aH w ar N.ru
theorem uZ.below{n:Nat}{w w':World}{N:Nf}{ac an ar:Option Addr}(h:uZ w N ac an ar)(hb:Below n w w')(hn:w.heap.size<=n):uZ w' N ac an ar:=⟨h.c.below hb hn,h.n.below hb hn,h.r.below hb hn⟩
def Up(k:Int):Int->List Int->Prop
 | _,[]=>True
 | last,t::l=>last<t/\t<k/\Up k t l
structure yN(N:Nf):Prop where
 one:1<=N.cl.length
 most:N.cl.length<=1024
 nx:N.nx.length=N.cl.length
 ru:N.ru.length=N.cl.length
 zero:N.cl.head?=some Kl.zero
 up:∀l∈N.nx,Up N.cl.length 0 l
 rule:∀r∈N.ru,-1<=r/\r<16
open Classical in
noncomputable def ckN(N:Nf):Int:=if yN N then 0 else 2
end
section
open Go.Lib (hid)
open Go Go.Proofs Go.RowKit
attribute [local go_sem] Oper.semAt_some
instance:DecidableEq Kl:=fun x y=>decidable_of_iff (x.a=y.a/\x.b=y.b/\x.c=y.c/\x.d=y.d) ⟨fun ⟨h0,h1,h2,h3⟩=>Kl.Vq h0 h1 h2 h3,fun h=>by subst h;exact⟨rfl,rfl,rfl,rfl⟩⟩
theorem abg(x y:Kl):(((x.a:Int) == (y.a:Int)) && (((x.b:Int) == (y.b:Int)) && (((x.c:Int) == (y.c:Int)) && ((x.d:Int) == (y.d:Int)))))=decide (x=y):=by
 rw[aif];simp only[afU,ahe,afZ,Int.natCast_inj];exact⟨fun ⟨h0,h1,h2,h3⟩=>Kl.Vq h0 h1 h2 h3,fun h=>by subst h;exact⟨rfl,rfl,rfl,rfl⟩⟩
theorem cells48:Tryz.prog.cellsOf 114=1:=by kernel_rfl
theorem Y1:∃i,Tryz.prog.info? 114=some i:=Option.isSome_iff_exists.1 (by kernel_rfl)
theorem RN(x0 x1 x2 x3:Value)(w:World):(part 114 #[x0,x1,x2,x3] 0).run Tryz.prog w=.ok x0 w/\(part 114 #[x0,x1,x2,x3] 1).run Tryz.prog w=.ok x1 w/\(part 114 #[x0,x1,x2,x3] 2).run Tryz.prog w=.ok x2 w/\(part 114 #[x0,x1,x2,x3] 3).run Tryz.prog w=.ok x3 w:=
 ⟨by kernel_rfl,by kernel_rfl,by kernel_rfl,by kernel_rfl⟩
theorem adF(x y:Kl)(w:World):(Op.equalIn 10000 116 (.agg #[.int .u64 (x.a:Nat),.int .u64 (x.b:Nat),.int .u64 (x.c:Nat),.int .u64 (x.d:Nat)]) (.agg #[.int .u64 (y.a:Nat),.int .u64 (y.b:Nat),.int .u64 (y.c:Nat),.int .u64 (y.d:Nat)])).run Tryz.prog w=.ok (decide (x=y)) w:=by
 obtain⟨i,hi⟩:=Y1;rw[<-abg,run_equalIn_array w 9999 _ _ Tryz.underlying116 hi,cells48];have px:=RN (.int .u64 (x.a:Nat)) (.int .u64 (x.b:Nat)) (.int .u64 (x.c:Nat)) (.int .u64 (x.d:Nat)) w;have py:=RN (.int .u64 (y.a:Nat)) (.int .u64 (y.b:Nat)) (.int .u64 (y.c:Nat)) (.int .u64 (y.d:Nat)) w;obtain⟨p0,p1,p2,p3⟩:=px;obtain⟨q0,q1,q2,q3⟩:=py;have hr:List.range 4=[0,1,2,3]:=rfl;have he:∀a b:Int,(Op.equalIn 9999 114 (.int .u64 a) (.int .u64 b)).run Tryz.prog w=.ok (a == b) w:=fun a b=>run_equalIn_int w 9998 114 .u64 .u64 a b Tryz.underlying114;rw[hr]
 cases h0:((x.a:Int) == (y.a:Int))<;>cases h1:((x.b:Int) == (y.b:Int))<;>cases h2:((x.c:Int) == (y.c:Int))<;>cases h3:((x.d:Int) == (y.d:Int)) <;>
  simp only[Op.eqItems,Sem.run_bind,aia,ait,ah5,p0,p1,p2,p3,q0,q1,q2,q3,Result.andThen_ok,he,h0,h1,h2,h3,Bool.not_false,Bool.not_true,ain,aiC,ahr,Sem.run_pure,Bool.and_true,aiw,ahM,Bool.false_and]
theorem zW(x:Kl)(w:World):(Op.equalIn 10000 116 (.agg #[.int .u64 (x.a:Nat),.int .u64 (x.b:Nat),.int .u64 (x.c:Nat),.int .u64 (x.d:Nat)]) (.agg #[.int .u64 0,.int .u64 0,.int .u64 0,.int .u64 0])).run Tryz.prog w=.ok x.isZ w:=by
 refine(adF x Kl.zero w).trans ?_
 congr 1
 rw[aif,Kl.tq];simp
theorem EM{k last:Int}: ∀{l:List Int} {t:Int},Up k last (l++[t])↔Up k last l/\(l.getLastD last)<t/\t<k
 | [],t=>by simp[Up]
 | x::l,t=>by
  simp only[ahs,Up];rw[EM (last:=x)]
  cases l with
  | nil=>simp[aiB]
  | cons y l=>simp[aiB,List.getLastD]
theorem VG{k last:Int}{l:List Int}(h:Up k last l):∀j,Up k last (l.take j):=by
 intro j
 induction l generalizing last j with
 | nil=>simp[Up]
 | cons x l ih =>
  cases j with
  | zero=>simp[Up]
  | succ j=>exact⟨h.1,h.2.1,ih h.2.2 j⟩
theorem JU{k:Int}: ∀{l:List Int} {last:Int},Up k last l->l=[]\/last+l.length<k
 | [],_,_ =>.inl rfl
 | x::l,last,h=>by
  obtain⟨h1,h2,h3⟩:=h;rcases JU h3 with rfl|h4
  ·right;simp;omega
  ·right;simp only[agl];omega
theorem RP(N:Nf)(ac an ar:Option Addr)(cc cn cr:Nat)(w:World)(h:uZ w N ac an ar):
  Calls Tryz.prog 61 #[nfV ac an ar N.cl.length N.nx.length N.ru.length cc cn cr] w fun e w'=>e=.returned (.int .i64 (ckN N))/\Below w.heap.size w w':=by
 unfold nfV;obtain⟨n,hn⟩:=afC N.cl.length;obtain⟨m,hm⟩:=afC N.nx.length;obtain⟨r,hr⟩:=afC N.ru.length;rw[<-hn,<-hm,<-hr]
 by_cases hbad:n<1\/1024<n\/m≠n\/r≠n
 ·have hc:ckN N=2:=afO (fun o=>by have:=o.one;have:=o.most;have:=o.nx;have:=o.ru;omega)
  rw[hc];clear hc hn hm hr h
  by_cases h1:n<1
  ·have:(n:Int)<1:=by omega
   go_enter Tryz.func61,Tryz.ntmps61
   go_wp2
   exact afJ (v:=.int .i64 2) (by simp[results,Tryz.results61,go_sem]) rfl ⟨rfl,(afI _ w).alloc afD _⟩
  by_cases h2:1024<n
  ·have:¬(n:Int)<1:=by omega
   have:(1024:Int)<(n:Int):=(by omega);go_enter Tryz.func61,Tryz.ntmps61
   go_wp2
   exact afJ (v:=.int .i64 2) (by simp[results,Tryz.results61,go_sem]) rfl ⟨rfl,(afI _ w).alloc afD _⟩
  have g1:¬(n:Int)<1:=by omega
  have g2:¬(1024:Int)<(n:Int):=by omega
  by_cases h3:m=n
  ·have h4:((r:Int) != (n:Int))=true:=by simp;omega
   subst h3;go_enter Tryz.func61,Tryz.ntmps61
   go_wp2
   exact afJ (v:=.int .i64 2) (by simp[results,Tryz.results61,go_sem]) rfl ⟨rfl,(afI _ w).alloc afD _⟩
  ·have h4:((m:Int) != (n:Int))=true:=by simp;omega
   go_enter Tryz.func61,Tryz.ntmps61
   go_wp2
   exact afJ (v:=.int .i64 2) (by simp[results,Tryz.results61,go_sem]) rfl ⟨rfl,(afI _ w).alloc afD _⟩
 ·have hm1:n=m:=by omega
  have hr1:n=r:=by omega
  have hn1:1<=n:=by omega
  have hn2:n<=1024:=by omega
  clear hbad;obtain⟨x,hx⟩:∃x,N.cl[0]?=some x:=⟨_,afE (by omega)⟩;have abh:N.cl≠[]:=fun e=>by rw[e]at hx;cases hx
  have abj:N.nx≠[]:=fun e=>by rw[e]at hm;simp at hm;omega
  have abk:N.ru≠[]:=fun e=>by rw[e]at hr;simp at hr;omega
  obtain⟨Bc,oc,rfl,hBc,hC⟩:=h.c abh;obtain⟨Bn,on,rfl,hBn,hN⟩:=h.n abj;obtain⟨Br,or',rfl,hBr,hR⟩:=h.r abk;have hx0:N.cl[0]'(by omega)=x:=by
   have:=afE (l:=N.cl) (i:=0) (by omega);rw[hx]at this;exact (agc this).symm
  obtain⟨c0,c1,c2,c3⟩:=hC 0 (by omega);rw[hx0]at c0 c1 c2 c3;simp only[aia,agV]at c0 c1 c2 c3;have hhead:N.cl.head?=some x:=by rw[List.head?_eq_getElem?];exact hx
  have hb0:Below w.heap.size w (w.alloc (.cells #[.slice (some ⟨Bc,oc,none⟩) n cc,.slice (some ⟨Bn,on,none⟩) n cn,.slice (some ⟨Br,or',none⟩) n cr] 74)):=(afI _ w).alloc afD _;have d0:=(hb0.cell (p:=⟨Bc,oc,none⟩) hBc).trans c0;have d1:=(hb0.cell (p:=⟨Bc,oc+1,none⟩) hBc).trans c1;have d2:=(hb0.cell (p:=⟨Bc,oc+2,none⟩) hBc).trans c2;have d3:=(hb0.cell (p:=⟨Bc,oc+3,none⟩) hBc).trans c3;have he:=fun w=>zW x w;obtain⟨z,hz⟩:=afC x.isZ;rw[<-hz]at he;have g1:¬(n:Int)<1:=by omega
  have g2:¬(1024:Int)<(n:Int):=by omega
  have g3:(0:Int)<(n:Int):=by omega
  have HN:=hid hn;have HM:=hid hm;have HRl:=hid hr;have HH:=hid hhead;have HZ:=hid hz;subst hm1;subst hr1;clear c0 c1 c2 c3 hC hx hx0 hhead abh abj abk hn hm hr hz h
  cases z with
  | false =>
   have hc:ckN N=2:=afO (fun o=>by
    have:=o.zero;rw[HH.out]at this;have e:x=Kl.zero:=agc this;have h1:=(Kl.tq x).2 e;rw[<-HZ.out]at h1
    cases h1)
   rw[hc];clear hc;go_enter Tryz.func61,Tryz.ntmps61
   go_wp2
   exact afJ (v:=.int .i64 2) (by simp[results,Tryz.results61,go_sem]) rfl ⟨rfl,hb0⟩
  | true =>
   have hz0:N.cl.head?=some Kl.zero:=(by rw[HH.out,(Kl.tq x).1 HZ.out.symm]);have HZ0:=hid hz0;clear hz0 HZ HH;go_enter Tryz.func61,Tryz.ntmps61
   go_upto_region 4 with (fail)
   obtain⟨wo,hwo⟩:=afC (w.alloc (.cells #[.slice (some ⟨Bc,oc,none⟩) n cc,.slice (some ⟨Bn,on,none⟩) n cn,.slice (some ⟨Br,or',none⟩) n cr] 74));rw[<-hwo]at hb0⊢;obtain⟨U,hU⟩:=afC w.heap.size;have u1:wo.cell? ⟨U,1,none⟩=some (.slice (some ⟨Bn,on,none⟩) n cn):=(by rw[hwo,hU];simp);have u2:wo.cell? ⟨U,2,none⟩=some (.slice (some ⟨Br,or',none⟩) n cr):=(by rw[hwo,hU];simp);rw[<-hU];have hB:Hid (Below w.heap.size w wo):=hid hb0;have hNw:∀(j:Nat)(l:List Int),N.nx[j]?=some l->∃la c,wo.cell? ⟨Bn,on+j,none⟩=some (.slice la l.length c)/\aH wo la l:=fun j l hl=>by
    obtain⟨hj,rfl⟩:=afW.1 hl;obtain⟨la,c,e1,e2⟩:=hN j hj;exact⟨la,c,(hb0.cell (p:=⟨Bn,on+j,none⟩) hBn).trans e1,e2.below hb0 afD⟩
   have hRw:∀(j:Nat)(q:Int),N.ru[j]?=some q->wo.cell? ⟨Br,or'+j,none⟩=some (.int .i64 q):=fun j q hl=>by
    obtain⟨hj,rfl⟩:=afW.1 hl;exact(hb0.cell (p:=⟨Br,or'+j,none⟩) hBr).trans (hR j hj)
   clear hb0 d0 d1 d2 d3 hN hR he hU hwo;have HNw:=hid hNw;have HRw:=hid hRw;clear hNw hRw;go_wp2_with fail
   go_loopw [43] (fun i wr=>∃k:Nat,k<=n/\i=.int .i64 k/\Hid (∀j,j<k->(∀l,N.nx[j]?=some l->Up n 0 l)/\∀q,N.ru[j]?=some q -> -1<=q/\q<16)/\wr=wo)
    (fun i _=>n-(RowKit.intOf i).toNat)
   case atStart=>exact⟨0,af0 _,rfl,hid (fun j hj=>absurd hj (agp _)),rfl⟩
   case round =>
    obtain⟨k,hk,rfl,HK,rfl⟩:=hrel
    by_cases hkl:k<n
    ·obtain⟨l,hl⟩:∃l,N.nx[k]?=some l:=⟨_,afE (by rw[<-HM.out];exact hkl)⟩
     obtain⟨q,hq⟩:∃q,N.ru[k]?=some q:=⟨_,afE (by rw[<-HRl.out];exact hkl)⟩;obtain⟨la,c,e1,e2⟩:=HNw.out k l hl;have e3:=HRw.out k q hq;have HL:=hid hl;have HQ:=hid hq;have hk0:(0:Int)<=(k:Int):=(by omega);have hk1:(k:Int)<(n:Int):=(by omega);have hkt:(k:Int).toNat=k:=(by omega);clear hl hq;go_wp2_with fail
     obtain⟨wp,hwp⟩:=afC wr;have HWP:=hid hwp;clear hwp;go_loopw [6,50] (fun t6 t50 wx=>∃j:Nat,j<=l.length/\t50=.int .i64 j/\t6=.int .i64 ((l.take j).getLastD 0)/\Hid (Up n 0 (l.take j))/\wx=wp)
      (fun _ t50 _=>l.length-(RowKit.intOf t50).toNat)
     case atStart=>exact⟨0,af0 _,rfl,rfl,hid trivial,HWP.out.symm⟩
     case round =>
      obtain⟨j,hj,rfl,rfl,HU,rfl⟩:=hrel;have ew:wr=_:=HWP.out;subst ew;have adG:j<=1024:=by
       have e:(l.take j).length=j:=(by rw[agZ];omega);rcases JU HU.out with h|h
       ·rw[h]at e
        have e:0=j:=e;omega
       ·rw[e]at h
        omega
      by_cases hjl:j<l.length
      ·obtain⟨Bl,ol,rfl,hBl,hLc⟩:=e2 (by intro e;rw[e]at hjl;simp at hjl)
       have d0:=hLc j hjl;obtain⟨t,ht⟩:=afC (l[j]);rw[<-ht]at d0;have HTJ:Hid (l.take (j+1)=l.take j++[t]):=hid (by rw[agy hjl,ht]);have hj0:(0:Int)<=(j:Int):=(by omega);have hj1:(j:Int)<(l.length:Int):=(by omega);have hjt:(j:Int).toNat=j:=(by omega);obtain⟨la',Y2⟩:∃x,x=(l.take j).getLastD 0:=⟨_,rfl⟩;rw[<-Y2];have HLA:=hid Y2;clear ht hLc Y2
       by_cases hbad:t<=la'\/(n:Int)<=t
       ·have hc:ckN N=2:=afO (fun o=>by
         have h1:=o.up l (af7 HL.out);rw[<-HN.out]at h1;have h2:=VG h1 (j+1);rw[HTJ.out,EM,<-HLA.out]at h2;omega)
        have HC:=hid hc;have HB2:=hB.out;clear hc
        by_cases hb1:t<=la'
        ·go_wp2_with fail
         exact afJ (v:=.int .i64 2) (by simp[results,Tryz.results61,go_sem]) rfl ⟨by rw[HC.out],HB2⟩
        ·have hb2:(n:Int)<=t:=by omega
         go_wp2_with fail
         exact afJ (v:=.int .i64 2) (by simp[results,Tryz.results61,go_sem]) rfl ⟨by rw[HC.out],HB2⟩
       ·have hb1:¬t<=la':=by omega
        have hb2:¬(n:Int)<=t:=(by omega);have HU2:Hid (Up n 0 (l.take (j+1))):=hid (by
         rw[HTJ.out,EM,<-HLA.out];exact⟨HU.out,by omega,by omega⟩)
        have HG:Hid ((l.take (j+1)).getLastD 0=t):=hid (by rw[HTJ.out];simp);clear hbad;go_wp2_with fail
        exact⟨⟨j+1,by omega,by simp,by rw[HG.out],HU2,trivial⟩,by simp[RowKit.intOf];omega⟩
      ·obtain rfl:j=l.length:=by omega
       rw[agK]at HU;have hl1:¬(l.length:Int)<(l.length:Int):=(by omega);have hbl:∀a:Int,a < -1->(a < -1)=True:=fun a h=>by simp[h]
       by_cases hbad:q < -1\/16<=q
       ·have hc:ckN N=2:=afO (fun o=>by
         have h1:=o.rule q (af7 HQ.out);omega)
        have HC:=hid hc;have HB2:=hB.out;clear hc
        by_cases hb1:q < -1
        ·go_wp2_with fail
         exact afJ (v:=.int .i64 2) (by simp[results,Tryz.results61,go_sem]) rfl ⟨by rw[HC.out],HB2⟩
        ·have hb2:16<=q:=by omega
         go_wp2_with fail
         exact afJ (v:=.int .i64 2) (by simp[results,Tryz.results61,go_sem]) rfl ⟨by rw[HC.out],HB2⟩
       ·have hb1:¬q < -1:=by omega
        have hb2:¬ 16<=q:=(by omega);have HK2:Hid (∀j,j<k+1->(∀l,N.nx[j]?=some l->Up n 0 l)/\∀q,N.ru[j]?=some q -> -1<=q/\q<16):=hid (fun j hj=>by
         by_cases hjk:j<k
         ·exact HK.out j hjk
         ·obtain rfl:j=k:=by omega
          refine⟨fun l' hl'=>?_,fun q' hq'=>?_⟩
          ·rw[HL.out]at hl'
           cases hl'
           exact HU.out
          ·rw[HQ.out]at hq'
           cases hq'
           exact⟨by omega,by omega⟩)
        clear hbad hbl;go_wp2_with fail
        exact⟨⟨k+1,by omega,by simp,HK2,trivial⟩,by simp[RowKit.intOf];omega⟩
    ·obtain rfl:k=n:=by omega
     have hc:ckN N=0:=afR ⟨by rw[<-HN.out];exact hn1,by rw[<-HN.out];exact hn2,by rw[<-HN.out,<-HM.out],by rw[<-HN.out,<-HRl.out],HZ0.out,fun l hl=>by
      obtain⟨j,hj,rfl⟩:=ag5 hl;rw[<-HN.out];exact (HK.out j (by rw[HM.out];exact hj)).1 _ (afE hj),fun q hq=>by
      obtain⟨j,hj,rfl⟩:=ag5 hq;exact (HK.out j (by rw[HRl.out];exact hj)).2 _ (afE hj)⟩
     have HC:=hid hc;have HB2:=hB.out;clear hc;go_wp2_with fail
     exact afJ (v:=.int .i64 0) (by simp[results,Tryz.results61,go_sem]) rfl ⟨by rw[HC.out],HB2⟩
theorem J4(ru S:List Int)(k:Nat)(q:Int)(h:S[k]?=some q):(S.take (k+1)).foldl (ji ru) (-1)=ji ru ((S.take k).foldl (ji ru) (-1)) q:=by
 obtain⟨hk,rfl⟩:=afW.1 h;rw[agy hk,agI];rfl
theorem Sz(N:Nf)(ac an ar:Option Addr)(cc cn cr:Nat)(S:List Int)(hS:S.length<=1000000)(aS:Option Addr)(cs:Nat)(w:World)(h:uZ w N ac an ar)(hI:aH w aS S):
  Calls Tryz.prog 108 #[nfV ac an ar N.cl.length N.nx.length N.ru.length cc cn cr,.slice aS S.length cs] w fun e w'=>e=.returned (.int .i64 (lX N.ru S))/\Below w.heap.size w w':=by
 unfold nfV;obtain⟨wo,hwo⟩:=afC (w.alloc (.cells #[.slice ac N.cl.length cc,.slice an N.nx.length cn,.slice ar N.ru.length cr] 74));have hb0:Below w.heap.size w wo:=by rw[hwo];exact (afI _ w).alloc afD _
 obtain⟨U,hU⟩:=afC w.heap.size;have u2:wo.cell? ⟨U,2,none⟩=some (.slice ar N.ru.length cr):=by rw[hwo,hU];simp
 have hI':=hI.below hb0 afD;have hR':=h.r.below hb0 afD;have HW:=hid hwo;have HB:=hid hb0;have HU:=hid hU;obtain⟨m,hm⟩:=afC S.length;obtain⟨r,hr⟩:=afC N.ru.length;rw[<-hr]at u2;have HS:=hid hm;have HR:=hid hr;rw[<-hm,<-hr];rw[<-hm]at hS;clear hwo hb0 hU hI h hm hr;go_enter Tryz.func108,Tryz.ntmps108
 go_upto_region 1 with (fail)
 have e0:=HW.out;rw[<-HR.out]at e0;rw[<-e0,<-HU.out];clear e0;go_wp2_with fail
 go_loopw [5,11] (fun t5 i wr=>∃k:Nat,k<=m/\i=.int .i64 k/\t5=.int .i64 ((S.take k).foldl (ji N.ru) (-1))/\wr=wo)
  (fun _ i _=>m-(RowKit.intOf i).toNat)
 case atStart=>exact⟨0,af0 _,rfl,rfl,rfl⟩
 case round =>
  obtain⟨k,hk,rfl,rfl,rfl⟩:=hrel
  by_cases hkl:k<m
  ·obtain⟨q,hq⟩:∃q,S[k]?=some q:=⟨_,afE (by rw[<-HS.out];exact hkl)⟩
   obtain⟨Bs,os,rfl,hBs,hSc⟩:=hI' (by intro e;rw[e]at hq;cases hq);have hkS:k<S.length:=(by rw[<-HS.out];exact hkl);have d0:=hSc k hkS;have hqe:S[k]=q:=(by obtain⟨_,e⟩:=afW.1 hq;exact e);rw[hqe]at d0;have HF:=hid (J4 N.ru S k q hq);obtain⟨out,hout⟩:∃o,o=(S.take k).foldl (ji N.ru) (-1):=⟨_,rfl⟩;rw[<-hout]at HF⊢;have hk0:(0:Int)<=(k:Int):=(by omega);have hk1:(k:Int)<(m:Int):=(by omega);have hkt:(k:Int).toNat=k:=(by omega);clear hq hSc hqe hout
   by_cases hin:0<=q/\q<(r:Int)
   ·obtain⟨hq0,hq1⟩:=hin
    obtain⟨p,rfl⟩:∃p:Nat,q=(p:Int):=⟨q.toNat,by omega⟩;have hpr:p<N.ru.length:=(by rw[<-HR.out];omega);obtain⟨Br,or',rfl,hBr,hRc⟩:=hR' (by intro e;rw[e]at hpr;simp at hpr);have d1:=hRc p hpr;obtain⟨z,hz⟩:=afC (N.ru[p]);rw[<-hz]at d1;have hgd:N.ru.getD p (-1)=z:=(by rw[afG,afE hpr,hz];rfl);have HF2:Hid ((S.take (k+1)).foldl (ji N.ru) (-1)=if 0<=z/\(out<0\/z<out)then z else out):=hid (by
     rw[HF.out];unfold ji;rw[afR ⟨by omega,by omega⟩,afY,hgd])
    have n1:¬(p:Int)<0:=(by omega);have n2:¬(r:Int)<=(p:Int):=(by omega);have n3:(p:Int).toNat=p:=(by omega);clear hz hgd hRc hpr
    by_cases z0:0<=z
    ·by_cases o0:out<0
     ·have hv:=HF2.out
      rw[afR ⟨z0,.inl o0⟩]at hv;have HV:=hid hv;clear hv;go_wp2_with fail
      exact⟨⟨k+1,by omega,by simp,by rw[HV.out],trivial⟩,by simp[RowKit.intOf];omega⟩
     ·by_cases zo:z<out
      ·have hv:=HF2.out
       rw[afR ⟨z0,.inr zo⟩]at hv;have HV:=hid hv;clear hv;go_wp2_with fail
       exact⟨⟨k+1,by omega,by simp,by rw[HV.out],trivial⟩,by simp[RowKit.intOf];omega⟩
      ·have hv:=HF2.out
       rw[afO (by omega)]at hv;have HV:=hid hv;clear hv;go_wp2_with fail
       exact⟨⟨k+1,by omega,by simp,by rw[HV.out],trivial⟩,by simp[RowKit.intOf];omega⟩
    ·have hv:=HF2.out
     rw[afO (by omega)]at hv;have HV:=hid hv;clear hv;go_wp2_with fail
     exact⟨⟨k+1,by omega,by simp,by rw[HV.out],trivial⟩,by simp[RowKit.intOf];omega⟩
   ·have hv:=HF.out
    unfold ji at hv;rw[afO (by rw[<-HR.out];exact hin)]at hv;have HV:Hid ((S.take (k+1)).foldl (ji N.ru) (-1)=out):=hid hv;clear hv HF
    by_cases hq0:q<0
    ·clear hin
     go_wp2_with fail
     exact⟨⟨k+1,by omega,by simp,by rw[HV.out],trivial⟩,by simp[RowKit.intOf];omega⟩
    ·have hq1:(r:Int)<=q:=by omega
     clear hin;go_wp2_with fail
     exact⟨⟨k+1,by omega,by simp,by rw[HV.out],trivial⟩,by simp[RowKit.intOf];omega⟩
  ·obtain rfl:k=m:=by omega
   have hv:(S.take k).foldl (ji N.ru) (-1)=lX N.ru S:=(by rw[HS.out,agK];rfl);rw[hv];have HB2:=HB.out;clear hv;go_wp2_with fail
   go_ret
   exact⟨rfl,HB2⟩
end
section
open Go Go.Proofs Go.RowKit
attribute [local go_sem] Oper.semAt_some
theorem rD{N:Nf}(o:yN N){ac an ar:Option Addr}{cc cn cr:Nat}{w:World}(h:uZ w N ac an ar):Calls Tryz.prog 61 #[.agg #[.slice ac N.cl.length cc,.slice an N.nx.length cn,.slice ar N.ru.length cr]] w fun e w'=>e=.returned (.int .i64 0)/\Below w.heap.size w w':=by
 have:=RP N ac an ar cc cn cr w h;rw[show ckN N=0 from afR o]at this;exact this
theorem RS(N:Nf)(o:yN N)(ac an ar:Option Addr)(cc cn cr:Nat)(S:List Int)(hS:S.length<=1000000)(aS:Option Addr)(cs:Nat)(w:World)(h:uZ w N ac an ar)(hI:aH w aS S):
  Calls Tryz.prog 64 #[.agg #[.slice ac N.cl.length cc,.slice an N.nx.length cn,.slice ar N.ru.length cr],.slice aS S.length cs] w fun e w'=>e=.returned (.int .i64 (lX N.ru S))/\Below w.heap.size w w':=by
 have hb0:Below w.heap.size w (w.alloc (.cells #[.slice ac N.cl.length cc,.slice an N.nx.length cn,.slice ar N.ru.length cr] 74)):=(afI _ w).alloc afD _;have hck:=rD o (cc:=cc) (cn:=cn) (cr:=cr) (h.below hb0 afD);have hrl:=fun W (hb:Below w.heap.size w W)=>Sz N ac an ar cc cn cr S hS aS cs W (h.below hb afD) (hI.below hb afD);unfold nfV at hrl;have g0:∀(W:World)(j:Nat)(v:Value),Below (w.alloc (.cells #[.slice ac N.cl.length cc,.slice an N.nx.length cn,.slice ar N.ru.length cr] 74)).heap.size (w.alloc (.cells #[.slice ac N.cl.length cc,.slice an N.nx.length cn,.slice ar N.ru.length cr] 74)) W->(#[Value.slice ac N.cl.length cc,.slice an N.nx.length cn,.slice ar N.ru.length cr])[j]?=some v->W.cell? ⟨w.heap.size,j,none⟩=some v:=fun W j v hb hv=>(hb.cell (p:=⟨w.heap.size,j,none⟩) (by simp)).trans (by simp[hv]);go_enter Tryz.func64,Tryz.ntmps64
 go_wp2_with (first
  | (go_at_call 61;(with_reducible refine hck.mono ?_);rintro e W1 ⟨rfl,hb1⟩;have e0:=g0 W1 0 _ hb1 rfl;have e1:=g0 W1 1 _ hb1 rfl;have e2:=g0 W1 2 _ hb1 rfl;have hb2:=hb0.trans (hb1.mono (by simp)))
  | (go_at_call 108;(with_reducible refine(hrl _ hb2).mono ?_);rintro e W3 ⟨rfl,hb3⟩))
 go_ret
 exact⟨rfl,hb2.trans (hb3.mono hb2.size)⟩
def jJ(S:List Int):List UInt8:=S.flatMap fun k=>[UInt8.ofNat (k / 256 % 256).toNat,UInt8.ofNat (k % 256).toNat]
theorem Zf:(Tryz.prog.info? 5).map (fun i=>(i.zero,i.size,i.bytes))=some (some (.int .u8 0),1,1):=by kernel_rfl
def Ou(W:World)(base:Nat)(v:Value)(l:List UInt8):Prop:=W.ownsRow base 5 1 v l.length (l.map fun b=>Value.int .u8 (b.toNat:Int))
theorem H9{ops:Array Oper}{rest:List Oper}{o:Oper}{a:Act}{Q:Exit->Act->World->Prop}(W:World)(base:Nat)(v:Value)(pre:List UInt8)(x y:UInt8)(hgd:o.guard=none)(s z:Operand)
  (ho:o.op=.call {callee:=.builtin .append,args:=#[s,z],argTypes:=#[106,106]}) (hs:a.eval s=v) (hown:Ou W base v pre) (B c:Nat) (hx:a.eval z=.slice (some ⟨B,0,none⟩) 2 c)
  (hc0:W.cell? ⟨B,0,none⟩=some (.int .u8 (x.toNat:Int))) (hc1:W.cell? ⟨B,1,none⟩=some (.int .u8 (y.toNat:Int))) (hl:pre.length<=10000000) (hb:base<=W.heap.size)
  (h:∀v' w',Ou w' base v' (pre++[x,y])->W.grownBy w' v.ownBlock->wpList Tryz.prog ops Q rest (a.put o.dst v') w'):wpList Tryz.prog ops Q (o::rest) a W:=by
 obtain⟨ti,hi,hz0,hz1,hz2⟩:=info_parts Zf;refine wpList_append_own_at (P:=Tryz.prog) (w:=W) hgd s z 106 ho base 5 ti (.int .u8 0) 1 1 Tryz.underlying106 hi hz0 hz1 hz2 rfl (by decide) v pre.length _ hs hown ⟨B,0,none⟩ 2 c [.int .u8 (x.toNat:Int),.int .u8 (y.toNat:Int)] hx rfl
  (fun j u hj=>by
   rcases j with _|_|j
   ·simp at hj;subst hj;exact hc0
   ·simp at hj;subst hj;exact hc1
   ·simp at hj) (fun u hu=>by
   rcases afX.1 hu with rfl|hu
   ·rfl
   ·rw[afK.1 hu];rfl) (by unfold maxLen;omega) (by omega) hb ?_
 intro v' w' h1 h2 _ h4;refine h v' w' ?_ h2;unfold Ou;rw[afP,agt];exact h1
end
end Go.Proofs.YtkjgogdkdejljaaGreatDoor.Df
namespace Go.Proofs.YtkjgogdkdejljaaGreatDoor.AX
open Go Go.ChangeShapes Go.WideShapes Go.ChangeAt Go.RowKit
section
variable {P : Program} {w : World}
theorem Kept.frame{W W':World}(h:Kept W W')(may:MemPlace->Prop):W.keptBut W' may:=by
 refine⟨h.os,h.out,fun i hi=>?_⟩;rw[h.block i W.heap[i] (agD hi),agD hi];split<;>simp_all
theorem Kept.frozen{W W':World}(h:Kept W W'){b:Nat}(off:Nat)(hb:b<W.heap.size):W'.frozen? ⟨b,off,none⟩=W.frozen? ⟨b,off,none⟩:=by
 have:=h.block b W.heap[b] (agD hb);unfold World.frozen?;simp only[this,agD hb]
theorem D6{H:Type}{enc:TypeId×Value->H}{P:Program}{f:Func}{s:ChangeSpec}{apart fresh handsOn again:Bool}{W W':World}{args:Array Value}{v:Value}{ds gs:List (DataW H)}{before pa pv:List MemPlace}
  (hW:DataW.Whole enc P f.params.toList s.vars apart W args.toList ds gs before)
  (hres:∀(b:Nat)(sp:Nat->Bool)(hd:Bool),DataW.TrodAll enc P W' b sp hd f.resultTypes.toList (v.resultList f.resultTypes.size) (s.fn H (ds++gs)).results [])
  (hargs:∀sp:Nat->Bool,(∀p∈before,sp p.block=true)->DataW.TrodAll enc P W' 0 sp true f.params.toList args.toList (s.fn H (ds++gs)).args pa)
  (hvars:∀sp:Nat->Bool,(∀p∈before,sp p.block=true)->DataW.TrodVars enc P W' sp s.vars (s.fn H (ds++gs)).vars pv)
  (hps:before=pa++pv) (hk:Kept W W')
  (hok:∀(j:Nat)(t:TypeId)(r:Value),f.resultTypes[j]?=some t->(v.resultList f.resultTypes.size)[j]?=some r->Value.okWide P W' .any 0 t r):
  s.post enc P f apart fresh handsOn again W args v W':=by
 have hlt:∀p∈before,p.block<W.heap.size:=fun p hp=>hW.lt p hp;have hold:∀p∈before,(fun b=>decide (b<W.heap.size)) p.block=true:=fun p hp=>by simpa using hlt p hp
 refine⟨ds,gs,before,[],pa,pv,hW,hres _ _ _,hargs _ hold,hvars _ hold,World.keptBut_mono (fun p hp=>⟨hp,?_⟩) (hk.frame (·∈before)),fun _=>?_⟩
 ·rw[hps,af2]at hp
  exact Or.inr hp
 ·obtain⟨_,_,_,_,_,hz,hn⟩:=hW
  refine⟨hok,_,_,([]++pa)++pv,⟨[]++pa,pv,trodAll_append (hargs _ (fun _ _=>rfl)) (hres _ _ _),hvars _ (fun _ _=>rfl),rfl,?_,?_⟩,?_⟩
  ·intro b off hp
   have hp:MemPlace.cell b off∈before:=(by rw[hps];simpa using hp);rw[hk.frozen off (show b<W.heap.size from hlt _ hp)];exact hz b off hp
  ·intro ha
   have:=hn ha;rw[hps]at this
   simpa using this
  ·intro p hp _
   rw[hps]
   simpa using hp
def yC(W:World)(g:Nat)(k:IntKind)(ns:List Int):Prop:=∃cs e fz,W.heap[g]?=some (.cells cs e fz)/\cs.toList=ns.map fun n=>Value.int k n
theorem yD{P:Program}{W:World}{name:String}{g n:Nat}{t e:TypeId}{k:IntKind}{ns:List Int}(hg:P.globalNamed name=some g)(ht:(P.globals[g]?).map (·.type)=some t)
  (harr:P.underlying t=some (.array n e)) (he:P.underlying e=some (.int k)) (hc:P.cellsOf e=1) (hct:P.cellsOf t=n) {l:List (String×DataW Unit)} {ps:List MemPlace}
  (h:DataW.LaidVars P W ((name,.agg (ns.map fun n =>.lit (.int k n)))::l) ps):yC W g k ns:=by
 obtain⟨g0,t0,cs0,f0,p0,q0,hg0,ht0,hv0,hd0,_⟩:=h;obtain rfl:=agc (hg.symm.trans hg0);obtain rfl:=agc (ht.symm.trans ht0);obtain⟨xs,m,rfl,hx,hlen,hxn,hel⟩:=DataW.trod_array harr hd0;simp only[Prod.mk.injEq,DataW.agg.injEq]at hx;have hheap:∃e fz,W.heap[g]?=some (.cells cs0 e fz):=by
  simp only[World.var?,hg0,Option.bind_some]at hv0;split at hv0
  ·rename_i c1 e1 fz1 hh
   cases hv0
   exact⟨_,_,hh⟩
  ·cases hv0
 obtain⟨e1,fz1,hh⟩:=hheap;refine⟨cs0,e1,fz1,hh,agJ fun i=>?_⟩;have hnl:ns.length=n:=by
  have:=ag3 List.length hx.1;simp only[agf]at this;omega
 by_cases hi:i<n
 ·have h1:=hel i hi
  rw[hc,ah5]at h1;have hxi:xs[i]?=some (xs[i]'(by omega)):=afE (by omega);rw[hxi]at h1;obtain⟨r,e2,e3,_⟩:=DataW.trod_int he h1;have h4:(xs.map (·.1))[i]?=some (DataW.lit (.int k r)):=by rw[af8,hxi];simp[e3]
  rw[<-hx.1,af8]at h4;have h5:cs0.toList[i]?=some (Value.int k r):=by
   have:=ag3 (fun l:List Value=>l[0]?) e2
   simpa using this
  rw[h5,af8]
  cases hn:ns[i]? with
  | none=>rw[hn]at h4;cases h4
  | some y =>
   rw[hn]at h4;simp at h4;simp[h4]
 ·rw[af5 (by omega),af5 (by simp;omega)]
def okI(n:Int):Bool:=leI (-9223372036854775808) n && leI n 9223372036854775807
theorem insert_perm{H:Type}(x:Lit×DataW H):∀l,(DataW.insert x l).Perm (x::l)
 | [] =>.refl _
 | y::r=>by
  unfold DataW.insert;split
  ·exact .refl _
  ·exact ((insert_perm x r).cons y).trans (.swap ..)
theorem iL{H:Type}: ∀l:List (Lit×DataW H),(l.foldr DataW.insert []).Perm l
 | [] =>.refl _
 | x::l=>(insert_perm x _).trans ((iL l).cons x)
theorem O8{k:TypeId}(hk:P.underlying k=some (.int .i64)){b:Nat}{ms:Array MapEntry}{clk:Nat}{ks:List Int}(hb:w.heap[b]?=some (.map ms clk))(hks:ms.toList.map (·.key)=ks.map (Value.int .i64))(h1:∀x∈ks,okI x=true)(h2:ks.Nodup)
  (h3:(ms.toList.map (·.born)).Nodup) (h4:∀x∈ms.toList,x.born<clk) (h5:ks.length<=1000000):
  ∃D:DataW Unit,w.ownsMap P k (fun _=>some (.nil,[])) b ks.length D/\(intKeys D).Perm ks/\Maps.size D=ks.length:=by
 have hlen:ms.size=ks.length:=by have:=ag3 List.length hks;simpa using this
 have hkey:∀x∈ms.toList,∃n∈ks,x.key=.int .i64 n:=fun x hx=>by
  have:x.key∈ms.toList.map (·.key):=ahj hx;rw[hks,agv]at this;obtain⟨n,hn,e⟩:=this;exact⟨n,hn,e.symm⟩
 have hwf:∀n∈ks,(Lit.int .i64 n).wf=true:=fun n hn=>by
  have:=h1 n hn;simp only[okI,afU,AX.O7,afZ]at this;simp[Lit.wf,IntKind.min,IntKind.max,IntKind.signed,IntKind.bits];omega
 have hrd:∀x∈ms.toList,∀n,x.key=.int .i64 n->WideElems.rd (H:=Unit) P k (fun _=>some (.nil,[])) x=some (.int .i64 n,.nil):=fun x hx n hn=>by
  obtain⟨n',hn',e⟩:=hkey x hx;rw[hn]at e
  cases e
  simp[WideElems.rd,keyOf,hk,mapKey,hn,hwf n hn']
 have hrg:ms.toList.map (WideElems.rg (H:=Unit) P k (fun _=>some (.nil,[])))=ks.map fun n=>(Lit.int .i64 n,DataW.nil):=by
  have:∀(l:List MapEntry)(zs:List Int),(∀x∈l,x∈ms.toList)->l.map (·.key)=zs.map (Value.int .i64)->l.map (WideElems.rg (H:=Unit) P k (fun _=>some (.nil,[])))=zs.map fun n=>(Lit.int .i64 n,DataW.nil):=by
   intro l
   induction l with
   | nil=>intro zs _ h;cases zs with
    | nil=>rfl
    | cons _ _=>cases h
   | cons x l ih=>intro zs hm h;cases zs with
    | nil=>cases h
    | cons z zs =>
     simp only[agd,List.cons.injEq]at h⊢;exact⟨WideElems.rg_of (hrd x (hm x (by simp)) z h.1),ih zs (fun y hy=>hm y (by simp[hy])) h.2⟩
  exact this _ _ (fun _ h=>h) hks
 refine⟨_,⟨ms,clk,hb,⟨by unfold maxLen;omega,⟨h4,h3,?_⟩,fun x hx=>?_⟩,by omega,rfl⟩,?_,?_⟩
 ·rw[hks]
  exact ahb.2 (h2.imp fun hne e=>hne (by simpa using e))
 ·obtain⟨n,_,e⟩:=hkey x hx
  exact⟨_,hrd x hx n e⟩
 ·rw[hrg]
  have:=(iL (ks.map fun n=>(Lit.int .i64 n,(DataW.nil:DataW Unit)))).map fun p=>Go.intOf p.1;refine this.trans ?_;rw[List.map_map];have:((fun p:Lit×DataW Unit=>Go.intOf p.1) ∘ fun n=>(Lit.int .i64 n,DataW.nil))=(id:Int->Int):=rfl;rw[this,List.map_id]
 ·rw[hrg]
  have:=(iL (ks.map fun n=>(Lit.int .i64 n,(DataW.nil:DataW Unit)))).length_eq
  simpa[Maps.size]using this
end
end Go.Proofs.YtkjgogdkdejljaaGreatDoor.AX
