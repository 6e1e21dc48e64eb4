import Derived.Test.YtkjgogdkdejljaaGreatDoorRxW5
import Derived.OrdersIn
namespace Go.Proofs.YtkjgogdkdejljaaGreatDoor.Rx
open Go.Lib (hid)
open Go Go.Proofs Go.RowKit
attribute [local go_sem] Oper.semAt_some
theorem ug(k:Int):gM k≤512:=by unfold gM;split<;>(try split)<;>(try split)<;>omega
theorem wM(c:Nat):∀ r:List Nd,(∀ x∈r,x.kids.length≤c)→(aW r).length≤r.length*c
 | [],_=>by simp[aW]
 | x::r,h=>by
  have h1:=wM c r (fun y hy=>h y (List.mem_cons_of_mem _ hy))
  have h2:=h x (List.mem_cons_self ..)
  rw[fO,List.length_append,List.length_cons,Nat.add_mul,Nat.one_mul]
  omega
set_option maxRecDepth 100000 in
set_option maxHeartbeats 8000000 in
theorem iQ(r:List Nd)(v:Value)(hl:r.length≤1000000)(w:World)(hR:iB w v r) :
  Calls Tryz.prog 55 #[v] w fun e w'=>e = .returned (.int .i64 (dH r))∧Below w.heap.size w w':=by
 obtain⟨la,c,rfl,h1,h2⟩:=hR
 by_cases hs:r.length<1∨512<r.length
 ·have HC:Hid (dH r=2):=hid (if_neg (fun h=>by have:=h.one;have:=h.most;omega))
  have hb:(r.length<1∧¬ 512<r.length)∨512<r.length:=by omega
  generalize dH r=cv at *
  rcases hb with ⟨h0,Yk⟩ | Yk
  ·go_enter Tryz.func55,Tryz.ntmps55
   go_wp2
   exact bodyPost_ret (v := .int .i64 2) (by simp[results,Tryz.results55,go_sem]) rfl ⟨by rw[HC.out],Below.refl _ _⟩
  ·go_enter Tryz.func55,Tryz.ntmps55
   go_wp2
   exact bodyPost_ret (v := .int .i64 2) (by simp[results,Tryz.results55,go_sem]) rfl ⟨by rw[HC.out],Below.refl _ _⟩
 have hn1:1≤r.length:=by omega
 have hn2:r.length≤512:=by omega
 clear hs hl
 cases la with
 | none=>have:=h1 rfl;subst this;simp at hn1
 | some ad =>
 obtain⟨B,off,rfl,hBl,hX⟩:=h2 _ rfl (by intro e;rw[e] at hn1;simp at hn1)
 clear h1 h2
 obtain⟨n,hn⟩:∃ n,n=r.length:=⟨_,rfl⟩
 rw[←hn] at hn1 hn2 ⊢
 have HNn:=hid hn
 clear hn
 have hnot:∀ k x,r[k]?=some x→¬gH k x→Hid (dH r=2):=fun k x hx hno=>hid (if_neg (fun h=>hno (h.nd k x hx)))
 obtain⟨W0,hmk,hU0,hB0,hS0⟩:=Oj n (by omega) w
 obtain⟨U,hU⟩:∃ U,U=w.heap.size:=⟨_,rfl⟩
 rw[←hU] at hmk hU0 hB0 hBl
 have HU:=hid hU
 clear hU
 have VN:aW (r.take 0) = []:=by simp[aW]
 generalize hcv:dH r=cv at *
 have HCV:=hid hcv
 clear hcv
 go_enter Tryz.func55,Tryz.ntmps55
 go_wp2
 go_loopw [24] (fun i wr=>∃ k:Nat,k≤n∧i = .int .i64 k∧aJ wr U (gQ n (aW (r.take k)))∧Hid (∀ i x,i<k→r[i]?=some x→gH i x)∧Below U w wr)
  (fun i _=>n-(intOf i).toNat)
 case atStart=>exact⟨0,Nat.zero_le _,rfl,by rw[VN];exact hU0,hid (fun i x h=>by omega),hB0⟩
 case round =>
  obtain⟨k,hk',rfl,hUr,hnd,hB⟩:=hrel
  by_cases hlt:k<n
  ·obtain⟨x,hx⟩:∃ x,r[k]?=some x:=⟨_,List.getElem?_eq_getElem (by rw[←HNn.out];exact hlt)⟩
   obtain⟨c0,c1,c2,c3,c4,kv,c5,hIR⟩:=hX k x hx
   replace c0:=(hB.cell (p:=⟨B,off+k*6,none⟩) hBl).trans c0
   replace c1:=(hB.cell (p:=⟨B,off+k*6+1,none⟩) hBl).trans c1
   replace c2:=(hB.cell (p:=⟨B,off+k*6+2,none⟩) hBl).trans c2
   replace c3:=(hB.cell (p:=⟨B,off+k*6+3,none⟩) hBl).trans c3
   replace c4:=(hB.cell (p:=⟨B,off+k*6+4,none⟩) hBl).trans c4
   replace c5:=(hB.cell (p:=⟨B,off+k*6+5,none⟩) hBl).trans c5
   obtain⟨lk,ck,rfl,hK1,hK2⟩:=hIR
   have hk0:(0:Int)≤(k:Int):=by omega
   have hk1:(k:Int)<(n:Int):=by omega
   have hBw:B<wr.heap.size:=by have:=hB.size;have:=HU.out;omega
   have HT:=hid (sH r k x hx)
   have HNO:=hid (hnot k x hx)
   have HX:=hid hx
   have hneq:=Oi x.a x.b x.c x.d
   clear hx hnot
   by_cases hho:LA x
   ·obtain⟨g1,p3,p4,p5⟩:=hho
    have har:=FX x.k
    rw[show wC x.k=true by simp[wC,g1]] at har
    have HHO:Hid (gH k x↔∀ q∈x.kids,0≤q∧q<(k:Int)):=hid ⟨fun h=>h.kids,fun h=>⟨g1,p3,p4,p5,h⟩⟩
    have q3:¬(x.kids.length:Int)<kY x.k:=by omega
    have q4:¬gM x.k<(x.kids.length:Int):=by omega
    have hz:x.k=2∨(¬x.k=2∧(!decide (x.a=0∧x.b=0∧x.c=0∧x.d=0))=false):=by
     by_cases h:x.k=2
     ·exact .inl h
     ·exact .inr ⟨h,by rw[decide_eq_true (p5 h)];rfl⟩
    have HCB:Hid ((aW (r.take k)).length≤512000000):=hid (by
     have h1:=wM 512 (r.take k) (fun y hy=>by
      obtain⟨i,hi⟩:=List.getElem?_of_mem hy
      rw[List.getElem?_take] at hi
      split at hi
      ·rename_i hik
       have:=(hnd.out i y hik hi).high
       have:=ug y.k
       omega
      ·cases hi)
     have h2:(r.take k).length≤512:=by rw[List.length_take];omega
     have h3:(r.take k).length*512≤512*512:=Nat.mul_le_mul_right _ h2
     omega)
    have hkl:x.kids.length≤512:=by have:=ug x.k;omega
    generalize x.k=xk at *
    generalize kY xk=lo at *
    generalize gM xk=hi at *
    clear p3 p4 g1 p5
    generalize (!decide (x.a=0∧x.b=0∧x.c=0∧x.d=0))=zb at *
    have HBR:Hid (∀ vs t,Below U w (wr.alloc (.cells vs t))):=hid (fun vs t=>hB.alloc (by have:=hB.size;have:=HU.out;omega) _)
    have HUR:Hid (∀ vs t,aJ (wr.alloc (.cells vs t)) U (gQ n (aW (r.take k)))):=hid (fun vs t=>hUr.below ((Below.refl _ wr).alloc Nat.le.refl _) hUr.lt)
    generalize aW (r.take k)=ks at *
    rcases hz with rfl | ⟨hk2,rfl⟩
    all_goals
     go_wp2_with (go_at_call 94;refine(har _).mono ?_;rintro e Wd ⟨rfl,rfl⟩)
     generalize hwa:wr.alloc (.cells _ 153)=wa
     have hBa:Below U w wa:=hwa ▸ HBR.out _ _
     have hUa:aJ wa U (gQ n ks):=hwa ▸ HUR.out _ _
     clear hwa
     go_loopw [66] (fun i wr=>∃ m:Nat,m≤x.kids.length∧i = .int .i64 m∧aJ wr U (gQ n (ks++x.kids.take m))∧Hid (∀ q∈x.kids.take m,0≤q∧q<(k:Int))∧Below U w wr)
      (fun i _=>x.kids.length-(intOf i).toNat)
     case atStart=>exact⟨0,Nat.zero_le _,rfl,by rw[List.take_zero,List.append_nil];exact hUa,hid (by simp),hBa⟩
     case round =>
      obtain⟨m,hm,rfl,hUi,hqs,hBi⟩:=hrel
      by_cases hml:m<x.kids.length
      ·obtain⟨q,hq⟩:∃ q,x.kids[m]?=some q:=⟨_,List.getElem?_eq_getElem hml⟩
       cases lk with
       | none=>exfalso;have:=hK1 rfl;rw[this] at hml;simp at hml
       | some ad =>
       obtain⟨B2,off2,rfl,hB2,hKc⟩:=hK2 _ rfl (by intro e;rw[e] at hml;simp at hml)
       have Yl:B2<U:=by rw[HU.out];exact hB2
       have d0:=(hBi.cell (p:=⟨B2,off2+m,none⟩) Yl).trans (hKc m q hq)
       have hm0:(0:Int)≤(m:Int):=by omega
       have hm1:(m:Int)<(x.kids.length:Int):=by omega
       have HTM:Hid (x.kids.take (m+1)=x.kids.take m++[q]):=hid (by rw[List.take_add_one,hq];rfl)
       have HQM:Hid (q∈x.kids):=hid (List.mem_of_getElem? hq)
       clear hq hKc hK1 hK2
       by_cases hqk:0≤q∧q<(k:Int)
       ·obtain⟨j,rfl⟩:∃ j:Nat,q=(j:Int):=⟨q.toNat,by omega⟩
        have hj:j<n:=by omega
        have hget:=kD n (ks++x.kids.take m) j hj
        have e0:=hUi.at j _ hget
        have fr:=hUi.frozen j
        have hj0:(j:Int).toNat=j:=by omega
        have hj1:(j:Int)<(n:Int):=by omega
        have hcb:(((ks++x.kids.take m).count (j:Int):Nat):Int)≤600000000:=by
         have h1:=List.count_le_length (a:=(j:Int)) (l:=ks++x.kids.take m)
         have h2:=HCB.out
         rw[List.length_append,List.length_take] at h1
         omega
        have Ym:=hid (Ih n (ks++x.kids.take m) j hj)
        have Yn:∀ cn:Int,Hid (aJ (wr.setCell ⟨U,j,none⟩ (.int .i64 cn)) U ((gQ n (ks++x.kids.take m)).set j cn)):=fun cn=>hid (hUi.set j cn)
        have HBS:∀ cn:Int,Hid (Below U w (wr.setCell ⟨U,j,none⟩ (.int .i64 cn))):=fun cn=>hid (hBi.setCell (p:=⟨U,j,none⟩) Nat.le.refl _)
        have HQK:=hid hqk
        have hq0:(0:Int)≤(j:Int):=by omega
        have hq1:(j:Int)<(k:Int):=hqk.2
        clear hget hqk
        generalize hcc:(((ks++x.kids.take m).count (j:Int):Nat):Int)=cc at *
        have hc0:0≤cc:=by omega
        clear hcc
        go_wp2
        go_roundw
        case rel =>
         refine⟨m+1,by omega,by simp,?_,hid ?_,(HBS _).out⟩
         ·rw[HTM.out,←List.append_assoc,←Ym.out];exact (Yn _).out
         ·rw[HTM.out];intro y hy;rcases List.mem_append.1 hy with hy | hy
          ·exact hqs.out y hy
          ·simp at hy;subst hy;exact HQK.out
        case measure=>simp[intOf];omega
       ·have HC2:Hid (cv=2):=hid ((HNO.out (fun h=>hqk (HHO.out.1 h q HQM.out))).out)
        have hqb:q<0∨(0≤q∧(k:Int)≤q):=by omega
        clear hqk
        have HBI:Hid (Below w.heap.size w wr):=hid (by rw[←HU.out];exact hBi)
        rcases hqb with hq0 | ⟨hq0,hq1⟩
        all_goals
         go_wp2
         exact bodyPost_ret (v := .int .i64 2) (by simp[results,Tryz.results55,go_sem]) rfl ⟨by rw[HC2.out],HBI.out⟩
      ·obtain rfl:m=x.kids.length:=by omega
       have hUd:aJ wr U (gQ n (aW (r.take (k+1)))):=by rw[HT.out];rw[List.take_length] at hUi;exact hUi
       have HND:Hid (gH k x):=hid (HHO.out.2 (by have:=hqs.out;rwa [List.take_length] at this))
       go_wp2
       go_roundw
       case rel =>
        refine⟨k+1,by omega,by simp,hUd,hid ?_,hBi⟩
        intro i y hi hy
        by_cases e:i=k
        ·subst e;rw[HX.out] at hy;cases hy;exact HND.out
        ·exact hnd.out i y (by omega) hy
       case measure=>simp[intOf];omega
   ·have HC2:Hid (cv=2):=hid ((HNO.out (fun h=>hho ⟨h.k,h.low,h.high,h.cls⟩)).out)
    have HBr:Hid (∀ vs t,Below w.heap.size w (wr.alloc (.cells vs t))):=hid (fun vs t=>by rw[←HU.out];exact hB.alloc (by have:=hB.size;have:=HU.out;omega) _)
    have hak:∃ lo hi,lo=kY x.k∧hi=gM x.k:=⟨_,_,rfl,rfl⟩
    obtain⟨lo,hi,hlo,hhi⟩:=hak
    have har:=FX x.k
    rw[←hlo,←hhi] at har
    unfold LA at hho
    rw[←hlo,←hhi] at hho
    have hkv:wC x.k=decide (1≤x.k∧x.k≤7):=by simp[wC]
    rw[hkv] at har
    clear hlo hhi hkv
    by_cases g1:1≤x.k∧x.k≤7
    ·rw[decide_eq_true g1] at har
     have H1:=hid g1
     by_cases g2:(x.kids.length:Int)<lo
     ·clear hho g1
      go_wp2_with (go_at_call 94;refine(har _).mono ?_;rintro e Wd ⟨rfl,rfl⟩)
      all_goals exact bodyPost_ret (v := .int .i64 2) (by simp[results,Tryz.results55,go_sem]) rfl ⟨by rw[HC2.out],HBr.out _ _⟩
     ·by_cases g3:hi<(x.kids.length:Int)
      ·clear hho g1
       go_wp2_with (go_at_call 94;refine(har _).mono ?_;rintro e Wd ⟨rfl,rfl⟩)
       all_goals exact bodyPost_ret (v := .int .i64 2) (by simp[results,Tryz.results55,go_sem]) rfl ⟨by rw[HC2.out],HBr.out _ _⟩
      ·have g4:x.k≠2∧¬(x.a=0∧x.b=0∧x.c=0∧x.d=0):=by
        refine⟨fun h=>hho ⟨g1,by omega,by omega,fun h'=>(h' h).elim⟩,fun h=>hho ⟨g1,by omega,by omega,fun _=>h⟩⟩
       obtain⟨g5,g6⟩:=g4
       rw[decide_eq_false g6] at hneq
       clear hho g1 g6
       go_wp2_with (go_at_call 94;refine(har _).mono ?_;rintro e Wd ⟨rfl,rfl⟩)
       all_goals first | exact bodyPost_ret (v := .int .i64 2) (by simp[results,Tryz.results55,go_sem]) rfl ⟨by rw[HC2.out],HBr.out _ _⟩ | (exfalso;rename_i hxx;exact g5 (by have:=hxx.2;simpa using this))
    ·rw[decide_eq_false g1] at har
     clear hho g1
     go_wp2_with (go_at_call 94;refine(har _).mono ?_;rintro e Wd ⟨rfl,rfl⟩)
     all_goals exact bodyPost_ret (v := .int .i64 2) (by simp[results,Tryz.results55,go_sem]) rfl ⟨by rw[HC2.out],HBr.out _ _⟩
  ·obtain rfl:k=n:=by omega
   have htk:r.take k=r:=by rw[HNn.out,List.take_length]
   rw[htk] at hUr
   have hcon:=contains_k U (k-1) k (gQ k (aW r)) (by rw[je];omega) (by rw[je];omega) wr hUr
   have hm:((k:Int)-1).toNat=k-1:=by omega
   have hget:∀ j,j<k-1→(gQ k (aW r))[j]?=some (((aW r).count (j:Int):Nat):Int):=fun j hj=>kD _ _ j (by omega)
   clear htk hnot
   by_cases hE:∃ x∈(gQ k (aW r)).take (k-1),x≠1
   ·have HC2:Hid (cv=2):=hid (by
     rw[←HCV.out]
     refine if_neg (fun h=>?_)
     obtain⟨x,hx,hx1⟩:=hE
     obtain⟨j,hj⟩:=List.getElem?_of_mem hx
     rw[List.getElem?_take] at hj
     split at hj
     ·rename_i hjk
      rw[hget j hjk] at hj
      have:=h.once j (by have:=HNn.out;omega)
      have:=Option.some.inj hj
      omega
     ·cases hj)
    rw[decide_eq_true hE] at hcon
    clear hE hget
    go_wp2_with (go_at_call 38;refine hcon.mono ?_;rintro e Wd ⟨rfl,rfl⟩)
    exact bodyPost_ret (v := .int .i64 2) (by simp[results,Tryz.results55,go_sem]) rfl ⟨by rw[HC2.out],by rw[←HU.out];exact hB⟩
   ·have HC2:Hid (cv=0):=hid (by
     rw[←HCV.out]
     refine if_pos ⟨by rw[←HNn.out];exact hn1,by rw[←HNn.out];exact hn2,fun i x hx=>hnd.out i x (by have:=lt_of_some hx;have:=HNn.out;omega) hx,fun j hj=>?_⟩
     have hjk:j<k-1:=by have:=HNn.out;omega
     have h1:((((aW r).count (j:Int):Nat):Int))=1:=by
      refine Classical.byContradiction fun h1=>hE ⟨_,?_,h1⟩
      refine List.mem_of_getElem? (i:=j) ?_
      rw[List.getElem?_take,if_pos hjk,hget j hjk]
     omega)
    rw[decide_eq_false hE] at hcon
    clear hE hget
    go_wp2_with (go_at_call 38;refine hcon.mono ?_;rintro e Wd ⟨rfl,rfl⟩)
    exact bodyPost_ret (v := .int .i64 0) (by simp[results,Tryz.results55,go_sem]) rfl ⟨by rw[HC2.out],by rw[←HU.out];exact hB⟩
end Go.Proofs.YtkjgogdkdejljaaGreatDoor.Rx
namespace Go.Proofs.YtkjgogdkdejljaaGreatDoor.AX
open Go Go.RowKit
section
variable {P : Program} {Q : Exit → Act → World → Prop} {n : Nat} {F : Fence} {ro : Option Nat}
theorem Er(hF:F = { Fence.wide with round:=ro }){row:String}{args:Array Value}{w:World}{R:Value→World→Prop}(h:Rows P row args w R):RowsIn F n P row args w R:=by
 subst hF
 exact fun c cs _=>let ⟨v,w',r,s⟩:=h c cs;⟨v,w',r,stepsIn_wide.2 s⟩
theorem Cn(hF:F = { Fence.wide with round:=ro }){f:FuncId}{args:Array Value}{w:World}{R:Ending→World→Prop}(h:Calls P f args w R):CallsIn F n P f args w R:=by
 subst hF
 exact(callsIn_wide (n:=n)).2 h
theorem Es(hF:F = { Fence.wide with round:=ro }){o:Oper}{a:Act}{w:World}{K:Act→World→Prop}(hd:∀ c,o.op ≠ .defer c)(h:o.wp P a w K Q):o.wpIn F n P a w K Q:=by
 refine⟨fun _ _=>by rw[hF];trivial,?_⟩
 rw[Oper.semAt_eq _ _ _ hd]
 unfold Oper.wp at h
 generalize (execOp a.eval o).run P w=r at *
 cases r with
 | ok x w' =>
  cases x<;>simp only[Oper.upon,Oper.uponIn] at h ⊢ <;>
   first
    | exact h
    | exact⟨fun e=>(by rw[hF] at e;simp[Fence.wide] at e),Cn hF h⟩
    | exact⟨fun e=>(by rw[hF] at e;simp[Fence.wide] at e),Er hF h⟩
 | halt x w'=>cases x<;>simp only[Oper.upon,Oper.uponIn] at h ⊢<;>exact h
theorem j6(hF:F = { Fence.wide with round:=ro }){ops:Array Oper}{md:Region.Mode}(hd:∀(i:Nat)(o:Oper) c,ops[i]?=some o→o.op ≠ .defer c)(hLO:¬LetsOut Q):∀(fuel:Nat)(listed:Array Bool)(a:Act)(w:World),
  wpAny P md ops Q fuel listed a w→wpAnyIn F n P md ops Q fuel listed a w
 | 0,_,_,_,h=>h
 | fuel+1,listed,a,w,h=>⟨h.1,fun i hi=>by
  have h1:=h.2 i hi
  unfold wpOp at h1
  unfold wpOpIn
  cases ho:ops[i]? with
  | none=>simp only[ho] at h1 ⊢;exact j6 hF hd hLO fuel _ _ _ h1
  | some o =>
   simp only[ho] at h1 ⊢
   split
   ·rename_i hw
    rw[if_pos hw] at h1
    rcases h1 with h1 | h1
    ·exact Oper.wpIn_mono (fun a' w' hk=>j6 hF hd hLO fuel _ a' w' hk) (Es hF (hd i o · ho) h1)
    ·exact(hLO h1.2).elim
   ·rename_i hw
    rw[if_neg hw] at h1
    exact⟨fun _ _=>by rw[hF];trivial,j6 hF hd hLO fuel _ _ _ h1⟩⟩
def Co(o:Op):Bool:=match o with | .defer _=>false | _=>true
def zW(l:List Oper):Bool:=l.all fun o=>Co o.op
theorem pO{l:List Oper}(h:zW l=true)(i:Nat)(o:Oper)(c:Call)(ho:l[i]?=some o):o.op ≠ .defer c:=fun e=>by
 have h1:=List.all_eq_true.1 h o (List.mem_of_getElem? ho)
 rw[e] at h1
 exact absurd h1 (by simp[Co])
end
end Go.Proofs.YtkjgogdkdejljaaGreatDoor.AX
namespace Go.Proofs.YtkjgogdkdejljaaGreatDoor.AX
open Go
inductive Plan
 | nil
 | plain (i:Nat) (r:Plan)
 | one (i:Nat) (r:Plan)
 | two (i:Nat) (r:Plan) (j:Nat) (s:Plan)
 | three (i:Nat) (r:Plan) (j:Nat) (s:Plan) (k:Nat) (t:Plan)
def sG(is:List Nat)(mask:Nat):List Inf→Nat→Bool
 | [],_=>true
 | y::L,j=>(is.any (Nat.beq j) || (Nat.testBit mask j || !(Nat.beq (Nat.land y.dep mask) y.dep))) && sG is mask L (j+1)
def upF(L:List Inf)(i mask:Nat):Bool:=match L[i]? with
 | none=>false
 | some x=>!(Nat.testBit mask i) && Nat.beq (Nat.land x.dep mask) x.dep
def iO(L:List Inf):Plan→Nat→Nat→Bool
 | .nil,mask,n=>Nat.beq mask (2 ^ L.length-1) && Nat.beq n 0
 | .plain i r,mask,n=>match L[i]?,n with
  | some x,n+1=>upF L i mask && (x.plain && ng i x mask L 0 && iO L r (Nat.lor mask (2 ^ i)) n)
  | _,_=>false
 | .one i r,mask,n=>match n with
  | n+1=>upF L i mask && (sG [i] mask L 0 && iO L r (Nat.lor mask (2 ^ i)) n)
  | _=>false
 | .two i r j s,mask,n=>match n with
  | n+1=>upF L i mask && upF L j mask && (sG [i,j] mask L 0 && (iO L r (Nat.lor mask (2 ^ i)) n && iO L s (Nat.lor mask (2 ^ j)) n))
  | _=>false
 | .three i r j s k t,mask,n=>match n with
  | n+1=>upF L i mask && upF L j mask && upF L k mask && (sG [i,j,k] mask L 0 && (iO L r (Nat.lor mask (2 ^ i)) n && (iO L s (Nat.lor mask (2 ^ j)) n && iO L t (Nat.lor mask (2 ^ k)) n)))
  | _=>false
theorem wu{is:List Nat}{mask:Nat} : ∀(L:List Inf)(k:Nat),sG is mask L k=true→∀ j y,L[j]?=some y→k+j∈is∨mask.testBit (k+j)=true∨Nat.land y.dep mask≠y.dep
 | [],_,_,j,y,hj=>by simp at hj
 | z::L,k,h,0,y,hj=>by
  simp only[sG,Bool.and_eq_true,Bool.or_eq_true,Bool.not_eq_true',List.any_eq_true] at h
  obtain rfl:z=y:=by simpa using hj
  rcases h.1 with ⟨x,h1,h2⟩ | h1 | h1
  ·exact .inl (by rw[Nat.beq_eq] at h2;rw[Nat.add_zero,h2];exact h1)
  ·exact .inr (.inl (by simpa using h1))
  ·exact .inr (.inr fun e=>by rw[e] at h1;simp at h1)
 | z::L,k,h,j+1,y,hj=>by
  simp only[sG,Bool.and_eq_true] at h
  have:=wu L (k+1) h.2 j y (by simpa using hj)
  rwa [show k+1+j=k+(j+1) by omega] at this
section
variable {P : Program} {C : World → Prop} {Q : Exit → Act → World → Prop}
def aQ(P:Program)(l:List Oper)(C:World→Prop)(Q:Exit→Act→World→Prop):Plan→Act→World→Prop
 | .nil,a,w=>Q .normal a w
 | .plain i r,a,w=>∃ o,l[i]?=some o∧wpQuiet P l.toArray C (fun a'=>aQ P l C Q r a' w) [o] a
 | .one i r,a,w=>wpOp P l.toArray Q i (fun a' w'=>C w'∧aQ P l C Q r a' w') a w
 | .two i r j s,a,w=>wpOp P l.toArray Q i (fun a' w'=>C w'∧aQ P l C Q r a' w') a w∧wpOp P l.toArray Q j (fun a' w'=>C w'∧aQ P l C Q s a' w') a w
 | .three i r j s k t,a,w=>wpOp P l.toArray Q i (fun a' w'=>C w'∧aQ P l C Q r a' w') a w∧wpOp P l.toArray Q j (fun a' w'=>C w'∧aQ P l C Q s a' w') a w∧wpOp P l.toArray Q k (fun a' w'=>C w'∧aQ P l C Q t a' w') a w
theorem iY{l:List Oper}{i mask:Nat}{listed:Array Bool}(hl:Lst l.length listed mask)(h:upF (infos l) i mask=true):i<l.length∧i∈Region.ready .any l.toArray listed:=by
 unfold upF at h
 cases hx:(infos l)[i]? with
 | none=>rw[hx] at h;cases h
 | some x =>
  rw[hx] at h
  simp only[Bool.and_eq_true,Bool.not_eq_true',Nat.beq_eq] at h
  obtain⟨hun,zV⟩:=h
  have hil:i<l.length:=by
   have:=(List.getElem?_eq_some_iff.1 hx).1
   simpa[infos] using this
  have ho:l[i]?=some l[i]:=List.getElem?_eq_getElem hil
  have hxe:x=gy l.toArray l[i]:=by
   simp only[infos,List.getElem?_map,ho,Option.map_some,Option.some.injEq] at hx
   exact hx.symm
  have ho':l.toArray[i]?=some l[i]:=by simp
  have hgl:∀ k,mask.testBit k=true→listed.getD k false=true:=fun k hk=>by
   rw[Array.getD_eq_getD_getElem?,hl.bit k (hl.lt k hk),hk];rfl
  exact⟨hil,mem_ready.2 ⟨by rw[Array.getD_eq_getD_getElem?,hl.bit i hil,hun];rfl,l[i],ho',fun e he hb=>hgl _ (by
   rw[hxe] at zV
   exact wm zV (fC.2 ⟨e,he,hb,rfl⟩))⟩⟩
theorem wB{l:List Oper}{is:List Nat}{mask:Nat}{listed:Array Bool}(hl:Lst l.length listed mask)(hk:sG is mask (infos l) 0=true){j:Nat}(hj:j∈Region.ready .any l.toArray listed):j∈is:=by
 obtain⟨hj0,oj,hoj,hjd⟩:=mem_ready.1 hj
 have hjl:j<l.length:=by have:=(Array.getElem?_eq_some_iff.1 hoj).1;simpa using this
 have hje:(infos l)[j]?=some (gy l.toArray oj):=by
  have:l[j]?=some oj:=by simpa using hoj
  simp[infos,this]
 rcases wu _ 0 hk j _ hje with h1 | h1 | h1
 ·rwa [Nat.zero_add] at h1
 ·rw[Nat.zero_add] at h1
  rw[Array.getD_eq_getD_getElem?,hl.bit j hjl,h1] at hj0
  cases hj0
 ·refine(h1 (pK fun k hk2=>?_)).elim
  obtain⟨e,he,hb,rfl⟩:=fC.1 hk2
  have h2:=hjd e he hb
  cases hm:mask.testBit e.on with
  | true=>rfl
  | false =>
   rcases Nat.lt_or_ge e.on l.length with h3 | h3
   ·rw[Array.getD_eq_getD_getElem?,hl.bit _ h3,hm] at h2;cases h2
   ·rw[Array.getD_eq_getD_getElem?,Array.getElem?_eq_none (by rw[hl.size];exact h3)] at h2;cases h2
theorem eG{l:List Oper}(hs:Region.noSelect l.toArray=true)(hQ:∀ c a d v w,Q (.panic c) (Act.put a d v) w→Q (.panic c) a w):∀(r:Plan)(n:Nat)(listed:Array Bool)(mask:Nat)(a:Act)(w:World),C w→Lst l.length listed mask →
  iO (infos l) r mask n=true→aQ P l C Q r a w→rz P .any l.toArray C Q n listed a w
 | .nil,n,listed,mask,a,w,_,hl,hB,h=>by
  simp only[iO,Nat.beq_eq,Bool.and_eq_true] at hB
  obtain⟨hB,rfl⟩:=hB
  refine⟨?_,h⟩
  rw[List.eq_nil_iff_forall_not_mem]
  intro j hj
  obtain⟨h0,o,ho,_⟩:=mem_ready.1 hj
  have hjl:j<l.length:=by have:=(Array.getElem?_eq_some_iff.1 ho).1;simpa using this
  have hb:=hl.bit j hjl
  rw[hB] at hb
  have:(2 ^ (infos l).length-1).testBit j=true:=by rw[Nat.testBit_two_pow_sub_one];simp[infos,hjl]
  rw[this] at hb
  rw[Array.getD_eq_getD_getElem?,hb] at h0
  cases h0
 | .plain i r,n,listed,mask,a,w,hC,hl,hB,h=>by
  unfold iO at hB
  cases hx:(infos l)[i]? with
  | none=>rw[hx] at hB;cases hB
  | some x =>
   rw[hx] at hB
   cases n with
   | zero=>cases hB
   | succ n =>
    simp only[Bool.and_eq_true] at hB
    obtain⟨hu,⟨hp,hf⟩,hB⟩:=hB
    obtain⟨hil,dA⟩:=iY hl hu
    have ho:l[i]?=some l[i]:=List.getElem?_eq_getElem hil
    have hxe:x=gy l.toArray l[i]:=by
     simp only[infos,List.getElem?_map,ho,Option.map_some,Option.some.injEq] at hx
     exact hx.symm
    have ho':l.toArray[i]?=some l[i]:=by simp
    obtain⟨o,ho2,h⟩:=h
    obtain rfl:l[i]=o:=by rw[ho] at ho2;exact Option.some.inj ho2
    have hq:qOp P l.toArray C i (fun a'=>aQ P l C Q r a' w) a:=by unfold qOp;simp only[ho'];exact h
    obtain⟨v,hy,hK⟩:=yieldsIn_of_qOp ho' hq
    refine kP ho' (Region.noSelect_spec hs) (fun c a w=>hQ c a _ _ w) n listed a w hC (fun j oj hj hji hjun hno=>?_) dA (gY (by rw[hxe] at hp;exact hp) hy) (eG hs hQ r n _ _ _ w hC (hl.set hil) hB hK)
    have hjl:j<l.length:=by have:=(Array.getElem?_eq_some_iff.1 hj).1;simpa using this
    have hje:(infos l)[j]?=some (gy l.toArray oj):=by
     have:l[j]?=some oj:=by simpa using hj
     simp[infos,this]
    rcases jA _ 0 hf j _ hje with h1 | h1 | h1 | h1
    ·omega
    ·rw[Nat.zero_add] at h1
     rw[Array.getD_eq_getD_getElem?,hl.bit j hjl,h1] at hjun
     cases hjun
    ·obtain⟨e,he,hb,hon⟩:=fC.1 h1
     exact absurd hon (hno e he hb)
    ·rw[hxe] at h1;exact kQ h1
 | .one i r,n,listed,mask,a,w,hC,hl,hB,h=>by
  cases n with
  | zero=>cases hB
  | succ n =>
   simp only[iO,Bool.and_eq_true] at hB
   obtain⟨hu,ho,hB⟩:=hB
   obtain⟨hil,dA⟩:=iY hl hu
   refine⟨(fun h0=>by rw[h0] at dA;cases dA),fun j hj=>?_⟩
   have:=wB hl ho hj
   simp only[List.mem_cons,List.not_mem_nil,or_false] at this
   subst this
   exact wpOp_mono (fun a' w' hk=>⟨hk.1,eG hs hQ r n _ _ a' w' hk.1 (hl.set hil) hB hk.2⟩) h
 | .two i r j s,n,listed,mask,a,w,hC,hl,hB,h=>by
  cases n with
  | zero=>cases hB
  | succ n =>
   simp only[iO,Bool.and_eq_true] at hB
   obtain⟨⟨hu,hv⟩,ho,hB,hB2⟩:=hB
   obtain⟨hil,dA⟩:=iY hl hu
   obtain⟨hjl,_⟩:=iY hl hv
   refine⟨(fun h0=>by rw[h0] at dA;cases dA),fun x hx=>?_⟩
   have:=wB hl ho hx
   simp only[List.mem_cons,List.not_mem_nil,or_false] at this
   rcases this with rfl | rfl
   ·exact wpOp_mono (fun a' w' hk=>⟨hk.1,eG hs hQ r n _ _ a' w' hk.1 (hl.set hil) hB hk.2⟩) h.1
   ·exact wpOp_mono (fun a' w' hk=>⟨hk.1,eG hs hQ s n _ _ a' w' hk.1 (hl.set hjl) hB2 hk.2⟩) h.2
 | .three i r j s k t,n,listed,mask,a,w,hC,hl,hB,h=>by
  cases n with
  | zero=>cases hB
  | succ n =>
   simp only[iO,Bool.and_eq_true] at hB
   obtain⟨⟨⟨hu,hv⟩,hz⟩,ho,hB,hB2,hB3⟩:=hB
   obtain⟨hil,dA⟩:=iY hl hu
   obtain⟨hjl,_⟩:=iY hl hv
   obtain⟨hkl,_⟩:=iY hl hz
   refine⟨(fun h0=>by rw[h0] at dA;cases dA),fun x hx=>?_⟩
   have:=wB hl ho hx
   simp only[List.mem_cons,List.not_mem_nil,or_false] at this
   rcases this with rfl | rfl | rfl
   ·exact wpOp_mono (fun a' w' hk=>⟨hk.1,eG hs hQ r n _ _ a' w' hk.1 (hl.set hil) hB hk.2⟩) h.1
   ·exact wpOp_mono (fun a' w' hk=>⟨hk.1,eG hs hQ s n _ _ a' w' hk.1 (hl.set hjl) hB2 hk.2⟩) h.2.1
   ·exact wpOp_mono (fun a' w' hk=>⟨hk.1,eG hs hQ t n _ _ a' w' hk.1 (hl.set hkl) hB3 hk.2⟩) h.2.2
theorem fK{id:Nat}{a:Act}{w:World}{l:List Oper}(r:Plan)(L:List Inf)(hm:P.follows .mixedOrders=true)(hs:Region.noSelect l.toArray=true)(hL:infos l=L)(hB:iO L r 0 l.length=true)
  (hQ:∀ c a d v w,Q (.panic c) (Act.put a d v) w→Q (.panic c) a w) (hC:C w.drew) (h:aQ P l C Q r a w.drew):(Code.region id l.toArray true).wp P Q a w:=by
 refine wp_region_any hm ?_
 have:=kN _ _ _ _ (eG (P:=P) (C:=C) (Q:=Q) hs hQ r l.length _ 0 a w.drew hC (Lst.start _) (hL ▸ hB) h)
 simpa using this
theorem aA{l:List Oper}{i:Nat}{r:Plan}{a:Act}{w:World}(o:Oper)(ho:l[i]?=some o)(h:wpQuiet P l.toArray C (fun a'=>aQ P l C Q r a' w) [o] a):aQ P l C Q (.plain i r) a w:=⟨o,ho,h⟩
theorem ay{l:List Oper}{i:Nat}{K:Act→World→Prop}{a:Act}{w:World}(o:Oper)(ho:l[i]?=some o)(hw:Region.wanted o (yielded l.toArray a.tmps)=true)(h:Oper.wp P o a w K Q):wpOp P l.toArray Q i K a w:=by
 unfold wpOp
 have ho':l.toArray[i]?=some o:=by simpa using ho
 simp only[ho',hw,if_true]
 exact .inl h
theorem bN{l:List Oper}{i:Nat}{K:Act→World→Prop}{a:Act}{w:World}{o:Oper}{f:FuncId}{fn:Func}{c:Code}{xs:Array Operand}{ts:Array TypeId}{vs:Array Value}{R:Ending→World→Prop}(h:Calls P f vs w R)(ho:l[i]?=some o)
  (hop:o.op = .call { callee := .value (.func f),args:=xs,argTypes:=ts }) (hw:Region.wanted o (yielded l.toArray a.tmps)=true) (hf:P.funcs[f]?=some fn) (hn:(fn.name == "runtime.NumGoroutine")=false) (hb:fn.body=some c) (hx:xs.map a.eval=vs)
  (hR:∀ e w',R e w'→∃ v,e = .returned v∧K (a.put o.dst v) w'):wpOp P l.toArray Q i K a w:=by
 refine ay o ho hw ?_
 have hrun:(execOp a.eval o).run P w = .ok (.enter f (xs.map a.eval)) w:=by
  have h1:fn.name≠"runtime.NumGoroutine":=by simpa using hn
  simp[execOp,hop,resolve,invoke,Act.eval,callFunc,Deferred.ofValue,hf,h1,hb]
 unfold Oper.wp
 rw[hrun]
 refine Calls.mono (hx ▸ h) fun e w2 hk=>?_
 obtain⟨v,rfl,h1⟩:=hR _ _ hk
 exact h1
end
section
variable {P : Program} {ops : Array Oper} {Q : Exit → Act → World → Prop} {a : Act} {w : World} {rest : List Oper} {t : TypeId} {x y : Operand} {ty : TypeId} {pos : String} {after : Array Edge} {b : Nat} {cs : Array Value} {e : TypeId} {vs : List Value}
theorem jq{o:Nat}(hp:a.eval x = .pointer (some ⟨b,o,none⟩))(hy:a.eval y = .agg vs.toArray)(hsz:sizeT P t=some vs.length)(hb:w.heap[b]?=some (.cells cs e (0,0)))(hle:o+vs.length≤cs.size)(hone:vs.all Value.oneCell'=true)
  (h:∀ w',w'.heap[b]?=some (.cells (jJ cs o vs) e (0,0))→(∀ k,k≠b→w'.heap[k]?=w.heap[k]?)→Same w w'→wpList P ops Q rest a w') :
  wpList P ops Q ({ dst:=none,op := .store t x y,type:=ty,pos:=pos,after:=after,guard:=none }::rest) a w:=by
 obtain⟨w',e1,e2,e3,e4⟩:=bY (P:=P) (o:=o) vs 0 cs w hb (by omega) (fun j _=>by omega) (fun v hv=>List.all_eq_true.1 hone v hv)
 refine wpList_plain rfl fun K hK=>?_
 have hr:(execOp a.eval { dst:=none,op := .store t x y,type:=ty,pos:=pos,after:=after,guard:=none }).run P w = .ok .skip w':=by
  have hne:¬(vs.toArray.size≠vs.length):=by simp
  simp only[execOp,hp,hy,Instr.storeAt,Instr.sureAddr,Sem.run_bind,Sem.run_pure,Result.andThen_ok,storeVar,Value.cells,run_sizeOf hsz,if_neg hne]
  rw[e1]
  rfl
 unfold Oper.wp
 rw[hr]
 exact hK _ _ (h w' (by rw[e2,Nat.add_zero]) e3 e4)
end
section
variable {P : Program} {Q : Exit → Act → World → Prop} {K : Act → World → Prop} {a : Act} {w : World} {t : TypeId} {x y : Operand} {ty : TypeId} {pos : String} {after : Array Edge} {b : Nat} {cs : Array Value} {e : TypeId} {vs : List Value}
theorem Aa{o:Nat}(hp:a.eval x = .pointer (some ⟨b,o,none⟩))(hy:a.eval y = .agg vs.toArray)(hsz:sizeT P t=some vs.length)(hb:w.heap[b]?=some (.cells cs e (0,0)))(hle:o+vs.length≤cs.size)(hone:vs.all Value.oneCell'=true)
  (h:∀ w',w'.heap[b]?=some (.cells (jJ cs o vs) e (0,0))→(∀ k,k≠b→w'.heap[k]?=w.heap[k]?)→Same w w'→K a w') :
  Oper.wp P { dst:=none,op := .store t x y,type:=ty,pos:=pos,after:=after,guard:=none } a w K Q:=by
 obtain⟨w',e1,e2,e3,e4⟩:=bY (P:=P) (o:=o) vs 0 cs w hb (by omega) (fun j _=>by omega) (fun v hv=>List.all_eq_true.1 hone v hv)
 have hr:(execOp a.eval { dst:=none,op := .store t x y,type:=ty,pos:=pos,after:=after,guard:=none }).run P w = .ok .skip w':=by
  have hne:¬(vs.toArray.size≠vs.length):=by simp
  simp only[execOp,hp,hy,Instr.storeAt,Instr.sureAddr,Sem.run_bind,Sem.run_pure,Result.andThen_ok,storeVar,Value.cells,run_sizeOf hsz,if_neg hne]
  rw[e1]
  rfl
 unfold Oper.wp
 rw[hr]
 exact h w' (by rw[e2,Nat.add_zero]) e3 e4
theorem aF(hp:a.eval x = .pointer (some ⟨b,0,none⟩))(hy:a.eval y = .agg vs.toArray)(hsz:sizeT P t=some vs.length)(hb:w.heap[b]?=some (.cells cs e (0,0)))(hle:cs.size=vs.length)(hone:vs.all Value.oneCell'=true)
  (h:∀ w',w'.heap[b]?=some (.cells vs.toArray e (0,0))→(∀ k,k≠b→w'.heap[k]?=w.heap[k]?)→Same w w'→K a w') :
  Oper.wp P { dst:=none,op := .store t x y,type:=ty,pos:=pos,after:=after,guard:=none } a w K Q :=
 Aa hp hy hsz hb (by omega) hone fun w' h1 h2 h3=>h w' (by rw[h1,kV vs cs hle.symm]) h2 h3
theorem aK{o:Nat}{v:Value}(hp:a.eval x = .pointer (some ⟨b,o,none⟩))(hy:a.eval y=v)(hv:v.oneCell'=true)(hsz:sizeT P t=some 1)(hb:w.heap[b]?=some (.cells cs e (0,0)))(ho:o<cs.size)
  (h:∀ w',w'.heap[b]?=some (.cells (cs.setIfInBounds o v) e (0,0))→(∀ k,k≠b→w'.heap[k]?=w.heap[k]?)→Same w w'→K a w') :
  Oper.wp P { dst:=none,op := .store t x y,type:=ty,pos:=pos,after:=after,guard:=none } a w K Q:=by
 obtain⟨w',e1,e2,e3,e4⟩:=bY (P:=P) (o:=o) [v] 0 cs w hb (by simp only[List.length_singleton];omega) (fun j _=>by omega) (fun u hu=>by rw[List.mem_singleton.1 hu];exact hv)
 have hr:(execOp a.eval { dst:=none,op := .store t x y,type:=ty,pos:=pos,after:=after,guard:=none }).run P w = .ok .skip w':=by
  have hne:¬(#[v].size≠1):=by simp
  simp only[execOp,hp,hy,Instr.storeAt,Instr.sureAddr,Sem.run_bind,Sem.run_pure,Result.andThen_ok,storeVar,cells_one hv,run_sizeOf hsz,if_neg hne]
  rw[e1]
  rfl
 unfold Oper.wp
 rw[hr]
 exact h w' (by rw[e2];rfl) e3 e4
end
end Go.Proofs.YtkjgogdkdejljaaGreatDoor.AX
