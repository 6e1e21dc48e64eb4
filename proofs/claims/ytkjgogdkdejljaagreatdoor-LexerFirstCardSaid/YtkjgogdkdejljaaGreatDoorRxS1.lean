import Derived.Test.YtkjgogdkdejljaaGreatDoorDfC1
set_option maxRecDepth 100000
set_option maxHeartbeats 40000000
namespace Go.Proofs.YtkjgogdkdejljaaGreatDoor.Df
section
open Go Go.Proofs Go.RowKit
open Rx (Nd dL iM jE pre_eq jB IRd XAt)
attribute [local go_sem] Oper.semAt_some
def Cm:List (Nat×Nat):=[(0,0),(1,0),(2,0),(3,0),(4,0),(5,0),(6,0),(7,2),(8,2),(9,2),(10,2),(11,1),(12,1),(13,0),(14,2)]
theorem UL:(Tryz.prog.info? 25).map (fun i=>(i.zero,i.size,i.bytes))=some (some (.slice none 0 0),1,24):=by kernel_rfl
theorem ac1:AX.sizeT Tryz.prog 72=some 1:=by kernel_rfl
theorem Je{o:Oper}{a:Act}{K:Act->World->Prop}{Q:Exit->Act->World->Prop}{W:World}(base:Nat)(v:Value)(l:List Value)(y:Value)(s x:Operand)
  (ho:o.op=.call {callee:=.builtin .append,args:=#[s,x],argTypes:=#[72,72]}) (hs:a.eval s=v) (hown:W.ownsRow base 25 1 v l.length l) (B c:Nat) (hx:a.eval x=.slice (some ⟨B,0,none⟩) 1 c)
  (hc:Bx W B 25 #[y]) (hy:y.oneCell'=true) (hl:l.length<=1000000) (hb:base<=W.heap.size)
  (h:∀v' w',w'.ownsRow base 25 1 v' (l++[y]).length (l++[y])->W.grownBy w' v.ownBlock->K (a.put o.dst v') w'):o.wp Tryz.prog a W K Q:=by
 obtain⟨ti,hi,hz0,hz1,hz2⟩:=info_parts UL;obtain⟨v',w',hr,h2,h3,h4,h5⟩:=run_append_own_at (P:=Tryz.prog) W base 72 o.type 25 ti (.slice none 0 0) 1 24 Tryz.underlying72 hi hz0 hz1 hz2 rfl (by decide) v l.length _ hown ⟨B,0,none⟩ 1 c [y] rfl
  (fun j u hj=>by rw[addr_add,af9,hc.cell];simpa using hj) (fun u hu=>by rw[afK.1 hu];exact hy) (by unfold maxLen;omega) (by omega) hb
 unfold Oper.wp execOp;simp only[ho,resolve,invoke,builtin,Sem.run_bind,Sem.run_pure,Result.andThen_ok,agh,agd,agm,hs,hx,hr];refine h v' w' ?_ h3;rw[afP];exact h2
theorem Ed{W:World}{base:Nat}{v:Value}{l:List Int}(h:W.ownsRow base 3 1 v l.length (l.map (Value.int .i64))):∃la c,v=.slice la l.length c/\aH W la l:=by
 rcases h.2 with ⟨e,hn⟩|⟨g,cap,cur,e,_⟩
 ·have:l=[]:=ag2.1 hn
  subst this;exact⟨none,0,e,fun h=>absurd rfl h⟩
 ·subst e
  refine⟨_,_,rfl,fun _=>⟨g,0,rfl,(World.ownsRow.lt h g rfl).2,fun j hj=>?_⟩⟩;have:=World.ownsRow.cellAt h j (by omega);rw[af9,this,af8,afE hj];rfl
theorem UM{W:World}{base:Nat}{v:Value}{l:List Kl}(h:D7 W base v l):∃la c,v=.slice la l.length c/\Jf W la l:=by
 rcases h.2 with ⟨e,hn⟩|⟨g,cap,cur,e,_⟩
 ·have:l=[]:=ag2.1 hn
  subst this;exact⟨none,0,e,fun h=>absurd rfl h⟩
 ·subst e
  refine⟨_,_,rfl,fun _=>⟨g,0,rfl,(World.ownsRow.lt h g rfl).2,fun j hj=>?_⟩⟩;have hget:∀(l:List Kl)(j:Nat)(hj:j<l.length),(l.flatMap bI)[j*4]?=some (.int .u64 (l[j].a:Nat))/\(l.flatMap bI)[j*4+1]?=some (.int .u64 (l[j].b:Nat))/\(l.flatMap bI)[j*4+2]?=some (.int .u64 (l[j].c:Nat))/\(l.flatMap bI)[j*4+3]?=some (.int .u64 (l[j].d:Nat)):=by
   intro l
   induction l with
   | nil=>intro j hj;simp at hj
   | cons x l ih =>
    intro j hj
    cases j with
    | zero=>simp[bI]
    | succ j =>
     have:=ih j (by simpa using hj);have e:∀t,((x::l).flatMap bI)[(j+1)*4+t]?=(l.flatMap bI)[j*4+t]?:=fun t=>by
      rw[agG,aga (by simp[bI];omega)]
      congr 1
      simp[bI];omega
     have e0:=e 0;simp only[agV]at e0;rw[e0,e 1,e 2,e 3];exact this
  obtain⟨g0,g1,g2,g3⟩:=hget l j hj;refine⟨?_,?_,?_,?_⟩
  all_goals rw[af9,World.ownsRow.cellAt h _ (by omega)]
  ·exact g0
  ·exact g1
  ·exact g2
  ·exact g3
structure Bq(w:World)(s:NS)(A Bb:Nat)(cv rv sv:Value)(ms:List Nat)(k:Nat)(nv:Value)(wz:World):Prop where
 xa:Bx wz A 74 #[.slice none 0 0,.slice none 0 0,.slice none 0 0]
 nb:w.heap.size<=Bb
 box:Bx wz Bb 110 #[cv,nv,rv,sv]
 nv:∃vals,vals.length=k/\wz.ownsRow w.heap.size 25 1 nv vals.length vals/\∀i l,i<k->s.nx[i]?=some l->∃v,vals[i]?=some v/\wz.ownsRow w.heap.size 3 1 v l.length (l.map (Value.int .i64))
 c:D7 wz w.heap.size cv s.cl
 r:bG wz w.heap.size rv s.ru
 sw:jG wz w.heap.size sv ms
 set:∀(i r:Nat)(S:List Int),ms[i]?=some r->s.nx[i]?=some S->aN wz r S
 lo:Below w.heap.size w wz
section
variable {w : World} {s : NS} {A Bb : Nat} {cv rv sv : Value} {ms : List Nat} {k : Nat} {nv : Value} {wz wy : World}
theorem Bq.low(h:Bq w s A Bb cv rv sv ms k nv wz)(hb:Below wz.heap.size wz wy):Bq w s A Bb cv rv sv ms k nv wy:=by
 refine⟨h.xa.below hb h.xa.lt,h.nb,h.box.below hb h.box.lt,?_,aZ h.c hb,aZ h.r hb,aZ h.sw hb,fun i r S h1 h2=>(h.set i r S h1 h2).below hb afD,h.lo.trans (hb.mono h.lo.size)⟩;obtain⟨vals,h1,h2,h3⟩:=h.nv;exact⟨vals,h1,aZ h2 hb,fun i l e1 e2=>by obtain⟨v,h4,h5⟩:=h3 i l e1 e2;exact⟨v,h4,aZ h5 hb⟩⟩
theorem Bq.put{l:List Int}{v nv':Value}{wx:World}(h:Bq w s A Bb cv rv sv ms k nv wz)(hl:s.nx[k]?=some l)(hv:wz.ownsRow w.heap.size 3 1 v l.length (l.map (Value.int .i64))){vals:List Value}(hk:vals.length=k)(hown:wz.ownsRow w.heap.size 25 1 nv vals.length vals)
  (aas:∀i l,i<k->s.nx[i]?=some l->∃v,vals[i]?=some v/\wz.ownsRow w.heap.size 3 1 v l.length (l.map (Value.int .i64))) (ho:wy.ownsRow w.heap.size 25 1 nv' (vals++[v]).length (vals++[v])) (hg:wz.grownBy wy nv.ownBlock)
  (g3:Bx wx Bb 110 #[cv,nv',rv,sv]) (g4:∀j,j≠Bb->wx.heap[j]?=wy.heap[j]?) (g5:AX.Same wy wx):Bq w s A Bb cv rv sv ms (k+1) nv' wx:=by
 have hs1:dH 25 wz wy:=aX hown hg;have hb1:Below w.heap.size wz wy:=(afI _ wz).grown hg h.lo.size fun k hk=>(World.ownsRow.lt hown k hk).1;have aat:=h.box.aW hs1 (by decide);have hs2:dH 110 wy wx:=aP aat g4;have hb2:Below w.heap.size wy wx:=AX.ah h.nb (.inl g3.lt) g4 g5;refine⟨(h.xa.aW hs1 (by decide)).aW hs2 (by decide),h.nb,g3,⟨vals++[v],by simp[hk],aC ho hs2 (by decide),fun i l' e1 e2=>?_⟩,aC (aC h.c hs1 (by decide)) hs2 (by decide),aC (aC h.r hs1 (by decide)) hs2 (by decide),aC (aC h.sw hs1 (by decide)) hs2 (by decide),fun i r S h1 h2=>((h.set i r S h1 h2).aW hs1).aW hs2,h.lo.trans (hb1.trans hb2)⟩
 by_cases e:i<k
 ·obtain⟨v',h4,h5⟩:=aas i l' e e2
  exact⟨v',by rw[af6 (by omega)];exact h4,aC (aC h5 hs1 (by decide)) hs2 (by decide)⟩
 ·have:i=k:=by omega
  subst this;rw[hl]at e2
  cases e2
  exact⟨v,by rw[<-hk];simp,aC (aC hv hs1 (by decide)) hs2 (by decide)⟩
theorem Bq.ac2(h:Bq w s A Bb cv rv sv ms k nv wz)(hs:dH 74 wz wy)(hk:k=s.nx.length)(hx:s.nx.length=s.cl.length)(hr:s.ru.length=s.cl.length):∃ac an ar cc cn cr,cv=.slice ac s.cl.length cc/\nv=.slice an s.cl.length cn/\rv=.slice ar s.cl.length cr/\uZ wy ⟨s.cl,s.nx,s.ru⟩ ac an ar:=by
 obtain⟨ac,cc,e1,h1⟩:=UM (aC h.c hs (by decide));obtain⟨ar,cr,e2,h2⟩:=Ed (aC h.r hs (by decide));obtain⟨vals,h3,h4,h5⟩:=h.nv;rcases h4.2 with ⟨e,hn⟩|⟨g,cap,cur,e,_⟩
 ·have h0:s.nx=[]:=ag2.1 (by omega)
  exact⟨ac,none,ar,cc,0,cr,e1,by rw[e,show s.cl.length=0 by omega],by rw[e2,hr],h1,fun hne=>absurd h0 hne,h2⟩
 ·subst e
  have h4:=aC h4 hs (by decide);refine⟨ac,some ⟨g,0,none⟩,ar,cc,cap,cr,e1,by rw[h3,hk,hx],by rw[e2,hr],h1,fun _=>⟨g,0,rfl,(World.ownsRow.lt h4 g rfl).2,fun j hj=>?_⟩,h2⟩;have hj:j<s.nx.length:=hj;obtain⟨v,h6,h7⟩:=h5 j s.nx[j] (by omega) (afE hj);obtain⟨la,c,e3,h8⟩:=Ed (aC h7 hs (by decide));refine⟨la,c,?_,h8⟩;rw[af9,World.ownsRow.cellAt h4 j (by omega),h6,e3]
end
theorem oq{W:World}{base:Nat}{e:TypeId}{k:Nat}{v:Value}{n:Nat}{xs:List Value}(h:W.ownsRow base e k v n xs):v.oneCell'=true:=by
 rcases h.2 with ⟨e,_⟩|⟨g,cap,cur,e,_⟩<;>rw[e]<;>rfl
end
section
open Go.Lib (hid)
open Go Go.Proofs Go.RowKit
open Rx (Nd dL iM jE pre_eq jB IRd XAt)
attribute [local go_sem] Oper.semAt_some
def PK(W:World)(la:Option Addr)(rs:List (List Nd)):Prop:=∀i r,rs[i]?=some r->∃B off,la=some ⟨B,off,none⟩/\B<W.heap.size/\∃vr,vr.oneCell'=true/\W.cell? ⟨B,off+i,none⟩=some vr/\jB W vr r
theorem PK.below{W W':World}{la:Option Addr}{rs:List (List Nd)}(h:PK W la rs)(hb:Below W.heap.size W W'):PK W' la rs:=fun i r hr=>by
 obtain⟨B,off,e,h1,vr,h0,h2,h3⟩:=h i r hr;exact⟨B,off,e,afN h1 hb.size,vr,h0,(hb.cell (p:=⟨B,off+i,none⟩) h1).trans h2,h3.below afD hb⟩
def PN(rs:List (List Nd))(w:World)(e:Ending)(w':World):Prop:=
 Below w.heap.size w w'/\((1024<(uY rs).cl.length/\e=.returned (.tuple #[.agg #[.slice none 0 0,.slice none 0 0,.slice none 0 0],.int .i64 10])) \/
  ((uY rs).cl.length<=1024/\∃ac an ar cc cn cr,e=.returned (.tuple #[nfV ac an ar (uY rs).cl.length (uY rs).cl.length (uY rs).cl.length cc cn cr,.int .i64 0])/\uZ w' ⟨(uY rs).cl,(uY rs).nx,(uY rs).ru⟩ ac an ar))
theorem Bd.aan{base:Nat}{W:World}{Bb:Nat}{cv sv:Value}{g cap:Nat}{s:NS}{ms:List Nat}{k:Nat}{i:Int}{ru':List Int}(h:Bd base W Bb cv (.slice (some ⟨g,0,none⟩) s.ru.length cap) sv s ms)(hr:ru'=s.ru.set k i):
  Bd base (W.setCell ⟨g,k,none⟩ (.int .i64 i)) Bb cv (.slice (some ⟨g,0,none⟩) s.ru.length cap) sv ⟨s.cl,s.nx,ru'⟩ ms/\dH 3 W (W.setCell ⟨g,k,none⟩ (.int .i64 i)):=by
 obtain⟨h1,h2⟩:=World.ownsRow.stored h.r k (.int .i64 i);have hs:dH 3 W (W.setCell ⟨g,k,none⟩ (.int .i64 i)):=aX h.r h2;subst hr;refine⟨⟨h.low,h.box.aW hs (by decide),aC h.c hs (by decide),?_,aC h.sw hs (by decide),h.n1,h.n2,?_,fun i x T hi hT=>(h.set i x T hi hT).aW hs⟩,hs⟩
 ·unfold bG
  rw[agA,aiz];exact h1
 ·show(s.ru.set k i).length=_
  rw[agA];exact h.n3
theorem UF:AX.sizeT Tryz.prog 74=some 3:=by kernel_rfl
theorem UG:¬ours 74:=by unfold ours;decide
structure Bl(rs:List (List Nd))(w:World)(A Bb M0:Nat)(t:NS)(wz:World):Prop where
 xa:Bx wz A 74 #[.slice none 0 0,.slice none 0 0,.slice none 0 0]
 m0:aN wz M0 [0]
 bd:∃cv rv sv ms,Bd w.heap.size wz Bb cv rv sv t ms
 lo:Below w.heap.size w wz
theorem Nj(rs:List (List Nd))(la:Option Addr)(c:Nat)(ok:∀r∈rs,dL r)(wd:∀r∈rs,∀x∈r,x.Wd)(hl:rs.length<=16)(w:World)(h:PK w la rs):Calls Tryz.prog 30 #[.slice la rs.length c] w (PN rs w):=by
 obtain⟨n,hn⟩:=afC rs.length;have hn16:n<=16:=by omega
 have aeJ:¬(16:Int)<(n:Int):=by omega
 have HN:=hid hn;have HOK:=hid ok;have HWD:=hid wd;rw[<-hn];obtain⟨A,hA⟩:=afC w.heap.size;obtain⟨W0,hW0⟩:=afC (w.alloc (.cells #[.slice none 0 0,.slice none 0 0,.slice none 0 0] 74));have hb0:Below w.heap.size w W0:=by rw[hW0];exact (afI w.heap.size w).alloc afD _
 have xa:Bx W0 A 74 #[.slice none 0 0,.slice none 0 0,.slice none 0 0]:=by rw[hW0,hA];exact Bx.new w 74 _
 have hR0:=h.below hb0;have HA:=hid hA;have HB0:=hid hb0;have HR:=hid hR0;have HR0:=hid h;have HXA:=hid xa;clear hn ok wd hl h hb0 hR0 xa;go_enter Tryz.func30,Tryz.ntmps30
 go_upto_region 1 with fail
 rw[<-hW0,<-hA];clear hW0 hA;go_upto_region 4 with fail
 go_loopw [21] (fun i wr=>∃j:Nat,i=.int .i64 j/\j<=n/\Below W0.heap.size W0 wr) (fun i _=>n-(RowKit.intOf i).toNat)
 case atStart=>exact⟨0,rfl,af0 _,afI _ _⟩
 case round =>
  obtain⟨j,rfl,hj,hbj⟩:=hrel;have hj0:(0:Int)<=(j:Int):=by omega
  by_cases hlt:j<n
  ·have hj1:(j:Int)<(n:Int):=by omega
   obtain⟨r,hr⟩:∃r,rs[j]?=some r:=⟨_,afE (by have:=HN.out;omega)⟩;obtain⟨B,off,rfl,hB,vr,h0,h1,h2⟩:=HR.out j r hr;have hok:=HOK.out r (af7 hr);have qc:=(hbj.cell (p:=⟨B,off+j,none⟩) hB).trans h1;have hch:=Rx.jQ r vr (by have:=hok.most;omega) wr (h2.below afD hbj);rw[show Rx.eu r=0 from afR hok]at hch;clear hok h1 h2 hr;go_wp2_with (go_at_call 55;((with_reducible refine hch.mono ?_);rintro e W2 ⟨rfl,hb2⟩))
   go_roundw
   case rel=>exact⟨j+1,by simp,by omega,hbj.trans (hb2.mono hbj.size)⟩
   case measure=>simp[RowKit.intOf];omega
  ·have hj1:¬(j:Int)<(n:Int):=by omega
   go_upto_region 11 with fail
   obtain⟨Bb,hBb⟩:=afC wr.heap.size;have hba:=(afI wr.heap.size wr).alloc afD (.cells #[.slice none 0 0,.slice none 0 0,.slice none 0 0,.slice none 0 0] 110);have hbx:Bx (wr.alloc (.cells #[.slice none 0 0,.slice none 0 0,.slice none 0 0,.slice none 0 0] 110)) wr.heap.size 110 #[.slice none 0 0,.slice none 0 0,.slice none 0 0,.slice none 0 0]:=Bx.new wr 110 _;obtain⟨W1,hW1⟩:=afC (wr.alloc (.cells #[.slice none 0 0,.slice none 0 0,.slice none 0 0,.slice none 0 0] 110));rw[<-hW1]at hba hbx⊢;have hwr:w.heap.size<=wr.heap.size:=agb HB0.out.size hbj.size;rw[<-hBb]at hbx⊢;have UH:Bd w.heap.size W1 Bb (.slice none 0 0) (.slice none 0 0) (.slice none 0 0) ⟨[],[],[]⟩ []:=⟨by omega,hbx,⟨rfl,.inl ⟨rfl,rfl⟩⟩,⟨rfl,.inl ⟨rfl,rfl⟩⟩,⟨rfl,.inl ⟨rfl,rfl⟩⟩,rfl,rfl,rfl,fun i r S h1 h2=>by simp at h1⟩;have hlo1:Below w.heap.size w W1:=HB0.out.trans ((hbj.mono HB0.out.size).trans (hba.mono hwr));have xa1:=(HXA.out.below hbj HXA.out.lt).below hba (by have:=HXA.out.lt;have:=hbj.size;omega);have hst:Calls Tryz.prog 56 #[.pointer (some ⟨Bb,0,none⟩),.agg #[.int .u64 0,.int .u64 0,.int .u64 0,.int .u64 0]] W1 (FT w.heap.size Bb ⟨[],[],[]⟩ [] Kl.zero W1):=Cc Kl.zero W1 UH (by decide) hlo1.size;have HLo:=hid hlo1;have aao:=hid xa1;clear hBb hba hbx hW1 hwr UH hlo1 xa1 hbj;go_upto_region 13 with (go_at_call 56;((with_reducible refine hst.mono ?_);rintro e W2 ⟨M0,cv0,rv0,sv0,M,rfl,hm0,hBd,hKp⟩))
   have hBl:Bl rs w A Bb M0 (lu rs 0) W2:=⟨aao.out.kp hKp UG,hm0,⟨_,_,_,_,hBd⟩,HLo.out.trans hKp.low⟩;have hbl:=hid hBl;clear hBl hm0 hBd hKp hst HLo aao hlt hj1 HR HXA HB0;go_loopw [39] (fun i wr=>∃j:Nat,i=.int .i64 j/\j<=n/\Hid (Bl rs w A Bb M0 (lu rs j) wr)) (fun i _=>n-(RowKit.intOf i).toNat)
   case atStart=>exact⟨0,rfl,af0 _,hbl⟩
   case round =>
    obtain⟨j,rfl,hj,hB⟩:=hrel;have hj0:(0:Int)<=(j:Int):=by omega
    by_cases hlt:j<n
    ·have hj1:(j:Int)<(n:Int):=by omega
     obtain⟨r,hr⟩:∃r,rs[j]?=some r:=⟨_,afE (by have:=HN.out;omega)⟩;obtain⟨B,off,rfl,hBl,vr,hv1,hv2,hv3⟩:=HR0.out j r hr;have hmem:=af7 hr;have hok:=HOK.out r hmem;have hwd:=HWD.out r hmem;have qc:=(hB.out.lo.cell (p:=⟨B,off+j,none⟩) hBl).trans hv2;obtain⟨h2,h3⟩:=yM HOK.out (by have:=HN.out;omega) j (by have:=HN.out;omega);obtain⟨cv,rv,sv,ms,hBd⟩:=hB.out.bd;have hr1:=hok.one;have hr2:=hok.most;have hz:=KU hok;rw[show ((r.length:Int)-1)=((r.length-1:Nat):Int)by omega]at hz;obtain⟨ho1,ho2,ho3⟩:=PI h2 hok j (by omega);have hcall:=F5 afD hv3 hok hwd r.length (r.length-1) (by omega) (by omega) wr (lu rs j) cv rv sv ms h2 hB.out.lo hBd (by rw[hz];omega) hB.out.lo.size;have hnext:Hid (lu rs (j+1)=xC (lu rs j) j r):=hid (by
      show xC (lu rs j) j (rs.getD j [])=_
      rw[afG,hr,agr])
     unfold xC at hnext;obtain⟨y,hy⟩:=afC (aO r r.length ((r.length-1:Nat):Int) (lu rs j));rw[<-hy]at hcall hnext ho3;obtain⟨la',c',rfl,hrr⟩:=hv3;rw[show ((r.length-1:Nat):Int)=(r.length:Int)-1 by omega]at hcall;obtain⟨rl,hrl⟩:=afC r.length;have aeV:(1:Int)<=(rl:Int):=(by omega);have hrl2:(rl:Int)<=512:=(by omega);rw[<-hrl]at hcall qc;have HO3:=hid ho3;clear hv1 hv2 hrr hr hmem hok hwd h2 h3 hr1 hr2 hz ho1 ho2 ho3 hy hrl hBd;go_upto_region 16 with (first
      | (go_at_call 57;((with_reducible refine hcall.mono ?_);rintro e W2 ⟨rf,rl2,cv2,rv2,sv2,ms2,rfl,hsf,hsl,qM,xB⟩;have x2:=Bx.new W2 118 #[.bool false,.map none,.map none];have ha2:=(afI W2.heap.size W2).alloc afD (.cells #[.bool false,.map none,.map none] 118)))
      | ((with_reducible refine dI ?_);refine AX.aj (vs:=[.bool y.2.e,.map (some rf),.map (some rl2)]) rfl rfl jg x2 rfl rfl ?_;rintro W3 g3 g4 g5))
     have x3:Bx W3 W2.heap.size 118 #[.bool y.2.e,.map (some rf),.map (some rl2)]:=g3;have hl3:Below W2.heap.size W2 W3:=ha2.trans (AX.ah afD (.inl x3.lt) g4 g5);have Jb:Kp w.heap.size wr W3:=xB.trans (Kp.of_below hl3 (agb hB.out.lo.size xB.low.size));have oh:=qM.below hl3;have uT:=hsf.below hl3 afD;have uU:=hsl.below hl3 afD;have hm3:=hB.out.m0.kp Jb;have xa3:=hB.out.xa.kp Jb UG;have hlo3:=hB.out.lo.trans Jb.low;obtain⟨D,hD⟩:=afC W2.heap.size;rw[<-hD]at x3⊢;have hj:=yJ W3 oh hm3 uT (fun x hx=>by rw[afK.1 hx];have:=HO3.out.ok.one;omega) hlo3.size;have y1:W3.cell? ⟨D,1,none⟩=some (.map (some rf)):=x3.cell 1;have aap:=hid hlo3;have hDw:w.heap.size<=D:=(by have:=hB.out.lo.size;have:=xB.low.size;omega);clear g3 g4 g5 ha2 x2 hsf hsl qM xB hl3 Jb hcall hD uT oh qc hB hlo3;go_upto_region 17 with (go_at_call 58;((with_reducible refine hj.mono ?_);rintro e W4 ⟨rfl,⟨ms4,yK⟩,uS⟩))
     have x4:=x3.kp uS Ci;have acX:=uU.kp uS;have hm4:=hm3.kp uS;have xa4:=xa3.kp uS UG;have Ec:=aap.out.trans uS.low;obtain⟨ks,hM,hks⟩:=acX;have y2:W4.cell? ⟨D,2,none⟩=some (.map (some rl2)):=x4.cell 2;have HKS:=hid hks;obtain⟨u,hu⟩:=afC (y.1.join [0] y.2.f);rw[<-hu]at yK hnext;have hHu:=hid (show u.cl=y.1.cl by rw[hu];rfl);clear hks hj y1 x3 uU hm3 xa3 aap uS hu;go_wp2_with (at_range;refine lq _ rfl _ rfl rl2 ks rfl hM ?_;intro w0 hrg hb0 hs0)
     go_frame
     obtain⟨It,hIt⟩:=afC W4.heap.size;rw[<-hIt]at hrg⊢;have UH:=yK.below hb0;have hk0:Kp w.heap.size W4 w0:=Kp.of_below hb0 Ec.size;have Uz:Hid (w.heap.size<=It):=hid (by have:=Ec.size;omega);have HIt:=hid hIt;have hu2:=yK.n3;have HU2:=hid hu2;have acY:=hid Ec;have HX4:=hid x4;have HM4:=hid hm4;have acZ:=hid xa4;clear hIt hb0 hs0 hM yK Ec x4 hm4 xa4 y2 hu2;go_loopw [58] (fun _ wi=>∃dn,jP wi It rl2 ks dn/\Bd w.heap.size wi Bb cv2 rv2 sv2 (sJ u dn j) ms4/\Kp w.heap.size W4 wi) (fun _ wi=>lft wi It rl2)
     case atStart=>exact⟨[],hrg,by unfold sJ;rw[PE];exact UH,hk0⟩
     case round =>
      obtain⟨dn,qo,hBd,hKp⟩:=hrel;go_wp2_with (at_next;refine mW _ rfl _ rfl It rl2 ks dn rfl qo ?_ ?_)
      ·intro hall
       have heq:sJ u dn j=sJ u y.2.l j:=by
        unfold sJ;rw[PG u.ru dn y.2.l j fun x=>?_];rw[<-HKS.out x];refine⟨fun h=>?_,fun h=>hall x h⟩;obtain⟨_,_,_,_,_,_,_,_,_,_,_,_,_,_,_,h11⟩:=qo;exact h11 x h
       rw[heq]at hBd;have xd:=HX4.out.kp hKp Ci;have y0:wr.cell? ⟨D,0,none⟩=some (.bool y.2.e):=xd.cell 0;have xa5:=acZ.out.kp hKp UG;have hm5:=HM4.out.kp hKp;have UJ:=acY.out.trans hKp.low;obtain⟨s2,hs2⟩:=afC (sJ u y.2.l j);rw[<-hs2]at hBd hnext;have hru:1<=s2.ru.length:=(by rw[hBd.n3,hs2];show 1<=u.cl.length;rw[hHu.out];exact HO3.out.ok.one);have hdone:∀W,Bl rs w A Bb M0 (yL y.2.e s2 j) W->Hid (Bl rs w A Bb M0 (lu rs (j+1)) W):=fun W h=>hid (by rw[hnext.out];exact h);obtain⟨g,cap,hsv⟩:∃g cap,rv2=.slice (some ⟨g,0,none⟩) s2.ru.length cap:=by
        rcases hBd.r.2 with ⟨_,h0⟩|⟨g,cap,cur,e,_⟩
        ·omega
        ·exact⟨g,cap,e⟩
       have PO:=hBd;rw[hsv]at PO;have hr1:=PO.r;obtain⟨m,hm⟩:=afC s2.ru.length;have hbx:wr.cell? ⟨Bb,2,none⟩=some (.slice (some ⟨g,0,none⟩) m cap):=(by rw[hm];exact PO.box.cell 2);have hkm:(0:Int)<(m:Int):=(by omega);obtain⟨x0,hx0⟩:=afC (s2.ru.getD 0 0);have hcell:wr.cell? ⟨g,0,none⟩=some (.int .i64 x0):=by
        have:=World.ownsRow.cellAt hr1 0 (by omega);rw[this,af8,hx0,afG,afE (by omega)];rfl
       have hfz:wr.frozen? ⟨g,0,none⟩=false:=World.ownsRow.frozenAt hr1 0;have hg:=(World.ownsRow.lt hr1 g rfl).1;obtain⟨be,hbe⟩:∃b,b=y.2.e:=⟨_,rfl⟩;rw[<-hbe]at y0 hdone;have PS:=hid hdone;have HBd:=hid hBd;have XP:=hid PO;have HSV:=hid hsv;have HM5:=hid hm5;have XZ:=hid xa5;have X0:=hid UJ;have HG:=hid hg;have HX0:=hid hx0;clear hdone hBd PO hsv hm5 xa5 UJ hg hx0 hr1 hbe hs2 hru hm xd hKp qo heq hall
       cases be
       ·go_wp2_with fail
        exact⟨⟨j+1,by simp,by omega,PS.out wr (by rw[show yL false s2 j=s2 from afO (by simp)];exact⟨XZ.out,HM5.out,⟨_,_,_,_,HBd.out⟩,X0.out⟩)⟩,by simp[RowKit.intOf];omega⟩
       ·by_cases hneg:x0<0
        ·go_wp2_with fail
         obtain⟨h4,h5⟩:=Bd.aan (k:=0) (i:=(j:Int)) XP.out rfl;rw[<-HSV.out]at h4;have hl4:Below w.heap.size wr (wr.setCell ⟨g,0,none⟩ (.int .i64 j)):=(afI _ wr).setCell (p:=⟨g,0,none⟩) HG.out _;exact⟨⟨j+1,by simp,by omega,PS.out _ (by rw[show yL true s2 j=⟨s2.cl,s2.nx,s2.ru.set 0 j⟩from afR ⟨rfl,by rw[<-HX0.out];exact hneg⟩];exact⟨XZ.out.aW h5 (by decide),HM5.out.aW h5,⟨_,_,_,_,h4⟩,X0.out.trans hl4⟩)⟩,by simp[RowKit.intOf];omega⟩
        ·go_wp2_with fail
         exact⟨⟨j+1,by simp,by omega,PS.out wr (by rw[show yL true s2 j=s2 from afO (fun h=>hneg (by rw[HX0.out];exact h.2))];exact⟨XZ.out,HM5.out,⟨_,_,_,_,HBd.out⟩,X0.out⟩)⟩,by simp[RowKit.intOf];omega⟩
      ·intro kk W1 hk hnd hrg1 hb1 hz1 hs1 hl1 hen
       have hki:=HO3.out.pl.l.i kk ((HKS.out kk).1 hk);obtain⟨k,rfl⟩:∃k:Nat,kk=(k:Int):=⟨kk.toNat,by omega⟩;have hku:k<u.ru.length:=(by rw[HU2.out,hHu.out];omega);have kD:Bd w.heap.size W1 Bb cv2 rv2 sv2 (sJ u dn j) ms4:=by
        obtain⟨a,b,c,d,hit⟩:=qo.iter;exact hBd.oth (fun j cs t hj=>hs1 j fun e=>by rw[e,hit]at hj;cases hj) (fun j es c hj=>hs1 j fun e=>by rw[e,hit]at hj;cases hj)
       have nY:Kp w.heap.size W4 W1:=⟨hKp.low.trans ⟨hb1.os,hb1.tape,hb1.output,by omega,fun j hj=>hs1 j (by have:=Uz.out;omega)⟩,fun j o hj hn=>(hs1 j (by have:=(afF.1 hj).1;have:=HIt.out;omega)).trans (hKp.keep j o hj hn)⟩;have hlen:(sJ u dn j).ru.length=u.ru.length:=lU _ _ _;obtain⟨g,cap,hsv⟩:∃g cap,rv2=.slice (some ⟨g,0,none⟩) (sJ u dn j).ru.length cap:=by
        rcases kD.r.2 with ⟨_,h0⟩|⟨g,cap,cur,e,_⟩
        ·omega
        ·exact⟨g,cap,e⟩
       obtain⟨m,hm⟩:=afC ((sJ u dn j).ru.length);have aeW:(0:Int)<=(k:Int):=(by omega);have hkm:(k:Int)<(m:Int):=(by omega);have hbx:W1.cell? ⟨Bb,2,none⟩=some (.slice (some ⟨g,0,none⟩) m cap):=(by rw[hm,<-hsv];exact kD.box.cell 2);have hr1:=kD.r;rw[hsv]at hr1;have hcell:∃x,W1.cell? ⟨g,k,none⟩=some (.int .i64 x):=by
        obtain⟨x,hx⟩:∃x,(sJ u dn j).ru[k]?=some x:=⟨_,afE (by omega)⟩;exact⟨x,by rw[World.ownsRow.cellAt hr1 k (by omega),af8,hx];rfl⟩
       obtain⟨x0,hcell⟩:=hcell;have hfz:W1.frozen? ⟨g,k,none⟩=false:=World.ownsRow.frozenAt hr1 k;have hg:=(World.ownsRow.lt hr1 g rfl).1;have hgl:=(World.ownsRow.lt hr1 g rfl).2;have HM:=hid hm;have HSV:=hid hsv;have HBd:=hid kD;have HKp:=hid nY;have HRg:=hid hrg1;have HL:=hid hl1;have HGl:=hid hg;clear hr1 hs1 hb1 hz1 qo hBd hKp hk hki hnd kD nY hm hsv hrg1 hl1 hku hlen hg hgl;go_wp2_with fail
       have h3:=HBd.out;rw[HSV.out]at h3;obtain⟨h4,h5⟩:=Bd.aan (k:=k) (i:=(j:Int)) (ru':=uX u.ru (dn++[(k:Int)]) j) h3 (Nh _ _ _ _);rw[<-HSV.out]at h4;have hl4:Below w.heap.size W1 (W1.setCell ⟨g,k,none⟩ (.int .i64 j)):=(afI _ W1).setCell (p:=⟨g,k,none⟩) HGl.out _;have MZ:=HRg.out.aW h5;exact⟨⟨dn++[(k:Int)],MZ.1,h4,HKp.out.trans (Kp.pJ hl4 h5 (.inr (.inr (.inl rfl))))⟩,by rw[MZ.2];exact HL.out⟩
    ·have hj1:¬(j:Int)<(n:Int):=by omega
     obtain rfl:j=n:=by omega
     obtain⟨s,hs⟩:=afC (lu rs j);have aaq:uY rs=s:=(by rw[hs,HN.out];rfl);obtain⟨h2,h3⟩:=yM HOK.out (by have:=HN.out;omega) j (by have:=HN.out;omega);rw[<-hs]at h2 h3;have hB1:=hB.out;rw[<-hs]at hB1;obtain⟨cv,rv,sv,ms,hBd⟩:=hB1.bd;have hB2:Bq w s A Bb cv rv sv ms 0 (.slice none 0 0) wr:=⟨hB1.xa,hBd.low,hBd.box,⟨[],rfl,⟨rfl,.inl ⟨rfl,rfl⟩⟩,fun i l h=>absurd h (agp _)⟩,hBd.c,hBd.r,hBd.sw,hBd.set,hB1.lo⟩;have hn1:=hBd.n1;have hn2:=hBd.n2;have hn3:=hBd.n3;obtain⟨g,cap,rfl⟩:∃g cap,sv=.slice (some ⟨g,0,none⟩) ms.length cap:=by
      rcases hBd.sw.2 with ⟨_,h0⟩|⟨g,cap,cur,e,_⟩
      ·have:=h2.one;omega
      ·exact⟨g,cap,e⟩
     obtain⟨m,hm⟩:=afC ms.length;have hq:wr.cell? ⟨Bb,3,none⟩=some (.slice (some ⟨g,0,none⟩) m cap):=(by rw[hm];exact hBd.box.cell 3);have HB2:=hid hB2;have UK:=hid aaq;have HOk:=hid h2;have HN1:=hid hn1;have HN2:=hid hn2;have HN3:=hid hn3;have HM:=hid hm;have aeX:(m:Int)<=100000:=(by omega);clear hs aaq h2 h3 hB1 hB hBd hB2 hn1 hn2 hn3
     by_cases hbig:1024<(m:Int)
     ·have xA:=HB2.out.xa
      go_wp2_with ((with_reducible refine dI ?_);refine AX.aj (vs:=[.slice none 0 0,.slice none 0 0,.slice none 0 0]) rfl rfl UF xA rfl rfl ?_;rintro W9 g3 g4 g5)
      have x9:Bx W9 A 74 #[.slice none 0 0,.slice none 0 0,.slice none 0 0]:=g3;have d0:W9.cell? ⟨A,0,none⟩=some (.slice none 0 0):=x9.cell 0;have d1:W9.cell? ⟨A,1,none⟩=some (.slice none 0 0):=x9.cell 1;have d2:W9.cell? ⟨A,2,none⟩=some (.slice none 0 0):=x9.cell 2;have hl9:Below w.heap.size wr W9:=AX.ah (afT HA.out.symm) (.inl x9.lt) g4 g5;exact afJ (v:=.tuple #[.agg #[.slice none 0 0,.slice none 0 0,.slice none 0 0],.int .i64 10]) (by simp[results,Tryz.results30,go_sem,d0,d1,d2]) rfl ⟨HB2.out.lo.trans hl9,.inl ⟨by rw[UK.out,<-HN1.out,<-HM.out];omega,rfl⟩⟩
     ·go_upto_region 27 with fail
      clear hq;rw[<-HM.out]at HB2;go_loopw [102] (fun i wq=>∃(k:Nat)(nv:Value),i=.int .i64 k/\k<=m/\Hid (Bq w s A Bb cv rv (.slice (some ⟨g,0,none⟩) m cap) ms k nv wq)) (fun i _=>m-(RowKit.intOf i).toNat)
      case atStart=>exact⟨0,_,rfl,af0 _,HB2⟩
      case round =>
       obtain⟨k,nv,rfl,hk,hB⟩:=hrel;have hk0:(0:Int)<=(k:Int):=by omega
       by_cases hkl:k<m
       ·have hk1:(k:Int)<(m:Int):=by omega
        obtain⟨r,hr⟩:∃r,ms[k]?=some r:=⟨_,afE (by have:=HM.out;omega)⟩;obtain⟨S,hS⟩:∃S,s.nx[k]?=some S:=⟨_,afE (by have:=HN2.out;have:=HN1.out;have:=HM.out;omega)⟩;have hin:=HOk.out.up S (af7 hS);have hcell:wr.cell? ⟨g,k,none⟩=some (.map (some r)):=by
         have hsw:=hB.out.sw;rw[HM.out]at hsw;rw[World.ownsRow.cellAt hsw k (by have:=HM.out;omega),af8,hr];rfl
        go_upto_region 29 with fail
        have hbd:=(afI wr.heap.size wr).drew;have hB2:=hB.out.low hbd;obtain⟨Wd,hWd⟩:=afC wr.drew;rw[<-hWd]at hB2;obtain⟨C,hCi,hCo⟩:∃C:World->Prop,(∀W,C W->Bx W Bb 110 #[cv,nv,rv,.slice (some ⟨g,0,none⟩) m cap])/\∀W,Bx W Bb 110 #[cv,nv,rv,.slice (some ⟨g,0,none⟩) m cap]->C W:=⟨_,fun _ h=>h,fun _ h=>h⟩;have hC0:C wr.drew:=hCo _ (hWd▸ hB2.box);haveI:Inhabited (AX.CW C):=⟨⟨_,hC0⟩⟩;haveI:Inhabited (AX.CW fun _=>True):=⟨⟨w,trivial⟩⟩;have a1:∀p:AX.CW C,p.W.cell? ⟨Bb,1,none⟩=some nv:=fun p=>(hCi _ p.h).cell 1;have aeY:nv.oneCell'=true:=(by obtain⟨vals,_,h2,_⟩:=hB.out.nv;exact oq h2);refine AX.dF (C:=fun W=>∃p:AX.CW C,W=p.W) (CT:=fun W=>∃p:AX.CW fun _=>True,W=p.W) 14 Cm _ (by kernel_rfl) (by kernel_rfl) rfl (by kernel_rfl) (by decide) (by kernel_rfl) (by kernel_rfl) (by intro c a d v w h;cases d<;>exact h) ⟨⟨⟨_,trivial⟩,rfl⟩,⟨⟨_,hC0⟩,rfl⟩⟩ ?_;unfold Cm;rw[<-hWd];have HB3:=hid hB2;have HIn:=hid hin;have HSS:=hid hS;have HRR:=hid hr;clear hWd hB hbd hC0 hB2 hin hS hr hcell
        repeat (refine AX.bQ _ (by rfl) ?_;go_big_quiet_step (fail);refine afQ ?_)
        refine AX.dW (F6 r Wd) (by rfl) (by rfl) (by rfl) Tryz.func60 (by kernel_rfl) (by rfl) (by simp only[agh,agd,agm];rfl) ?_;rintro e W1 ⟨rfl,hW1⟩;have hb1:Below Wd.heap.size Wd W1:=(by rw[hW1];exact (afI _ Wd).alloc afD _);have yO:Bx W1 Wd.heap.size 112 #[.map (some r)]:=(by rw[hW1];exact Bx.new Wd 112 _);have hB4:=HB3.out.low hb1;obtain⟨ks,hM,hks⟩:=hB4.set k r S HRR.out HSS.out;have hperm:ks.Perm S:=(List.perm_ext_iff_of_nodup hM.nodup (HIn.out.s.imp fun h e=>by omega)).2 hks;have hS1:∀x∈S,0<=x/\x<100000:=fun x hx=>by have:=HIn.out.i x hx;have:=HN1.out;have:=HM.out;omega
        have aar:=yP (W:=W1) (Bm:=Wd.heap.size) hM.hat hperm HIn.out.s hS1 (Ut HIn.out.s (n:=100000) hS1) yO.lt (yO.cell 0);have HB4:=hid hB4;clear hW1 hb1 yO hM hks hperm hS1 hB4;refine⟨_,rfl,⟨⟨⟨W1,trivial⟩,rfl⟩,fun _=>⟨⟨W1,hCo _ HB4.out.box⟩,rfl⟩⟩,?_⟩;simp only[show Nat.beq 7 14=false from rfl,ahT,Act.put,afH,afL,afM];refine AX.dW aar (by rfl) (by rfl) (by rfl) Tryz.func59 (by kernel_rfl) (by rfl) (by simp only[agh,agd,agm];rfl) ?_;rintro e W2 ⟨v,rfl,hown,hb2⟩;have hB5:=HB4.out.low hb2;have hv:=kE hown HB4.out.lo.size;obtain⟨va,vc,rfl⟩:=aU hv;refine⟨_,rfl,⟨⟨⟨W2,trivial⟩,rfl⟩,fun _=>⟨⟨W2,hCo _ hB5.box⟩,rfl⟩⟩,?_⟩;have HB5:=hid hB5;have HV:=hid hv;clear hb2 aar hown hB5 hv HB4;simp only[show Nat.beq 8 14=false from rfl,ahT,Act.put,afH,afL,afM];refine AX.aV _ (by rfl) (by rfl) ?_;unfold Oper.wp;go_simp
        have hb3:=(afI W2.heap.size W2).alloc afD (.cells #[.slice va S.length vc] 25);have hB6:=HB5.out.low hb3;have hv6:=aZ HV.out hb3;have nZ:=Bx.new W2 25 #[.slice va S.length vc];obtain⟨B3,hB3⟩:=afC W2.heap.size;obtain⟨W3,hW3⟩:=afC (W2.alloc (.cells #[.slice va S.length vc] 25));rw[<-hW3]at hB6 hv6 nZ⊢;rw[<-hB3]at nZ⊢;refine⟨⟨⟨⟨W3,trivial⟩,rfl⟩,fun _=>⟨⟨W3,hCo _ hB6.box⟩,rfl⟩⟩,?_⟩;obtain⟨vals,hv1,hv2,hv3⟩:=hB6.nv;have hvl:vals.length<=1000000:=(by omega);have ac0:=hB6.lo.size;have HB6:=hid hB6;have HV6:=hid hv6;have HV3:=hid hv3;have HV1:=hid hv1;have HV2:=hid hv2;clear hb3 hB3 hW3 hB6 hv6 hv3 hv1;refine AX.aV _ (by rfl) (by rfl) ?_;refine Je w.heap.size nv vals (.slice va S.length vc) _ _ rfl rfl hv2 B3 1 rfl nZ rfl hvl ac0 ?_;intro nv' W4 ho hg;have ou:Bx W4 Bb 110 #[cv,nv,rv,.slice (some ⟨g,0,none⟩) m cap]:=HB6.out.box.aW (aX HV2.out hg) (by decide);have hn1:=oq ho;refine⟨⟨⟨⟨W4,trivial⟩,rfl⟩,fun _=>⟨⟨W4,hCo _ ou⟩,rfl⟩⟩,?_⟩;have HHo:=hid ho;have HHg:=hid hg;clear ho hg hv2 nZ;simp only[show Nat.beq 10 14=false from rfl,show Nat.beq 9 14=false from rfl,ahT,Act.put,afH,afL,afM]
        repeat (refine AX.gG _ (by rfl) ?_;go_big_quiet_step (fail);refine afQ ?_)
        refine AX.bQ _ (by rfl) ?_;go_big_quiet_step (fail)
        refine afQ ?_;refine AX.aV _ (by rfl) (by rfl) ?_;refine AX.aI (o:=1) (v:=nv') rfl rfl hn1 ac1 ou (show 1<4 by decide) ?_;rintro W5 g3 g4 g5;have x5:Bx W5 Bb 110 #[cv,nv',rv,.slice (some ⟨g,0,none⟩) m cap]:=g3;have hB7:=HB6.out.put HSS.out HV6.out HV1.out HV2.out HV3.out HHo.out HHg.out x5 g4 g5;refine⟨⟨⟨⟨W5,trivial⟩,rfl⟩,fun h=>by cases h⟩,?_⟩;have HB7:=hid hB7;clear g3 g4 g5 x5 hB7 ou hn1 a1;unfold AX.bC;go_wp2_with fail
        exact⟨⟨k+1,nv',by simp,by omega,HB7⟩,by simp[RowKit.intOf];omega⟩
       ·have hk1:¬(k:Int)<(m:Int):=by omega
        obtain rfl:k=m:=by omega
        have c1:=oq hB.out.c;have c3:=oq hB.out.r;have c2:nv.oneCell'=true:=(by obtain⟨vals,_,h2,_⟩:=hB.out.nv;exact oq h2);have b0:wr.cell? ⟨Bb,0,none⟩=some cv:=hB.out.box.cell 0;have b1:wr.cell? ⟨Bb,1,none⟩=some nv:=hB.out.box.cell 1;have b2:wr.cell? ⟨Bb,2,none⟩=some rv:=hB.out.box.cell 2;have xA:=hB.out.xa;go_wp2_with ((with_reducible refine dI ?_);refine AX.aj (vs:=[cv,nv,rv]) rfl rfl UF xA rfl (by simp[c1,c2,c3]) ?_;rintro W9 g3 g4 g5)
        have x9:Bx W9 A 74 #[cv,nv,rv]:=g3;have d0:W9.cell? ⟨A,0,none⟩=some cv:=x9.cell 0;have d1:W9.cell? ⟨A,1,none⟩=some nv:=x9.cell 1;have d2:W9.cell? ⟨A,2,none⟩=some rv:=x9.cell 2;have hl9:Below w.heap.size wr W9:=AX.ah (afT HA.out.symm) (.inl x9.lt) g4 g5;have hs9:dH 74 wr W9:=aP xA g4;obtain⟨ac,an,ar,cc,cn,cr,e1,e2,e3,hnf⟩:=hB.out.ac2 hs9 (by rw[HN2.out,<-HN1.out];exact HM.out) HN2.out HN3.out;exact afJ (v:=.tuple #[.agg #[cv,nv,rv],.int .i64 0]) (by simp[results,Tryz.results30,go_sem,d0,d1,d2]) rfl ⟨hB.out.lo.trans hl9,.inr ⟨by rw[UK.out,<-HN1.out,<-HM.out];omega,ac,an,ar,cc,cn,cr,by rw[UK.out,e1,e2,e3];rfl,by rw[UK.out];exact hnf⟩⟩
end
end Go.Proofs.YtkjgogdkdejljaaGreatDoor.Df
namespace Go.Proofs.YtkjgogdkdejljaaGreatDoor.Rx
open Go Go.Proofs Go.RowKit
attribute [local go_sem] Oper.semAt_some
def bG(W:World)(base:Nat)(v:Value)(l:List Int):Prop:=W.ownsRow base 3 1 v l.length (l.map (Value.int .i64))
theorem TY{ops:Array Oper}{rest:List Oper}{o:Oper}{a:Act}{Q:Exit->Act->World->Prop}(W:World)(base:Nat)(v:Value)(pre:List Int)(x:Int)(hgd:o.guard=none)(s y:Operand)
  (ho:o.op=.call {callee:=.builtin .append,args:=#[s,y],argTypes:=#[25,25]}) (hs:a.eval s=v) (hown:bG W base v pre) (B c:Nat) (hx:a.eval y=.slice (some ⟨B,0,none⟩) 1 c)
  (hc:W.cell? ⟨B,0,none⟩=some (.int .i64 x)) (hl:pre.length<=100000) (hb:base<=W.heap.size)
  (h:∀v' w',bG w' base v' (pre++[x])->W.grownBy w' v.ownBlock->(v'.ownBlock=v.ownBlock\/v'.ownBlock=some W.heap.size)->wpList Tryz.prog ops Q rest (a.put o.dst v') w'):wpList Tryz.prog ops Q (o::rest) a W:=by
 obtain⟨ti,hi,hz0,hz1,hz2⟩:=info_parts info3';refine wpList_append_own_at (P:=Tryz.prog) (w:=W) hgd s y 25 ho base 3 ti (.int .i64 0) 1 8 Tryz.underlying25 hi hz0 hz1 hz2 rfl (by decide) v pre.length _ hs hown ⟨B,0,none⟩ 1 c [.int .i64 x] hx rfl
  (fun j u hj=>by
   rw[addr_add,af9]
   cases j with
   | zero=>simp at hj;rw[<-hj];exact hc
   | succ j=>simp at hj) (fun u hu=>by rw[afK.1 hu];rfl) (by unfold maxLen;omega) (by omega) hb ?_
 intro v' w' h1 h2 _ h4;refine h v' w' ?_ h2 h4;unfold bG;rw[afP,agt];exact h1
theorem WE:(Tryz.prog.info? 153).map (fun i=>(i.zero,i.size,i.bytes))=some (some (.agg #[.int .i64 0,.int .u64 0,.int .u64 0,.int .u64 0,.int .u64 0,.slice none 0 0]),6,64):=by kernel_rfl
structure NL where
 x:Nd
 kv:Value
def OV(y:NL):List Value:=[.int .i64 y.x.k,.int .u64 (y.x.a:Nat),.int .u64 (y.x.b:Nat),.int .u64 (y.x.c:Nat),.int .u64 (y.x.d:Nat),y.kv]
def BN(W:World)(base:Nat)(v:Value)(l:List NL):Prop:=W.ownsRow base 153 6 v l.length (l.flatMap OV)
def KAt(W:World)(own:Option Nat)(kv:Value)(l:List Int):Prop:=(kv=.slice none 0 0/\l=[])\/∃B c cs,kv=.slice (some ⟨B,0,none⟩) l.length (l.length+c)/\W.heap[B]?=some (.cells cs 3 (0,0))/\some B≠own/\∀i x,l[i]?=some x->W.cell? ⟨B,i,none⟩=some (.int .i64 x)
theorem KAt.ird{W:World}{own:Option Nat}{kv:Value}{l:List Int}(h:KAt W own kv l):IRd W kv l:=by
 rcases h with ⟨rfl,rfl⟩|⟨B,c,cs,rfl,h1,_,h3⟩
 ·exact⟨none,0,rfl,fun _=>rfl,fun a e=>by cases e⟩
 ·refine⟨some ⟨B,0,none⟩,c,rfl,(fun e=>by cases e),fun a e _=>?_⟩
  obtain rfl:=agc e;exact⟨B,0,rfl,(afF.1 h1).1,fun i x hx=>by rw[af9];exact h3 i x hx⟩
theorem KAt.same{W W':World}{own own':Option Nat}{kv:Value}{l:List Int}(h:KAt W own kv l)(h1:∀B cs,W.heap[B]?=some (.cells cs 3 (0,0))->some B≠own->W'.heap[B]?=W.heap[B]?/\some B≠own'):KAt W' own' kv l:=by
 rcases h with h|⟨B,c,cs,rfl,g1,g2,g3⟩
 ·exact .inl h
 ·obtain⟨e1,e2⟩:=h1 B cs g1 g2
  exact .inr ⟨B,c,cs,rfl,e1.trans g1,e2,fun i x hx=>(bZ e1).trans (g3 i x hx)⟩
theorem KAt.wC{W:World}{base:Nat}{v:Value}{l:List Int}{own:Option Nat}(h:bG W base v l)(hn:∀g,v.ownBlock=some g->some g≠own):KAt W own v l:=by
 rcases h.2 with ⟨rfl,h0⟩|⟨g,cap,cur,rfl,hg,hh,rest⟩
 ·exact .inl ⟨rfl,agB h0⟩
 ·refine .inr ⟨g,cap-l.length,cur,by rw[show l.length+(cap-l.length)=cap by have:=rest.1;omega],hh,hn g rfl,fun i x hx=>?_⟩
  have:=World.ownsRow.cells h (g:=g) rfl i (.int .i64 x) (by rw[af8,hx];rfl)
  rwa [addr_add,af9]at this
theorem BN.ael{W:World}{base:Nat}{own:Option Nat}{v:Value}{l:List NL}(h:BN W base v l)(hk:∀y∈l,KAt W own y.kv y.x.kids):jB W v (l.map (·.x)):=by
 rcases h.2 with ⟨e,hn⟩|⟨g,cap,cur,e,hg,hh,rest⟩
 ·obtain rfl:l=[]:=agB hn
  exact⟨none,0,e,fun _=>rfl,fun a e=>by cases e⟩
 ·refine⟨some ⟨g,0,none⟩,cap,by rw[e,agf],(fun e=>by cases e),fun a ea _=>?_⟩
  obtain rfl:=agc ea;refine⟨g,0,rfl,(afF.1 hh).1,fun i x hx=>?_⟩;rw[af8]at hx
  cases hy:l[i]? with
  | none=>rw[hy]at hx;cases hx
  | some y =>
   rw[hy]at hx;obtain rfl:y.x=x:=by simpa using hx
   have hc:∀q v,(OV y)[q]?=some v->W.cell? ⟨g,0+i*6+q,none⟩=some v:=fun q v hv=>by
    have:=World.ownsRow.cells h (g:=g) (by rw[e];rfl) (i*6+q) v (flat_get OV 6 (fun _=>rfl) l i y hy q v hv);rw[addr_add,af9]at this;rw[af9];exact this
   exact⟨hc 0 _ rfl,hc 1 _ rfl,hc 2 _ rfl,hc 3 _ rfl,hc 4 _ rfl,y.kv,hc 5 _ rfl,(hk y (af7 hy)).ird⟩
def nS(f:Value×Value):List Value:=[f.1,f.2]
def jG(W:World)(base:Nat)(v:Value)(l:List (Value×Value)):Prop:=W.ownsRow base 165 2 v l.length (l.flatMap nS)
def dH(t:TypeId)(W W':World):Prop:=∀(j:Nat)(cs:Array Value)(e:TypeId),W.heap[j]?=some (.cells cs e (0,0))->e≠t->W'.heap[j]?=W.heap[j]?
theorem aC{W W':World}{base:Nat}{e t:TypeId}{size n:Nat}{v:Value}{xs:List Value}(h:W.ownsRow base e size v n xs)(hs:dH t W W')(hne:e≠t):W'.ownsRow base e size v n xs:=
 bP h fun g hg=>by obtain⟨cs,hc⟩:=iq h g hg;exact hs g cs e hc hne
theorem KAt.aW{W W':World}{own:Option Nat}{kv:Value}{l:List Int}{t:TypeId}(h:KAt W own kv l)(hs:dH t W W')(hne:(3:Nat)≠t):KAt W' own kv l:=
 h.same fun B cs hB hn=>⟨hs B cs 3 hB hne,hn⟩
theorem aX{W W':World}{base:Nat}{t:TypeId}{size n:Nat}{v:Value}{xs:List Value}(h:W.ownsRow base t size v n xs)(hg:W.grownBy W' v.ownBlock):dH t W W':=
 fun j _ _ hj hne=>hg.block j (afF.1 hj).1 (uP h hj hne)
theorem aP{W W':World}{B:Nat}{t:TypeId}{cs:Array Value}(hB:W.heap[B]?=some (.cells cs t (0,0)))(h:∀j,j≠B->W'.heap[j]?=W.heap[j]?):dH t W W':=
 fun j cs' e hj hne=>h j fun e'=>by subst e';rw[hB]at hj;cases hj;exact hne rfl
theorem TP{W W':World}{B:Nat}{t:TypeId}{cs:Array Value}(hB:W.heap[B]?=some (.cells cs t (0,0)))(h:AX.But B W W'):dH t W W':=
 fun j cs' e hj hne=>h.same j (afF.1 hj).1 fun e'=>by subst e';rw[hB]at hj;cases hj;exact hne rfl
def Apart(u v:Value):Prop:=∀g,u.ownBlock=some g->v.ownBlock≠some g
theorem Apart.symm{u v:Value}(h:Apart u v):Apart v u:=fun g hg hg'=>h g hg' hg
structure St(w W:World)(Rb:Nat)(s:ByteArray)(at_ e:Int)(rv sv:Value)(r:List NL)(fs:List (Value×Value))(rows:List (Value×List Int)):Prop where
 low:Below w.heap.size w W
 rb:w.heap.size<=Rb
 rd:Rdr W Rb s at_ rv sv e
 ro:BN W w.heap.size rv r
 so:jG W w.heap.size sv fs
 io:∀p∈rows,bG W w.heap.size p.1 p.2
 dis:rows.Pairwise fun p q=>Apart p.1 q.1
 ka:∀y∈r,KAt W none y.kv y.x.kids
 kd:∀y∈r,∀p∈rows,Apart p.1 y.kv
 kb:∀y∈r,∀g,y.kv.ownBlock=some g->w.heap.size<=g
section
variable {w W W' : World} {Rb : Nat} {s : ByteArray} {at_ e : Int} {rv sv : Value} {r : List NL} {fs : List (Value × Value)} {rows : List (Value × List Int)}
theorem St.below(h:St w W Rb s at_ e rv sv r fs rows)(hb:Below W.heap.size W W'):St w W' Rb s at_ e rv sv r fs rows:=
 ⟨h.low.trans (hb.mono h.low.size),h.rb,h.rd.below hb h.rd.lt,bP h.ro (fun g e=>hb.block _ (World.ownsRow.lt h.ro g e).2),bP h.so (fun g e=>hb.block _ (World.ownsRow.lt h.so g e).2),
  fun p hp=>bP (h.io p hp) (fun g e=>hb.block _ (World.ownsRow.lt (h.io p hp) g e).2),h.dis,fun y hy=>(h.ka y hy).same fun _ _ hB hn=>⟨hb.block _ (afF.1 hB).1,hn⟩,h.kd,h.kb⟩
theorem St.box{at2 e2:Int}(h:St w W Rb s at_ e rv sv r fs rows)(hb:AX.But Rb W W')(hR:Rdr W' Rb s at2 rv sv e2):St w W' Rb s at2 e2 rv sv r fs rows:=by
 have hs:dH 168 W W':=TP h.rd hb;exact⟨h.low.trans (((fM.wB (S:=fun j=>j=Rb) hb rfl).below h.low.size (fun k hk=>by rw[hk];exact h.rb))),h.rb,hR,aC h.ro hs (by decide),aC h.so hs (by decide),fun p hp=>aC (h.io p hp) hs (by decide),h.dis,fun y hy=>(h.ka y hy).aW hs (by decide),h.kd,h.kb⟩
theorem St.node{W1 W2:World}{rv':Value}(h:St w W Rb s at_ e rv sv r fs rows)(y:NL)(hk:KAt W none y.kv y.x.kids)(hd:∀p∈rows,Apart p.1 y.kv)(hkb:∀g,y.kv.ownBlock=some g->w.heap.size<=g)(hn:BN W1 w.heap.size rv' (r++[y]))(hg:W.grownBy W1 rv.ownBlock)
  (hR:Rdr W2 Rb s at_ rv' sv e) (h4:∀j,j≠Rb->W2.heap[j]?=W1.heap[j]?) (h5:AX.Same W1 W2):St w W2 Rb s at_ e rv' sv (r++[y]) fs rows:=by
 have s1:dH 153 W W1:=aX h.ro hg;have hR1:Rdr W1 Rb s at_ rv sv e:=(s1 Rb _ 168 h.rd (by decide)).trans h.rd;have s2:dH 168 W1 W2:=aP hR1 h4;have b1:=(afI w.heap.size W).grown hg h.low.size fun j ej=>(World.ownsRow.lt h.ro j ej).1;have b2:=AX.ah (n:=w.heap.size) h.rb (.inl hR.lt) h4 h5;refine⟨h.low.trans (b1.trans b2),h.rb,hR,aC hn s2 (by decide),aC (aC h.so s1 (by decide)) s2 (by decide),fun p hp=>aC (aC (h.io p hp) s1 (by decide)) s2 (by decide),h.dis,fun z hz=>?_,fun z hz=>?_,fun z hz=>?_⟩
 ·rcases af2.1 hz with hz|hz
  ·exact ((h.ka z hz).aW s1 (by decide)).aW s2 (by decide)
  ·rw[afK.1 hz];exact(hk.aW s1 (by decide)).aW s2 (by decide)
 ·rcases af2.1 hz with hz|hz
  ·exact h.kd z hz
  ·rw[afK.1 hz];exact hd
 ·rcases af2.1 hz with hz|hz
  ·exact h.kb z hz
  ·rw[afK.1 hz];exact hkb
theorem St.drop{p:Value×List Int}(h:St w W Rb s at_ e rv sv r fs (p::rows)):St w W Rb s at_ e rv sv r fs rows:=
 ⟨h.low,h.rb,h.rd,h.ro,h.so,fun q hq=>h.io q (afV _ hq),(agF.1 h.dis).2,h.ka,fun y hy q hq=>h.kd y hy q (afV _ hq),h.kb⟩
theorem St.kids{p:Value×List Int}(h:St w W Rb s at_ e rv sv r fs (p::rows)):KAt W none p.1 p.2/\(∀q∈rows,Apart q.1 p.1)/\∀g,p.1.ownBlock=some g->w.heap.size<=g:=
 ⟨KAt.wC (h.io p (afS ..)) (fun g _=>by simp),fun q hq=>((agF.1 h.dis).1 q hq).symm,fun g hg=>(World.ownsRow.lt (h.io p (afS ..)) g hg).1⟩
theorem St.perm{rows':List (Value×List Int)}(h:St w W Rb s at_ e rv sv r fs rows)(p:rows.Perm rows'):St w W Rb s at_ e rv sv r fs rows':=
 ⟨h.low,h.rb,h.rd,h.ro,h.so,fun q hq=>h.io q (p.mem_iff.2 hq),p.pairwise h.dis Apart.symm,h.ka,fun y hy q hq=>h.kd y hy q (p.mem_iff.2 hq),h.kb⟩
theorem St.num{v v':Value}{l l':List Int}(h:St w W Rb s at_ e rv sv r fs ((v,l)::rows))(ho:bG W' w.heap.size v' l')(hg:W.grownBy W' v.ownBlock)(hat:v'.ownBlock=v.ownBlock\/v'.ownBlock=some W.heap.size):St w W' Rb s at_ e rv sv r fs ((v',l')::rows):=by
 have hv:=h.io (v,l) (afS ..);have s1:dH 3 W W':=aX hv hg;have b1:=(afI w.heap.size W).grown hg h.low.size fun j ej=>(World.ownsRow.lt hv j ej).1;have hd:=(agF.1 h.dis).1;have hap:∀u:Value,(∀g,u.ownBlock=some g->g<W.heap.size)->Apart v u->Apart v' u:=fun u hu hau g hgv hgu=>by
  rcases hat with e1|e1
  ·exact hau g (e1▸ hgv) hgu
  ·rw[e1]at hgv
   have:=hu g hgu;have:=agc hgv;omega
 refine⟨h.low.trans b1,h.rb,(s1 Rb _ 168 h.rd (by decide)).trans h.rd,aC h.ro s1 (by decide),aC h.so s1 (by decide),fun q hq=>?_,?_,fun y hy=>?_,fun y hy q hq=>?_,h.kb⟩
 ·rcases afX.1 hq with rfl|hq
  ·exact ho
  ·refine bP (h.io q (afV _ hq)) fun g eg=>hg.block g (World.ownsRow.lt (h.io q (afV _ hq)) g eg).2 fun e'=>hd q hq g e'.symm eg
 ·refine agF.2 ⟨fun q hq=>hap q.1 (fun g eg=>(World.ownsRow.lt (h.io q (afV _ hq)) g eg).2) (hd q hq),(agF.1 h.dis).2⟩
 ·rcases h.ka y hy with hk|⟨B,c,cs,e1,e2,e3,e4⟩
  ·exact .inl hk
  ·have e5:=hg.block B (afF.1 e2).1 (fun e'=>h.kd y hy (v,l) (afS ..) B e'.symm (by rw[e1];rfl))
   exact .inr ⟨B,c,cs,e1,e5.trans e2,e3,fun i x hx=>(bZ e5).trans (e4 i x hx)⟩
 ·rcases afX.1 hq with rfl|hq
  ·refine hap y.kv (fun g eg=>?_) (h.kd y hy (v,l) (afS ..))
   rcases h.ka y hy with ⟨e1,_⟩|⟨B,c,cs,e1,e2,e3,e4⟩
   ·rw[e1]at eg;simp[Value.ownBlock]at eg
   ·rw[e1]at eg
    have:B=g:=(by simpa[Value.ownBlock]using eg);rw[<-this];exact (afF.1 e2).1
  ·exact h.kd y hy q (afV _ hq)
theorem St.empty(h:St w W Rb s at_ e rv sv r fs rows):St w W Rb s at_ e rv sv r fs ((.slice none 0 0,[])::rows):=by
 have hn:∀u,Apart (.slice none 0 0) u:=fun u g hg=>by simp[Value.ownBlock]at hg
 refine⟨h.low,h.rb,h.rd,h.ro,h.so,fun q hq=>?_,agF.2 ⟨fun q _=>hn _,h.dis⟩,h.ka,fun y hy q hq=>?_,h.kb⟩
 ·rcases afX.1 hq with rfl|hq
  ·exact World.ownsRow_nil _ _ _ _
  ·exact h.io q hq
 ·rcases afX.1 hq with rfl|hq
  ·exact hn _
  ·exact h.kd y hy q hq
def vI(b:Nat)(W:World)(v:Value)(r:List Nd):Prop:=∀W',W.heap.size<=W'.heap.size->(∀j,b<=j->j<W.heap.size->W'.heap[j]?=W.heap[j]?)->jB W' v r
theorem vI.row{b:Nat}{v:Value}{r:List Nd}(h:vI b W v r):jB W v r:=h W afD fun _ _ _=>rfl
theorem St.far(h:St w W Rb s at_ e rv sv r fs rows):vI w.heap.size W rv (r.map (·.x)):=fun W' _ hk=>by
 have ho:BN W' w.heap.size rv r:=bP h.ro fun g hg=>hk g (World.ownsRow.lt h.ro g hg).1 (World.ownsRow.lt h.ro g hg).2;refine ho.ael (own:=none) fun y hy=>?_;rcases h.ka y hy with h1|⟨B,c,cs,e1,e2,e3,e4⟩
 ·exact .inl h1
 ·have e5:=hk B (h.kb y hy B (by rw[e1];rfl)) (afF.1 e2).1
  exact .inr ⟨B,c,cs,e1,e5.trans e2,e3,fun i x hx=>(bZ e5).trans (e4 i x hx)⟩
theorem jG.block{base:Nat}(h:jG W base sv fs)(hn:fs≠[]):∃Sb c cs,sv=.slice (some ⟨Sb,0,none⟩) fs.length c/\W.heap[Sb]?=some (.cells cs 165 (0,0))/\base<=Sb/\fs.length*2<=cs.size/\cs.toList.take (fs.length*2)=fs.flatMap nS:=by
 rcases h.2 with ⟨_,h0⟩|⟨g,cap,cur,e1,hg,hh,hc1,hc2,hc3,hc4⟩
 ·exact absurd (agB h0) hn
 ·exact⟨g,cap,cur,e1,hh,hg,by rw[hc3];exact ah9 _ hc1,hc4⟩
theorem MG(l:List (Value×Value)):(l.flatMap nS).length=l.length*2:=Hf nS 2 (fun _=>rfl) l
theorem St.top{f:Value×Value}{Sb c:Nat}(h:St w W Rb s at_ e rv sv r (fs++[f]) rows)(hsv:sv=.slice (some ⟨Sb,0,none⟩) (fs.length+1) c):
  W.cell? ⟨Sb,fs.length*2,none⟩=some f.1/\W.cell? ⟨Sb,fs.length*2+1,none⟩=some f.2:=by
 have hc:∀q v,(nS f)[q]?=some v->W.cell? ⟨Sb,fs.length*2+q,none⟩=some v:=fun q v hv=>by
  have:=World.ownsRow.cells h.so (g:=Sb) (by rw[hsv];rfl) (fs.length*2+q) v (flat_get nS 2 (fun _=>rfl) _ fs.length f (by simp) q v hv)
  rwa [addr_add,af9]at this
 exact⟨hc 0 _ rfl,hc 1 _ rfl⟩
end
end Go.Proofs.YtkjgogdkdejljaaGreatDoor.Rx
