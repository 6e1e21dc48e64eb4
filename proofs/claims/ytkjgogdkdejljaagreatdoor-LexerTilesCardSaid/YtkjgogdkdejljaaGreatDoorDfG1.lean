import Derived.Test.YtkjgogdkdejljaaGreatDoorDfF3r
import Derived.Test.YtkjgogdkdejljaaGreatDoorTie
import Derived.Test.YtkjgogdkdejljaaGreatDoorCards
import Derived.Lib.SmallJoins
namespace Go.Proofs.YtkjgogdkdejljaaGreatDoor.Df
open Go.Lib (hid)
open Go Go.Proofs Go.RowKit
attribute [local go_sem] Oper.semAt_some
def Qo(w:World)(e:Ending)(w':World):Prop:=Below w.heap.size w w' ∧
  ((∃ at_ er,er≠0∧e = .returned (.tuple #[.agg #[.slice none 0 0, .slice none 0 0, .slice none 0 0, .int .i64 0], .int .i64 at_, .int .i64 er])) ∨
   ∃(next rule kind:List Int)(kinds:Int)(an ar ak:Option Addr)(cn cr ck at_:Nat),Lx.okL next rule kind kinds=true∧next.length≤1000000∧rule.length≤1000000∧kind.length≤1000000 ∧
     e = .returned (.tuple #[.agg #[.slice an next.length cn, .slice ar rule.length cr, .slice ak kind.length ck, .int .i64 kinds], .int .i64 at_, .int .i64 0])∧aJ w' an next∧aJ w' ar rule∧aJ w' ak kind)
theorem TU(R:List Rl)(hlt:kF R=true)(la:Option Addr)(c:Nat)(w:World)(hp:0<w.heap.size)(hT:TabAt w)(hR:sU w la R):Calls Tryz.prog 11 #[.slice la R.length c] w (Qo w):=by
 unfold kF at hlt
 simp only[Bool.and_eq_true,decide_eq_true_eq] at hlt
 have hs:∀ x∈R,x.re.size≤254:=fun x hx=>by
  have:=List.all_eq_true.1 hlt.1 x hx
  unfold nK at this
  simp only[Bool.and_eq_true,decide_eq_true_eq] at this
  omega
 refine(xO R hs (by omega) la c w hp hT hR).mono fun e w' h=>?_
 obtain⟨hb,⟨at_,er,h1,_,h2⟩ | ⟨tss,T,an,ar,ak,cn,cr,ck,h1,h2,h3,h4,h5⟩⟩:=h
 ·exact⟨hb, .inl ⟨at_,er,h1,h2⟩⟩
 ·have hok:=(DJ h1 hs (by omega)).2
  have hok2:=hok
  unfold Lx.okL Lx.okT at hok2
  simp only[Bool.and_eq_true,decide_eq_true_eq] at hok2
  obtain⟨⟨_,r5,n5,_⟩,_⟩:=hok2
  have hk:=(zu _ R rfl).1
  exact⟨hb, .inr ⟨_,_,_,_,an,ar,ak,cn,cr,ck,R.length,hok,by omega,by omega,by omega,h2,h3,h4,h5⟩⟩
def TV(W:World)(v0 v1 v2 v3:Value):Prop:=∃(next rule kind:List Int)(kinds:Int)(an ar ak:Option Addr)(cn cr ck:Nat),Lx.okL next rule kind kinds=true∧next.length≤1000000∧rule.length≤1000000∧kind.length≤1000000 ∧
 v0 = .slice an next.length cn∧v1 = .slice ar rule.length cr∧v2 = .slice ak kind.length ck∧v3 = .int .i64 kinds∧aJ W an next∧aJ W ar rule∧aJ W ak kind
def Fe(w:World)(e:Ending)(w':World):Prop:=∃(v0 v1 v2 v3:Value)(at_ er:Int),e = .returned (.tuple #[.agg #[v0,v1,v2,v3], .int .i64 at_, .int .i64 er])∧[v0,v1,v2,v3].all Value.oneCell'=true∧Below w.heap.size w w'∧(er≠0∨er=0∧TV w' v0 v1 v2 v3)
theorem Qp(R:List Rl)(hlt:kF R=true)(la:Option Addr)(c:Nat)(w:World)(hp:0<w.heap.size)(hT:TabAt w)(hR:sU w la R):Calls Tryz.prog 11 #[.slice la R.length c] w (Fe w) :=
 (TU R hlt la c w hp hT hR).mono fun e w' h=>by
  obtain⟨hb,⟨at_,er,h1,h2⟩ | ⟨next,rule,kind,kinds,an,ar,ak,cn,cr,ck,at_,h1,h2,h3,h4,h5,h6,h7,h8⟩⟩:=h
  ·exact⟨_,_,_,_,at_,er,h2,rfl,hb, .inl h1⟩
  ·exact⟨_,_,_,_,at_,0,h5,rfl,hb, .inr ⟨rfl,next,rule,kind,kinds,an,ar,ak,cn,cr,ck,h1,h2,h3,h4,rfl,rfl,rfl,rfl,h6,h7,h8⟩⟩
theorem Jz(l:List Nat)(hb:∀ b∈l,b<256)(j:Nat)(hj:j<(Lx.oJ l).size)(c:Nat)(hc:l[j]?=some c):(Lx.oJ l)[j].toNat=c:=by
 obtain⟨h1,h2⟩:=List.getElem?_eq_some_iff.1 hc
 have h3:(Lx.oJ l)[j]=UInt8.ofNat l[j]:=by
  have e:((l.map UInt8.ofNat).toArray)[j]'(by simpa using h1)=UInt8.ofNat l[j]:=by simp
  exact e
 rw[h3,h2,UInt8.toNat_ofNat']
 exact Nat.mod_eq_of_lt (hb c (h2 ▸ List.getElem_mem h1))
set_option maxRecDepth 100000 in
set_option maxHeartbeats 16000000 in
theorem MJ(R:List Rl)(hl:R.length≤9223372036854775807)(la:Option Addr)(c:Nat)(s:ByteArray)(which k:Int)(w:World)(hp:0<w.heap.size)(hT:TabAt w)(hR:sU w la R) :
  Calls Tryz.prog 7 #[.slice la R.length c, .string s, .int .i64 which, .int .i64 k] w fun e w'=>e = .returned (.bool true)∧Below w.heap.size w w':=by
 have hlv:=Jc w hp hT
 have hlg:=fun(W:World)(hb:Below w.heap.size w W)=>Gv R hl la c W (hR.below hb Nat.le.refl)
 have hbu:=fun(hlt:kF R=true)(W:World)(hb:Below w.heap.size w W)=>Qp R hlt la c W (Nat.lt_of_lt_of_le hp hb.size) (hT.below hb hp) (hR.below hb Nat.le.refl)
 unfold Fe at hbu
 obtain⟨lt,hlt⟩:∃ lt,lt=kF R:=⟨_,rfl⟩
 rw[←hlt] at hlg hbu
 obtain⟨n,hn⟩:∃ n,n=R.length:=⟨_,rfl⟩
 rw[←hn] at hlg hbu ⊢
 clear hlt hn hR hT hl
 cases lt with
 | false =>
  clear hbu
  go_enter Tryz.func7,Tryz.ntmps7
  go_wp2_with (first
   | (go_at_call 9;((with_reducible refine hlv.mono ?_);rintro e W1 ⟨rfl,hb1⟩))
   | (go_at_call 10;((with_reducible refine(hlg _ hb1).mono ?_);rintro e W2 ⟨rfl,rfl⟩)))
  exact bodyPost_ret (v := .bool true) (by simp[results,Tryz.results7,go_sem]) rfl ⟨rfl,hb1⟩
 | true =>
  replace hbu:=hbu rfl
  by_cases hs:(60:Int)<(s.size:Int)
  ·clear hbu
   go_enter Tryz.func7,Tryz.ntmps7
   go_wp2_with (first
    | (go_at_call 9;((with_reducible refine hlv.mono ?_);rintro e W1 ⟨rfl,hb1⟩))
    | (go_at_call 10;((with_reducible refine(hlg _ hb1).mono ?_);rintro e W2 ⟨rfl,rfl⟩)))
   exact bodyPost_ret (v := .bool true) (by simp[results,Tryz.results7,go_sem]) rfl ⟨rfl,hb1⟩
  by_cases hk0:k<0
  ·clear hbu
   go_enter Tryz.func7,Tryz.ntmps7
   go_wp2_with (first
    | (go_at_call 9;((with_reducible refine hlv.mono ?_);rintro e W1 ⟨rfl,hb1⟩))
    | (go_at_call 10;((with_reducible refine(hlg _ hb1).mono ?_);rintro e W2 ⟨rfl,rfl⟩)))
   exact bodyPost_ret (v := .bool true) (by simp[results,Tryz.results7,go_sem]) rfl ⟨rfl,hb1⟩
  by_cases hk9:(9:Int)<k
  ·clear hbu
   go_enter Tryz.func7,Tryz.ntmps7
   go_wp2_with (first
    | (go_at_call 9;((with_reducible refine hlv.mono ?_);rintro e W1 ⟨rfl,hb1⟩))
    | (go_at_call 10;((with_reducible refine(hlg _ hb1).mono ?_);rintro e W2 ⟨rfl,rfl⟩)))
   exact bodyPost_ret (v := .bool true) (by simp[results,Tryz.results7,go_sem]) rfl ⟨rfl,hb1⟩
  go_enter Tryz.func7,Tryz.ntmps7
  go_upto_region 6 with (first
   | (go_at_call 9;((with_reducible refine hlv.mono ?_);rintro e W1 ⟨rfl,hb1⟩))
   | (go_at_call 10;((with_reducible refine(hlg _ hb1).mono ?_);rintro e W2 ⟨rfl,rfl⟩))
   | (go_at_call 11;((with_reducible refine(hbu _ hb1).mono ?_);rintro e W3 ⟨v0,v1,v2,v3,at_,er,rfl,hone,hb3,hcase⟩;have xN:=Bx.new W3 29 #[.slice none 0 0, .slice none 0 0, .slice none 0 0, .int .i64 0]))
   | ((with_reducible refine bP ?_);refine AX.au (vs:=[v0,v1,v2,v3]) rfl rfl AQ xN rfl hone ?_;rintro W4 g3 g4 g5))
  have x4:Bx W4 W3.heap.size 29 #[v0,v1,v2,v3]:=g3
  have vg:Below W3.heap.size W3 W4:=((Below.refl W3.heap.size W3).alloc Nat.le.refl _).trans (AX.aj Nat.le.refl (.inl x4.lt) g4 g5)
  obtain⟨NB,hNB⟩:∃ NB,NB=W3.heap.size:=⟨_,rfl⟩
  rw[←hNB] at x4 ⊢
  have HB4:Hid (Below w.heap.size w W4):=hid ((hb1.trans (hb3.mono hb1.size)).trans (vg.mono (Nat.le_trans hb1.size hb3.size)))
  rcases hcase with her | ⟨rfl,next,rule,kind,kinds,an,ar,ak,cn,cr,ck,hok,hn1,hr1,hk1,rfl,rfl,rfl,rfl,hN,hRu,hK⟩
  ·have hd:decide (er=0)=false:=decide_eq_false her
   clear hb1 hb3 vg g3 g4 g5 xN hNB hbu hlg hlv x4
   go_wp2_with fail
   exact bodyPost_ret (v := .bool true) (by simp[results,Tryz.results7,go_sem]) rfl ⟨rfl,HB4.out⟩
  have hN4:=hN.below vg Nat.le.refl
  have hR4:=hRu.below vg Nat.le.refl
  have hK4:=hK.below vg Nat.le.refl
  have YP:s.size≤60:=by omega
  have hall:=Lx.all_in (w:=W4) (cn:=cn) (cr:=cr) (ck:=ck) hn1 hr1 hk1 hN4 hR4 hK4 s (by omega) hok
  have hfit:=Lx.oK hok
  have hbt:=Lx.rY s
  have hsl:(Lx.sb s).length=s.size:=Lx.bZ s
  have htl:=xW hfit hbt _ 0 Nat.le.refl (Nat.zero_le _)
  have hrl:=Lx.oL hfit hbt _ 0 Nat.le.refl (Nat.zero_le _)
  obtain⟨T,hT⟩:∃ T,T=Lx.eD next rule kind (Lx.sb s) 0:=⟨_,rfl⟩
  have hwin:∀ i0:Nat,i0≤s.size→∀ W (hb:Below W4.heap.size W4 W),Calls Tryz.prog 24 #[Lx.lV an ar ak next.length rule.length kind.length cn cr ck kinds, .string s, .int .i64 i0, .int .i64 k] W fun e w'=>e = .returned (Lx.wW (Lx.eD next rule kind (Lx.sb s) i0) i0 k)∧Below W.heap.size W w':=fun i0 hi0 W hb=>by
   by_cases WV:k<1
   ·obtain rfl:k=0:=by omega
    exact Lx.Gw hn1 hr1 hk1 (hN4.below hb Nat.le.refl) (hR4.below hb Nat.le.refl) (hK4.below hb Nat.le.refl) s i0 (by omega) hok hi0 0 (by omega)
   ·exact Lx.Gx hn1 hr1 hk1 (hN4.below hb Nat.le.refl) (hR4.below hb Nat.le.refl) (hK4.below hb Nat.le.refl) s i0 (by omega) hok hi0 k WV (by omega)
  unfold Lx.lV at hall hwin
  rw[←hT] at hall htl hrl
  obtain⟨nl,hnl⟩:∃ nl,nl=next.length:=⟨_,rfl⟩
  obtain⟨rl,hrl2⟩:∃ rl,rl=rule.length:=⟨_,rfl⟩
  obtain⟨kl,hkl⟩:∃ kl,kl=kind.length:=⟨_,rfl⟩
  rw[←hnl,←hrl2,←hkl] at hall hwin x4 ⊢
  have HX4:=hid x4
  have HFI:=hid hfit
  have HBT:=hid hbt
  have HT:=hid hT
  have HTL:=hid htl
  have HRL:=hid hrl
  have HSL:=hid hsl
  have l0:=x4.cell 0
  have l1:=x4.cell 1
  have l2:=x4.cell 2
  have l3:=x4.cell 3
  clear hb1 hb3 vg g3 g4 g5 xN hNB hbu hlg hlv x4 hN hRu hK hN4 hR4 hK4 hok hn1 hr1 hk1 hfit hbt hT htl hrl hsl hnl hrl2 hkl hone
  go_upto_region 9 with (go_at_call 16;((with_reducible refine hall.mono ?_);rintro e W5 ⟨⟨v,rfl,hv⟩,hb5⟩))
  have TW:1≤T.length:=HTL.out.pos
  obtain⟨g,c5,rfl⟩:=AP hv (by omega)
  have hg5:=(World.ownsRow.lt hv g rfl).2
  have hcl:∀(i:Nat)(x:Lx.Tk),T[i]?=some x→W5.cell? ⟨g,i*5,none⟩=some (.int .i64 x.k)∧W5.cell? ⟨g,i*5+1,none⟩=some (.int .i64 x.f)∧W5.cell? ⟨g,i*5+2,none⟩=some (.int .i64 x.a)∧W5.cell? ⟨g,i*5+3,none⟩=some (.int .i64 x.t)∧W5.cell? ⟨g,i*5+4,none⟩=some (.int .i64 x.e):=fun i x hx=>by
   obtain⟨hi,rfl⟩:=List.getElem?_eq_some_iff.1 hx
   exact Lx.qI hv hi
  have HCL:=hid hcl
  obtain⟨tl,htl⟩:∃ tl,tl=T.length:=⟨_,rfl⟩
  rw[←htl] at TW ⊢
  have YQ:tl≤61:=by have:=HRL.out;have:=HSL.out;omega
  have htz:¬(tl:Int)=0:=by omega
  have HTN:=hid htl
  have hst:Hid ((0<tl∧jF s.size 0 (T.drop 0))∨(0=tl∧0=s.size)):=hid (.inl ⟨TW,by have:=HTL.out;rw[HSL.out] at this;exact this⟩)
  clear hv hcl htl hall
  go_upto_region 13 with fail
  go_loopw [14,15] (fun v14 v15 wr=>∃ (at_ i:Nat),v14 = .int .i64 at_∧v15 = .int .i64 i∧Below W5.heap.size W5 wr∧i≤tl∧Hid ((i<tl∧jF s.size at_ (T.drop i))∨(i=tl∧at_=s.size))) (fun _ v15 _=>tl-(intOf v15).toNat)
  case atStart=>exact⟨0,0,rfl,rfl,Below.refl _ _,Nat.zero_le _,hst⟩
  case round =>
   clear hst
   obtain⟨at_,i,rfl,rfl,hb,hi,hst⟩:=hrel
   have hi0:(0:Int)≤(i:Int):=by omega
   by_cases hlt:i<tl
   ·have hi1:(i:Int)<(tl:Int):=by omega
    have hti:jF s.size at_ (T.drop i):=by
     rcases hst.out with h | h
     ·exact h.2
     ·omega
    obtain⟨x,hx,hok,hlast,hen,hmore⟩:=hti.at (by have:=HTN.out;omega)
    obtain⟨e0,e1,e2,e3,e4⟩:=HCL.out i x hx
    have hgr:g<wr.heap.size:=Nat.lt_of_lt_of_le hg5 hb.size
    have d0:=AX.aD ((hb.cell (p:=⟨g,i*5,none⟩) hg5).trans e0) hgr
    have d1:=AX.aD ((hb.cell (p:=⟨g,i*5+1,none⟩) hg5).trans e1) hgr
    have d2:=AX.aD ((hb.cell (p:=⟨g,i*5+2,none⟩) hg5).trans e2) hgr
    have d3:=AX.aD ((hb.cell (p:=⟨g,i*5+3,none⟩) hg5).trans e3) hgr
    have d4:=AX.aD ((hb.cell (p:=⟨g,i*5+4,none⟩) hg5).trans e4) hgr
    obtain⟨xk,xf,xa,xt,xe⟩:=x
    obtain⟨hf,_,ha,ht,hn,he,he1,MK,hne⟩:=hok
    simp only at d0 d1 d2 d3 d4 hf ha ht hn he he1 MK hne hlast hen hmore
    subst hf
    have n1:¬xa<xf:=by omega
    have n2:¬xt<xa:=by omega
    have n3:¬xe≤xt:=by omega
    have n4:¬s.size+1<xe:=by omega
    have h4:¬((s.size:Int)+1)<(xe:Int):=by omega
    have HX:=hid hx
    have HMO:=hid hmore
    have HEN:=hid hen
    clear hx hmore hen hti hst e0 e1 e2 e3 e4 ha ht hn he he1
    haveI:Inhabited (AX.BW wr):=⟨⟨wr,Below.refl _ _⟩⟩
    by_cases hla:i+1=T.length
    ·obtain rfl:xk = -2:=hlast.2 hla
     obtain⟨hxa,hxt⟩:=MK rfl
     have DR:(i:Int)=(tl:Int)-1:=by have:=HTN.out;omega
     have hil:decide ((i:Int)=(tl:Int)-1)=true:=decide_eq_true DR
     have WW:((i:Int) == (tl:Int)-1)=true:=beq_iff_eq.2 DR
     clear DR
     have hnext:Hid ((i+1<tl∧jF s.size xt (T.drop (i+1)))∨(i+1=tl∧xt=s.size)):=hid (.inr ⟨by have:=HTN.out;omega,HEN.out rfl⟩)
     have HLA:=hid hla
     subst hxa hxt
     clear hlast MK hne hla
     go_upto_region 15 with fail
     dsimp only[List.append]
     refine AX.eB (C:=fun W=>∃ p:AX.BW wr,W=p.W) tJ _ (by kernel_rfl) (by kernel_rfl) rfl (by kernel_rfl) (by kernel_rfl) (by intro c a d v w h;cases d<;>exact h) ⟨⟨wr.drew,(Below.refl _ wr).drew⟩,rfl⟩ ?_
     unfold tJ
     repeat (refine AX.bQ _ (by rfl) ?_;go_big_quiet_step (fail);refine wpQuiet_nil ?_)
     unfold AX.eu
     have f3:=d3 ⟨wr.drew,(Below.refl _ wr).drew⟩
     have hbd:Below W5.heap.size W5 wr.drew:=hb.trans ((Below.refl W5.heap.size wr).drew)
     simp only at f3
     have HBD:=hid hbd
     clear d0 d1 d2 d3 d4 hbd
     go_wp2_with fail
     exact⟨⟨s.size,i+1,rfl,by simp,HBD.out,by omega,hnext⟩,by simp[intOf];omega⟩
    ·have hk2:¬xk = -2:=fun e=>hla (hlast.1 e)
     have hta:=hne hk2
     have DR:¬(i:Int)=(tl:Int)-1:=by have:=HTN.out;omega
     have hil:decide ((i:Int)=(tl:Int)-1)=false:=decide_eq_false DR
     have WW:((i:Int) == (tl:Int)-1)=false:=beq_eq_false_iff_ne.2 DR
     have n5:¬xt=xa:=by omega
     have n6:(xt == xa)=false:=beq_eq_false_iff_ne.2 n5
     have hk3:(xk == -2)=false:=beq_eq_false_iff_ne.2 hk2
     have hk4:(xk != -2)=true:=bne_iff_ne.2 hk2
     clear DR
     have hnext:Hid ((i+1<tl∧jF s.size xt (T.drop (i+1)))∨(i+1=tl∧xt=s.size)):=hid (.inl ⟨by have:=HTN.out;omega,HMO.out hk2⟩)
     clear hlast MK hne hla hta
     go_upto_region 15 with fail
     dsimp only[List.append]
     refine AX.eB (C:=fun W=>∃ p:AX.BW wr,W=p.W) tJ _ (by kernel_rfl) (by kernel_rfl) rfl (by kernel_rfl) (by kernel_rfl) (by intro c a d v w h;cases d<;>exact h) ⟨⟨wr.drew,(Below.refl _ wr).drew⟩,rfl⟩ ?_
     unfold tJ
     repeat (refine AX.bQ _ (by rfl) ?_;go_big_quiet_step (fail);refine wpQuiet_nil ?_)
     unfold AX.eu
     have f3:=d3 ⟨wr.drew,(Below.refl _ wr).drew⟩
     have hbd:Below W5.heap.size W5 wr.drew:=hb.trans ((Below.refl W5.heap.size wr).drew)
     simp only at f3
     have HBD:=hid hbd
     clear d0 d1 d2 d3 d4 hbd
     go_wp2_with fail
     exact⟨⟨xt,i+1,rfl,by simp,HBD.out,by omega,hnext⟩,by simp[intOf];omega⟩
   ·have hi1:¬(i:Int)<(tl:Int):=by omega
    obtain rfl:i=tl:=by omega
    obtain rfl:at_=s.size:=by
     rcases hst.out with h | h
     ·omega
     ·exact h.2
    have hpk:=Jy which i (by omega) (by omega)
    unfold Jw at hpk
    clear hst
    go_upto_region 19 with (go_at_call 19;((with_reducible refine(hpk _).mono ?_);rintro e W6 ⟨q,hq,rfl,rfl⟩))
    obtain⟨x,hx⟩:∃ x,T[q]?=some x:=⟨_,List.getElem?_eq_getElem (by have:=HTN.out;omega)⟩
    obtain⟨hxf,hdr⟩:=Bo HFI.out HBT.out q 0 (Nat.zero_le _) x (by rw[←HT.out];exact hx)
    rw[←HT.out] at hdr
    rw[HSL.out] at hxf
    obtain⟨e0,e1,e2,e3,e4⟩:=HCL.out q x hx
    have hw6:=hwin x.f hxf
    rw[←hdr] at hw6
    obtain⟨D,hD⟩:∃ D,D=T.drop q:=⟨_,rfl⟩
    rw[←hD] at hw6
    obtain⟨f0,hf0⟩:∃ f0,f0=x.f:=⟨_,rfl⟩
    rw[←hf0] at hw6 e1 hxf
    unfold Lx.wW at hw6
    obtain⟨kk,rfl⟩:∃ kk:Nat,k=(kk:Int):=⟨k.toNat,by omega⟩
    rw[Int.toNat_natCast] at hw6
    obtain⟨str,hstr⟩:∃ str,str=Lx.oJ ((D.take kk).map Lx.byt):=⟨_,rfl⟩
    obtain⟨ext,hext⟩:∃ ext,ext=Lx.lC (D.take kk) f0:=⟨_,rfl⟩
    rw[←hstr,←hext] at hw6
    have nL:Below W4.heap.size W4 W6:=hb5.trans (hb.mono hb5.size)
    have hw7:=fun p:AX.BW W6=>hw6 p.W (nL.trans (p.h.mono nL.size))
    have hnl:NB<W6.heap.size:=Nat.lt_of_lt_of_le HX4.out.lt nL.size
    have hgr:g<W6.heap.size:=Nat.lt_of_lt_of_le hg5 hb.size
    have m0:=AX.aD ((nL.cell (p:=⟨NB,0,none⟩) HX4.out.lt).trans l0) hnl
    have m1:=AX.aD ((nL.cell (p:=⟨NB,1,none⟩) HX4.out.lt).trans l1) hnl
    have m2:=AX.aD ((nL.cell (p:=⟨NB,2,none⟩) HX4.out.lt).trans l2) hnl
    have m3:=AX.aD ((nL.cell (p:=⟨NB,3,none⟩) HX4.out.lt).trans l3) hnl
    have d1:=AX.aD ((hb.cell (p:=⟨g,q*5+1,none⟩) hg5).trans e1) hgr
    have hq0:(0:Int)≤(q:Int):=by omega
    have hq1:(q:Int)<(i:Int):=by omega
    have HD:=hid hD
    have HF0:=hid hf0
    have HX:=hid hx
    have HST:=hid hstr
    have HEX:=hid hext
    haveI:Inhabited (AX.BW W6):=⟨⟨W6,Below.refl _ _⟩⟩
    clear hdr hD hf0 hx hstr hext hwin hw6 l0 l1 l2 l3 e0 e2 e3 e4 hpk
    refine AX.aI (by kernel_rfl) (by kernel_rfl) ?_
    repeat (go_big_quiet_step (first | (go_at_call 24;with_reducible exact AX.dF (hw7 _))))
    refine wpQuiet_nil ?_
    rintro _ ⟨p,rfl⟩
    obtain⟨W7,hb7⟩:=p
    simp only
    obtain⟨nn,hnn⟩:∃ nn,nn=min kk (i-q):=⟨_,rfl⟩
    have hDl:D.length=i-q:=by rw[HD.out,List.length_drop,←HTN.out]
    have hsz:str.size=nn:=by
     rw[HST.out]
     show ((((D.take kk).map Lx.byt).map UInt8.ofNat).toArray).size=nn
     rw[List.size_toArray,List.length_map,List.length_map,List.length_take,hDl,hnn]
    have hmin:min (kk:Int) ((i:Int)-(q:Int))=(nn:Int):=by omega
    have e1':W7.cell? ⟨g,q*5+1,none⟩=some (.int .i64 f0):=d1 ⟨W7,hb7⟩
    have Gy:Below W5.heap.size W5 W7:=hb.trans (hb7.mono hb.size)
    have HSZ:=hid hsz
    have HNN:=hid hnn
    have WX:=hid Gy
    have HDL:=hid hDl
    have hnq:((str.size:Int) != (nn:Int))=false:=by rw[hsz];exact bne_self_eq_false _
    clear m0 m1 m2 m3 d1 hw7 hnn nL hsz hDl Gy
    go_upto_region 25 with fail
    go_loopw [20,21] (fun v20 v21 wr=>∃ j:Nat,v20 = .int .i64 (Lx.lC (D.take j) f0:Nat)∧v21 = .int .i64 j∧j≤nn∧Below W5.heap.size W5 wr) (fun _ v21 _=>nn-(intOf v21).toNat)
    case atStart=>exact⟨0,rfl,rfl,Nat.zero_le _,WX.out⟩
    case round =>
     obtain⟨j,rfl,rfl,hj,hb8⟩:=hrel
     have hj0:(0:Int)≤(j:Int):=by omega
     by_cases hjl:j<nn
     ·have hj1:(j:Int)<(nn:Int):=by omega
      obtain⟨y,hy⟩:∃ y,D[j]?=some y:=⟨_,List.getElem?_eq_getElem (by have:=HDL.out;have:=HNN.out;omega)⟩
      have hy2:T[q+j]?=some y:=by rw[HD.out,List.getElem?_drop] at hy;exact hy
      obtain⟨e0,e1,e2,e3,e4⟩:=HCL.out (q+j) y hy2
      have e0:=(hb8.cell (p:=⟨g,(q+j)*5,none⟩) hg5).trans e0
      have e1:=(hb8.cell (p:=⟨g,(q+j)*5+1,none⟩) hg5).trans e1
      have e2:=(hb8.cell (p:=⟨g,(q+j)*5+2,none⟩) hg5).trans e2
      have e3:=(hb8.cell (p:=⟨g,(q+j)*5+3,none⟩) hg5).trans e3
      have e4:=(hb8.cell (p:=⟨g,(q+j)*5+4,none⟩) hg5).trans e4
      have YR:(0:Int)≤(q:Int)+(j:Int):=by omega
      have YS:(q:Int)+(j:Int)<(i:Int):=by have:=HNN.out;omega
      have hyk:=Lx.mG HFI.out HBT.out _ 0 Nat.le.refl (Nat.zero_le _) y (by rw[←HT.out];exact List.mem_of_getElem? hy2)
      have hjs:j<str.size:=by have:=HSZ.out;omega
      have hby:str[j].toNat=Lx.byt y:=by
       have hb:∀ b∈(D.take kk).map Lx.byt,b<256:=fun b hb=>by
        obtain⟨z,hz,rfl⟩:=List.mem_map.1 hb
        have hz2:z∈T:=by rw[HD.out] at hz;exact List.mem_of_mem_drop (List.mem_of_mem_take hz)
        have:=Lx.mG HFI.out HBT.out _ 0 Nat.le.refl (Nat.zero_le _) z (by rw[←HT.out];exact hz2)
        exact Lx.Qq this.1 this.2
       have ML:=HST.out
       subst ML
       refine Jz _ hb j hjs _ ?_
       rw[List.getElem?_map,List.getElem?_take,if_pos (by have:=HNN.out;omega),hy]
       rfl
      have htk:D.take (j+1)=D.take j++[y]:=by rw[List.take_add_one,hy];rfl
      have hext:Lx.lC (D.take (j+1)) f0=max (Lx.lC (D.take j) f0) y.e:=by rw[htk,Lx.xX]
      obtain⟨ej,hej⟩:∃ ej,ej=Lx.lC (D.take j) f0:=⟨_,rfl⟩
      rw[←hej] at hext ⊢
      obtain⟨yk,yf,ya,yt,ye⟩:=y
      simp only at e0 e1 e2 e3 e4 hyk hext
      have HXT:=hid hext
      have HY:=hid hy
      have hxb:=Bx.new wr 42 #[.int .i64 0, .int .i64 0, .int .i64 0, .int .i64 0, .int .i64 0]
      have hbb:=(Below.refl wr.heap.size wr).alloc Nat.le.refl (.cells #[.int .i64 0, .int .i64 0, .int .i64 0, .int .i64 0, .int .i64 0] 42)
      clear hy hy2 htk hext hej
      go_upto_region 28 with ((with_reducible refine bP ?_);refine AX.au (vs:=[.int .i64 yk, .int .i64 yf, .int .i64 ya, .int .i64 yt, .int .i64 ye]) rfl rfl Lx.lu hxb rfl rfl ?_;rintro Wa g3 g4 g5)
      have xa:Bx Wa wr.heap.size 42 #[.int .i64 yk, .int .i64 yf, .int .i64 ya, .int .i64 yt, .int .i64 ye]:=g3
      have hba:Below wr.heap.size wr Wa:=hbb.trans (AX.aj Nat.le.refl (.inl xa.lt) g4 g5)
      obtain⟨XB,hXB⟩:∃ XB,XB=wr.heap.size:=⟨_,rfl⟩
      rw[←hXB] at xa ⊢
      have c4:Wa.cell? ⟨XB,4,none⟩=some (.int .i64 ye):=xa.cell 4
      obtain⟨mx,hmx⟩:∃ mx:Nat,mx=max ej ye:=⟨_,rfl⟩
      have hmax:max (ej:Int) (ye:Int)=(mx:Int):=by omega
      have HMX:=hid hmx
      have HBA:Hid (Below W5.heap.size W5 Wa):=hid (hb8.trans (hba.mono hb8.size))
      have hxl:=xa.lt
      have c0:=AX.aD (xa.cell 0:Wa.cell? ⟨XB,0,none⟩=some (.int .i64 yk)) hxl
      clear g3 g4 g5 hxb hbb xa hba hXB hmx e0 e1 e2 e3 e4
      go_upto_region 29 with fail
      haveI:Inhabited (AX.BW Wa):=⟨⟨Wa,Below.refl _ _⟩⟩
      have YT:(j:Int)<(str.size:Int):=by omega
      obtain⟨YU,YV⟩:=hyk
      by_cases hk0':0≤yk
      ·obtain⟨bt,rfl⟩:∃ bt:Nat,yk=(bt:Int):=⟨yk.toNat,by omega⟩
       have hbt:str[j].toNat=bt:=by
        rw[hby]
        unfold Lx.byt
        simp only
        rw[if_neg (by omega),if_neg (by omega),Int.toNat_natCast]
       have w2:IntKind.i64.wrap (bt:Int)=(bt:Int):=by rw[IntKind.wrap_i64];omega
       have q1:((bt:Int) == -1)=false:=beq_eq_false_iff_ne.2 (by omega)
       have q2:((bt:Int) == -2)=false:=beq_eq_false_iff_ne.2 (by omega)
       have q3:¬(bt:Int) = -1:=by omega
       have q4:¬(bt:Int) = -2:=by omega
       clear hby
       refine AX.aI (by kernel_rfl) (by kernel_rfl) ?_
       repeat (go_big_quiet_step (fail))
       refine wpQuiet_nil ?_
       rintro _ ⟨p,rfl⟩
       obtain⟨Wb,hbb⟩:=p
       have HBB:Hid (Below W5.heap.size W5 Wb):=hid (HBA.out.trans (hbb.mono HBA.out.size))
       simp only
       clear hbb c0 c4
       go_wp2_with fail
       exact⟨⟨j+1,by rw[HXT.out,←HMX.out],by simp,by omega,HBB.out⟩,by simp[intOf];omega⟩
      ·by_cases hm1:yk = -1
       ·subst hm1
        have hbt:str[j].toNat=254:=hby
        clear hby
        refine AX.aI (by kernel_rfl) (by kernel_rfl) ?_
        repeat (go_big_quiet_step (fail))
        refine wpQuiet_nil ?_
        rintro _ ⟨p,rfl⟩
        obtain⟨Wb,hbb⟩:=p
        have HBB:Hid (Below W5.heap.size W5 Wb):=hid (HBA.out.trans (hbb.mono HBA.out.size))
        simp only
        clear hbb c0 c4
        go_wp2_with fail
        exact⟨⟨j+1,by rw[HXT.out,←HMX.out],by simp,by omega,HBB.out⟩,by simp[intOf];omega⟩
       ·obtain rfl:yk = -2:=by omega
        have hbt:str[j].toNat=255:=hby
        clear hby
        refine AX.aI (by kernel_rfl) (by kernel_rfl) ?_
        repeat (go_big_quiet_step (fail))
        refine wpQuiet_nil ?_
        rintro _ ⟨p,rfl⟩
        obtain⟨Wb,hbb⟩:=p
        have HBB:Hid (Below W5.heap.size W5 Wb):=hid (HBA.out.trans (hbb.mono HBA.out.size))
        simp only
        clear hbb c0 c4
        go_wp2_with fail
        exact⟨⟨j+1,by rw[HXT.out,←HMX.out],by simp,by omega,HBB.out⟩,by simp[intOf];omega⟩
     ·have hj1:¬(j:Int)<(nn:Int):=by omega
      obtain rfl:j=nn:=by omega
      have hee:Lx.lC (D.take j) f0=ext:=by
       rw[HEX.out]
       by_cases h:kk≤i-q
       ·rw[show j=kk by have:=HNN.out;omega]
       ·rw[List.take_of_length_le (by have:=HDL.out;have:=HNN.out;omega),List.take_of_length_le (by have:=HDL.out;omega)]
      rw[hee]
      have HB9:Hid (Below w.heap.size w wr):=hid (HB4.out.trans ((hb5.mono HB4.out.size).trans (hb8.mono (Nat.le_trans HB4.out.size hb5.size))))
      clear hee
      go_wp2_with fail
      exact bodyPost_ret (v := .bool true) (by simp[results,Tryz.results7,go_sem]) rfl ⟨rfl,HB9.out⟩
end Go.Proofs.YtkjgogdkdejljaaGreatDoor.Df
namespace Go.Proofs.YtkjgogdkdejljaaGreatDoor.AX
open Go
variable {H : Type} {enc : TypeId × Value → H} {P : Program} {w w' : World}
theorem gX{α β : Type}{f g : α→Option β} : ∀ {l:List α} {xs:List β},l.mapM f=some xs→(∀ a∈l,∀ y∈xs,f a=some y→g a=some y)→l.mapM g=some xs
 | [],xs,h,_=>by simpa using h
 | a::l,xs,h,hg=>by
  rw[List.mapM_cons] at h ⊢
  cases hf:f a with
  | none=>rw[hf] at h;cases h
  | some y =>
   rw[hf] at h
   cases hr:l.mapM f with
   | none=>simp[hr] at h
   | some ys =>
    simp[hr] at h
    subst h
    rw[hg a (List.mem_cons_self ..) y (List.mem_cons_self ..) hf]
    simp[gX hr fun b hb z hz=>hg b (List.mem_cons_of_mem _ hb) z (List.mem_cons_of_mem _ hz)]
theorem mapM_len{α β : Type}{f : α→Option β} : ∀ {l:List α} {xs:List β},l.mapM f=some xs→xs.length=l.length
 | [],xs,h=>by simp at h;subst h;rfl
 | a::l,xs,h=>by
  rw[List.mapM_cons] at h
  cases hf:f a with
  | none=>rw[hf] at h;cases h
  | some y =>
   rw[hf] at h
   cases hr:l.mapM f with
   | none=>simp[hr] at h
   | some ys =>
    simp[hr] at h
    subst h
    simp[mapM_len hr]
theorem mI{α β : Type}{o o':Option α}{f g : α→Option β}{y : β}(h:o.bind f=some y)(ho:∀ x,o=some x→o'=some x)(hf:∀ x,f x=some y→g x=some y):o'.bind g=some y:=by
 cases o with
 | none=>cases h
 | some x=>rw[ho x rfl];exact hf x h
theorem pF{α β : Type}{o o':Option α}{f : α→β}{y : β}(h:o.map f=some y)(ho:∀ x,o=some x→f x=y→o'=some x):o'.map f=some y:=by
 cases o with
 | none=>cases h
 | some x =>
  have e:f x=y:=by simpa using h
  rw[ho x rfl e];simp[e]
def su(w w':World):Prop:=∀(k:Nat)(o:Obj),w.heap[k]?=some o→w'.heap[k]?=some o
theorem su.cell(h:su w w'){a:Addr}{v:Value}(hc:w.cell? a=some v):w'.cell? a=some v:=by
 unfold World.cell? at hc ⊢
 cases hb:w.heap[a.block]? with
 | none=>simp[hb] at hc
 | some o=>rw[hb] at hc;rw[h _ _ hb];exact hc
theorem su.cells(h:su w w'){b:Nat}{a:Addr}{n:Nat}{l:List Value}(hc:w.cells? b a n=some l):w'.cells? b a n=some l:=by
 unfold World.cells? at hc ⊢
 split at hc
 ·rename_i h0
  rw[if_pos h0]
  exact gX hc fun i _ y _ hy=>h.cell hy
 ·cases hc
def pG(P:Program)(l:List Nat):Bool:=l.all fun t=>match P.underlying t with
 | some (.pointer e)=>l.contains e
 | some (.slice e)=>l.contains e && !(Nat.beq (P.cellsOf e) 0)
 | some (.struct fs)=>fs.toList.all fun f=>l.contains f.type
 | some (.array _ e)=>l.contains e
 | some (.map _ e)=>l.contains e
 | _=>true
theorem Eo{l:List Nat}(h:pG P l=true){t:Nat}(ht:t∈l):(match P.underlying t with
 | some (.pointer e)=>l.contains e
 | some (.slice e)=>l.contains e && !(Nat.beq (P.cellsOf e) 0)
 | some (.struct fs)=>fs.toList.all fun f=>l.contains f.type
 | some (.array _ e)=>l.contains e
 | some (.map _ e)=>l.contains e
 | _=>true)=true:=List.all_eq_true.1 h t ht
theorem mem_row(a:Addr)(n:Nat)(h:0<n):MemPlace.cell a.block a.off∈MemPlace.row a n:=by
 unfold MemPlace.row
 exact List.mem_map.2 ⟨0,List.mem_range.2 h,by simp⟩
theorem pI{α β : Type}{l:List (α×List β)}{y : α×List β}(hy:y∈l){p : β}(hp:p∈y.2):p∈l.flatMap (·.2):=List.mem_flatMap.2 ⟨y,hy,hp⟩
set_option maxHeartbeats 4000000 in
theorem G8(hk:su w w'){l:List Nat}(hz:pG P l=true)(sp:Nat→Bool):∀(fuel:Nat)(t:TypeId),t∈l→∀(cs:List Value)(d:DataW H)(ps:List MemPlace),
  DataW.trod enc P w 0 (fun _=>true) true fuel t cs=some (d,ps)→(∀ p∈ps,sp p.block=true)→DataW.trod enc P w' 0 sp true fuel t cs=some (d,ps):=by
 intro fuel
 induction fuel with
 | zero=>intro t _ cs d ps h _;cases h
 | succ n ih =>
  intro t ht cs d ps h hp
  have hc:=Eo hz ht
  unfold DataW.trod at h ⊢
  split at h
  case h_6 =>
   rename_i e a hu
   rw[hu] at hc
   have hc:e∈l:=by simpa using hc
   refine pF h fun x hx he=>?_
   cases he
   exact mI hx (fun l hl=>hk.cells hl) fun l hl=>ih _ hc _ _ _ hl fun p hpp=>hp p (List.mem_append_right _ hpp)
  case h_8 =>
   rename_i e a len cap hu
   rw[hu] at hc
   simp only[Bool.and_eq_true] at hc
   obtain⟨hc,hz0⟩:=hc
   have hc:e∈l:=by simpa using hc
   have hz0:P.cellsOf e≠0:=by intro h0;rw[h0] at hz0;cases hz0
   split at h
   ·rename_i h0
    rw[if_pos h0]
    cases hE:(List.range len).mapM fun i=>(w.cells? 0 (a.add (i*P.cellsOf e)) (P.cellsOf e)).bind (DataW.trod enc P w 0 (fun _=>true) true n e) with
    | none=>simp[hE] at h
    | some elems =>
     cases hR:(List.range (cap-len)).mapM fun j=>(w.cells? 0 (a.add ((len+j)*P.cellsOf e)) (P.cellsOf e)).bind (DataW.trod enc P w 0 (fun _=>true) true n e) with
     | none=>simp[hE,hR] at h
     | some rest =>
      simp[hE,hR] at h
      obtain⟨h1,h2⟩:=h
      have hE':((List.range len).mapM fun i=>(w'.cells? 0 (a.add (i*P.cellsOf e)) (P.cellsOf e)).bind (DataW.trod enc P w' 0 sp true n e))=some elems :=
       gX hE fun i _ y hy h=>mI h (fun l hl=>hk.cells hl) fun l hl=>ih _ hc _ _ _ hl fun p hpp=>hp p (by
        rw[←h2]
        exact List.mem_append_right _ (List.mem_append_left _ (pI hy hpp)))
      have hR':((List.range (cap-len)).mapM fun j=>(w'.cells? 0 (a.add ((len+j)*P.cellsOf e)) (P.cellsOf e)).bind (DataW.trod enc P w' 0 sp true n e))=some rest :=
       gX hR fun i _ y hy h=>mI h (fun l hl=>hk.cells hl) fun l hl=>ih _ hc _ _ _ hl fun p hpp=>hp p (by
        rw[←h2]
        exact List.mem_append_right _ (List.mem_append_right _ (pI hy hpp)))
      have XP:sp a.block=true∨rest = []:=by
       by_cases hr:rest = []
       ·exact .inr hr
       ·refine .inl (hp (.cell a.block a.off) ?_)
        rw[←h2]
        refine List.mem_append_left _ (mem_row _ _ ?_)
        have:0<rest.length:=List.length_pos_iff.2 hr
        exact Nat.mul_pos (by omega) (Nat.pos_of_ne_zero hz0)
      rcases XP with hs | rfl
      ·simp[hE',hR',hs,h1,h2]
      ·have hl0:cap-len=0:=by
        have:=mapM_len hR
        simp at this
        omega
       rw[hl0]
       simp[hE']
       exact⟨h1,by simpa using h2⟩
   ·cases h
  case h_9 =>
   rename_i fs hu
   rw[hu] at hc
   have hc:∀ f∈fs.toList,f.type∈l:=fun f hf=>by simpa using List.all_eq_true.1 hc f hf
   split at h
   ·rename_i h0
    rw[if_pos h0]
    refine pF h fun x hx he=>?_
    cases he
    exact gX hx fun f hfm y hy hf=>ih _ (hc f hfm) _ _ _ hf fun p hpp=>hp p (pI hy hpp)
   ·cases h
  case h_10 =>
   rename_i m e hu
   rw[hu] at hc
   have hc:e∈l:=by simpa using hc
   split at h
   ·rename_i h0
    rw[if_pos h0]
    refine pF h fun x hx he=>?_
    cases he
    exact gX hx fun f _ y hy hf=>ih _ hc _ _ _ hf fun p hpp=>hp p (pI hy hpp)
   ·cases h
  case h_14 =>
   rename_i k e b hu
   rw[hu] at hc
   have hc:e∈l:=by simpa using hc
   split at h
   ·rename_i es clock hb
    rw[hk _ _ hb]
    simp only
    split at h
    ·rename_i h0
     rw[if_pos h0]
     cases hE:es.toList.mapM (fun x=>(keyOf P k x.key).bind fun key=>if x.val.formed P e then (DataW.trod enc P w 0 (fun _=>true) true n e x.val.cells.toList).map fun y=>((key,y.1),y.2) else none) with
     | none=>simp only[hE,Option.bind_none] at h;cases h
     | some entries =>
      simp only[hE,Option.bind_some] at h
      split at h
      ·rename_i hr
       cases h
       have hE':es.toList.mapM (fun x=>(keyOf P k x.key).bind fun key=>if x.val.formed P e then (DataW.trod enc P w' 0 sp true n e x.val.cells.toList).map fun y=>((key,y.1),y.2) else none)=some entries:=by
        refine gX hE fun x _ y hy hx=>mI hx (fun _ h=>h) fun key hkk=>?_
        split at hkk
        ·rename_i hfm
         rw[if_pos hfm]
         refine pF hkk fun z hz he=>?_
         exact ih _ hc _ _ _ hz fun p hpp=>hp p (List.mem_cons_of_mem _ (List.mem_flatMap.2 ⟨y,hy,by rw[←he];exact hpp⟩))
        ·cases hkk
       simp only[hE',Option.bind_some]
       rw[if_pos hr]
      ·cases h
    ·cases h
   ·cases h
  all_goals first
   | exact h
   | cases h
theorem G9(hk:su w w'){l:List Nat}(hz:pG P l=true){sp:Nat→Bool}{t:TypeId}(ht:t∈l){v:Value}{d:DataW H}{ps:List MemPlace}(h:DataW.Trod enc P w 0 (fun _=>true) true t v d ps)(hp:∀ p∈ps,sp p.block=true) :
  DataW.Trod enc P w' 0 sp true t v d ps:=by
 obtain⟨n,h⟩:=h
 exact⟨n,G8 hk hz sp n _ ht _ _ _ h hp⟩
theorem pJ(hk:su w w'){l:List Nat}(hz:pG P l=true){sp:Nat→Bool} : ∀ {ts:List TypeId} {vs:List Value} {ds:List (DataW H)} {ps:List MemPlace},(∀ t∈ts,t∈l)→DataW.TrodAll enc P w 0 (fun _=>true) true ts vs ds ps →
  (∀ p∈ps,sp p.block=true)→DataW.TrodAll enc P w' 0 sp true ts vs ds ps
 | [],[],[],_,_,h,_=>h
 | t::ts,v::vs,d::ds,ps,ht,h,hp=>by
  obtain⟨p,q,h1,h2,rfl⟩:=h
  exact⟨p,q,G9 hk hz (ht t (List.mem_cons_self ..)) h1 fun x hx=>hp x (List.mem_append_left _ hx),pJ hk hz (fun t h=>ht t (List.mem_cons_of_mem _ h)) h2 fun x hx=>hp x (List.mem_append_right _ hx),rfl⟩
 | [],[],_::_,_,_,h,_=>h.elim
 | [],_::_,_,_,_,h,_=>h.elim
 | _::_,[],_,_,_,h,_=>h.elim
 | _::_,_::_,[],_,_,h,_=>h.elim
theorem Kept.U9(k:Kept w w'):su w w':=k.block
theorem Gz{f:Func}{s:ChangeSpec}{apart fresh handsOn again:Bool}{W W':World}{args:Array Value}{v:Value}{ds:List (DataW H)}{before:List MemPlace}{l:List Nat}(hz:pG P l=true)(hl:∀ t∈f.params.toList,t∈l)
  (hW:DataW.Whole enc P f.params.toList s.vars apart W args.toList ds [] before)
  (hres:∀(b:Nat)(sp:Nat→Bool)(hd:Bool),DataW.TrodAll enc P W' b sp hd f.resultTypes.toList (v.resultList f.resultTypes.size) (s.fn H (ds++[])).results [])
  (hargs:(s.fn H (ds++[])).args=ds) (hv:s.vars = []) (hvars:(s.fn H (ds++[])).vars = []) (hk:Kept W W')
  (hok:∀(j:Nat)(t:TypeId)(r:Value),f.resultTypes[j]?=some t→(v.resultList f.resultTypes.size)[j]?=some r→Value.okWide P W' .any 0 t r) :
  s.post enc P f apart fresh handsOn again W args v W':=by
 have hW':=hW
 obtain⟨p,q,hA,hV,rfl,_,_⟩:=hW'
 rw[hv] at hV
 obtain rfl:q = []:=hV
 exact yT (pa:=p) (pv:=[]) hW hres (fun sp hsp=>by rw[hargs];exact pJ hk.U9 hz hl hA fun x hx=>hsp x (List.mem_append_left _ hx))
  (fun sp _=>by rw[hv,hvars];exact rfl) rfl hk hok
end Go.Proofs.YtkjgogdkdejljaaGreatDoor.AX
namespace Go.Proofs.YtkjgogdkdejljaaGreatDoor.Df
open Go Go.Proofs Go.ChangeShapes Go.WideShapes Go.ChangeAt Go.RowKit
theorem own:ownKnob Tryz.prog.godebug=none:=by kernel_rfl
def laid1:List (String×DataW Unit):=[("math/bits.deBruijn64tab",Rows.laid_math_bits_deBruijn64tab)]
theorem JA(os:Os)(args:Array Value):laidMetH Tryz.prog laid1 ((World.doorLaid Tryz.prog 14 os).forCall (fun _ _=>0) ⟨#[],args,[]⟩).memory :=
 laidMetH_of_parts3 (fuel:=8) (laidMet_of_run' 8 (by kernel_rfl) (by kernel_rfl)) (by kernel_rfl) (by kernel_rfl)
theorem DT{w w':World}(h:Below w.heap.size w w'):AX.Kept w w':=⟨h.os,h.output,h.tape,fun k _ hk=>(h.block k (Array.getElem?_eq_some_iff.1 hk).1).trans hk⟩
theorem JB:∀ j:Fin 64,nums[j.val]?=some ((Lib.deBruijn64tab.getD j.val 0:Nat):Int):=by decide +kernel
theorem Qr{W:World}(h:AX.uj W 0 .u8 nums):0<W.heap.size∧TabAt W:=by
 obtain⟨cs,e,fz,h1,h2⟩:=h
 refine⟨(Array.getElem?_eq_some_iff.1 h1).1,fun j hj=>?_⟩
 have h3:W.cell? ⟨0,j,none⟩=cs[j]?:=by simp[World.cell?,h1]
 rw[h3,←Array.getElem?_toList,h2,List.getElem?_map,JB ⟨j,hj⟩]
 rfl
theorem rZ{α : Type}{p:Nat→α→Prop} : ∀ n,(∀ i,i<n→∃ x,p i x)→∃ l:List α,l.length=n∧∀ i (h:i<l.length),p i l[i]
 | 0,_=>⟨[],rfl,fun i h=>by cases h⟩
 | n+1,h=>by
  obtain⟨l,hl,hp⟩:=rZ n fun i hi=>h i (by omega)
  obtain⟨x,hx⟩:=h n (Nat.lt_succ_self n)
  refine⟨l++[x],by simp[hl],fun i hi=>?_⟩
  by_cases e:i<l.length
  ·rw[List.getElem_append_left e];exact hp i e
  ·have e2:i=l.length:=by simp at hi;omega
   subst e2
   rw[List.getElem_append_right Nat.le.refl]
   simpa[hl] using hx
section
variable {H : Type} {enc : TypeId × Value → H} {w : World} {base : Nat} {sp : Nat → Bool} {held : Bool}
theorem WY:Tryz.prog.cellsOf 35=3:=by kernel_rfl
theorem hc9:Tryz.prog.cellsOf 9=1:=by kernel_rfl
theorem hc4:Tryz.prog.cellsOf 4=1:=by kernel_rfl
theorem Fg{n:Nat}{c:Value}{y:DataW H×List MemPlace}(h:DataW.trod enc Tryz.prog w base sp held n 9 [c]=some y):∃ s:ByteArray,c = .string s:=by
 obtain⟨s,h1,_⟩:=DataW.trod_string Tryz.underlying9 h
 exact⟨s,by simpa using h1⟩
theorem JC{n:Nat}{c:Value}{y:DataW H×List MemPlace}(h:DataW.trod enc Tryz.prog w base sp held n 4 [c]=some y):∃ b:Bool,c = .bool b:=by
 obtain⟨s,h1,_⟩:=DataW.trod_bool Tryz.underlying4 h
 exact⟨s,by simpa using h1⟩
set_option maxRecDepth 100000 in
theorem DU{r:Reach}{b0:Nat}{v:Value}{d:DataW H}{p:List MemPlace}(hv:Value.okWide Tryz.prog w r b0 22 v)(h:DataW.Trod enc Tryz.prog w base sp held 22 v d p) :
  ∃(la:Option Addr)(R:List Rl)(c:Nat),v = .slice la R.length c∧R.length≤9223372036854775807∧sU w la R:=by
 simp only[Value.okWide,Tryz.underlying22] at hv
 obtain⟨sa,sn,sc,rfl⟩:∃ a n c,v = .slice a n c:=by cases v<;>first | exact⟨_,_,_,rfl⟩ | exact hv.elim
 obtain⟨fuel,hf⟩:=h
 rcases Deep.open_slice Tryz.underlying22 hf with ⟨h1,_⟩ | ⟨a,len,cap,m,n,D,Pl,h1,_,hl,hcap,hm,_,hx⟩
 ·simp[Value.cells] at h1
  obtain⟨rfl,rfl,rfl⟩:=h1
  exact⟨none,[],0,rfl,Nat.zero_le _,fun i x h=>by simp at h⟩
 ·simp[Value.cells] at h1
  obtain⟨rfl,rfl,rfl⟩:=h1
  have hle:sn≤m:=by rw[hm];split<;>omega
  obtain⟨l,hlen,hk⟩:=rZ (p:=fun i (x:Rl)=>w.cell? ((a.add (i*3)).add 0)=some (.string x.nm)∧w.cell? ((a.add (i*3)).add 1)=some (.string x.re)∧w.cell? ((a.add (i*3)).add 2)=some (.bool x.tr)) sn fun i hi=>by
   obtain⟨cs',h2,h3⟩:=hx i (by omega)
   rw[WY] at h2
   obtain⟨_,hlen,hcell⟩:=World.cells?_some h2
   obtain⟨c0,c1,c2,rfl⟩:∃ c0 c1 c2,cs' = [c0,c1,c2]:=by
    match cs',hlen with
    | [c0,c1,c2],_=>exact⟨c0,c1,c2,rfl⟩
   obtain⟨y0,y1,y2,n',_,_,g0,g1,g2⟩:=Deep.trod_struct3 Tryz.underlying35 h3
   simp only[hc9,hc4] at g0 g1 g2
   obtain⟨s0,rfl⟩:=Fg g0
   obtain⟨s1,rfl⟩:=Fg g1
   obtain⟨s2,rfl⟩:=JC g2
   exact⟨⟨s0,s1,s2⟩,hcell 0 (by simp),hcell 1 (by simp),hcell 2 (by simp)⟩
  subst hlen
  refine⟨some a,l,sc,rfl,by unfold maxLen at hcap;omega,fun i x hx=>?_⟩
  obtain⟨hi,rfl⟩:=List.getElem?_eq_some_iff.1 hx
  obtain⟨k0,k1,k2⟩:=hk i hi
  obtain⟨kz,_,_⟩:=hk 0 (by omega)
  have ez:(a.add (0*3)).add 0=a:=by simp[Addr.add]
  rw[ez] at kz
  have hsp:=World.cell?_spot kz
  have hlt:=block_lt_of_cell kz
  obtain⟨B,off,spot⟩:=a
  simp only at hsp hlt
  subst hsp
  have hB:B<w.heap.size:=hlt
  rw[addr_add,addr_add] at k0 k1 k2
  exact⟨B,off,rfl,hB,k0,k1,k2⟩
end
end Go.Proofs.YtkjgogdkdejljaaGreatDoor.Df
