import Derived.Test.YtkjgogdkdejljaaGreatDoorLxL4
import Derived.RangeFuncBox
set_option maxRecDepth 100000
set_option maxHeartbeats 40000000
namespace Go.Proofs.YtkjgogdkdejljaaGreatDoor.Lx
section
open Go Go.Proofs Go.RowKit
attribute [local go_sem] Oper.semAt_some
def lV(an ar ak:Option Addr)(n r k cn cr ck:Nat)(kinds:Int):Value := .agg #[.slice an n cn, .slice ar r cr, .slice ak k ck, .int .i64 kinds]
theorem acX(w:World)(v0 v1 v2 v3:Value)(t:TypeId):(w.alloc (.cells #[v0,v1,v2,v3] t)).cell? ⟨w.heap.size,0,none⟩=some v0∧(w.alloc (.cells #[v0,v1,v2,v3] t)).cell? ⟨w.heap.size,1,none⟩=some v1∧(w.alloc (.cells #[v0,v1,v2,v3] t)).cell? ⟨w.heap.size,2,none⟩=some v2∧(w.alloc (.cells #[v0,v1,v2,v3] t)).cell? ⟨w.heap.size,3,none⟩=some v3 :=
 ⟨(World.cell?_alloc_at _ _ w.heap.size 0 rfl).trans rfl,(World.cell?_alloc_at _ _ w.heap.size 1 rfl).trans rfl,(World.cell?_alloc_at _ _ w.heap.size 2 rfl).trans rfl,(World.cell?_alloc_at _ _ w.heap.size 3 rfl).trans rfl⟩
theorem Eu{next rule:List Int}(h:okT next rule=true):0<rule.length:=by
 unfold okT at h;simp only[Bool.and_eq_true,decide_eq_true_eq] at h;exact h.1
theorem Ut(l:List Int)(h:0<l.length)(n:Nat):(l.all fun x=>decide (x<(n:Int)))=true↔Lib.maxOf l<n:=by
 rw[max_lt l (by intro e;subst e;simp at h)];simp
theorem GK(next rule kind:List Int)(kinds:Int)(hn:next.length≤1000000)(hr:rule.length≤1000000)(hk:kind.length≤1000000)(an ar ak:Option Addr)(cn cr ck:Nat)(w:World)(hN:aK w an next)(hR:aK w ar rule)(hK:aK w ak kind) :
  Calls Tryz.prog 15 #[.agg #[.slice an next.length cn, .slice ar rule.length cr, .slice ak kind.length ck, .int .i64 kinds]] w fun e w'=>e = .returned (.int .i64 (mY next rule kind kinds))∧Below w.heap.size w w':=by
 have hB:=(Below.refl w.heap.size w).alloc Nat.le.refl (.cells #[.slice an next.length cn, .slice ar rule.length cr, .slice ak kind.length ck, .int .i64 kinds] 29);obtain⟨x0,x1,x2,x3⟩:=acX w (.slice an next.length cn) (.slice ar rule.length cr) (.slice ak kind.length ck) (.int .i64 kinds) 29;have hN':=hN.below hB Nat.le.refl;have hR':=hR.below hB Nat.le.refl;have hK':=hK.below hB Nat.le.refl;have hs0:w.heap.size<(w.alloc (.cells #[.slice an next.length cn, .slice ar rule.length cr, .slice ak kind.length ck, .int .i64 kinds] 29)).heap.size:=by simp
 obtain⟨cv,hcv⟩:∃ cv,cv=mY next rule kind kinds:=⟨_,rfl⟩
 rw[←hcv];clear hN hR hK;obtain⟨ok,hok⟩:∃ b,b=okT next rule:=⟨_,rfl⟩
 have c27:=fun W hN hR=>jH next rule hn hr an ar cn cr W hN hR
 have e27:eU next rule=if ok=true then 0 else 2:=by rw[hok];rfl
 rw[e27] at c27;clear e27
 cases ok with
 | false =>
  have HV:=Lib.hid (show cv=2 by rw[hcv,mY,okL,←hok];rfl);clear hcv hok;simp only[Bool.false_eq_true,if_false] at c27;go_enter Tryz.func15,Tryz.ntmps15
  go_wp2_with fail
  generalize w.alloc (.cells #[.slice an next.length cn, .slice ar rule.length cr, .slice ak kind.length ck, .int .i64 kinds] 29)=W0 at *;have y0:=AX.aF x0 hs0;have y1:=AX.aF x1 hs0;have y2:=AX.aF x2 hs0;have y3:=AX.aF x3 hs0;have q27:=fun p:AX.BW W0=>c27 p.W (hN'.below p.h Nat.le.refl) (hR'.below p.h Nat.le.refl);clear x0 x1 x2 x3 c27 hN' hR' hK';refine AX.aO (by kernel_rfl) (by kernel_rfl) ?_
  repeat (go_big_quiet_step (first | (go_at_call 36;with_reducible exact AX.fH (q27 _))))
  refine wpQuiet_nil ?_;rintro _ ⟨p,rfl⟩;go_wp2
  go_ret
  exact⟨by rw[HV.out];rfl,hB.trans (p.h.mono (by omega))⟩
 | true =>
  simp only[if_true] at c27;have hT:=Eu hok.symm;have c28:=fun W hR=>Qr rule hT hr ar cr W hR;have hall:=Ut rule hT kind.length;obtain⟨m,hm⟩:∃ m,m=Lib.maxOf rule:=⟨_,rfl⟩;rw[←hm] at c28 hall;clear hm
  by_cases hk0:kinds<0
  ·have HV:=Lib.hid (show cv=2 by rw[hcv,mY,okL,←hok,decide_eq_false (by omega:¬ 0≤kinds)];rfl)
   clear hcv hok hall;go_enter Tryz.func15,Tryz.ntmps15
   go_wp2_with fail
   generalize w.alloc (.cells #[.slice an next.length cn, .slice ar rule.length cr, .slice ak kind.length ck, .int .i64 kinds] 29)=W0 at *;have y0:=AX.aF x0 hs0;have y1:=AX.aF x1 hs0;have y2:=AX.aF x2 hs0;have y3:=AX.aF x3 hs0;have q27:=fun p:AX.BW W0=>c27 p.W (hN'.below p.h Nat.le.refl) (hR'.below p.h Nat.le.refl);have q28:=fun p:AX.BW W0=>(c28 p.W (hR'.below p.h Nat.le.refl)).mono fun e w' (h:_∧_)=>(⟨h.1,h.2 ▸ Below.refl _ _⟩:e = .returned (.int .i64 m)∧Below p.W.heap.size p.W w');clear x0 x1 x2 x3 c27 c28 hN' hR';refine AX.aO (by kernel_rfl) (by kernel_rfl) ?_
   repeat (go_big_quiet_step (first | (go_at_call 36;with_reducible exact AX.fH (q27 _)) | (go_at_call 37;with_reducible exact AX.fH (q28 _))))
   refine wpQuiet_nil ?_;rintro _ ⟨p,rfl⟩;go_wp2
   go_ret
   exact⟨by rw[HV.out];rfl,hB.trans (p.h.mono (by omega))⟩
  by_cases Qp:16<kinds
  ·have HV:=Lib.hid (show cv=2 by rw[hcv,mY,okL,←hok,decide_eq_false (by omega:¬kinds≤16),Bool.false_and,Bool.and_false,Bool.and_false];rfl)
   have hk0:0≤kinds:=(by omega);have hd0:decide (kinds<0)=false:=(by simp;omega);have hd1:decide (16<kinds)=true:=(by simp;omega);clear hcv hok hall;go_enter Tryz.func15,Tryz.ntmps15
   go_wp2_with fail
   generalize w.alloc (.cells #[.slice an next.length cn, .slice ar rule.length cr, .slice ak kind.length ck, .int .i64 kinds] 29)=W0 at *;have y0:=AX.aF x0 hs0;have y1:=AX.aF x1 hs0;have y2:=AX.aF x2 hs0;have y3:=AX.aF x3 hs0;have q27:=fun p:AX.BW W0=>c27 p.W (hN'.below p.h Nat.le.refl) (hR'.below p.h Nat.le.refl);have q28:=fun p:AX.BW W0=>(c28 p.W (hR'.below p.h Nat.le.refl)).mono fun e w' (h:_∧_)=>(⟨h.1,h.2 ▸ Below.refl _ _⟩:e = .returned (.int .i64 m)∧Below p.W.heap.size p.W w');clear x0 x1 x2 x3 c27 c28 hN' hR';refine AX.aO (by kernel_rfl) (by kernel_rfl) ?_
   repeat (go_big_quiet_step (first | (go_at_call 36;with_reducible exact AX.fH (q27 _)) | (go_at_call 37;with_reducible exact AX.fH (q28 _))))
   refine wpQuiet_nil ?_;rintro _ ⟨p,rfl⟩;go_wp2
   go_ret
   exact⟨by rw[HV.out];rfl,hB.trans (p.h.mono (by omega))⟩
  have hk0:0≤kinds:=by omega
  have Qp:kinds≤16:=by omega
  have hd0:decide (kinds<0)=false:=by simp;omega
  have hd1:decide (16<kinds)=false:=by simp;omega
  by_cases hm:(kind.length:Int)≤m
  ·have HV:=Lib.hid (show cv=2 by
    rw[hcv,mY,okL,←hok];rw[show(rule.all fun x=>decide (x<(kind.length:Int)))=false by rw[Bool.eq_false_iff];intro h;have:=hall.1 h;omega];simp)
   clear hcv hok hall;go_enter Tryz.func15,Tryz.ntmps15
   go_wp2_with fail
   generalize w.alloc (.cells #[.slice an next.length cn, .slice ar rule.length cr, .slice ak kind.length ck, .int .i64 kinds] 29)=W0 at *;have y0:=AX.aF x0 hs0;have y1:=AX.aF x1 hs0;have y2:=AX.aF x2 hs0;have y3:=AX.aF x3 hs0;have q27:=fun p:AX.BW W0=>c27 p.W (hN'.below p.h Nat.le.refl) (hR'.below p.h Nat.le.refl);have q28:=fun p:AX.BW W0=>(c28 p.W (hR'.below p.h Nat.le.refl)).mono fun e w' (h:_∧_)=>(⟨h.1,h.2 ▸ Below.refl _ _⟩:e = .returned (.int .i64 m)∧Below p.W.heap.size p.W w');clear x0 x1 x2 x3 c27 c28 hN' hR';refine AX.aO (by kernel_rfl) (by kernel_rfl) ?_
   repeat (go_big_quiet_step (first | (go_at_call 36;with_reducible exact AX.fH (q27 _)) | (go_at_call 37;with_reducible exact AX.fH (q28 _))))
   refine wpQuiet_nil ?_;rintro _ ⟨p,rfl⟩;go_wp2
   go_ret
   exact⟨by rw[HV.out];rfl,hB.trans (p.h.mono (by omega))⟩
  have hm:m<(kind.length:Int):=by omega
  have HV:=Lib.hid (show cv=if inR (-1) kinds kind then 0 else 2 by
   rw[hcv,mY,okL,←hok,decide_eq_true hk0,decide_eq_true Qp];rw[hall.2 hm,Bool.and_true,Bool.true_and,Bool.true_and,Bool.true_and])
  clear hcv hok hall;go_enter Tryz.func15,Tryz.ntmps15
  go_wp2_with fail
  generalize w.alloc (.cells #[.slice an next.length cn, .slice ar rule.length cr, .slice ak kind.length ck, .int .i64 kinds] 29)=W0 at *;have y0:=AX.aF x0 hs0;have y1:=AX.aF x1 hs0;have y2:=AX.aF x2 hs0;have y3:=AX.aF x3 hs0;have q27:=fun p:AX.BW W0=>c27 p.W (hN'.below p.h Nat.le.refl) (hR'.below p.h Nat.le.refl);have q28:=fun p:AX.BW W0=>(c28 p.W (hR'.below p.h Nat.le.refl)).mono fun e w' (h:_∧_)=>(⟨h.1,h.2 ▸ Below.refl _ _⟩:e = .returned (.int .i64 m)∧Below p.W.heap.size p.W w');clear x0 x1 x2 x3 c27 c28 hN' hR';refine AX.aO (by kernel_rfl) (by kernel_rfl) ?_
  repeat (go_big_quiet_step (first | (go_at_call 36;with_reducible exact AX.fH (q27 _)) | (go_at_call 37;with_reducible exact AX.fH (q28 _))))
  refine wpQuiet_nil ?_;rintro _ ⟨p,rfl⟩;have z3:=y3 p;have cK:=contains_k kind hk ak ck p.W z3 (hK'.below p.h Nat.le.refl);have z2:=y2 p;generalize inR (-1) kinds kind=g at *
  cases g with
  | true =>
   have HV:=Lib.hid (show cv=0 from HV.out);go_wp2_with (go_at_call 38;((with_reducible refine cK.mono ?_);rintro e Wd ⟨rfl,rfl⟩))
   go_ret
   exact⟨by rw[HV.out];rfl,hB.trans (p.h.mono (by omega))⟩
  | false =>
   have HV:=Lib.hid (show cv=2 from HV.out);go_wp2_with (go_at_call 38;((with_reducible refine cK.mono ?_);rintro e Wd ⟨rfl,rfl⟩))
   go_ret
   exact⟨by rw[HV.out];rfl,hB.trans (p.h.mono (by omega))⟩
end
section
def bP(next rule:List Int)(t:List Nat):Nat→Nat→Nat→Int→Nat→Int×Nat×Nat
 | 0,i,_,r,tzo=>(r,tzo,i+1)
 | f+1,i,st,r,tzo=>if i<t.length then
   let s:=next.getD (256*st+t.getD i 0) 0
   if s<0 then (r,tzo,i+1) else
   let u:=rule.getD s.toNat 0
   if 0≤u then bP next rule t f (i+1) s.toNat u (i+1) else bP next rule t f (i+1) s.toNat r tzo
  else (r,tzo,i+1)
structure Tk where
 k:Int
 f:Nat
 a:Nat
 t:Nat
 e:Nat
def dJ(next rule:List Int)(t:List Nat)(at_:Nat):Int×Nat×Nat:=bP next rule t (t.length-at_) at_ 0 (-1) (at_+1)
def tokF(next rule kind:List Int)(t:List Nat)(from_:Nat):Nat→Nat→Nat→Tk
 | 0,_,_=>⟨-2,from_,t.length,t.length,t.length+1⟩
 | f+1,at_,ext=>if at_<t.length then
   let x:=dJ next rule t at_
   let k:=if x.1<0 then -1 else kind.getD x.1.toNat 0
   if x.1<0∨0≤k then ⟨k,from_,at_,x.2.1,max (max ext x.2.2) (x.2.1+1)⟩ else tokF next rule kind t from_ f x.2.1 (max ext x.2.2)
  else ⟨-2,from_,t.length,t.length,t.length+1⟩
def dw(next rule kind:List Int)(t:List Nat)(at_:Nat):Tk:=tokF next rule kind t at_ (t.length-at_) at_ 0
def vW(next rule kind:List Int)(t:List Nat):Nat→Nat→List Tk
 | 0,at_=>[dw next rule kind t at_]
 | f+1,at_=>if (dw next rule kind t at_).k = -2 then [dw next rule kind t at_] else dw next rule kind t at_::vW next rule kind t f (dw next rule kind t at_).t
def dD(next rule kind:List Int)(t:List Nat)(at_:Nat):List Tk:=vW next rule kind t (t.length-at_) at_
structure Fits(next rule kind:List Int)(kinds:Int):Prop where
 r1:1≤rule.length
 nl:next.length=256*rule.length
 bd:∀ x∈next,-1≤x∧x<rule.length
 br:∀ x∈rule,-1≤x∧x<16∧x<kind.length
 bk:∀ x∈kind,-1≤x∧x<kinds
 k16:0≤kinds∧kinds≤16
theorem getD_mem{l:List Int}{i:Nat}(h:i<l.length):l.getD i 0∈l:=by
 rw[show l.getD i 0=l[i] by simp[h]];exact List.getElem_mem h
section
variable {next rule kind : List Int} {kinds : Int} {t : List Nat}
theorem zY(H:Fits next rule kind kinds)(ht:∀ b∈t,b<256):∀(f i st:Nat)(r:Int)(tzo:Nat),st<rule.length→f=t.length-i→i≤t.length→tzo≤t.length∨tzo≤i+1 →
  -1≤r→r<16→r<kind.length →
  (-1≤(bP next rule t f i st r tzo).1∧(bP next rule t f i st r tzo).1<16∧(bP next rule t f i st r tzo).1<kind.length)∧(min tzo (i+1)≤(bP next rule t f i st r tzo).2.1) ∧
   i+1≤(bP next rule t f i st r tzo).2.2∧(bP next rule t f i st r tzo).2.2≤t.length+1
 | 0,i,st,r,tzo,hst,hf,hi,hto,h1,h2,h3=>by
  unfold bP;exact⟨⟨h1,h2,h3⟩,Nat.min_le_left _ _,Nat.le_refl _,by show i+1≤t.length+1;omega⟩
 | f+1,i,st,r,tzo,hst,hf,hi,hto,h1,h2,h3=>by
  unfold bP;have hlt:i<t.length:=by omega
  rw[if_pos hlt];have hb:t.getD i 0<256:=by
   rw[show t.getD i 0=t[i] by simp[hlt]];exact ht _ (List.getElem_mem hlt)
  have hix:256*st+t.getD i 0<next.length:=by have:=H.nl;omega
  have hs:=H.bd _ (getD_mem hix);generalize next.getD (256*st+t.getD i 0) 0=s at *
  simp only;split
  ·exact⟨⟨h1,h2,h3⟩,Nat.min_le_left _ _,Nat.le_refl _,by show i+1≤t.length+1;omega⟩
  ·rename_i hs0
   have hsl:s.toNat<rule.length:=(by omega);have hu:=H.br _ (getD_mem hsl);generalize rule.getD s.toNat 0=u at *;split
   ·have:=zY H ht f (i+1) s.toNat u (i+1) hsl (by omega) (by omega) (.inl (by omega)) (by omega) hu.2.1 hu.2.2
    exact⟨this.1,by omega,by omega,this.2.2.2⟩
   ·have:=zY H ht f (i+1) s.toNat r tzo hsl (by omega) (by omega) (by omega) h1 h2 h3
    exact⟨this.1,by omega,by omega,this.2.2.2⟩
theorem zZ(H:Fits next rule kind kinds)(ht:∀ b∈t,b<256):∀(f i st:Nat)(r:Int)(tzo:Nat),st<rule.length→f=t.length-i→tzo≤t.length→(bP next rule t f i st r tzo).2.1≤t.length
 | 0,i,st,r,tzo,hst,hf,hto=>by unfold bP;exact hto
 | f+1,i,st,r,tzo,hst,hf,hto=>by
  unfold bP;have hlt:i<t.length:=by omega
  rw[if_pos hlt];have hb:t.getD i 0<256:=by
   rw[show t.getD i 0=t[i] by simp[hlt]];exact ht _ (List.getElem_mem hlt)
  have hix:256*st+t.getD i 0<next.length:=by have:=H.nl;omega
  have hs:=H.bd _ (getD_mem hix);generalize next.getD (256*st+t.getD i 0) 0=s at *
  simp only;split
  ·exact hto
  ·rename_i hs0
   have hsl:s.toNat<rule.length:=(by omega);split
   ·exact zZ H ht f (i+1) s.toNat _ (i+1) hsl (by omega) (by omega)
   ·exact zZ H ht f (i+1) s.toNat r tzo hsl (by omega) hto
theorem kZ(H:Fits next rule kind kinds)(ht:∀ b∈t,b<256){i:Nat}(hi:i<t.length) :
  -1≤(dJ next rule t i).1∧(dJ next rule t i).1<16∧(dJ next rule t i).1<kind.length∧i+1≤(dJ next rule t i).2.1∧(dJ next rule t i).2.1≤t.length∧i+1≤(dJ next rule t i).2.2∧(dJ next rule t i).2.2≤t.length+1:=by
 have hk:(-1:Int)<kind.length:=by omega
 have h1:=zY H ht (t.length-i) i 0 (-1) (i+1) (by have:=H.r1;omega) rfl (by omega) (.inr Nat.le.refl) (by omega) (by omega) hk;have h2:=zZ H ht (t.length-i) i 0 (-1) (i+1) (by have:=H.r1;omega) rfl (by omega);unfold dJ;exact⟨h1.1.1,h1.1.2.1,h1.1.2.2,by omega,h2,h1.2.2.1,h1.2.2.2⟩
theorem KF(H:Fits next rule kind kinds)(ht:∀ b∈t,b<256)(fr:Nat)(hfr:fr≤t.length):∀ (f i e:Nat),t.length-i≤f→fr≤i→i≤t.length→e≤t.length+1 →
  (tokF next rule kind t fr f i e).f=fr ∧ -2≤(tokF next rule kind t fr f i e).k∧(tokF next rule kind t fr f i e).k<16∧fr≤(tokF next rule kind t fr f i e).a∧(tokF next rule kind t fr f i e).a≤(tokF next rule kind t fr f i e).t∧(tokF next rule kind t fr f i e).t≤t.length ∧
   (tokF next rule kind t fr f i e).e≤t.length+1∧((tokF next rule kind t fr f i e).k ≠ -2→i+1≤(tokF next rule kind t fr f i e).t)
 | 0,i,e,hf,hfi,hi,he=>by
  unfold tokF;exact⟨rfl,by simp,by simp,hfr,Nat.le_refl _,Nat.le_refl _,Nat.le_refl _,fun h=>absurd rfl h⟩
 | f+1,i,e,hf,hfi,hi,he=>by
  unfold tokF
  by_cases hlt:i<t.length
  ·rw[if_pos hlt]
   have hx:=kZ H ht hlt;generalize dJ next rule t i=x at *
   obtain⟨r,tzo,ex⟩:=x;simp only at hx ⊢;obtain⟨x1,x2,x3,x4,x5,x6,x7⟩:=hx
   by_cases hr:r<0
   ·rw[if_pos (.inl hr)]
    simp only[if_pos hr];exact⟨trivial,by omega,by omega,by omega,by omega,by omega,by omega,fun _=>by omega⟩
   ·have hrl:r.toNat<kind.length:=by omega
    have hk:=H.bk _ (getD_mem hrl);have Qp:=H.k16;rw[if_neg hr];generalize kind.getD r.toNat 0=k at *;split
    ·simp only
     exact⟨trivial,by omega,by omega,by omega,by omega,by omega,by omega,fun _=>by omega⟩
    ·have:=KF H ht fr hfr f tzo (max e ex) (by omega) (by omega) (by omega) (by omega)
     exact⟨this.1,this.2.1,this.2.2.1,this.2.2.2.1,this.2.2.2.2.1,this.2.2.2.2.2.1,this.2.2.2.2.2.2.1,fun h=>by have:=this.2.2.2.2.2.2.2 h;omega⟩
  ·rw[if_neg hlt]
   exact⟨rfl,by simp,by simp,hfr,Nat.le_refl _,Nat.le_refl _,Nat.le_refl _,fun h=>absurd rfl h⟩
theorem kE(H:Fits next rule kind kinds)(ht:∀ b∈t,b<256){i:Nat}(hi:i≤t.length) :
  (dw next rule kind t i).f=i ∧ -2≤(dw next rule kind t i).k∧(dw next rule kind t i).k<16∧i≤(dw next rule kind t i).a∧(dw next rule kind t i).a≤(dw next rule kind t i).t∧(dw next rule kind t i).t≤t.length ∧
   (dw next rule kind t i).e≤t.length+1∧((dw next rule kind t i).k ≠ -2→i+1≤(dw next rule kind t i).t) :=
 KF H ht i hi _ i 0 Nat.le.refl Nat.le.refl hi (Nat.zero_le _)
theorem vV(f i e:Nat)(fr:Nat)(hi:i<t.length):tokF next rule kind t fr (f+1) i e=if (dJ next rule t i).1<0∨0≤(if (dJ next rule t i).1<0 then -1 else kind.getD (dJ next rule t i).1.toNat 0) then
  ⟨if (dJ next rule t i).1<0 then -1 else kind.getD (dJ next rule t i).1.toNat 0,fr,i,(dJ next rule t i).2.1,max (max e (dJ next rule t i).2.2) ((dJ next rule t i).2.1+1)⟩
  else tokF next rule kind t fr f (dJ next rule t i).2.1 (max e (dJ next rule t i).2.2):=by
 rw[tokF,if_pos hi]
theorem CU(H:Fits next rule kind kinds)(ht:∀ b∈t,b<256)(fr:Nat):∀ (f g i e:Nat),t.length-i≤f→t.length-i≤g→i≤t.length→tokF next rule kind t fr f i e=tokF next rule kind t fr g i e
 | 0,0,_,_,_,_,_=>rfl
 | 0,g+1,i,e,hf,_,hi=>by
  have hlt:¬i<t.length:=by omega
  rw[tokF,tokF,if_neg hlt]
 | f+1,0,i,e,_,hg,hi=>by
  have hlt:¬i<t.length:=by omega
  rw[tokF,tokF,if_neg hlt]
 | f+1,g+1,i,e,hf,hg,hi=>by
  by_cases hlt:i<t.length
  ·have hx:=kZ H ht hlt
   rw[vV f i e fr hlt,vV g i e fr hlt];rw[CU H ht fr f g _ _ (by omega) (by omega) (by omega)]
  ·rw[tokF,tokF,if_neg hlt,if_neg hlt]
theorem CY(H:Fits next rule kind kinds)(ht:∀ b∈t,b<256):∀ (f g i:Nat),t.length-i≤f→t.length-i≤g→i≤t.length→vW next rule kind t f i=vW next rule kind t g i
 | 0,0,_,_,_,_=>rfl
 | 0,g+1,i,hf,_,hi=>by
  have hk:(dw next rule kind t i).k = -2:=by
   have:t.length-i=0:=(by omega);unfold dw;rw[this,tokF]
  rw[vW,vW,if_pos hk]
 | f+1,0,i,_,hg,hi=>by
  have hk:(dw next rule kind t i).k = -2:=by
   have:t.length-i=0:=(by omega);unfold dw;rw[this,tokF]
  rw[vW,vW,if_pos hk]
 | f+1,g+1,i,hf,hg,hi=>by
  rw[vW,vW];split
  ·rfl
  ·rename_i hk
   have:=kE H ht hi;have h8:=this.2.2.2.2.2.2.2 hk;rw[CY H ht f g _ (by omega) (by omega) this.2.2.2.2.2.1]
theorem eH(H:Fits next rule kind kinds)(ht:∀ b∈t,b<256){i:Nat}(hi:i≤t.length):dD next rule kind t i=if (dw next rule kind t i).k = -2 then [dw next rule kind t i] else dw next rule kind t i::dD next rule kind t (dw next rule kind t i).t:=by
 have hb:=kE H ht hi
 by_cases hk:(dw next rule kind t i).k = -2
 ·rw[if_pos hk]
  unfold dD
  cases h:t.length-i with
  | zero=>rw[vW]
  | succ f=>rw[vW,if_pos hk]
 ·rw[if_neg hk]
  have h8:=hb.2.2.2.2.2.2.2 hk;have h6:=hb.2.2.2.2.2.1;unfold dD;obtain⟨f,hf⟩:∃ f,t.length-i=f+1:=⟨t.length-i-1,by omega⟩;rw[hf,vW,if_neg hk]
  congr 1
  exact CY H ht _ _ _ (by omega) Nat.le.refl h6
theorem lQ(H:Fits next rule kind kinds)(ht:∀ b∈t,b<256):∀ (n i:Nat),t.length-i≤n→i≤t.length→(dD next rule kind t i).length≤t.length-i+1
 | 0,i,hn,hi=>by
  rw[eH H ht hi];have:(dw next rule kind t i).k = -2:=by
   have:t.length-i=0:=(by omega);unfold dw;rw[this,tokF]
  rw[if_pos this];simp
 | n+1,i,hn,hi=>by
  rw[eH H ht hi];have hb:=kE H ht hi;split
  ·simp
  ·rename_i hk
   have h8:=hb.2.2.2.2.2.2.2 hk;have h6:=hb.2.2.2.2.2.1;have:=lQ H ht n (dw next rule kind t i).t (by omega) h6;rw[List.length_cons];omega
end
end
section
open Go Go.Proofs Go.RowKit
attribute [local go_sem] Oper.semAt_some
def Bx(w:World)(g:Nat)(t:TypeId)(cs:Array Value):Prop:=w.heap[g]?=some (.cells cs t (0,0))
theorem Bx.lt{w:World}{g:Nat}{t:TypeId}{cs:Array Value}(h:Bx w g t cs):g<w.heap.size:=(Array.getElem?_eq_some_iff.1 h).1
theorem Bx.cell{w:World}{g:Nat}{t:TypeId}{cs:Array Value}(h:Bx w g t cs)(i:Nat):w.cell? ⟨g,i,none⟩=cs[i]?:=cell_of_row w g i cs t (0,0) h
theorem Bx.frozen{w:World}{g:Nat}{t:TypeId}{cs:Array Value}(h:Bx w g t cs)(i:Nat):w.frozen? ⟨g,i,none⟩=false:=by simp[World.frozen?,show w.heap[g]?=_ from h]
theorem Bx.new(w:World)(t:TypeId)(cs:Array Value):Bx (w.alloc (.cells cs t)) w.heap.size t cs:=World.alloc_heap_new w _
theorem Bx.below{n:Nat}{w w':World}{g:Nat}{t:TypeId}{cs:Array Value}(h:Bx w g t cs)(hb:Below n w w')(hn:g<n):Bx w' g t cs:=(hb.block _ hn).trans h
theorem Bx.alloc{w:World}{g:Nat}{t:TypeId}{cs:Array Value}(h:Bx w g t cs)(o:Obj):Bx (w.alloc o) g t cs:=(Below.heap_alloc w o _ h.lt).trans h
theorem Bx.set{w:World}{g:Nat}{t:TypeId}{cs:Array Value}(h:Bx w g t cs)(i:Nat)(u:Value):Bx (w.setCell ⟨g,i,none⟩ u) g t (cs.setIfInBounds i u):=heap_setCell_same w g i cs t u h
theorem Bx.other{w:World}{g g' i:Nat}{t:TypeId}{cs:Array Value}{u:Value}(h:Bx w g t cs)(hne:g≠g'):Bx (w.setCell ⟨g',i,none⟩ u) g t cs:=(Below.heap_setCell _ _ _ _ hne).trans h
def sb(s:ByteArray):List Nat:=s.data.toList.map UInt8.toNat
theorem bW(s:ByteArray):(sb s).length=s.size:=by simp[sb]
theorem kR(s:ByteArray):∀ b∈sb s,b<256:=fun b hb=>by
 obtain⟨u,_,hu⟩:=List.mem_map.1 hb;have:=UInt8.toNat_lt u;omega
theorem Jr(s:ByteArray)(i:Nat)(h:i<s.size):(sb s).getD i 0=s[i].toNat:=by
 have:i<s.data.size:=h;simp only[sb,List.getD,List.getElem?_map,Array.getElem?_toList];rw[Array.getElem?_eq_getElem this];rfl
def scV(a l s r f t e:Int)(b d:Bool):Value := .agg #[.int .i64 a, .int .i64 l, .int .i64 s, .int .i64 r, .int .i64 f, .int .i64 t, .int .i64 e, .bool b, .bool d]
def scC(a l s r f t e:Int)(b d:Bool):Array Value:=#[.int .i64 a, .int .i64 l, .int .i64 s, .int .i64 r, .int .i64 f, .int .i64 t, .int .i64 e, .bool b, .bool d]
theorem Uu(a:Nat)(ha:a≤1000000)(w:World):Calls Tryz.prog 135 #[.int .i64 a] w fun e w'=>e = .returned (scV a 0 0 (-1) a (a+1) 0 true false)∧Below w.heap.size w w':=by
 unfold scV;go_enter Tryz.func135,Tryz.ntmps135
 go_wp2
 exact bodyPost_ret (v := .agg #[.int .i64 a, .int .i64 0, .int .i64 0, .int .i64 (-1), .int .i64 a, .int .i64 (a+1), .int .i64 0, .bool true, .bool false]) (by simp[results,Tryz.results135,go_sem]) rfl ⟨rfl,(Below.refl _ w).alloc Nat.le.refl _⟩
section
variable {next rule : List Int} {an ar : Option Addr} {cn cr : Nat} {w : World}
theorem Qu(s:ByteArray)(a l:Nat)(st:Int)(r f t e:Int)(hi:a+l=s.size)(hs:s.size≤1000000) :
  Calls Tryz.prog 136 #[scV a l st r f t e true false, .agg #[.slice an next.length cn, .slice ar rule.length cr], .string s] w fun en w'=>en = .returned (scV a (l+1) st r f t (s.size+1) true true)∧Below w.heap.size w w':=by
 unfold scV;have hz:(a:Int)+(l:Int)=(s.size:Int):=by omega
 have hal:(a:Int)≤1000000:=by omega
 have hll:(l:Int)≤1000000:=by omega
 have ha0:(0:Int)≤(a:Int):=by omega
 have hl0:(0:Int)≤(l:Int):=by omega
 have hs1:(s.size:Int)≤1000000:=by omega
 generalize next.length=N at *
 generalize rule.length=R at *;clear hi;go_enter Tryz.func136,Tryz.ntmps136
 go_wp2
 exact bodyPost_ret (v := .agg #[.int .i64 a, .int .i64 (l+1), .int .i64 st, .int .i64 r, .int .i64 f, .int .i64 t, .int .i64 (s.size+1), .bool true, .bool true]) (by simp[results,Tryz.results136,go_sem]) rfl ⟨rfl,(((Below.refl _ w).alloc Nat.le.refl _).alloc (by simp) _).alloc (by simp;omega) _⟩
theorem look_in(hN:aK w an next)(hR:aK w ar rule)(s:ByteArray)(a l st:Nat)(r f t e:Int)(hi:a+l<s.size)(hs:s.size≤1000000)(hst:st<rule.length)(hr:rule.length≤512)(hnl:next.length=256*rule.length)
  (x:Int) (hx:x=next.getD (256*st+(sb s).getD (a+l) 0) 0) (hxr:x<rule.length) :
  Calls Tryz.prog 136 #[scV a l st r f t e true false, .agg #[.slice an next.length cn, .slice ar rule.length cr], .string s] w fun en w' =>
   en = .returned (if x<0 then scV a (l+1) x r f t (a+l+1) true true else if 0≤rule.getD x.toNat 0 then scV a (l+1) x (rule.getD x.toNat 0) f (a+l+1) (a+l+1) true false else scV a (l+1) x r f t (a+l+1) true false)∧Below w.heap.size w w':=by
 have hb:(sb s).getD (a+l) 0<256:=by
  rw[Jr s _ hi];exact UInt8.toNat_lt _
 have hlt:256*st+(sb s).getD (a+l) 0<next.length:=by omega
 obtain⟨b1,o1,rfl,hb1,hc1⟩:=hN.get hlt;rw[←hx] at hc1;rw[Jr s _ hi] at hc1 hb hlt;have hal:(a:Int)≤1000000:=by omega
 have hll:(l:Int)≤1000000:=by omega
 have ha0:(0:Int)≤(a:Int):=by omega
 have hl0:(0:Int)≤(l:Int):=by omega
 have hs1:(s.size:Int)≤1000000:=by omega
 have hlt1:(a:Int)+(l:Int)<(s.size:Int):=by omega
 have hne:((a:Int)+(l:Int) == (s.size:Int))=false:=by simp;omega
 have htn:((a:Int)+(l:Int)).toNat=a+l:=by omega
 obtain⟨c,hc⟩:∃ c,s[a+l].toNat=c:=⟨_,rfl⟩;rw[hc] at hc1 hb hlt;have hp0:(0:Int)≤(a:Int)+(l:Int):=by omega
 have hc0:(0:Int)≤(c:Int):=by omega
 have hc2:(c:Int)<256:=by omega
 have hs0:(0:Int)≤(st:Int):=by omega
 have hs5:(st:Int)<512:=by omega
 have hq:256*(st:Int)+(c:Int)<(next.length:Int):=by omega
 have htq:(256*(st:Int)+(c:Int)).toNat=256*st+c:=by omega
 have hbw:b1<w.heap.size:=hb1;clear hx hb1 hnl
 by_cases h1:x<0
 ·rw[if_pos h1]
  unfold scV;clear hR;generalize next.length=N at *
  generalize rule.length=R at *;go_enter Tryz.func136,Tryz.ntmps136
  go_wp2
  have w1:IntKind.i64.wrap (256*(st:Int))=256*(st:Int):=by rw[IntKind.wrap_i64];omega
  have w2:IntKind.i64.wrap (c:Int)=(c:Int):=by rw[IntKind.wrap_i64];omega
  have w3:IntKind.i64.wrap (256*(st:Int)+(c:Int))=256*(st:Int)+(c:Int):=by rw[IntKind.wrap_i64];omega
  have hp1:(0:Int)≤256*(st:Int)+(c:Int):=by omega
  have hb2:b1<w.heap.size+1:=by omega
  have hb3:b1<w.heap.size+1+1:=by omega
  go_region
  go_wp2
  exact bodyPost_ret (v := .agg #[.int .i64 a, .int .i64 (l+1), .int .i64 x, .int .i64 r, .int .i64 f, .int .i64 t, .int .i64 (a+l+1), .bool true, .bool true]) (by simp[results,Tryz.results136,go_sem]) rfl
   ⟨rfl,((((Below.refl _ w).alloc Nat.le.refl _).alloc (by simp) _).alloc (by simp;omega) _).drew⟩
 ·rw[if_neg h1]
  obtain⟨y,rfl⟩:∃ y:Nat,x=y:=⟨x.toNat,by omega⟩;have hyl:y<rule.length:=by omega
  obtain⟨b2,o2,rfl,hb4,hc4⟩:=hR.get hyl;rw[Int.toNat_natCast];have hy0:(0:Int)≤(y:Int):=by omega
  have hy1:(y:Int)<(rule.length:Int):=by omega
  have hb5:b2<w.heap.size+1:=by omega
  have hb6:b2<w.heap.size+1+1:=by omega
  generalize rule.getD y 0=u at *;clear hR h1;have hyn:¬((y:Int)<0):=by omega
  unfold scV;generalize next.length=N at *
  generalize rule.length=R at *
  by_cases hu:0≤u
  ·rw[if_pos hu]
   go_enter Tryz.func136,Tryz.ntmps136
   go_wp2
   have w1:IntKind.i64.wrap (256*(st:Int))=256*(st:Int):=(by rw[IntKind.wrap_i64];omega);have w2:IntKind.i64.wrap (c:Int)=(c:Int):=(by rw[IntKind.wrap_i64];omega);have w3:IntKind.i64.wrap (256*(st:Int)+(c:Int))=256*(st:Int)+(c:Int):=(by rw[IntKind.wrap_i64];omega);have hp1:(0:Int)≤256*(st:Int)+(c:Int):=(by omega);have hb2:b1<w.heap.size+1:=(by omega);have hb3:b1<w.heap.size+1+1:=(by omega);go_region
   go_wp2
   exact bodyPost_ret (v := .agg #[.int .i64 a, .int .i64 (l+1), .int .i64 y, .int .i64 u, .int .i64 f, .int .i64 (a+l+1), .int .i64 (a+l+1), .bool true, .bool false]) (by simp[results,Tryz.results136,go_sem]) rfl
    ⟨rfl,((((Below.refl _ w).alloc Nat.le.refl _).alloc (by simp) _).alloc (by simp;omega) _).drew⟩
  ·rw[if_neg hu]
   have hu':u<0:=(by omega);clear hu;go_enter Tryz.func136,Tryz.ntmps136
   go_wp2
   have w1:IntKind.i64.wrap (256*(st:Int))=256*(st:Int):=(by rw[IntKind.wrap_i64];omega);have w2:IntKind.i64.wrap (c:Int)=(c:Int):=(by rw[IntKind.wrap_i64];omega);have w3:IntKind.i64.wrap (256*(st:Int)+(c:Int))=256*(st:Int)+(c:Int):=(by rw[IntKind.wrap_i64];omega);have hp1:(0:Int)≤256*(st:Int)+(c:Int):=(by omega);have hb2:b1<w.heap.size+1:=(by omega);have hb3:b1<w.heap.size+1+1:=(by omega);go_region
   go_wp2
   exact bodyPost_ret (v := .agg #[.int .i64 a, .int .i64 (l+1), .int .i64 y, .int .i64 r, .int .i64 f, .int .i64 t, .int .i64 (a+l+1), .bool true, .bool false]) (by simp[results,Tryz.results136,go_sem]) rfl
    ⟨rfl,((((Below.refl _ w).alloc Nat.le.refl _).alloc (by simp) _).alloc (by simp;omega) _).drew⟩
end
end
end Go.Proofs.YtkjgogdkdejljaaGreatDoor.Lx
namespace Go.Proofs.YtkjgogdkdejljaaGreatDoor.AX
open Go
section
variable {P : Program} {w : World}
def leI(a b:Int):Bool :=
 match a,b with
 | .ofNat m, .ofNat n=>Nat.ble m n
 | .negSucc m, .negSucc n=>Nat.ble n m
 | .negSucc _, .ofNat _=>true
 | .ofNat _, .negSucc _=>false
def sizeT(P:Program)(t:TypeId):Option Nat:=(P.info? t).map (·.size)
theorem NP(a b:Int):leI a b=decide (a≤b):=by
 rw[Bool.eq_iff_iff]
 cases a<;>cases b<;>simp[leI]<;>omega
theorem Ii{t:TypeId}{n:Nat}(h:sizeT P t=some n):∃ i,P.info? t=some i∧i.size=n:=by
 unfold sizeT at h
 cases hi:P.info? t with
 | none=>simp[hi] at h
 | some i=>simp[hi] at h;exact⟨i,rfl,h⟩
theorem run_typeInfo{t:TypeId}{i:TypeInfo}(h:P.info? t=some i):(typeInfo t).run P w = .ok i w:=by
 simp[typeInfo,h]
theorem run_sizeOf{t:TypeId}{n:Nat}(h:sizeT P t=some n):(sizeOf t).run P w = .ok n w:=by
 obtain⟨i,hi,hn⟩:=Ii h;simp[sizeOf,run_typeInfo hi,hn]
theorem addr_add(b o n:Nat):(Addr.mk b o none).add n=⟨b,o+n,none⟩:=by
 unfold Addr.add;split
 ·rename_i h;subst h;rfl
 ·rfl
def Same(w w':World):Prop:=w'.os=w.os∧(w'.output,w'.tape)=(w.output,w.tape)
theorem Same.refl(w:World):Same w w:=⟨rfl,rfl⟩
theorem Same.trans{a b c:World}(h:Same a b)(k:Same b c):Same a c:=⟨k.1.trans h.1,k.2.trans h.2⟩
structure Kept(w w':World):Prop where
 os:w'.os=w.os
 out:w'.output=w.output
 tape:w'.tape=w.tape
 block:∀(k:Nat)(o:Obj),w.heap[k]?=some o→w'.heap[k]?=some o
theorem RP{h:Array Obj}{w:World}(hw:w.heap=h){b o:Nat}{cs:Array Value}{e:TypeId}{fz:Nat×Nat}{x:Value}(hb:h[b]?=some (.cells cs e fz))(hx:cs[o]?=some x) :
  w.cell? ⟨b,o,none⟩=some x:=by
 simp[World.cell?,hw,hb,hx]
def kV(cs:Array Value)(o:Nat):List Value→Array Value
 | []=>cs
 | x::xs=>kV (cs.setIfInBounds o x) (o+1) xs
theorem wG:∀(xs:List Value)(cs:Array Value)(o:Nat),(kV cs o xs).size=cs.size
 | [],_,_=>rfl
 | x::xs,cs,o=>by rw[kV,wG xs];simp
theorem xR:∀(xs:List Value)(cs:Array Value)(o j:Nat),o+xs.length≤cs.size→(kV cs o xs)[j]?=if o≤j∧j<o+xs.length then xs[j-o]? else cs[j]?
 | [],cs,o,j,_=>by rw[kV,if_neg (by simp)]
 | x::xs,cs,o,j,h=>by
  simp only[List.length_cons] at h;rw[kV,xR xs _ _ _ (by simp;omega)]
  by_cases h0:j=o
  ·subst h0
   have hlt:j<cs.size:=(by omega);rw[if_neg (by omega),if_pos (by simp)];simp[hlt]
  ·by_cases h1:o+1≤j∧j<o+1+xs.length
   ·rw[if_pos h1,if_pos (by simp;omega)]
    rw[show j-o=(j-(o+1))+1 from by omega];simp
   ·rw[if_neg h1,if_neg (by simp;omega)]
    exact Array.getElem?_setIfInBounds_ne (by omega)
theorem heap_setCell{h:Array Obj}{b o:Nat}{x:Value}{cs:Array Value}{e:TypeId}{fz:Nat×Nat}(hw:w.heap=h)(hb:h[b]?=some (.cells cs e fz)) :
  (w.setCell ⟨b,o,none⟩ x).heap[b]?=some (.cells (cs.setIfInBounds o x) e fz)∧∀ k,k≠b→(w.setCell ⟨b,o,none⟩ x).heap[k]?=h[k]?:=by
 subst hw;simp only[World.setCell,Array.getElem?_modify];refine⟨by simp[hb],fun k hk=>by rw[if_neg (Ne.symm hk)]⟩
theorem dR{b o:Nat}{e:TypeId}{fz:Nat×Nat} : ∀(xs:List Value)(i:Nat)(cs:Array Value)(w:World),w.heap[b]?=some (.cells cs e fz) →
  o+i+xs.length≤cs.size→(∀ j,j<cs.size→¬(fz.1≤j∧j<fz.2))→(∀ x∈xs,x.oneCell'=true) →
  ∃ w',(storeCells ⟨b,o,none⟩ xs i).run P w = .ok () w'∧w'.heap[b]?=some (.cells (kV cs (o+i) xs) e fz)∧(∀ k,k≠b→w'.heap[k]?=w.heap[k]?)∧Same w w':=by
 intro xs
 induction xs with
 | nil=>intro i cs w hb _ _ _;exact⟨w,rfl,hb,fun _ _=>rfl,Same.refl w⟩
 | cons x xs ih =>
  intro i cs w hb hle hfz hone;simp only[List.length_cons] at hle;have hlt:o+i<cs.size:=by omega
  have hc:w.cell? ⟨b,o+i,none⟩=some cs[o+i]:=RP rfl hb (by simp[hlt]);have hf:w.frozen? ⟨b,o+i,none⟩=false:=by
   have:=hfz (o+i) hlt;obtain⟨lo,hi⟩:=fz;simp only[World.frozen?,hb];simp only at this
   cases hh:(decide (lo≤o+i) && decide (o+i<hi)) with
   | false=>rfl
   | true=>simp only[Bool.and_eq_true,decide_eq_true_eq] at hh;exact absurd hh this
  obtain⟨h1,h2⟩:=heap_setCell (w:=w) (o:=o+i) (x:=x) rfl hb;obtain⟨w',g1,g2,g3,g4⟩:=ih (i+1) (cs.setIfInBounds (o+i) x) (w.setCell ⟨b,o+i,none⟩ x) h1 (by simp;omega) (by simpa using hfz) (fun y hy=>hone y (by simp[hy]));refine⟨w',?_,?_,fun k hk=>by rw[g3 k hk,h2 k hk],Same.trans ⟨rfl,rfl⟩ g4⟩
  ·simp only[storeCells,Sem.run_bind,addr_add]
   rw[run_store P w _ x .plain (hone x (by simp)),hc];simp only[hf,Bool.false_eq_true,if_false,Result.andThen_ok];exact g1
  ·rw[g2];rfl
end
theorem nI:∀(xs:List Value)(cs:Array Value),xs.length=cs.size→kV cs 0 xs=xs.toArray:=fun xs cs h=>by
 apply Array.ext
 ·rw[wG];simp[h]
 ·intro i h1 h2
  have:=xR xs cs 0 i (by omega);have hi:i<xs.length:=by simpa using h2
  rw[if_pos ⟨Nat.zero_le _,by omega⟩] at this;rw[Array.getElem?_eq_getElem h1,Nat.sub_zero,List.getElem?_eq_getElem hi] at this
  simpa using Option.some.inj this
theorem aj{n b:Nat}{w w':World}(hn:n≤b)(hbl:b<w'.heap.size∨w.heap.size≤b)(h2:∀ k,k≠b→w'.heap[k]?=w.heap[k]?)(h3:Same w w'):Go.RowKit.Below n w w':=by
 refine⟨h3.1,(Prod.mk.inj h3.2).2,(Prod.mk.inj h3.2).1,?_,fun k hk=>h2 k (by omega)⟩;rcases Nat.lt_or_ge w'.heap.size w.heap.size with hlt | hge
 ·exfalso
  have hk:=h2 w'.heap.size;rw[Array.getElem?_eq_none Nat.le.refl,Array.getElem?_eq_getElem hlt] at hk
  by_cases e:w'.heap.size=b
  ·omega
  ·cases hk e
 ·exact hge
section
variable {P : Program} {ops : Array Oper} {Q : Exit → Act → World → Prop} {a : Act} {w : World} {rest : List Oper} {t : TypeId} {x y : Operand} {ty : TypeId} {pos : String} {after : Array Edge} {b : Nat} {cs : Array Value} {e : TypeId} {vs : List Value}
theorem au(hp:a.eval x = .pointer (some ⟨b,0,none⟩))(hy:a.eval y = .agg vs.toArray)(hsz:sizeT P t=some vs.length)(hb:w.heap[b]?=some (.cells cs e (0,0)))(hle:cs.size=vs.length)(hone:vs.all Value.oneCell'=true)
  (h:∀ w',w'.heap[b]?=some (.cells vs.toArray e (0,0))→(∀ k,k≠b→w'.heap[k]?=w.heap[k]?)→Same w w'→wpList P ops Q rest a w') :
  wpList P ops Q ({ dst:=none,op := .store t x y,type:=ty,pos:=pos,after:=after,guard:=none }::rest) a w:=by
 obtain⟨w',e1,e2,e3,e4⟩:=dR (P:=P) (o:=0) vs 0 cs w hb (by omega) (fun j _=>by omega) (fun v hv=>List.all_eq_true.1 hone v hv);refine wpList_plain rfl fun K hK=>?_;have hr:(execOp a.eval { dst:=none,op := .store t x y,type:=ty,pos:=pos,after:=after,guard:=none }).run P w = .ok .skip w':=by
  have hne:¬(vs.toArray.size≠vs.length):=by simp
  simp only[execOp,hp,hy,Instr.storeAt,Instr.sureAddr,Sem.run_bind,Sem.run_pure,Result.andThen_ok,storeVar,Value.cells,run_sizeOf hsz,if_neg hne];rw[e1];rfl
 unfold Oper.wp;rw[hr];refine hK _ _ (h w' ?_ e3 e4);rw[e2,Nat.add_zero,nI vs cs hle.symm]
theorem cells_one{v:Value}(h:v.oneCell'=true):v.cells=#[v]:=by
 cases v<;>first | rfl | cases h
theorem aB{o:Nat}{v:Value}(hp:a.eval x = .pointer (some ⟨b,o,none⟩))(hy:a.eval y=v)(hv:v.oneCell'=true)(hsz:sizeT P t=some 1)(hb:w.heap[b]?=some (.cells cs e (0,0)))(ho:o<cs.size)
  (h:∀ w',w'.heap[b]?=some (.cells (cs.setIfInBounds o v) e (0,0))→(∀ k,k≠b→w'.heap[k]?=w.heap[k]?)→Same w w'→wpList P ops Q rest a w') :
  wpList P ops Q ({ dst:=none,op := .store t x y,type:=ty,pos:=pos,after:=after,guard:=none }::rest) a w:=by
 obtain⟨w',e1,e2,e3,e4⟩:=dR (P:=P) (o:=o) [v] 0 cs w hb (by simp only[List.length_singleton];omega) (fun j _=>by omega) (fun u hu=>by rw[List.mem_singleton.1 hu];exact hv);refine wpList_plain rfl fun K hK=>?_;have hr:(execOp a.eval { dst:=none,op := .store t x y,type:=ty,pos:=pos,after:=after,guard:=none }).run P w = .ok .skip w':=by
  have hne:¬(#[v].size≠1):=by simp
  simp only[execOp,hp,hy,Instr.storeAt,Instr.sureAddr,Sem.run_bind,Sem.run_pure,Result.andThen_ok,storeVar,cells_one hv,run_sizeOf hsz,if_neg hne];rw[e1];rfl
 unfold Oper.wp;rw[hr];exact hK _ _ (h w' e2 e3 e4)
end
end Go.Proofs.YtkjgogdkdejljaaGreatDoor.AX
