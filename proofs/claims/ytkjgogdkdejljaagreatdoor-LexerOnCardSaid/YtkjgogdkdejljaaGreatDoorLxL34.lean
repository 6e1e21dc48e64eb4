import Derived.Test.YtkjgogdkdejljaaGreatDoorDfE9
import Derived.Test.YtkjgogdkdejljaaGreatDoorDfH1
set_option maxRecDepth 100000
set_option maxHeartbeats 40000000
namespace Go.Proofs.YtkjgogdkdejljaaGreatDoor.Df
section
open Go.Lib (hid)
open Go Go.Proofs Go.RowKit
attribute [local go_sem] Oper.semAt_some
def qR(x:Rl):Bool:=decide (x.re.size≤24) && decide (x.nm.size≤24)
def kF(R:List Rl):Bool:=R.all qR && decide (R.length≤6)
theorem BZ(R:List Rl)(hl:R.length≤9223372036854775807)(la:Option Addr)(c:Nat)(w:World)(hR:uZ w la R):Calls Tryz.prog 10 #[.slice la R.length c] w fun e w'=>e = .returned (.bool (kF R))∧w=w':=by
 obtain⟨n,hn⟩:∃ n,n=R.length:=⟨_,rfl⟩;obtain⟨lv,hlv⟩:∃ lv,lv=kF R:=⟨_,rfl⟩;rw[←hn] at hl ⊢;rw[←hlv];have HN:=hid hn;have HLV:=hid hlv;have HR:=hid hR;obtain⟨wo,hwo⟩:∃ wo:World,wo=w:=⟨_,rfl⟩;have HWO:=hid hwo;clear hn hlv hR hwo;go_enter Tryz.func10,Tryz.ntmps10
 go_upto_region 2 with fail
 go_loopw [3] (fun v3 wr=>∃ i:Nat,v3 = .int .i64 i∧i≤n∧wr=wo∧Hid ((R.take i).all qR=true)) (fun v3 _=>n-(intOf v3).toNat)
 case atStart=>exact⟨0,rfl,Nat.zero_le _,HWO.out.symm,hid rfl⟩
 case round =>
  obtain⟨i,rfl,hi,hwr,hall⟩:=hrel;subst hwr;have hi0:(0:Int)≤(i:Int):=by omega
  by_cases hlt:i<n
  ·have hi1:(i:Int)<(n:Int):=by omega
   obtain⟨x,hx⟩:∃ x,R[i]?=some x:=⟨_,List.getElem?_eq_getElem (by have:=HN.out;omega)⟩;have HX:=hid hx;obtain⟨B,off,rfl,hB,d0,d1,d2⟩:=HR.out i x hx;rw[←HWO.out] at d0 d1 d2;obtain⟨nm,re,tr⟩:=x;simp only at d0 d1 d2;have hfalse:qR ⟨nm,re,tr⟩=false→lv=false:=fun h=>by
    rw[HLV.out];unfold kF;have:R.all qR=false:=Bool.eq_false_iff.2 fun ha=>by
     have:=List.all_eq_true.1 ha _ (List.mem_of_getElem? HX.out);rw[h] at this
     cases this
    rw[this];rfl
   have HF:=hid hfalse;clear hfalse hx d2
   by_cases h1:(24:Int)<(re.size:Int)
   ·have e:=HF.out (by
     show(decide (re.size≤24) && decide (nm.size≤24))=false
     rw[decide_eq_false (p:=re.size≤24) (by omega)];rfl)
    subst e;go_wp2_with fail
    exact bodyPost_ret (v := .bool false) (by simp[results,Tryz.results10,go_sem]) rfl ⟨rfl,HWO.out.symm⟩
   ·by_cases h2:(24:Int)<(nm.size:Int)
    ·have e:=HF.out (by
      show(decide (re.size≤24) && decide (nm.size≤24))=false
      rw[decide_eq_false (p:=nm.size≤24) (by omega),Bool.and_false])
     subst e;go_wp2_with fail
     exact bodyPost_ret (v := .bool false) (by simp[results,Tryz.results10,go_sem]) rfl ⟨rfl,HWO.out.symm⟩
    ·have hnx:Hid ((R.take (i+1)).all qR=true):=hid (by
      rw[List.take_add_one,HX.out,List.all_append,hall.out];simp[qR];omega)
     go_wp2_with fail
     exact⟨⟨i+1,by simp,by omega,trivial,hnx⟩,by simp[intOf];omega⟩
  ·have hi1:¬(i:Int)<(n:Int):=by omega
   obtain rfl:i=n:=by omega
   have e:lv=decide (i≤6):=by
    rw[HLV.out];unfold kF;have:=hall.out;rw[List.take_of_length_le (by have:=HN.out;omega)] at this;rw[this,←HN.out];rfl
   by_cases h6:i≤6
   ·rw[decide_eq_true h6] at e
    subst e;have h7:(i:Int)≤6:=(by omega);go_wp2_with fail
    exact bodyPost_ret (v := .bool true) (by simp[results,Tryz.results10,go_sem]) rfl ⟨rfl,HWO.out.symm⟩
   ·rw[decide_eq_false h6] at e
    subst e;have h7:¬(i:Int)≤6:=(by omega);go_wp2_with fail
    exact bodyPost_ret (v := .bool false) (by simp[results,Tryz.results10,go_sem]) rfl ⟨rfl,HWO.out.symm⟩
def yY(n:Nat)(w:World)(e:Ending)(w':World):Prop:=∃ i:Nat,i<n∧e = .returned (.int .i64 i)∧w'=w
theorem yZ(k:Int)(n:Nat)(h0:0<n)(h1:n≤120)(w:World):Calls Tryz.prog 19 #[.int .i64 k, .int .i64 n] w (yY n w):=by
 have hn:¬(n:Int)<1:=by omega
 have hz:¬(n:Int)=0:=by omega
 have r1:k.tmod n<n:=Int.tmod_lt_of_pos k (by omega);have r2 : -(n:Int)<k.tmod n:=by
  have h2:=Int.tmod_lt_of_pos (-k) (show (0:Int)<n by omega);rw[Int.neg_tmod] at h2;omega
 obtain⟨r,hr⟩:∃ r,r=k.tmod n:=⟨_,rfl⟩;rw[←hr] at r1 r2;go_enter Tryz.func19,Tryz.ntmps19
 go_upto_region 4 with fail
 rw[←hr];clear hr
 by_cases hc:r<0
 ·go_wp2_with fail
  exact bodyPost_ret (v := .int .i64 ((r+n).toNat:Nat)) (by simp[results,Tryz.results19,go_sem];omega) rfl ⟨(r+n).toNat,by omega,rfl,rfl⟩
 ·go_wp2_with fail
  exact bodyPost_ret (v := .int .i64 (r.toNat:Nat)) (by simp[results,Tryz.results19,go_sem];omega) rfl ⟨r.toNat,by omega,rfl,rfl⟩
end
section
open Go Go.Proofs Go.RowKit
def exW:ByteArray:=⟨#[91,97,45,122,93,43]⟩
def exG:ByteArray:=⟨#[91,32,93,43]⟩
def exR:List Rl:=[⟨⟨#[119,111,114,100]⟩,exW,false⟩,⟨⟨#[103,97,112]⟩,exG,true⟩]
def exT:List (List Int):=[[-1,1,2],[-1,1,-1],[-1,-1,2]]
def exS:Sets:=[[0],[2],[1]]
theorem Y7:FB exR:=fun j x hx=>by
 match j with
 | 0 =>
  have:x=⟨⟨#[119,111,114,100]⟩,exW,false⟩:=(Option.some.inj hx).symm;subst this;exact(show(iU [] ⟨⟨#[119,111,114,100]⟩,exW,false⟩).2=0 by kernel_rfl)
 | 1 =>
  have:x=⟨⟨#[103,97,112]⟩,exG,true⟩:=(Option.some.inj hx).symm;subst this;exact(show(iU [⟨#[119,111,114,100]⟩] ⟨⟨#[103,97,112]⟩,exG,true⟩).2=0 by kernel_rfl)
 | j+2=>cases hx
theorem SQ:(parts (nfP exR).cl).reverse.map Kl.low = [0,32,97]:=by kernel_rfl
theorem OD:spl (nfP exR).cl=(parts (nfP exR).cl).reverse:=by
 refine (OE (List.reverse_perm _) ?_).symm;have h:((parts (nfP exR).cl).reverse.map Kl.low).Pairwise (·≤·):=by rw[SQ];simp
 exact List.pairwise_map.1 h
theorem WA:(nfP exR).cl.length=3:=by kernel_rfl
theorem WB:kY 512 (jC (nfP exR)) (eY (parts (nfP exR).cl).reverse) 513 0 [[0]]=some (exT,exS):=by kernel_rfl
theorem IL:qp exR exT exS:=⟨by simp[exR],Y7,by rw[WA];decide,by rw[OD];exact WB⟩
theorem SS{tss:List (List Int)}{T:Sets}(h:qp exR tss T):tss=exT∧T=exS:=by
 have:=h.bl.symm.trans IL.bl
 cases this
 exact⟨rfl,rfl⟩
theorem Y8:kdP exR=([0,-1],1):=rfl
theorem SV:(bK (dI (fF (parts (nfP exR).cl).reverse) exT) (iG (nfP exR).ru exS)).2 = [-1,1,0]:=by kernel_rfl
theorem SX:(bK (dI (fF (parts (nfP exR).cl).reverse) exT) (iG (nfP exR).ru exS)).1=dI (fF (parts (nfP exR).cl).reverse) exT:=by kernel_rfl
theorem WC:Lx.dD (nO exR exT exS).1 (nO exR exT exS).2 [0,-1] [97,32,98] 0 = [⟨0,0,0,1,2⟩,⟨0,1,2,3,4⟩,⟨-2,3,3,3,4⟩]:=by
 unfold nO;rw[OD,SV,SX]
 kernel_rfl
end
end Go.Proofs.YtkjgogdkdejljaaGreatDoor.Df
namespace Go.Proofs.YtkjgogdkdejljaaGreatDoor.Lx
open Go Go.Proofs Go.RowKit
attribute [local go_sem] Oper.semAt_some
section
variable {next rule kind : List Int} {kinds : Int} {an ar ak : Option Addr} {cn cr ck : Nat} {w : World}
theorem all_in(hn:next.length≤1000000)(hr:rule.length≤1000000)(hk:kind.length≤1000000)(hN:aK w an next)(hR:aK w ar rule)(hK:aK w ak kind)(s:ByteArray)(hs:s.size≤1000)(hok:okL next rule kind kinds=true) :
  Calls Tryz.prog 16 #[lV an ar ak next.length rule.length kind.length cn cr ck kinds, .string s] w fun e w'=>(∃ v,e = .returned (.tuple #[v, .int .i64 0])∧lg w' w.heap.size v (dD next rule kind (sb s) 0))∧Below w.heap.size w w':=by
 have hck:=fun W (hb:Below w.heap.size w W)=>GK next rule kind kinds hn hr hk an ar ak cn cr ck W (hN.below hb Nat.le.refl) (hR.below hb Nat.le.refl) (hK.below hb Nat.le.refl)
 have hE:=fun W=>Jp (next:=next) (rule:=rule) (kind:=kind) (kinds:=kinds) (an:=an) (ar:=ar) (ak:=ak) (cn:=cn) (cr:=cr) (ck:=ck) s 0 W;have hC:=fun W1 (hb:Below w.heap.size w W1) W2 h1 (hS:Fc W1 W1.heap.size next rule kind kinds an ar ak cn cr ck s 0 W2)=>collect_in 9 (by omega) Nat.le.refl hn hr hk (hN.below hb Nat.le.refl) (hR.below hb Nat.le.refl) (hK.below hb Nat.le.refl) s hs hok 0 (Nat.zero_le _) W2 h1 hS;have hB:=(Below.refl w.heap.size w).alloc Nat.le.refl (.cells #[.slice an next.length cn, .slice ar rule.length cr, .slice ak kind.length ck, .int .i64 kinds] 29);have hD:Bx (w.alloc (.cells #[.slice an next.length cn, .slice ar rule.length cr, .slice ak kind.length ck, .int .i64 kinds] 29)) w.heap.size 29 #[.slice an next.length cn, .slice ar rule.length cr, .slice ak kind.length ck, .int .i64 kinds]:=Bx.new _ _ _;unfold lV at *;unfold mY at hck;clear hN hR hK;simp only[hok,if_true] at hck;have h15:=hck _ hB;clear hck;go_enter Tryz.func16,Tryz.ntmps16
 go_wp2_with fail
 generalize w.alloc (.cells #[.slice an next.length cn, .slice ar rule.length cr, .slice ak kind.length ck, .int .i64 kinds] 29)=W0 at *;have hw0:=hD.lt;go_wp2_with (first
  | (go_at_call 15;((with_reducible refine h15.mono ?_);rintro e W1 ⟨rfl,hb1⟩;have hB1:=hB.trans (hb1.mono (Nat.le_of_lt hw0));have hD1:=hD.below hb1 hw0;have d0:=hD1.cell 0;have d1:=hD1.cell 1;have d2:=hD1.cell 2;have d3:=hD1.cell 3;have hs1:=hB1.size))
  | (go_at_call 41;((with_reducible refine(hE _).mono ?_);rintro e W2 ⟨rfl,hb2,hz2,hS2⟩))
  | (go_at_call 40;((with_reducible refine(hC _ hB1 W2 (by omega) hS2).mono ?_);rintro e W3 ⟨⟨v,rfl,hv⟩,lJ⟩;have hB3:=(hB1.trans (hb2.mono hs1)).trans (lJ.below (n:=w.heap.size) (by omega) (by omega)))))
 exact bodyPost_ret (v := .tuple #[v, .int .i64 0]) (by simp[results,Tryz.results16,go_sem]) rfl ⟨⟨v,rfl,jm hv (by omega)⟩,hB3⟩
end
theorem CV:∀(l:List Tk)(i:Nat)(h:i<l.length)(j:Nat)(v:Value),(jJ l[i])[j]?=some v→(l.flatMap jJ)[i*5+j]?=some v
 | x::l,0,_,j,v,hv=>by
  have hj:j<(jJ x).length:=(List.getElem?_eq_some_iff.1 hv).1;rw[List.flatMap_cons,Nat.zero_mul,Nat.zero_add,List.getElem?_append_left hj];exact hv
 | x::l,i+1,h,j,v,hv=>by
  rw[List.flatMap_cons,List.getElem?_append_right (by rw[GL];omega),GL,show(i+1)*5+j-5=i*5+j by omega];exact CV l i (by simpa using h) j v (by simpa using hv)
theorem lS{w:World}{base g n cap:Nat}{l:List Tk}(h:w.ownsRow base 42 5 (.slice (some ⟨g,0,none⟩) n cap) n (l.flatMap jJ)){i:Nat}(hi:i<l.length):w.cell? ⟨g,i*5,none⟩=some (.int .i64 l[i].k)∧w.cell? ⟨g,i*5+1,none⟩=some (.int .i64 l[i].f)∧w.cell? ⟨g,i*5+2,none⟩=some (.int .i64 l[i].a)∧w.cell? ⟨g,i*5+3,none⟩=some (.int .i64 l[i].t)∧w.cell? ⟨g,i*5+4,none⟩=some (.int .i64 l[i].e):=by
 have H:∀ j v,(jJ l[i])[j]?=some v→w.cell? ⟨g,i*5+j,none⟩=some v:=fun j v hv=>by
  have:=h.cells (g:=g) rfl (i*5+j) v (CV l i hi j v hv)
  rwa [zQ,Nat.zero_add] at this
 exact⟨H 0 _ rfl,H 1 _ rfl,H 2 _ rfl,H 3 _ rfl,H 4 _ rfl⟩
theorem WG(l:List Tk)(hl:l.length≤1000000)(w:World)(ba bb ga gb ca cb:Nat)(hA:w.ownsRow ba 42 5 (.slice (some ⟨ga,0,none⟩) l.length ca) l.length (l.flatMap jJ))(hB:w.ownsRow bb 42 5 (.slice (some ⟨gb,0,none⟩) l.length cb) l.length (l.flatMap jJ)) :
  Calls Tryz.prog 26 #[.slice (some ⟨ga,0,none⟩) l.length ca, .slice (some ⟨gb,0,none⟩) l.length cb] w fun e w'=>e = .returned (.bool true)∧Below w.heap.size w w':=by
 have hga:=(hA.lt ga rfl).2;have hgb:=(hB.lt gb rfl).2;have hcA:=fun i (hi:i<l.length)=>lS hA hi;have hcB:=fun i (hi:i<l.length)=>lS hB hi;clear hA hB;go_enter Tryz.func26,Tryz.ntmps26
 go_wp2
 obtain⟨wo,rfl⟩:∃ wo:World,wo=w:=⟨_,rfl⟩;go_loopw [5] (fun vi wr=>∃ i:Nat,vi = .int .i64 i∧i≤l.length∧Below wo.heap.size wo wr) (fun vi _=>l.length-(intOf vi).toNat)
 case atStart=>exact⟨0,rfl,Nat.zero_le _,Below.refl _ _⟩
 case round =>
  obtain⟨i,rfl,hi,hb⟩:=hrel;rcases Nat.lt_or_eq_of_le hi with hlt | rfl
  ·obtain⟨a0,a1,a2,a3,a4⟩:=hcA i hlt
   obtain⟨b0,b1,b2,b3,b4⟩:=hcB i hlt;have a0:=(hb.cell (p:=⟨ga,i*5,none⟩) hga).trans a0;have a1:=(hb.cell (p:=⟨ga,i*5+1,none⟩) hga).trans a1;have a2:=(hb.cell (p:=⟨ga,i*5+2,none⟩) hga).trans a2;have a3:=(hb.cell (p:=⟨ga,i*5+3,none⟩) hga).trans a3;have a4:=(hb.cell (p:=⟨ga,i*5+4,none⟩) hga).trans a4;have b0:=(hb.cell (p:=⟨gb,i*5,none⟩) hgb).trans b0;have b1:=(hb.cell (p:=⟨gb,i*5+1,none⟩) hgb).trans b1;have b2:=(hb.cell (p:=⟨gb,i*5+2,none⟩) hgb).trans b2;have b3:=(hb.cell (p:=⟨gb,i*5+3,none⟩) hgb).trans b3;have b4:=(hb.cell (p:=⟨gb,i*5+4,none⟩) hgb).trans b4;generalize l[i]=t at *;have i0:(0:Int)≤(i:Int):=(by omega);have i1:(i:Int)<(l.length:Int):=(by omega);clear hcA hcB;go_wp2
   go_region
   have hbd:=hb.drew;generalize wr.drew=W2 at *;clear a0 a1 a2 a3 a4 b0 b1 b2 b3 b4;go_wp2
   go_roundw
   case rel=>exact⟨i+1,by go_num,by omega,hbd⟩
   case measure=>simp[intOf];omega
  ·go_wp2
   go_ret
   exact⟨rfl,hb⟩
end Go.Proofs.YtkjgogdkdejljaaGreatDoor.Lx
namespace Go.Proofs.YtkjgogdkdejljaaGreatDoor.Df
open Go Go.Proofs Go.RowKit
attribute [local go_sem] Oper.semAt_some
theorem WE(w:World):Calls Tryz.prog 27 #[] w fun e w'=>(∃ g,e = .returned (.slice (some ⟨g,0,none⟩) 2 2)∧uZ w' (some ⟨g,0,none⟩) exR)∧Below w.heap.size w w':=by
 have hx:=Bx.new w 35 #[.string ⟨#[119,111,114,100]⟩, .string exW, .bool false, .string ⟨#[103,97,112]⟩, .string exG, .bool true];have hb:=(Below.refl w.heap.size w).alloc Nat.le.refl (.cells #[.string ⟨#[119,111,114,100]⟩, .string exW, .bool false, .string ⟨#[103,97,112]⟩, .string exG, .bool true] 35);have hR:uZ (w.alloc (.cells #[.string ⟨#[119,111,114,100]⟩, .string exW, .bool false, .string ⟨#[103,97,112]⟩, .string exG, .bool true] 35)) (some ⟨w.heap.size,0,none⟩) exR:=fun i x h=>by
  refine⟨w.heap.size,0,rfl,hx.lt,?_⟩
  match i with
  | 0=>cases h;exact⟨hx.cell 0,hx.cell 1,hx.cell 2⟩
  | 1=>cases h;exact⟨hx.cell 3,hx.cell 4,hx.cell 5⟩
  | i+2=>cases h
 have HR:=Lib.hid hR;have HB:=Lib.hid hb;clear hx hb hR;go_enter Tryz.func27,Tryz.ntmps27
 go_wp2_with fail
 exact bodyPost_ret (v := .slice (some ⟨w.heap.size,0,none⟩) 2 2) (by simp[results,Tryz.results27,go_sem]) rfl ⟨⟨_,rfl,HR.out⟩,HB.out⟩
def FC(w:World)(e:Ending)(w':World):Prop:=Below w.heap.size w w'∧∃ an ar ak cn cr ck,e = .returned (.tuple #[.agg #[.slice an (nO exR exT exS).1.length cn, .slice ar (nO exR exT exS).2.length cr, .slice ak 2 ck, .int .i64 1], .int .i64 2, .int .i64 0]) ∧
 aK w' an (nO exR exT exS).1∧aK w' ar (nO exR exT exS).2∧aK w' ak [0,-1]
theorem BI:∀ x∈exR,x.re.size≤254:=fun x hx=>by
 rcases List.mem_cons.1 hx with rfl | hx
 ·decide
 ·rw[List.mem_singleton.1 hx];decide
theorem OG(w:World)(g:Nat)(hp:0<w.heap.size)(hT:TabAt w)(hR:uZ w (some ⟨g,0,none⟩) exR):Calls Tryz.prog 11 #[.slice (some ⟨g,0,none⟩) 2 2] w (FC w) :=
 (BJ exR BI (by decide) (some ⟨g,0,none⟩) 2 w hp hT hR).mono fun e w' h=>by
  obtain⟨hb,⟨_,_,_,h1,_⟩ | ⟨tss,T,an,ar,ak,cn,cr,ck,h1,h2,h3,h4,h5⟩⟩:=h
  ·exact absurd IL (h1 _ _)
  ·obtain⟨rfl,rfl⟩:=SS h1
   exact⟨hb,an,ar,ak,cn,cr,ck,h2,h3,h4,h5⟩
def AB:List Lx.Tk:=[⟨0,0,0,1,2⟩,⟨0,1,2,3,4⟩,⟨-2,3,3,3,4⟩]
theorem ou{W:World}{base:Nat}{e:TypeId}{k:Nat}{v:Value}{n:Nat}{xs:List Value}(h:W.ownsRow base e k v n xs)(hn:n≠0):∃ g c,v = .slice (some ⟨g,0,none⟩) n c:=by
 rcases h.2 with ⟨_,h0⟩ | ⟨g,cap,cur,e,_⟩
 ·exact absurd h0 hn
 ·exact⟨g,cap,e⟩
theorem FD(w:World)(hp:0<w.heap.size)(hT:TabAt w):Calls Tryz.prog 9 #[] w fun e w'=>e = .returned (.bool true)∧Below w.heap.size w w':=by
 have h27:=WE w;have OH:=fun(W:World)(hb:Below w.heap.size w W)(g:Nat) hR=>OG W g (Nat.lt_of_lt_of_le hp hb.size) (hT.below hb hp) hR;unfold FC at OH;have hok:=(IQ IL BI (by decide)).2;rw[Y8] at hok;have hrow:=WC;obtain⟨next,hnext⟩:∃ next,next=(nO exR exT exS).1:=⟨_,rfl⟩
 obtain⟨rule,oz⟩:∃ rule,rule=(nO exR exT exS).2:=⟨_,rfl⟩;rw[←hnext,←oz] at OH hok hrow;clear hnext oz;have hok2:=hok;unfold Lx.okL Lx.okT at hok2;simp only[Bool.and_eq_true,decide_eq_true_eq] at hok2;obtain⟨⟨_,r5,n5,_⟩,_⟩:=hok2;have hall:=fun (W:World) an ar ak cn cr ck (h1:aK W an next) (h2:aK W ar rule) (h3:aK W ak [0,-1])=>Lx.all_in (w:=W) (cn:=cn) (cr:=cr) (ck:=ck) (by omega) (by omega) (by decide) h1 h2 h3 ⟨#[97,32,98]⟩ (by decide) hok;have hrow2:Lx.dD next rule [0,-1] (Lx.sb ⟨#[97,32,98]⟩) 0=AB:=hrow
 rw[hrow2] at hall;obtain⟨nl,hnl⟩:∃ nl,nl=next.length:=⟨_,rfl⟩
 obtain⟨rl,hrl⟩:∃ rl,rl=rule.length:=⟨_,rfl⟩;rw[←hnl,←hrl] at OH;unfold Lx.lV at hall;rw[←hnl,←hrl] at hall;have hb0:=Below.refl w.heap.size w;clear hrow hrow2 hok hnl hrl r5 n5 hT;go_enter Tryz.func9,Tryz.ntmps9
 go_upto_region 2 with (first
  | (go_at_call 27;((with_reducible refine h27.mono ?_);rintro e W1 ⟨⟨g,rfl,hR⟩,hb1⟩))
  | (go_at_call 11;((with_reducible refine (OH _ hb1 g hR).mono ?_);rintro e W2 ⟨hb2,an,ar,ak,cn,cr,ck,rfl,hN,hRu,hK⟩;have xN:=Bx.new W2 29 #[.slice none 0 0, .slice none 0 0, .slice none 0 0, .int .i64 0]))
  | ((with_reducible refine bZ ?_);refine AX.au (vs:=[.slice an nl cn, .slice ar rl cr, .slice ak 2 ck, .int .i64 1]) rfl rfl DJ xN rfl rfl ?_;rintro W3 g3 g4 g5))
 have x3:Bx W3 W2.heap.size 29 #[.slice an nl cn, .slice ar rl cr, .slice ak 2 ck, .int .i64 1]:=g3;have wZ:Below W2.heap.size W2 W3:=((Below.refl W2.heap.size W2).alloc Nat.le.refl _).trans (AX.aj Nat.le.refl (.inl x3.lt) g4 g5);have hb3:Below w.heap.size w W3:=(hb1.trans (hb2.mono hb1.size)).trans (wZ.mono (Nat.le_trans hb1.size hb2.size));have l0:=x3.cell 0;have l1:=x3.cell 1;have l2:=x3.cell 2;have l3:=x3.cell 3;have hal:Calls Tryz.prog 16 #[.agg #[.slice an nl cn, .slice ar rl cr, .slice ak 2 ck, .int .i64 1], .string ⟨#[97,32,98]⟩] W3 _:=hall W3 an ar ak cn cr ck (hN.below wZ Nat.le.refl) (hRu.below wZ Nat.le.refl) (hK.below wZ Nat.le.refl);have HX3:=Lib.hid x3;obtain⟨NB,hNB⟩:∃ NB,NB=W2.heap.size:=⟨_,rfl⟩;rw[←hNB] at l0 l1 l2 l3 HX3 ⊢;clear hNB hb1 hb2 wZ xN g3 g4 g5 x3 hN hRu hK OH hall h27 hR;go_upto_region 3 with (go_at_call 16;((with_reducible refine hal.mono ?_);rintro e W4 ⟨⟨v,rfl,hv⟩,hb4⟩))
 obtain⟨gv,cv,rfl⟩:=ou hv (show AB.length≠0 by decide);have k3:W4.cell? ⟨NB,2+1,none⟩=some (.int .i64 1):=(hb4.cell (p:=⟨NB,2+1,none⟩) HX3.out.lt).trans l3;have k3':W4.cell? ⟨NB,3,none⟩=some (.int .i64 1):=k3;have Y9:=Bx.new W4 42 (AB.flatMap Lx.jJ).toArray;have hb5:=(Below.refl W4.heap.size W4).alloc Nat.le.refl (.cells (AB.flatMap Lx.jJ).toArray 42);have hA5:=bG hv hb5;have hB5:(W4.alloc (.cells (AB.flatMap Lx.jJ).toArray 42)).ownsRow W4.heap.size 42 5 (.slice (some ⟨W4.heap.size,0,none⟩) AB.length 3) AB.length (AB.flatMap Lx.jJ) :=
  ⟨rfl, .inr ⟨W4.heap.size,3,_,rfl,Nat.le_refl _,Y9,by decide,by decide,rfl,rfl⟩⟩
 have hsm:=Lx.WG AB (by decide) _ _ _ _ _ _ _ hA5 hB5;have HB4:=Lib.hid (hb3.trans (hb4.mono hb3.size));have HB5:=Lib.hid hb5;clear Y9 hb5 hA5 hB5 hv hal hb4 hb3 k3;have hsm:Calls Tryz.prog 26 #[.slice (some ⟨gv,0,none⟩) 3 cv, .slice (some ⟨W4.heap.size,0,none⟩) 3 3] (W4.alloc (.cells #[.int .i64 0, .int .i64 0, .int .i64 0, .int .i64 1, .int .i64 2, .int .i64 0, .int .i64 1, .int .i64 2, .int .i64 3, .int .i64 4, .int .i64 (-2), .int .i64 3, .int .i64 3, .int .i64 3, .int .i64 4] 42)) _:=hsm;rw[show AB.length=3 from rfl];go_wp2_with (go_at_call 26;((with_reducible refine hsm.mono ?_);rintro e W6 ⟨rfl,hb6⟩))
 have hb7:=HB4.out.trans ((HB5.out.mono HB4.out.size).trans (hb6.mono (Nat.le_trans HB4.out.size HB5.out.size)));exact bodyPost_ret (v := .bool true) (by simp[results,Tryz.results9,go_sem]) rfl ⟨rfl,hb7⟩
end Go.Proofs.YtkjgogdkdejljaaGreatDoor.Df
namespace Go.Proofs.YtkjgogdkdejljaaGreatDoor.Lx
open Go Go.Proofs Go.RowKit
attribute [local go_sem] Oper.semAt_some
section
variable {next rule kind : List Int} {kinds : Int} {an ar ak : Option Addr} {cn cr ck : Nat} {w : World}
theorem aJ.below{n₀ B:Nat}{v:Value}{l:List Nat}{w w':World}(h:aJ w B v l)(hb:Below n₀ w w')(hl:w.heap.size≤n₀):aJ w' B v l:=by
 refine⟨h.1,?_⟩;rcases h.2 with hn | ⟨g,cap,cur,rfl,hg,hh,rest⟩
 ·exact .inl hn
 ·exact .inr ⟨g,cap,cur,rfl,hg,(hb.block g (Nat.lt_of_lt_of_le (Array.getElem?_eq_some_iff.1 hh).1 hl)).trans hh,rest⟩
theorem aJ.turn{W W':World}{b base:Nat}{v:Value}{l:List Nat}(h:aJ W base v l)(h4:∀ k,k≠b→W'.heap[k]?=W.heap[k]?)(hb:b<base∨W.heap.size≤b):aJ W' base v l:=by
 refine⟨h.1,?_⟩;rcases h.2 with hn | ⟨g,cap,cur,rfl,hg,hh,rest⟩
 ·exact .inl hn
 ·exact .inr ⟨g,cap,cur,rfl,hg,(h4 g (by have:=(Array.getElem?_eq_some_iff.1 hh).1;omega)).trans hh,rest⟩
theorem MS(l:List Tk)(t:Tk)(e:Nat):nT (l++[t]) e=max (nT l e) t.e:=by unfold nT;rw[List.foldl_append];rfl
end
def qB(H:Nat)(w:World)(base:Nat)(v:Value)(l:List Nat):Prop:=aJ w base v l∧∀ g,v.ownBlock=some g→g<H
theorem qB.lets{A B H base:Nat}{X Y:World}{v:Value}{l:List Nat}(h:qB H X base v l)(hA:A<base)(hl:AX.Lets A B X Y):qB H Y base v l:=by
 refine⟨⟨h.1.1,?_⟩,h.2⟩;rcases h.1.2 with hn | ⟨g,cap,cur,rfl,hg,hh,rest⟩
 ·exact .inl hn
 ·exact .inr ⟨g,cap,cur,rfl,hg,hl.same g _ hh (by omega) (.inr rfl),rest⟩
theorem Below.lets{A B n:Nat}{w X Y:World}(h:Below n w X)(hn:n≤w.heap.size)(hA:n≤A)(hB:n≤B)(hl:AX.Lets A B X Y):Below n w Y :=
 ⟨hl.low.os.trans h.os,hl.low.tape.trans h.tape,hl.low.output.trans h.output,Nat.le_trans h.size hl.low.size,fun k hk=>by
  have hlt:k<X.heap.size:=Nat.lt_of_lt_of_le (Nat.lt_of_lt_of_le hk hn) h.size;rw[←h.block k hk,hl.same k X.heap[k] (Array.getElem?_eq_getElem hlt) (by omega) (.inl (by omega)),Array.getElem?_eq_getElem hlt]⟩
theorem Fc.XV{w0 w1:World}{L:Nat}{next rule kind:List Int}{kinds:Int}{an ar ak:Option Addr}{cn cr ck:Nat}{s:ByteArray}{i:Int}{W:World}(h:Fc w1 L next rule kind kinds an ar ak cn cr ck s i W)(hb:Below w0.heap.size w0 w1):Fc w0 L next rule kind kinds an ar ak cn cr ck s i W :=
 ⟨hb.trans (h.b.mono hb.size),h.l,h.t,h.a⟩
theorem jS{P:Nat→Prop}{H n₀ b:Nat}{W w1 w2:World}{v v':Value}{l l':List Nat}{tmp:Obj}(hv:Bx W b 106 #[v])(hrow:qB H W n₀ v l)(hb:b<n₀)(hbH:b<H)(hPb:¬P b)(hPg:∀ g,n₀≤g→¬P g)
  (hown:aJ w1 n₀ v' l') (hg:(W.alloc tmp).grownBy w1 v.ownBlock) (h3:Bx w2 b 106 #[v']) (h4:∀ k,k≠b→w2.heap[k]?=w1.heap[k]?) (h5:AX.Same w1 w2) (B:Nat) :
  qB w2.heap.size w2 n₀ v' l'∧AX.Keep P H W w2∧KeepsFrom B W w2∧Below b W w2∧(∀ k o,W.heap[k]?=some o→k≠b→k<n₀→w2.heap[k]?=some o):=by
 have hlow1:Below b (W.alloc tmp) w1:=(Below.refl b _).grown hg (by have:=hv.lt;simp;omega) fun j ej=>by
  rcases hrow.1.2 with ⟨rfl,_⟩ | ⟨g,cap,cur,rfl,hge,_,_⟩
  ·simp[Value.ownBlock] at ej
  ·obtain rfl:g=j:=by simpa[Value.ownBlock] using ej
   omega
 have hlow2:Below b w1 w2:=AX.aj Nat.le.refl (.inl h3.lt) h4 h5;have hal:Below W.heap.size W (W.alloc tmp):=(Below.refl _ W).alloc Nat.le.refl _;have hlow:Below b W w2:=((hal.mono (Nat.le_of_lt hv.lt)).trans hlow1).trans hlow2;have hrow2:aJ w2 n₀ v' l':=by
  refine⟨hown.1,?_⟩;rcases hown.2 with hn | ⟨g,cap,cur,rfl,hge,hh,rest⟩
  ·exact .inl hn
  ·exact .inr ⟨g,cap,cur,rfl,hge,(h4 g (by omega)).trans hh,rest⟩
 have hge:∀ g,v.ownBlock=some g→n₀≤g:=fun g e=>by
  rcases hrow.1.2 with ⟨rfl,_⟩ | ⟨g',cap,cur,rfl,hge,_,_⟩
  ·simp[Value.ownBlock] at e
  ·obtain rfl:g'=g:=by simpa[Value.ownBlock] using e
   exact hge
 have same:∀ k o,W.heap[k]?=some o→k≠b→(∀ g,v.ownBlock=some g→k≠g)→w2.heap[k]?=some o:=fun k o hk hkb hkg=>by
  have hlt:=(Array.getElem?_eq_some_iff.1 hk).1;refine(h4 k hkb).trans ((hg.block k (by simp;omega) (fun e=>hkg k e.symm rfl)).trans ((hal.block k hlt).trans hk))
 refine⟨⟨hrow2,fun g e=>(World.ownsRow.lt hrow2 g e).2⟩,⟨hlow.mono (Nat.zero_le _),fun k o hk hu=>?_⟩,⟨hlow.size,fun k o _ hk ho=>?_⟩,hlow,fun k o hk hkb hkn=>same k o hk hkb fun g e=>by have:=hge g e;omega⟩
 ·rcases hu with hp | ⟨hkH,_⟩
  ·exact same k o hk (fun e=>hPb (e ▸ hp)) fun g e e2=>hPg g (hge g e) (e2 ▸ hp)
  ·exact same k o hk (by omega) fun g e=>by have:=hrow.2 g e;omega
 ·refine same k o hk (fun e=>?_) fun g e=>?_
  ·subst e;rw[show W.heap[k]?=_ from hv] at hk;cases hk;cases ho
  ·intro e2
   subst e2;rcases hrow.1.2 with ⟨rfl,_⟩ | ⟨g',cap,cur,rfl,hge,hh,_⟩
   ·simp[Value.ownBlock] at e
   ·obtain rfl:g'=k:=by simpa[Value.ownBlock] using e
    rw[hh] at hk;cases hk;cases ho
theorem fK{B b:Nat}{W W':World}{t:TypeId}{cs:Array Value}(hv:Bx W b t cs)(hz:W.heap.size≤W'.heap.size)(h4:∀ k,k≠b→W'.heap[k]?=W.heap[k]?):KeepsFrom B W W' :=
 ⟨hz,fun k o _ hk ho=>(h4 k (fun e=>by subst e;rw[show W.heap[k]?=_ from hv] at hk;cases hk;cases ho)).trans hk⟩
theorem qB.turn{H b base:Nat}{W W':World}{v:Value}{l:List Nat}(h:qB H W base v l)(h4:∀ k,k≠b→W'.heap[k]?=W.heap[k]?)(hb:b<base):qB H W' base v l:=⟨h.1.turn h4 (.inl hb),h.2⟩
theorem jT{W w1:World}{b n₀ : Nat}{v u:Value}{l:List Nat}{tmp:Obj}{t:TypeId}(hv:Bx W b t #[u])(hrow:aJ W n₀ v l)(hb:b<n₀)(hg:(W.alloc tmp).grownBy w1 v.ownBlock):Bx w1 b t #[u]:=by
 refine(hg.block b (by have:=hv.lt;simp;omega) fun e=>?_).trans (hv.alloc tmp);have:=(World.ownsRow.lt hrow b e.symm).1;omega
theorem CX{next rule kind:List Int}{kinds:Int}{t:List Nat}(H:Fits next rule kind kinds)(ht:∀ b∈t,b<256):∀ (n i:Nat),t.length-i≤n→i≤t.length→∀ x∈dD next rule kind t i,-2≤x.k∧x.k<16
 | 0,i,hn,hi,x,hx=>by
  rw[eH H ht hi] at hx;have hb:=kE H ht hi;have:(dw next rule kind t i).k = -2:=by
   have:t.length-i=0:=(by omega);unfold dw;rw[this,tokF]
  rw[if_pos this] at hx;rw[List.mem_singleton.1 hx];exact⟨hb.2.1,hb.2.2.1⟩
 | n+1,i,hn,hi,x,hx=>by
  rw[eH H ht hi] at hx;have hb:=kE H ht hi;split at hx
  ·rw[List.mem_singleton.1 hx]
   exact⟨hb.2.1,hb.2.2.1⟩
  ·rename_i hk
   have h8:=hb.2.2.2.2.2.2.2 hk;rcases List.mem_cons.1 hx with rfl | hx
   ·exact⟨hb.2.1,hb.2.2.1⟩
   ·exact CX H ht n _ (by omega) hb.2.2.2.2.2.1 x hx
theorem MV:AX.sizeT Tryz.prog 106=some 1:=by kernel_rfl
section
variable {next rule kind : List Int} {kinds : Int} {an ar ak : Option Addr} {cn cr ck : Nat} {w : World}
end
end Go.Proofs.YtkjgogdkdejljaaGreatDoor.Lx
