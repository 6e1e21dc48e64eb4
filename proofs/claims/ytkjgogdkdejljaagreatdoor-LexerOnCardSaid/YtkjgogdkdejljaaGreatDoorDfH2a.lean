import Derived.Test.YtkjgogdkdejljaaGreatDoorLxL34
set_option maxRecDepth 100000
set_option maxHeartbeats 40000000
namespace Go.Proofs.YtkjgogdkdejljaaGreatDoor.Lx
open Go.Lib (hid)
open Go Go.Proofs Go.RowKit
attribute [local go_sem] Oper.semAt_some
section
variable {next rule kind : List Int} {kinds : Int} {an ar ak : Option Addr} {cn cr ck : Nat} {w : World}
theorem Mc(hn:next.length≤1000000)(hr:rule.length≤1000000)(hk:kind.length≤1000000)(hN:aK w an next)(hR:aK w ar rule)(hK:aK w ak kind)(s:ByteArray)(i0:Nat)(hs:s.size≤1000)(hok:okL next rule kind kinds=true)(hi0:i0≤s.size)(k:Int)(hk1:k<1) :
  Calls Tryz.prog 24 #[lV an ar ak next.length rule.length kind.length cn cr ck kinds, .string s, .int .i64 i0, .int .i64 k] w fun e w'=>e = .returned (AO (dD next rule kind (sb s) i0) i0 k)∧Below w.heap.size w w':=by
 have hmy:=fun W (hb:Below w.heap.size w W)=>KC (cn:=cn) (cr:=cr) (ck:=ck) (kinds:=kinds) hn hr hk (hN.below hb Nat.le.refl) (hR.below hb Nat.le.refl) (hK.below hb Nat.le.refl) s (i0:Int) (by omega);have hm0:Ep next rule kind kinds s (i0:Int)=0:=by unfold Ep;rw[if_pos ⟨hok,by omega,by omega⟩]
 rw[hm0] at hmy;have HF:Hid (AO (dD next rule kind (sb s) i0) i0 k = .tuple #[.string ⟨#[]⟩, .int .i64 i0, .int .i64 0]):=hid (by
  unfold AO;rw[show k.toNat=0 by omega,List.take_zero];rfl)
 unfold lV at *;have b1:=Bx.new (w.alloc (.cells #[.slice an next.length cn, .slice ar rule.length cr, .slice ak kind.length ck, .int .i64 kinds] 29)) 3 #[.int .i64 k];have b1:=b1.alloc (.cells #[.int .i64 0] 3);have b2:=Bx.new ((w.alloc (.cells #[.slice an next.length cn, .slice ar rule.length cr, .slice ak kind.length ck, .int .i64 kinds] 29)).alloc (.cells #[.int .i64 k] 3)) 3 #[.int .i64 0];have hB:Below w.heap.size w (((w.alloc (.cells #[.slice an next.length cn, .slice ar rule.length cr, .slice ak kind.length ck, .int .i64 kinds] 29)).alloc (.cells #[.int .i64 k] 3)).alloc (.cells #[.int .i64 0] 3)):=(((Below.refl _ w).alloc Nat.le.refl _).alloc (by simp) _).alloc (by simp;omega) _;simp only[World.size_alloc] at b1 b2;have h22:=hmy _ hB;clear hm0 hN hR hK hmy;go_enter Tryz.func24,Tryz.ntmps24
 go_wp2_with fail
 generalize ((w.alloc (.cells #[.slice an next.length cn, .slice ar rule.length cr, .slice ak kind.length ck, .int .i64 kinds] 29)).alloc (.cells #[.int .i64 k] 3)).alloc (.cells #[.int .i64 0] 3)=W0 at *;have hl0:=b2.lt;have hs0:=hB.size;go_wp2_with (first
  | (go_at_call 47;((with_reducible refine h22.mono ?_);rintro e W1 ⟨rfl,hb1⟩;have c2:=(b2.below hb1 hl0).alloc (.cells #[.slice none 0 0] 106);have c1:=(b1.below hb1 b1.lt).alloc (.cells #[.slice none 0 0] 106);have hB1:=(hB.trans (hb1.mono hs0)).alloc (by have:=hb1.size;omega) (.cells #[.slice none 0 0] 106)))
  | ((with_reducible refine bH ?_);refine AX.aB (o:=0) (v := .int .i64 i0) rfl rfl rfl sz3 c2 (show 0<1 by decide) ?_;rintro W2 h3 h4 h5;have d2:Bx W2 (w.heap.size+1+1) 3 #[.int .i64 i0]:=h3;have d1:=c1.turn (by omega) h4;have e1:=d1.cell 0;have e2:=d2.cell 0;have hB2:=hB1.trans (AX.aj (n:=w.heap.size) (by omega) (.inl d2.lt) h4 h5);clear h3 h4 h5))
 have fr:=d2.frozen;go_region
 all_goals
  have f2:=(Bx.set d2 0 (.int .i64 i0)).cell 0;have hB3:=(hB2.setCell (p:=⟨w.heap.size+1+1,0,none⟩) (by show w.heap.size≤w.heap.size+1+1;omega) (.int .i64 i0)).drew;go_wp2_with fail
  exact bodyPost_ret (v := .tuple #[.string ⟨#[]⟩, .int .i64 i0, .int .i64 0]) (by simp[results,Tryz.results24,go_sem,e2]) rfl ⟨by rw[HF.out],hB3⟩
theorem Md(hn:next.length≤1000000)(hr:rule.length≤1000000)(hk:kind.length≤1000000)(hN:aK w an next)(hR:aK w ar rule)(hK:aK w ak kind)(s:ByteArray)(i0:Nat)(hs:s.size≤1000)(hok:okL next rule kind kinds=true)(hi0:i0≤s.size)(k:Int)(hk1:¬k<1)(hk9:k≤9) :
  Calls Tryz.prog 24 #[lV an ar ak next.length rule.length kind.length cn cr ck kinds, .string s, .int .i64 i0, .int .i64 k] w fun e w'=>e = .returned (AO (dD next rule kind (sb s) i0) i0 k)∧Below w.heap.size w w':=by
 have hmy:=fun W (hb:Below w.heap.size w W)=>KC (cn:=cn) (cr:=cr) (ck:=ck) (kinds:=kinds) hn hr hk (hN.below hb Nat.le.refl) (hR.below hb Nat.le.refl) (hK.below hb Nat.le.refl) s (i0:Int) (by omega);have hm0:Ep next rule kind kinds s (i0:Int)=0:=by unfold Ep;rw[if_pos ⟨hok,by omega,by omega⟩]
 rw[hm0] at hmy;have hE:=fun W=>Jp (next:=next) (rule:=rule) (kind:=kind) (kinds:=kinds) (an:=an) (ar:=ar) (ak:=ak) (cn:=cn) (cr:=cr) (ck:=ck) s i0 W;have hsq:=fun(l:Nat)(J:Nat→List Tk→World→Prop)(Jx:List Tk→World→Prop)(L:Nat)(hL:w.heap.size≤L) hJ hJm hY W hS h0=>lW (cn:=cn) (cr:=cr) (ck:=ck) 8 (by omega) (w0:=w) (L:=L) hL hn hr hk hN hR hK s hs hok i0 hi0 l J Jx hJ hJm hY W hS h0;have hRk:∀ x∈dD next rule kind (sb s) i0,-2≤x.k∧x.k<16:=CX (mJ hok) (kR s) _ i0 Nat.le.refl (by rw[bW];exact hi0)
 have HR:=hid hRk;obtain⟨R,hRe⟩:∃ R,R=dD next rule kind (sb s) i0:=⟨_,rfl⟩
 rw[←hRe] at hsq HR ⊢;clear hRe hRk;unfold lV at *;have b0:=Bx.new w 29 #[.slice an next.length cn, .slice ar rule.length cr, .slice ak kind.length ck, .int .i64 kinds];have b0:=(b0.alloc (.cells #[.int .i64 k] 3)).alloc (.cells #[.int .i64 0] 3);have b1:=Bx.new (w.alloc (.cells #[.slice an next.length cn, .slice ar rule.length cr, .slice ak kind.length ck, .int .i64 kinds] 29)) 3 #[.int .i64 k];have b1:=b1.alloc (.cells #[.int .i64 0] 3);have b2:=Bx.new ((w.alloc (.cells #[.slice an next.length cn, .slice ar rule.length cr, .slice ak kind.length ck, .int .i64 kinds] 29)).alloc (.cells #[.int .i64 k] 3)) 3 #[.int .i64 0];have hB:Below w.heap.size w (((w.alloc (.cells #[.slice an next.length cn, .slice ar rule.length cr, .slice ak kind.length ck, .int .i64 kinds] 29)).alloc (.cells #[.int .i64 k] 3)).alloc (.cells #[.int .i64 0] 3)):=(((Below.refl _ w).alloc Nat.le.refl _).alloc (by simp) _).alloc (by simp;omega) _;simp only[World.size_alloc] at b1 b2;have h22:=(callsIn_wide (n:=8)).2 (hmy _ hB);have aaC:Fence.wide.fn 47:=trivial;have XU:Fence.wide.fn 41:=trivial;clear hm0 hN hR hK hmy;refine(callsIn_wide (n:=9)).1 (callsIn_of_wp_marks Tryz.func24 rfl trivial ?_ rfl);simp only[Tryz.ntmps24,List.size_toArray,List.length_cons,List.length_nil,Nat.reduceAdd,Nat.reduceSub,Array.replicate_succ,Array.replicate_zero,List.push_toArray,List.append_toArray,List.nil_append,List.cons_append];gi_wp2_with fail
 generalize ((w.alloc (.cells #[.slice an next.length cn, .slice ar rule.length cr, .slice ak kind.length ck, .int .i64 kinds] 29)).alloc (.cells #[.int .i64 k] 3)).alloc (.cells #[.int .i64 0] 3)=V0 at *;have hs0:=hB.size;refine h22.mono ?_;rintro e V1 ⟨rfl,hb1⟩;have c0:=(b0.below hb1 b0.lt).alloc (.cells #[.slice none 0 0] 106);have c1:=(b1.below hb1 b1.lt).alloc (.cells #[.slice none 0 0] 106);have c2:=(b2.below hb1 b2.lt).alloc (.cells #[.slice none 0 0] 106);have cO:=Bx.new V1 106 #[.slice none 0 0];have hsz1:w.heap.size+1+1<V1.heap.size:=Nat.lt_of_lt_of_le b2.lt hb1.size;have hB1:=(hB.trans (hb1.mono hs0)).alloc (by omega) (.cells #[.slice none 0 0] 106);clear h22 b0 b1 b2 hB hb1;gi_wp2_with ((with_reducible refine fJ ?_);refine AX.aH (o:=0) (v := .int .i64 i0) rfl rfl rfl sz3 c2 (show 0<1 by decide) ?_;rintro V3 h3 h4 h5;have d2:Bx V3 (w.heap.size+1+1) 3 #[.int .i64 i0]:=h3;have d1:=c1.turn (by omega) h4;have d0:=c0.turn (by omega) h4;have dO:=cO.turn (by omega) h4;have hB3:=hB1.trans (AX.aj (n:=w.heap.size) (by omega) (.inl d2.lt) h4 h5);have e0:=d0.cell 0;have e1:=d0.cell 1;have e2:=d0.cell 2;have e3:=d0.cell 3;have f1:=d1.cell 0;clear h3 h4 h5 c0 c1 c2 cO hB1)
 refine ((callsIn_wide (n:=8)).2 (hE V3)).mono ?_;rintro e V4 ⟨rfl,hb4,hz4,hS4⟩;have HZ4:=hid hz4;clear hz4 e0 e1 e2 e3 f1;gi_wp2_with fail
 have hz4:=HZ4.out;have dX:=d2.below hb4 d2.lt;have dK:=d1.below hb4 d1.lt;have hO3:=dO.lt;have dO:=dO.below hb4 dO.lt;have aei:=dO.lt;have hS4:=hS4.XV hB3;have hB4:=hB3.trans (hb4.mono hB3.size);obtain⟨L,hL⟩:∃ L,L=V3.heap.size:=⟨_,rfl⟩;obtain⟨O,hO⟩:∃ O,O=V1.heap.size:=⟨_,rfl⟩;have hOL:O<L:=by omega
 rw[←hL] at hS4 hz4 ⊢;rw[←hO] at dO hsz1 ⊢;have hwL:w.heap.size≤L:=by omega
 clear d0 d1 d2 aaC XU hE HZ4 hb4 hB3 hL hO;refine AX.pO (A:=L+2) (B:=Fb w.heap.size L) (Pp:=fun pre x=>∃ rest,R=pre++x::rest) (encs:=fun x:Tk=>#[tkV x]) (S:=fun xs=>xs=R) (Sp:=fun pre=>∃ rest,R=pre++rest) rfl (by omega) (gf:=78) (lb:=#[.pointer (some ⟨L,0,none⟩), .pointer (some ⟨L+1,0,none⟩), .pointer (some ⟨L+2,0,none⟩)]) rfl trivial (enters_of Tryz.func78 (by kernel_rfl) rfl) (by omega) (fun _=>rfl)
  (fun k h=>by rcases h with h | h<;>omega) ?seq
  (fun H pre W=>((∃ v,Bx W O 106 #[v]∧qB H W V4.heap.size v (pre.map byt))∧Bx W (w.heap.size+1+1) 3 #[.int .i64 (nT pre i0:Nat)]∧Bx W (w.heap.size+1) 3 #[.int .i64 k])∧Below w.heap.size w W∧pre.length<k.toNat∧V4.heap.size≤H)
  (fun c p W=>(c = .exit 0∧p.length=k.toNat)∧((∃ v,Bx W O 106 #[v]∧aJ W V4.heap.size v (p.map byt))∧Bx W (w.heap.size+1+1) 3 #[.int .i64 (nT p i0:Nat)])∧Below w.heap.size w W) ?hI ?hIm ?hIx
  ⟨⟨⟨_,dO,World.ownsRow_nil _ _ _ _,fun g e=>by cases e⟩,dX,dK⟩,hB4,by simp;omega,Nat.le_refl _⟩
  (fun x a' W=>∃ T,V4.heap.size≤T∧Bx W T 42 #[.int .i64 x.k, .int .i64 x.f, .int .i64 x.a, .int .i64 x.t, .int .i64 x.e]∧a' = { tmps:=#[.agg #[.slice an next.length cn, .slice ar rule.length cr, .slice ak kind.length ck, .int .i64 kinds], .string s, .int .i64 i0, .int .i64 k, .pointer (some ⟨w.heap.size,0,none⟩),undef,undef, .pointer (some ⟨w.heap.size+1,0,none⟩), .string ⟨#[]⟩, .pointer (some ⟨w.heap.size+1+1,0,none⟩), .int .i64 0, .int .i64 0, .pointer (some ⟨O,0,none⟩), .pointer (some ⟨T,0,none⟩), .agg #[.slice an next.length cn, .slice ar rule.length cr, .slice ak kind.length ck, .int .i64 kinds], .string s, .int .i64 i0, .int .i64 0, .int .i64 0, .bool false,undef, .int .i64 i0, .int .i64 k, .bool (decide (k<1)),undef, .agg #[.slice an next.length cn, .slice ar rule.length cr, .slice ak kind.length ck, .int .i64 kinds], .string s, .int .i64 i0, .func (.func 78) #[] #[.pointer (some ⟨L,0,none⟩), .pointer (some ⟨L+1,0,none⟩), .pointer (some ⟨L+2,0,none⟩)],tkV x,undef,undef,undef,undef,undef,undef,undef,undef,undef,undef,undef,undef,undef,undef,undef,undef,undef,undef,undef,undef,undef,undef,undef,undef,undef,undef,undef,undef,undef],defers:=[] }) ?hAx ?assign ?body ?done ?stop
 case seq =>
  intro l J Jx W hW hJ hJm hJx hY h0;exact hsq l J Jx L hwL hJ hJm hY W (hS4.below hW) h0
 case hI =>
  rintro H q A Y ⟨⟨⟨v,hv,hrow⟩,hx,hkk⟩,hb,hq,hH⟩ hl;exact⟨⟨⟨v,hv.lets (by omega) hl,hrow.lets (by omega) hl⟩,hx.lets (by omega) hl,hkk.lets (by omega) hl⟩,Below.lets hb Nat.le.refl (by omega) (by omega) hl,hq,hH⟩
 case hIm =>
  rintro H H' q A ⟨⟨⟨v,hv,hrow⟩,hx,hkk⟩,hb,hq,hH⟩ hl;exact⟨⟨⟨v,hv,hrow.1,fun g e=>Nat.lt_of_lt_of_le (hrow.2 g e) hl⟩,hx,hkk⟩,hb,hq,Nat.le_trans hH hl⟩
 case hIx =>
  rintro c q A Y ⟨hc,⟨⟨v,hv,hrow⟩,hx⟩,hb⟩ hl;exact⟨hc,⟨⟨v,hv.lets (by omega) hl,(qB.lets (H:=A.heap.size) ⟨hrow,fun g e=>(World.ownsRow.lt hrow g e).2⟩ (by omega) hl).1⟩,hx.lets (by omega) hl⟩,Below.lets hb Nat.le.refl (by omega) (by omega) hl⟩
 case hAx =>
  rintro x a' A Y ⟨T,hT,hX,ha⟩ hl;exact⟨T,hT,hX.lets (by omega) hl,ha⟩
 case assign =>
  rintro l pre x H W K ⟨⟨⟨v,hv,hrow⟩,hx,hkk⟩,hb,hq,hH⟩ hHW hK;have hT0:=Bx.new W 42 #[.int .i64 0, .int .i64 0, .int .i64 0, .int .i64 0, .int .i64 0];have hA0:Below W.heap.size W (W.alloc (.cells #[.int .i64 0, .int .i64 0, .int .i64 0, .int .i64 0, .int .i64 0] 42)):=(Below.refl _ W).alloc Nat.le.refl _;have HZ:=hid hz4;clear hz4;gi_wp2_with ((with_reducible refine fJ ?_);refine AX.dL (vs:=[.int .i64 x.k, .int .i64 x.f, .int .i64 x.a, .int .i64 x.t, .int .i64 x.e]) rfl rfl jK hT0 rfl rfl ?_;rintro W3 h3 h4 h5)
  have hz4:=HZ.out;have hX3:Bx W3 W.heap.size 42 #[.int .i64 x.k, .int .i64 x.f, .int .i64 x.a, .int .i64 x.t, .int .i64 x.e]:=h3;have hB3:=hA0.trans (AX.aj Nat.le.refl (.inl hX3.lt) h4 h5);have hl3:=(AX.But.of_below (A:=L+2) hB3).lets V4.heap.size;exact hK _ W3 ⟨hB3.size,fun k o _ hk _=>(hB3.block k (Array.getElem?_eq_some_iff.1 hk).1).trans hk⟩ (AX.Keep.of_below hB3) ⟨⟨⟨v,hv.lets (by omega) hl3,hrow.lets (by omega) hl3⟩,hx.lets (by omega) hl3,hkk.lets (by omega) hl3⟩,Below.lets hb Nat.le.refl (by omega) (by omega) hl3,hq,hH⟩ ⟨W.heap.size,by omega,hX3,rfl⟩
 case body =>
  rintro l pre x a' H W ⟨⟨⟨v,hv,hrow⟩,hx,hkk⟩,hb,hq,hH⟩ hHW ⟨T,hT,hX,rfl⟩ ⟨rest,hPp⟩;have hxk:=HR.out x (by rw[hPp];simp);have hTX:=hX.lt;obtain⟨E,hE⟩:∃ E,E=nT pre i0:=⟨_,rfl⟩;obtain⟨E',hE'⟩:∃ E',E'=nT (pre++[x]) i0:=⟨_,rfl⟩;have hmx:max (E:Int) (x.e:Int)=(E':Int):=by rw[hE',MS,←hE];omega
  rw[←hE] at hx;obtain⟨l',hl'⟩:∃ l',l'=(pre++[x]).map byt:=⟨_,rfl⟩;have hln:l'.length=pre.length+1:=by rw[hl'];simp
  have HE:=hid hE';have HL:=hid hl';have HP:=hid hPp;have hpm:(pre.map byt).length≤1000000:=by rw[List.length_map];omega
  have hnX:¬Fb w.heap.size L (w.heap.size+1+1):=fun h=>by rcases h with h | h<;>omega
  have hnO:¬Fb w.heap.size L O:=fun h=>by rcases h with h | h<;>omega
  have hnR:∀ g,V4.heap.size≤g→¬Fb w.heap.size L g:=fun g hg h=>by rcases h with h | h<;>omega
  clear hE hE' hl' hPp hsq HR;obtain⟨x0,x1,x2,x3,x4⟩:=Bx.five hX;have eX:=hx.cell 0;have HZ:=hid (And.intro hz4 (And.intro hHW hH));have MW:T≠w.heap.size+1+1:=by omega
  have hOX:O≠w.heap.size+1+1:=by omega
  have hON:O<V4.heap.size:=by omega
  have hXN:w.heap.size+1+1<V4.heap.size:=by omega
  have hXH:w.heap.size+1+1<H:=by omega
  have hOH:O<H:=by omega
  have hVW:V4.heap.size≤W.heap.size:=by omega
  clear hz4 hHW hH;rcases (show x.k = -2∨x.k = -1∨∃ y:Nat,x.k=y by
   by_cases h1:x.k = -2
   ·exact .inl h1
   ·by_cases h2:x.k = -1
    ·exact .inr (.inl h2)
    ·exact .inr (.inr ⟨x.k.toNat,by omega⟩)) with q | q | ⟨y,q⟩
  ·have hby:byt x=255:=by unfold byt;rw[q];rfl
   have HA:Hid (pre.map byt++[255]=l'):=hid (by rw[HL.out,List.map_append,List.map_singleton,hby]);rw[q] at hX x0;clear q hby
   by_cases hq1:(l'.length:Int)=k
   ·have hqq:((l'.length:Int) == k)=true:=by rw[hq1];exact beq_self_eq_true _
    gi_wp2_with (first
     | ((with_reducible refine fJ ?_);refine AX.aH (o:=0) (v := .int .i64 E') rfl rfl rfl sz3 hx (show 0<1 by decide) ?_;rintro W2 h3 h4 h5;have hx2:Bx W2 (w.heap.size+1+1) 3 #[.int .i64 E']:=h3;have hv2:=hv.turn hOX h4;have hk2:=hkk.turn (by omega) h4;have hr2:=hrow.turn h4 hXN;have hT2:=hX.turn MW h4;have hlo2:=AX.aj (n:=w.heap.size) (by omega) (.inl hx2.lt) h4 h5;have kp2:AX.Keep (Fb w.heap.size L) H W W2:=AX.Keep.turn (hlo2.mono (Nat.zero_le _)) h4 hnX hXH;have kf2:=fK (B:=V4.heap.size) hx hlo2.size h4;have hz2:=hlo2.size;obtain⟨x0,x1,x2,x3,x4⟩:=Bx.five hT2;have eO:=hv2.cell 0;clear h3 h4 h5 eX)
     | (gi_at_builtin;refine jc _ V4.heap.size _ (pre.map byt) 255 rfl _ _ rfl rfl (World.ownsRow.alloc hr2.1 (.cells #[.int .u8 255] 5)) ⟨W2.heap.size,0,none⟩ rfl (Bx.cell (Bx.new W2 5 #[.int .u8 255]) 0) hpm (by simp;omega) ?_;intro v' w1 hown hg;rw[HA.out] at hown;have hv3:=jT hv2 hr2.1 hON hg;obtain⟨aa,cc,rfl⟩:=aQ hown)
     | ((with_reducible refine fJ ?_);refine AX.aH (o:=0) (v := .slice aa l'.length cc) rfl rfl rfl MV hv3 (show 0<1 by decide) ?_;rintro w2 h3 h4 h5;have hv4:Bx w2 O 106 #[.slice aa l'.length cc]:=h3;obtain⟨r1,r2,r3,r4,r5⟩:=jS (P:=Fb w.heap.size L) (H:=H) hv2 hr2 hON hOH hnO hnR hown hg hv4 h4 h5 V4.heap.size;have hk4:Bx w2 (w.heap.size+1) 3 #[.int .i64 k]:=r5 _ _ hk2 (by omega) (by omega);have hx4:Bx w2 (w.heap.size+1+1) 3 #[.int .i64 E']:=r5 _ _ hx2 (by omega) (by omega);have eO:=hv4.cell 0;have eK:=hk4.cell 0;clear h3 h4 h5))
    obtain⟨hz4,hHW,hH⟩:=HZ.out;have hbw:=(hb.trans hlo2).trans (r4.mono (by omega));have hsz2:=hlo2.size;have I5:=r4.size;exact⟨kf2.trans r3,⟨rfl,by rw[List.length_append];simp;omega⟩,⟨⟨_,hv4,by rw[←HL.out];exact r1.1⟩,by rw[←HE.out];exact hx4⟩,hbw⟩
   ·have hqq:((l'.length:Int) == k)=false:=by rw[beq_eq_false_iff_ne];exact hq1
    gi_wp2_with (first
     | ((with_reducible refine fJ ?_);refine AX.aH (o:=0) (v := .int .i64 E') rfl rfl rfl sz3 hx (show 0<1 by decide) ?_;rintro W2 h3 h4 h5;have hx2:Bx W2 (w.heap.size+1+1) 3 #[.int .i64 E']:=h3;have hv2:=hv.turn hOX h4;have hk2:=hkk.turn (by omega) h4;have hr2:=hrow.turn h4 hXN;have hT2:=hX.turn MW h4;have hlo2:=AX.aj (n:=w.heap.size) (by omega) (.inl hx2.lt) h4 h5;have kp2:AX.Keep (Fb w.heap.size L) H W W2:=AX.Keep.turn (hlo2.mono (Nat.zero_le _)) h4 hnX hXH;have kf2:=fK (B:=V4.heap.size) hx hlo2.size h4;have hz2:=hlo2.size;obtain⟨x0,x1,x2,x3,x4⟩:=Bx.five hT2;have eO:=hv2.cell 0;clear h3 h4 h5 eX)
     | (gi_at_builtin;refine jc _ V4.heap.size _ (pre.map byt) 255 rfl _ _ rfl rfl (World.ownsRow.alloc hr2.1 (.cells #[.int .u8 255] 5)) ⟨W2.heap.size,0,none⟩ rfl (Bx.cell (Bx.new W2 5 #[.int .u8 255]) 0) hpm (by simp;omega) ?_;intro v' w1 hown hg;rw[HA.out] at hown;have hv3:=jT hv2 hr2.1 hON hg;obtain⟨aa,cc,rfl⟩:=aQ hown)
     | ((with_reducible refine fJ ?_);refine AX.aH (o:=0) (v := .slice aa l'.length cc) rfl rfl rfl MV hv3 (show 0<1 by decide) ?_;rintro w2 h3 h4 h5;have hv4:Bx w2 O 106 #[.slice aa l'.length cc]:=h3;obtain⟨r1,r2,r3,r4,r5⟩:=jS (P:=Fb w.heap.size L) (H:=H) hv2 hr2 hON hOH hnO hnR hown hg hv4 h4 h5 V4.heap.size;have hk4:Bx w2 (w.heap.size+1) 3 #[.int .i64 k]:=r5 _ _ hk2 (by omega) (by omega);have hx4:Bx w2 (w.heap.size+1+1) 3 #[.int .i64 E']:=r5 _ _ hx2 (by omega) (by omega);have eO:=hv4.cell 0;have eK:=hk4.cell 0;clear h3 h4 h5))
    obtain⟨hz4,hHW,hH⟩:=HZ.out;have hbw:=(hb.trans hlo2).trans (r4.mono (by omega));have hsz2:=hlo2.size;have I5:=r4.size;exact⟨kf2.trans r3,kp2.trans r2,⟨⟨_,hv4,by rw[←HL.out];exact r1⟩,by rw[←HE.out];exact hx4,hk4⟩,hbw,by rw[List.length_append];simp;omega,by omega⟩
  ·have hby:byt x=254:=by unfold byt;rw[q];rfl
   have HA:Hid (pre.map byt++[254]=l'):=hid (by rw[HL.out,List.map_append,List.map_singleton,hby]);rw[q] at hX x0;clear q hby
   by_cases hq1:(l'.length:Int)=k
   ·have hqq:((l'.length:Int) == k)=true:=by rw[hq1];exact beq_self_eq_true _
    gi_wp2_with (first
     | ((with_reducible refine fJ ?_);refine AX.aH (o:=0) (v := .int .i64 E') rfl rfl rfl sz3 hx (show 0<1 by decide) ?_;rintro W2 h3 h4 h5;have hx2:Bx W2 (w.heap.size+1+1) 3 #[.int .i64 E']:=h3;have hv2:=hv.turn hOX h4;have hk2:=hkk.turn (by omega) h4;have hr2:=hrow.turn h4 hXN;have hT2:=hX.turn MW h4;have hlo2:=AX.aj (n:=w.heap.size) (by omega) (.inl hx2.lt) h4 h5;have kp2:AX.Keep (Fb w.heap.size L) H W W2:=AX.Keep.turn (hlo2.mono (Nat.zero_le _)) h4 hnX hXH;have kf2:=fK (B:=V4.heap.size) hx hlo2.size h4;have hz2:=hlo2.size;obtain⟨x0,x1,x2,x3,x4⟩:=Bx.five hT2;have eO:=hv2.cell 0;clear h3 h4 h5 eX)
     | (gi_at_builtin;refine jc _ V4.heap.size _ (pre.map byt) 254 rfl _ _ rfl rfl (World.ownsRow.alloc hr2.1 (.cells #[.int .u8 254] 5)) ⟨W2.heap.size,0,none⟩ rfl (Bx.cell (Bx.new W2 5 #[.int .u8 254]) 0) hpm (by simp;omega) ?_;intro v' w1 hown hg;rw[HA.out] at hown;have hv3:=jT hv2 hr2.1 hON hg;obtain⟨aa,cc,rfl⟩:=aQ hown)
     | ((with_reducible refine fJ ?_);refine AX.aH (o:=0) (v := .slice aa l'.length cc) rfl rfl rfl MV hv3 (show 0<1 by decide) ?_;rintro w2 h3 h4 h5;have hv4:Bx w2 O 106 #[.slice aa l'.length cc]:=h3;obtain⟨r1,r2,r3,r4,r5⟩:=jS (P:=Fb w.heap.size L) (H:=H) hv2 hr2 hON hOH hnO hnR hown hg hv4 h4 h5 V4.heap.size;have hk4:Bx w2 (w.heap.size+1) 3 #[.int .i64 k]:=r5 _ _ hk2 (by omega) (by omega);have hx4:Bx w2 (w.heap.size+1+1) 3 #[.int .i64 E']:=r5 _ _ hx2 (by omega) (by omega);have eO:=hv4.cell 0;have eK:=hk4.cell 0;clear h3 h4 h5))
    obtain⟨hz4,hHW,hH⟩:=HZ.out;have hbw:=(hb.trans hlo2).trans (r4.mono (by omega));have hsz2:=hlo2.size;have I5:=r4.size;exact⟨kf2.trans r3,⟨rfl,by rw[List.length_append];simp;omega⟩,⟨⟨_,hv4,by rw[←HL.out];exact r1.1⟩,by rw[←HE.out];exact hx4⟩,hbw⟩
   ·have hqq:((l'.length:Int) == k)=false:=by rw[beq_eq_false_iff_ne];exact hq1
    gi_wp2_with (first
     | ((with_reducible refine fJ ?_);refine AX.aH (o:=0) (v := .int .i64 E') rfl rfl rfl sz3 hx (show 0<1 by decide) ?_;rintro W2 h3 h4 h5;have hx2:Bx W2 (w.heap.size+1+1) 3 #[.int .i64 E']:=h3;have hv2:=hv.turn hOX h4;have hk2:=hkk.turn (by omega) h4;have hr2:=hrow.turn h4 hXN;have hT2:=hX.turn MW h4;have hlo2:=AX.aj (n:=w.heap.size) (by omega) (.inl hx2.lt) h4 h5;have kp2:AX.Keep (Fb w.heap.size L) H W W2:=AX.Keep.turn (hlo2.mono (Nat.zero_le _)) h4 hnX hXH;have kf2:=fK (B:=V4.heap.size) hx hlo2.size h4;have hz2:=hlo2.size;obtain⟨x0,x1,x2,x3,x4⟩:=Bx.five hT2;have eO:=hv2.cell 0;clear h3 h4 h5 eX)
     | (gi_at_builtin;refine jc _ V4.heap.size _ (pre.map byt) 254 rfl _ _ rfl rfl (World.ownsRow.alloc hr2.1 (.cells #[.int .u8 254] 5)) ⟨W2.heap.size,0,none⟩ rfl (Bx.cell (Bx.new W2 5 #[.int .u8 254]) 0) hpm (by simp;omega) ?_;intro v' w1 hown hg;rw[HA.out] at hown;have hv3:=jT hv2 hr2.1 hON hg;obtain⟨aa,cc,rfl⟩:=aQ hown)
     | ((with_reducible refine fJ ?_);refine AX.aH (o:=0) (v := .slice aa l'.length cc) rfl rfl rfl MV hv3 (show 0<1 by decide) ?_;rintro w2 h3 h4 h5;have hv4:Bx w2 O 106 #[.slice aa l'.length cc]:=h3;obtain⟨r1,r2,r3,r4,r5⟩:=jS (P:=Fb w.heap.size L) (H:=H) hv2 hr2 hON hOH hnO hnR hown hg hv4 h4 h5 V4.heap.size;have hk4:Bx w2 (w.heap.size+1) 3 #[.int .i64 k]:=r5 _ _ hk2 (by omega) (by omega);have hx4:Bx w2 (w.heap.size+1+1) 3 #[.int .i64 E']:=r5 _ _ hx2 (by omega) (by omega);have eO:=hv4.cell 0;have eK:=hk4.cell 0;clear h3 h4 h5))
    obtain⟨hz4,hHW,hH⟩:=HZ.out;have hbw:=(hb.trans hlo2).trans (r4.mono (by omega));have hsz2:=hlo2.size;have I5:=r4.size;exact⟨kf2.trans r3,kp2.trans r2,⟨⟨_,hv4,by rw[←HL.out];exact r1⟩,by rw[←HE.out];exact hx4,hk4⟩,hbw,by rw[List.length_append];simp;omega,by omega⟩
  ·have hby:byt x=y:=by unfold byt;rw[q];rw[if_neg (by omega),if_neg (by omega),Int.toNat_natCast]
   have HA:Hid (pre.map byt++[y]=l'):=hid (by rw[HL.out,List.map_append,List.map_singleton,hby]);have hw8:IntKind.u8.wrap (y:Int)=y:=(by rw[IntKind.wrap_u8];omega);have g1:((y:Int) == -1)=false:=(by rw[beq_eq_false_iff_ne];omega);have g2:((y:Int) == -2)=false:=(by rw[beq_eq_false_iff_ne];omega);rw[q] at hX x0;clear q hby
   by_cases hq1:(l'.length:Int)=k
   ·have hqq:((l'.length:Int) == k)=true:=by rw[hq1];exact beq_self_eq_true _
    gi_wp2_with (first
     | ((with_reducible refine fJ ?_);refine AX.aH (o:=0) (v := .int .i64 E') rfl rfl rfl sz3 hx (show 0<1 by decide) ?_;rintro W2 h3 h4 h5;have hx2:Bx W2 (w.heap.size+1+1) 3 #[.int .i64 E']:=h3;have hv2:=hv.turn hOX h4;have hk2:=hkk.turn (by omega) h4;have hr2:=hrow.turn h4 hXN;have hT2:=hX.turn MW h4;have hlo2:=AX.aj (n:=w.heap.size) (by omega) (.inl hx2.lt) h4 h5;have kp2:AX.Keep (Fb w.heap.size L) H W W2:=AX.Keep.turn (hlo2.mono (Nat.zero_le _)) h4 hnX hXH;have kf2:=fK (B:=V4.heap.size) hx hlo2.size h4;have hz2:=hlo2.size;obtain⟨x0,x1,x2,x3,x4⟩:=Bx.five hT2;have eO:=hv2.cell 0;clear h3 h4 h5 eX)
     | (gi_at_builtin;refine jc _ V4.heap.size _ (pre.map byt) y rfl _ _ rfl rfl (World.ownsRow.alloc hr2.1 (.cells #[.int .u8 y] 5)) ⟨W2.heap.size,0,none⟩ rfl (Bx.cell (Bx.new W2 5 #[.int .u8 y]) 0) hpm (by simp;omega) ?_;intro v' w1 hown hg;rw[HA.out] at hown;have hv3:=jT hv2 hr2.1 hON hg;obtain⟨aa,cc,rfl⟩:=aQ hown)
     | ((with_reducible refine fJ ?_);refine AX.aH (o:=0) (v := .slice aa l'.length cc) rfl rfl rfl MV hv3 (show 0<1 by decide) ?_;rintro w2 h3 h4 h5;have hv4:Bx w2 O 106 #[.slice aa l'.length cc]:=h3;obtain⟨r1,r2,r3,r4,r5⟩:=jS (P:=Fb w.heap.size L) (H:=H) hv2 hr2 hON hOH hnO hnR hown hg hv4 h4 h5 V4.heap.size;have hk4:Bx w2 (w.heap.size+1) 3 #[.int .i64 k]:=r5 _ _ hk2 (by omega) (by omega);have hx4:Bx w2 (w.heap.size+1+1) 3 #[.int .i64 E']:=r5 _ _ hx2 (by omega) (by omega);have eO:=hv4.cell 0;have eK:=hk4.cell 0;clear h3 h4 h5))
    obtain⟨hz4,hHW,hH⟩:=HZ.out;have hbw:=(hb.trans hlo2).trans (r4.mono (by omega));have hsz2:=hlo2.size;have I5:=r4.size;exact⟨kf2.trans r3,⟨rfl,by rw[List.length_append];simp;omega⟩,⟨⟨_,hv4,by rw[←HL.out];exact r1.1⟩,by rw[←HE.out];exact hx4⟩,hbw⟩
   ·have hqq:((l'.length:Int) == k)=false:=by rw[beq_eq_false_iff_ne];exact hq1
    gi_wp2_with (first
     | ((with_reducible refine fJ ?_);refine AX.aH (o:=0) (v := .int .i64 E') rfl rfl rfl sz3 hx (show 0<1 by decide) ?_;rintro W2 h3 h4 h5;have hx2:Bx W2 (w.heap.size+1+1) 3 #[.int .i64 E']:=h3;have hv2:=hv.turn hOX h4;have hk2:=hkk.turn (by omega) h4;have hr2:=hrow.turn h4 hXN;have hT2:=hX.turn MW h4;have hlo2:=AX.aj (n:=w.heap.size) (by omega) (.inl hx2.lt) h4 h5;have kp2:AX.Keep (Fb w.heap.size L) H W W2:=AX.Keep.turn (hlo2.mono (Nat.zero_le _)) h4 hnX hXH;have kf2:=fK (B:=V4.heap.size) hx hlo2.size h4;have hz2:=hlo2.size;obtain⟨x0,x1,x2,x3,x4⟩:=Bx.five hT2;have eO:=hv2.cell 0;clear h3 h4 h5 eX)
     | (gi_at_builtin;refine jc _ V4.heap.size _ (pre.map byt) y rfl _ _ rfl rfl (World.ownsRow.alloc hr2.1 (.cells #[.int .u8 y] 5)) ⟨W2.heap.size,0,none⟩ rfl (Bx.cell (Bx.new W2 5 #[.int .u8 y]) 0) hpm (by simp;omega) ?_;intro v' w1 hown hg;rw[HA.out] at hown;have hv3:=jT hv2 hr2.1 hON hg;obtain⟨aa,cc,rfl⟩:=aQ hown)
     | ((with_reducible refine fJ ?_);refine AX.aH (o:=0) (v := .slice aa l'.length cc) rfl rfl rfl MV hv3 (show 0<1 by decide) ?_;rintro w2 h3 h4 h5;have hv4:Bx w2 O 106 #[.slice aa l'.length cc]:=h3;obtain⟨r1,r2,r3,r4,r5⟩:=jS (P:=Fb w.heap.size L) (H:=H) hv2 hr2 hON hOH hnO hnR hown hg hv4 h4 h5 V4.heap.size;have hk4:Bx w2 (w.heap.size+1) 3 #[.int .i64 k]:=r5 _ _ hk2 (by omega) (by omega);have hx4:Bx w2 (w.heap.size+1+1) 3 #[.int .i64 E']:=r5 _ _ hx2 (by omega) (by omega);have eO:=hv4.cell 0;have eK:=hk4.cell 0;clear h3 h4 h5))
    obtain⟨hz4,hHW,hH⟩:=HZ.out;have hbw:=(hb.trans hlo2).trans (r4.mono (by omega));have hsz2:=hlo2.size;have I5:=r4.size;exact⟨kf2.trans r3,kp2.trans r2,⟨⟨_,hv4,by rw[←HL.out];exact r1⟩,by rw[←HE.out];exact hx4,hk4⟩,hbw,by rw[List.length_append];simp;omega,by omega⟩
 case done =>
  rintro D H ys W hD rfl ⟨⟨⟨v,hv,hrow⟩,hx,hkk⟩,hb,hq,hH⟩ hK;have HF:Hid (AO ys i0 k = .tuple #[.string (lT (ys.map byt)), .int .i64 (nT ys i0:Nat), .int .i64 0]):=hid (by unfold AO;rw[List.take_of_length_le (Nat.le_of_lt hq)]);clear hq hH;have hcv:(convert 106 9 v).run Tryz.prog W.drew = .ok (.string (lT (ys.map byt))) W.drew:=GV (W:=W.drew) (base:=V4.heap.size) hrow.1;have c1:=hv.cell 0;have c2:=hx.cell 0;have fr:=hx.frozen;obtain⟨E,hE⟩:∃ E,E=nT ys i0:=⟨_,rfl⟩;rw[←hE] at hx c2 HF;have hDX:D≠w.heap.size+1+1:=by omega
  have hDw:w.heap.size≤D:=by omega
  have hXL:w.heap.size+1+1≠L+2:=by omega
  have hw1:w.heap.size≤w.heap.size+1+1:=by omega
  clear hz4 hE hsq HR hD;gi_wp2_with fail
  gi_region
  all_goals
   have hx2:Bx (W.setCell ⟨w.heap.size+1+1,0,none⟩ (.int .i64 E)).drew (w.heap.size+1+1) 3 #[.int .i64 E]:=Bx.set hx 0 (.int .i64 E);have hb2:Below w.heap.size w (W.setCell ⟨w.heap.size+1+1,0,none⟩ (.int .i64 E)).drew:=(hb.setCell (p:=⟨w.heap.size+1+1,0,none⟩) hw1 (.int .i64 E)).drew;have hK2:(W.setCell ⟨w.heap.size+1+1,0,none⟩ (.int .i64 E)).drew.heap[D]?=some (.deferred (some [])):=(Below.heap_setCell W ⟨w.heap.size+1+1,0,none⟩ (.int .i64 E) D hDX).trans hK;generalize (W.setCell ⟨w.heap.size+1+1,0,none⟩ (.int .i64 E)).drew=W2 at *;gi_wp2_with fail
   refine⟨by simp, .inl ⟨_,_,rfl,run_takeDeferred hK2,?_⟩⟩;have hl:=AX.Lets.put (A:=L+2) (B:=w.heap.size) (.deferred none) hK2 rfl hDw;have e1:=(hx2.lets hXL hl).cell 0;have hbf:=Below.lets hb2 Nat.le.refl (by omega) Nat.le.refl hl;rw[HF.out];refine⟨.tuple #[.string (lT (ys.map byt)), .int .i64 E, .int .i64 0],?_,rfl,hbf⟩;simp[results,Tryz.results24,go_sem,e1]
 case stop =>
  rintro D c ps W hD ⟨rest,rfl⟩ ⟨⟨rfl,hpl⟩,⟨⟨v,hv,hrow⟩,hx⟩,hb⟩ hK;have HF:Hid (AO (ps++rest) i0 k = .tuple #[.string (lT (ps.map byt)), .int .i64 (nT ps i0:Nat), .int .i64 0]):=hid (by unfold AO;rw[List.take_left' hpl]);clear hpl;have hcv:(convert 106 9 v).run Tryz.prog W.drew = .ok (.string (lT (ps.map byt))) W.drew:=GV (W:=W.drew) (base:=V4.heap.size) hrow;have c1:=hv.cell 0;have c2:=hx.cell 0;have fr:=hx.frozen;obtain⟨E,hE⟩:∃ E,E=nT ps i0:=⟨_,rfl⟩;rw[←hE] at hx c2 HF;have hDX:D≠w.heap.size+1+1:=by omega
  have hDw:w.heap.size≤D:=by omega
  have hXL:w.heap.size+1+1≠L+2:=by omega
  have hw1:w.heap.size≤w.heap.size+1+1:=by omega
  clear hz4 hE hsq HR hD;gi_wp2_with fail
  gi_region
  all_goals
   have hx2:Bx (W.setCell ⟨w.heap.size+1+1,0,none⟩ (.int .i64 E)).drew (w.heap.size+1+1) 3 #[.int .i64 E]:=Bx.set hx 0 (.int .i64 E);have hb2:Below w.heap.size w (W.setCell ⟨w.heap.size+1+1,0,none⟩ (.int .i64 E)).drew:=(hb.setCell (p:=⟨w.heap.size+1+1,0,none⟩) hw1 (.int .i64 E)).drew;have hK2:(W.setCell ⟨w.heap.size+1+1,0,none⟩ (.int .i64 E)).drew.heap[D]?=some (.deferred (some [])):=(Below.heap_setCell W ⟨w.heap.size+1+1,0,none⟩ (.int .i64 E) D hDX).trans hK;generalize (W.setCell ⟨w.heap.size+1+1,0,none⟩ (.int .i64 E)).drew=W2 at *;gi_wp2_with fail
   refine⟨by simp, .inl ⟨_,_,rfl,run_takeDeferred hK2,?_⟩⟩;have hl:=AX.Lets.put (A:=L+2) (B:=w.heap.size) (.deferred none) hK2 rfl hDw;have e1:=(hx2.lets hXL hl).cell 0;have hbf:=Below.lets hb2 Nat.le.refl (by omega) Nat.le.refl hl;rw[HF.out];refine⟨.tuple #[.string (lT (ps.map byt)), .int .i64 E, .int .i64 0],?_,rfl,hbf⟩;simp[results,Tryz.results24,go_sem,e1]
end
end Go.Proofs.YtkjgogdkdejljaaGreatDoor.Lx
namespace Go.Proofs.YtkjgogdkdejljaaGreatDoor.Df
section
open Go Go.Proofs Go.RowKit
attribute [local go_sem] Oper.semAt_some
def Xb(w:World)(e:Ending)(w':World):Prop:=Below w.heap.size w w' ∧
  ((∃ at_ er,er≠0∧e = .returned (.tuple #[.agg #[.slice none 0 0, .slice none 0 0, .slice none 0 0, .int .i64 0], .int .i64 at_, .int .i64 er])) ∨
   ∃(next rule kind:List Int)(kinds:Int)(an ar ak:Option Addr)(cn cr ck at_:Nat),Lx.okL next rule kind kinds=true∧next.length≤1000000∧rule.length≤1000000∧kind.length≤1000000 ∧
     e = .returned (.tuple #[.agg #[.slice an next.length cn, .slice ar rule.length cr, .slice ak kind.length ck, .int .i64 kinds], .int .i64 at_, .int .i64 0])∧aK w' an next∧aK w' ar rule∧aK w' ak kind)
theorem Zu(R:List Rl)(hlt:kF R=true)(la:Option Addr)(c:Nat)(w:World)(hp:0<w.heap.size)(hT:TabAt w)(hR:uZ w la R):Calls Tryz.prog 11 #[.slice la R.length c] w (Xb w):=by
 unfold kF at hlt;simp only[Bool.and_eq_true,decide_eq_true_eq] at hlt;have hs:∀ x∈R,x.re.size≤254:=fun x hx=>by
  have:=List.all_eq_true.1 hlt.1 x hx;unfold qR at this;simp only[Bool.and_eq_true,decide_eq_true_eq] at this;omega
 refine (BJ R hs (by omega) la c w hp hT hR).mono fun e w' h=>?_;obtain⟨hb,⟨at_,er,h1,_,h2⟩ | ⟨tss,T,an,ar,ak,cn,cr,ck,h1,h2,h3,h4,h5⟩⟩:=h
 ·exact⟨hb, .inl ⟨at_,er,h1,h2⟩⟩
 ·have hok:=(IQ h1 hs (by omega)).2
  have hok2:=hok;unfold Lx.okL Lx.okT at hok2;simp only[Bool.and_eq_true,decide_eq_true_eq] at hok2;obtain⟨⟨_,r5,n5,_⟩,_⟩:=hok2;have hk:=(DU _ R rfl).1;exact⟨hb, .inr ⟨_,_,_,_,an,ar,ak,cn,cr,ck,R.length,hok,by omega,by omega,by omega,h2,h3,h4,h5⟩⟩
def Zv(W:World)(v0 v1 v2 v3:Value):Prop:=∃(next rule kind:List Int)(kinds:Int)(an ar ak:Option Addr)(cn cr ck:Nat),Lx.okL next rule kind kinds=true∧next.length≤1000000∧rule.length≤1000000∧kind.length≤1000000 ∧
 v0 = .slice an next.length cn∧v1 = .slice ar rule.length cr∧v2 = .slice ak kind.length ck∧v3 = .int .i64 kinds∧aK W an next∧aK W ar rule∧aK W ak kind
def DX(w:World)(e:Ending)(w':World):Prop:=∃(v0 v1 v2 v3:Value)(at_ er:Int),e = .returned (.tuple #[.agg #[v0,v1,v2,v3], .int .i64 at_, .int .i64 er])∧[v0,v1,v2,v3].all Value.oneCell'=true∧Below w.heap.size w w'∧(er≠0∨er=0∧Zv w' v0 v1 v2 v3)
theorem O9(R:List Rl)(hlt:kF R=true)(la:Option Addr)(c:Nat)(w:World)(hp:0<w.heap.size)(hT:TabAt w)(hR:uZ w la R):Calls Tryz.prog 11 #[.slice la R.length c] w (DX w) :=
 (Zu R hlt la c w hp hT hR).mono fun e w' h=>by
  obtain⟨hb,⟨at_,er,h1,h2⟩ | ⟨next,rule,kind,kinds,an,ar,ak,cn,cr,ck,at_,h1,h2,h3,h4,h5,h6,h7,h8⟩⟩:=h
  ·exact⟨_,_,_,_,at_,er,h2,rfl,hb, .inl h1⟩
  ·exact⟨_,_,_,_,at_,0,h5,rfl,hb, .inr ⟨rfl,next,rule,kind,kinds,an,ar,ak,cn,cr,ck,h1,h2,h3,h4,rfl,rfl,rfl,rfl,h6,h7,h8⟩⟩
end
section
open Go Go.Proofs Go.RowKit
def FX:AX.Plan := .plain 0 (.plain 1 (.plain 2 (.plain 3 (.plain 4 (.plain 5 (.plain 6 (.plain 7 (.plain 8 (.two 9 (.plain 10 (.plain 11 (.plain 12 (.one 13 (.one 14 (.plain 15 (.nil))))))) 13 (.one 9 (.plain 10 (.plain 11 (.plain 12 (.one 14 (.plain 15 (.nil))))))))))))))))
theorem I4(a b:ByteArray):Lx.sb (a++b)=Lx.sb a++Lx.sb b:=by
 unfold Lx.sb;rw[ByteArray.data_append,Array.toList_append,List.map_append]
theorem Po(s:ByteArray)(e:Nat):Lx.sb (s.extract 0 e)=(Lx.sb s).take e:=by
 unfold Lx.sb;rw[ByteArray.data_extract,Array.toList_extract,List.extract_eq_take_drop];simp[List.map_take]
section
variable {next rule kind : List Int} {kinds : Int} {an ar ak : Option Addr} {cn cr ck : Nat} {W : World}
theorem ab2(hok:Lx.okL next rule kind kinds=true)(hn:next.length≤1000000)(hr:rule.length≤1000000)(hk:kind.length≤1000000)(hN:aK W an next)(hR:aK W ar rule)(hK:aK W ak kind)(s:ByteArray)(i:Nat)(hs:s.size≤1000000)(hi:i≤s.size)(x:Lx.Tk)(hx:Lx.dw next rule kind (Lx.sb s) i=x) :
  Calls Tryz.prog 20 #[.agg #[.slice an next.length cn, .slice ar rule.length cr, .slice ak kind.length ck, .int .i64 kinds], .string s, .int .i64 (i:Int)] W fun e w'=>e = .returned (.tuple #[.agg #[.int .i64 x.k, .int .i64 x.f, .int .i64 x.a, .int .i64 x.t, .int .i64 x.e], .int .i64 0])∧Below W.heap.size W w' :=
 (Lx.Xi (kinds:=kinds) (cn:=cn) (cr:=cr) (ck:=ck) hn hr hk hN hR hK s (i:Int) hs).mono fun e w' ⟨h,hb⟩=>⟨by
  rw[h];unfold Lx.Pv;rw[if_pos ⟨hok,by omega,by omega⟩,Int.toNat_natCast,hx];rfl,hb⟩
theorem Xe(H:Lx.Fits next rule kind kinds)(a s:ByteArray)(x:Lx.Tk)(hf:x.f≤s.size)(hx:Lx.dw next rule kind (Lx.sb s) x.f=x):Lx.dw next rule kind (Lx.sb (a++s)) (a.size+x.f)=⟨x.k,a.size+x.f,a.size+x.a,a.size+x.t,a.size+x.e⟩:=by
 rw[I4,←Lx.bW a,DY H _ _ (Lx.kR s) _ (by rw[Lx.bW];exact hf),hx];rfl
theorem Xg(H:Lx.Fits next rule kind kinds)(s b:ByteArray)(x:Lx.Tk)(hf:x.f≤s.size)(he:x.e≤s.size)(hx:Lx.dw next rule kind (Lx.sb s) x.f=x):Lx.dw next rule kind (Lx.sb (s.extract 0 x.e++b)) x.f=x:=by
 have hl:=Lx.bW s;rw[TA (t:=Lx.sb s) (e:=x.e) H ?_ (by omega) ?_ (Lx.kR s) (by omega) (by rw[hx];exact Nat.le_refl _),hx]
 ·intro j hj
  rw[I4,Po,List.getD_eq_getElem?_getD,List.getD_eq_getElem?_getD,List.getElem?_append_left (by rw[List.length_take];omega),List.getElem?_take,if_pos hj]
 ·rw[I4,Po,List.length_append,List.length_take]
  omega
theorem Kq{t:List Nat}(H:Lx.Fits next rule kind kinds)(ht:∀ b∈t,b<256)(j:Nat)(x:Lx.Tk)(hx:(Lx.dD next rule kind t 0)[j]?=some x):x.f≤t.length∧Lx.dw next rule kind t x.f=x:=by
 obtain⟨hf,hd⟩:=row_drop H ht j 0 (Nat.zero_le _) x hx;refine⟨hf,?_⟩;have h0:(Lx.dD next rule kind t x.f)[0]?=some x:=by rw[←hd,List.getElem?_drop];simpa using hx
 rw[Lx.eH H ht hf] at h0;split at h0<;>simpa using h0
end
end
end Go.Proofs.YtkjgogdkdejljaaGreatDoor.Df
