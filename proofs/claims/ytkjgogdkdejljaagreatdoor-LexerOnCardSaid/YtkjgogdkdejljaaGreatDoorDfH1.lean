import Derived.Test.YtkjgogdkdejljaaGreatDoorLxL28
import Derived.Shelf.Abstract
import Derived.Sort.CutIn
set_option maxRecDepth 100000
set_option maxHeartbeats 40000000
namespace Go.Proofs.YtkjgogdkdejljaaGreatDoor.Lx
open Go Go.Proofs Go.RowKit
attribute [local go_sem] Oper.semAt_some
section
variable {next rule kind : List Int} {kinds : Int} {an ar ak : Option Addr} {cn cr ck : Nat}
theorem XR:AX.sizeT Tryz.prog 38=some 1:=by kernel_rfl
theorem GR{W w1:World}{b n₀ : Nat}{v u:Value}{l:List Tk}{tmp:Obj}{t:TypeId}(hv:Bx W b t #[u])(hrow:lg W n₀ v l)(hb:b<n₀)(hg:(W.alloc tmp).grownBy w1 v.ownBlock):Bx w1 b t #[u]:=by
 refine(hg.block b (by have:=hv.lt;simp;omega) fun e=>?_).trans (hv.alloc tmp);have:=(hrow.lt b e.symm).1;omega
theorem But.snoc{A n:Nat}{w X Y:World}(h:AX.But A w X)(hn:w.heap.size≤n)(k:Below n X Y):AX.But A w Y :=
 ⟨h.low.trans (k.mono (Nat.zero_le _)),fun i hi hA=>(k.block i (by omega)).trans (h.same i hi hA)⟩
theorem appendSeq_in(n:Nat)(hn3:3≤n){w0:World}{L:Nat}(hL:w0.heap.size≤L)(hn:next.length≤1000000)(hr:rule.length≤1000000)(hk:kind.length≤1000000)(hN:aK w0 an next)(hR:aK w0 ar rule)(hK:aK w0 ak kind)(s:ByteArray)(hs:s.size≤1000)
  (hok:okL next rule kind kinds=true) (i0:Nat) (hi0:i0≤s.size) (w:World) (hLw:L+2<w.heap.size) (hS:Fc w0 L next rule kind kinds an ar ak cn cr ck s i0 w) :
  CallsIn Fence.wide n Tryz.prog 77 #[.slice none 0 0, .func (.func 78) #[] #[.pointer (some ⟨L,0,none⟩), .pointer (some ⟨L+1,0,none⟩), .pointer (some ⟨L+2,0,none⟩)]] w fun e w'=>(∃ v,e = .returned v∧lg w' w.heap.size v (dD next rule kind (sb s) i0))∧AX.But (L+2) w w':=by
 have h1:1≤n:=by omega
 refine callsIn_of_wp_marks Tryz.func77 rfl trivial ?_ rfl;simp only[Tryz.ntmps77,List.size_toArray,List.length_cons,List.length_nil,Nat.reduceAdd,Nat.reduceSub,Array.replicate_succ,Array.replicate_zero,List.push_toArray,List.append_toArray,List.nil_append,List.cons_append];gi_wp2
 have bO:=Bx.new w 38 #[.slice none 0 0];have hB0:Below w.heap.size w (w.alloc (.cells #[.slice none 0 0] 38)):=(Below.refl _ w).alloc Nat.le.refl _;have hS0:=hS.below hB0;have hz:(w.alloc (.cells #[.slice none 0 0] 38)).heap.size=w.heap.size+1:=by simp
 generalize w.alloc (.cells #[.slice none 0 0] 38)=V at *;have hLb:∀ (pre:List Tk) x,(∃ rest,dD next rule kind (sb s) i0=pre++x::rest)→pre.length≤1000000:=fun pre x ⟨rest,e⟩=>by
  have:=lQ (mJ hok) (kR s) _ i0 Nat.le.refl (by rw[bW];exact hi0);rw[bW,e,List.length_append] at this;omega
 refine AX.pO (A:=L+2) (B:=Fb w0.heap.size L) (Pp:=fun pre x=>∃ rest,dD next rule kind (sb s) i0=pre++x::rest) (encs:=fun x:Tk=>#[tkV x]) (S:=fun xs=>xs=dD next rule kind (sb s) i0) (Sp:=fun pre=>∃ rest,dD next rule kind (sb s) i0=pre++rest) rfl h1 (gf:=78) (lb:=#[.pointer (some ⟨L,0,none⟩), .pointer (some ⟨L+1,0,none⟩), .pointer (some ⟨L+2,0,none⟩)]) rfl trivial (enters_of Tryz.func78 (by kernel_rfl) rfl) (by omega) (fun _=>rfl)
  (fun k h=>by rcases h with h | h<;>omega) ?seq
  (fun H pre W=>(∃ v,Bx W w.heap.size 38 #[v]∧wM H W (w.heap.size+1) v pre∧w.heap.size<H)∧AX.But (L+2) w W) (fun _ _ _=>False) ?hI ?hIm (fun _ _ _ _ h _=>h)
  ⟨⟨_,bO,⟨World.ownsRow_nil _ _ _ _,fun g e=>by cases e⟩,by omega⟩,AX.But.of_below hB0⟩
  (fun x a' W=>∃ T,w.heap.size<T∧Bx W T 42 #[.int .i64 x.k, .int .i64 x.f, .int .i64 x.a, .int .i64 x.t, .int .i64 x.e]∧a' = { tmps:=#[.slice none 0 0, .func (.func 78) #[] #[.pointer (some ⟨L,0,none⟩), .pointer (some ⟨L+1,0,none⟩), .pointer (some ⟨L+2,0,none⟩)], .pointer (some ⟨w.heap.size,0,none⟩),undef, .slice none 0 0, .pointer (some ⟨T,0,none⟩), .func (.func 78) #[] #[.pointer (some ⟨L,0,none⟩), .pointer (some ⟨L+1,0,none⟩), .pointer (some ⟨L+2,0,none⟩)],tkV x,undef,undef,undef,undef,undef],defers:=[] }) ?hAx ?assign ?body ?done ?stop
 case seq =>
  intro l J Jx W hW hJ hJm hJx hY h0;exact lW (n-1) (by omega) hL hn hr hk hN hR hK s hs hok i0 hi0 l J Jx hJ hJm hY W (hS0.below hW) h0
 case hI =>
  rintro H q X Y ⟨⟨v,hv,hrow,hH⟩,hB⟩ hl;exact⟨⟨v,hv.lets (by omega) hl,hrow.lets (by omega) hl,hH⟩,But.GN hB (by omega) hl⟩
 case hIm =>
  rintro H H' q X ⟨⟨v,hv,hrow,hH⟩,hB⟩ hl;exact⟨⟨v,hv,⟨hrow.1,fun g e=>Nat.lt_of_lt_of_le (hrow.2 g e) hl⟩,Nat.lt_of_lt_of_le hH hl⟩,hB⟩
 case hAx =>
  rintro x a' X Y ⟨T,hT,hX,ha⟩ hl;exact⟨T,hT,hX.lets (by omega) hl,ha⟩
 case assign =>
  rintro l pre x H W K ⟨⟨v,hv,hrow,hH⟩,hB⟩ hHW hK;have hT0:=Bx.new W 42 #[.int .i64 0, .int .i64 0, .int .i64 0, .int .i64 0, .int .i64 0];have hlt:=hv.lt;have hA0:Below W.heap.size W (W.alloc (.cells #[.int .i64 0, .int .i64 0, .int .i64 0, .int .i64 0, .int .i64 0] 42)):=(Below.refl _ W).alloc Nat.le.refl _;gi_wp2_with ((with_reducible refine fJ ?_);refine AX.dL (vs:=[.int .i64 x.k, .int .i64 x.f, .int .i64 x.a, .int .i64 x.t, .int .i64 x.e]) rfl rfl jK hT0 rfl rfl ?_;rintro W3 h3 h4 h5)
  have hX3:Bx W3 W.heap.size 42 #[.int .i64 x.k, .int .i64 x.f, .int .i64 x.a, .int .i64 x.t, .int .i64 x.e]:=h3;have hB3:=hA0.trans (AX.aj Nat.le.refl (.inl hX3.lt) h4 h5);have hl3:=(AX.But.of_below (A:=L+2) hB3).lets V.heap.size;exact hK _ W3 ⟨hB3.size,fun k o _ hk _=>(hB3.block k (Array.getElem?_eq_some_iff.1 hk).1).trans hk⟩ (AX.Keep.of_below hB3) ⟨⟨v,hv.lets (by omega) hl3,hrow.lets (by omega) hl3,hH⟩,But.GN hB (by omega) hl3⟩ ⟨W.heap.size,hlt,hX3,rfl⟩
 case body =>
  rintro l pre x a' H W ⟨⟨v,hv,hrow,hH⟩,hB⟩ hHW ⟨T,hT,hX,rfl⟩ hPp;have hlt:=hLb _ _ hPp;clear hPp hLb;have hc:W.cell? ⟨w.heap.size,0,none⟩=some v:=hv.cell 0;have hvl:=hv.lt;obtain⟨x0,x1,x2,x3,x4⟩:=Bx.five hX;gi_wp2_with (first
   | (gi_at_builtin;refine zW _ (w.heap.size+1) _ pre x rfl _ _ rfl rfl (hrow.1.alloc (.cells #[.int .i64 x.k, .int .i64 x.f, .int .i64 x.a, .int .i64 x.t, .int .i64 x.e] 42)) ⟨W.heap.size,0,none⟩ rfl (zU W x) (by omega) (by simp;omega) ?_;intro v' w1 hown hg;have hv1:=GR hv hrow.1 (Nat.lt_succ_self _) hg;obtain⟨aa,cc,rfl⟩:=aQ hown)
   | ((with_reducible refine fJ ?_);refine AX.aH (o:=0) (v := .slice aa (pre++[x]).length cc) rfl rfl rfl XR hv1 (show 0<1 by decide) ?_;rintro w2 h3 h4 h5))
  have h3':Bx w2 w.heap.size 38 #[.slice aa (pre++[x]).length cc]:=h3;obtain⟨r1,r2,r3,r4⟩:=appended (P:=Fb w0.heap.size L) hHW hv hrow (Nat.lt_succ_self _) hH (fun k hk h=>by rcases h with h | h<;>omega) hown hg h3' h4 h5 V.heap.size;exact⟨r3,r2,⟨_,h3',r1,by have:=h3'.lt;omega⟩,But.snoc hB Nat.le.refl r4⟩
 case done =>
  rintro D H ys W hD rfl ⟨⟨v,hv,hrow,hH⟩,hB⟩ hK;have hc:W.cell? ⟨w.heap.size,0,none⟩=some v:=hv.cell 0;gi_wp2
  refine⟨by simp, .inl ⟨_,_,rfl,run_takeDeferred hK,?_⟩⟩;have hl:=AX.Lets.put (A:=L+2) (B:=w.heap.size) (.deferred none) hK rfl (by omega);exact⟨_,results_tmp rfl _ _ _,⟨v,rfl,jm (hrow.lets (by omega) hl).1 (Nat.le_succ _)⟩,But.GN hB Nat.le.refl hl⟩
 case stop =>
  rintro D c pre W _ _ h _;exact h.elim
theorem collect_in(n:Nat)(hn4:4≤n){w0:World}{L:Nat}(hL:w0.heap.size≤L)(hn:next.length≤1000000)(hr:rule.length≤1000000)(hk:kind.length≤1000000)(hN:aK w0 an next)(hR:aK w0 ar rule)(hK:aK w0 ak kind)(s:ByteArray)(hs:s.size≤1000)
  (hok:okL next rule kind kinds=true) (i0:Nat) (hi0:i0≤s.size) (w:World) (hLw:L+2<w.heap.size) (hS:Fc w0 L next rule kind kinds an ar ak cn cr ck s i0 w) :
  Calls Tryz.prog 40 #[.func (.func 78) #[] #[.pointer (some ⟨L,0,none⟩), .pointer (some ⟨L+1,0,none⟩), .pointer (some ⟨L+2,0,none⟩)]] w fun e w'=>(∃ v,e = .returned v∧lg w' w.heap.size v (dD next rule kind (sb s) i0))∧AX.But (L+2) w w':=by
 have h42:=callsIn_wide.1 (appendSeq_in (n-1) (by omega) hL hn hr hk hN hR hK s hs hok i0 hi0 w hLw hS);go_enter Tryz.func40,Tryz.ntmps40
 go_wp2_with (go_at_call 77;((with_reducible refine h42.mono ?_);rintro e w' ⟨⟨v,rfl,hv⟩,hB⟩))
 go_ret
 exact⟨⟨v,rfl,hv⟩,hB⟩
end
section
variable {next rule kind : List Int} {kinds : Int} {an ar ak : Option Addr} {cn cr ck : Nat}
theorem sz4:AX.sizeT Tryz.prog 4=some 1:=by kernel_rfl
theorem Qs(W:World)(L:Nat):(binOp .eql 85 (.func (.func 78) #[] #[.pointer (some ⟨L,0,none⟩), .pointer (some ⟨L+1,0,none⟩), .pointer (some ⟨L+2,0,none⟩)]) .nilFunc).run Tryz.prog W = .ok (.bool false) W:=by kernel_rfl
theorem lg.turn{W W':World}{b base:Nat}{v:Value}{l:List Tk}(h:lg W base v l)(h4:∀ k,k≠b→W'.heap[k]?=W.heap[k]?)(hb:b<base):lg W' base v l:=by
 refine⟨h.1,?_⟩;rcases h.2 with hn | ⟨g,cap,cur,rfl,hg,hh,rest⟩
 ·exact .inl hn
 ·exact .inr ⟨g,cap,cur,rfl,hg,(h4 g (by omega)).trans hh,rest⟩
theorem But.box{A b:Nat}{X Y:World}{t:TypeId}{cs:Array Value}(h:AX.But A X Y)(hX:Bx X b t cs)(hA:b≠A):Bx Y b t cs:=(h.same b hX.lt hA).trans hX
theorem Jq{w:World}(s:ByteArray)(hs:s.size≤1000)(i0:Int)(R:List Tk)(hRl:R.length≤s.size+1)
  (hseq:∀ (V1:World),Below w.heap.size w V1→∀(l:Nat)(J:Nat→List Tk→World→Prop)(Jx:List Tk→World→Prop),(∀ H q X Y,J H q X→AX.But (V1.heap.size+2) X Y→J H q Y)→(∀ H H' q X,J H q X→H≤H'→J H' q X) →
   (∀(pre:List Tk)(x:Tk)(H:Nat)(W:World),J H pre W→H≤W.heap.size→(∃ rest,R=pre++x::rest)→YieldAt Fence.wide (8-1) Tryz.prog l #[tkV x] W fun e W' =>
    (e = .returned (.bool true)∧J W'.heap.size (pre++[x]) W'∧AX.Keep (Fb V1.heap.size V1.heap.size) H W W')∨(e = .returned (.bool false)∧Jx (pre++[x]) W')) →
   ∀ W,Fc V1 V1.heap.size next rule kind kinds an ar ak cn cr ck s i0 W→J W.heap.size [] W →
   CallsIn Fence.wide 8 Tryz.prog 78 #[.func (.yield l) #[] #[], .pointer (some ⟨V1.heap.size,0,none⟩), .pointer (some ⟨V1.heap.size+1,0,none⟩), .pointer (some ⟨V1.heap.size+2,0,none⟩)] W fun e W'=>(∃ v,e = .returned v)∧((∃ H xs,xs=R∧J H xs W')∨(∃ pre,(∃ rest,R=pre++rest)∧Jx pre W'))) :
  Calls Tryz.prog 25 #[lV an ar ak next.length rule.length kind.length cn cr ck kinds, .string s, .int .i64 i0] w fun e w'=>(∃ v,e = .returned (.tuple #[v, .bool true])∧lg w' w.heap.size v R)∧Below w.heap.size w w':=by
 have hE:=fun W=>Jp (next:=next) (rule:=rule) (kind:=kind) (kinds:=kinds) (an:=an) (ar:=ar) (ak:=ak) (cn:=cn) (cr:=cr) (ck:=ck) s i0 W;unfold lV at *;have b0:=Bx.new w 29 #[.slice an next.length cn, .slice ar rule.length cr, .slice ak kind.length ck, .int .i64 kinds];have b1:=Bx.new (w.alloc (.cells #[.slice an next.length cn, .slice ar rule.length cr, .slice ak kind.length ck, .int .i64 kinds] 29)) 9 #[.string s];have b2:=Bx.new ((w.alloc (.cells #[.slice an next.length cn, .slice ar rule.length cr, .slice ak kind.length ck, .int .i64 kinds] 29)).alloc (.cells #[.string s] 9)) 38 #[.slice none 0 0];have b3:=Bx.new (((w.alloc (.cells #[.slice an next.length cn, .slice ar rule.length cr, .slice ak kind.length ck, .int .i64 kinds] 29)).alloc (.cells #[.string s] 9)).alloc (.cells #[.slice none 0 0] 38)) 4 #[.bool false];have b0:=((b0.alloc (.cells #[.string s] 9)).alloc (.cells #[.slice none 0 0] 38)).alloc (.cells #[.bool false] 4);have b1:=(b1.alloc (.cells #[.slice none 0 0] 38)).alloc (.cells #[.bool false] 4);have b2:=b2.alloc (.cells #[.bool false] 4);have hz:((((w.alloc (.cells #[.slice an next.length cn, .slice ar rule.length cr, .slice ak kind.length ck, .int .i64 kinds] 29)).alloc (.cells #[.string s] 9)).alloc (.cells #[.slice none 0 0] 38)).alloc (.cells #[.bool false] 4)).heap.size=w.heap.size+4:=by simp
 have hB:Below w.heap.size w ((((w.alloc (.cells #[.slice an next.length cn, .slice ar rule.length cr, .slice ak kind.length ck, .int .i64 kinds] 29)).alloc (.cells #[.string s] 9)).alloc (.cells #[.slice none 0 0] 38)).alloc (.cells #[.bool false] 4)):=((((Below.refl _ w).alloc Nat.le.refl _).alloc (by simp) _).alloc (by simp;omega) _).alloc (by simp;omega) _;simp only[World.size_alloc] at b1 b2 b3;refine(callsIn_wide (n:=9)).1 (callsIn_of_wp_marks Tryz.func25 rfl trivial ?_ rfl);simp only[Tryz.ntmps25,List.size_toArray,List.length_cons,List.length_nil,Nat.reduceAdd,Nat.reduceSub,Array.replicate_succ,Array.replicate_zero,List.push_toArray,List.append_toArray,List.nil_append,List.cons_append];have XU:Fence.wide.fn 41:=trivial;have HZ:=Lib.hid hz;clear hz;gi_wp2_with fail
 generalize (((w.alloc (.cells #[.slice an next.length cn, .slice ar rule.length cr, .slice ak kind.length ck, .int .i64 kinds] 29)).alloc (.cells #[.string s] 9)).alloc (.cells #[.slice none 0 0] 38)).alloc (.cells #[.bool false] 4)=V1 at *;have hsq:=Qs;have h26:=(callsIn_wide (n:=8)).2 (hE V1);have acW:=hseq V1 hB;clear hE hseq;refine h26.mono ?_;rintro e V2 ⟨rfl,hb2,hz2,hS2⟩;have HZ2:=Lib.hid hz2;clear hz2;gi_wp2_with fail
 have hz:=HZ.out;have hz2:=HZ2.out;clear XU hsq h26;have bO:=Bx.new V2 38 #[.slice none 0 0];have hA0:Below V2.heap.size V2 (V2.alloc (.cells #[.slice none 0 0] 38)):=(Below.refl _ V2).alloc Nat.le.refl _;have hzV:(V2.alloc (.cells #[.slice none 0 0] 38)).heap.size=V2.heap.size+1:=by simp
 have hS3:=hS2.below hA0;have bt2:=b1.below hb2 b1.lt;have br2:=b2.below hb2 b2.lt;have bk2:=b3.below hb2 b3.lt;generalize V2.alloc (.cells #[.slice none 0 0] 38)=V at *;have hBV:Below w.heap.size w V2:=hB.trans (hb2.mono (by omega));obtain⟨O,hO⟩:∃ O,O=V2.heap.size:=⟨_,rfl⟩;obtain⟨L,hL⟩:∃ L,L=V1.heap.size:=⟨_,rfl⟩;rw[←hO] at bO ⊢;rw[←hL] at hS2 hS3 ⊢;clear b0 b1 b2 b3;refine AX.pO (A:=L+2) (B:=Fb V1.heap.size L) (Pp:=fun pre x=>∃ rest,R=pre++x::rest) (encs:=fun x:Tk=>#[tkV x]) (S:=fun xs=>xs=R) (Sp:=fun pre=>∃ rest,R=pre++rest) rfl (by omega) (gf:=78) (lb:=#[.pointer (some ⟨L,0,none⟩), .pointer (some ⟨L+1,0,none⟩), .pointer (some ⟨L+2,0,none⟩)]) rfl trivial (enters_of Tryz.func78 (by kernel_rfl) rfl) (by omega) (fun _=>rfl)
  (fun k h=>by rcases h with h | h<;>omega) ?seq
  (fun H pre W=>(∃ v,Bx W O 38 #[v]∧wM H W (O+1) v pre∧O<H)∧AX.But (L+2) V2 W) (fun _ _ _=>False) ?hI ?hIm (fun _ _ _ _ h _=>h)
  ⟨⟨_,bO,⟨World.ownsRow_nil _ _ _ _,fun g e=>by cases e⟩,by omega⟩,AX.But.of_below hA0⟩
  (fun x a' W=>∃ T,O<T∧Bx W T 42 #[.int .i64 x.k, .int .i64 x.f, .int .i64 x.a, .int .i64 x.t, .int .i64 x.e]∧a' = { tmps:=#[.agg #[.slice an next.length cn, .slice ar rule.length cr, .slice ak kind.length ck, .int .i64 kinds], .string s, .int .i64 i0, .pointer (some ⟨w.heap.size,0,none⟩), .pointer (some ⟨w.heap.size+1,0,none⟩),undef, .pointer (some ⟨w.heap.size+1+1,0,none⟩), .pointer (some ⟨w.heap.size+1+1+1,0,none⟩), .func (.func 78) #[] #[.pointer (some ⟨L,0,none⟩), .pointer (some ⟨L+1,0,none⟩), .pointer (some ⟨L+2,0,none⟩)], .pointer (some ⟨O,0,none⟩), .pointer (some ⟨T,0,none⟩),
   .agg #[.slice an next.length cn, .slice ar rule.length cr, .slice ak kind.length ck, .int .i64 kinds], .string s, .int .i64 i0, .func (.func 78) #[] #[.pointer (some ⟨L,0,none⟩), .pointer (some ⟨L+1,0,none⟩), .pointer (some ⟨L+2,0,none⟩)], .func (.func 78) #[] #[.pointer (some ⟨L,0,none⟩), .pointer (some ⟨L+1,0,none⟩), .pointer (some ⟨L+2,0,none⟩)], .bool false, .func (.func 78) #[] #[.pointer (some ⟨L,0,none⟩), .pointer (some ⟨L+1,0,none⟩), .pointer (some ⟨L+2,0,none⟩)],tkV x,undef,undef,undef,undef,undef,undef,undef,undef,undef,undef,undef],defers:=[] }) ?hAx ?assign ?body ?done ?stop
 case seq =>
  intro l J Jx W hW hJ hJm hJx hY h0;subst hL;exact acW l J Jx hJ hJm hY W (hS3.below hW) h0
 case hI =>
  rintro H q X Y ⟨⟨v,hv,hrow,hH⟩,hBt⟩ hl;exact⟨⟨v,hv.lets (by omega) hl,hrow.lets (by omega) hl,hH⟩,But.GN hBt (by omega) hl⟩
 case hIm =>
  rintro H H' q X ⟨⟨v,hv,hrow,hH⟩,hBt⟩ hl;exact⟨⟨v,hv,⟨hrow.1,fun g e=>Nat.lt_of_lt_of_le (hrow.2 g e) hl⟩,Nat.lt_of_lt_of_le hH hl⟩,hBt⟩
 case hAx =>
  rintro x a' X Y ⟨T,hT,hX,ha⟩ hl;exact⟨T,hT,hX.lets (by omega) hl,ha⟩
 case assign =>
  rintro l pre x H W K ⟨⟨v,hv,hrow,hH⟩,hBt⟩ hHW hK;have hT0:=Bx.new W 42 #[.int .i64 0, .int .i64 0, .int .i64 0, .int .i64 0, .int .i64 0];have hlt:=hv.lt;have hA0:Below W.heap.size W (W.alloc (.cells #[.int .i64 0, .int .i64 0, .int .i64 0, .int .i64 0, .int .i64 0] 42)):=(Below.refl _ W).alloc Nat.le.refl _;have HZ:=Lib.hid (And.intro hz (And.intro hz2 (And.intro hO hL)));clear hz hz2 hO hL;gi_wp2_with ((with_reducible refine fJ ?_);refine AX.dL (vs:=[.int .i64 x.k, .int .i64 x.f, .int .i64 x.a, .int .i64 x.t, .int .i64 x.e]) rfl rfl jK hT0 rfl rfl ?_;rintro W3 h3 h4 h5)
  obtain⟨hz,hz2,hO,hL⟩:=HZ.out;have hX3:Bx W3 W.heap.size 42 #[.int .i64 x.k, .int .i64 x.f, .int .i64 x.a, .int .i64 x.t, .int .i64 x.e]:=h3;have hB3:=hA0.trans (AX.aj Nat.le.refl (.inl hX3.lt) h4 h5);have hl3:=(AX.But.of_below (A:=L+2) hB3).lets V.heap.size;exact hK _ W3 ⟨hB3.size,fun k o _ hk _=>(hB3.block k (Array.getElem?_eq_some_iff.1 hk).1).trans hk⟩ (AX.Keep.of_below hB3) ⟨⟨v,hv.lets (by omega) hl3,hrow.lets (by omega) hl3,hH⟩,But.GN hBt (by omega) hl3⟩ ⟨W.heap.size,hlt,hX3,rfl⟩
 case body =>
  rintro l pre x a' H W ⟨⟨v,hv,hrow,hH⟩,hBt⟩ hHW ⟨T,hT,hX,rfl⟩ ⟨rest,hPp⟩;have hlt:pre.length<s.size+1:=by
   have:=congrArg List.length hPp;rw[List.length_append,List.length_cons] at this;omega
  clear hPp;have hbt:=But.box hBt bt2 (by omega);obtain⟨av,cv,hvv⟩:=aQ hrow.1;have hc:W.cell? ⟨O,0,none⟩=some v:=hv.cell 0;rw[hvv] at hc;have ht:=hbt.cell 0;obtain⟨pl,hpl⟩:∃ pl,pl=pre.length:=⟨_,rfl⟩;rw[←hpl] at hc hlt;have hgd:¬((s.size:Int)+1<(pl:Int)):=by omega
  have HZ:=Lib.hid (And.intro hz (And.intro hz2 (And.intro hO (And.intro hL (And.intro hpl hvv)))));clear hz hz2 hO hL hpl hvv;have hvl:=hv.lt;obtain⟨x0,x1,x2,x3,x4⟩:=Bx.five hX;gi_upto_region 9 with fail
  clear hc;have hc:W.cell? ⟨O,0,none⟩=some v:=hv.cell 0;obtain⟨hz,hz2,hO,hL,hpl,hvv⟩:=HZ.out;have hOL:L+2<O:=by omega
  have hpm:pre.length≤1000000:=by omega
  have hOV:w.heap.size≤O:=by omega
  clear hz hz2 hO hL hpl hvv hgd;gi_wp2_with (first
   | (gi_at_builtin;refine zW _ (O+1) _ pre x rfl _ _ rfl rfl (hrow.1.alloc (.cells #[.int .i64 x.k, .int .i64 x.f, .int .i64 x.a, .int .i64 x.t, .int .i64 x.e] 42)) ⟨W.heap.size,0,none⟩ rfl (zU W x) hpm (by simp;omega) ?_;intro v' w1 hown hg;have hv1:=GR hv hrow.1 (Nat.lt_succ_self _) hg;obtain⟨aa,cc,rfl⟩:=aQ hown)
   | ((with_reducible refine fJ ?_);refine AX.aH (o:=0) (v := .slice aa (pre++[x]).length cc) rfl rfl rfl XR hv1 (show 0<1 by decide) ?_;rintro w2 h3 h4 h5))
  have h3':Bx w2 O 38 #[.slice aa (pre++[x]).length cc]:=h3;obtain⟨hz,hz2,hO,hL,hpl,hvv⟩:=HZ.out;obtain⟨r1,r2,r3,r4⟩:=appended (P:=Fb V1.heap.size L) hHW hv hrow (Nat.lt_succ_self _) hH (fun k hk h=>by rcases h with h | h<;>omega) hown hg h3' h4 h5 V.heap.size;exact⟨r3,r2,⟨_,h3',r1,by have:=h3'.lt;omega⟩,But.snoc hBt (by omega) r4⟩
 case done =>
  rintro D H ys W hD hys ⟨⟨v,hv,hrow,hH⟩,hBt⟩ hK;have HYS:=Lib.hid hys;clear hys;have hc:W.cell? ⟨O,0,none⟩=some v:=hv.cell 0;have hr1:=But.box hBt br2 (by omega);have hk1:=But.box hBt bk2 (by omega);have hrw:=hrow.1;obtain⟨av,cv,rfl⟩:=aQ hrw;have hBW:=hBV.trans (hBt.below (n:=w.heap.size) (by omega) (by omega));have hDw:w.heap.size+3<D:=by omega
  have hOw:w.heap.size+3<O:=by omega
  have HZ:=Lib.hid (And.intro hz (And.intro hz2 (And.intro hO hL)));clear hz hz2 hO hL;gi_wp2_with (first
   | ((with_reducible refine fJ ?_);refine AX.aH (o:=0) (v := .slice av ys.length cv) rfl rfl rfl XR hr1 (show 0<1 by decide) ?_;rintro W2 h3 h4 h5;have hr2:Bx W2 (w.heap.size+1+1) 38 #[.slice av ys.length cv]:=h3;have hk2:=hk1.turn (by omega) h4;have hB2:=hBW.trans (AX.aj (n:=w.heap.size) (by omega) (.inl hr2.lt) h4 h5);have hD2:W2.heap[D]?=some (.deferred (some [])):=(h4 D (by omega)).trans hK;have hw2:=lg.turn hrw h4 (by omega);clear h3 h4 h5 hr1 hk1 hc)
   | ((with_reducible refine fJ ?_);refine AX.aH (o:=0) (v := .bool true) rfl rfl rfl sz4 hk2 (show 0<1 by decide) ?_;rintro W3 h3 h4 h5;have hk3:Bx W3 (w.heap.size+1+1+1) 4 #[.bool true]:=h3;have hr3:=hr2.turn (by omega) h4;have hB3:=hB2.trans (AX.aj (n:=w.heap.size) (by omega) (.inl hk3.lt) h4 h5);have hD3:W3.heap[D]?=some (.deferred (some [])):=(h4 D (by omega)).trans hD2;have hw3:=lg.turn hw2 h4 (by omega);clear h3 h4 h5))
  refine⟨by simp, .inl ⟨_,_,rfl,run_takeDeferred hD3,?_⟩⟩;obtain⟨hz,hz2,hO,hL⟩:=HZ.out;have hl:=AX.Lets.put (A:=L+2) (B:=V.heap.size) (.deferred none) hD3 rfl hD;have e0:=(hr3.lets (by omega) hl).cell 0;have e1:=(hk3.lets (by omega) hl).cell 0;have hF:=wM.lets (H:=W3.heap.size) (A:=L+2) ⟨hw3,fun g e=>(hw3.lt g e).2⟩ (by omega) hl;have hBf:=hB3.trans ((Below.refl w.heap.size W3).grown (grownBy_putObj' W3 D (.deferred none)) (by have:=hB3.size;omega) (fun k e=>by cases e;omega));rw[←HYS.out];refine⟨.tuple #[.slice av ys.length cv, .bool true],?_,⟨_,rfl,jm hF.1 (by omega)⟩,hBf⟩;simp[results,Tryz.results25,go_sem,e0,e1]
 case stop =>
  rintro D c pre W _ _ h _;exact h.elim
theorem L9{w:World}(hn:next.length≤1000000)(hr:rule.length≤1000000)(hk:kind.length≤1000000)(hN:aK w an next)(hR:aK w ar rule)(hK:aK w ak kind)(s:ByteArray)(hs:s.size≤1000)
  (hok:okL next rule kind kinds=true) (i0:Nat) (hi0:i0≤s.size) :
  Calls Tryz.prog 25 #[lV an ar ak next.length rule.length kind.length cn cr ck kinds, .string s, .int .i64 i0] w fun e w'=>(∃ v,e = .returned (.tuple #[v, .bool true])∧lg w' w.heap.size v (dD next rule kind (sb s) i0))∧Below w.heap.size w w' :=
 Jq s hs i0 _ (by have:=lQ (mJ hok) (kR s) _ i0 Nat.le.refl (by rw[bW];exact hi0);rw[bW] at this;omega) fun V1 hB l J Jx hJ hJm hY W hS h0=>lW 8 (by omega) Nat.le.refl hn hr hk (hN.below hB Nat.le.refl) (hR.below hB Nat.le.refl) (hK.below hB Nat.le.refl) s hs hok i0 hi0 l J Jx hJ hJm hY W hS h0
end
def GU(x:Nat):Value := .int .u8 (x:Int)
def aJ(w:World)(base:Nat)(v:Value)(l:List Nat):Prop:=w.ownsRow base 5 1 v l.length (l.map GU)
theorem info5:(Tryz.prog.info? 5).map (fun i=>(i.zero,i.size,i.bytes))=some (some (.int .u8 0),1,1):=by kernel_rfl
theorem jc{F:Fence}{n:Nat}{ops:Array Oper}{rest:List Oper}{o:Oper}{a:Act}{Q:Exit→Act→World→Prop}(W:World)(base:Nat)(v:Value)(pre:List Nat)(y:Nat)(hgd:o.guard=none)(s x:Operand)
  (ho:o.op = .call { callee := .builtin .append,args:=#[s,x],argTypes:=#[106,106] }) (hs:a.eval s=v) (hown:aJ W base v pre) (ad:Addr) (hx:a.eval x = .slice (some ad) 1 1)
  (hc:W.cell? ad=some (GU y)) (hl:pre.length≤1000000) (hb:base≤W.heap.size)
  (h:∀ v' w',aJ w' base v' (pre++[y])→W.grownBy w' v.ownBlock→wpListIn F n Tryz.prog ops Q rest (a.put o.dst v') w'):wpListIn F n Tryz.prog ops Q (o::rest) a W:=by
 obtain⟨ti,hi,hz0,hz1,hz2⟩:=info_parts info5;refine wpListIn_append_own W hgd s x 106 ho base 5 ti (.int .u8 0) 1 1 Tryz.underlying106 hi hz0 hz1 hz2 rfl (by decide) v pre.length _ hs hown ad 1 1 [GU y] hx rfl (fun j u hj=>?_) (fun u hu=>by rw[List.mem_singleton.1 hu];rfl) (by unfold maxLen;omega) (by omega) hb ?_
 ·match j,hj with
  | 0,hj =>
   obtain rfl:GU y=u:=by simpa using hj
   have:ad.add 0=ad:=(by unfold Addr.add;split<;>simp_all);rw[this];exact hc
 ·intro v' w' h1 h2 _
  refine h v' w' ?_ h2;unfold aJ;rw[List.length_append,List.map_append];exact h1
theorem Gz{ops:Array Oper}{rest:List Oper}{o:Oper}{a:Act}{Q:Exit→Act→World→Prop}(W:World)(base:Nat)(v:Value)(pre:List Nat)(y:Nat)(hgd:o.guard=none)(s x:Operand)
  (ho:o.op = .call { callee := .builtin .append,args:=#[s,x],argTypes:=#[106,106] }) (hs:a.eval s=v) (hown:aJ W base v pre) (ad:Addr) (hx:a.eval x = .slice (some ad) 1 1)
  (hc:W.cell? ad=some (GU y)) (hl:pre.length≤1000000) (hb:base≤W.heap.size)
  (h:∀ v' w',aJ w' base v' (pre++[y])→Below base W w'→wpList Tryz.prog ops Q rest (a.put o.dst v') w'):wpList Tryz.prog ops Q (o::rest) a W:=by
 obtain⟨ti,hi,hz0,hz1,hz2⟩:=info_parts info5;refine wpList_append_own W hgd s x 106 ho base 5 ti (.int .u8 0) 1 1 Tryz.underlying106 hi hz0 hz1 hz2 rfl (by decide) v pre.length _ hs hown ad 1 1 [GU y] hx rfl (fun j u hj=>?_) (fun u hu=>by rw[List.mem_singleton.1 hu];rfl) (by unfold maxLen;omega) (by omega) hb ?_
 ·match j,hj with
  | 0,hj =>
   obtain rfl:GU y=u:=by simpa using hj
   have:ad.add 0=ad:=(by unfold Addr.add;split<;>simp_all);rw[this];exact hc
 ·intro v' w' h1 h2 _
  refine h v' w' ?_ ((Below.refl base W).grown h2 hb fun k hk=>(hown.lt k hk).1);unfold aJ;rw[List.length_append,List.map_append];exact h1
def lT(l:List Nat):ByteArray:=⟨(l.map UInt8.ofNat).toArray⟩
theorem GV{W:World}{base:Nat}{v:Value}{l:List Nat}(h:aJ W base v l):(convert 106 9 v).run Tryz.prog W = .ok (.string (lT l)) W:=by
 rcases h.2 with ⟨rfl,hn⟩ | ⟨g,cap,cur,rfl,_⟩
 ·obtain rfl:l = []:=List.eq_nil_of_length_eq_zero hn
  exact run_convert_bytes_nil W 106 5 Tryz.underlying106 Tryz.underlying5 _ _ 9 Tryz.underlying9
 ·have:=run_convert_bytes_arg (P:=Tryz.prog) W 106 5 Tryz.underlying106 Tryz.underlying5 g 0 l.length cap (List.map (fun x:Nat=>(x:Int)) l) (by simp) (fun i hi=>by
   have:=World.ownsRow.cellAt h i (by omega);rw[Nat.zero_add,this];simp[hi,GU]) 9 Tryz.underlying9
  rw[this,show strOfNums (List.map (fun x:Nat=>(x:Int)) l)=lT l from by unfold strOfNums lT;rw[List.map_map];rfl]
def byt(t:Tk):Nat:=if t.k = -2 then 255 else if t.k = -1 then 254 else t.k.toNat
def nT(l:List Tk)(e:Nat):Nat:=l.foldl (fun e t=>max e t.e) e
def AO(R:List Tk)(i0:Nat)(k:Int):Value := .tuple #[.string (lT ((R.take k.toNat).map byt)), .int .i64 (nT (R.take k.toNat) i0:Nat), .int .i64 0]
end Go.Proofs.YtkjgogdkdejljaaGreatDoor.Lx
namespace Go.Proofs.YtkjgogdkdejljaaGreatDoor.Df
section
open Lx (Tk Fits tokF dw dD dJ kZ eH kE)
section
variable {next rule kind : List Int} {kinds : Int} {t : List Nat}
theorem J7(H:Fits next rule kind kinds)(ht:∀ b∈t,b<256)(fr:Nat):∀ (f i e:Nat),t.length-i≤f→i≤t.length →
  (tokF next rule kind t fr f i e).t<(tokF next rule kind t fr f i e).e∧((tokF next rule kind t fr f i e).k = -2→(tokF next rule kind t fr f i e).a=t.length∧(tokF next rule kind t fr f i e).t=t.length)∧((tokF next rule kind t fr f i e).k ≠ -2→(tokF next rule kind t fr f i e).a<(tokF next rule kind t fr f i e).t)
 | 0,i,e,hf,hi=>by
  unfold tokF;exact⟨Nat.lt_succ_self _,fun _=>⟨rfl,rfl⟩,fun h=>absurd rfl h⟩
 | f+1,i,e,hf,hi=>by
  unfold tokF
  by_cases hlt:i<t.length
  ·rw[if_pos hlt]
   have hx:=kZ H ht hlt;generalize dJ next rule t i=x at *
   obtain⟨r,tzo,ex⟩:=x;simp only at hx ⊢;obtain⟨x1,x2,x3,x4,x5,x6,x7⟩:=hx
   by_cases hr:r<0
   ·rw[if_pos (.inl hr)]
    simp only[if_pos hr];exact⟨by omega,fun h=>by omega,fun _=>by omega⟩
   ·have hrl:r.toNat<kind.length:=by omega
    have hk:=H.bk _ (Lx.getD_mem hrl);rw[if_neg hr];generalize kind.getD r.toNat 0=k at *;split
    ·simp only
     exact⟨by omega,fun h=>by omega,fun _=>by omega⟩
    ·exact J7 H ht fr f tzo (max e ex) (by omega) (by omega)
  ·rw[if_neg hlt]
   exact⟨Nat.lt_succ_self _,fun _=>⟨rfl,rfl⟩,fun h=>absurd rfl h⟩
structure Xa(n i:Nat)(x:Tk):Prop where
 f:x.f=i
 k : -2≤x.k∧x.k<16
 a:i≤x.a
 tt:x.a≤x.t
 nn:x.t≤n
 e:x.t<x.e
 e1:x.e≤n+1
 en:x.k = -2→x.a=n∧x.t=n
 ne:x.k ≠ -2→x.a<x.t
theorem kQ(H:Fits next rule kind kinds)(ht:∀ b∈t,b<256){i:Nat}(hi:i≤t.length):Xa t.length i (dw next rule kind t i):=by
 obtain⟨h1,h2,h3,h4,h5,h6,h7,_⟩:=kE H ht hi;obtain⟨g1,g2,g3⟩:=J7 H ht i (t.length-i) i 0 Nat.le.refl hi;exact⟨h1,⟨h2,h3⟩,h4,h5,h6,g1,h7,g2,g3⟩
inductive BU (n:Nat):Nat→List Tk→Prop where
 | last {i:Nat} {x:Tk} : Xa n i x→x.k = -2→BU n i [x]
 | more {i:Nat} {x:Tk} {R:List Tk} : Xa n i x→x.k ≠ -2→BU n x.t R→BU n i (x::R)
theorem vG(H:Fits next rule kind kinds)(ht:∀ b∈t,b<256):∀ (m i:Nat),t.length-i≤m→i≤t.length→BU t.length i (dD next rule kind t i)
 | 0,i,hm,hi=>by
  rw[eH H ht hi];have h:=kQ H ht hi;have hk:(dw next rule kind t i).k = -2:=Classical.byContradiction fun hk=>by
   have:=h.ne hk;have:=h.a;have:=h.nn;omega
  rw[if_pos hk];exact .last h hk
 | m+1,i,hm,hi=>by
  rw[eH H ht hi];have h:=kQ H ht hi
  by_cases hk:(dw next rule kind t i).k = -2
  ·rw[if_pos hk]
   exact .last h hk
  ·rw[if_neg hk]
   have:=h.ne hk;have:=h.a;have:=h.nn;exact .more h hk (vG H ht m _ (by omega) h.nn)
theorem row_drop(H:Fits next rule kind kinds)(ht:∀ b∈t,b<256):∀ (j i:Nat),i≤t.length→∀ x,(dD next rule kind t i)[j]?=some x→x.f≤t.length∧(dD next rule kind t i).drop j=dD next rule kind t x.f
 | 0,i,hi,x,hx=>by
  have h:=kQ H ht hi;have hx2:dw next rule kind t i=x:=by
   rw[eH H ht hi] at hx;split at hx<;>simpa using hx
  subst hx2;rw[h.f];exact⟨hi,rfl⟩
 | j+1,i,hi,x,hx=>by
  have h:=kQ H ht hi;rw[eH H ht hi] at hx ⊢;split at hx
  ·simp at hx
  ·rename_i hk
   rw[if_neg hk,List.drop_succ_cons];rw[List.getElem?_cons_succ] at hx;exact row_drop H ht j _ h.nn x hx
end
theorem BU.pos{n i:Nat}{R:List Tk}(h:BU n i R):1≤R.length:=by cases h<;>simp
end
section
open Lx (Tk Fits bP tokF dw dD dJ kZ eH kE)
section
variable {next rule kind : List Int} {kinds : Int}
def shL(n:Nat)(x:Int×Nat×Nat):Int×Nat×Nat:=(x.1,n+x.2.1,n+x.2.2)
def shT(n:Nat)(x:Tk):Tk:=⟨x.k,n+x.f,n+x.a,n+x.t,n+x.e⟩
theorem Pm(A t:List Nat)(i:Nat):(A++t).getD (A.length+i) 0=t.getD i 0:=by
 rw[List.getD_eq_getElem?_getD,List.getD_eq_getElem?_getD,List.getElem?_append_right (Nat.le_add_right _ _),Nat.add_sub_cancel_left]
theorem zn(A t:List Nat):∀(f i st:Nat)(r:Int)(tzo:Nat),bP next rule (A++t) f (A.length+i) st r (A.length+tzo)=shL A.length (bP next rule t f i st r tzo)
 | 0,i,st,r,tzo=>rfl
 | f+1,i,st,r,tzo=>by
  unfold bP;rw[Pm,List.length_append];simp only
  by_cases h:i<t.length
  ·rw[if_pos h,if_pos (by omega)]
   split
   ·rfl
   ·split
    ·exact zn A t f (i+1) _ _ (i+1)
    ·exact zn A t f (i+1) _ _ tzo
  ·rw[if_neg h,if_neg (by omega)]
   rfl
theorem Xc(A t:List Nat)(i:Nat):dJ next rule (A++t) (A.length+i)=shL A.length (dJ next rule t i):=by
 unfold dJ;rw[List.length_append,show A.length+t.length-(A.length+i)=t.length-i by omega];exact zn A t _ i 0 (-1) (i+1)
theorem J9(H:Fits next rule kind kinds)(A t:List Nat)(ht:∀ b∈t,b<256)(fr:Nat):∀ (f i e E:Nat),i≤t.length→(E=A.length+e∨E=0∧e=0)→tokF next rule kind (A++t) (A.length+fr) f (A.length+i) E=shT A.length (tokF next rule kind t fr f i e)
 | 0,i,e,E,hi,_=>by
  unfold tokF shT;simp only[List.length_append];rfl
 | f+1,i,e,E,hi,hE=>by
  unfold tokF;rw[Xc,List.length_append]
  by_cases h:i<t.length
  ·rw[if_pos h,if_pos (by omega)]
   have hx:=kZ H ht h;generalize dJ next rule t i=x at hx ⊢
   obtain⟨r,tzo,ex⟩:=x;unfold shL;simp only at hx ⊢;have hm:max E (A.length+ex)=A.length+max e ex:=(by omega);rw[hm];generalize (if r<0 then (-1:Int) else kind.getD r.toNat 0)=k
   by_cases hc:r<0∨0≤k
   ·rw[if_pos hc,if_pos hc]
    show (⟨k,A.length+fr,A.length+i,A.length+tzo,max (A.length+max e ex) (A.length+tzo+1)⟩:Tk)=⟨k,A.length+fr,A.length+i,A.length+tzo,A.length+max (max e ex) (tzo+1)⟩
    rw[show max (A.length+max e ex) (A.length+tzo+1)=A.length+max (max e ex) (tzo+1) by omega]
   ·rw[if_neg hc,if_neg hc]
    exact J9 H A t ht fr f tzo (max e ex) _ (by omega) (.inl rfl)
  ·rw[if_neg h,if_neg (by omega)]
   rfl
theorem DY(H:Fits next rule kind kinds)(A t:List Nat)(ht:∀ b∈t,b<256)(i:Nat)(hi:i≤t.length):dw next rule kind (A++t) (A.length+i)=shT A.length (dw next rule kind t i):=by
 unfold dw;rw[List.length_append,show A.length+t.length-(A.length+i)=t.length-i by omega];exact J9 H A t ht i _ i 0 0 hi (.inr ⟨rfl,rfl⟩)
theorem zq{t u:List Nat}{e:Nat}(hu:∀ j,j<e→u.getD j 0=t.getD j 0)(het:e≤t.length)(heu:e≤u.length):∀(f g i st:Nat)(r:Int)(tzo:Nat),f=t.length-i→g=u.length-i→(bP next rule t f i st r tzo).2.2≤e →
  bP next rule u g i st r tzo=bP next rule t f i st r tzo
 | 0,g,i,st,r,tzo,hf,hg,h=>by
  have h:i+1≤e:=h;omega
 | f+1,g,i,st,r,tzo,hf,hg,h=>by
  have hit:i<t.length:=by omega
  have hie:i<e:=by
   have:∀(f i st:Nat)(r:Int)(tzo:Nat),i+1≤(bP next rule t f i st r tzo).2.2:=by
    intro f
    induction f with
    | zero=>intro i st r tzo;exact Nat.le_refl _
    | succ f ih =>
     intro i st r tzo;unfold bP;simp only;split
     ·split
      ·exact Nat.le_refl _
      ·split
       ·exact Nat.le_trans (by omega) (ih _ _ _ _)
       ·exact Nat.le_trans (by omega) (ih _ _ _ _)
     ·exact Nat.le_refl _
   have:=this (f+1) i st r tzo;omega
  obtain⟨g',rfl⟩:∃ g',g=g'+1:=⟨g-1,by omega⟩;unfold bP at h ⊢;simp only at h ⊢;rw[if_pos hit] at h ⊢;rw[if_pos (by omega),hu i hie];split
  ·rfl
  ·rename_i hs
   rw[if_neg hs] at h;split
   ·rename_i hr
    rw[if_pos hr] at h;exact zq hu het heu f g' (i+1) _ _ _ (by omega) (by omega) h
   ·rename_i hr
    rw[if_neg hr] at h;exact zq hu het heu f g' (i+1) _ _ _ (by omega) (by omega) h
theorem Ko(H:Fits next rule kind kinds){t u:List Nat}{e:Nat}(hu:∀ j,j<e→u.getD j 0=t.getD j 0)(het:e≤t.length)(heu:e≤u.length)(ht:∀ b∈t,b<256)(fr:Nat):∀ (f g i x:Nat),t.length-i≤f→u.length-i≤g→i≤t.length→(tokF next rule kind t fr f i x).e≤e →
  tokF next rule kind u fr g i x=tokF next rule kind t fr f i x
 | 0,g,i,x,hf,hg,hi,h=>by
  have h:t.length+1≤e:=h;omega
 | f+1,g,i,x,hf,hg,hi,h=>by
  unfold tokF at h;simp only at h
  by_cases hit:i<t.length
  ·rw[if_pos hit] at h
   have hxe:(dJ next rule t i).2.2≤e:=by
    have mono:∀ (f i x:Nat),x≤(tokF next rule kind t fr f i x).e∨t.length+1≤(tokF next rule kind t fr f i x).e:=by
     intro f
     induction f with
     | zero=>intro i x;exact .inr Nat.le.refl
     | succ f ih =>
      intro i x;unfold tokF;simp only;generalize (if (dJ next rule t i).1<0 then (-1:Int) else kind.getD (dJ next rule t i).1.toNat 0)=k;split
      ·by_cases hc:(dJ next rule t i).1<0∨0≤k
       ·rw[if_pos hc];left;simp only;omega
       ·rw[if_neg hc]
        rcases ih (dJ next rule t i).2.1 (max x (dJ next rule t i).2.2) with h | h
        ·left;omega
        ·right;exact h
      ·right;exact Nat.le_refl _
    generalize (if (dJ next rule t i).1<0 then (-1:Int) else kind.getD (dJ next rule t i).1.toNat 0)=k at h
    by_cases hc:(dJ next rule t i).1<0∨0≤k
    ·rw[if_pos hc] at h;simp only at h;omega
    ·rw[if_neg hc] at h
     rcases mono f (dJ next rule t i).2.1 (max x (dJ next rule t i).2.2) with h2 | h2<;>omega
   have hie:i<e:=by
    have:=kZ H ht hit;omega
   have hlex:dJ next rule u i=dJ next rule t i:=zq hu het heu _ _ i 0 (-1) (i+1) rfl rfl hxe
   obtain⟨g',rfl⟩:∃ g',g=g'+1:=⟨g-1,by omega⟩;have hbd:=kZ H ht hit;unfold tokF;rw[if_pos hit,if_pos (by omega),hlex];simp only;generalize (if (dJ next rule t i).1<0 then (-1:Int) else kind.getD (dJ next rule t i).1.toNat 0)=k at h ⊢
   by_cases hc:(dJ next rule t i).1<0∨0≤k
   ·rw[if_pos hc,if_pos hc]
   ·rw[if_neg hc] at h
    rw[if_neg hc,if_neg hc];exact Ko H hu het heu ht fr f g' _ _ (by omega) (by omega) (by omega) h
  ·rw[if_neg hit] at h
   simp only at h;omega
theorem TA(H:Fits next rule kind kinds){t u:List Nat}{e:Nat}(hu:∀ j,j<e→u.getD j 0=t.getD j 0)(het:e≤t.length)(heu:e≤u.length)(ht:∀ b∈t,b<256){i:Nat}(hi:i≤t.length)(h:(dw next rule kind t i).e≤e):dw next rule kind u i=dw next rule kind t i :=
 Ko H hu het heu ht i _ _ i 0 Nat.le.refl Nat.le.refl hi h
end
end
end Go.Proofs.YtkjgogdkdejljaaGreatDoor.Df
