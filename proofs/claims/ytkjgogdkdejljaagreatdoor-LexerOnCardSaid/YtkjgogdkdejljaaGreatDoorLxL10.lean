import Derived.Test.YtkjgogdkdejljaaGreatDoorSt1
import Derived.OwnWalkIn
set_option maxRecDepth 100000
set_option maxHeartbeats 40000000
namespace Go.Proofs.YtkjgogdkdejljaaGreatDoor.Lx
section
open Go.Lib (hid)
open Go Go.Proofs Go.RowKit
attribute [local go_sem] Oper.semAt_some
section
variable {next rule : List Int} {an ar : Option Addr} {cn cr : Nat} {w : World}
structure Sc(w W:World)(next rule:List Int)(an ar:Option Addr)(cn cr:Nat)(B:Nat):Prop where
 b:Below w.heap.size w W
 d:Bx W w.heap.size 27 #[.slice an next.length cn, .slice ar rule.length cr]
 z:Bx W (w.heap.size+1) 159 #[.int .i64 0, .int .i64 0, .int .i64 0, .int .i64 0]
 lt:w.heap.size+1<B
theorem Sc.below{W W':World}{B:Nat}(h:Sc w W next rule an ar cn cr B)(hb:Below B W W'):Sc w W' next rule an ar cn cr B:=by
 have:=h.lt;exact⟨h.b.trans (hb.mono (by omega)),h.d.below hb (by omega),h.z.below hb h.lt,h.lt⟩
def looksAt(w:World)(B:Nat):Nat:=match w.cell? ⟨B,1,none⟩ with
 | some (.int _ q)=>q.toNat
 | _=>0
theorem zX{w:World}{B:Nat}{a s r f t e:Int}{l:Nat}{b d:Bool}(h:Bx w B 214 (scC a l s r f t e b d)):looksAt w B=l:=by
 unfold looksAt;rw[h.cell 1];rfl
theorem Bx.nine{w:World}{B:Nat}{t:TypeId}{v0 v1 v2 v3 v4 v5 v6 v7 v8:Value}(h:Bx w B t #[v0,v1,v2,v3,v4,v5,v6,v7,v8]):w.cell? ⟨B,0,none⟩=some v0∧w.cell? ⟨B,1,none⟩=some v1∧w.cell? ⟨B,2,none⟩=some v2∧w.cell? ⟨B,3,none⟩=some v3∧w.cell? ⟨B,4,none⟩=some v4∧w.cell? ⟨B,5,none⟩=some v5∧w.cell? ⟨B,6,none⟩=some v6∧w.cell? ⟨B,7,none⟩=some v7∧w.cell? ⟨B,8,none⟩=some v8 :=
 ⟨h.cell 0,h.cell 1,h.cell 2,h.cell 3,h.cell 4,h.cell 5,h.cell 6,h.cell 7,h.cell 8⟩
theorem Js{t:List Nat}{i st:Nat}{r:Int}{tzo:Nat}(hi:i<t.length):bP next rule t (t.length-i) i st r tzo=if next.getD (256*st+t.getD i 0) 0<0 then (r,tzo,i+1) else if 0≤rule.getD (next.getD (256*st+t.getD i 0) 0).toNat 0 then bP next rule t (t.length-(i+1)) (i+1) (next.getD (256*st+t.getD i 0) 0).toNat (rule.getD (next.getD (256*st+t.getD i 0) 0).toNat 0) (i+1) else bP next rule t (t.length-(i+1)) (i+1) (next.getD (256*st+t.getD i 0) 0).toNat r tzo:=by
 rw[show t.length-i=(t.length-(i+1))+1 from by omega,bP,if_pos hi]
theorem Bx.four{w:World}{B:Nat}{t:TypeId}{v0 v1 v2 v3:Value}(h:Bx w B t #[v0,v1,v2,v3]):w.cell? ⟨B,0,none⟩=some v0∧w.cell? ⟨B,1,none⟩=some v1∧w.cell? ⟨B,2,none⟩=some v2∧w.cell? ⟨B,3,none⟩=some v3:=⟨h.cell 0,h.cell 1,h.cell 2,h.cell 3⟩
theorem Jo:AX.sizeT Tryz.prog 159=some 4:=by kernel_rfl
theorem KE:AX.sizeT Tryz.prog 214=some 9:=by kernel_rfl
theorem Uw(hN:aK w an next)(hR:aK w ar rule)(s:ByteArray)(at_:Nat)(hi:at_<s.size)(hs:s.size≤1000000)(hr0:1≤rule.length)(hr:rule.length≤512)(hnl:next.length=256*rule.length)(hbd:∀ x∈next,-1≤x∧x<rule.length) :
  Calls Tryz.prog 116 #[.agg #[.slice an next.length cn, .slice ar rule.length cr], .string s, .int .i64 at_] w fun e w' =>
   e = .returned (.agg #[.int .i64 (dJ next rule (sb s) at_).1, .int .i64 at_, .int .i64 (dJ next rule (sb s) at_).2.1, .int .i64 (dJ next rule (sb s) at_).2.2])∧Below w.heap.size w w':=by
 have hB:=((Below.refl w.heap.size w).alloc Nat.le.refl (.cells #[.slice an next.length cn, .slice ar rule.length cr] 27)).alloc (by simp) (.cells #[.int .i64 0, .int .i64 0, .int .i64 0, .int .i64 0] 159);have hD:Bx ((w.alloc (.cells #[.slice an next.length cn, .slice ar rule.length cr] 27)).alloc (.cells #[.int .i64 0, .int .i64 0, .int .i64 0, .int .i64 0] 159)) w.heap.size 27 #[.slice an next.length cn, .slice ar rule.length cr]:=(Bx.new _ _ _).alloc _;have hZ:Bx ((w.alloc (.cells #[.slice an next.length cn, .slice ar rule.length cr] 27)).alloc (.cells #[.int .i64 0, .int .i64 0, .int .i64 0, .int .i64 0] 159)) (w.heap.size+1) 159 #[.int .i64 0, .int .i64 0, .int .i64 0, .int .i64 0]:=by
  have:=Bx.new (w.alloc (.cells #[.slice an next.length cn, .slice ar rule.length cr] 27)) 159 #[.int .i64 0, .int .i64 0, .int .i64 0, .int .i64 0]
  rwa [World.size_alloc] at this
 have hbg:=fun W=>Uu at_ (by omega) W;unfold scV at hbg;have HNL:=hid hnl;clear hnl;go_enter Tryz.func116,Tryz.ntmps116
 go_wp2_with fail
 generalize (w.alloc (.cells #[.slice an next.length cn, .slice ar rule.length cr] 27)).alloc (.cells #[.int .i64 0, .int .i64 0, .int .i64 0, .int .i64 0] 159)=W0 at *;have hz1:=hZ.lt;go_step3
 go_wp2_with (go_at_call 135;((with_reducible refine(hbg _).mono ?_);rintro e W1 ⟨rfl,hBd⟩))
 go_step3
 go_wp2_with fail
 obtain⟨B,hBe⟩:∃ B,W1.heap.size=B:=⟨_,rfl⟩;have hS1:Sc w (W1.alloc (.cells (scC at_ 0 0 (-1) at_ (at_+1) 0 true false) 214)) next rule an ar cn cr B:=by
  have hlt:w.heap.size+1<W1.heap.size:=Nat.lt_of_lt_of_le hz1 hBd.size;have hB3:=hBd.alloc (Nat.le_refl _ |> fun h=>Nat.le_trans h hBd.size) (.cells (scC at_ 0 0 (-1) at_ (at_+1) 0 true false) 214);exact⟨hB.trans (hB3.mono (by omega)),hD.below hB3 (by omega),hZ.below hB3 hz1,hBe ▸ hlt⟩
 have hX1:Bx (W1.alloc (.cells (scC at_ 0 0 (-1) at_ (at_+1) 0 true false) 214)) B 214 (scC at_ 0 0 (-1) at_ (at_+1) 0 true false):=hBe ▸ Bx.new _ _ _;clear hBd hbg hz1 hD hZ hB;rw[hBe];clear hBe;unfold scC at hS1 hX1;generalize (W1.alloc (.cells #[.int .i64 at_, .int .i64 0, .int .i64 0, .int .i64 (-1), .int .i64 at_, .int .i64 (at_+1), .int .i64 0, .bool true, .bool false] 214))=W2 at *;go_loopw [] (fun wr=>∃(l st:Nat)(r:Int)(tzo:Nat)(e:Int),at_+l≤s.size∧st<rule.length∧Bx wr B 214 (scC at_ l st r at_ tzo e true false)∧Sc w wr next rule an ar cn cr B∧Hid (bP next rule (sb s) (s.size-(at_+l)) (at_+l) st r tzo=dJ next rule (sb s) at_)) (fun wr=>s.size+1-looksAt wr B)
 case atStart=>exact⟨0,0,-1,at_+1,0,by omega,by omega,hX1,hS1,hid (by unfold dJ;rw[bW];rfl)⟩
 case round =>
  obtain⟨l,st,r,tzo,e,hle,hst,hBx,hS,hm⟩:=hrel;rw[zX hBx];obtain⟨c0,c1,c2,c3,c4,c5,c6,c7,c8⟩:=Bx.nine hBx;have d0:wr.cell? ⟨w.heap.size,0,none⟩=some (.slice an next.length cn):=hS.d.cell 0;have d1:wr.cell? ⟨w.heap.size,1,none⟩=some (.slice ar rule.length cr):=hS.d.cell 1;have hBl:=hBx.lt;rcases Nat.lt_or_eq_of_le hle with hlt | heq
  ·have hnl:=HNL.out
   obtain⟨x,hx⟩:∃ x,x=next.getD (256*st+(sb s).getD (at_+l) 0) 0:=⟨_,rfl⟩
   have hix:256*st+(sb s).getD (at_+l) 0<next.length:=by
    have:(sb s).getD (at_+l) 0<256:=(by rw[Jr s _ hlt];exact UInt8.toNat_lt _);omega
   have hxb:=hbd _ (getD_mem hix);rw[←hx] at hxb;have hlk:=look_in (cn:=cn) (cr:=cr) (hN.below hS.b Nat.le.refl) (hR.below hS.b Nat.le.refl) s at_ l st r at_ tzo e hlt hs hst hr hnl x hx hxb.2;have hm:=hm.out;rw[←bW,Js (by rw[bW];exact hlt),←hx] at hm;clear hix hnl hx
   by_cases h1:x<0
   ·rw[if_pos h1] at hlk hm
    have HM:=hid hm;clear hm;unfold scV at hlk;go_wp2_with (first
     | (go_at_call 136;(with_reducible refine hlk.mono ?_);rintro e3 W3 ⟨rfl,hB3⟩;have hB4:=hBx.below hB3 hBx.lt;clear hBx c0 c1 c2 c3 c4 c5 c6 c7 c8 d0 d1 hlk)
     | (refine AX.au (vs:=[.int .i64 at_, .int .i64 (l+1), .int .i64 x, .int .i64 r, .int .i64 at_, .int .i64 tzo, .int .i64 (at_+l+1), .bool true, .bool true]) rfl rfl KE hB4 rfl rfl ?_;rintro W4 h4 h5 h6;have h4:Bx W4 B 214 #[.int .i64 at_, .int .i64 (l+1), .int .i64 x, .int .i64 r, .int .i64 at_, .int .i64 tzo, .int .i64 (at_+l+1), .bool true, .bool true]:=h4;have hS4:=hS.below ((hB3.mono (Nat.le_of_lt hBl)).trans (AX.aj Nat.le.refl (.inl h4.lt) h5 h6));obtain⟨c0,c1,c2,c3,c4,c5,c6,c7,c8⟩:=Bx.nine h4;clear h5 h6 hB3 hB4)
     | (refine AX.au (vs:=[.int .i64 r, .int .i64 at_, .int .i64 tzo, .int .i64 (at_+l+1)]) rfl rfl Jo hS4.z rfl rfl ?_;rintro W5 h7 h8 h9;have h7:Bx W5 (w.heap.size+1) 159 #[.int .i64 r, .int .i64 at_, .int .i64 tzo, .int .i64 (at_+l+1)]:=h7;have hb5:=hS4.b.trans (AX.aj (Nat.le_succ _) (.inl h7.lt) h8 h9);obtain⟨z0,z1,z2,z3⟩:=Bx.four h7;clear h8 h9))
    rw[Exit.noGoto_ret];exact bodyPost_ret (v := .agg #[.int .i64 r, .int .i64 at_, .int .i64 tzo, .int .i64 (at_+l+1)]) (by simp[results,Tryz.results116,go_sem,z0,z1,z2,z3]) rfl ⟨by rw[←HM.out];rfl,hb5⟩
   ·rw[if_neg h1] at hlk hm
    obtain⟨y,rfl⟩:∃ y:Nat,x=y:=⟨x.toNat,by omega⟩;rw[Int.toNat_natCast] at hlk hm;have hyl:y<rule.length:=(by omega);obtain⟨u,hu⟩:∃ u,u=rule.getD y 0:=⟨_,rfl⟩;rw[←hu] at hlk hm;clear hu h1
    by_cases h2:0≤u
    ·rw[if_pos h2] at hlk hm
     have HM:=hid hm;clear hm;unfold scV at hlk;go_wp2_with (first
      | (go_at_call 136;(with_reducible refine hlk.mono ?_);rintro e3 W3 ⟨rfl,hB3⟩;have hB4:=hBx.below hB3 hBx.lt;clear hBx c0 c1 c2 c3 c4 c5 c6 c7 c8 d0 d1 hlk)
      | (refine AX.au (vs:=[.int .i64 at_, .int .i64 (l+1), .int .i64 y, .int .i64 u, .int .i64 at_, .int .i64 (at_+l+1), .int .i64 (at_+l+1), .bool true, .bool false]) rfl rfl KE hB4 rfl rfl ?_;rintro W4 h4 h5 h6;have h4:Bx W4 B 214 #[.int .i64 at_, .int .i64 (l+1), .int .i64 y, .int .i64 u, .int .i64 at_, .int .i64 (at_+l+1), .int .i64 (at_+l+1), .bool true, .bool false]:=h4;have hS4:=hS.below ((hB3.mono (Nat.le_of_lt hBl)).trans (AX.aj Nat.le.refl (.inl h4.lt) h5 h6));obtain⟨c0,c1,c2,c3,c4,c5,c6,c7,c8⟩:=Bx.nine h4;clear h5 h6 hB3 hB4))
     go_roundw
     case rel=>exact⟨l+1,y,u,at_+l+1,at_+l+1,by omega,hyl,h4,hS4,hid (by have:=HM.out;rwa [bW] at this)⟩
     case measure=>rw[zX (l:=l+1) h4];omega
    ·rw[if_neg h2] at hlk hm
     have HM:=hid hm;clear hm;unfold scV at hlk;go_wp2_with (first
      | (go_at_call 136;(with_reducible refine hlk.mono ?_);rintro e3 W3 ⟨rfl,hB3⟩;have hB4:=hBx.below hB3 hBx.lt;clear hBx c0 c1 c2 c3 c4 c5 c6 c7 c8 d0 d1 hlk)
      | (refine AX.au (vs:=[.int .i64 at_, .int .i64 (l+1), .int .i64 y, .int .i64 r, .int .i64 at_, .int .i64 tzo, .int .i64 (at_+l+1), .bool true, .bool false]) rfl rfl KE hB4 rfl rfl ?_;rintro W4 h4 h5 h6;have h4:Bx W4 B 214 #[.int .i64 at_, .int .i64 (l+1), .int .i64 y, .int .i64 r, .int .i64 at_, .int .i64 tzo, .int .i64 (at_+l+1), .bool true, .bool false]:=h4;have hS4:=hS.below ((hB3.mono (Nat.le_of_lt hBl)).trans (AX.aj Nat.le.refl (.inl h4.lt) h5 h6));obtain⟨c0,c1,c2,c3,c4,c5,c6,c7,c8⟩:=Bx.nine h4;clear h5 h6 hB3 hB4))
     go_roundw
     case rel=>exact⟨l+1,y,r,tzo,at_+l+1,by omega,hyl,h4,hS4,hid (by have:=HM.out;rwa [bW] at this)⟩
     case measure=>rw[zX (l:=l+1) h4];omega
  ·have hlk:=Qu (next:=next) (rule:=rule) (an:=an) (ar:=ar) (cn:=cn) (cr:=cr) (w:=wr) s at_ l st r at_ tzo e heq hs
   unfold scV at hlk;have hm:=hm.out;rw[heq,Nat.sub_self,bP] at hm;have HM:=hid hm;clear hm;go_wp2_with (first
    | (go_at_call 136;(with_reducible refine hlk.mono ?_);rintro e3 W3 ⟨rfl,hB3⟩;have hB4:=hBx.below hB3 hBx.lt;clear hBx c0 c1 c2 c3 c4 c5 c6 c7 c8 d0 d1 hlk)
    | (refine AX.au (vs:=[.int .i64 at_, .int .i64 (l+1), .int .i64 st, .int .i64 r, .int .i64 at_, .int .i64 tzo, .int .i64 (s.size+1), .bool true, .bool true]) rfl rfl KE hB4 rfl rfl ?_;rintro W4 h4 h5 h6;have h4:Bx W4 B 214 #[.int .i64 at_, .int .i64 (l+1), .int .i64 st, .int .i64 r, .int .i64 at_, .int .i64 tzo, .int .i64 (s.size+1), .bool true, .bool true]:=h4;have hS4:=hS.below ((hB3.mono (Nat.le_of_lt hBl)).trans (AX.aj Nat.le.refl (.inl h4.lt) h5 h6));obtain⟨c0,c1,c2,c3,c4,c5,c6,c7,c8⟩:=Bx.nine h4;clear h5 h6 hB3 hB4)
    | (refine AX.au (vs:=[.int .i64 r, .int .i64 at_, .int .i64 tzo, .int .i64 (s.size+1)]) rfl rfl Jo hS4.z rfl rfl ?_;rintro W5 h7 h8 h9;have h7:Bx W5 (w.heap.size+1) 159 #[.int .i64 r, .int .i64 at_, .int .i64 tzo, .int .i64 (s.size+1)]:=h7;have hb5:=hS4.b.trans (AX.aj (Nat.le_succ _) (.inl h7.lt) h8 h9);obtain⟨z0,z1,z2,z3⟩:=Bx.four h7;clear h8 h9))
   rw[Exit.noGoto_ret];exact bodyPost_ret (v := .agg #[.int .i64 r, .int .i64 at_, .int .i64 tzo, .int .i64 (s.size+1)]) (by simp[results,Tryz.results116,go_sem,z0,z1,z2,z3]) rfl ⟨by rw[←HM.out];rfl,hb5⟩
end
end
section
open Go Go.Proofs Go.RowKit
attribute [local go_sem] Oper.semAt_some
section
variable {next rule : List Int} {an ar : Option Addr} {cn cr : Nat} {w : World}
theorem Qv{next rule:List Int}(h:okT next rule=true):1≤rule.length∧rule.length≤512∧next.length=256*rule.length∧(∀ x∈rule,-1≤x∧x<16)∧(∀ x∈next,-1≤x∧x<rule.length):=by
 unfold okT inR at h;simp only[Bool.and_eq_true,decide_eq_true_eq,List.all_eq_true] at h;exact⟨h.1,h.2.1,h.2.2.1,h.2.2.2.1,h.2.2.2.2⟩
def lxV(x:Int×Nat×Nat)(at_:Nat):Value := .agg #[.int .i64 x.1, .int .i64 at_, .int .i64 x.2.1, .int .i64 x.2.2]
theorem MQ(s:ByteArray)(at_:Nat)(hi:at_=s.size)(hs:s.size≤1000000) :
  Calls Tryz.prog 87 #[dV an ar next.length rule.length cn cr, .string s, .int .i64 at_] w fun e w'=>e = .returned (.tuple #[lxV (0,0,0) 0, .bool false])∧Below w.heap.size w w':=by
 unfold dV lxV;subst hi;have h0:(0:Int)≤(s.size:Int):=by omega
 go_enter Tryz.func87,Tryz.ntmps87
 go_wp2
 exact bodyPost_ret (v := .tuple #[.agg #[.int .i64 0, .int .i64 0, .int .i64 0, .int .i64 0], .bool false]) (by simp[results,Tryz.results87,go_sem]) rfl ⟨rfl,((Below.refl _ w).alloc Nat.le.refl _).alloc (by simp) _⟩
theorem Qo(hN:aK w an next)(hR:aK w ar rule)(hok:okT next rule=true)(s:ByteArray)(at_:Nat)(hi:at_<s.size)(hs:s.size≤1000000) :
  Calls Tryz.prog 87 #[dV an ar next.length rule.length cn cr, .string s, .int .i64 at_] w fun e w'=>e = .returned (.tuple #[lxV (dJ next rule (sb s) at_) at_, .bool true])∧Below w.heap.size w w':=by
 obtain⟨hr1,hr2,hnl,_,hbd⟩:=Qv hok;have hck:=fun W (hb:Below w.heap.size w W)=>jH next rule (by omega) (by omega) an ar cn cr W (hN.below hb Nat.le.refl) (hR.below hb Nat.le.refl)
 have hmn:=fun W (hb:Below w.heap.size w W)=>Uw (cn:=cn) (cr:=cr) (hN.below hb Nat.le.refl) (hR.below hb Nat.le.refl) s at_ hi hs hr1 hr2 hnl hbd;unfold eU at hck;simp only[hok,if_true] at hck;unfold dV lxV;generalize dJ next rule (sb s) at_=x at *
 generalize next.length=N at *
 generalize rule.length=R at *;have h0:(0:Int)≤(at_:Int):=by omega
 have h1:(at_:Int)<(s.size:Int):=by omega
 have hB:=((Below.refl w.heap.size w).alloc Nat.le.refl (.cells #[.slice an N cn, .slice ar R cr] 27)).alloc (by simp) (.cells #[.int .i64 0, .int .i64 0, .int .i64 0, .int .i64 0] 159);have hD:Bx ((w.alloc (.cells #[.slice an N cn, .slice ar R cr] 27)).alloc (.cells #[.int .i64 0, .int .i64 0, .int .i64 0, .int .i64 0] 159)) w.heap.size 27 #[.slice an N cn, .slice ar R cr]:=(Bx.new _ _ _).alloc _;have hZ:Bx ((w.alloc (.cells #[.slice an N cn, .slice ar R cr] 27)).alloc (.cells #[.int .i64 0, .int .i64 0, .int .i64 0, .int .i64 0] 159)) (w.heap.size+1) 159 #[.int .i64 0, .int .i64 0, .int .i64 0, .int .i64 0]:=by
  have:=Bx.new (w.alloc (.cells #[.slice an N cn, .slice ar R cr] 27)) 159 #[.int .i64 0, .int .i64 0, .int .i64 0, .int .i64 0]
  rwa [World.size_alloc] at this
 clear hN hR hok hr1 hr2 hnl hbd;go_enter Tryz.func87,Tryz.ntmps87
 go_wp2_with fail
 generalize (w.alloc (.cells #[.slice an N cn, .slice ar R cr] 27)).alloc (.cells #[.int .i64 0, .int .i64 0, .int .i64 0, .int .i64 0] 159)=W0 at *;have h27:=hck W0 hB;have hz1:=hZ.lt;have hlt:w.heap.size<W0.heap.size:=Nat.lt_trans (Nat.lt_succ_self _) hz1;have d0:=hD.cell 0;have d1:=hD.cell 1;simp only[List.getElem?_toArray,List.getElem?_cons_zero,List.getElem?_cons_succ] at d0 d1;clear hck;go_wp2_with (first
  | (go_at_call 36;((with_reducible refine h27.mono ?_);rintro e W1 ⟨rfl,hb1⟩;have hD1:=hD.below hb1 hlt;have hZ1:=hZ.below hb1 hz1;have hB1:=hB.trans (hb1.mono (Nat.le_of_lt hlt));have f0:W1.cell? ⟨w.heap.size,0,none⟩=some (.slice an N cn):=hD1.cell 0;have f1:W1.cell? ⟨w.heap.size,1,none⟩=some (.slice ar R cr):=hD1.cell 1;have h62:=hmn W1 hB1;clear h27))
  | (go_at_call 116;((with_reducible refine h62.mono ?_);rintro e W2 ⟨rfl,hb2⟩;have hZ2:=hZ1.below hb2 hZ1.lt;have hB2:=hB1.trans (hb2.mono hB1.size)))
  | (refine AX.au (vs:=[.int .i64 x.1, .int .i64 at_, .int .i64 x.2.1, .int .i64 x.2.2]) rfl rfl Jo hZ2 rfl rfl ?_;rintro W3 h3 h4 h5;have h3:Bx W3 (w.heap.size+1) 159 #[.int .i64 x.1, .int .i64 at_, .int .i64 x.2.1, .int .i64 x.2.2]:=h3;have hB3:=hB2.trans (AX.aj (Nat.le_succ _) (.inl h3.lt) h4 h5);obtain⟨z0,z1,z2,z3⟩:=Bx.four h3;clear h4 h5))
 exact bodyPost_ret (v := .tuple #[.agg #[.int .i64 x.1, .int .i64 at_, .int .i64 x.2.1, .int .i64 x.2.2], .bool true]) (by simp[results,Tryz.results87,go_sem,z0,z1,z2,z3]) rfl ⟨rfl,hB3⟩
end
section
variable {next rule kind : List Int} {kinds : Int} {an ar ak : Option Addr} {cn cr ck : Nat} {w : World}
theorem bH{P:Program}{ops:Array Oper}{Q:Exit→Act→World→Prop}{a:Act}{w:World}{rest:List Oper}{t:TypeId}{x y:Operand}{ty:TypeId}{pos:String}{after:Array Edge}(h:wpList P ops Q ({ dst:=none,op := .store t x y,type:=ty,pos:=pos,after:=after,guard:=none }::rest) a w) :
 wpList P ops Q ({ dst:=none,op := .store t x y,type:=ty,pos:=pos,after:=after,guard:=none }::rest) a w:=h
theorem fJ{F:Fence}{m:Nat}{P:Program}{ops:Array Oper}{Q:Exit→Act→World→Prop}{a:Act}{w:World}{rest:List Oper}{t:TypeId}{x y:Operand}{ty:TypeId}{pos:String}{after:Array Edge}(h:wpListIn F m P ops Q ({ dst:=none,op := .store t x y,type:=ty,pos:=pos,after:=after,guard:=none }::rest) a w) :
 wpListIn F m P ops Q ({ dst:=none,op := .store t x y,type:=ty,pos:=pos,after:=after,guard:=none }::rest) a w:=h
def tkV(t:Tk):Value := .agg #[.int .i64 t.k, .int .i64 t.f, .int .i64 t.a, .int .i64 t.t, .int .i64 t.e]
structure Nx(w W:World)(next rule kind:List Int)(kinds:Int)(an ar ak:Option Addr)(cn cr ck:Nat):Prop where
 b:Below w.heap.size w W
 d:Bx W w.heap.size 29 #[.slice an next.length cn, .slice ar rule.length cr, .slice ak kind.length ck, .int .i64 kinds]
 z:Bx W (w.heap.size+1) 42 #[.int .i64 0, .int .i64 0, .int .i64 0, .int .i64 0, .int .i64 0]
theorem Nx.below{W W':World}(h:Nx w W next rule kind kinds an ar ak cn cr ck)(hb:Below (w.heap.size+1+1) W W'):Nx w W' next rule kind kinds an ar ak cn cr ck :=
 ⟨h.b.trans (hb.mono (by omega)),h.d.below hb (by omega),h.z.below hb (by omega)⟩
theorem jK:AX.sizeT Tryz.prog 42=some 5:=by kernel_rfl
theorem sz3:AX.sizeT Tryz.prog 3=some 1:=by kernel_rfl
theorem Bx.five{w:World}{B:Nat}{t:TypeId}{v0 v1 v2 v3 v4:Value}(h:Bx w B t #[v0,v1,v2,v3,v4]):w.cell? ⟨B,0,none⟩=some v0∧w.cell? ⟨B,1,none⟩=some v1∧w.cell? ⟨B,2,none⟩=some v2∧w.cell? ⟨B,3,none⟩=some v3∧w.cell? ⟨B,4,none⟩=some v4:=⟨h.cell 0,h.cell 1,h.cell 2,h.cell 3,h.cell 4⟩
theorem Bx.aaB{w:World}{T:Nat}{t:TypeId}{v0 v1 v2 v3 v4:Value}(h:Bx w T t #[v0,v1,v2,v3,v4])(a b c:Value):Bx (((w.setCell ⟨T,0,none⟩ a).setCell ⟨T,2,none⟩ b).setCell ⟨T,3,none⟩ c).drew T t #[a,v1,b,c,v4]:=by
 have h:=h.set 0 a;rw[List.setIfInBounds_toArray] at h;simp only[List.set_cons_zero] at h;have h:=h.set 2 b;simp only[List.setIfInBounds_toArray,List.set_cons_zero,List.set_cons_succ] at h;have h:=h.set 3 c;simp only[List.setIfInBounds_toArray,List.set_cons_zero,List.set_cons_succ] at h;exact h
theorem Bx.Vu{w:World}{T B:Nat}{t:TypeId}{cs:Array Value}(h:Bx w B t cs)(hne:B≠T)(a b c:Value):Bx (((w.setCell ⟨T,0,none⟩ a).setCell ⟨T,2,none⟩ b).setCell ⟨T,3,none⟩ c).drew B t cs :=
 ((h.other hne).other hne).other hne
theorem zO{n T:Nat}{v w:World}(h:Below n v w)(hn:n≤T)(a b c:Value):Below n v (((w.setCell ⟨T,0,none⟩ a).setCell ⟨T,2,none⟩ b).setCell ⟨T,3,none⟩ c).drew :=
 (((h.setCell (by exact hn) a).setCell (by exact hn) b).setCell (by exact hn) c).drew
theorem Vt{next rule kind:List Int}{kinds:Int}(h:okL next rule kind kinds=true):okT next rule=true:=by
 unfold okL at h;simp only[Bool.and_eq_true] at h;exact h.1
theorem mJ{next rule kind:List Int}{kinds:Int}(h:okL next rule kind kinds=true):Fits next rule kind kinds:=by
 obtain⟨h1,h2,h3,h4,h5⟩:=Qv (Vt h);unfold okL inR at h;simp only[Bool.and_eq_true,decide_eq_true_eq,List.all_eq_true] at h;obtain⟨_,h6,h7,h8,h9⟩:=h;exact⟨h1,h3,h5,fun x hx=>⟨(h4 x hx).1,(h4 x hx).2,h9 x hx⟩,h8,h6,h7⟩
end
section
variable {next rule kind : List Int} {kinds : Int} {an ar ak : Option Addr} {cn cr ck : Nat} {w : World}
def Ep(next rule kind:List Int)(kinds:Int)(s:ByteArray)(at_:Int):Int:=if okL next rule kind kinds=true∧0≤at_∧at_≤s.size then 0 else 2
theorem KC(hn:next.length≤1000000)(hr:rule.length≤1000000)(hk:kind.length≤1000000)(hN:aK w an next)(hR:aK w ar rule)(hK:aK w ak kind)(s:ByteArray)(at_:Int)(_hs:s.size≤1000000) :
  Calls Tryz.prog 47 #[lV an ar ak next.length rule.length kind.length cn cr ck kinds, .string s, .int .i64 at_] w fun e w'=>e = .returned (.int .i64 (Ep next rule kind kinds s at_))∧Below w.heap.size w w':=by
 have hck:=fun W (hb:Below w.heap.size w W)=>GK next rule kind kinds hn hr hk an ar ak cn cr ck W (hN.below hb Nat.le.refl) (hR.below hb Nat.le.refl) (hK.below hb Nat.le.refl)
 have hB:=(Below.refl w.heap.size w).alloc Nat.le.refl (.cells #[.slice an next.length cn, .slice ar rule.length cr, .slice ak kind.length ck, .int .i64 kinds] 29);have hD:Bx (w.alloc (.cells #[.slice an next.length cn, .slice ar rule.length cr, .slice ak kind.length ck, .int .i64 kinds] 29)) w.heap.size 29 #[.slice an next.length cn, .slice ar rule.length cr, .slice ak kind.length ck, .int .i64 kinds]:=Bx.new _ _ _;unfold lV at *;unfold Ep;unfold mY at hck;clear hN hR hK;have hw:w.heap.size<(w.alloc (.cells #[.slice an next.length cn, .slice ar rule.length cr, .slice ak kind.length ck, .int .i64 kinds] 29)).heap.size:=hD.lt;have h0:okL next rule kind kinds=true∨¬okL next rule kind kinds=true:=Classical.em _
 rcases h0 with hok | hok
 ·simp only[hok,if_true,true_and] at hck ⊢
  clear hok;have h15:=hck _ hB;clear hck;rcases Int.lt_or_le at_ 0 with h1 | h1
  ·rw[if_neg (by omega)]
   go_enter Tryz.func47,Tryz.ntmps47
   go_wp2_with (go_at_call 15;((with_reducible refine h15.mono ?_);rintro e W1 ⟨rfl,hb1⟩;have hB1:=hB.trans (hb1.mono (Nat.le_of_lt hw))))
   go_ret
   exact⟨rfl,hB1⟩
  ·rcases Int.lt_or_le s.size at_ with h2 | h2
   ·rw[if_neg (by omega)]
    go_enter Tryz.func47,Tryz.ntmps47
    go_wp2_with (go_at_call 15;((with_reducible refine h15.mono ?_);rintro e W1 ⟨rfl,hb1⟩;have hB1:=hB.trans (hb1.mono (Nat.le_of_lt hw))))
    go_ret
    exact⟨rfl,hB1⟩
   ·rw[if_pos ⟨h1,h2⟩]
    go_enter Tryz.func47,Tryz.ntmps47
    go_wp2_with (go_at_call 15;((with_reducible refine h15.mono ?_);rintro e W1 ⟨rfl,hb1⟩;have hB1:=hB.trans (hb1.mono (Nat.le_of_lt hw))))
    go_ret
    exact⟨rfl,hB1⟩
 ·simp only[hok,Bool.false_eq_true,if_false,false_and] at hck ⊢
  clear hok;have h15:=hck _ hB;clear hck;go_enter Tryz.func47,Tryz.ntmps47
  go_wp2_with (go_at_call 15;((with_reducible refine h15.mono ?_);rintro e W1 ⟨rfl,hb1⟩;have hB1:=hB.trans (hb1.mono (Nat.le_of_lt hw))))
  go_ret
  exact⟨rfl,hB1⟩
end
section
variable {next rule kind : List Int} {kinds : Int} {an ar ak : Option Addr} {cn cr ck : Nat} {w : World}
theorem Bx.turn{w w':World}{B b:Nat}{t:TypeId}{cs:Array Value}(h:Bx w B t cs)(hne:B≠b)(h4:∀ k,k≠b→w'.heap[k]?=w.heap[k]?):Bx w' B t cs:=(h4 _ hne).trans h
end
section
variable {next rule kind : List Int} {kinds : Int} {an ar ak : Option Addr} {cn cr ck : Nat} {w : World}
theorem Qn(hN:aK w an next)(hR:aK w ar rule)(hK:aK w ak kind)(hok:okL next rule kind kinds=true)(s:ByteArray)(at_:Nat)(hi:at_≤s.size)(hs:s.size≤1000000) :
  Calls Tryz.prog 48 #[lV an ar ak next.length rule.length kind.length cn cr ck kinds, .string s, .int .i64 at_] w fun e w'=>e = .returned (tkV (dw next rule kind (sb s) at_))∧Below w.heap.size w w':=by
 unfold lV tkV;have hF:=mJ hok;obtain⟨W0,hW0⟩:∃ W0,W0=((w.alloc (.cells #[.slice an next.length cn, .slice ar rule.length cr, .slice ak kind.length ck, .int .i64 kinds] 29)).alloc (.cells #[.int .i64 0, .int .i64 0, .int .i64 0, .int .i64 0, .int .i64 0] 42)):=⟨_,rfl⟩;have hD:Nx w W0 next rule kind kinds an ar ak cn cr ck:=by
  refine⟨hW0 ▸ ((Below.refl w.heap.size w).alloc Nat.le.refl _).alloc (by simp) _,hW0 ▸ (Bx.new _ _ _).alloc _,?_⟩;have:=Bx.new (w.alloc (.cells #[.slice an next.length cn, .slice ar rule.length cr, .slice ak kind.length ck, .int .i64 kinds] 29)) 42 #[.int .i64 0, .int .i64 0, .int .i64 0, .int .i64 0, .int .i64 0];rw[World.size_alloc] at this;exact hW0 ▸ this
 have hT:W0.heap.size=w.heap.size+1+1:=by rw[hW0];simp
 go_enter Tryz.func48,Tryz.ntmps48
 go_wp2_with fail
 rw[←hW0];have hX:=Bx.new W0 42 #[.int .i64 (-2), .int .i64 at_, .int .i64 s.size, .int .i64 s.size, .int .i64 0];rw[hT] at hX;have hD:=hD.below (((Below.refl _ W0).alloc Nat.le.refl (.cells #[.int .i64 (-2), .int .i64 at_, .int .i64 s.size, .int .i64 s.size, .int .i64 0] 42)).mono (by omega));generalize W0.alloc (.cells #[.int .i64 (-2), .int .i64 at_, .int .i64 s.size, .int .i64 s.size, .int .i64 0] 42)=W1 at *;clear hT hW0;go_loopw [2] (fun u wr=>∃ (i e:Nat),u = .int .i64 i∧at_≤i∧i≤s.size∧e≤s.size+1∧Nx w wr next rule kind kinds an ar ak cn cr ck∧Bx wr (w.heap.size+1+1) 42 #[.int .i64 (-2), .int .i64 at_, .int .i64 s.size, .int .i64 s.size, .int .i64 e]∧Hid (tokF next rule kind (sb s) at_ (s.size-i) i e=dw next rule kind (sb s) at_)) (fun u _=>s.size-(intOf u).toNat)
 case atStart=>exact⟨at_,0,rfl,Nat.le_refl _,hi,by omega,hD,hX,Lib.hid (by unfold dw;rw[bW])⟩
 case round =>
  obtain⟨i,e,rfl,hai,his,he,hS,hT,hm⟩:=hrel;rcases Nat.lt_or_eq_of_le his with hlt | rfl
  ·obtain⟨f,hf⟩:∃ f,s.size-i=f+1:=⟨s.size-i-1,by omega⟩
   have hil:i<(sb s).length:=(by rw[bW];exact hlt);have hx:=kZ hF (kR s) hil;have hm:=hm.out;rw[hf,vV f i e at_ hil] at hm;have h40:=Qo (cn:=cn) (cr:=cr) (hN.below hS.b Nat.le.refl) (hR.below hS.b Nat.le.refl) (Vt hok) s i hlt hs;have hff:f=s.size-(i+1):=(by omega);clear hil hf;unfold dV lxV at h40;rw[bW] at hx;generalize dJ next rule (sb s) i=x at *
   obtain⟨r,tzo,ex⟩:=x;simp only at hx hm h40;obtain⟨hx1,hx2,hx3,hx4,hx5,hx6,hx7⟩:=hx;have d0:wr.cell? ⟨w.heap.size,0,none⟩=some (.slice an next.length cn):=hS.d.cell 0;have d1:wr.cell? ⟨w.heap.size,1,none⟩=some (.slice ar rule.length cr):=hS.d.cell 1;have hto:(0:Int)≤(tzo:Int):=(by omega);obtain⟨m,hme⟩:∃ m,m=max e ex:=⟨_,rfl⟩;have hmx:max (e:Int) (ex:Int)=(m:Int):=(by omega);obtain⟨m2,aaA⟩:∃ m2,m2=max m (tzo+1):=⟨_,rfl⟩;have aeg:max (m:Int) ((tzo:Int)+1)=(m2:Int):=(by omega);rw[←hme,←aaA] at hm;have hml:m≤s.size+1:=(by omega);clear hme aaA
   by_cases hr:r<0
   ·rw[if_pos (.inl hr),if_pos hr] at hm
    have HM:=Lib.hid hm.symm;clear hm;go_wp2_with (first
     | (go_at_call 87;(with_reducible refine h40.mono ?_);rintro e1 W2 ⟨rfl,hb2⟩;have hS2:=hS.below (hb2.mono (by have:=hT.lt;omega));have hT2:=hT.below hb2 hT.lt;have hX0:=Bx.new W2 159 #[.int .i64 0, .int .i64 0, .int .i64 0, .int .i64 0];have hTl:=hT2.lt;have hS2:=hS2.below (((Below.refl _ W2).alloc Nat.le.refl (.cells #[.int .i64 0, .int .i64 0, .int .i64 0, .int .i64 0] 159)).mono (by omega));have hT2:=hT2.alloc (.cells #[.int .i64 0, .int .i64 0, .int .i64 0, .int .i64 0] 159))
     | ((with_reducible refine bH ?_);refine AX.au (vs:=[.int .i64 r, .int .i64 i, .int .i64 tzo, .int .i64 ex]) rfl rfl Jo hX0 rfl rfl ?_;rintro W3 h3 h4 h5;have hX:Bx W3 W2.heap.size 159 #[.int .i64 r, .int .i64 i, .int .i64 tzo, .int .i64 ex]:=h3;have hS3:=hS2.below (AX.aj (by have:=hT2.lt;omega) (.inl hX.lt) h4 h5);have hT3:Bx W3 (w.heap.size+1+1) 42 _:=hT2.below (AX.aj (n:=w.heap.size+1+1+1) (by have:=hT2.lt;omega) (.inl hX.lt) h4 h5) (by omega);obtain⟨x0,x1,x2,x3⟩:=Bx.four hX;obtain⟨t0,t1,t2,t3,t4⟩:=Bx.five hT3;clear h3 h4 h5 hX0))
    have fr:=hT3.frozen;go_region
    have hT4:=hT3.aaB (.int .i64 (-1)) (.int .i64 i) (.int .i64 tzo);have hX4:=hX.Vu (T:=w.heap.size+1+1) (by omega) (.int .i64 (-1)) (.int .i64 i) (.int .i64 tzo);have hS4:=hS3.below (zO (Below.refl _ W3) Nat.le.refl (.int .i64 (-1)) (.int .i64 i) (.int .i64 tzo));clear hT3 hX hS3 fr t0 t1 t2 t3 t4 x0 x1 x2 x3;generalize (((W3.setCell ⟨w.heap.size+1+1,0,none⟩ (.int .i64 (-1))).setCell ⟨w.heap.size+1+1,2,none⟩ (.int .i64 i)).setCell ⟨w.heap.size+1+1,3,none⟩ (.int .i64 tzo)).drew=W4 at *;obtain⟨x0,x1,x2,x3⟩:=Bx.four hX4;obtain⟨t0,t1,t2,t3,t4⟩:=Bx.five hT4;go_wp2_with (first
     | ((with_reducible refine bH ?_);refine AX.aB (o:=4) (v := .int .i64 m) rfl rfl rfl sz3 hT4 (show 4<5 by decide) ?_;rintro W5 h3 h4 h5;have hT5:Bx W5 (w.heap.size+1+1) 42 #[.int .i64 (-1), .int .i64 at_, .int .i64 i, .int .i64 tzo, .int .i64 m]:=h3;have hS5:=hS4.below (AX.aj Nat.le.refl (.inl hT5.lt) h4 h5);obtain⟨t0,t1,t2,t3,t4⟩:=Bx.five hT5;clear h3 h4 h5 hT4)
     | ((with_reducible refine bH ?_);refine AX.aB (o:=4) (v := .int .i64 m2) rfl rfl rfl sz3 hT5 (show 4<5 by decide) ?_;rintro W6 h3 h4 h5;have hT6:Bx W6 (w.heap.size+1+1) 42 #[.int .i64 (-1), .int .i64 at_, .int .i64 i, .int .i64 tzo, .int .i64 m2]:=h3;have hS6:=hS5.below (AX.aj Nat.le.refl (.inl hT6.lt) h4 h5);obtain⟨t0,t1,t2,t3,t4⟩:=Bx.five hT6;clear h3 h4 h5 hT5)
     | ((with_reducible refine bH ?_);refine AX.au (vs:=[.int .i64 (-1), .int .i64 at_, .int .i64 i, .int .i64 tzo, .int .i64 m2]) rfl rfl jK hS6.z rfl rfl ?_;rintro W7 h3 h4 h5;have hR7:Bx W7 (w.heap.size+1) 42 #[.int .i64 (-1), .int .i64 at_, .int .i64 i, .int .i64 tzo, .int .i64 m2]:=h3;have hb7:=hS6.b.trans (AX.aj (Nat.le_succ _) (.inl hR7.lt) h4 h5);obtain⟨z0,z1,z2,z3,z4⟩:=Bx.five hR7;clear h3 h4 h5))
    exact bodyPost_ret (v := .agg #[.int .i64 (-1), .int .i64 at_, .int .i64 i, .int .i64 tzo, .int .i64 m2]) (by simp[results,Tryz.results48,go_sem,z0,z1,z2,z3,z4]) rfl ⟨by first | (rw[HM.out];done) | (rw[HM.out];rfl),hb7⟩
   ·rw[if_neg hr] at hm
    obtain⟨y,rfl⟩:∃ y:Nat,r=y:=⟨r.toNat,by omega⟩;rw[Int.toNat_natCast] at hm;have hyl:y<kind.length:=(by omega);obtain⟨bk,ok,rfl,hbk,hck⟩:=hK.get hyl;have Qp:=hF.bk _ (getD_mem hyl);obtain⟨k,hk⟩:∃ k,k=kind.getD y 0:=⟨_,rfl⟩;rw[←hk] at hck Qp hm;clear hk;have hy0:(0:Int)≤(y:Int):=by omega
    by_cases hk0:0≤k
    ·rw[if_pos (.inr hk0)] at hm
     have HM:=Lib.hid hm.symm;clear hm;go_wp2_with (first
      | (go_at_call 87;(with_reducible refine h40.mono ?_);rintro e1 W2 ⟨rfl,hb2⟩;have hS2:=hS.below (hb2.mono (by have:=hT.lt;omega));have hT2:=hT.below hb2 hT.lt;have hX0:=Bx.new W2 159 #[.int .i64 0, .int .i64 0, .int .i64 0, .int .i64 0];have hTl:=hT2.lt;have hS2:=hS2.below (((Below.refl _ W2).alloc Nat.le.refl (.cells #[.int .i64 0, .int .i64 0, .int .i64 0, .int .i64 0] 159)).mono (by omega));have hT2:=hT2.alloc (.cells #[.int .i64 0, .int .i64 0, .int .i64 0, .int .i64 0] 159))
      | ((with_reducible refine bH ?_);refine AX.au (vs:=[.int .i64 y, .int .i64 i, .int .i64 tzo, .int .i64 ex]) rfl rfl Jo hX0 rfl rfl ?_;rintro W3 h3 h4 h5;have hX:Bx W3 W2.heap.size 159 #[.int .i64 y, .int .i64 i, .int .i64 tzo, .int .i64 ex]:=h3;have hS3:=hS2.below (AX.aj (by have:=hT2.lt;omega) (.inl hX.lt) h4 h5);have hT3:Bx W3 (w.heap.size+1+1) 42 _:=hT2.below (AX.aj (n:=w.heap.size+1+1+1) (by have:=hT2.lt;omega) (.inl hX.lt) h4 h5) (by omega);obtain⟨x0,x1,x2,x3⟩:=Bx.four hX;obtain⟨t0,t1,t2,t3,t4⟩:=Bx.five hT3;clear h3 h4 h5 hX0;have c1:W3.cell? ⟨w.heap.size,2,none⟩=some (.slice (some ⟨bk,ok,none⟩) kind.length ck):=hS3.d.cell 2;have c2:W3.cell? ⟨bk,ok+y,none⟩=some (.int .i64 k):=(hS3.b.cell (p:=⟨bk,ok+y,none⟩) hbk).trans hck))
     have fr:=hT3.frozen;go_region
     have hT4:=hT3.aaB (.int .i64 k) (.int .i64 i) (.int .i64 tzo);have hX4:=hX.Vu (T:=w.heap.size+1+1) (by omega) (.int .i64 k) (.int .i64 i) (.int .i64 tzo);have hS4:=hS3.below (zO (Below.refl _ W3) Nat.le.refl (.int .i64 k) (.int .i64 i) (.int .i64 tzo));clear hT3 hX hS3 fr t0 t1 t2 t3 t4 x0 x1 x2 x3;generalize (((W3.setCell ⟨w.heap.size+1+1,0,none⟩ (.int .i64 k)).setCell ⟨w.heap.size+1+1,2,none⟩ (.int .i64 i)).setCell ⟨w.heap.size+1+1,3,none⟩ (.int .i64 tzo)).drew=W4 at *;obtain⟨x0,x1,x2,x3⟩:=Bx.four hX4;obtain⟨t0,t1,t2,t3,t4⟩:=Bx.five hT4;go_wp2_with (first
      | ((with_reducible refine bH ?_);refine AX.aB (o:=4) (v := .int .i64 m) rfl rfl rfl sz3 hT4 (show 4<5 by decide) ?_;rintro W5 h3 h4 h5;have hT5:Bx W5 (w.heap.size+1+1) 42 #[.int .i64 k, .int .i64 at_, .int .i64 i, .int .i64 tzo, .int .i64 m]:=h3;have hS5:=hS4.below (AX.aj Nat.le.refl (.inl hT5.lt) h4 h5);obtain⟨t0,t1,t2,t3,t4⟩:=Bx.five hT5;clear h3 h4 h5 hT4)
      | ((with_reducible refine bH ?_);refine AX.aB (o:=4) (v := .int .i64 m2) rfl rfl rfl sz3 hT5 (show 4<5 by decide) ?_;rintro W6 h3 h4 h5;have hT6:Bx W6 (w.heap.size+1+1) 42 #[.int .i64 k, .int .i64 at_, .int .i64 i, .int .i64 tzo, .int .i64 m2]:=h3;have hS6:=hS5.below (AX.aj Nat.le.refl (.inl hT6.lt) h4 h5);obtain⟨t0,t1,t2,t3,t4⟩:=Bx.five hT6;clear h3 h4 h5 hT5)
      | ((with_reducible refine bH ?_);refine AX.au (vs:=[.int .i64 k, .int .i64 at_, .int .i64 i, .int .i64 tzo, .int .i64 m2]) rfl rfl jK hS6.z rfl rfl ?_;rintro W7 h3 h4 h5;have hR7:Bx W7 (w.heap.size+1) 42 #[.int .i64 k, .int .i64 at_, .int .i64 i, .int .i64 tzo, .int .i64 m2]:=h3;have hb7:=hS6.b.trans (AX.aj (Nat.le_succ _) (.inl hR7.lt) h4 h5);obtain⟨z0,z1,z2,z3,z4⟩:=Bx.five hR7;clear h3 h4 h5))
     exact bodyPost_ret (v := .agg #[.int .i64 k, .int .i64 at_, .int .i64 i, .int .i64 tzo, .int .i64 m2]) (by simp[results,Tryz.results48,go_sem,z0,z1,z2,z3,z4]) rfl ⟨by first | (rw[HM.out];done) | (rw[HM.out];rfl),hb7⟩
    ·rw[if_neg (by omega)] at hm
     have HM:=Lib.hid hm;clear hm;go_wp2_with (first
      | (go_at_call 87;(with_reducible refine h40.mono ?_);rintro e1 W2 ⟨rfl,hb2⟩;have hS2:=hS.below (hb2.mono (by have:=hT.lt;omega));have hT2:=hT.below hb2 hT.lt;have hX0:=Bx.new W2 159 #[.int .i64 0, .int .i64 0, .int .i64 0, .int .i64 0];have hTl:=hT2.lt;have hS2:=hS2.below (((Below.refl _ W2).alloc Nat.le.refl (.cells #[.int .i64 0, .int .i64 0, .int .i64 0, .int .i64 0] 159)).mono (by omega));have hT2:=hT2.alloc (.cells #[.int .i64 0, .int .i64 0, .int .i64 0, .int .i64 0] 159))
      | ((with_reducible refine bH ?_);refine AX.au (vs:=[.int .i64 y, .int .i64 i, .int .i64 tzo, .int .i64 ex]) rfl rfl Jo hX0 rfl rfl ?_;rintro W3 h3 h4 h5;have hX:Bx W3 W2.heap.size 159 #[.int .i64 y, .int .i64 i, .int .i64 tzo, .int .i64 ex]:=h3;have hS3:=hS2.below (AX.aj (by have:=hT2.lt;omega) (.inl hX.lt) h4 h5);have hT3:Bx W3 (w.heap.size+1+1) 42 _:=hT2.below (AX.aj (n:=w.heap.size+1+1+1) (by have:=hT2.lt;omega) (.inl hX.lt) h4 h5) (by omega);obtain⟨x0,x1,x2,x3⟩:=Bx.four hX;obtain⟨t0,t1,t2,t3,t4⟩:=Bx.five hT3;clear h3 h4 h5 hX0;have c1:W3.cell? ⟨w.heap.size,2,none⟩=some (.slice (some ⟨bk,ok,none⟩) kind.length ck):=hS3.d.cell 2;have c2:W3.cell? ⟨bk,ok+y,none⟩=some (.int .i64 k):=(hS3.b.cell (p:=⟨bk,ok+y,none⟩) hbk).trans hck)
      | ((with_reducible refine bH ?_);refine AX.aB (o:=4) (v := .int .i64 m) rfl rfl rfl sz3 hT3 (show 4<5 by decide) ?_;rintro W5 h3 h4 h5;have hT5:Bx W5 (w.heap.size+1+1) 42 #[.int .i64 (-2), .int .i64 at_, .int .i64 s.size, .int .i64 s.size, .int .i64 m]:=h3;have hS5:=hS3.below (AX.aj Nat.le.refl (.inl hT5.lt) h4 h5);have x2:W5.cell? ⟨W2.heap.size,2,none⟩=some (.int .i64 tzo):=cell_of_row _ _ 2 _ _ _ ((h4 _ (by omega)).trans hX);obtain⟨t0,t1,t2,t3,t4⟩:=Bx.five hT5;clear h3 h4 h5 hT3))
     go_roundw
     case rel=>exact⟨tzo,m,rfl,by omega,hx5,hml,hS5,hT5,Lib.hid (by rw[←HM.out];exact CU hF (kR s) at_ _ _ _ _ (by rw[bW];omega) (by rw[bW];omega) (by rw[bW];omega))⟩
     case measure=>simp[intOf];omega
  ·have h40:=MQ (next:=next) (rule:=rule) (an:=an) (ar:=ar) (cn:=cn) (cr:=cr) (w:=wr) s s.size rfl hs
   unfold dV lxV at h40;have d0:wr.cell? ⟨w.heap.size,0,none⟩=some (.slice an next.length cn):=hS.d.cell 0;have d1:wr.cell? ⟨w.heap.size,1,none⟩=some (.slice ar rule.length cr):=hS.d.cell 1;have hm:=hm.out;rw[Nat.sub_self,tokF,bW] at hm;have HM:=Lib.hid hm.symm;clear hm;go_wp2_with (first
    | (go_at_call 87;(with_reducible refine h40.mono ?_);rintro e1 W2 ⟨rfl,hb2⟩;have hS2:=hS.below (hb2.mono (by have:=hT.lt;omega));have hT2:=hT.below hb2 hT.lt;have hX0:=Bx.new W2 159 #[.int .i64 0, .int .i64 0, .int .i64 0, .int .i64 0];have hTl:=hT2.lt;have hS2:=hS2.below (((Below.refl _ W2).alloc Nat.le.refl (.cells #[.int .i64 0, .int .i64 0, .int .i64 0, .int .i64 0] 159)).mono (by omega));have hT2:=hT2.alloc (.cells #[.int .i64 0, .int .i64 0, .int .i64 0, .int .i64 0] 159))
    | ((with_reducible refine bH ?_);refine AX.au (vs:=[.int .i64 0, .int .i64 0, .int .i64 0, .int .i64 0]) rfl rfl Jo hX0 rfl rfl ?_;rintro W3 h3 h4 h5;have hX:Bx W3 W2.heap.size 159 #[.int .i64 0, .int .i64 0, .int .i64 0, .int .i64 0]:=h3;have hS3:=hS2.below (AX.aj (by have:=hT2.lt;omega) (.inl hX.lt) h4 h5);have hT3:Bx W3 (w.heap.size+1+1) 42 _:=hT2.below (AX.aj (n:=w.heap.size+1+1+1) (by have:=hT2.lt;omega) (.inl hX.lt) h4 h5) (by omega);obtain⟨x0,x1,x2,x3⟩:=Bx.four hX;obtain⟨t0,t1,t2,t3,t4⟩:=Bx.five hT3;clear h3 h4 h5 hX0)
    | ((with_reducible refine bH ?_);refine AX.aB (o:=4) (v := .int .i64 (s.size+1)) rfl rfl rfl sz3 hT3 (show 4<5 by decide) ?_;rintro W4 h3 h4 h5;have hT4:Bx W4 (w.heap.size+1+1) 42 #[.int .i64 (-2), .int .i64 at_, .int .i64 s.size, .int .i64 s.size, .int .i64 (s.size+1)]:=h3;have hS4:=hS3.below (AX.aj Nat.le.refl (.inl hT4.lt) h4 h5);obtain⟨t0,t1,t2,t3,t4⟩:=Bx.five hT4;clear h3 h4 h5 hT3)
    | ((with_reducible refine bH ?_);refine AX.au (vs:=[.int .i64 (-2), .int .i64 at_, .int .i64 s.size, .int .i64 s.size, .int .i64 (s.size+1)]) rfl rfl jK hS4.z rfl rfl ?_;rintro W5 h3 h4 h5;have hR5:Bx W5 (w.heap.size+1) 42 #[.int .i64 (-2), .int .i64 at_, .int .i64 s.size, .int .i64 s.size, .int .i64 (s.size+1)]:=h3;have hb5:=hS4.b.trans (AX.aj (Nat.le_succ _) (.inl hR5.lt) h4 h5);obtain⟨z0,z1,z2,z3,z4⟩:=Bx.five hR5;clear h3 h4 h5))
   exact bodyPost_ret (v := .agg #[.int .i64 (-2), .int .i64 at_, .int .i64 s.size, .int .i64 s.size, .int .i64 (s.size+1)]) (by simp[results,Tryz.results48,go_sem,z0,z1,z2,z3,z4]) rfl ⟨by first | (rw[HM.out];done) | (rw[HM.out];rfl),hb5⟩
end
end
end Go.Proofs.YtkjgogdkdejljaaGreatDoor.Lx
