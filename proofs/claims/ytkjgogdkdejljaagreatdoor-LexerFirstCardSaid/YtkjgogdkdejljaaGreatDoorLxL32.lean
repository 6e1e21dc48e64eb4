import Derived.Test.YtkjgogdkdejljaaGreatDoorLxL13
set_option maxRecDepth 100000
set_option maxHeartbeats 40000000
namespace Go.Proofs.YtkjgogdkdejljaaGreatDoor.Lx
open Go Go.Proofs Go.RowKit
attribute [local go_sem] Oper.semAt_some
section
variable {next rule kind : List Int} {kinds : Int} {an ar ak : Option Addr} {cn cr ck : Nat} {w : World}
theorem SG(hN:aH w an next)(hR:aH w ar rule)(hK:aH w ak kind)(hok:okL next rule kind kinds=true)(s:ByteArray)(at_:Nat)(hi:at_<=s.size)(hs:s.size<=1000000):
  Calls Tryz.prog 48 #[lV an ar ak next.length rule.length kind.length cn cr ck kinds,.string s,.int .i64 at_] w fun e w'=>e=.returned (tkV (dZ next rule kind (sb s) at_))/\Below w.heap.size w w':=by
 unfold lV tkV;have hF:=EY hok;obtain⟨W0,hW0⟩:=afC (((w.alloc (.cells #[.slice an next.length cn,.slice ar rule.length cr,.slice ak kind.length ck,.int .i64 kinds] 29)).alloc (.cells #[.int .i64 0,.int .i64 0,.int .i64 0,.int .i64 0,.int .i64 0] 42)));have hD:Nx w W0 next rule kind kinds an ar ak cn cr ck:=by
  refine⟨hW0▸ ((afI w.heap.size w).alloc afD _).alloc (by simp) _,hW0▸ (Bx.new _ _ _).alloc _,?_⟩;have:=Bx.new (w.alloc (.cells #[.slice an next.length cn,.slice ar rule.length cr,.slice ak kind.length ck,.int .i64 kinds] 29)) 42 #[.int .i64 0,.int .i64 0,.int .i64 0,.int .i64 0,.int .i64 0];rw[World.size_alloc]at this;exact hW0▸ this
 have hT:W0.heap.size=w.heap.size+1+1:=by rw[hW0];simp
 go_enter Tryz.func48,Tryz.ntmps48
 go_wp2_with fail
 rw[<-hW0];have hX:=Bx.new W0 42 #[.int .i64 (-2),.int .i64 at_,.int .i64 s.size,.int .i64 s.size,.int .i64 0];rw[hT]at hX;have hD:=hD.below (((afI _ W0).alloc afD (.cells #[.int .i64 (-2),.int .i64 at_,.int .i64 s.size,.int .i64 s.size,.int .i64 0] 42)).mono (by omega));generalize W0.alloc (.cells #[.int .i64 (-2),.int .i64 at_,.int .i64 s.size,.int .i64 s.size,.int .i64 0] 42)=W1 at *;clear hT hW0;go_loopw [2] (fun u wr=>∃(i e:Nat),u=.int .i64 i/\at_<=i/\i<=s.size/\e<=s.size+1/\Nx w wr next rule kind kinds an ar ak cn cr ck/\Bx wr (w.heap.size+1+1) 42 #[.int .i64 (-2),.int .i64 at_,.int .i64 s.size,.int .i64 s.size,.int .i64 e]/\Hid (tokF next rule kind (sb s) at_ (s.size-i) i e=dZ next rule kind (sb s) at_)) (fun u _=>s.size-(RowKit.intOf u).toNat)
 case atStart=>exact⟨at_,0,rfl,agq _,hi,by omega,hD,hX,Lib.hid (by unfold dZ;rw[dS])⟩
 case round =>
  obtain⟨i,e,rfl,hai,his,he,hS,hT,hm⟩:=hrel;rcases Nat.lt_or_eq_of_le his with hlt|rfl
  ·obtain⟨f,hf⟩:∃f,s.size-i=f+1:=⟨s.size-i-1,by omega⟩
   have hil:i<(sb s).length:=(by rw[dS];exact hlt);have hx:=zB hF (zH s) hil;have hm:=hm.out;rw[hf,wG f i e at_ hil]at hm;have h40:=SH (cn:=cn) (cr:=cr) (hN.below hS.b afD) (hR.below hS.b afD) (XA hok) s i hlt hs;have hff:f=s.size-(i+1):=(by omega);clear hil hf;unfold dV lxV at h40;rw[dS]at hx;generalize iC next rule (sb s) i=x at *
   obtain⟨r,tzo,ex⟩:=x;simp only at hx hm h40;obtain⟨hx1,hx2,hx3,hx4,hx5,hx6,hx7⟩:=hx;have d0:wr.cell? ⟨w.heap.size,0,none⟩=some (.slice an next.length cn):=hS.d.cell 0;have d1:wr.cell? ⟨w.heap.size,1,none⟩=some (.slice ar rule.length cr):=hS.d.cell 1;have hto:(0:Int)<=(tzo:Int):=(by omega);obtain⟨m,hme⟩:=afC (max e ex);have hmx:max (e:Int) (ex:Int)=(m:Int):=(by omega);obtain⟨m2,abY⟩:=afC (max m (tzo+1));have afn:max (m:Int) ((tzo:Int)+1)=(m2:Int):=(by omega);rw[<-hme,<-abY]at hm;have hml:m<=s.size+1:=(by omega);clear hme abY
   by_cases hr:r<0
   ·rw[afR (.inl hr),afR hr]at hm
    have HM:=Lib.hid hm.symm;clear hm;go_wp2_with (first
     | (go_at_call 87;(with_reducible refine h40.mono ?_);rintro e1 W2 ⟨rfl,hb2⟩;have hS2:=hS.below (hb2.mono (by have:=hT.lt;omega));have hT2:=hT.below hb2 hT.lt;have hX0:=Bx.new W2 159 #[.int .i64 0,.int .i64 0,.int .i64 0,.int .i64 0];have hTl:=hT2.lt;have hS2:=hS2.below (((afI _ W2).alloc afD (.cells #[.int .i64 0,.int .i64 0,.int .i64 0,.int .i64 0] 159)).mono (by omega));have hT2:=hT2.alloc (.cells #[.int .i64 0,.int .i64 0,.int .i64 0,.int .i64 0] 159))
     | ((with_reducible refine bK ?_);refine AX.aj (vs:=[.int .i64 r,.int .i64 i,.int .i64 tzo,.int .i64 ex]) rfl rfl J7 hX0 rfl rfl ?_;rintro W3 h3 h4 h5;have hX:Bx W3 W2.heap.size 159 #[.int .i64 r,.int .i64 i,.int .i64 tzo,.int .i64 ex]:=h3;have hS3:=hS2.below (AX.ah (by have:=hT2.lt;omega) (.inl hX.lt) h4 h5);have hT3:Bx W3 (w.heap.size+1+1) 42 _:=hT2.below (AX.ah (n:=w.heap.size+1+1+1) (by have:=hT2.lt;omega) (.inl hX.lt) h4 h5) (by omega);obtain⟨x0,x1,x2,x3⟩:=Bx.four hX;obtain⟨t0,t1,t2,t3,t4⟩:=Bx.five hT3;clear h3 h4 h5 hX0))
    have fr:=hT3.frozen;go_region
    have hT4:=hT3.abZ (.int .i64 (-1)) (.int .i64 i) (.int .i64 tzo);have hX4:=hX.XB (T:=w.heap.size+1+1) (by omega) (.int .i64 (-1)) (.int .i64 i) (.int .i64 tzo);have hS4:=hS3.below (Ai (afI _ W3) afD (.int .i64 (-1)) (.int .i64 i) (.int .i64 tzo));clear hT3 hX hS3 fr t0 t1 t2 t3 t4 x0 x1 x2 x3;generalize (((W3.setCell ⟨w.heap.size+1+1,0,none⟩ (.int .i64 (-1))).setCell ⟨w.heap.size+1+1,2,none⟩ (.int .i64 i)).setCell ⟨w.heap.size+1+1,3,none⟩ (.int .i64 tzo)).drew=W4 at *;obtain⟨x0,x1,x2,x3⟩:=Bx.four hX4;obtain⟨t0,t1,t2,t3,t4⟩:=Bx.five hT4;go_wp2_with (first
     | ((with_reducible refine bK ?_);refine AX.aB (o:=4) (v:=.int .i64 m) rfl rfl rfl sz3 hT4 (show 4<5 by decide) ?_;rintro W5 h3 h4 h5;have hT5:Bx W5 (w.heap.size+1+1) 42 #[.int .i64 (-1),.int .i64 at_,.int .i64 i,.int .i64 tzo,.int .i64 m]:=h3;have hS5:=hS4.below (AX.ah afD (.inl hT5.lt) h4 h5);obtain⟨t0,t1,t2,t3,t4⟩:=Bx.five hT5;clear h3 h4 h5 hT4)
     | ((with_reducible refine bK ?_);refine AX.aB (o:=4) (v:=.int .i64 m2) rfl rfl rfl sz3 hT5 (show 4<5 by decide) ?_;rintro W6 h3 h4 h5;have hT6:Bx W6 (w.heap.size+1+1) 42 #[.int .i64 (-1),.int .i64 at_,.int .i64 i,.int .i64 tzo,.int .i64 m2]:=h3;have hS6:=hS5.below (AX.ah afD (.inl hT6.lt) h4 h5);obtain⟨t0,t1,t2,t3,t4⟩:=Bx.five hT6;clear h3 h4 h5 hT5)
     | ((with_reducible refine bK ?_);refine AX.aj (vs:=[.int .i64 (-1),.int .i64 at_,.int .i64 i,.int .i64 tzo,.int .i64 m2]) rfl rfl mY hS6.z rfl rfl ?_;rintro W7 h3 h4 h5;have hR7:Bx W7 (w.heap.size+1) 42 #[.int .i64 (-1),.int .i64 at_,.int .i64 i,.int .i64 tzo,.int .i64 m2]:=h3;have hb7:=hS6.b.trans (AX.ah (ahS _) (.inl hR7.lt) h4 h5);obtain⟨z0,z1,z2,z3,z4⟩:=Bx.five hR7;clear h3 h4 h5))
    exact afJ (v:=.agg #[.int .i64 (-1),.int .i64 at_,.int .i64 i,.int .i64 tzo,.int .i64 m2]) (by simp[results,Tryz.results48,go_sem,z0,z1,z2,z3,z4]) rfl ⟨by first|(rw[HM.out];done)|(rw[HM.out];rfl),hb7⟩
   ·rw[afO hr]at hm
    obtain⟨y,rfl⟩:∃y:Nat,r=y:=⟨r.toNat,by omega⟩;rw[afY]at hm;have hyl:y<kind.length:=(by omega);obtain⟨bk,ok,rfl,hbk,hck⟩:=hK.get hyl;have SI:=hF.bk _ (getD_mem hyl);obtain⟨k,hk⟩:=afC (kind.getD y 0);rw[<-hk]at hck SI hm;clear hk;have hy0:(0:Int)<=(y:Int):=by omega
    by_cases hk0:0<=k
    ·rw[afR (.inr hk0)]at hm
     have HM:=Lib.hid hm.symm;clear hm;go_wp2_with (first
      | (go_at_call 87;(with_reducible refine h40.mono ?_);rintro e1 W2 ⟨rfl,hb2⟩;have hS2:=hS.below (hb2.mono (by have:=hT.lt;omega));have hT2:=hT.below hb2 hT.lt;have hX0:=Bx.new W2 159 #[.int .i64 0,.int .i64 0,.int .i64 0,.int .i64 0];have hTl:=hT2.lt;have hS2:=hS2.below (((afI _ W2).alloc afD (.cells #[.int .i64 0,.int .i64 0,.int .i64 0,.int .i64 0] 159)).mono (by omega));have hT2:=hT2.alloc (.cells #[.int .i64 0,.int .i64 0,.int .i64 0,.int .i64 0] 159))
      | ((with_reducible refine bK ?_);refine AX.aj (vs:=[.int .i64 y,.int .i64 i,.int .i64 tzo,.int .i64 ex]) rfl rfl J7 hX0 rfl rfl ?_;rintro W3 h3 h4 h5;have hX:Bx W3 W2.heap.size 159 #[.int .i64 y,.int .i64 i,.int .i64 tzo,.int .i64 ex]:=h3;have hS3:=hS2.below (AX.ah (by have:=hT2.lt;omega) (.inl hX.lt) h4 h5);have hT3:Bx W3 (w.heap.size+1+1) 42 _:=hT2.below (AX.ah (n:=w.heap.size+1+1+1) (by have:=hT2.lt;omega) (.inl hX.lt) h4 h5) (by omega);obtain⟨x0,x1,x2,x3⟩:=Bx.four hX;obtain⟨t0,t1,t2,t3,t4⟩:=Bx.five hT3;clear h3 h4 h5 hX0;have c1:W3.cell? ⟨w.heap.size,2,none⟩=some (.slice (some ⟨bk,ok,none⟩) kind.length ck):=hS3.d.cell 2;have c2:W3.cell? ⟨bk,ok+y,none⟩=some (.int .i64 k):=(hS3.b.cell (p:=⟨bk,ok+y,none⟩) hbk).trans hck))
     have fr:=hT3.frozen;go_region
     have hT4:=hT3.abZ (.int .i64 k) (.int .i64 i) (.int .i64 tzo);have hX4:=hX.XB (T:=w.heap.size+1+1) (by omega) (.int .i64 k) (.int .i64 i) (.int .i64 tzo);have hS4:=hS3.below (Ai (afI _ W3) afD (.int .i64 k) (.int .i64 i) (.int .i64 tzo));clear hT3 hX hS3 fr t0 t1 t2 t3 t4 x0 x1 x2 x3;generalize (((W3.setCell ⟨w.heap.size+1+1,0,none⟩ (.int .i64 k)).setCell ⟨w.heap.size+1+1,2,none⟩ (.int .i64 i)).setCell ⟨w.heap.size+1+1,3,none⟩ (.int .i64 tzo)).drew=W4 at *;obtain⟨x0,x1,x2,x3⟩:=Bx.four hX4;obtain⟨t0,t1,t2,t3,t4⟩:=Bx.five hT4;go_wp2_with (first
      | ((with_reducible refine bK ?_);refine AX.aB (o:=4) (v:=.int .i64 m) rfl rfl rfl sz3 hT4 (show 4<5 by decide) ?_;rintro W5 h3 h4 h5;have hT5:Bx W5 (w.heap.size+1+1) 42 #[.int .i64 k,.int .i64 at_,.int .i64 i,.int .i64 tzo,.int .i64 m]:=h3;have hS5:=hS4.below (AX.ah afD (.inl hT5.lt) h4 h5);obtain⟨t0,t1,t2,t3,t4⟩:=Bx.five hT5;clear h3 h4 h5 hT4)
      | ((with_reducible refine bK ?_);refine AX.aB (o:=4) (v:=.int .i64 m2) rfl rfl rfl sz3 hT5 (show 4<5 by decide) ?_;rintro W6 h3 h4 h5;have hT6:Bx W6 (w.heap.size+1+1) 42 #[.int .i64 k,.int .i64 at_,.int .i64 i,.int .i64 tzo,.int .i64 m2]:=h3;have hS6:=hS5.below (AX.ah afD (.inl hT6.lt) h4 h5);obtain⟨t0,t1,t2,t3,t4⟩:=Bx.five hT6;clear h3 h4 h5 hT5)
      | ((with_reducible refine bK ?_);refine AX.aj (vs:=[.int .i64 k,.int .i64 at_,.int .i64 i,.int .i64 tzo,.int .i64 m2]) rfl rfl mY hS6.z rfl rfl ?_;rintro W7 h3 h4 h5;have hR7:Bx W7 (w.heap.size+1) 42 #[.int .i64 k,.int .i64 at_,.int .i64 i,.int .i64 tzo,.int .i64 m2]:=h3;have hb7:=hS6.b.trans (AX.ah (ahS _) (.inl hR7.lt) h4 h5);obtain⟨z0,z1,z2,z3,z4⟩:=Bx.five hR7;clear h3 h4 h5))
     exact afJ (v:=.agg #[.int .i64 k,.int .i64 at_,.int .i64 i,.int .i64 tzo,.int .i64 m2]) (by simp[results,Tryz.results48,go_sem,z0,z1,z2,z3,z4]) rfl ⟨by first|(rw[HM.out];done)|(rw[HM.out];rfl),hb7⟩
    ·rw[afO (by omega)]at hm
     have HM:=Lib.hid hm;clear hm;go_wp2_with (first
      | (go_at_call 87;(with_reducible refine h40.mono ?_);rintro e1 W2 ⟨rfl,hb2⟩;have hS2:=hS.below (hb2.mono (by have:=hT.lt;omega));have hT2:=hT.below hb2 hT.lt;have hX0:=Bx.new W2 159 #[.int .i64 0,.int .i64 0,.int .i64 0,.int .i64 0];have hTl:=hT2.lt;have hS2:=hS2.below (((afI _ W2).alloc afD (.cells #[.int .i64 0,.int .i64 0,.int .i64 0,.int .i64 0] 159)).mono (by omega));have hT2:=hT2.alloc (.cells #[.int .i64 0,.int .i64 0,.int .i64 0,.int .i64 0] 159))
      | ((with_reducible refine bK ?_);refine AX.aj (vs:=[.int .i64 y,.int .i64 i,.int .i64 tzo,.int .i64 ex]) rfl rfl J7 hX0 rfl rfl ?_;rintro W3 h3 h4 h5;have hX:Bx W3 W2.heap.size 159 #[.int .i64 y,.int .i64 i,.int .i64 tzo,.int .i64 ex]:=h3;have hS3:=hS2.below (AX.ah (by have:=hT2.lt;omega) (.inl hX.lt) h4 h5);have hT3:Bx W3 (w.heap.size+1+1) 42 _:=hT2.below (AX.ah (n:=w.heap.size+1+1+1) (by have:=hT2.lt;omega) (.inl hX.lt) h4 h5) (by omega);obtain⟨x0,x1,x2,x3⟩:=Bx.four hX;obtain⟨t0,t1,t2,t3,t4⟩:=Bx.five hT3;clear h3 h4 h5 hX0;have c1:W3.cell? ⟨w.heap.size,2,none⟩=some (.slice (some ⟨bk,ok,none⟩) kind.length ck):=hS3.d.cell 2;have c2:W3.cell? ⟨bk,ok+y,none⟩=some (.int .i64 k):=(hS3.b.cell (p:=⟨bk,ok+y,none⟩) hbk).trans hck)
      | ((with_reducible refine bK ?_);refine AX.aB (o:=4) (v:=.int .i64 m) rfl rfl rfl sz3 hT3 (show 4<5 by decide) ?_;rintro W5 h3 h4 h5;have hT5:Bx W5 (w.heap.size+1+1) 42 #[.int .i64 (-2),.int .i64 at_,.int .i64 s.size,.int .i64 s.size,.int .i64 m]:=h3;have hS5:=hS3.below (AX.ah afD (.inl hT5.lt) h4 h5);have x2:W5.cell? ⟨W2.heap.size,2,none⟩=some (.int .i64 tzo):=cell_of_row _ _ 2 _ _ _ ((h4 _ (by omega)).trans hX);obtain⟨t0,t1,t2,t3,t4⟩:=Bx.five hT5;clear h3 h4 h5 hT3))
     go_roundw
     case rel=>exact⟨tzo,m,rfl,by omega,hx5,hml,hS5,hT5,Lib.hid (by rw[<-HM.out];exact DF hF (zH s) at_ _ _ _ _ (by rw[dS];omega) (by rw[dS];omega) (by rw[dS];omega))⟩
     case measure=>simp[RowKit.intOf];omega
  ·have h40:=Ov (next:=next) (rule:=rule) (an:=an) (ar:=ar) (cn:=cn) (cr:=cr) (w:=wr) s s.size rfl hs
   unfold dV lxV at h40;have d0:wr.cell? ⟨w.heap.size,0,none⟩=some (.slice an next.length cn):=hS.d.cell 0;have d1:wr.cell? ⟨w.heap.size,1,none⟩=some (.slice ar rule.length cr):=hS.d.cell 1;have hm:=hm.out;rw[aho,tokF,dS]at hm;have HM:=Lib.hid hm.symm;clear hm;go_wp2_with (first
    | (go_at_call 87;(with_reducible refine h40.mono ?_);rintro e1 W2 ⟨rfl,hb2⟩;have hS2:=hS.below (hb2.mono (by have:=hT.lt;omega));have hT2:=hT.below hb2 hT.lt;have hX0:=Bx.new W2 159 #[.int .i64 0,.int .i64 0,.int .i64 0,.int .i64 0];have hTl:=hT2.lt;have hS2:=hS2.below (((afI _ W2).alloc afD (.cells #[.int .i64 0,.int .i64 0,.int .i64 0,.int .i64 0] 159)).mono (by omega));have hT2:=hT2.alloc (.cells #[.int .i64 0,.int .i64 0,.int .i64 0,.int .i64 0] 159))
    | ((with_reducible refine bK ?_);refine AX.aj (vs:=[.int .i64 0,.int .i64 0,.int .i64 0,.int .i64 0]) rfl rfl J7 hX0 rfl rfl ?_;rintro W3 h3 h4 h5;have hX:Bx W3 W2.heap.size 159 #[.int .i64 0,.int .i64 0,.int .i64 0,.int .i64 0]:=h3;have hS3:=hS2.below (AX.ah (by have:=hT2.lt;omega) (.inl hX.lt) h4 h5);have hT3:Bx W3 (w.heap.size+1+1) 42 _:=hT2.below (AX.ah (n:=w.heap.size+1+1+1) (by have:=hT2.lt;omega) (.inl hX.lt) h4 h5) (by omega);obtain⟨x0,x1,x2,x3⟩:=Bx.four hX;obtain⟨t0,t1,t2,t3,t4⟩:=Bx.five hT3;clear h3 h4 h5 hX0)
    | ((with_reducible refine bK ?_);refine AX.aB (o:=4) (v:=.int .i64 (s.size+1)) rfl rfl rfl sz3 hT3 (show 4<5 by decide) ?_;rintro W4 h3 h4 h5;have hT4:Bx W4 (w.heap.size+1+1) 42 #[.int .i64 (-2),.int .i64 at_,.int .i64 s.size,.int .i64 s.size,.int .i64 (s.size+1)]:=h3;have hS4:=hS3.below (AX.ah afD (.inl hT4.lt) h4 h5);obtain⟨t0,t1,t2,t3,t4⟩:=Bx.five hT4;clear h3 h4 h5 hT3)
    | ((with_reducible refine bK ?_);refine AX.aj (vs:=[.int .i64 (-2),.int .i64 at_,.int .i64 s.size,.int .i64 s.size,.int .i64 (s.size+1)]) rfl rfl mY hS4.z rfl rfl ?_;rintro W5 h3 h4 h5;have hR5:Bx W5 (w.heap.size+1) 42 #[.int .i64 (-2),.int .i64 at_,.int .i64 s.size,.int .i64 s.size,.int .i64 (s.size+1)]:=h3;have hb5:=hS4.b.trans (AX.ah (ahS _) (.inl hR5.lt) h4 h5);obtain⟨z0,z1,z2,z3,z4⟩:=Bx.five hR5;clear h3 h4 h5))
   exact afJ (v:=.agg #[.int .i64 (-2),.int .i64 at_,.int .i64 s.size,.int .i64 s.size,.int .i64 (s.size+1)]) (by simp[results,Tryz.results48,go_sem,z0,z1,z2,z3,z4]) rfl ⟨by first|(rw[HM.out];done)|(rw[HM.out];rfl),hb5⟩
end
section
variable {next rule kind : List Int} {kinds : Int} {an ar ak : Option Addr} {cn cr ck : Nat} {w : World}
def QH(next rule kind:List Int)(kinds:Int)(s:ByteArray)(at_:Int):Value:=if okL next rule kind kinds=true/\0<=at_/\at_<=s.size then .tuple #[tkV (dZ next rule kind (sb s) at_.toNat),.int .i64 0]else .tuple #[.agg #[.int .i64 0,.int .i64 0,.int .i64 0,.int .i64 0,.int .i64 0],.int .i64 2]
theorem YD(hn:next.length<=1000000)(hr:rule.length<=1000000)(hk:kind.length<=1000000)(hN:aH w an next)(hR:aH w ar rule)(hK:aH w ak kind)(s:ByteArray)(at_:Int)(hs:s.size<=1000000):
  Calls Tryz.prog 20 #[lV an ar ak next.length rule.length kind.length cn cr ck kinds,.string s,.int .i64 at_] w fun e w'=>e=.returned (QH next rule kind kinds s at_)/\Below w.heap.size w w':=by
 have hmy:=fun W (hb:Below w.heap.size w W)=>XC (cn:=cn) (cr:=cr) (ck:=ck) (kinds:=kinds) hn hr hk (hN.below hb afD) (hR.below hb afD) (hK.below hb afD) s at_ hs;have hnx:=fun(ho:okL next rule kind kinds=true/\0<=at_/\at_<=s.size) W (hb:Below w.heap.size w W)=>SG (cn:=cn) (cr:=cr) (ck:=ck) (hN.below hb afD) (hR.below hb afD) (hK.below hb afD) ho.1 s at_.toNat (by omega) hs;obtain⟨W0,hW0⟩:=afC (((w.alloc (.cells #[.slice an next.length cn,.slice ar rule.length cr,.slice ak kind.length ck,.int .i64 kinds] 29)).alloc (.cells #[.int .i64 0,.int .i64 0,.int .i64 0,.int .i64 0,.int .i64 0] 42)));have hD:Nx w W0 next rule kind kinds an ar ak cn cr ck:=by
  refine⟨hW0▸ ((afI w.heap.size w).alloc afD _).alloc (by simp) _,hW0▸ (Bx.new _ _ _).alloc _,?_⟩;have:=Bx.new (w.alloc (.cells #[.slice an next.length cn,.slice ar rule.length cr,.slice ak kind.length ck,.int .i64 kinds] 29)) 42 #[.int .i64 0,.int .i64 0,.int .i64 0,.int .i64 0,.int .i64 0];rw[World.size_alloc]at this;exact hW0▸ this
 have hT:W0.heap.size=w.heap.size+1+1:=by rw[hW0];simp
 unfold lV tkV at *;unfold SK at hmy;unfold QH tkV;clear hN hR hK
 by_cases ho:okL next rule kind kinds=true/\0<=at_/\at_<=s.size
 ·simp only[afR ho]at hmy⊢
  have hnx:=hnx ho;obtain⟨a,rfl⟩:∃a:Nat,at_=a:=⟨at_.toNat,by omega⟩;rw[afY]at hnx⊢;clear ho;generalize dZ next rule kind (sb s) a=t at *
  have h22:=hmy W0 hD.b;clear hmy;go_enter Tryz.func20,Tryz.ntmps20
  go_wp2_with fail
  rw[<-hW0];clear hW0;go_wp2_with (first
   | (go_at_call 47;((with_reducible refine h22.mono ?_);rintro e W1 ⟨rfl,hb1⟩;have hS1:=hD.below (hb1.mono (by omega));have d0:W1.cell? ⟨w.heap.size,0,none⟩=some (.slice an next.length cn):=hS1.d.cell 0;have d1:W1.cell? ⟨w.heap.size,1,none⟩=some (.slice ar rule.length cr):=hS1.d.cell 1;have d2:W1.cell? ⟨w.heap.size,2,none⟩=some (.slice ak kind.length ck):=hS1.d.cell 2;have d3:W1.cell? ⟨w.heap.size,3,none⟩=some (.int .i64 kinds):=hS1.d.cell 3))
   | (go_at_call 48;((with_reducible refine(hnx W1 hS1.b).mono ?_);rintro e W2 ⟨rfl,hb2⟩;have hS2:=hS1.below (hb2.mono (by have:=hb1.size;omega))))
   | ((with_reducible refine bK ?_);refine AX.aj (vs:=[.int .i64 t.k,.int .i64 t.f,.int .i64 t.a,.int .i64 t.t,.int .i64 t.e]) rfl rfl mY hS2.z rfl rfl ?_;rintro W3 h3 h4 h5;have hR3:Bx W3 (w.heap.size+1) 42 #[.int .i64 t.k,.int .i64 t.f,.int .i64 t.a,.int .i64 t.t,.int .i64 t.e]:=h3;have hb3:=hS2.b.trans (AX.ah (ahS _) (.inl hR3.lt) h4 h5);obtain⟨z0,z1,z2,z3,z4⟩:=Bx.five hR3;clear h3 h4 h5))
  exact afJ (v:=.tuple #[.agg #[.int .i64 t.k,.int .i64 t.f,.int .i64 t.a,.int .i64 t.t,.int .i64 t.e],.int .i64 0]) (by simp[results,Tryz.results20,go_sem,z0,z1,z2,z3,z4]) rfl ⟨rfl,hb3⟩
 ·simp only[afO ho]at hmy⊢
  clear ho hnx;have h22:=hmy W0 hD.b;clear hmy;go_enter Tryz.func20,Tryz.ntmps20
  go_wp2_with fail
  rw[<-hW0];clear hW0;go_wp2_with (first
   | (go_at_call 47;((with_reducible refine h22.mono ?_);rintro e W1 ⟨rfl,hb1⟩;have hS1:=hD.below (hb1.mono (by omega));have d0:W1.cell? ⟨w.heap.size,0,none⟩=some (.slice an next.length cn):=hS1.d.cell 0;have d1:W1.cell? ⟨w.heap.size,1,none⟩=some (.slice ar rule.length cr):=hS1.d.cell 1;have d2:W1.cell? ⟨w.heap.size,2,none⟩=some (.slice ak kind.length ck):=hS1.d.cell 2;have d3:W1.cell? ⟨w.heap.size,3,none⟩=some (.int .i64 kinds):=hS1.d.cell 3))
   | ((with_reducible refine bK ?_);refine AX.aj (vs:=[.int .i64 0,.int .i64 0,.int .i64 0,.int .i64 0,.int .i64 0]) rfl rfl mY hS1.z rfl rfl ?_;rintro W3 h3 h4 h5;have hR3:Bx W3 (w.heap.size+1) 42 #[.int .i64 0,.int .i64 0,.int .i64 0,.int .i64 0,.int .i64 0]:=h3;have hb3:=hS1.b.trans (AX.ah (ahS _) (.inl hR3.lt) h4 h5);obtain⟨z0,z1,z2,z3,z4⟩:=Bx.five hR3;clear h3 h4 h5))
  exact afJ (v:=.tuple #[.agg #[.int .i64 0,.int .i64 0,.int .i64 0,.int .i64 0,.int .i64 0],.int .i64 2]) (by simp[results,Tryz.results20,go_sem,z0,z1,z2,z3,z4]) rfl ⟨rfl,hb3⟩
end
def kR(t:Tk):List Value:=[.int .i64 t.k,.int .i64 t.f,.int .i64 t.a,.int .i64 t.t,.int .i64 t.e]
theorem Ie(t:Tk):(kR t).length=5:=rfl
theorem qZ(B o j:Nat):(⟨B,o,none⟩:Addr).add j=⟨B,o+j,none⟩:=by unfold Addr.add;split<;>simp_all
theorem info30:(Tryz.prog.info? 42).map (fun i=>(i.zero,i.size,i.bytes))=some (some (.agg #[.int .i64 0,.int .i64 0,.int .i64 0,.int .i64 0,.int .i64 0]),5,40):=by kernel_rfl
theorem Ox(l:List Tk)(y:Tk):(l++[y]).flatMap kR=l.flatMap kR++kR y:=by simp
theorem SL(x:Tk):∀v∈kR x,v.oneCell'=true:=by
 intro v hv;simp only[kR,afX,agx,ahd]at hv;rcases hv with rfl|rfl|rfl|rfl|rfl<;>rfl
section
variable {next rule kind : List Int} {kinds : Int} {an ar ak : Option Addr} {cn cr ck : Nat} {w : World}
def xJ(w:World)(base:Nat)(v:Value)(l:List Tk):Prop:=w.ownsRow base 42 5 v l.length (l.flatMap kR)
theorem J8(w:World)(x:Tk):∀j u,(kR x)[j]?=some u->(w.alloc (.cells #[.int .i64 x.k,.int .i64 x.f,.int .i64 x.a,.int .i64 x.t,.int .i64 x.e] 42)).cell? ((⟨w.heap.size,0,none⟩:Addr).add j)=some u:=by
 intro j u hj;rw[qZ,af9];simp only[kR]at hj
 match j,hj with
 | 0,hj=>simp at hj;subst hj;simp
 | 1,hj=>simp at hj;subst hj;simp
 | 2,hj=>simp at hj;subst hj;simp
 | 3,hj=>simp at hj;subst hj;simp
 | 4,hj=>simp at hj;subst hj;simp
 | j+5,hj=>simp at hj
theorem kE{w:World}{b b':Nat}{v:Value}{l:List Tk}(h:xJ w b v l)(hb:b'<=b):xJ w b' v l:=by
 refine⟨h.1,?_⟩;rcases h.2 with hn|⟨g,cap,cur,hv,hg,rest⟩
 ·exact .inl hn
 ·exact .inr ⟨g,cap,cur,hv,agb hb hg,rest⟩
end
section
variable {next rule kind : List Int} {kinds : Int} {an ar ak : Option Addr} {cn cr ck : Nat} {w : World}
structure Fc(w0:World)(L:Nat)(next rule kind:List Int)(kinds:Int)(an ar ak:Option Addr)(cn cr ck:Nat)(s:ByteArray)(i:Int)(W:World):Prop where
 b:Below w0.heap.size w0 W
 l:Bx W L 29 #[.slice an next.length cn,.slice ar rule.length cr,.slice ak kind.length ck,.int .i64 kinds]
 t:Bx W (L+1) 9 #[.string s]
 a:Bx W (L+2) 3 #[.int .i64 i]
def Fb(n0 L:Nat)(k:Nat):Prop:=k<n0\/(L<=k/\k<=L+2)
theorem Fc.keep{w0:World}{L H:Nat}{s:ByteArray}{i:Int}{X Y:World}(h:Fc w0 L next rule kind kinds an ar ak cn cr ck s i X)(hk:AX.Keep (Fb w0.heap.size L) H X Y):Fc w0 L next rule kind kinds an ar ak cn cr ck s i Y:=by
 have hb:∀k,k<w0.heap.size->Y.heap[k]?=X.heap[k]?:=fun k hk0=>by
  have hlt:k<X.heap.size:=afN hk0 h.b.size;rw[hk.same k X.heap[k] (agD hlt) (.inl (.inl hk0)),agD hlt]
 exact⟨⟨hk.low.os.trans h.b.os,hk.low.tape.trans h.b.tape,hk.low.output.trans h.b.output,agb h.b.size hk.low.size,fun k hk0=>(hb k hk0).trans (h.b.block k hk0)⟩,
  hk.same _ _ h.l (.inl (.inr ⟨agq _,by omega⟩)),hk.same _ _ h.t (.inl (.inr ⟨by omega,by omega⟩)),hk.same _ _ h.a (.inl (.inr ⟨by omega,agq _⟩))⟩
theorem Fc.below{w0:World}{L:Nat}{s:ByteArray}{i:Int}{X Y:World}(h:Fc w0 L next rule kind kinds an ar ak cn cr ck s i X)(hk:Below X.heap.size X Y):Fc w0 L next rule kind kinds an ar ak cn cr ck s i Y:=h.keep (H:=0) (AX.Keep.of_below hk)
theorem Zj(s:ByteArray)(i:Int)(w:World):
  Calls Tryz.prog 41 #[lV an ar ak next.length rule.length kind.length cn cr ck kinds,.string s,.int .i64 i] w fun e w'=>e=.returned (.func (.func 78) #[] #[.pointer (some ⟨w.heap.size,0,none⟩),.pointer (some ⟨w.heap.size+1,0,none⟩),.pointer (some ⟨w.heap.size+2,0,none⟩)]) /\
   Below w.heap.size w w'/\w'.heap.size=w.heap.size+3/\Fc w w.heap.size next rule kind kinds an ar ak cn cr ck s i w':=by
 unfold lV;have b1:=Bx.new w 29 #[.slice an next.length cn,.slice ar rule.length cr,.slice ak kind.length ck,.int .i64 kinds];have b2:=Bx.new (w.alloc (.cells #[.slice an next.length cn,.slice ar rule.length cr,.slice ak kind.length ck,.int .i64 kinds] 29)) 9 #[.string s];have b3:=Bx.new ((w.alloc (.cells #[.slice an next.length cn,.slice ar rule.length cr,.slice ak kind.length ck,.int .i64 kinds] 29)).alloc (.cells #[.string s] 9)) 3 #[.int .i64 i];have hB:Below w.heap.size w (((w.alloc (.cells #[.slice an next.length cn,.slice ar rule.length cr,.slice ak kind.length ck,.int .i64 kinds] 29)).alloc (.cells #[.string s] 9)).alloc (.cells #[.int .i64 i] 3)):=(((afI _ w).alloc afD _).alloc (by simp) _).alloc (by simp;omega) _;have hz:(((w.alloc (.cells #[.slice an next.length cn,.slice ar rule.length cr,.slice ak kind.length ck,.int .i64 kinds] 29)).alloc (.cells #[.string s] 9)).alloc (.cells #[.int .i64 i] 3)).heap.size=w.heap.size+3:=by simp
 have b1:=(b1.alloc (.cells #[.string s] 9)).alloc (.cells #[.int .i64 i] 3);have b2:=b2.alloc (.cells #[.int .i64 i] 3);rw[World.size_alloc]at b2;rw[World.size_alloc,World.size_alloc]at b3;go_enter Tryz.func41,Tryz.ntmps41
 go_wp2_with fail
 go_ret
 exact⟨rfl,hB,hz,⟨hB,b1,b2,b3⟩⟩
def EZ(w:World)(A n:Nat):Nat:=match w.cell? ⟨A,0,none⟩with
 | some (.int _ q)=>n+1-q.toNat
 | _=>0
theorem Aj{w:World}{A n:Nat}{i:Int}(h:Bx w A 3 #[.int .i64 i]):EZ w A n=n+1-i.toNat:=by
 unfold EZ;rw[show w.cell? ⟨A,0,none⟩=some (.int .i64 i)from h.cell 0]
theorem uh(n:Nat)(hn1:1<=n){w0:World}{L:Nat}(hL:w0.heap.size<=L)(hn:next.length<=1000000)(hr:rule.length<=1000000)(hk:kind.length<=1000000)(hN:aH w0 an next)(hR:aH w0 ar rule)(hK:aH w0 ak kind)(s:ByteArray)(hs:s.size<=1000)
  (hok:okL next rule kind kinds=true) (i0:Nat) (hi0:i0<=s.size) (l:Nat) (J:Nat->List Tk->World->Prop) (Jx:List Tk->World->Prop) (hJ:∀H q X Y,J H q X->AX.But (L+2) X Y->J H q Y) (hJm:∀H H' q X,J H q X->H<=H'->J H' q X)
  (hY:∀(pre:List Tk)(x:Tk)(H:Nat)(W:World),J H pre W->H<=W.heap.size->(∃rest,jc next rule kind (sb s) i0=pre++x::rest)->YieldAt Fence.wide (n-1) Tryz.prog l #[tkV x] W fun e W' =>
   (e=.returned (.bool true)/\J W'.heap.size (pre++[x]) W'/\AX.Keep (Fb w0.heap.size L) H W W')\/(e=.returned (.bool false)/\Jx (pre++[x]) W'))
  (W:World) (hS:Fc w0 L next rule kind kinds an ar ak cn cr ck s i0 W) (h0:J W.heap.size [] W):
  CallsIn Fence.wide n Tryz.prog 78 #[.func (.yield l) #[] #[],.pointer (some ⟨L,0,none⟩),.pointer (some ⟨L+1,0,none⟩),.pointer (some ⟨L+2,0,none⟩)] W fun e W'=>(∃v,e=.returned v) /\
   ((∃H xs,xs=jc next rule kind (sb s) i0/\J H xs W')\/(∃pre,(∃rest,jc next rule kind (sb s) i0=pre++rest)/\Jx pre W')):=by
 have hF:=EY hok;have hmy:=fun W (hb:Below w0.heap.size w0 W)=>XC (cn:=cn) (cr:=cr) (ck:=ck) (kinds:=kinds) hn hr hk (hN.below hb afD) (hR.below hb afD) (hK.below hb afD) s (i0:Int) (by omega);have hnx:=fun(a:Nat)(ha:a<=s.size) W (hb:Below w0.heap.size w0 W)=>SG (cn:=cn) (cr:=cr) (ck:=ck) (hN.below hb afD) (hR.below hb afD) (hK.below hb afD) hok s a ha (by omega);have hm0:SK next rule kind kinds s (i0:Int)=0:=by unfold SK;rw[afR ⟨hok,by omega,by omega⟩]
 rw[hm0]at hmy;have h22:=(callsIn_wide (n:=n-1)).2 (hmy W hS.b);have hbt:=fun(i:Nat)(h:i<=s.size)=>vN hF (zH s) (i:=i) (by rw[dS];exact h);have hln:=fun(i:Nat)(h:i<=s.size)=>Ak hF (zH s) _ i afD (by rw[dS];exact h);have hre:=fun(i:Nat)(h:i<=s.size)=>sU hF (zH s) (i:=i) (by rw[dS];exact h);simp only[dS]at hbt hln;unfold lV tkV at *;clear hm0 hN hR hK hmy;have c1:=hS.l.cell 0;have c2:=hS.l.cell 1;have c3:=hS.l.cell 2;have c4:=hS.l.cell 3;have c5:=hS.t.cell 0;have c6:=hS.a.cell 0;refine callsIn_of_wp Tryz.func78 rfl trivial ?_ rfl;simp only[Tryz.ntmps78,ahG,agl,ahJ,Nat.reduceAdd,Nat.reduceSub,ahA,ahB,ahU,ahK,ahq,ahs];have afo:Fence.wide.fn 47:=trivial;have afp:Fence.wide.fn 48:=trivial;have HM:=Lib.hid (show ([]:List Tk)++jc next rule kind (sb s) i0=jc next rule kind (sb s) i0 from rfl);gi_wp2_with (gi_at_call 47;((with_reducible refine h22.mono ?_);rintro e W1 ⟨rfl,hb1⟩;have hS1:=hS.below hb1;have hJ1:=hJm _ _ _ _ (hJ _ _ _ _ h0 (AX.But.of_below hb1)) hb1.size;clear h0 hS c1 c2 c3 c4 c5 c6))
 gi_loopw [] (fun wr=>∃(pre:List Tk)(i:Nat),i<=s.size/\Hid (pre++jc next rule kind (sb s) i=jc next rule kind (sb s) i0)/\Fc w0 L next rule kind kinds an ar ak cn cr ck s i wr/\J wr.heap.size pre wr) (fun wr=>EZ wr (L+2) s.size)
 case atStart=>exact⟨[],i0,hi0,HM,hS1,hJ1⟩
 case round =>
  obtain⟨pre,i,hi,HE,hSr,hJr⟩:=hrel;have c1:=hSr.l.cell 0;have c2:=hSr.l.cell 1;have c3:=hSr.l.cell 2;have c4:=hSr.l.cell 3;have c5:=hSr.t.cell 0;have c6:=hSr.a.cell 0;rw[Aj hSr.a];clear hS1 hJ1 HM h22;have h23:=(callsIn_wide (n:=n-1)).2 (hnx i hi wr hSr.b);have VW:=hre i hi;have hbi:=hbt i hi;obtain⟨t,ht⟩:=afC (dZ next rule kind (sb s) i)
  rw[<-ht]at h23 VW hbi;have HLEN:Hid (∃rest,jc next rule kind (sb s) i0=pre++t::rest):=Lib.hid (by rw[<-HE.out,VW];split<;>exact⟨_,rfl⟩);have HRE:=Lib.hid VW;obtain⟨b1,b2,b3,b4,b5,b6,b7,b8⟩:=hbi;clear ht VW b1;gi_wp2_with (first
   | (gi_at_call 48;((with_reducible refine h23.mono ?_);rintro e W1 ⟨rfl,hb1⟩;have hT0:=Bx.new W1 42 #[.int .i64 0,.int .i64 0,.int .i64 0,.int .i64 0,.int .i64 0];have hB1:=hb1.alloc hb1.size (.cells #[.int .i64 0,.int .i64 0,.int .i64 0,.int .i64 0,.int .i64 0] 42);have hsz1:=hb1.size))
   | ((with_reducible refine ug ?_);refine AX.gq (vs:=[.int .i64 t.k,.int .i64 t.f,.int .i64 t.a,.int .i64 t.t,.int .i64 t.e]) rfl rfl mY hT0 rfl rfl ?_;rintro W3 h3 h4 h5;have hT3:Bx W3 W1.heap.size 42 #[.int .i64 t.k,.int .i64 t.f,.int .i64 t.a,.int .i64 t.t,.int .i64 t.e]:=h3;have hB3:=hB1.trans (AX.ah hsz1 (.inl hT3.lt) h4 h5);have hS3:=hSr.below hB3;have hJ3:=hJ _ _ _ _ hJr (AX.But.of_below hB3);obtain⟨x0,x1,x2,x3,x4⟩:=Bx.five hT3;obtain⟨fn,tmps,assign,body,hy,hR⟩:=hY pre t wr.heap.size W3 hJ3 hB3.size HLEN.out;clear h3 h4 h5 hT0 c1 c2 c3 c4 c5 c6))
  refine hR.mono ?_;rintro e W4 (⟨rfl,hJ4,hK4⟩|⟨rfl,aeb⟩)
  ·have hS4:=hS3.keep hK4
   have hT4:Bx W4 W1.heap.size 42 #[.int .i64 t.k,.int .i64 t.f,.int .i64 t.a,.int .i64 t.t,.int .i64 t.e]:=hK4.same _ _ hT3 (.inr ⟨hsz1,rfl⟩);clear hy hR x0 x1 x2 x3 x4;obtain⟨x0,x1,x2,x3,x4⟩:=Bx.five hT4
   by_cases hk:t.k = -2
   ·have q1:(t.k == -2)=true:=by rw[hk];rfl
    have hE:pre++[t]=jc next rule kind (sb s) i0:=(by rw[<-HE.out,HRE.out,afR hk])
    have HF:=Lib.hid hE;clear hE hk;gi_wp2
    refine afJ (results_none rfl _ _ _) rfl ?_;exact⟨⟨_,rfl⟩,.inl ⟨_,_,HF.out,hJ4⟩⟩
   ·have q1:(t.k == -2)=false:=by simp[hk]
    have hE:(pre++[t])++jc next rule kind (sb s) t.t=jc next rule kind (sb s) i0:=(by rw[<-HE.out,HRE.out,afO hk,agi];rfl)
    have h8:=b8 hk;have HF:=Lib.hid hE;clear hE hk;gi_wp2_with ((with_reducible refine ug ?_);refine AX.fJ (o:=0) (v:=.int .i64 t.t) rfl rfl rfl sz3 hS4.a (show 0<1 by decide) ?_;rintro W5 h3 h4 h5;have hA5:Bx W5 (L+2) 3 #[.int .i64 t.t]:=h3;have ab1:Below (L+2) W4 W5:=AX.ah afD (.inl hA5.lt) h4 h5;have lS:AX.But (L+2) W4 W5:=⟨ab1.mono (af0 _),fun k _ hne=>h4 k hne⟩;have hS5:Fc w0 L next rule kind kinds an ar ak cn cr ck s t.t W5:=⟨hS4.b.trans (ab1.mono (by omega)),hS4.l.turn (by omega) h4,hS4.t.turn (by omega) h4,hA5⟩;have hJ5:=hJm _ _ _ _ (hJ _ _ _ _ hJ4 lS) lS.low.size;clear h3 h4 h5)
    refine⟨⟨_,_,by omega,HF,hS5,hJ5⟩,?_⟩;rw[Aj hS5.a];simp only[afY];omega
  ·have hE:∃rest,jc next rule kind (sb s) i0=(pre++[t])++rest:=by
    rw[<-HE.out,HRE.out];split
    ·exact⟨[],by simp⟩
    ·exact⟨_,by rw[agi];rfl⟩
   have HF:=Lib.hid hE;clear hE hy hR;gi_wp2
   refine afJ (results_none rfl _ _ _) rfl ?_;exact⟨⟨_,rfl⟩,.inr ⟨_,HF.out,aeb⟩⟩
end
theorem J9{F:Fence}{n:Nat}{ops:Array Oper}{rest:List Oper}{o:Oper}{a:Act}{Q:Exit->Act->World->Prop}(W:World)(base:Nat)(v:Value)(pre:List Tk)(y:Tk)(hgd:o.guard=none)(s x:Operand)
  (ho:o.op=.call {callee:=.builtin .append,args:=#[s,x],argTypes:=#[38,38]}) (hs:a.eval s=v) (hown:xJ W base v pre) (ad:Addr) (hx:a.eval x=.slice (some ad) 1 1)
  (hc:∀j u,(kR y)[j]?=some u->W.cell? (ad.add j)=some u) (hl:pre.length<=1000000) (hb:base<=W.heap.size)
  (h:∀v' w',xJ w' base v' (pre++[y])->W.grownBy w' v.ownBlock->wpListIn F n Tryz.prog ops Q rest (a.put o.dst v') w'):wpListIn F n Tryz.prog ops Q (o::rest) a W:=by
 obtain⟨ti,hi,hz0,hz1,hz2⟩:=info_parts info30;refine wpListIn_append_own W hgd s x 38 ho base 42 ti (.agg #[.int .i64 0,.int .i64 0,.int .i64 0,.int .i64 0,.int .i64 0]) 5 40 Tryz.underlying38 hi hz0 hz1 hz2 rfl (by decide) v pre.length _ hs hown ad 1 1 (kR y) hx rfl hc (SL y) (by unfold maxLen;omega) (by omega) hb ?_;intro v' w' h1 h2 _;refine h v' w' ?_ h2;unfold xJ;rw[Ox,afP,ags];exact h1
def DK(H:Nat)(w:World)(base:Nat)(v:Value)(l:List Tk):Prop:=xJ w base v l/\∀g,v.ownBlock=some g->g<H
theorem DK.lets{A B H base:Nat}{X Y:World}{v:Value}{l:List Tk}(h:DK H X base v l)(hA:A<base)(hl:AX.Lets A B X Y):DK H Y base v l:=by
 refine⟨⟨h.1.1,?_⟩,h.2⟩;rcases h.1.2 with hn|⟨g,cap,cur,rfl,hg,hh,rest⟩
 ·exact .inl hn
 ·exact .inr ⟨g,cap,cur,rfl,hg,hl.same g _ hh (by omega) (.inr rfl),rest⟩
theorem Bx.lets{A B:Nat}{X Y:World}{b:Nat}{t:TypeId}{cs:Array Value}(h:Bx X b t cs)(hA:b≠A)(hl:AX.Lets A B X Y):Bx Y b t cs:=hl.same b _ h hA (.inr rfl)
theorem But.SQ{A B:Nat}{w X Y:World}(h:AX.But A w X)(hB:w.heap.size<=B)(hl:AX.Lets A B X Y):AX.But A w Y:=
 ⟨h.low.trans hl.low,fun k hk hA=>by
  have h1:=h.same k hk hA;have hlt:k<X.heap.size:=afN hk h.low.size;rw[<-h1,hl.same k X.heap[k] (agD hlt) hA (.inl (by omega)),agD hlt]⟩
theorem aU{w:World}{base:Nat}{e:TypeId}{size:Nat}{v:Value}{n:Nat}{xs:List Value}(h:w.ownsRow base e size v n xs):∃a c,v=.slice a n c:=by
 rcases h.2 with ⟨rfl,rfl⟩|⟨g,cap,cur,rfl,_⟩
 ·exact⟨_,_,rfl⟩
 ·exact⟨_,_,rfl⟩
theorem appended{P:Nat->Prop}{H n₀ b:Nat}{W w1 w2:World}{v v':Value}{l l':List Tk}{tmp:Obj}(_hH:H<=W.heap.size)(hv:Bx W b 38 #[v])(hrow:DK H W n₀ v l)(hb:b<n₀)(hbH:b<H)(hnP:∀k,b<=k->¬P k)
  (hown:xJ w1 n₀ v' l') (hg:(W.alloc tmp).grownBy w1 v.ownBlock) (h3:Bx w2 b 38 #[v']) (h4:∀k,k≠b->w2.heap[k]?=w1.heap[k]?) (h5:AX.Same w1 w2) (B:Nat):
  DK w2.heap.size w2 n₀ v' l'/\AX.Keep P H W w2/\KeepsFrom B W w2/\Below b W w2:=by
 have hlow1:Below b (W.alloc tmp) w1:=(afI b _).grown hg (by have:=hv.lt;simp;omega) fun j ej=>by
  rcases hrow.1.2 with ⟨rfl,_⟩|⟨g,cap,cur,rfl,hge,_,_⟩
  ·simp[Value.ownBlock]at ej
  ·obtain rfl:g=j:=by simpa[Value.ownBlock]using ej
   omega
 have hlow2:Below b w1 w2:=AX.ah afD (.inl h3.lt) h4 h5;have hal:Below W.heap.size W (W.alloc tmp):=(afI _ W).alloc afD _;have hlow:Below b W w2:=((hal.mono (ahh hv.lt)).trans hlow1).trans hlow2;have hrow2:xJ w2 n₀ v' l':=by
  refine⟨hown.1,?_⟩;rcases hown.2 with hn|⟨g,cap,cur,rfl,hge,hh,rest⟩
  ·exact .inl hn
  ·exact .inr ⟨g,cap,cur,rfl,hge,(h4 g (by omega)).trans hh,rest⟩
 have same:∀k o,W.heap[k]?=some o->k≠b->(∀g,v.ownBlock=some g->k≠g)->w2.heap[k]?=some o:=fun k o hk hkb hkg=>by
  have hlt:=(afF.1 hk).1;refine(h4 k hkb).trans ((hg.block k (by simp;omega) (fun e=>hkg k e.symm rfl)).trans ((hal.block k hlt).trans hk))
 refine⟨⟨hrow2,fun g e=>(hrow2.lt g e).2⟩,⟨hlow.mono (af0 _),fun k o hk hu=>?_⟩,⟨hlow.size,fun k o _ hk ho=>?_⟩,hlow⟩
 ·rcases hu with hp|⟨hkH,_⟩
  ·have hkb:k<b:=Nat.lt_of_not_le fun h=>hnP k h hp
   exact(hlow.block k hkb).trans hk
  ·exact same k o hk (by omega) fun g e=>by have:=hrow.2 g e;omega
 ·refine same k o hk (fun e=>?_) fun g e=>?_
  ·subst e;rw[show W.heap[k]?=_ from hv]at hk;cases hk;cases ho
  ·intro e2
   subst e2;rcases hrow.1.2 with ⟨rfl,_⟩|⟨g',cap,cur,rfl,hge,hh,_⟩
   ·simp[Value.ownBlock]at e
   ·obtain rfl:g'=k:=by simpa[Value.ownBlock]using e
    rw[hh]at hk;cases hk;cases ho
section
variable {next rule kind : List Int} {kinds : Int} {an ar ak : Option Addr} {cn cr ck : Nat}
theorem aec:AX.sizeT Tryz.prog 38=some 1:=by kernel_rfl
theorem SS{W w1:World}{b n₀: Nat}{v u:Value}{l:List Tk}{tmp:Obj}{t:TypeId}(hv:Bx W b t #[u])(hrow:xJ W n₀ v l)(hb:b<n₀)(hg:(W.alloc tmp).grownBy w1 v.ownBlock):Bx w1 b t #[u]:=by
 refine(hg.block b (by have:=hv.lt;simp;omega) fun e=>?_).trans (hv.alloc tmp);have:=(hrow.lt b e.symm).1;omega
theorem But.snoc{A n:Nat}{w X Y:World}(h:AX.But A w X)(hn:w.heap.size<=n)(k:Below n X Y):AX.But A w Y:=
 ⟨h.low.trans (k.mono (af0 _)),fun i hi hA=>(k.block i (by omega)).trans (h.same i hi hA)⟩
theorem appendSeq_in(n:Nat)(hn3:3<=n){w0:World}{L:Nat}(hL:w0.heap.size<=L)(hn:next.length<=1000000)(hr:rule.length<=1000000)(hk:kind.length<=1000000)(hN:aH w0 an next)(hR:aH w0 ar rule)(hK:aH w0 ak kind)(s:ByteArray)(hs:s.size<=1000)
  (hok:okL next rule kind kinds=true) (i0:Nat) (hi0:i0<=s.size) (w:World) (hLw:L+2<w.heap.size) (hS:Fc w0 L next rule kind kinds an ar ak cn cr ck s i0 w):
  CallsIn Fence.wide n Tryz.prog 77 #[.slice none 0 0,.func (.func 78) #[] #[.pointer (some ⟨L,0,none⟩),.pointer (some ⟨L+1,0,none⟩),.pointer (some ⟨L+2,0,none⟩)]] w fun e w'=>(∃v,e=.returned v/\xJ w' w.heap.size v (jc next rule kind (sb s) i0))/\AX.But (L+2) w w':=by
 have h1:1<=n:=by omega
 refine callsIn_of_wp_marks Tryz.func77 rfl trivial ?_ rfl;simp only[Tryz.ntmps77,ahG,agl,ahJ,Nat.reduceAdd,Nat.reduceSub,ahA,ahB,ahU,ahK,ahq,ahs];gi_wp2
 have bO:=Bx.new w 38 #[.slice none 0 0];have hB0:Below w.heap.size w (w.alloc (.cells #[.slice none 0 0] 38)):=(afI _ w).alloc afD _;have hS0:=hS.below hB0;have hz:(w.alloc (.cells #[.slice none 0 0] 38)).heap.size=w.heap.size+1:=by simp
 generalize w.alloc (.cells #[.slice none 0 0] 38)=V at *;have hLb:∀(pre:List Tk) x,(∃rest,jc next rule kind (sb s) i0=pre++x::rest)->pre.length<=1000000:=fun pre x ⟨rest,e⟩=>by
  have:=Ak (EY hok) (zH s) _ i0 afD (by rw[dS];exact hi0);rw[dS,e,afP]at this;omega
 refine AX.Dx (A:=L+2) (B:=Fb w0.heap.size L) (Pp:=fun pre x=>∃rest,jc next rule kind (sb s) i0=pre++x::rest) (encs:=fun x:Tk=>#[tkV x]) (S:=fun xs=>xs=jc next rule kind (sb s) i0) (Sp:=fun pre=>∃rest,jc next rule kind (sb s) i0=pre++rest) rfl h1 (gf:=78) (lb:=#[.pointer (some ⟨L,0,none⟩),.pointer (some ⟨L+1,0,none⟩),.pointer (some ⟨L+2,0,none⟩)]) rfl trivial (enters_of Tryz.func78 (by kernel_rfl) rfl) (by omega) (fun _=>rfl)
  (fun k h=>by rcases h with h|h<;>omega) ?seq
  (fun H pre W=>(∃v,Bx W w.heap.size 38 #[v]/\DK H W (w.heap.size+1) v pre/\w.heap.size<H)/\AX.But (L+2) w W) (fun _ _ _=>False) ?hI ?hIm (fun _ _ _ _ h _=>h)
  ⟨⟨_,bO,⟨World.ownsRow_nil _ _ _ _,fun g e=>by cases e⟩,by omega⟩,AX.But.of_below hB0⟩
  (fun x a' W=>∃T,w.heap.size<T/\Bx W T 42 #[.int .i64 x.k,.int .i64 x.f,.int .i64 x.a,.int .i64 x.t,.int .i64 x.e]/\a'={tmps:=#[.slice none 0 0,.func (.func 78) #[] #[.pointer (some ⟨L,0,none⟩),.pointer (some ⟨L+1,0,none⟩),.pointer (some ⟨L+2,0,none⟩)],.pointer (some ⟨w.heap.size,0,none⟩),undef,.slice none 0 0,.pointer (some ⟨T,0,none⟩),.func (.func 78) #[] #[.pointer (some ⟨L,0,none⟩),.pointer (some ⟨L+1,0,none⟩),.pointer (some ⟨L+2,0,none⟩)],tkV x,undef,undef,undef,undef,undef],defers:=[]}) ?hAx ?assign ?body ?done ?stop
 case seq =>
  intro l J Jx W hW hJ hJm hJx hY h0;exact uh (n-1) (by omega) hL hn hr hk hN hR hK s hs hok i0 hi0 l J Jx hJ hJm hY W (hS0.below hW) h0
 case hI =>
  rintro H q X Y ⟨⟨v,hv,hrow,hH⟩,hB⟩ hl;exact⟨⟨v,hv.lets (by omega) hl,hrow.lets (by omega) hl,hH⟩,But.SQ hB (by omega) hl⟩
 case hIm =>
  rintro H H' q X ⟨⟨v,hv,hrow,hH⟩,hB⟩ hl;exact⟨⟨v,hv,⟨hrow.1,fun g e=>afN (hrow.2 g e) hl⟩,afN hH hl⟩,hB⟩
 case hAx =>
  rintro x a' X Y ⟨T,hT,hX,ha⟩ hl;exact⟨T,hT,hX.lets (by omega) hl,ha⟩
 case assign =>
  rintro l pre x H W K ⟨⟨v,hv,hrow,hH⟩,hB⟩ hHW hK;have hT0:=Bx.new W 42 #[.int .i64 0,.int .i64 0,.int .i64 0,.int .i64 0,.int .i64 0];have hlt:=hv.lt;have hA0:Below W.heap.size W (W.alloc (.cells #[.int .i64 0,.int .i64 0,.int .i64 0,.int .i64 0,.int .i64 0] 42)):=(afI _ W).alloc afD _;gi_wp2_with ((with_reducible refine ug ?_);refine AX.gq (vs:=[.int .i64 x.k,.int .i64 x.f,.int .i64 x.a,.int .i64 x.t,.int .i64 x.e]) rfl rfl mY hT0 rfl rfl ?_;rintro W3 h3 h4 h5)
  have hX3:Bx W3 W.heap.size 42 #[.int .i64 x.k,.int .i64 x.f,.int .i64 x.a,.int .i64 x.t,.int .i64 x.e]:=h3;have hB3:=hA0.trans (AX.ah afD (.inl hX3.lt) h4 h5);have hl3:=(AX.But.of_below (A:=L+2) hB3).lets V.heap.size;exact hK _ W3 ⟨hB3.size,fun k o _ hk _=>(hB3.block k (afF.1 hk).1).trans hk⟩ (AX.Keep.of_below hB3) ⟨⟨v,hv.lets (by omega) hl3,hrow.lets (by omega) hl3,hH⟩,But.SQ hB (by omega) hl3⟩ ⟨W.heap.size,hlt,hX3,rfl⟩
 case body =>
  rintro l pre x a' H W ⟨⟨v,hv,hrow,hH⟩,hB⟩ hHW ⟨T,hT,hX,rfl⟩ hPp;have hlt:=hLb _ _ hPp;clear hPp hLb;have hc:W.cell? ⟨w.heap.size,0,none⟩=some v:=hv.cell 0;have hvl:=hv.lt;obtain⟨x0,x1,x2,x3,x4⟩:=Bx.five hX;gi_wp2_with (first
   | (gi_at_builtin;refine J9 _ (w.heap.size+1) _ pre x rfl _ _ rfl rfl (hrow.1.alloc (.cells #[.int .i64 x.k,.int .i64 x.f,.int .i64 x.a,.int .i64 x.t,.int .i64 x.e] 42)) ⟨W.heap.size,0,none⟩ rfl (J8 W x) (by omega) (by simp;omega) ?_;intro v' w1 hown hg;have hv1:=SS hv hrow.1 (ag9 _) hg;obtain⟨aa,cc,rfl⟩:=aU hown)
   | ((with_reducible refine ug ?_);refine AX.fJ (o:=0) (v:=.slice aa (pre++[x]).length cc) rfl rfl rfl aec hv1 (show 0<1 by decide) ?_;rintro w2 h3 h4 h5))
  have h3':Bx w2 w.heap.size 38 #[.slice aa (pre++[x]).length cc]:=h3;obtain⟨r1,r2,r3,r4⟩:=appended (P:=Fb w0.heap.size L) hHW hv hrow (ag9 _) hH (fun k hk h=>by rcases h with h|h<;>omega) hown hg h3' h4 h5 V.heap.size;exact⟨r3,r2,⟨_,h3',r1,by have:=h3'.lt;omega⟩,But.snoc hB afD r4⟩
 case done =>
  rintro D H ys W hD rfl ⟨⟨v,hv,hrow,hH⟩,hB⟩ hK;have hc:W.cell? ⟨w.heap.size,0,none⟩=some v:=hv.cell 0;gi_wp2
  refine⟨by simp,.inl ⟨_,_,rfl,run_takeDeferred hK,?_⟩⟩;have hl:=AX.Lets.put (A:=L+2) (B:=w.heap.size) (.deferred none) hK rfl (by omega);exact⟨_,results_tmp rfl _ _ _,⟨v,rfl,kE (hrow.lets (by omega) hl).1 (ahS _)⟩,But.SQ hB afD hl⟩
 case stop =>
  rintro D c pre W _ _ h _;exact h.elim
theorem collect_in(n:Nat)(hn4:4<=n){w0:World}{L:Nat}(hL:w0.heap.size<=L)(hn:next.length<=1000000)(hr:rule.length<=1000000)(hk:kind.length<=1000000)(hN:aH w0 an next)(hR:aH w0 ar rule)(hK:aH w0 ak kind)(s:ByteArray)(hs:s.size<=1000)
  (hok:okL next rule kind kinds=true) (i0:Nat) (hi0:i0<=s.size) (w:World) (hLw:L+2<w.heap.size) (hS:Fc w0 L next rule kind kinds an ar ak cn cr ck s i0 w):
  Calls Tryz.prog 40 #[.func (.func 78) #[] #[.pointer (some ⟨L,0,none⟩),.pointer (some ⟨L+1,0,none⟩),.pointer (some ⟨L+2,0,none⟩)]] w fun e w'=>(∃v,e=.returned v/\xJ w' w.heap.size v (jc next rule kind (sb s) i0))/\AX.But (L+2) w w':=by
 have h42:=callsIn_wide.1 (appendSeq_in (n-1) (by omega) hL hn hr hk hN hR hK s hs hok i0 hi0 w hLw hS);go_enter Tryz.func40,Tryz.ntmps40
 go_wp2_with (go_at_call 77;((with_reducible refine h42.mono ?_);rintro e w' ⟨⟨v,rfl,hv⟩,hB⟩))
 go_ret
 exact⟨⟨v,rfl,hv⟩,hB⟩
end
def VY(x:Nat):Value:=.int .u8 (x:Int)
def aJ(w:World)(base:Nat)(v:Value)(l:List Nat):Prop:=w.ownsRow base 5 1 v l.length (l.map VY)
theorem info5:(Tryz.prog.info? 5).map (fun i=>(i.zero,i.size,i.bytes))=some (some (.int .u8 0),1,1):=by kernel_rfl
theorem H9{ops:Array Oper}{rest:List Oper}{o:Oper}{a:Act}{Q:Exit->Act->World->Prop}(W:World)(base:Nat)(v:Value)(pre:List Nat)(y:Nat)(hgd:o.guard=none)(s x:Operand)
  (ho:o.op=.call {callee:=.builtin .append,args:=#[s,x],argTypes:=#[106,106]}) (hs:a.eval s=v) (hown:aJ W base v pre) (ad:Addr) (hx:a.eval x=.slice (some ad) 1 1)
  (hc:W.cell? ad=some (VY y)) (hl:pre.length<=1000000) (hb:base<=W.heap.size)
  (h:∀v' w',aJ w' base v' (pre++[y])->Below base W w'->wpList Tryz.prog ops Q rest (a.put o.dst v') w'):wpList Tryz.prog ops Q (o::rest) a W:=by
 obtain⟨ti,hi,hz0,hz1,hz2⟩:=info_parts info5;refine wpList_append_own W hgd s x 106 ho base 5 ti (.int .u8 0) 1 1 Tryz.underlying106 hi hz0 hz1 hz2 rfl (by decide) v pre.length _ hs hown ad 1 1 [VY y] hx rfl (fun j u hj=>?_) (fun u hu=>by rw[afK.1 hu];rfl) (by unfold maxLen;omega) (by omega) hb ?_
 ·match j,hj with
  | 0,hj =>
   obtain rfl:VY y=u:=by simpa using hj
   have:ad.add 0=ad:=(by unfold Addr.add;split<;>simp_all);rw[this];exact hc
 ·intro v' w' h1 h2 _
  refine h v' w' ?_ ((afI base W).grown h2 hb fun k hk=>(hown.lt k hk).1);unfold aJ;rw[afP,agt];exact h1
end Go.Proofs.YtkjgogdkdejljaaGreatDoor.Lx
