import Derived.Test.YtkjgogdkdejljaaGreatDoorDfK1
import Derived.RangeFuncBound
import Derived.Shelf.RegionOpen
import Derived.WalkKit
import Derived.OwnWalkIn
import Derived.LoopNIn
import Derived.LoopIn
import Derived.Maps.AppendAt
import Derived.Lib.Hide
import Derived.Test.YtkjgogdkdejljaaGreatDoorProg
import Derived.Lib.Strings
set_option maxRecDepth 100000
set_option maxHeartbeats 40000000
namespace Go.Proofs.YtkjgogdkdejljaaGreatDoor.Df
section
open Go.Lib (hid)
open Go Go.Proofs Go.RowKit Go.Shelf
attribute [local go_sem] Oper.semAt_some
def TabAt(w:World):Prop:=∀j,j<64->w.cell? ⟨0,j,none⟩=some (.int .u8 (Lib.deBruijn64tab.getD j 0:Nat))
theorem TabAt.below{n:Nat}{w w':World}(h:TabAt w)(hb:Below n w w')(hn:0<n):TabAt w':=fun j hj=>(hb.cell (p:=⟨0,j,none⟩) hn).trans (h j hj)
theorem tz64_core(F:Fence)(n:Nat)(hF:F.fn 111)(hro:F.round=none)(x k idx:Nat)(w:World)(hx0:((x:Int) == 0)=false)
  (key:IntKind.u64.wrap (bits BinOp.and IntKind.u64 (x:Int) (IntKind.u64.wrap (-(x:Int)))*285870213051353865) / 288230376151711744=(idx:Int))
  (hi:idx<64) (hk:k<64) (hcell:w.cell? ⟨0,idx,none⟩=some (.int .u8 k)):
  CallsIn F n Tryz.prog 111 #[.int .u64 x] w fun e w'=>e=.returned (.int .i64 k)/\w'=w:=by
 refine callsIn_of_wp Tryz.func111 rfl hF ?_ hro;simp only[Tryz.ntmps111,ahG,agl,ahJ,Nat.reduceAdd,Nat.reduceSub,ahA,ahB,ahU,ahK,ahq,ahs];gi_wp2_with (simp only[key])
 go_ret
 exact⟨rfl,rfl⟩
theorem tz64_key(x a:Nat)(hx:x<18446744073709551616)(hx0:x≠0)(hlow:x &&& (18446744073709551616-x)=a):
  IntKind.u64.wrap (bits BinOp.and IntKind.u64 (x:Int) (IntKind.u64.wrap (-(x:Int)))*285870213051353865) / 288230376151711744=((a*285870213051353865 % 18446744073709551616 / 288230376151711744:Nat):Int):=by
 have e1:IntKind.u64.wrap (-(x:Int))=((18446744073709551616-x:Nat):Int):=by rw[IntKind.wrap_u64];omega
 rw[e1,bits_and_u64_nat x _ hx (by omega),hlow,IntKind.wrap_u64];omega
theorem yt(F:Fence)(n:Nat)(hF:F.fn 111)(hro:F.round=none)(x:Nat)(hx:x<18446744073709551616)(hx0:x≠0)(w:World)(hT:TabAt w):
  CallsIn F n Tryz.prog 111 #[.int .u64 x] w fun e w'=>e=.returned (.int .i64 (Lib.ctz 64 x:Nat))/\w'=w:=by
 obtain⟨hlow,hk⟩:=Lib.lowest_bit 64 x hx0 hx;obtain⟨hi,htab⟩:=Lib.deBruijn64_at _ hk;have hcell:=hT _ hi;rw[htab]at hcell;exact tz64_core F n hF hro x _ _ w (by simp;omega) (tz64_key x _ hx hx0 hlow) hi hk hcell
def kL(b a0 a1 a2 a3:Nat)(W:World):Prop:=
 W.cell? ⟨b,0,none⟩=some (.int .u64 (a0:Nat))/\W.cell? ⟨b,1,none⟩=some (.int .u64 (a1:Nat))/\W.cell? ⟨b,2,none⟩=some (.int .u64 (a2:Nat))/\W.cell? ⟨b,3,none⟩=some (.int .u64 (a3:Nat))
theorem ad5(x0 x1 x2 x3:Value)(w:World):(Instr.index 116 (.agg #[x0,x1,x2,x3]) (.int .i64 0)).run Tryz.prog w=.ok x0 w:=by kernel_rfl
theorem ad6(x0 x1 x2 x3:Value)(w:World):(Instr.index 116 (.agg #[x0,x1,x2,x3]) (.int .i64 1)).run Tryz.prog w=.ok x1 w:=by kernel_rfl
theorem ad7(x0 x1 x2 x3:Value)(w:World):(Instr.index 116 (.agg #[x0,x1,x2,x3]) (.int .i64 2)).run Tryz.prog w=.ok x2 w:=by kernel_rfl
theorem ad8(x0 x1 x2 x3:Value)(w:World):(Instr.index 116 (.agg #[x0,x1,x2,x3]) (.int .i64 3)).run Tryz.prog w=.ok x3 w:=by kernel_rfl
def pq(v:Value):Nat:=(RowKit.intOf v).toNat
theorem uh(F:Fence)(n:Nat)(h42:F.fn 110)(h43:F.fn 111)(hro:F.round=none)(hn:1<=n)(l b n₀ a0 a1 a2 a3:Nat)(hw:wlt a0 a1 a2 a3)(hb:0<n₀)(J Jx:List Nat->World->Prop)
  (hY:∀pre (x:Nat) W,J pre W->pre.length<256->x<256->YieldAt F (n-1) Tryz.prog l #[.int .u8 (x:Nat)] W fun e W' =>
   (e=.returned (.bool true)/\J (pre++[x]) W'/\Below n₀ W W')\/(e=.returned (.bool false)/\Jx (pre++[x]) W'))
  (W:World) (hT:TabAt W) (hC:kL b a0 a1 a2 a3 W) (h0:J [] W):
  CallsIn F n Tryz.prog 110 #[.func (.yield l) #[] #[],.pointer (some ⟨b,0,none⟩)] W fun e W'=>(∃v,e=.returned v) /\
   ((∃ys,ys=ig a0 a1 a2 a3/\J ys W')\/(∃pre,(∃k,k<=256/\pre=upB a0 a1 a2 a3 k)/\Jx pre W')):=by
 obtain⟨c0,c1,c2,c3⟩:=hC;refine callsIn_of_wp Tryz.func110 rfl h42 ?_ hro;simp only[Tryz.ntmps110,ahG,agl,ahJ,Nat.reduceAdd,Nat.reduceSub,ahA,ahB,ahU,ahK,ahq,ahs];gi_wp2
 gi_loopw [6] (fun i wr=>∃(k:Nat)(z:Int),z=k/\k<=4/\i=.int .i64 z/\J (upB a0 a1 a2 a3 (64*k)) wr/\Below n₀ W wr)
  (fun i _=>4-(RowKit.intOf i).toNat)
 case atStart=>exact⟨0,0,rfl,af0 _,rfl,h0,afI _ _⟩
 case round =>
  obtain⟨k,z,hz,hk,rfl,hJs,hnx⟩:=hrel
  by_cases hlt:k<4
  ·obtain rfl|rfl|rfl|rfl:k=0\/k=1\/k=2\/k=3:=by omega
   ·have hi:=ad5
    obtain rfl:z=0:=by omega
    clear hz;gi_wp2
    gi_loopw [4] (fun v wr=>∃x t:Nat,t<=64/\x<18446744073709551616/\v=.int .u64 (x:Nat)/\(∀j,x.testBit j=(decide (t<=j) && (wd a0 a1 a2 a3 0).testBit j))/\J (upB a0 a1 a2 a3 (64*0+t)) wr/\Below n₀ W wr)
     (fun v _=>pq v)
    case atStart=>exact⟨a0,0,by omega,hw 0,rfl,by simp[wd],hJs,hnx⟩
    case round =>
     clear hi hJs hnx;obtain⟨x,t,ht,hx,rfl,gK,hJx,hnx⟩:=hrel
     by_cases hx0:x=0
     ·subst hx0
      have hu:=xX a0 a1 a2 a3 0 t ht gK;clear gK;gi_wp2
      exact⟨⟨0+1,_,rfl,by omega,rfl,by rw[hu];exact hJx,hnx⟩,by simp[RowKit.intOf]⟩
     ·obtain⟨Zg,hb1,hb2⟩:=oP x hx0 hx
      obtain⟨hle,hup⟩:=xW a0 a1 a2 a3 0 t x hx0 hx gK;obtain⟨hdl,hdb⟩:=sZ x hx0 hx;have hTr:=hT.below hnx (by omega);obtain⟨fn,tmps,assign,body,hy,hR⟩:=hY _ (64*0+Lib.ctz 64 x) wr hJx (by have:=xU a0 a1 a2 a3 (64*0+t);omega) (by omega);have HU:=hid hup;have HDB:=hid hdb;have HB:=hid gK;clear hup hdb gK hb1 hb2;have hxne:((x:Int) == 0)=false:=(by simp;omega);have SA:((x:Int) != 0)=true:=(by simp;omega);generalize hc:Lib.ctz 64 x=c at *;have HC:=hid hc;clear hc;have e1:((64*0+c:Nat):Int)=(c:Int):=(by omega);rw[e1]at hy;clear e1;gi_wp2_with (gi_at_call 111;refine(yt F (n-1) h43 hro x hx hx0 _ hTr).mono ?_;rintro e w' ⟨rfl,rfl⟩;rw[HC.out])
      refine hR.mono ?_;rintro e W3 (⟨rfl,hJ3,hk3⟩|⟨rfl,hJx3⟩)
      ·have hsub:IntKind.u64.wrap ((x:Int)-1)=((x-1:Nat):Int):=by rw[IntKind.wrap_u64];omega
       have hand:=bits_and_u64_nat x (x-1) hx (by omega);gi_wp2
       go_roundw
       case rel=>exact⟨x &&& (x-1),c+1,by omega,by omega,rfl,left_step HB.out HDB.out hle,by rw[HU.out];exact hJ3,hnx.trans hk3⟩
       case measure=>simp only[pq,RowKit.intOf];simpa using hdl
      ·gi_wp2
       refine afJ (results_none rfl _ _ _) rfl ?_;exact⟨⟨_,rfl⟩,.inr ⟨_,⟨64*0+(c+1),by omega,HU.out.symm⟩,hJx3⟩⟩
   ·have hi:=ad6
    obtain rfl:z=1:=by omega
    clear hz;gi_wp2
    gi_loopw [4] (fun v wr=>∃x t:Nat,t<=64/\x<18446744073709551616/\v=.int .u64 (x:Nat)/\(∀j,x.testBit j=(decide (t<=j) && (wd a0 a1 a2 a3 1).testBit j))/\J (upB a0 a1 a2 a3 (64*1+t)) wr/\Below n₀ W wr)
     (fun v _=>pq v)
    case atStart=>exact⟨a1,0,by omega,hw 1,rfl,by simp[wd],hJs,hnx⟩
    case round =>
     clear hi hJs hnx;obtain⟨x,t,ht,hx,rfl,gK,hJx,hnx⟩:=hrel
     by_cases hx0:x=0
     ·subst hx0
      have hu:=xX a0 a1 a2 a3 1 t ht gK;clear gK;gi_wp2
      exact⟨⟨1+1,_,rfl,by omega,rfl,by rw[hu];exact hJx,hnx⟩,by simp[RowKit.intOf]⟩
     ·obtain⟨Zg,hb1,hb2⟩:=oP x hx0 hx
      obtain⟨hle,hup⟩:=xW a0 a1 a2 a3 1 t x hx0 hx gK;obtain⟨hdl,hdb⟩:=sZ x hx0 hx;have hTr:=hT.below hnx (by omega);obtain⟨fn,tmps,assign,body,hy,hR⟩:=hY _ (64*1+Lib.ctz 64 x) wr hJx (by have:=xU a0 a1 a2 a3 (64*1+t);omega) (by omega);have HU:=hid hup;have HDB:=hid hdb;have HB:=hid gK;clear hup hdb gK hb1 hb2;have hxne:((x:Int) == 0)=false:=(by simp;omega);have SA:((x:Int) != 0)=true:=(by simp;omega);generalize hc:Lib.ctz 64 x=c at *;have HC:=hid hc;clear hc;have e1:((64*1+c:Nat):Int)=64+(c:Int):=(by omega);rw[e1]at hy;clear e1;gi_wp2_with (gi_at_call 111;refine(yt F (n-1) h43 hro x hx hx0 _ hTr).mono ?_;rintro e w' ⟨rfl,rfl⟩;rw[HC.out])
      refine hR.mono ?_;rintro e W3 (⟨rfl,hJ3,hk3⟩|⟨rfl,hJx3⟩)
      ·have hsub:IntKind.u64.wrap ((x:Int)-1)=((x-1:Nat):Int):=by rw[IntKind.wrap_u64];omega
       have hand:=bits_and_u64_nat x (x-1) hx (by omega);gi_wp2
       go_roundw
       case rel=>exact⟨x &&& (x-1),c+1,by omega,by omega,rfl,left_step HB.out HDB.out hle,by rw[HU.out];exact hJ3,hnx.trans hk3⟩
       case measure=>simp only[pq,RowKit.intOf];simpa using hdl
      ·gi_wp2
       refine afJ (results_none rfl _ _ _) rfl ?_;exact⟨⟨_,rfl⟩,.inr ⟨_,⟨64*1+(c+1),by omega,HU.out.symm⟩,hJx3⟩⟩
   ·have hi:=ad7
    obtain rfl:z=2:=by omega
    clear hz;gi_wp2
    gi_loopw [4] (fun v wr=>∃x t:Nat,t<=64/\x<18446744073709551616/\v=.int .u64 (x:Nat)/\(∀j,x.testBit j=(decide (t<=j) && (wd a0 a1 a2 a3 2).testBit j))/\J (upB a0 a1 a2 a3 (64*2+t)) wr/\Below n₀ W wr)
     (fun v _=>pq v)
    case atStart=>exact⟨a2,0,by omega,hw 2,rfl,by simp[wd],hJs,hnx⟩
    case round =>
     clear hi hJs hnx;obtain⟨x,t,ht,hx,rfl,gK,hJx,hnx⟩:=hrel
     by_cases hx0:x=0
     ·subst hx0
      have hu:=xX a0 a1 a2 a3 2 t ht gK;clear gK;gi_wp2
      exact⟨⟨2+1,_,rfl,by omega,rfl,by rw[hu];exact hJx,hnx⟩,by simp[RowKit.intOf]⟩
     ·obtain⟨Zg,hb1,hb2⟩:=oP x hx0 hx
      obtain⟨hle,hup⟩:=xW a0 a1 a2 a3 2 t x hx0 hx gK;obtain⟨hdl,hdb⟩:=sZ x hx0 hx;have hTr:=hT.below hnx (by omega);obtain⟨fn,tmps,assign,body,hy,hR⟩:=hY _ (64*2+Lib.ctz 64 x) wr hJx (by have:=xU a0 a1 a2 a3 (64*2+t);omega) (by omega);have HU:=hid hup;have HDB:=hid hdb;have HB:=hid gK;clear hup hdb gK hb1 hb2;have hxne:((x:Int) == 0)=false:=(by simp;omega);have SA:((x:Int) != 0)=true:=(by simp;omega);generalize hc:Lib.ctz 64 x=c at *;have HC:=hid hc;clear hc;have e1:((64*2+c:Nat):Int)=128+(c:Int):=(by omega);rw[e1]at hy;clear e1;gi_wp2_with (gi_at_call 111;refine(yt F (n-1) h43 hro x hx hx0 _ hTr).mono ?_;rintro e w' ⟨rfl,rfl⟩;rw[HC.out])
      refine hR.mono ?_;rintro e W3 (⟨rfl,hJ3,hk3⟩|⟨rfl,hJx3⟩)
      ·have hsub:IntKind.u64.wrap ((x:Int)-1)=((x-1:Nat):Int):=by rw[IntKind.wrap_u64];omega
       have hand:=bits_and_u64_nat x (x-1) hx (by omega);gi_wp2
       go_roundw
       case rel=>exact⟨x &&& (x-1),c+1,by omega,by omega,rfl,left_step HB.out HDB.out hle,by rw[HU.out];exact hJ3,hnx.trans hk3⟩
       case measure=>simp only[pq,RowKit.intOf];simpa using hdl
      ·gi_wp2
       refine afJ (results_none rfl _ _ _) rfl ?_;exact⟨⟨_,rfl⟩,.inr ⟨_,⟨64*2+(c+1),by omega,HU.out.symm⟩,hJx3⟩⟩
   ·have hi:=ad8
    obtain rfl:z=3:=by omega
    clear hz;gi_wp2
    gi_loopw [4] (fun v wr=>∃x t:Nat,t<=64/\x<18446744073709551616/\v=.int .u64 (x:Nat)/\(∀j,x.testBit j=(decide (t<=j) && (wd a0 a1 a2 a3 3).testBit j))/\J (upB a0 a1 a2 a3 (64*3+t)) wr/\Below n₀ W wr)
     (fun v _=>pq v)
    case atStart=>exact⟨a3,0,by omega,hw 3,rfl,by simp[wd],hJs,hnx⟩
    case round =>
     clear hi hJs hnx;obtain⟨x,t,ht,hx,rfl,gK,hJx,hnx⟩:=hrel
     by_cases hx0:x=0
     ·subst hx0
      have hu:=xX a0 a1 a2 a3 3 t ht gK;clear gK;gi_wp2
      exact⟨⟨3+1,_,rfl,by omega,rfl,by rw[hu];exact hJx,hnx⟩,by simp[RowKit.intOf]⟩
     ·obtain⟨Zg,hb1,hb2⟩:=oP x hx0 hx
      obtain⟨hle,hup⟩:=xW a0 a1 a2 a3 3 t x hx0 hx gK;obtain⟨hdl,hdb⟩:=sZ x hx0 hx;have hTr:=hT.below hnx (by omega);obtain⟨fn,tmps,assign,body,hy,hR⟩:=hY _ (64*3+Lib.ctz 64 x) wr hJx (by have:=xU a0 a1 a2 a3 (64*3+t);omega) (by omega);have HU:=hid hup;have HDB:=hid hdb;have HB:=hid gK;clear hup hdb gK hb1 hb2;have hxne:((x:Int) == 0)=false:=(by simp;omega);have SA:((x:Int) != 0)=true:=(by simp;omega);generalize hc:Lib.ctz 64 x=c at *;have HC:=hid hc;clear hc;have e1:((64*3+c:Nat):Int)=192+(c:Int):=(by omega);rw[e1]at hy;clear e1;gi_wp2_with (gi_at_call 111;refine(yt F (n-1) h43 hro x hx hx0 _ hTr).mono ?_;rintro e w' ⟨rfl,rfl⟩;rw[HC.out])
      refine hR.mono ?_;rintro e W3 (⟨rfl,hJ3,hk3⟩|⟨rfl,hJx3⟩)
      ·have hsub:IntKind.u64.wrap ((x:Int)-1)=((x-1:Nat):Int):=by rw[IntKind.wrap_u64];omega
       have hand:=bits_and_u64_nat x (x-1) hx (by omega);gi_wp2
       go_roundw
       case rel=>exact⟨x &&& (x-1),c+1,by omega,by omega,rfl,left_step HB.out HDB.out hle,by rw[HU.out];exact hJ3,hnx.trans hk3⟩
       case measure=>simp only[pq,RowKit.intOf];simpa using hdl
      ·gi_wp2
       refine afJ (results_none rfl _ _ _) rfl ?_;exact⟨⟨_,rfl⟩,.inr ⟨_,⟨64*3+(c+1),by omega,HU.out.symm⟩,hJx3⟩⟩
  ·obtain rfl:k=4:=by omega
   obtain rfl:z=4:=by omega
   clear hz;gi_wp2
   go_end0
   exact⟨⟨_,rfl⟩,.inl ⟨_,rfl,hJs⟩⟩
end
section
open Go Go.Proofs Go.RowKit Go.Shelf
attribute [local go_sem] Oper.semAt_some
theorem wrap_two_pow(r:Nat)(hr:r<64):IntKind.u64.wrap ((2:Int) ^ r)=((2 ^ r:Nat):Int):=by
 have h:2 ^ r<2 ^ 64:=ahf (by decide) hr;have h:2 ^ r<18446744073709551616:=by simpa using h
 have e:((2:Int) ^ r)=((2 ^ r:Nat):Int):=by simp
 rw[e];generalize 2 ^ r=m at *;rw[IntKind.wrap_u64];omega
theorem ng(a r:Nat):a &&& 2 ^ r=if a.testBit r then 2 ^ r else 0:=by
 apply ah8;intro j;rw[ahR,ahl]
 by_cases h:r=j
 ·subst h
  cases a.testBit r<;>simp
 ·cases a.testBit r<;>simp[h,ahl]
theorem or_bit(a r:Nat)(ha:a<18446744073709551616)(hr:r<64):bits .or .u64 (a:Int) (IntKind.u64.wrap ((2:Int) ^ r))=((a ||| 2 ^ r:Nat):Int):=by
 have h:2 ^ r<2 ^ 64:=ahf (by decide) hr;rw[wrap_two_pow r hr,bits_or_u64_nat a _ ha (by simpa using h)]
theorem jU(a r:Nat)(ha:a<18446744073709551616)(hr:r<64):(bits .and .u64 (a:Int) (IntKind.u64.wrap ((2:Int) ^ r)) != 0)=a.testBit r:=by
 have h:2 ^ r<2 ^ 64:=ahf (by decide) hr;rw[wrap_two_pow r hr,bits_and_u64_nat a _ ha (by simpa using h),ng];have hp:0<2 ^ r:=Nat.two_pow_pos r;generalize 2 ^ r=m at hp
 cases hb:a.testBit r with
 | true=>simp;omega
 | false=>simp
def dN(B:Nat)(l:List Nat)(W:World):Prop:=kL B (cw l 0) (cw l 1) (cw l 2) (cw l 3) W/\∀j,W.frozen? ⟨B,j,none⟩=false
theorem jD(W:World)(B i q:Nat)(v:Value)(h:i≠q):(W.setCell ⟨B,q,none⟩ v).cell? ⟨B,i,none⟩=W.cell? ⟨B,i,none⟩:=by
 exact World.cell?_setCell_other _ _ _ _ (by simp)
def stored(B a0 a1 a2 a3:Nat)(W:World):World:=(((W.setCell ⟨B,0,none⟩ (.int .u64 a0)).setCell ⟨B,1,none⟩ (.int .u64 a1)).setCell ⟨B,2,none⟩ (.int .u64 a2)).setCell ⟨B,3,none⟩ (.int .u64 a3)
theorem qg{B a0 a1 a2 a3:Nat}{W:World}(h0:(W.cell? ⟨B,0,none⟩).isSome=true)(h1:(W.cell? ⟨B,1,none⟩).isSome=true)(h2:(W.cell? ⟨B,2,none⟩).isSome=true)(h3:(W.cell? ⟨B,3,none⟩).isSome=true):
  kL B a0 a1 a2 a3 (stored B a0 a1 a2 a3 W):=by
 have n1:∀(W:World)(v:Value)(i q:Nat),i≠q->(W.setCell ⟨B,q,none⟩ v).cell? ⟨B,i,none⟩=W.cell? ⟨B,i,none⟩:=fun W v i q h=>jD W B i q v h;refine⟨?_,?_,?_,?_⟩<;>unfold stored
 ·rw[n1 _ _ _ _ (by decide),n1 _ _ _ _ (by decide),n1 _ _ _ _ (by decide)]
  exact World.cell?_setCell_same' _ _ _ h0
 ·rw[n1 _ _ _ _ (by decide),n1 _ _ _ _ (by decide)]
  exact World.cell?_setCell_same' _ _ _ (by rw[n1 _ _ _ _ (by decide)];exact h1)
 ·rw[n1 _ _ _ _ (by decide)]
  exact World.cell?_setCell_same' _ _ _ (by rw[n1 _ _ _ _ (by decide),n1 _ _ _ _ (by decide)];exact h2)
 ·exact World.cell?_setCell_same' _ _ _ (by rw[n1 _ _ _ _ (by decide),n1 _ _ _ _ (by decide),n1 _ _ _ _ (by decide)];exact h3)
theorem jV{n B a0 a1 a2 a3:Nat}{w W:World}(h:Below n w W)(hn:n<=B):Below n w (stored B a0 a1 a2 a3 W):=
 (((h.setCell (p:=⟨B,0,none⟩) hn _).setCell (p:=⟨B,1,none⟩) hn _).setCell (p:=⟨B,2,none⟩) hn _).setCell (p:=⟨B,3,none⟩) hn _
theorem dN.put{B:Nat}{l:List Nat}{W:World}(h:dN B l W){y q r:Nat}(hq:y / 64=q)(hr:r=y % 64)(h4:q<4):
  dN B (l++[y]) (W.setCell ⟨B,q,none⟩ (.int .u64 (cw l q ||| 2 ^ r:Nat))):=by
 obtain⟨⟨c0,c1,c2,c3⟩,hf⟩:=h;have hs:∀i,cw (l++[y]) i=if q=i then cw l i ||| 2 ^ r else cw l i:=fun i=>by rw[EF,hq,hr]
 refine⟨?_,fun j=>by rw[World.frozen?_setCell];exact hf j⟩;obtain rfl|rfl|rfl|rfl:q=0\/q=1\/q=2\/q=3:=by omega
 all_goals
  refine⟨?_,?_,?_,?_⟩<;>rw[hs]
  all_goals first
   | (rw[afR rfl];exact World.cell?_setCell_same' _ _ _ (by simp[c0,c1,c2,c3]))
   | (rw[afO (by decide),jD _ _ _ _ _ (by decide)];assumption)
theorem dN.drew{B:Nat}{l:List Nat}{W:World}(h:dN B l W):dN B l W.drew:=⟨⟨h.1.1,h.1.2.1,h.1.2.2.1,h.1.2.2.2⟩,h.2⟩
theorem oV(low high:Nat)(hl:low<256)(hh:high<256)(w:World):
  Calls Tryz.prog 102 #[.int .u8 low,.int .u8 high] w fun e w'=>e=.returned (.agg #[.int .u64 (cw (rng low high) 0:Nat),.int .u64 (cw (rng low high) 1:Nat),.int .u64 (cw (rng low high) 2:Nat),.int .u64 (cw (rng low high) 3:Nat)])/\Below w.heap.size w w':=by
 have hB0:Below w.heap.size w (w.alloc (.cells #[.int .u64 0,.int .u64 0,.int .u64 0,.int .u64 0] 116)):=(afI _ w).alloc afD _;have hcls:dN w.heap.size [] (w.alloc (.cells #[.int .u64 0,.int .u64 0,.int .u64 0,.int .u64 0] 116)):=⟨⟨by simp[lH],by simp[lH],by simp[lH],by simp[lH]⟩,fun j=>by simp⟩;go_enter Tryz.func102,Tryz.ntmps102
 go_wp2
 go_loopw [5] (fun i wr=>∃k:Nat,low<=k/\k<=256/\(k<=high+1\/k=low)/\i=.int .i64 k/\dN w.heap.size (List.range' low (k-low)) wr/\Below w.heap.size w wr)
  (fun i _=>256-(RowKit.intOf i).toNat)
 case atStart=>exact⟨low,agq _,by omega,.inr rfl,rfl,by rw[aho];exact hcls,hB0⟩
 case round =>
  obtain⟨k,hk,hk2,hk3,rfl,hcl,hB⟩:=hrel
  by_cases hlt:k<=high
  ·have e:List.range' low (k+1-low)=List.range' low (k-low)++[k]:=by
    rw[show k+1-low=(k-low)+1 by omega,List.range'_concat]
    congr 2
    omega
   have HE:=Lib.hid e;clear e;generalize List.range' low (k-low)=l at *;obtain⟨⟨c0,c1,c2,c3⟩,hf⟩:=hcl;have l0:=gX l 0;have l1:=gX l 1;have l2:=gX l 2;have l3:=gX l 3;obtain⟨r,hr⟩:∃r:Nat,r=k % 64:=⟨_,rfl⟩;have jW:r<64:=(by omega);have hrm:(k:Int) % 64=(r:Nat):=(by omega);have HR:=Lib.hid hr;clear hr;obtain hq|hq|hq|hq:k / 64=0\/k / 64=1\/k / 64=2\/k / 64=3:=by omega
   ·have hqi:(k:Int) / 64=0:=by omega
    have HN:=dN.put (B:=w.heap.size) (W:=wr) ⟨⟨c0,c1,c2,c3⟩,hf⟩ hq HR.out (by decide);have HQ:=Lib.hid HN;clear hq HN;have ho:=or_bit _ r l0 jW;go_wp2
    go_region
    go_wp2
    go_roundw
    case rel=>exact⟨k+1,by omega,by omega,by omega,by simp,by rw[HE.out];exact HQ.out.drew,(hB.setCell (p:=⟨w.heap.size,0,none⟩) afD _).drew⟩
    case measure=>simp[RowKit.intOf];omega
   ·have hqi:(k:Int) / 64=1:=by omega
    have HN:=dN.put (B:=w.heap.size) (W:=wr) ⟨⟨c0,c1,c2,c3⟩,hf⟩ hq HR.out (by decide);have HQ:=Lib.hid HN;clear hq HN;have ho:=or_bit _ r l1 jW;go_wp2
    go_region
    go_wp2
    go_roundw
    case rel=>exact⟨k+1,by omega,by omega,by omega,by simp,by rw[HE.out];exact HQ.out.drew,(hB.setCell (p:=⟨w.heap.size,1,none⟩) afD _).drew⟩
    case measure=>simp[RowKit.intOf];omega
   ·have hqi:(k:Int) / 64=2:=by omega
    have HN:=dN.put (B:=w.heap.size) (W:=wr) ⟨⟨c0,c1,c2,c3⟩,hf⟩ hq HR.out (by decide);have HQ:=Lib.hid HN;clear hq HN;have ho:=or_bit _ r l2 jW;go_wp2
    go_region
    go_wp2
    go_roundw
    case rel=>exact⟨k+1,by omega,by omega,by omega,by simp,by rw[HE.out];exact HQ.out.drew,(hB.setCell (p:=⟨w.heap.size,2,none⟩) afD _).drew⟩
    case measure=>simp[RowKit.intOf];omega
   ·have hqi:(k:Int) / 64=3:=by omega
    have HN:=dN.put (B:=w.heap.size) (W:=wr) ⟨⟨c0,c1,c2,c3⟩,hf⟩ hq HR.out (by decide);have HQ:=Lib.hid HN;clear hq HN;have ho:=or_bit _ r l3 jW;go_wp2
    go_region
    go_wp2
    go_roundw
    case rel=>exact⟨k+1,by omega,by omega,by omega,by simp,by rw[HE.out];exact HQ.out.drew,(hB.setCell (p:=⟨w.heap.size,3,none⟩) afD _).drew⟩
    case measure=>simp[RowKit.intOf];omega
  ·have e:List.range' low (k-low)=rng low high:=by unfold rng;congr 1;omega
   rw[e]at hcl;clear e;obtain⟨⟨c0,c1,c2,c3⟩,hf⟩:=hcl;go_wp2
   have hF:=qg (B:=w.heap.size) (a0:=cw (rng low high) 0) (a1:=cw (rng low high) 1) (a2:=cw (rng low high) 2) (a3:=cw (rng low high) 3) (W:=wr) (by rw[c0];rfl) (by rw[c1];rfl) (by rw[c2];rfl) (by rw[c3];rfl);have hBf:=jV (B:=w.heap.size) (a0:=cw (rng low high) 0) (a1:=cw (rng low high) 1) (a2:=cw (rng low high) 2) (a3:=cw (rng low high) 3) hB afD;unfold stored at hF hBf;generalize ((((wr.setCell ⟨w.heap.size,0,none⟩ (.int .u64 (cw (rng low high) 0:Nat))).setCell ⟨w.heap.size,1,none⟩ (.int .u64 (cw (rng low high) 1:Nat))).setCell ⟨w.heap.size,2,none⟩ (.int .u64 (cw (rng low high) 2:Nat))).setCell ⟨w.heap.size,3,none⟩ (.int .u64 (cw (rng low high) 3:Nat)))=Wf at hF hBf⊢;obtain⟨d0,d1,d2,d3⟩:=hF;exact afJ (v:=.agg #[.int .u64 (cw (rng low high) 0:Nat),.int .u64 (cw (rng low high) 1:Nat),.int .u64 (cw (rng low high) 2:Nat),.int .u64 (cw (rng low high) 3:Nat)]) (by simp[results,Tryz.results61,go_sem,d0,d1,d2,d3]) rfl ⟨rfl,hBf⟩
theorem Oi(a0 a1 a2 a3 b:Nat)(hw:wlt a0 a1 a2 a3)(hb:b<256)(w:World):
  Calls Tryz.prog 125 #[.agg #[.int .u64 a0,.int .u64 a1,.int .u64 a2,.int .u64 a3],.int .u8 b] w fun e w'=>e=.returned (.bool (hasB a0 a1 a2 a3 b))/\Below w.heap.size w w':=by
 obtain⟨r,hr⟩:∃r:Nat,r=b % 64:=⟨_,rfl⟩;have jW:r<64:=by omega
 have hrm:(b:Int) % 64=(r:Nat):=by omega
 have l0:a0<18446744073709551616:=hw 0;have l1:a1<18446744073709551616:=hw 1;have l2:a2<18446744073709551616:=hw 2;have l3:a3<18446744073709551616:=hw 3;have h4:b / 64=0\/b / 64=1\/b / 64=2\/b / 64=3:=by omega
 have hB:Below w.heap.size w (w.alloc (.cells #[.int .u64 a0,.int .u64 a1,.int .u64 a2,.int .u64 a3] 116)):=(afI _ w).alloc afD _;have HR:=Lib.hid hr;clear hr;obtain hq|hq|hq|hq:=h4
 ·have hqi:(b:Int) / 64=0:=by omega
  have HH:=Lib.hid (show hasB a0 a1 a2 a3 b=a0.testBit r by unfold hasB;rw[hq,HR.out];rfl);clear hq;have ho:=jU _ r l0 jW;go_enter Tryz.func125,Tryz.ntmps125
  go_wp2
  go_ret
  exact⟨by rw[HH.out];rfl,hB⟩
 ·have hqi:(b:Int) / 64=1:=by omega
  have HH:=Lib.hid (show hasB a0 a1 a2 a3 b=a1.testBit r by unfold hasB;rw[hq,HR.out];rfl);clear hq;have ho:=jU _ r l1 jW;go_enter Tryz.func125,Tryz.ntmps125
  go_wp2
  go_ret
  exact⟨by rw[HH.out];rfl,hB⟩
 ·have hqi:(b:Int) / 64=2:=by omega
  have HH:=Lib.hid (show hasB a0 a1 a2 a3 b=a2.testBit r by unfold hasB;rw[hq,HR.out];rfl);clear hq;have ho:=jU _ r l2 jW;go_enter Tryz.func125,Tryz.ntmps125
  go_wp2
  go_ret
  exact⟨by rw[HH.out];rfl,hB⟩
 ·have hqi:(b:Int) / 64=3:=by omega
  have HH:=Lib.hid (show hasB a0 a1 a2 a3 b=a3.testBit r by unfold hasB;rw[hq,HR.out];rfl);clear hq;have ho:=jU _ r l3 jW;go_enter Tryz.func125,Tryz.ntmps125
  go_wp2
  go_ret
  exact⟨by rw[HH.out];rfl,hB⟩
end
end Go.Proofs.YtkjgogdkdejljaaGreatDoor.Df
namespace Go.Proofs.YtkjgogdkdejljaaGreatDoor.AX
open Go
section
variable {P : Program} {w : World}
def leI(a b:Int):Bool:=
 match a,b with
 | .ofNat m,.ofNat n=>Nat.ble m n
 | .negSucc m,.negSucc n=>Nat.ble n m
 | .negSucc _,.ofNat _=>true
 | .ofNat _,.negSucc _=>false
def sizeT(P:Program)(t:TypeId):Option Nat:=(P.info? t).map (·.size)
theorem O7(a b:Int):leI a b=decide (a<=b):=by
 rw[aif]
 cases a<;>cases b<;>simp[leI]<;>omega
theorem IZ{t:TypeId}{n:Nat}(h:sizeT P t=some n):∃i,P.info? t=some i/\i.size=n:=by
 unfold sizeT at h
 cases hi:P.info? t with
 | none=>simp[hi]at h
 | some i=>simp[hi]at h;exact⟨i,rfl,h⟩
theorem run_typeInfo{t:TypeId}{i:TypeInfo}(h:P.info? t=some i):(typeInfo t).run P w=.ok i w:=by
 simp[typeInfo,h]
theorem run_sizeOf{t:TypeId}{n:Nat}(h:sizeT P t=some n):(sizeOf t).run P w=.ok n w:=by
 obtain⟨i,hi,hn⟩:=IZ h;simp[sizeOf,run_typeInfo hi,hn]
theorem addr_add(b o n:Nat):(Addr.mk b o none).add n=⟨b,o+n,none⟩:=by
 unfold Addr.add;split
 ·rename_i h;subst h;rfl
 ·rfl
def Same(w w':World):Prop:=w'.os=w.os/\(w'.output,w'.tape)=(w.output,w.tape)
theorem Same.refl(w:World):Same w w:=⟨rfl,rfl⟩
theorem Same.trans{a b c:World}(h:Same a b)(k:Same b c):Same a c:=⟨k.1.trans h.1,k.2.trans h.2⟩
structure Kept(w w':World):Prop where
 os:w'.os=w.os
 out:w'.output=w.output
 tape:w'.tape=w.tape
 block:∀(k:Nat)(o:Obj),w.heap[k]?=some o->w'.heap[k]?=some o
theorem Us{h:Array Obj}{w:World}(hw:w.heap=h){b o:Nat}{cs:Array Value}{e:TypeId}{fz:Nat×Nat}{x:Value}(hb:h[b]?=some (.cells cs e fz))(hx:cs[o]?=some x):
  w.cell? ⟨b,o,none⟩=some x:=by
 simp[World.cell?,hw,hb,hx]
def kZ(cs:Array Value)(o:Nat):List Value->Array Value
 | []=>cs
 | x::xs=>kZ (cs.setIfInBounds o x) (o+1) xs
theorem wR:∀(xs:List Value)(cs:Array Value)(o:Nat),(kZ cs o xs).size=cs.size
 | [],_,_=>rfl
 | x::xs,cs,o=>by rw[kZ,wR xs];simp
theorem yB:∀(xs:List Value)(cs:Array Value)(o j:Nat),o+xs.length<=cs.size->(kZ cs o xs)[j]?=if o<=j/\j<o+xs.length then xs[j-o]? else cs[j]?
 | [],cs,o,j,_=>by rw[kZ,afO (by simp)]
 | x::xs,cs,o,j,h=>by
  simp only[agl]at h;rw[kZ,yB xs _ _ _ (by simp;omega)]
  by_cases h0:j=o
  ·subst h0
   have hlt:j<cs.size:=(by omega);rw[afO (by omega),afR (by simp)];simp[hlt]
  ·by_cases h1:o+1<=j/\j<o+1+xs.length
   ·rw[afR h1,afR (by simp;omega)]
    rw[show j-o=(j-(o+1))+1 from by omega];simp
   ·rw[afO h1,afO (by simp;omega)]
    exact Array.getElem?_setIfInBounds_ne (by omega)
theorem heap_setCell{h:Array Obj}{b o:Nat}{x:Value}{cs:Array Value}{e:TypeId}{fz:Nat×Nat}(hw:w.heap=h)(hb:h[b]?=some (.cells cs e fz)):
  (w.setCell ⟨b,o,none⟩ x).heap[b]?=some (.cells (cs.setIfInBounds o x) e fz)/\∀k,k≠b->(w.setCell ⟨b,o,none⟩ x).heap[k]?=h[k]?:=by
 subst hw;simp only[World.setCell,ahx];refine⟨by simp[hb],fun k hk=>by rw[afO (ahX hk)]⟩
theorem dM{b o:Nat}{e:TypeId}{fz:Nat×Nat}: ∀(xs:List Value)(i:Nat)(cs:Array Value)(w:World),w.heap[b]?=some (.cells cs e fz) ->
  o+i+xs.length<=cs.size->(∀j,j<cs.size->¬(fz.1<=j/\j<fz.2))->(∀x∈xs,x.oneCell'=true) ->
  ∃w',(storeCells ⟨b,o,none⟩ xs i).run P w=.ok () w'/\w'.heap[b]?=some (.cells (kZ cs (o+i) xs) e fz)/\(∀k,k≠b->w'.heap[k]?=w.heap[k]?)/\Same w w':=by
 intro xs
 induction xs with
 | nil=>intro i cs w hb _ _ _;exact⟨w,rfl,hb,fun _ _=>rfl,Same.refl w⟩
 | cons x xs ih =>
  intro i cs w hb hle hfz hone;simp only[agl]at hle;have hlt:o+i<cs.size:=by omega
  have hc:w.cell? ⟨b,o+i,none⟩=some cs[o+i]:=Us rfl hb (by simp[hlt]);have hf:w.frozen? ⟨b,o+i,none⟩=false:=by
   have:=hfz (o+i) hlt;obtain⟨lo,hi⟩:=fz;simp only[World.frozen?,hb];simp only at this
   cases hh:(decide (lo<=o+i) && decide (o+i<hi))with
   | false=>rfl
   | true=>simp only[afU,afZ]at hh;exact absurd hh this
  obtain⟨h1,h2⟩:=heap_setCell (w:=w) (o:=o+i) (x:=x) rfl hb;obtain⟨w',g1,g2,g3,g4⟩:=ih (i+1) (cs.setIfInBounds (o+i) x) (w.setCell ⟨b,o+i,none⟩ x) h1 (by simp;omega) (by simpa using hfz) (fun y hy=>hone y (by simp[hy]));refine⟨w',?_,?_,fun k hk=>by rw[g3 k hk,h2 k hk],Same.trans ⟨rfl,rfl⟩ g4⟩
  ·simp only[storeCells,Sem.run_bind,addr_add]
   rw[run_store P w _ x .plain (hone x (by simp)),hc];simp only[hf,ahr,aiC,Result.andThen_ok];exact g1
  ·rw[g2];rfl
end
theorem nT:∀(xs:List Value)(cs:Array Value),xs.length=cs.size->kZ cs 0 xs=xs.toArray:=fun xs cs h=>by
 apply Array.ext
 ·rw[wR];simp[h]
 ·intro i h1 h2
  have:=yB xs cs 0 i (by omega);have hi:i<xs.length:=by simpa using h2
  rw[afR ⟨af0 _,by omega⟩]at this;rw[agD h1,Nat.sub_zero,afE hi]at this
  simpa using agc this
theorem ah{n b:Nat}{w w':World}(hn:n<=b)(hbl:b<w'.heap.size\/w.heap.size<=b)(h2:∀k,k≠b->w'.heap[k]?=w.heap[k]?)(h3:Same w w'):Go.RowKit.Below n w w':=by
 refine⟨h3.1,(Prod.mk.inj h3.2).2,(Prod.mk.inj h3.2).1,?_,fun k hk=>h2 k (by omega)⟩;rcases ag6 w'.heap.size w.heap.size with hlt|hge
 ·exfalso
  have hk:=h2 w'.heap.size;rw[agR afD,agD hlt]at hk
  by_cases e:w'.heap.size=b
  ·omega
  ·cases hk e
 ·exact hge
section
variable {P : Program} {ops : Array Oper} {Q : Exit -> Act -> World -> Prop} {a : Act} {w : World} {rest : List Oper} {t : TypeId} {x y : Operand} {ty : TypeId} {pos : String} {after : Array Edge} {b : Nat} {cs : Array Value} {e : TypeId} {vs : List Value}
theorem aj(hp:a.eval x=.pointer (some ⟨b,0,none⟩))(hy:a.eval y=.agg vs.toArray)(hsz:sizeT P t=some vs.length)(hb:w.heap[b]?=some (.cells cs e (0,0)))(hle:cs.size=vs.length)(hone:vs.all Value.oneCell'=true)
  (h:∀w',w'.heap[b]?=some (.cells vs.toArray e (0,0))->(∀k,k≠b->w'.heap[k]?=w.heap[k]?)->Same w w'->wpList P ops Q rest a w'):
  wpList P ops Q ({dst:=none,op:=.store t x y,type:=ty,pos:=pos,after:=after,guard:=none}::rest) a w:=by
 obtain⟨w',e1,e2,e3,e4⟩:=dM (P:=P) (o:=0) vs 0 cs w hb (by omega) (fun j _=>by omega) (fun v hv=>agk.1 hone v hv);refine wpList_plain rfl fun K hK=>?_;have hr:(execOp a.eval {dst:=none,op:=.store t x y,type:=ty,pos:=pos,after:=after,guard:=none}).run P w=.ok .skip w':=by
  have hne:¬(vs.toArray.size≠vs.length):=by simp
  simp only[execOp,hp,hy,Instr.storeAt,Instr.sureAddr,Sem.run_bind,Sem.run_pure,Result.andThen_ok,storeVar,Value.cells,run_sizeOf hsz,afO hne];rw[e1];rfl
 unfold Oper.wp;rw[hr];refine hK _ _ (h w' ?_ e3 e4);rw[e2,agV,nT vs cs hle.symm]
theorem cells_one{v:Value}(h:v.oneCell'=true):v.cells=#[v]:=by
 cases v<;>first|rfl|cases h
theorem aB{o:Nat}{v:Value}(hp:a.eval x=.pointer (some ⟨b,o,none⟩))(hy:a.eval y=v)(hv:v.oneCell'=true)(hsz:sizeT P t=some 1)(hb:w.heap[b]?=some (.cells cs e (0,0)))(ho:o<cs.size)
  (h:∀w',w'.heap[b]?=some (.cells (cs.setIfInBounds o v) e (0,0))->(∀k,k≠b->w'.heap[k]?=w.heap[k]?)->Same w w'->wpList P ops Q rest a w'):
  wpList P ops Q ({dst:=none,op:=.store t x y,type:=ty,pos:=pos,after:=after,guard:=none}::rest) a w:=by
 obtain⟨w',e1,e2,e3,e4⟩:=dM (P:=P) (o:=o) [v] 0 cs w hb (by simp only[ags];omega) (fun j _=>by omega) (fun u hu=>by rw[afK.1 hu];exact hv);refine wpList_plain rfl fun K hK=>?_;have hr:(execOp a.eval {dst:=none,op:=.store t x y,type:=ty,pos:=pos,after:=after,guard:=none}).run P w=.ok .skip w':=by
  have hne:¬(#[v].size≠1):=by simp
  simp only[execOp,hp,hy,Instr.storeAt,Instr.sureAddr,Sem.run_bind,Sem.run_pure,Result.andThen_ok,storeVar,cells_one hv,run_sizeOf hsz,afO hne];rw[e1];rfl
 unfold Oper.wp;rw[hr];exact hK _ _ (h w' e2 e3 e4)
end
section
variable {P : Program} {ops : Array Oper} {Q : Exit -> Act -> World -> Prop} {a : Act} {w : World} {rest : List Oper} {t : TypeId} {x y : Operand} {ty : TypeId} {pos : String} {after : Array Edge} {b : Nat} {cs : Array Value} {e : TypeId} {vs : List Value}
theorem kJ{o:Nat}(hp:a.eval x=.pointer (some ⟨b,o,none⟩))(hy:a.eval y=.agg vs.toArray)(hsz:sizeT P t=some vs.length)(hb:w.heap[b]?=some (.cells cs e (0,0)))(hle:o+vs.length<=cs.size)(hone:vs.all Value.oneCell'=true)
  (h:∀w',w'.heap[b]?=some (.cells (kZ cs o vs) e (0,0))->(∀k,k≠b->w'.heap[k]?=w.heap[k]?)->Same w w'->wpList P ops Q rest a w'):
  wpList P ops Q ({dst:=none,op:=.store t x y,type:=ty,pos:=pos,after:=after,guard:=none}::rest) a w:=by
 obtain⟨w',e1,e2,e3,e4⟩:=dM (P:=P) (o:=o) vs 0 cs w hb (by omega) (fun j _=>by omega) (fun v hv=>agk.1 hone v hv);refine wpList_plain rfl fun K hK=>?_;have hr:(execOp a.eval {dst:=none,op:=.store t x y,type:=ty,pos:=pos,after:=after,guard:=none}).run P w=.ok .skip w':=by
  have hne:¬(vs.toArray.size≠vs.length):=by simp
  simp only[execOp,hp,hy,Instr.storeAt,Instr.sureAddr,Sem.run_bind,Sem.run_pure,Result.andThen_ok,storeVar,Value.cells,run_sizeOf hsz,afO hne];rw[e1];rfl
 unfold Oper.wp;rw[hr];exact hK _ _ (h w' (by rw[e2,agV]) e3 e4)
end
section
variable {P : Program} {Q : Exit -> Act -> World -> Prop} {K : Act -> World -> Prop} {a : Act} {w : World} {t : TypeId} {x y : Operand} {ty : TypeId} {pos : String} {after : Array Edge} {b : Nat} {cs : Array Value} {e : TypeId} {vs : List Value}
theorem FB{o:Nat}(hp:a.eval x=.pointer (some ⟨b,o,none⟩))(hy:a.eval y=.agg vs.toArray)(hsz:sizeT P t=some vs.length)(hb:w.heap[b]?=some (.cells cs e (0,0)))(hle:o+vs.length<=cs.size)(hone:vs.all Value.oneCell'=true)
  (h:∀w',w'.heap[b]?=some (.cells (kZ cs o vs) e (0,0))->(∀k,k≠b->w'.heap[k]?=w.heap[k]?)->Same w w'->K a w'):
  Oper.wp P {dst:=none,op:=.store t x y,type:=ty,pos:=pos,after:=after,guard:=none} a w K Q:=by
 obtain⟨w',e1,e2,e3,e4⟩:=dM (P:=P) (o:=o) vs 0 cs w hb (by omega) (fun j _=>by omega) (fun v hv=>agk.1 hone v hv);have hr:(execOp a.eval {dst:=none,op:=.store t x y,type:=ty,pos:=pos,after:=after,guard:=none}).run P w=.ok .skip w':=by
  have hne:¬(vs.toArray.size≠vs.length):=by simp
  simp only[execOp,hp,hy,Instr.storeAt,Instr.sureAddr,Sem.run_bind,Sem.run_pure,Result.andThen_ok,storeVar,Value.cells,run_sizeOf hsz,afO hne];rw[e1];rfl
 unfold Oper.wp;rw[hr];exact h w' (by rw[e2,agV]) e3 e4
theorem aG(hp:a.eval x=.pointer (some ⟨b,0,none⟩))(hy:a.eval y=.agg vs.toArray)(hsz:sizeT P t=some vs.length)(hb:w.heap[b]?=some (.cells cs e (0,0)))(hle:cs.size=vs.length)(hone:vs.all Value.oneCell'=true)
  (h:∀w',w'.heap[b]?=some (.cells vs.toArray e (0,0))->(∀k,k≠b->w'.heap[k]?=w.heap[k]?)->Same w w'->K a w'):
  Oper.wp P {dst:=none,op:=.store t x y,type:=ty,pos:=pos,after:=after,guard:=none} a w K Q:=
 FB hp hy hsz hb (by omega) hone fun w' h1 h2 h3=>h w' (by rw[h1,nT vs cs hle.symm]) h2 h3
theorem aI{o:Nat}{v:Value}(hp:a.eval x=.pointer (some ⟨b,o,none⟩))(hy:a.eval y=v)(hv:v.oneCell'=true)(hsz:sizeT P t=some 1)(hb:w.heap[b]?=some (.cells cs e (0,0)))(ho:o<cs.size)
  (h:∀w',w'.heap[b]?=some (.cells (cs.setIfInBounds o v) e (0,0))->(∀k,k≠b->w'.heap[k]?=w.heap[k]?)->Same w w'->K a w'):
  Oper.wp P {dst:=none,op:=.store t x y,type:=ty,pos:=pos,after:=after,guard:=none} a w K Q:=by
 obtain⟨w',e1,e2,e3,e4⟩:=dM (P:=P) (o:=o) [v] 0 cs w hb (by simp only[ags];omega) (fun j _=>by omega) (fun u hu=>by rw[afK.1 hu];exact hv);have hr:(execOp a.eval {dst:=none,op:=.store t x y,type:=ty,pos:=pos,after:=after,guard:=none}).run P w=.ok .skip w':=by
  have hne:¬(#[v].size≠1):=by simp
  simp only[execOp,hp,hy,Instr.storeAt,Instr.sureAddr,Sem.run_bind,Sem.run_pure,Result.andThen_ok,storeVar,cells_one hv,run_sizeOf hsz,afO hne];rw[e1];rfl
 unfold Oper.wp;rw[hr];exact h w' (by rw[e2];rfl) e3 e4
end
end Go.Proofs.YtkjgogdkdejljaaGreatDoor.AX
namespace Go.Proofs.YtkjgogdkdejljaaGreatDoor.Df
open Go Go.Proofs Go.RowKit Go.Shelf
attribute [local go_sem] Oper.semAt_some
theorem bK{P:Program}{ops:Array Oper}{Q:Exit->Act->World->Prop}{a:Act}{w:World}{rest:List Oper}{t:TypeId}{x y:Operand}{ty:TypeId}{pos:String}{after:Array Edge}(h:wpList P ops Q ({dst:=none,op:=.store t x y,type:=ty,pos:=pos,after:=after,guard:=none}::rest) a w):
 wpList P ops Q ({dst:=none,op:=.store t x y,type:=ty,pos:=pos,after:=after,guard:=none}::rest) a w:=h
def Bx(w:World)(b:Nat)(t:TypeId)(cs:Array Value):Prop:=w.heap[b]?=some (.cells cs t (0,0))
theorem Bx.lt{w:World}{B:Nat}{t:TypeId}{cs:Array Value}(h:Bx w B t cs):B<w.heap.size:=(afF.1 h).1
theorem Bx.new(w:World)(t:TypeId)(cs:Array Value):Bx (w.alloc (.cells cs t)) w.heap.size t cs:=World.alloc_heap_new w _
theorem Bx.cell{w:World}{B:Nat}{t:TypeId}{cs:Array Value}(h:Bx w B t cs)(j:Nat):w.cell? ⟨B,j,none⟩=cs[j]?:=by simp[World.cell?,show w.heap[B]?=_ from h]
theorem Bx.frozen{w:World}{B:Nat}{t:TypeId}{cs:Array Value}(h:Bx w B t cs)(j:Nat):w.frozen? ⟨B,j,none⟩=false:=by simp[World.frozen?,show w.heap[B]?=_ from h]
theorem Bx.below{n B:Nat}{t:TypeId}{cs:Array Value}{w w':World}(h:Bx w B t cs)(hb:Below n w w')(hn:B<n):Bx w' B t cs:=(hb.block _ hn).trans h
theorem Bx.same{B:Nat}{t:TypeId}{cs:Array Value}{w w':World}(h:Bx w B t cs)(e:w'.heap[B]?=w.heap[B]?):Bx w' B t cs:=e.trans h
theorem Bx.alloc{w:World}{B:Nat}{t:TypeId}{cs:Array Value}(h:Bx w B t cs)(o:Obj):Bx (w.alloc o) B t cs:=(Below.heap_alloc _ _ _ h.lt).trans h
theorem Bx.set{w:World}{B:Nat}{t:TypeId}{cs:Array Value}(h:Bx w B t cs)(i:Nat)(v:Value):Bx (w.setCell ⟨B,i,none⟩ v) B t (cs.setIfInBounds i v):=by
 have h':w.heap[B]?=_:=h;simp[Bx,World.setCell,ahx,h']
theorem Bx.other{W:World}{B B' i:Nat}{t:TypeId}{cs:Array Value}{v:Value}(h:Bx W B t cs)(hne:B≠B'):Bx (W.setCell ⟨B',i,none⟩ v) B t cs:=h.same (Below.heap_setCell _ _ _ _ hne)
theorem EJ(a:Nat)(ha:a<18446744073709551616):bits .xor .u64 18446744073709551615 (a:Int)=(nw a:Nat):=by
 have h1:(BitVec.ofInt 64 (a:Int)).toNat=a:=by
  rw[BitVec.ofInt_natCast,BitVec.toNat_ofNat];exact ahN (by omega)
 have h2:(BitVec.ofInt 64 (18446744073709551615:Int)).toNat=18446744073709551615:=by decide
 have h3:=oQ a ha
 show IntKind.u64.wrap ((BitVec.ofInt 64 18446744073709551615 ^^^ BitVec.ofInt 64 (a:Int)).toNat:Int)=_
 rw[BitVec.toNat_xor,h1,h2,IntKind.wrap_u64];unfold nw at h3⊢;omega
theorem iU(a:Nat)(ha:a<18446744073709551616):bits .xor .u64 (if IntKind.u64.signed=true then -1 else IntKind.u64.max) (a:Int)=(nw a:Nat):=EJ a ha
theorem vY:AX.sizeT Tryz.prog 116=some 4:=by kernel_rfl
theorem tC(x0 x1 x2 x3:Value)(w:World):(Instr.index 116 (.agg #[x0,x1,x2,x3]) (.int .i64 0)).run Tryz.prog w=.ok x0 w:=by kernel_rfl
theorem tH(x0 x1 x2 x3:Value)(w:World):(Instr.index 116 (.agg #[x0,x1,x2,x3]) (.int .i64 1)).run Tryz.prog w=.ok x1 w:=by kernel_rfl
theorem tJ(x0 x1 x2 x3:Value)(w:World):(Instr.index 116 (.agg #[x0,x1,x2,x3]) (.int .i64 2)).run Tryz.prog w=.ok x2 w:=by kernel_rfl
theorem tK(x0 x1 x2 x3:Value)(w:World):(Instr.index 116 (.agg #[x0,x1,x2,x3]) (.int .i64 3)).run Tryz.prog w=.ok x3 w:=by kernel_rfl
def nk(k i a:Nat):Value:=.int .u64 ((if i<k then nw a else a:Nat):Int)
theorem LJ(a b c d:Nat)(ha:a<18446744073709551616)(hb:b<18446744073709551616)(hc:c<18446744073709551616)(hd:d<18446744073709551616)(w:World):
  Calls Tryz.prog 104 #[.agg #[.int .u64 a,.int .u64 b,.int .u64 c,.int .u64 d]] w fun e w'=>e=.returned (.agg #[.int .u64 (nw a:Nat),.int .u64 (nw b:Nat),.int .u64 (nw c:Nat),.int .u64 (nw d:Nat)])/\Below w.heap.size w w':=by
 have xa:=iU a ha;have xb:=iU b hb;have xc:=iU c hc;have xd:=iU d hd;clear ha hb hc hd;go_enter Tryz.func104,Tryz.ntmps104
 go_wp2
 go_loopw [6] (fun i wr=>∃k:Nat,k<=4/\i=.int .i64 k/\Bx wr w.heap.size 116 #[nk k 0 a,nk k 1 b,nk k 2 c,nk k 3 d]/\Bx wr (w.heap.size+1) 116 #[.int .u64 0,.int .u64 0,.int .u64 0,.int .u64 0]/\Below w.heap.size w wr)
  (fun i _=>4-(RowKit.intOf i).toNat)
 case atStart=>exact⟨0,by omega,rfl,(Bx.new w 116 _).alloc _,by have:=Bx.new (w.alloc (.cells #[.int .u64 a,.int .u64 b,.int .u64 c,.int .u64 d] 116)) 116 #[.int .u64 0,.int .u64 0,.int .u64 0,.int .u64 0];simpa using this,((afI _ w).alloc afD _).alloc (by simp) _⟩
 case round =>
  obtain⟨k,hk,rfl,h1,h2,hB⟩:=hrel;obtain rfl|rfl|rfl|rfl|rfl:k=0\/k=1\/k=2\/k=3\/k=4:=by omega
  ·have c0:wr.cell? ⟨w.heap.size,0,none⟩=some (.int .u64 (a:Nat)):=h1.cell 0
   have f0:=h1.frozen 0;have ix:=tC (.int .u64 a) (.int .u64 b) (.int .u64 c) (.int .u64 d);have hs:Bx (wr.setCell ⟨w.heap.size,0,none⟩ (.int .u64 (nw a:Nat))) w.heap.size 116 #[nk 1 0 a,nk 1 1 b,nk 1 2 c,nk 1 3 d]:=Bx.set h1 0 (.int .u64 (nw a:Nat));have ho:Bx (wr.setCell ⟨w.heap.size,0,none⟩ (.int .u64 (nw a:Nat))) (w.heap.size+1) 116 _:=h2.other (by omega);have hb:=hB.setCell (p:=⟨w.heap.size,0,none⟩) afD (.int .u64 (nw a:Nat));go_wp2
   exact⟨⟨1,by omega,rfl,hs,ho,hb⟩,by simp[RowKit.intOf]⟩
  ·have c0:wr.cell? ⟨w.heap.size,1,none⟩=some (.int .u64 (b:Nat)):=h1.cell 1
   have f0:=h1.frozen 1;have ix:=tH (.int .u64 a) (.int .u64 b) (.int .u64 c) (.int .u64 d);have hs:Bx (wr.setCell ⟨w.heap.size,1,none⟩ (.int .u64 (nw b:Nat))) w.heap.size 116 #[nk 2 0 a,nk 2 1 b,nk 2 2 c,nk 2 3 d]:=Bx.set h1 1 (.int .u64 (nw b:Nat));have ho:Bx (wr.setCell ⟨w.heap.size,1,none⟩ (.int .u64 (nw b:Nat))) (w.heap.size+1) 116 _:=h2.other (by omega);have hb:=hB.setCell (p:=⟨w.heap.size,1,none⟩) afD (.int .u64 (nw b:Nat));go_wp2
   exact⟨⟨2,by omega,rfl,hs,ho,hb⟩,by simp[RowKit.intOf]⟩
  ·have c0:wr.cell? ⟨w.heap.size,2,none⟩=some (.int .u64 (c:Nat)):=h1.cell 2
   have f0:=h1.frozen 2;have ix:=tJ (.int .u64 a) (.int .u64 b) (.int .u64 c) (.int .u64 d);have hs:Bx (wr.setCell ⟨w.heap.size,2,none⟩ (.int .u64 (nw c:Nat))) w.heap.size 116 #[nk 3 0 a,nk 3 1 b,nk 3 2 c,nk 3 3 d]:=Bx.set h1 2 (.int .u64 (nw c:Nat));have ho:Bx (wr.setCell ⟨w.heap.size,2,none⟩ (.int .u64 (nw c:Nat))) (w.heap.size+1) 116 _:=h2.other (by omega);have hb:=hB.setCell (p:=⟨w.heap.size,2,none⟩) afD (.int .u64 (nw c:Nat));go_wp2
   exact⟨⟨3,by omega,rfl,hs,ho,hb⟩,by simp[RowKit.intOf]⟩
  ·have c0:wr.cell? ⟨w.heap.size,3,none⟩=some (.int .u64 (d:Nat)):=h1.cell 3
   have f0:=h1.frozen 3;have ix:=tK (.int .u64 a) (.int .u64 b) (.int .u64 c) (.int .u64 d);have hs:Bx (wr.setCell ⟨w.heap.size,3,none⟩ (.int .u64 (nw d:Nat))) w.heap.size 116 #[nk 4 0 a,nk 4 1 b,nk 4 2 c,nk 4 3 d]:=Bx.set h1 3 (.int .u64 (nw d:Nat));have ho:Bx (wr.setCell ⟨w.heap.size,3,none⟩ (.int .u64 (nw d:Nat))) (w.heap.size+1) 116 _:=h2.other (by omega);have hb:=hB.setCell (p:=⟨w.heap.size,3,none⟩) afD (.int .u64 (nw d:Nat));go_wp2
   exact⟨⟨4,by omega,rfl,hs,ho,hb⟩,by simp[RowKit.intOf]⟩
  ·have c0:wr.cell? ⟨w.heap.size,0,none⟩=some (.int .u64 (nw a:Nat)):=h1.cell 0
   have c1:wr.cell? ⟨w.heap.size,1,none⟩=some (.int .u64 (nw b:Nat)):=h1.cell 1;have c2:wr.cell? ⟨w.heap.size,2,none⟩=some (.int .u64 (nw c:Nat)):=h1.cell 2;have c3:wr.cell? ⟨w.heap.size,3,none⟩=some (.int .u64 (nw d:Nat)):=h1.cell 3;clear xa xb xc xd;go_wp2_with ((with_reducible refine bK ?_);refine AX.aj (vs:=[.int .u64 (nw a:Nat),.int .u64 (nw b:Nat),.int .u64 (nw c:Nat),.int .u64 (nw d:Nat)]) rfl rfl vY h2 rfl rfl ?_;rintro W9 h3 h4 h5)
   have h3':Bx W9 (w.heap.size+1) 116 #[.int .u64 (nw a:Nat),.int .u64 (nw b:Nat),.int .u64 (nw c:Nat),.int .u64 (nw d:Nat)]:=h3;have d0:=h3'.cell 0;have d1:=h3'.cell 1;have d2:=h3'.cell 2;have d3:=h3'.cell 3;have hB9:Below w.heap.size w W9:=hB.trans (AX.ah (by omega) (.inl (afF.1 h3).1) h4 h5);exact afJ (v:=.agg #[.int .u64 (nw a:Nat),.int .u64 (nw b:Nat),.int .u64 (nw c:Nat),.int .u64 (nw d:Nat)]) (by simp[results,Tryz.results81,go_sem,d0,d1,d2,d3]) rfl ⟨rfl,hB9⟩
end Go.Proofs.YtkjgogdkdejljaaGreatDoor.Df
