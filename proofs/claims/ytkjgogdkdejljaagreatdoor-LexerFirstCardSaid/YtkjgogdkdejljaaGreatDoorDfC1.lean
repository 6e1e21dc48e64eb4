import Derived.Test.YtkjgogdkdejljaaGreatDoorDfB8c
set_option maxRecDepth 100000
set_option maxHeartbeats 40000000
namespace Go.Proofs.YtkjgogdkdejljaaGreatDoor.Df
section
open Go.Lib (hid)
open Go Go.Proofs Go.RowKit
open Rx (Nd dL iM jE pre_eq jB IRd XAt)
attribute [local go_sem] Oper.semAt_some
def Ce:List (Nat×Nat):=[(0,0),(1,0),(2,0),(3,0),(4,0),(5,2),(6,2),(7,2)]
theorem Na{base Bb:Nat}{Wb:World}{v:Value}{r:List Nd}(hWb:Wb.heap.size<=base)(hR:jB Wb v r)(f i:Nat){x:Nd}(hx:r[i]?=some x)(hxd:r.getD i default=x)(nd:iM i x)(wd:x.a<18446744073709551616/\x.b<18446744073709551616/\x.c<18446744073709551616/\x.d<18446744073709551616)
  (jl:Kids base Bb Wb v r f x.kids) (hno:∀k∈x.kids,∀s,iG s->NdP s (aO r f k s) (szN r k)) (w:World) (s:NS) (cv rv sv:Value) (ms:List Nat) (hs:iG s) (hlow:Below base Wb w) (hd:Bd base w Bb cv rv sv s ms) (hsz:s.cl.length+(1+szK r x.kids)<=100000) (hb:base<=w.heap.size):
  Calls Tryz.prog 57 #[.pointer (some ⟨Bb,0,none⟩),v,.int .i64 i] w (qN base Bb (aO r (f+1) i s) w):=by
 have hk:=nd.k;have FV:aO r (f+1) (i:Int) s=if x.k=1 then (s,⟨true,[],[]⟩)else if x.k=2 then (s.push (klN x),⟨false,[(s.cl.length:Int)],[(s.cl.length:Int)]⟩)
   else if x.k=3 then x.kids.tail.foldl (jA (aO r f)) (aO r f (x.kids.getD 0 0) s)else if x.k=4 then x.kids.foldl (iF (aO r f)) (s,⟨false,[],[]⟩)
   else (if x.k=7 then (aO r f (x.kids.getD 0 0) s).1 else (aO r f (x.kids.getD 0 0) s).1.join (aO r f (x.kids.getD 0 0) s).2.l (aO r f (x.kids.getD 0 0) s).2.f,⟨(aO r f (x.kids.getD 0 0) s).2.e || !decide (x.k=6),(aO r f (x.kids.getD 0 0) s).2.f,(aO r f (x.kids.getD 0 0) s).2.l⟩):=by
  conv=>lhs;unfold aO
  rw[afY,hxd]
 obtain⟨la,c,rfl,hnil,hRR⟩:=hR;have hi:i<r.length:=(afW.1 hx).1;obtain⟨B,off,rfl,hB,hX⟩:∃B off,la=some ⟨B,off,none⟩/\B<Wb.heap.size/\XAt Wb B (off+i*6) x:=by
  cases la with
  | none=>rw[hnil rfl]at hi;cases hi
  | some a =>
   obtain⟨B,off,e,h2,h3⟩:=hRR a rfl (fun e=>by rw[e]at hi;cases hi);exact⟨B,off,by rw[e],h2,h3 i x hx⟩
 obtain⟨n,hn⟩:=afC r.length;have hi0:(0:Int)<=(i:Int):=by omega
 have hi1:(i:Int)<(n:Int):=by omega
 obtain⟨A,hA⟩:=afC w.heap.size;obtain⟨W0,hW0⟩:=afC (w.alloc (.cells #[.bool false,.map none,.map none] 118));have hb0:Below w.heap.size w W0:=by rw[hW0];exact (afI w.heap.size w).alloc afD _
 have xa:Bx W0 A 118 #[.bool false,.map none,.map none]:=by rw[hW0,hA];exact Bx.new w 118 _
 have hz0:W0.heap.size=A+1:=by rw[hW0,hA];simp
 have hlow0:Below base Wb W0:=hlow.trans (hb0.mono hb);obtain⟨z0,z1,z2,z3,z4,kv,z5,z6⟩:=hX;have hBb:B<base:=by omega
 have y0:=(hlow0.cell (p:=⟨B,off+i*6,none⟩) hBb).trans z0;have y1:=(hlow0.cell (p:=⟨B,off+i*6+1,none⟩) hBb).trans z1;have y2:=(hlow0.cell (p:=⟨B,off+i*6+2,none⟩) hBb).trans z2;have y3:=(hlow0.cell (p:=⟨B,off+i*6+3,none⟩) hBb).trans z3;have y4:=(hlow0.cell (p:=⟨B,off+i*6+4,none⟩) hBb).trans z4;have y5:=(hlow0.cell (p:=⟨B,off+i*6+5,none⟩) hBb).trans z5;have hd0:=hd.below hb0;have hk0:Kp base w W0:=Kp.of_below hb0 hb;have kv1:kv.oneCell'=true:=by obtain⟨_,_,e,_⟩:=z6;rw[e];rfl
 have HX:=hid hx;have HND:=hid FV;have HB:=hid hb;have HA:=hid hA;have HN:=hid hn;have HZ:=hid hsz;rw[<-hn]at jl⊢;have HK:=hid jl;have HNo:=hid hno;have HS:=hid hs;have Po:=hid hlow;have HD:=hid nd;clear z0 z1 z2 z3 z4 z5 hRR hnil hn hx hxd FV hd jl hno hs hlow nd hsz;go_enter Tryz.func57,Tryz.ntmps57
 go_upto_region 1 with fail
 rw[<-hW0,<-hA];clear hW0 hA hb;have hb1:=(afI W0.heap.size W0).alloc afD (.cells #[.int .i64 0,.int .u64 0,.int .u64 0,.int .u64 0,.int .u64 0,.slice none 0 0] 153);have xb:=Bx.new W0 153 #[.int .i64 0,.int .u64 0,.int .u64 0,.int .u64 0,.int .u64 0,.slice none 0 0];rw[hz0]at xb;go_upto_region 2 with ((with_reducible refine dI ?_);refine AX.aj (vs:=[.int .i64 x.k,.int .u64 (x.a:Nat),.int .u64 (x.b:Nat),.int .u64 (x.c:Nat),.int .u64 (x.d:Nat),kv]) rfl rfl aai xb rfl (by show(true && (true && (true && (true && (true && (kv.oneCell' && true))))))=true;rw[kv1];rfl) ?_;rintro W1 g3 g4 g5)
 have x1:Bx W1 (A+1) 153 #[.int .i64 x.k,.int .u64 (x.a:Nat),.int .u64 (x.b:Nat),.int .u64 (x.c:Nat),.int .u64 (x.d:Nat),kv]:=g3;have hl1:Below W0.heap.size W0 W1:=hb1.trans (AX.ah (afT hz0) (.inl x1.lt) g4 g5);have hNc:Nc base w A x kv W1:=⟨xa.below hl1 xa.lt,x1,hk0.trans (Kp.of_below hl1 (by have:=HB.out;have:=HA.out;omega)),by have:=HB.out;have:=HA.out;have:=hl1.size;omega,afT HA.out.symm⟩;have kD:=hd0.below hl1;have hlow1:Below base Wb W1:=hlow0.trans (hl1.mono (by have:=HB.out;have:=HA.out;omega));have q0:W1.cell? ⟨A+1,0,none⟩=some (.int .i64 x.k):=x1.cell 0;clear g3 g4 g5 hb1 xb xa hd0 hk0 hlow0 y0 y1 y2 y3 y4 y5 hz0 hb0 hl1;have hcase:x.k=1\/x.k=2\/x.k=3\/x.k=4\/(4<x.k/\x.k<=7):=by omega
 obtain⟨kk,hkk⟩:=afC x.k;have HKK:=hid hkk;rw[<-hkk]at q0 hcase;have hmk:=fun W=>FQ W;clear x1 hk hkk kv1;rcases hcase with rfl|rfl|rfl|rfl|⟨h5,h7⟩
 ·have hdf:=HND.out
  rw[afR HKK.out.symm]at hdf;have hm1:=(afI W1.heap.size W1).alloc afD (.map #[] 0);have s1:=aN.new W1;have n1:=hNc.go (Kp.of_below hm1 hNc.hb);have d1:=kD.below hm1;have hm2:=(afI (W1.alloc (.map #[] 0)).heap.size (W1.alloc (.map #[] 0))).alloc afD (.map #[] 0);have s2:=aN.new (W1.alloc (.map #[] 0));have s1':=s1.below hm2 afD;have n2:=n1.go (Kp.of_below hm2 n1.hb);have d2:=d1.below hm2;rw[show (W1.alloc (.map #[] 0)).heap.size=W1.heap.size+1 by simp]at s2;have x2:=n2.xa;have HDF:=hid hdf;clear hm1 hm2 s1 n1 d1 hdf;go_upto_region 4 with fail
  go_wp2_with ((with_reducible refine dI ?_);refine AX.aj (vs:=[.bool true,.map (some W1.heap.size),.map (some (W1.heap.size+1))]) rfl rfl jg x2 rfl rfl ?_;rintro W9 g3 g4 g5)
  have x9:Bx W9 A 118 #[.bool true,.map (some W1.heap.size),.map (some (W1.heap.size+1))]:=g3;have d0:W9.cell? ⟨A,0,none⟩=some (.bool true):=x9.cell 0;have d1:W9.cell? ⟨A,1,none⟩=some (.map (some W1.heap.size)):=x9.cell 1;have d3:W9.cell? ⟨A,2,none⟩=some (.map (some (W1.heap.size+1))):=x9.cell 2;exact afJ (v:=plV true W1.heap.size (W1.heap.size+1)) (by simp[results,Tryz.results57,go_sem,d0,d1,d3,plV]) rfl (by rw[HDF.out];exact n2.fin (y:=(s,⟨true,[],[]⟩)) HB.out d2 s1' s2 rfl x9 g4 g5)
 ·have hdf:=HND.out
  rw[afO (by have:=HKK.out;omega),afR HKK.out.symm]at hdf;have HDF:=hid hdf;have hcl:=Cc (klN x) W1 kD (by have:=HZ.out;omega) hNc.hb;obtain⟨w1,w2,w3,w4⟩:=XV wd;rw[w1,w2,w3,w4]at hcl;have q1:W1.cell? ⟨A+1,1,none⟩=some (.int .u64 (x.a:Nat)):=hNc.xb.cell 1;have q2:W1.cell? ⟨A+1,1+1,none⟩=some (.int .u64 (x.b:Nat)):=hNc.xb.cell 2;have q3:W1.cell? ⟨A+1,1+2,none⟩=some (.int .u64 (x.c:Nat)):=hNc.xb.cell 3;have q4:W1.cell? ⟨A+1,1+3,none⟩=some (.int .u64 (x.d:Nat)):=hNc.xb.cell 4;have q2':W1.cell? ⟨A+1,2,none⟩=some (.int .u64 (x.b:Nat)):=hNc.xb.cell 2;have q3':W1.cell? ⟨A+1,3,none⟩=some (.int .u64 (x.c:Nat)):=hNc.xb.cell 3;have q4':W1.cell? ⟨A+1,4,none⟩=some (.int .u64 (x.d:Nat)):=hNc.xb.cell 4;clear hdf w1 w2 w3 w4;go_wp2_with (first
   | (go_at_call 56;((with_reducible refine hcl.mono ?_);rintro e W2 ⟨r2,cv2,rv2,sv2,M,rfl,hset,qM,xB⟩;have n2:=hNc.go xB;have x2:=n2.xa))
   | ((with_reducible refine dI ?_);refine AX.aj (vs:=[.bool false,.map (some r2),.map (some r2)]) rfl rfl jg x2 rfl rfl ?_;rintro W9 g3 g4 g5))
  have x9:Bx W9 A 118 #[.bool false,.map (some r2),.map (some r2)]:=g3;have d0:W9.cell? ⟨A,0,none⟩=some (.bool false):=x9.cell 0;have d1:W9.cell? ⟨A,1,none⟩=some (.map (some r2)):=x9.cell 1;have d3:W9.cell? ⟨A,2,none⟩=some (.map (some r2)):=x9.cell 2;exact afJ (v:=plV false r2 r2) (by simp[results,Tryz.results57,go_sem,d0,d1,d3,plV]) rfl (by rw[HDF.out];exact n2.fin (y:=(s.push (klN x),⟨false,[(s.cl.length:Int)],[(s.cl.length:Int)]⟩)) HB.out qM hset hset rfl x9 g4 g5)
 ·have hdf:=HND.out
  rw[afO (by have:=HKK.out;omega),afO (by have:=HKK.out;omega),afR HKK.out.symm]at hdf;have hlow':=HD.out.low;have hkl:2<=x.kids.length:=by
   have h3:x.k=3:=HKK.out.symm;rw[h3]at hlow';simp[Rx.mQ]at hlow';omega
  have hhi:x.kids.length<=512:=by
   have h3:x.k=3:=HKK.out.symm;have:=HD.out.high;rw[h3]at this;simp[Rx.iO]at this;omega
  obtain⟨k0,kr,hkids⟩:∃k0 kr,x.kids=k0::kr:=List.exists_cons_of_ne_nil (fun e=>by rw[e]at hkl;simp at hkl);have aeS:kr.length<=512:=by rw[hkids]at hhi;simp at hhi;omega
  clear hhi;obtain⟨KB,ko,kc0,rfl,hKB,hkc⟩:=Ea z6 (fun e=>by rw[e]at hkl;simp at hkl);obtain⟨kc,FW⟩:=afC (x.kids.length+kc0);rw[<-FW]at hNc⊢;have aeT:¬kc=1:=by omega
  have qk:W1.cell? ⟨KB,ko,none⟩=some (.int .i64 k0):=(hlow1.cell (p:=⟨KB,ko,none⟩) (show KB<base by omega)).trans (by have:=hkc 0 k0 (by rw[hkids];rfl);rwa [agV]at this);have q5:W1.cell? ⟨A+1,5,none⟩=some (.slice (some ⟨KB,ko,none⟩) x.kids.length kc):=hNc.xb.cell 5;have hmem:k0∈x.kids:=by rw[hkids];exact afS ..
  have hsz0:szK r x.kids=szN r k0+szK r kr:=by rw[hkids];simp[szK]
  have hcall:=HK.out k0 hmem W1 s cv rv sv ms HS.out hlow1 kD (by have:=HZ.out;omega) hNc.hb;have hnd:=HNo.out k0 hmem s HS.out;rw[show x.kids.getD 0 0=k0 by rw[hkids];rfl,show x.kids.tail=kr by rw[hkids];rfl]at hdf;obtain⟨y,hy⟩:=afC (aO r f k0 s);rw[<-hy]at hdf hcall hnd;have HDF:=hid hdf;have HSZ:=hid hsz0;have HKD:=hid hkids;have HKC:=hid hkc;obtain⟨kl,hkl2⟩:=afC x.kids.length;have hkr:kl=kr.length+1:=by rw[hkl2,hkids];simp
  have hkp:(0:Int)<(kl:Int):=by omega
  have acU:(1:Int)<=(kl:Int):=by omega
  rw[<-hkl2]at q5;clear hdf hlow' hkl hkids hkc hsz0 hy hkl2 hmem FW z6;go_upto_region 10 with (first
   | (go_at_call 57;((with_reducible refine hcall.mono ?_);rintro e W2 ⟨rf,rl,cv2,rv2,sv2,ms2,rfl,hsf,hsl,qM,xB⟩;have n2:=hNc.go xB;have x2:=Bx.new W2 118 #[.bool false,.map none,.map none];have ha2:=(afI W2.heap.size W2).alloc afD (.cells #[.bool false,.map none,.map none] 118)))
   | ((with_reducible refine dI ?_);refine AX.aj (vs:=[.bool y.2.e,.map (some rf),.map (some rl)]) rfl rfl jg x2 rfl rfl ?_;rintro W3 g3 g4 g5))
  have x3:Bx W3 W2.heap.size 118 #[.bool y.2.e,.map (some rf),.map (some rl)]:=g3;have hl3:Below W2.heap.size W2 W3:=ha2.trans (AX.ah afD (.inl x3.lt) g4 g5);have n3:=n2.go (Kp.of_below hl3 n2.hb);have oh:=qM.below hl3;have uT:=hsf.below hl3 afD;have uU:=hsl.below hl3 afD;obtain⟨D,hD⟩:=afC W2.heap.size;rw[<-hD]at x3⊢;have hDb:w.heap.size<=D:=by have:=n2.kp.low.size;omega
  have hDA:A+1<D:=by rw[hD];exact n2.xb.lt
  have q5:W3.cell? ⟨A+1,5,none⟩=some (.slice (some ⟨KB,ko,none⟩) kl kc):=by
   have:=n3.xb.cell 5;rw[show x.kids.length=kl by rw[HKD.out,hkr];simp]at this;exact this
  clear g3 g4 g5 ha2 x2 n2 hsf hsl qM xB hl3 hD hcall qk;have aeU:=hid hkr;have UC:=hid hnd;have hct:Ct base Bb w A x (.slice (some ⟨KB,ko,none⟩) x.kids.length kc) D y W3:=⟨n3,⟨rf,rl,x3,uT,uU⟩,_,_,_,_,oh⟩;have hlo:∀W,Kp base w W->Below base Wb W:=fun W h=>Po.out.trans h.low;have Eb:=Ci;go_upto_region 11 with fail
  clear q5 hnd n3 x3 uT uU oh hkr hkp acU q0;go_loopw [50] (fun i wr=>∃(j:Nat)(t:NS×Pl),i=.int .i64 j/\j<=kr.length/\Hid (t=(kr.take j).foldl (jA (aO r f)) y)/\Ct base Bb w A x (.slice (some ⟨KB,ko,none⟩) x.kids.length kc) D t wr/\Hid (NdP s t (szN r k0+szK r (kr.take j)))) (fun i _=>kr.length-(RowKit.intOf i).toNat)
  case atStart=>exact⟨0,y,rfl,af0 _,hid (by simp),hct,hid (by simpa[szK]using UC.out)⟩
  case round =>
   obtain⟨j,t,rfl,hj,ht,hC,hN⟩:=hrel;have hj0:(0:Int)<=(j:Int):=(by omega);obtain⟨rf1,rl1,xd,sf,sl⟩:=hC.bx;obtain⟨cv1,rv1,sv1,ms1,bd⟩:=hC.bd;have n1:=hC.nc
   by_cases hlt:j<kr.length
   ·have hj1:(j:Int)<(kr.length:Int):=by omega
    obtain⟨k,hk⟩:∃k,kr[j]?=some k:=⟨_,afE hlt⟩;have XW:x.kids[1+j]?=some k:=(by rw[HKD.out,Nat.add_comm];exact hk);have hmem:k∈x.kids:=af7 XW;have qk:wr.cell? ⟨KB,ko+1+j,none⟩=some (.int .i64 k):=by
     have:=((hlo wr n1.kp).cell (p:=⟨KB,ko+(1+j),none⟩) (show KB<base by omega)).trans (HKC.out (1+j) k XW);rw[<-ah1]at this;exact this
    have hNt:=hN.out;have hst:=FX r kr hk;have hsn:=FY r kr hk;have hsz1:t.1.cl.length+szN r k<=100000:=by
     have h1:=hNt.most;have h2:=HZ.out;have h3:=HSZ.out;omega
    have hcall:=fun(W:World)(hb:Below wr.heap.size wr W)=>HK.out k hmem W t.1 cv1 rv1 sv1 ms1 hNt.ok ((hlo wr n1.kp).trans (hb.mono n1.hb)) (bd.below hb) hsz1 (agb n1.hb hb.size);have aaj:=HNo.out k hmem t.1 hNt.ok;have hnext:Hid (jA (aO r f) t k=(kr.take (j+1)).foldl (jA (aO r f)) y):=hid (by rw[hsn.1,agI,<-ht.out];rfl);have hN2:Hid (NdP s (jA (aO r f) t k) (szN r k0+szK r (kr.take (j+1)))):=hid (by
     have:=NdP.cat [k] t _ hNt fun k' hk'=>by rw[afK.1 hk'];exact HNo.out k hmem
     rw[hsn.2,<-ah1]
     simpa[szK]using this)
    have hin:∀z∈t.2.l,0<=z/\z<((aO r f k t.1).1.cl.length:Int):=fun z hz=>by
     have h1:=hNt.pl.l.i z hz;have h2:=aaj.up;omega
    obtain⟨y2,hy2⟩:=afC (aO r f k t.1);have Pv:jA (aO r f) t k=behind y2.1 t.2 y2.2:=(by rw[hy2];rfl);rw[Pv]at hnext hN2;rw[<-hy2]at hin hcall;have HIn:=hid hin;clear hy2 Pv hN hC aaj hsn hst hsz1 hNt hk XW hmem ht hin;go_upto_region 13 with fail
    obtain⟨C,hCi,hCo⟩:∃C:World->Prop,(∀W,C W->Bx W D 118 #[.bool t.2.e,.map (some rf1),.map (some rl1)])/\∀W,Bx W D 118 #[.bool t.2.e,.map (some rf1),.map (some rl1)]->C W:=⟨_,fun _ h=>h,fun _ h=>h⟩;have hC0:C wr.drew:=hCo _ xd;haveI:Inhabited (AX.CW C):=⟨⟨_,hC0⟩⟩;haveI:Inhabited (AX.CW fun _=>True):=⟨⟨w,trivial⟩⟩;have a0:∀p:AX.CW C,p.W.cell? ⟨D,0,none⟩=some (.bool t.2.e):=fun p=>(hCi _ p.h).cell 0;have a1:∀p:AX.CW C,p.W.cell? ⟨D,1,none⟩=some (.map (some rf1)):=fun p=>(hCi _ p.h).cell 1;have a2:∀p:AX.CW C,p.W.cell? ⟨D,2,none⟩=some (.map (some rl1)):=fun p=>(hCi _ p.h).cell 2;have hbd:=(afI wr.heap.size wr).drew;have XY:=hcall _ hbd;refine AX.dF (C:=fun W=>∃p:AX.CW C,W=p.W) (CT:=fun W=>∃p:AX.CW fun _=>True,W=p.W) 7 Ce _ (by kernel_rfl) (by kernel_rfl) rfl (by kernel_rfl) (by decide) (by kernel_rfl) (by kernel_rfl) (by intro c a d v w h;cases d<;>exact h) ⟨⟨⟨_,trivial⟩,rfl⟩,⟨⟨_,hC0⟩,rfl⟩⟩ ?_;unfold Ce;have n2:=n1.go (Kp.of_below hbd n1.hb);have xd2:=xd.below hbd xd.lt;have sf2:=sf.below hbd afD;have sl2:=sl.below hbd afD;obtain⟨Wd,hWd⟩:=afC wr.drew;rw[<-hWd]at XY n2 xd2 sf2 sl2⊢;clear hcall hWd n1 xd sf sl bd hbd hC0
    repeat (refine AX.bQ _ (by rfl) ?_;go_big_quiet_step (fail);refine afQ ?_)
    refine AX.dW XY (by rfl) (by rfl) (by rfl) Tryz.func57 (by kernel_rfl) (by rfl) (by simp only[agh,agd,agm];rfl) ?_;rintro e W4 ⟨rf2,rl2,cv2,rv2,sv2,ms2,rfl,tf,tl,bd4,kp4⟩;have xd4:=xd2.kp kp4 Eb;have n4:=n2.go kp4;have hbh:=Jc (p:=t.2) (q:=y2.2) W4 bd4 (sf2.kp kp4) (sl2.kp kp4) tf tl HIn.out n4.hb;refine⟨_,rfl,⟨⟨⟨W4,trivial⟩,rfl⟩,fun _=>⟨⟨W4,hCo _ xd4⟩,rfl⟩⟩,?_⟩;simp only[show Nat.beq 5 7=false from rfl,ahT,Act.put,afH,afL,afM];refine AX.dW hbh (by rfl) (by rfl) (by rfl) Tryz.func96 (by kernel_rfl) (by rfl) (by simp only[agh,agd,agm];rfl) ?_;rintro e W5 ⟨rf3,rl3,cv3,rv3,sv3,ms3,rfl,uf,ul,bd5,kp5⟩;have xd5:=xd4.kp kp5 Eb;have n5:=n4.go kp5;refine⟨_,rfl,⟨⟨⟨W5,trivial⟩,rfl⟩,fun _=>⟨⟨W5,hCo _ xd5⟩,rfl⟩⟩,?_⟩;simp only[show Nat.beq 6 7=false from rfl,ahT,Act.put,afH,afL,afM];refine AX.aV _ (by rfl) (by rfl) ?_;refine AX.aG (vs:=[.bool (behind y2.1 t.2 y2.2).2.e,.map (some rf3),.map (some rl3)]) rfl rfl jg xd5 rfl rfl ?_;rintro W6 g3 g4 g5;have x6:Bx W6 D 118 #[.bool (behind y2.1 t.2 y2.2).2.e,.map (some rf3),.map (some rl3)]:=g3;have hs6:dH 118 W5 W6:=aP xd5 g4;have hl6:Below base W5 W6:=AX.ah (by have:=HB.out;omega) (.inl x6.lt) g4 g5;have n6:Nc base w A x (.slice (some ⟨KB,ko,none⟩) x.kids.length kc) W6:=⟨(g4 A (by omega)).trans n5.xa,n5.xb.aW hs6 (by decide),⟨n5.kp.low.trans hl6,fun j o hj hn=>(g4 j (by have:=(afF.1 hj).1;omega)).trans (n5.kp.keep j o hj hn)⟩,agb n5.hb hl6.size,n5.hA⟩;have hC6:Ct base Bb w A x (.slice (some ⟨KB,ko,none⟩) x.kids.length kc) D (behind y2.1 t.2 y2.2) W6:=⟨n6,⟨rf3,rl3,x6,uf.aW hs6,ul.aW hs6⟩,_,_,_,_,bd5.sb hs6 (by decide) (by decide) (by decide) (by decide)⟩;refine⟨⟨⟨⟨W6,trivial⟩,rfl⟩,fun h=>by cases h⟩,?_⟩;clear g3 g4 g5 x6 hs6 hl6 n6 n5 xd5 bd5 uf ul kp5 kp4 bd4 tf tl n4 xd4 hbh XY n2 xd2 sf2 sl2 a0 a1 a2;unfold AX.bC;go_wp2_with fail
    go_roundw
    case rel=>exact⟨j+1,_,by simp,by omega,hnext,hC6,hN2⟩
    case measure=>simp[RowKit.intOf];omega
   ·have hj1:¬(j:Int)<(kr.length:Int):=by omega
    have htt:t=kr.foldl (jA (aO r f)) y:=(by rw[ht.out,agW (by omega)]);have HTT:=hid htt;have c0:wr.cell? ⟨D,0,none⟩=some (.bool t.2.e):=xd.cell 0;have c1:wr.cell? ⟨D,1,none⟩=some (.map (some rf1)):=xd.cell 1;have c2:wr.cell? ⟨D,2,none⟩=some (.map (some rl1)):=xd.cell 2;obtain⟨be,hbe⟩:=afC t.2.e;rw[<-hbe]at c0;have HBE:=hid hbe;have xA:=n1.xa;clear htt hN ht hC hbe;go_wp2_with ((with_reducible refine dI ?_);refine AX.aj (vs:=[.bool be,.map (some rf1),.map (some rl1)]) rfl rfl jg xA rfl rfl ?_;rintro W9 u3 u4 u5)
    have x9:Bx W9 A 118 #[.bool be,.map (some rf1),.map (some rl1)]:=u3;have d0:W9.cell? ⟨A,0,none⟩=some (.bool be):=x9.cell 0;have d1:W9.cell? ⟨A,1,none⟩=some (.map (some rf1)):=x9.cell 1;have d3:W9.cell? ⟨A,2,none⟩=some (.map (some rl1)):=x9.cell 2;exact afJ (v:=plV be rf1 rl1) (by simp[results,Tryz.results57,go_sem,d0,d1,d3,plV]) rfl (by rw[HDF.out,<-HTT.out];exact n1.fin (y:=t) HB.out bd sf sl HBE.out x9 u4 u5)
 ·have hdf:=HND.out
  rw[afO (by have:=HKK.out;omega),afO (by have:=HKK.out;omega),afO (by have:=HKK.out;omega),afR HKK.out.symm]at hdf;have hlow':=HD.out.low;have hkl:2<=x.kids.length:=by
   have h3:x.k=4:=HKK.out.symm;rw[h3]at hlow';simp[Rx.mQ]at hlow';omega
  have hhi:x.kids.length<=512:=by
   have h3:x.k=4:=HKK.out.symm;have:=HD.out.high;rw[h3]at this;simp[Rx.iO]at this;omega
  obtain⟨KB,ko,kc0,rfl,hKB,hkc⟩:=Ea z6 (fun e=>by rw[e]at hkl;simp at hkl);obtain⟨kc,FW⟩:=afC (x.kids.length+kc0);rw[<-FW]at hNc⊢;have HKC:=hid hkc;have HDF:=hid hdf;obtain⟨kl,hkl2⟩:=afC x.kids.length;have hkle:kl<=512:=by omega
  have HKL:=hid hkl2;have hm1:=(afI W1.heap.size W1).alloc afD (.map #[] 0);have s1:=aN.new W1;have n1:=hNc.go (Kp.of_below hm1 hNc.hb);have d1:=kD.below hm1;have hm2:=(afI (W1.alloc (.map #[] 0)).heap.size (W1.alloc (.map #[] 0))).alloc afD (.map #[] 0);have s2:=aN.new (W1.alloc (.map #[] 0));have s1':=s1.below hm2 afD;have n2:=n1.go (Kp.of_below hm2 n1.hb);have d2:=d1.below hm2;have x2:=Bx.new ((W1.alloc (.map #[] 0)).alloc (.map #[] 0)) 118 #[.bool false,.map none,.map none];have ha2:=(afI ((W1.alloc (.map #[] 0)).alloc (.map #[] 0)).heap.size ((W1.alloc (.map #[] 0)).alloc (.map #[] 0))).alloc afD (.cells #[.bool false,.map none,.map none] 118);have hszz:((W1.alloc (.map #[] 0)).alloc (.map #[] 0)).heap.size=W1.heap.size+1+1:=by simp
  rw[hszz]at x2;rw[show (W1.alloc (.map #[] 0)).heap.size=W1.heap.size+1 by simp]at s2;have HS1:=hid s1';have HS2:=hid s2;have HN2:=hid n2;have HD2:=hid d2;have HA2:=hid ha2;have HSZ:=hid hszz;clear hdf hlow' hkl hhi hkc FW hkl2 z6 hm1 s1 n1 d1 hm2 s1' s2 n2 d2 ha2 hszz;go_upto_region 18 with ((with_reducible refine dI ?_);refine AX.aj (vs:=[.bool false,.map (some W1.heap.size),.map (some (W1.heap.size+1))]) rfl rfl jg x2 rfl rfl ?_;rintro W3 g3 g4 g5)
  obtain⟨D,hD⟩:=afC (W1.heap.size+1+1);have x3:Bx W3 (W1.heap.size+1+1) 118 #[.bool false,.map (some W1.heap.size),.map (some (W1.heap.size+1))]:=g3;have hl3:Below (W1.heap.size+1+1) ((W1.alloc (.map #[] 0)).alloc (.map #[] 0)) W3:=by
   have:=HA2.out;rw[HSZ.out]at this;exact this.trans (AX.ah afD (.inl x3.lt) g4 g5)
  have Px:Below ((W1.alloc (.map #[] 0)).alloc (.map #[] 0)).heap.size ((W1.alloc (.map #[] 0)).alloc (.map #[] 0)) W3:=by rw[HSZ.out];exact hl3
  have n3:=HN2.out.go (Kp.of_below Px HN2.out.hb);have oh:=HD2.out.below Px;have uT:=HS1.out.below Px afD;have uU:=HS2.out.below Px afD;have hDb:w.heap.size<=D:=by have:=hNc.kp.low.size;omega
  have hDA:A+1<D:=by have:=hNc.xb.lt;omega
  have q5:W3.cell? ⟨A+1,5,none⟩=some (.slice (some ⟨KB,ko,none⟩) kl kc):=by
   rw[HKL.out];exact n3.xb.cell 5
  rw[<-hD]at x3⊢;have hct:Ct base Bb w A x (.slice (some ⟨KB,ko,none⟩) x.kids.length kc) D (s,⟨false,[],[]⟩) W3:=⟨n3,⟨_,_,x3,uT,uU⟩,_,_,_,_,oh⟩;have hlo:∀W,Kp base w W->Below base Wb W:=fun W h=>Po.out.trans h.low;have Eb:=Ci;have UC:=NdP.start HS.out;have acV:=hid UC;clear g3 g4 g5 x2 HS1 HS2 HN2 HD2 HA2 HSZ hl3 Px x3 hD UC;go_upto_region 19 with fail
  clear q5 n3 uT uU oh q0 hNc kD;go_loopw [71] (fun i wr=>∃(j:Nat)(t:NS×Pl),i=.int .i64 j/\j<=kl/\Hid (t=(x.kids.take j).foldl (iF (aO r f)) (s,⟨false,[],[]⟩))/\Ct base Bb w A x (.slice (some ⟨KB,ko,none⟩) x.kids.length kc) D t wr/\Hid (NdP s t (szK r (x.kids.take j)))) (fun i _=>kl-(RowKit.intOf i).toNat)
  case atStart=>exact⟨0,_,rfl,af0 _,hid (by simp),hct,hid (by simpa[szK]using acV.out)⟩
  case round =>
   obtain⟨j,t,rfl,hj,ht,hC,hN⟩:=hrel;have hj0:(0:Int)<=(j:Int):=(by omega);obtain⟨rf1,rl1,xd,sf,sl⟩:=hC.bx;obtain⟨cv1,rv1,sv1,ms1,bd⟩:=hC.bd;have n1:=hC.nc
   by_cases hlt:j<kl
   ·have hj1:(j:Int)<(kl:Int):=by omega
    obtain⟨k,hk⟩:∃k,x.kids[j]?=some k:=⟨_,afE (by have:=HKL.out;omega)⟩;have hmem:k∈x.kids:=af7 hk;have qk:wr.cell? ⟨KB,ko+j,none⟩=some (.int .i64 k):=((hlo wr n1.kp).cell (p:=⟨KB,ko+j,none⟩) (show KB<base by omega)).trans (HKC.out j k hk);have hNt:=hN.out;have hst:=FX r x.kids hk;have hsn:=FY r x.kids hk;have hsz1:t.1.cl.length+szN r k<=100000:=by
     have h1:=hNt.most;have h2:=HZ.out;omega
    have hcall:=HK.out k hmem wr t.1 cv1 rv1 sv1 ms1 hNt.ok (hlo wr n1.kp) bd hsz1 n1.hb;have hnext:Hid (iF (aO r f) t k=(x.kids.take (j+1)).foldl (iF (aO r f)) (s,⟨false,[],[]⟩)):=hid (by rw[hsn.1,agI,<-ht.out];rfl);have hN2:Hid (NdP s (iF (aO r f) t k) (szK r (x.kids.take (j+1)))):=hid (by
     have:=NdP.alt [k] t _ hNt fun k' hk'=>by rw[afK.1 hk'];exact HNo.out k hmem
     rw[hsn.2]
     simpa[szK]using this)
    obtain⟨y2,hy2⟩:=afC (aO r f k t.1);rw[<-hy2]at hcall;obtain⟨b0,hb0⟩:∃b,b=t.2.e:=⟨_,rfl⟩;obtain⟨b2,hb2⟩:∃b,b=y2.2.e:=⟨_,rfl⟩;have Pv:iF (aO r f) t k=(y2.1,MR ⟨b0,t.2.f,t.2.l⟩ ⟨b2,y2.2.f,y2.2.l⟩):=(by rw[hb0,hb2,hy2];rfl);rw[Pv]at hnext hN2;rw[<-hb0]at xd;have HB2:=hid hb2;clear hy2 Pv hN hC hsn hst hsz1 hNt hk hmem ht hb0 hb2 hct;go_upto_region 22 with (first
     | (go_at_call 57;((with_reducible refine hcall.mono ?_);rintro e W2 ⟨rf2,rl2,cv2,rv2,sv2,ms2,rfl,tf,tl,bd2,kp2⟩;have x2:=Bx.new W2 118 #[.bool false,.map none,.map none];have ha2:=(afI W2.heap.size W2).alloc afD (.cells #[.bool false,.map none,.map none] 118);rw[<-HB2.out]))
     | ((with_reducible refine dI ?_);refine AX.aj (vs:=[.bool b2,.map (some rf2),.map (some rl2)]) rfl rfl jg x2 rfl rfl ?_;rintro W3' g3 g4 g5))
    obtain⟨E,hE⟩:=afC W2.heap.size;have x3:Bx W3' W2.heap.size 118 #[.bool b2,.map (some rf2),.map (some rl2)]:=g3;have hl3:Below W2.heap.size W2 W3':=ha2.trans (AX.ah afD (.inl x3.lt) g4 g5);rw[<-hE]at x3⊢;have hbd:=(afI W3'.heap.size W3').drew;have kp3:Kp base wr W3':=kp2.trans (Kp.of_below hl3 (agb n1.hb kp2.low.size));have xd3:Bx W3' D 118 #[.bool b0,.map (some rf1),.map (some rl1)]:=xd.kp kp3 Eb;have hAK:∀v,AK ⟨base,Bb,w,A,x,.slice (some ⟨KB,ko,none⟩) x.kids.length kc,D,E,b0,b2,rf1,rl1,rf2,rl2,t.2.f,t.2.l,y2.2.f,y2.2.l,y2.1⟩ 0 0 v W3':=fun v=>⟨n1.go kp3,xd3,x3,sf.kp kp3,sl.kp kp3,tf.below hl3 afD,tl.below hl3 afD,⟨_,_,_,_,bd2.below hl3⟩,fun g=>(by cases g),fun g=>(by cases g),fun g=>(by cases g)⟩;have aak:∀v,AK ⟨base,Bb,w,A,x,.slice (some ⟨KB,ko,none⟩) x.kids.length kc,D,E,b0,b2,rf1,rl1,rf2,rl2,t.2.f,t.2.l,y2.2.f,y2.2.l,y2.1⟩ 0 0 v W3'.drew:=fun v=>(hAK v).low hbd;have HAK:=hid aak;clear hAK aak kp3 hbd hl3 g3 g4 g5 ha2 x2 kp2 tf tl bd2 n1 xd sf sl bd hcall hE qk;obtain⟨C,hCi,hCo⟩:∃C:World->Prop,(∀W,C W->Bx W D 118 #[.bool b0,.map (some rf1),.map (some rl1)]/\Bx W E 118 #[.bool b2,.map (some rf2),.map (some rl2)])/\∀W,Bx W D 118 #[.bool b0,.map (some rf1),.map (some rl1)]/\Bx W E 118 #[.bool b2,.map (some rf2),.map (some rl2)]->C W:=⟨_,fun _ h=>h,fun _ h=>h⟩;have hC0:C W3'.drew:=hCo _ ⟨xd3,x3⟩;haveI:Inhabited (AX.CW C):=⟨⟨_,hC0⟩⟩;haveI:Inhabited (AX.CW fun _=>True):=⟨⟨w,trivial⟩⟩;have a0:∀p:AX.CW C,p.W.cell? ⟨D,0,none⟩=some (.bool b0):=fun p=>(hCi _ p.h).1.cell 0;have a1:∀p:AX.CW C,p.W.cell? ⟨D,1,none⟩=some (.map (some rf1)):=fun p=>(hCi _ p.h).1.cell 1;have a2:∀p:AX.CW C,p.W.cell? ⟨D,2,none⟩=some (.map (some rl1)):=fun p=>(hCi _ p.h).1.cell 2;have b0':∀p:AX.CW C,p.W.cell? ⟨E,0,none⟩=some (.bool b2):=fun p=>(hCi _ p.h).2.cell 0;have b1':∀p:AX.CW C,p.W.cell? ⟨E,1,none⟩=some (.map (some rf2)):=fun p=>(hCi _ p.h).2.cell 1;have b2':∀p:AX.CW C,p.W.cell? ⟨E,2,none⟩=some (.map (some rl2)):=fun p=>(hCi _ p.h).2.cell 2;clear xd3 x3;have HCi:=hid hCi;have HCo:=hid hCo;clear hCi hCo
    cases b0
    ·refine AX.wS (C:=fun W=>∃p:AX.CW C,W=p.W) (CT:=fun W=>∃p:AX.CW fun _=>True,W=p.W) frA (A57 ⟨base,Bb,w,A,x,.slice (some ⟨KB,ko,none⟩) x.kids.length kc,D,E,false,b2,rf1,rl1,rf2,rl2,t.2.f,t.2.l,y2.2.f,y2.2.l,y2.1⟩) (K57 ⟨base,Bb,w,A,x,.slice (some ⟨KB,ko,none⟩) x.kids.length kc,D,E,false,b2,rf1,rl1,rf2,rl2,t.2.f,t.2.l,y2.2.f,y2.2.l,y2.1⟩)
      (fun _ W=>Ct base Bb w A x (.slice (some ⟨KB,ko,none⟩) x.kids.length kc) D (y2.1,MR ⟨false,t.2.f,t.2.l⟩ ⟨b2,y2.2.f,y2.2.l⟩) W) 19 su jm 62463 131071 6 dY (by kernel_rfl) (by kernel_rfl) (by kernel_rfl) (by decide) (by kernel_rfl) (by kernel_rfl) (by decide) (by kernel_rfl) (by kernel_rfl) (fun c a d v w h=>by cases d<;>exact h) ⟨⟨⟨_,trivial⟩,rfl⟩,⟨⟨_,hC0⟩,rfl⟩⟩ ?_ ?_
     ·exact KT (c:=⟨base,Bb,w,A,x,.slice (some ⟨KB,ko,none⟩) x.kids.length kc,D,E,false,b2,rf1,rl1,rf2,rl2,t.2.f,t.2.l,y2.2.f,y2.2.l,y2.1⟩) (fun W g1 g2=>⟨⟨W,HCo.out W ⟨g1,g2⟩⟩,rfl⟩) (fun W=>⟨⟨W,trivial⟩,rfl⟩) HB.out hDb hDA (by rfl) rfl rfl rfl (by rfl) rfl rfl rfl (by rfl) rfl rfl rfl (by rfl) rfl rfl rfl (by rfl) rfl rfl rfl (by rfl)
     ·unfold su
      repeat (refine AX.D9 _ (by rfl) ?_;go_big_quiet_step (fail);refine afQ ?_)
      unfold AX.iH;refine Cj ⟨rfl,rfl,rfl,rfl,rfl,rfl,rfl⟩ ?_ HAK.out;intro v W hC6;simp only[frA,afH,afL,afM];go_wp2_with fail
      go_roundw
      case rel=>exact⟨j+1,_,by simp,by omega,hnext,hC6,hN2⟩
      case measure=>simp[RowKit.intOf];omega
    ·refine AX.wS (C:=fun W=>∃p:AX.CW C,W=p.W) (CT:=fun W=>∃p:AX.CW fun _=>True,W=p.W) frA (A57 ⟨base,Bb,w,A,x,.slice (some ⟨KB,ko,none⟩) x.kids.length kc,D,E,true,b2,rf1,rl1,rf2,rl2,t.2.f,t.2.l,y2.2.f,y2.2.l,y2.1⟩) (K57 ⟨base,Bb,w,A,x,.slice (some ⟨KB,ko,none⟩) x.kids.length kc,D,E,true,b2,rf1,rl1,rf2,rl2,t.2.f,t.2.l,y2.2.f,y2.2.l,y2.1⟩)
      (fun _ W=>Ct base Bb w A x (.slice (some ⟨KB,ko,none⟩) x.kids.length kc) D (y2.1,MR ⟨true,t.2.f,t.2.l⟩ ⟨b2,y2.2.f,y2.2.l⟩) W) 19 su jm 62463 131071 6 dY (by kernel_rfl) (by kernel_rfl) (by kernel_rfl) (by decide) (by kernel_rfl) (by kernel_rfl) (by decide) (by kernel_rfl) (by kernel_rfl) (fun c a d v w h=>by cases d<;>exact h) ⟨⟨⟨_,trivial⟩,rfl⟩,⟨⟨_,hC0⟩,rfl⟩⟩ ?_ ?_
     ·exact KT (c:=⟨base,Bb,w,A,x,.slice (some ⟨KB,ko,none⟩) x.kids.length kc,D,E,true,b2,rf1,rl1,rf2,rl2,t.2.f,t.2.l,y2.2.f,y2.2.l,y2.1⟩) (fun W g1 g2=>⟨⟨W,HCo.out W ⟨g1,g2⟩⟩,rfl⟩) (fun W=>⟨⟨W,trivial⟩,rfl⟩) HB.out hDb hDA (by rfl) rfl rfl rfl (by rfl) rfl rfl rfl (by rfl) rfl rfl rfl (by rfl) rfl rfl rfl (by rfl) rfl rfl rfl (by rfl)
     ·unfold su
      repeat (refine AX.D9 _ (by rfl) ?_;go_big_quiet_step (fail);refine afQ ?_)
      unfold AX.iH;refine Cj ⟨rfl,rfl,rfl,rfl,rfl,rfl,rfl⟩ ?_ HAK.out;intro v W hC6;simp only[frA,afH,afL,afM];go_wp2_with fail
      go_roundw
      case rel=>exact⟨j+1,_,by simp,by omega,hnext,hC6,hN2⟩
      case measure=>simp[RowKit.intOf];omega
   ·have hj1:¬(j:Int)<(kl:Int):=by omega
    have htt:t=x.kids.foldl (iF (aO r f)) (s,⟨false,[],[]⟩):=(by rw[ht.out,agW (by have:=HKL.out;omega)]);have HTT:=hid htt;have c0:wr.cell? ⟨D,0,none⟩=some (.bool t.2.e):=xd.cell 0;have c1:wr.cell? ⟨D,1,none⟩=some (.map (some rf1)):=xd.cell 1;have c2:wr.cell? ⟨D,2,none⟩=some (.map (some rl1)):=xd.cell 2;obtain⟨be,hbe⟩:=afC t.2.e;rw[<-hbe]at c0;have HBE:=hid hbe;have xA:=n1.xa;clear htt hN ht hC hbe;go_wp2_with ((with_reducible refine dI ?_);refine AX.aj (vs:=[.bool be,.map (some rf1),.map (some rl1)]) rfl rfl jg xA rfl rfl ?_;rintro W9 u3 u4 u5)
    have x9:Bx W9 A 118 #[.bool be,.map (some rf1),.map (some rl1)]:=u3;have d0:W9.cell? ⟨A,0,none⟩=some (.bool be):=x9.cell 0;have d1:W9.cell? ⟨A,1,none⟩=some (.map (some rf1)):=x9.cell 1;have d3:W9.cell? ⟨A,2,none⟩=some (.map (some rl1)):=x9.cell 2;exact afJ (v:=plV be rf1 rl1) (by simp[results,Tryz.results57,go_sem,d0,d1,d3,plV]) rfl (by rw[HDF.out,<-HTT.out];exact n1.fin (y:=t) HB.out bd sf sl HBE.out x9 u4 u5)
 ·have hdf:=HND.out
  rw[afO (by have:=HKK.out;omega),afO (by have:=HKK.out;omega),afO (by have:=HKK.out;omega),afO (by have:=HKK.out;omega)]at hdf;have hlow':=HD.out.low;have hkl:x.kids≠[]:=fun e=>by
   have hx5:x.k=5\/x.k=6\/x.k=7:=(by have:=HKK.out;omega);rw[e]at hlow';simp[Rx.mQ,show ¬(x.k=1\/x.k=2)by omega,show ¬(x.k=3\/x.k=4)by omega,hx5]at hlow'
  obtain⟨k0,kr,hkids⟩:∃k0 kr,x.kids=k0::kr:=List.exists_cons_of_ne_nil hkl;obtain⟨KB,ko,kc0,rfl,hKB,hkc⟩:=Ea z6 hkl;obtain⟨kc,FW⟩:=afC (x.kids.length+kc0);rw[<-FW]at hNc⊢;clear FW z6;have qk:W1.cell? ⟨KB,ko,none⟩=some (.int .i64 k0):=(hlow1.cell (p:=⟨KB,ko,none⟩) (show KB<base by omega)).trans (by have:=hkc 0 k0 (by rw[hkids];rfl);rwa [agV]at this);have q5:W1.cell? ⟨A+1,5,none⟩=some (.slice (some ⟨KB,ko,none⟩) x.kids.length kc):=hNc.xb.cell 5;have hmem:k0∈x.kids:=by rw[hkids];exact afS ..
  have hsz0:szN r k0<=szK r x.kids:=by rw[hkids];simp[szK]
  have hcall:=HK.out k0 hmem W1 s cv rv sv ms HS.out hlow1 kD (by have:=HZ.out;omega) hNc.hb;have hnd:=HNo.out k0 hmem s HS.out;rw[show x.kids.getD 0 0=k0 by rw[hkids];rfl]at hdf;obtain⟨y,hy⟩:=afC (aO r f k0 s);rw[<-hy]at hdf hcall hnd;have HDF:=hid hdf;obtain⟨kl,hkl2⟩:=afC x.kids.length;have hkp:(0:Int)<(kl:Int):=by rw[hkl2,hkids];simp
  rw[<-hkl2]at q5;have hk1:¬kk=1:=by omega
  have hk2:¬kk=2:=by omega
  have hk3:¬kk=3:=by omega
  have hk4:¬kk=4:=by omega
  clear hdf hlow' hkl hkids hkc hsz0 hy hkl2 hmem;go_upto_region 26 with (first
   | (go_at_call 57;((with_reducible refine hcall.mono ?_);rintro e W2 ⟨rf,rl,cv2,rv2,sv2,ms2,rfl,hsf,hsl,qM,xB⟩;have n2:=hNc.go xB;have x2:=Bx.new W2 118 #[.bool false,.map none,.map none];have ha2:=(afI W2.heap.size W2).alloc afD (.cells #[.bool false,.map none,.map none] 118)))
   | ((with_reducible refine dI ?_);refine AX.aj (vs:=[.bool y.2.e,.map (some rf),.map (some rl)]) rfl rfl jg x2 rfl rfl ?_;rintro W3 g3 g4 g5))
  have x3:Bx W3 W2.heap.size 118 #[.bool y.2.e,.map (some rf),.map (some rl)]:=g3;have hl3:Below W2.heap.size W2 W3:=ha2.trans (AX.ah afD (.inl x3.lt) g4 g5);have aal:Kp base W2 W3:=Kp.of_below hl3 n2.hb;have n3:=n2.go aal;have oh:=qM.below hl3;have uT:=hsf.below hl3 afD;have uU:=hsl.below hl3 afD;obtain⟨D,hD⟩:=afC W2.heap.size;rw[<-hD]at x3⊢;have hDb:w.heap.size<=D:=by have:=n2.kp.low.size;omega
  have hDA:A<D:=by rw[hD];exact n2.xa.lt
  have q0:W3.cell? ⟨A+1,0,none⟩=some (.int .i64 kk):=by rw[HKK.out];exact n3.xb.cell 0
  have hin:∀z∈y.2.l,0<=z/\z<(y.1.cl.length:Int):=fun z hz=>by have:=hnd.pl.l.i z hz;omega
  have hj:=yJ W3 oh uU uT hin n3.hb;clear g3 g4 g5 ha2 x2 n2 hsf hsl qM xB hl3 aal hD hcall hin;go_upto_if 109 with (fail)
  go_cut [16]from 109 to 115 (fun t16 wz=>t16=.pointer (some ⟨D,0,none⟩)/\Nc base w A x (.slice (some ⟨KB,ko,none⟩) x.kids.length kc) wz/\Bx wz D 118 #[.bool y.2.e,.map (some rf),.map (some rl)]/\aN wz rf y.2.f/\aN wz rl y.2.l/\∃cv rv sv ms,Bd base wz Bb cv rv sv (if x.k=7 then y.1 else y.1.join y.2.l y.2.f) ms)
  case first =>
   have y1:W3.cell? ⟨D,1,none⟩=some (.map (some rf)):=x3.cell 1;have y2:W3.cell? ⟨D,2,none⟩=some (.map (some rl)):=x3.cell 2
   by_cases h7':kk=7
   ·subst h7'
    go_wp2_with fail
    go_meet
    case rel=>exact⟨rfl,n3,x3,uT,uU,_,_,_,_,by rw[afR HKK.out.symm];exact oh⟩
   ·have hn7:(kk == 7)=false:=by simpa using h7'
    have hx7:¬x.k=7:=(by have:=HKK.out;omega);go_wp2_with (go_at_call 58;((with_reducible refine hj.mono ?_);rintro e W4 ⟨rfl,⟨ms4,yK⟩,uS⟩))
    go_meet
    case rel=>exact⟨rfl,n3.go uS,x3.kp uS Ci,uT.kp uS,uU.kp uS,_,_,_,_,by rw[afO hx7];exact yK⟩
  case rest =>
   obtain⟨rfl,n4,x4,sf4,sl4,cv4,rv4,sv4,ms4,yK⟩:=hcut;clear hj x3 n3 oh uT uU q0;have q0:wc.cell? ⟨A+1,0,none⟩=some (.int .i64 kk):=(by rw[HKK.out];exact n4.xb.cell 0);have y0:wc.cell? ⟨D,0,none⟩=some (.bool y.2.e):=x4.cell 0;have hend:∀(be:Bool) W5 W9,be=(y.2.e || !decide (x.k=6))->Bx W5 D 118 #[.bool be,.map (some rf),.map (some rl)]->(∀j,j≠D->W5.heap[j]?=wc.heap[j]?)->AX.Same wc W5->Bx W9 A 118 #[.bool be,.map (some rf),.map (some rl)]->(∀j,j≠A->W9.heap[j]?=W5.heap[j]?)->AX.Same W5 W9->qN base Bb (aO r (f+1) (i:Int) s) w (.returned (plV be rf rl)) W9:=by
    intro be W5 W9 he x5 g4 g5 x9 u4 u5;have hs5:dH 118 wc W5:=aP x4 g4;have hl5:Below base wc W5:=AX.ah (by have:=HB.out;omega) (.inl x5.lt) g4 g5;have n5:Nc base w A x (.slice (some ⟨KB,ko,none⟩) x.kids.length kc) W5:=⟨(g4 A (by omega)).trans n4.xa,n4.xb.aW hs5 (by decide),⟨n4.kp.low.trans hl5,fun j o hj hn=>(g4 j (by have:=(afF.1 hj).1;omega)).trans (n4.kp.keep j o hj hn)⟩,agb n4.hb hl5.size,n4.hA⟩;rw[HDF.out];exact n5.fin (y:=(if x.k=7 then y.1 else y.1.join y.2.l y.2.f,⟨y.2.e || !decide (x.k=6),y.2.f,y.2.l⟩)) HB.out (yK.sb hs5 (by decide) (by decide) (by decide) (by decide)) (sf4.aW hs5) (sl4.aW hs5) he x9 u4 u5
   have HE:=hid hend;have xA:=n4.xa;have y1:=fun W (h:Bx W D 118 #[.bool true,.map (some rf),.map (some rl)])=>(show W.cell? ⟨D,1,none⟩=some (.map (some rf))from h.cell 1);rw[<-HKK.out]at HE;clear hend n4 sf4 sl4 yK;obtain⟨b0,hb0⟩:∃b,b=y.2.e:=⟨_,rfl⟩;rw[<-hb0]at x4 y0 HE;clear y1 hb0
   by_cases h6:kk=6
   ·have hn6:(kk == 6)=true:=by simpa using h6
    subst h6
    cases b0
    ·go_wp2_with (first
      | ((with_reducible refine dI ?_);refine AX.aB (o:=0) (v:=.bool false) rfl rfl rfl sz4 x4 (show 0<3 by decide) ?_;rintro W5 g3 g4 g5;have x5:Bx W5 D 118 #[.bool false,.map (some rf),.map (some rl)]:=g3;have c0:W5.cell? ⟨D,0,none⟩=some (.bool false):=(x5.cell 0);have c1:W5.cell? ⟨D,1,none⟩=some (.map (some rf)):=(x5.cell 1);have c2:W5.cell? ⟨D,2,none⟩=some (.map (some rl)):=(x5.cell 2);have xA5:Bx W5 A 118 #[.bool false,.map none,.map none]:=((g4 A (by omega)).trans xA))
      | ((with_reducible refine dI ?_);refine AX.aj (vs:=[.bool false,.map (some rf),.map (some rl)]) rfl rfl jg xA5 rfl rfl ?_;rintro W9 u3 u4 u5))
     have x9:Bx W9 A 118 #[.bool false,.map (some rf),.map (some rl)]:=u3;have d0:W9.cell? ⟨A,0,none⟩=some (.bool false):=x9.cell 0;have d1:W9.cell? ⟨A,1,none⟩=some (.map (some rf)):=x9.cell 1;have d3:W9.cell? ⟨A,2,none⟩=some (.map (some rl)):=x9.cell 2;exact afJ (v:=plV false rf rl) (by simp[results,Tryz.results57,go_sem,d0,d1,d3,plV]) rfl (HE.out false W5 W9 (by decide) x5 g4 g5 x9 u4 u5)
    ·go_wp2_with (first
      | ((with_reducible refine dI ?_);refine AX.aB (o:=0) (v:=.bool true) rfl rfl rfl sz4 x4 (show 0<3 by decide) ?_;rintro W5 g3 g4 g5;have x5:Bx W5 D 118 #[.bool true,.map (some rf),.map (some rl)]:=g3;have c0:W5.cell? ⟨D,0,none⟩=some (.bool true):=(x5.cell 0);have c1:W5.cell? ⟨D,1,none⟩=some (.map (some rf)):=(x5.cell 1);have c2:W5.cell? ⟨D,2,none⟩=some (.map (some rl)):=(x5.cell 2);have xA5:Bx W5 A 118 #[.bool false,.map none,.map none]:=((g4 A (by omega)).trans xA))
      | ((with_reducible refine dI ?_);refine AX.aj (vs:=[.bool true,.map (some rf),.map (some rl)]) rfl rfl jg xA5 rfl rfl ?_;rintro W9 u3 u4 u5))
     have x9:Bx W9 A 118 #[.bool true,.map (some rf),.map (some rl)]:=u3;have d0:W9.cell? ⟨A,0,none⟩=some (.bool true):=x9.cell 0;have d1:W9.cell? ⟨A,1,none⟩=some (.map (some rf)):=x9.cell 1;have d3:W9.cell? ⟨A,2,none⟩=some (.map (some rl)):=x9.cell 2;exact afJ (v:=plV true rf rl) (by simp[results,Tryz.results57,go_sem,d0,d1,d3,plV]) rfl (HE.out true W5 W9 (by decide) x5 g4 g5 x9 u4 u5)
   ·have hn6:(kk == 6)=false:=by simpa using h6
    have hd6:decide (kk=6)=false:=(by simpa using h6);have HD6:=hid hd6;clear hd6
    cases b0
    ·go_wp2_with (first
      | ((with_reducible refine dI ?_);refine AX.aB (o:=0) (v:=.bool (kk != 6)) rfl rfl rfl sz4 x4 (show 0<3 by decide) ?_;rintro W5 g3 g4 g5;have x5:Bx W5 D 118 #[.bool (kk != 6),.map (some rf),.map (some rl)]:=g3;have c0:W5.cell? ⟨D,0,none⟩=some (.bool (kk != 6)):=(x5.cell 0);have c1:W5.cell? ⟨D,1,none⟩=some (.map (some rf)):=(x5.cell 1);have c2:W5.cell? ⟨D,2,none⟩=some (.map (some rl)):=(x5.cell 2);have xA5:Bx W5 A 118 #[.bool false,.map none,.map none]:=((g4 A (by omega)).trans xA))
      | ((with_reducible refine dI ?_);refine AX.aj (vs:=[.bool (kk != 6),.map (some rf),.map (some rl)]) rfl rfl jg xA5 rfl rfl ?_;rintro W9 u3 u4 u5))
     have x9:Bx W9 A 118 #[.bool (kk != 6),.map (some rf),.map (some rl)]:=u3;have d0:W9.cell? ⟨A,0,none⟩=some (.bool (kk != 6)):=x9.cell 0;have d1:W9.cell? ⟨A,1,none⟩=some (.map (some rf)):=x9.cell 1;have d3:W9.cell? ⟨A,2,none⟩=some (.map (some rl)):=x9.cell 2;exact afJ (v:=plV (kk != 6) rf rl) (by simp[results,Tryz.results57,go_sem,d0,d1,d3,plV]) rfl (HE.out (kk != 6) W5 W9 (by rw[HD6.out];simpa using h6) x5 g4 g5 x9 u4 u5)
    ·go_wp2_with (first
      | ((with_reducible refine dI ?_);refine AX.aB (o:=0) (v:=.bool true) rfl rfl rfl sz4 x4 (show 0<3 by decide) ?_;rintro W5 g3 g4 g5;have x5:Bx W5 D 118 #[.bool true,.map (some rf),.map (some rl)]:=g3;have c0:W5.cell? ⟨D,0,none⟩=some (.bool true):=(x5.cell 0);have c1:W5.cell? ⟨D,1,none⟩=some (.map (some rf)):=(x5.cell 1);have c2:W5.cell? ⟨D,2,none⟩=some (.map (some rl)):=(x5.cell 2);have xA5:Bx W5 A 118 #[.bool false,.map none,.map none]:=((g4 A (by omega)).trans xA))
      | ((with_reducible refine dI ?_);refine AX.aj (vs:=[.bool true,.map (some rf),.map (some rl)]) rfl rfl jg xA5 rfl rfl ?_;rintro W9 u3 u4 u5))
     have x9:Bx W9 A 118 #[.bool true,.map (some rf),.map (some rl)]:=u3;have d0:W9.cell? ⟨A,0,none⟩=some (.bool true):=x9.cell 0;have d1:W9.cell? ⟨A,1,none⟩=some (.map (some rf)):=x9.cell 1;have d3:W9.cell? ⟨A,2,none⟩=some (.map (some rl)):=x9.cell 2;exact afJ (v:=plV true rf rl) (by simp[results,Tryz.results57,go_sem,d0,d1,d3,plV]) rfl (HE.out true W5 W9 (by rw[HD6.out];rfl) x5 g4 g5 x9 u4 u5)
end
section
open Go Go.Proofs Go.RowKit
open Rx (Nd dL iM jE pre_eq jB IRd XAt)
theorem F5{base Bb:Nat}{Wb:World}{v:Value}{r:List Nd}(hWb:Wb.heap.size<=base)(hR:jB Wb v r)(ok:dL r)(wd:∀x∈r,x.Wd):∀(f i:Nat),i<f->i<r.length->∀(w:World)(s:NS)(cv rv sv:Value)(ms:List Nat),iG s->Below base Wb w->Bd base w Bb cv rv sv s ms->s.cl.length+szN r (i:Int)<=100000->base<=w.heap.size ->
  Calls Tryz.prog 57 #[.pointer (some ⟨Bb,0,none⟩),v,.int .i64 i] w (qN base Bb (aO r f i s) w)
 | 0,_,h,_,_,_,_,_,_,_,_,_,_,_,_=>absurd h (agp _)
 | f+1,i,hf,hi,w,s,cv,rv,sv,ms,hs,hlow,hd,hsz,hb=>by
  obtain⟨x,hxd⟩:=afC (r.getD i default);have hx:r[i]?=some x:=by rw[hxd,afG,afE hi,agr]
  have nd:=ok.nd i _ hx;have hw:=wd x (af7 hx);have hs1:=WY ok hi;rw[<-hxd]at hs1;refine Na hWb hR f i hx hxd.symm nd ⟨hw.a,hw.b,hw.c,hw.d⟩ ?_ ?_ w s cv rv sv ms hs hlow hd (by omega) hb
  ·intro k hk w s cv rv sv ms hs hlow hd hsz hb
   have:=nd.kids k hk;obtain⟨j,rfl⟩:∃j:Nat,k=(j:Int):=⟨k.toNat,by omega⟩;exact F5 hWb hR ok wd f j (by omega) (by omega) w s cv rv sv ms hs hlow hd hsz hb
  ·intro k hk s hs
   have:=nd.kids k hk;obtain⟨j,rfl⟩:∃j:Nat,k=(j:Int):=⟨k.toNat,by omega⟩;exact pI ok f j (by omega) (by omega) s hs
theorem KU{r:List Nd}(ok:dL r):szN r ((r.length:Int)-1)=r.length:=Rx.UD ok
def uX(ru:List Int)(L:List Int)(i:Int):List Int:=(List.range ru.length).map fun k:Nat=>if (k:Int)∈L then i else ru.getD k 0
def sJ(s:NS)(L:List Int)(i:Int):NS:=⟨s.cl,s.nx,uX s.ru L i⟩
def yL(e:Bool)(s:NS)(i:Int):NS:=if e=true/\s.ru.getD 0 0<0 then ⟨s.cl,s.nx,s.ru.set 0 i⟩else s
def xC(t:NS)(i:Nat)(r:List Nd):NS:=
 yL (aO r r.length ((r.length-1:Nat):Int) t).2.e (sJ ((aO r r.length ((r.length-1:Nat):Int) t).1.join [0] (aO r r.length ((r.length-1:Nat):Int) t).2.f) (aO r r.length ((r.length-1:Nat):Int) t).2.l i) i
def lu(rs:List (List Nd)):Nat->NS
 | 0=>NS.push ⟨[],[],[]⟩ Kl.zero
 | j+1=>xC (lu rs j) j (rs.getD j [])
def uY(rs:List (List Nd)):NS:=lu rs rs.length
theorem lU(ru L:List Int)(i:Int):(uX ru L i).length=ru.length:=by simp[uX]
theorem sK(ru L:List Int)(i:Int)(k:Nat)(hk:k<ru.length):(uX ru L i)[k]?=some (if (k:Int)∈L then i else ru.getD k 0):=by simp[uX,hk]
theorem PE(ru:List Int)(i:Int):uX ru [] i=ru:=by
 refine agJ fun k=>?_
 by_cases hk:k<ru.length
 ·rw[sK ru [] i k hk,afO (by simp),afG,afE hk]
  rfl
 ·rw[af5 (by rw[lU];omega),af5 (by omega)]
theorem Nh(ru dn:List Int)(i:Int)(k:Nat):uX ru (dn++[(k:Int)]) i=(uX ru dn i).set k i:=by
 refine agJ fun j=>?_
 by_cases hj:j<ru.length
 ·rw[sK ru _ i j hj]
  by_cases e:k=j
  ·subst e
   rw[agX (by rw[lU];exact hj),afR (by simp)]
  ·rw[agM e,sK ru _ i j hj]
   congr 1
   have:(j:Int)∈dn++[(k:Int)]↔(j:Int)∈dn:=by
    rw[af2,afK];exact⟨fun h=>h.resolve_right fun e'=>e (by omega),.inl⟩
   simp only[this]
 ·rw[af5 (by rw[lU];omega),af5 (by rw[agA,lU];omega)]
theorem PG(ru A B:List Int)(i:Int)(h:∀x,x∈A↔x∈B):uX ru A i=uX ru B i:=by
 unfold uX;simp only[h]
theorem iG.rul{s:NS}(h:iG s)(L:List Int){i:Int}(hi: -1<=i/\i<16):iG (sJ s L i):=by
 refine⟨h.one,h.nx,(lU _ _ _).trans h.ru,h.zero,h.up,fun r hr=>?_⟩;obtain⟨k,hk,rfl⟩:=agv.1 hr;have hk:k<s.ru.length:=agH.1 hk;split
 ·exact hi
 ·refine h.rule _ ?_
  rw[afG,afE hk,agr];exact agu hk
theorem iG.zer{s:NS}(h:iG s)(e:Bool){i:Int}(hi: -1<=i/\i<16):iG (yL e s i):=by
 unfold yL;split
 ·refine⟨h.one,h.nx,?_,h.zero,h.up,fun r hr=>?_⟩
  ·show(s.ru.set 0 i).length=_
   rw[agA];exact h.ru
  ·rcases List.mem_or_eq_of_mem_set hr with h1|h1
   ·exact h.rule r h1
   ·rw[h1];exact hi
 ·exact h
theorem UE(e:Bool)(s:NS)(i:Int):(yL e s i).cl=s.cl:=by unfold yL;split<;>rfl
theorem iG.first:iG (NS.push ⟨[],[],[]⟩ Kl.zero):=by
 refine⟨by simp[NS.push],by simp[NS.push],by simp[NS.push],by simp[NS.push],fun l hl=>?_,fun r hr=>?_⟩
 ·have hl:l∈[[]]:=hl
  rw[afK.1 hl];exact In.nil _
 ·have hr:r∈[(-1:Int)]:=hr
  rw[afK.1 hr];omega
theorem PI{t:NS}(ht:iG t){r:List Nd}(ok:dL r)(i:Nat)(hi:i<16):iG (xC t i r)/\(xC t i r).cl.length<=t.cl.length+r.length/\NdP t (aO r r.length ((r.length-1:Nat):Int) t) r.length:=by
 have h1:=ok.one;have h:=pI ok r.length (r.length-1) (by omega) (by omega) t ht;have hz:=KU ok;rw[show ((r.length:Int)-1)=((r.length-1:Nat):Int)by omega]at hz;rw[hz]at h;refine⟨((h.ok.join _ h.pl.f).rul _ (by omega)).zer _ (by omega),?_,h⟩;unfold xC;rw[UE];exact h.most
theorem yM{rs:List (List Nd)}(ok:∀r∈rs,dL r)(hl:rs.length<=16):∀j,j<=rs.length->iG (lu rs j)/\(lu rs j).cl.length<=1+512*j
 | 0,_=>⟨iG.first,by simp[lu,NS.push]⟩
 | j+1,hj=>by
  obtain⟨h1,h2⟩:=yM ok hl j (by omega);have hm:rs.getD j []∈rs:=by
   rw[afG,afE (by omega),agr];exact agu _
  have hr:=ok _ hm;obtain⟨h3,h4,_⟩:=PI h1 hr j (by omega);have:=hr.most;refine⟨h3,?_⟩
  show(xC _ _ _).cl.length<=_
  omega
theorem Xd{n:Nat}: ∀{l:List Int} {last:Int},Srt l->(∀x∈l,last<x/\x<(n:Int))->Up (n:Int) last l
 | [],_,_,_=>trivial
 | y::l,last,h,hi=>by
  obtain⟨h1,h2⟩:=agF.1 h;have:=hi y (afS ..);exact⟨this.1,this.2,Xd h2 fun x hx=>⟨h1 x hx,(hi x (afV _ hx)).2⟩⟩
theorem iG.nf{s:NS}(h:iG s)(hm:s.cl.length<=1024):yN ⟨s.cl,s.nx,s.ru⟩:=
 ⟨h.one,hm,h.nx,h.ru,h.zero,fun l hl=>Xd (h.up l hl).s fun x hx=>by have:=(h.up l hl).i x hx;exact⟨by omega,this.2⟩,h.rule⟩
end
end Go.Proofs.YtkjgogdkdejljaaGreatDoor.Df
