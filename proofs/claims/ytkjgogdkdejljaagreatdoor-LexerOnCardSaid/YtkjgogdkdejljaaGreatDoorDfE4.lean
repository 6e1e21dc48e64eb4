import Derived.Test.YtkjgogdkdejljaaGreatDoorDfC2
import Derived.Test.YtkjgogdkdejljaaGreatDoorDfE1
import Derived.Test.YtkjgogdkdejljaaGreatDoorRxQ5
set_option maxRecDepth 100000
set_option maxHeartbeats 40000000
namespace Go.Proofs.YtkjgogdkdejljaaGreatDoor.Rx
open Go.Lib (hid)
open Go Go.Proofs Go.RowKit
attribute [local go_sem] Oper.semAt_some
def KZ:List (Nat×Bool):=[(0,false),(1,false),(2,false),(3,false),(4,false),(5,true),(6,false),(7,true)]
def Dt:AX.Plan := .plain 0 (.plain 1 (.plain 3 (.plain 4 (.two 2 (.plain 6 (.one 5 (.plain 7 (.nil)))) 5 (.one 2 (.plain 6 (.plain 7 (.nil))))))))
def bytesOf(s:ByteArray):List Int:=s.data.toList.map fun b=>((b.toNat:Nat):Int)
open Classical in
noncomputable def mV(r:List Nd)(s:ByteArray):Bool:=if eP r then jZ r (bytesOf s) else false
theorem aJ.wrote{W W':World}{B:Nat}{l:List Bool}{cs:Array Value}{i:Nat}{b:Bool}(h:aJ W B l)(hcs:W.heap[B]?=some (.cells cs 4 (0,0)))(h3:W'.heap[B]?=some (.cells (cs.setIfInBounds i (.bool b)) 4 (0,0))):aJ W' B (l.set i b):=by
 obtain⟨cs',hcs',hc⟩:=h;obtain rfl:cs=cs':=by rw[hcs] at hcs';cases hcs';rfl
 refine⟨_,h3,fun j c hj=>?_⟩;rw[Array.getElem?_setIfInBounds];rw[List.getElem?_set] at hj
 by_cases e:i=j
 ·subst e
  rw[if_pos rfl] at hj ⊢;split at hj
  ·rename_i hl
   have:=hc i l[i] (List.getElem?_eq_getElem hl);rw[if_pos (Array.getElem?_eq_some_iff.1 this).1,Option.some.inj hj]
  ·cases hj
 ·rw[if_neg e] at hj ⊢
  exact hc j c hj
theorem Yl(s:ByteArray)(w:World):∃(w':World)(c:Nat),(convert 9 106 (.string s)).run Tryz.prog w = .ok (.slice (some ⟨w.heap.size,0,none⟩) s.size c) w'∧Below w.heap.size w w'∧(w.heap.size<w'.heap.size∧∀ j b,(bytesOf s)[j]?=some b→w'.cell? ⟨w.heap.size,j,none⟩=some (.int .u8 b)):=by
 refine⟨_,_,Lib.run_convert_string_bytes w 9 106 5 s Tryz.underlying9 Tryz.underlying106 Tryz.underlying5,⟨rfl,rfl,rfl,by rw[Lib.bytesWorld_size];omega,fun k hk=>Lib.bytesWorld_at_old w 5 s k hk⟩,by rw[Lib.bytesWorld_size];omega,fun j b hj=>?_⟩;have hj':=(List.getElem?_eq_some_iff.1 hj).1;have hjs:j<s.size:=by simpa[bytesOf] using hj'
 rw[Lib.bytesWorld_cell w 5 s j hjs];have hj2:j<s.data.toList.length:=by simpa using hjs
 rw[bytesOf,List.getElem?_map,List.getElem?_eq_getElem hj2] at hj;simp only[Option.map_some,Option.some.injEq] at hj;rw[←hj,List.getD_eq_getElem?_getD,List.getElem?_eq_getElem hj2];rfl
theorem LX(r:List Nd)(rv:Value)(s:ByteArray)(hl:r.length≤1000000)(hwd:∀ x∈r,x.Wd)(hs:s.size≤1000)(w:World)(hR:jk w rv r) :
  Calls Tryz.prog 93 #[rv, .string s] w fun e w'=>e = .returned (.bool (mV r s))∧Below w.heap.size w w':=by
 have hch:=jH r rv hl w hR
 by_cases ok:eP r
 case neg =>
  have HM:Hid (mV r s=false):=hid (if_neg ok);rw[show eU r=2 from if_neg ok] at hch;clear ok hR;go_enter Tryz.func93,Tryz.ntmps93
  go_wp2_with (go_at_call 55;refine hch.mono ?_;rintro e W1 ⟨rfl,hb1⟩)
  exact bodyPost_ret (v := .bool false) (by simp[results,Tryz.results93,go_sem]) rfl ⟨by rw[HM.out],hb1⟩
 case pos =>
 have HM:Hid (mV r s=jZ r (bytesOf s)):=hid (if_pos ok);rw[show eU r=0 from if_pos ok] at hch;obtain⟨la,c,rfl,h1,h2⟩:=hR;have hn1:=ok.one;have hn2:=ok.most
 cases la with
 | none=>have:=h1 rfl;subst this;simp at hn1
 | some ad =>
 obtain⟨B,off,rfl,hBl,hX⟩:=h2 _ rfl (by intro e;rw[e] at hn1;simp at hn1);clear h1 h2 hl;obtain⟨n,hn⟩:∃ n,n=r.length:=⟨_,rfl⟩;rw[←hn] at hn1 hn2 hch ⊢;have HNn:=hid hn;clear hn;have HOK:=hid ok;clear ok;have hm1:=UY n (by omega);go_enter Tryz.func93,Tryz.ntmps93
 go_wp2_with (first
  | (go_at_call 55;refine hch.mono ?_;rintro e W1 ⟨rfl,hb1⟩;obtain⟨W2,cs2,hmk,hNB,hcs2,hb2,hz2⟩:=hm1 W1;have hQ:=Bx.new W2 202 #[.slice none 0 0, .slice none 0 0, .slice none 0 0];rw[hz2] at hQ;have hlow2:=hb1.size;clear hch hm1)
  | ((with_reducible refine bH ?_);refine AX.au (vs:=[.slice (some ⟨B,off,none⟩) n c, .slice none 0 0, .slice (some ⟨W1.heap.size,0,none⟩) n n]) rfl rfl adi hQ rfl rfl ?_;rintro W3 h3 h4 h5))
 have hM0:Mst w W3 (W1.heap.size+1) W1.heap.size n 0 (fun _=>0) (.slice (some ⟨B,off,none⟩) n c) (.slice none 0 0) [] (List.replicate n []):=by
  have e0:W3.heap[W1.heap.size]?=some (.cells cs2 203 (0,0)):=(h4 _ (by omega)).trans ((Below.heap_alloc _ _ _ (by omega)).trans hNB);have hb3:Below w.heap.size w W3:=(hb1.trans (hb2.mono hlow2)).trans (((Below.refl _ W2).alloc (by omega) _).trans (AX.aj (show w.heap.size≤W1.heap.size+1 by omega) (.inl (Array.getElem?_eq_some_iff.1 h3).1) h4 h5));exact⟨h3,⟨by simp,⟨cs2,e0,hcs2,fun i hi=>by omega⟩,fun i row hi=>by omega,fun i j hi=>by omega,fun i hi=>by omega⟩,World.ownsRow_nil _ _ _ _,fun y hy=>by simp at hy,hb3,fun i hi=>by omega,hlow2,by omega⟩
 clear h3 h4 h5 hQ hmk hNB hcs2 hb2 hz2;obtain⟨NB,Ym⟩:∃ NB,NB=W1.heap.size:=⟨_,rfl⟩;obtain⟨Mb,Yn⟩:∃ Mb,Mb=W1.heap.size+1:=⟨_,rfl⟩;rw[←Yn,←Ym] at hM0;rw[←Yn];simp only[←Ym];clear Yn Ym hb1 hlow2;have hn3:n≤1000:=by omega
 go_loopw [27] (fun ix wr=>∃(k:Nat)(bs:Nat→Nat)(l:List EL)(ev:Value)(nx:List (List Bool)),k≤n∧ix = .int .i64 k∧l.length=k∧Mst w wr Mb NB n k bs (.slice (some ⟨B,off,none⟩) n c) ev l nx∧Hid ((l.map (·.x),nx)=jv r k))
  (fun ix _=>n-(intOf ix).toNat)
 case atStart=>exact⟨0,_,[],_,_,Nat.zero_le _,rfl,rfl,hM0,hid (by rw[HNn.out];rfl)⟩
 case round =>
  obtain⟨k,bs,l,ev,nx,hk,rfl,hlk,hM,HV⟩:=hrel;clear hM0
  by_cases hlt:k<n
  ·obtain⟨x,hx⟩:∃ x,r[k]?=some x:=⟨_,List.getElem?_eq_getElem (by rw[←HNn.out];exact hlt)⟩
   have hXk:=hX k x hx;have HD:Hid (r.getD k default=x):=hid (by rw[List.getD_eq_getElem?_getD,hx];rfl);have HNd:=hid (HOK.out.nd k x hx);have hk0:(0:Int)≤(k:Int):=(by omega);have hk1:(k:Int)<(n:Int):=(by omega);clear hx;go_wp2_with fail
   have hMd:=hM.below (Below.refl wr.heap.size wr).drew;obtain⟨C,hCi,hCo⟩:∃ C:World→Prop,(∀ W,C W→W.cell? ⟨Mb,2,none⟩=some (.slice (some ⟨NB,0,none⟩) n n))∧(∀ W,W.cell? ⟨Mb,2,none⟩=some (.slice (some ⟨NB,0,none⟩) n n)→C W):=⟨_,fun _ h=>h,fun _ h=>h⟩;have hW0:C wr.drew:=hCo _ (hMd.mb.cell 2);haveI:Inhabited (AX.CW C):=⟨⟨_,hW0⟩⟩;have a0:=fun p:AX.CW C=>hCi _ p.h;have HC:=hid hCo;clear hCo hCi;refine AX.gI (C:=fun W=>∃ p:AX.CW C,W=p.W) KZ _ (by kernel_rfl) (by kernel_rfl) rfl (by kernel_rfl) (by kernel_rfl) (by intro c a d v w h;cases d<;>exact h) ⟨⟨_,hW0⟩,rfl⟩ ?_;unfold KZ;clear hM hW0;generalize wr.drew=wd at *
   repeat (refine AX.dF _ (by rfl) ?_;go_big_quiet_step (fail);refine wpQuiet_nil ?_)
   obtain⟨W4,hm4,rU,hb4,hz4⟩:=bF n hn3 wd;refine AX.kC _ (by rfl) (by rfl) ?_;refine aN rfl rfl hm4 ?_;have hM4:=hMd.below hb4;obtain⟨cs,hcs,hcsz,_⟩:=hM4.nat.cells;obtain⟨U,hU⟩:∃ U,U=wd.heap.size:=⟨_,rfl⟩;rw[←hU] at rU ⊢;have HU:=hid hU;clear hU hz4 hm4;refine⟨⟨⟨W4,HC.out _ (hM4.mb.cell 2)⟩,rfl⟩,?_⟩;simp only[Act.put,List.setIfInBounds_toArray,List.set_cons_succ,List.set_cons_zero];refine AX.dF _ (by rfl) ?_;go_big_quiet_step (fail);refine wpQuiet_nil ?_;refine AX.kC _ (by rfl) (by rfl) ?_;refine AX.aI (o:=k) (v := .slice (some ⟨U,0,none⟩) n n) rfl rfl rfl adk hcs (by omega) ?_;rintro W5 h3 h4 h5;have hM5:=hMd.next hlt HU.out hb4 rU hcs h3 h4 h5
   refine⟨⟨⟨W5,HC.out _ (hM5.mb.cell 2)⟩,rfl⟩,?_⟩;have Yo:∀ i,i<k+1→w.heap.size≤(if i=k then U else bs i):=hM5.bsl;clear a0 HC hMd hM4 h3 h4 h5 hb4 rU hcs hcsz;generalize (fun j=>if j=k then U else bs j)=bs2 at *;obtain⟨nx2,hnx2⟩:∃ nx2,nx2=nx.set k (zeros n):=⟨_,rfl⟩;rw[←hnx2] at hM5;have HN2:=hid hnx2;clear hnx2;unfold AX.fZ;go_wp2_with fail
   have hMd:=hM5.below (Below.refl W5.heap.size W5).drew;have EX:=fun W (h:Mst w W Mb NB n (k+1) bs2 (.slice (some ⟨B,off,none⟩) n c) ev l nx2)=>Yj NB n k n c bs2 B off ev nx2 (l.map (·.x)) x hn3 hlt HNd.out (by simp[hlk]) (fun j y hj=>by
    have e:(l.map (·.x))=(jv r k).1:=(by rw[←HV.out]);rw[e] at hj;have:=Ry HOK.out (m:=k) (by rw[←HNn.out];omega) j y hj
    rwa [←HNn.out] at this) w W h.nat h.eat hBl hXk h.low h.bsl
   obtain⟨C,hCi,hCo⟩:∃ C:World→Prop,(∀ W,C W→Bx W Mb 202 #[.slice (some ⟨B,off,none⟩) n c,ev, .slice (some ⟨NB,0,none⟩) n n])∧(∀ W,Bx W Mb 202 #[.slice (some ⟨B,off,none⟩) n c,ev, .slice (some ⟨NB,0,none⟩) n n]→C W):=⟨_,fun _ h=>h,fun _ h=>h⟩;have hW0:C W5.drew:=hCo _ hMd.mb;haveI:Inhabited (AX.CW C):=⟨⟨_,hW0⟩⟩;haveI:Inhabited (AX.CW fun _=>True):=⟨⟨w,trivial⟩⟩;have a0:=fun p:AX.CW C=>(hCi _ p.h).three.1;have a1:=fun p:AX.CW C=>(hCi _ p.h).three.2.1;have a2:=fun p:AX.CW C=>(hCi _ p.h).three.2.2;have HC:=hid hCo;clear hCo hCi;refine AX.dH (C:=fun W=>∃ p:AX.CW C,W=p.W) (CT:=fun W=>∃ p:AX.CW fun _=>True,W=p.W) 8 [(0,0),(1,0),(2,0),(3,0),(4,2),(5,2),(6,2),(7,0),(8,2)] _ (by kernel_rfl) (by kernel_rfl) rfl (by kernel_rfl) (by decide) (by kernel_rfl) (by kernel_rfl) (by intro c a d v w h;cases d<;>exact h) ⟨⟨⟨_,trivial⟩,rfl⟩,⟨⟨_,hW0⟩,rfl⟩⟩ ?_;clear hM5 hW0;generalize W5.drew=wd at *
   repeat (refine AX.bT _ (by rfl) ?_;go_big_quiet_step (fail);refine wpQuiet_nil ?_)
   refine AX.eF (EX _ hMd) (by rfl) (by rfl) (by rfl) Tryz.func124 (by kernel_rfl) (by rfl) (by simp only[List.map_toArray,List.map_cons,List.map_nil];rfl) ?_;rintro e W6 ⟨⟨F4,cf4,L4,cl4,rfl,aa2,aa3,aa4,hF4,hL4⟩,hN6,U0⟩;have hM6:=hMd.called U0 hN6;refine⟨_,rfl,⟨⟨⟨W6,trivial⟩,rfl⟩,fun _=>⟨⟨W6,HC.out _ hM6.mb⟩,rfl⟩⟩,?_⟩;simp only[Act.put,List.setIfInBounds_toArray,List.set_cons_succ,List.set_cons_zero];have hgl:=hMd.low.size;have hy4:(aJ W6 F4 (dM n (l.map (·.x)) nx2 k x).2.f∧aJ W6 L4 (dM n (l.map (·.x)) nx2 k x).2.l)∧(w.heap.size≤F4∧w.heap.size≤L4)∧∀ i,i<k+1→bs2 i≠F4∧bs2 i≠L4:=⟨⟨hF4,hL4⟩,⟨by omega,by omega⟩,fun i hi=>by have:=hMd.nat.lt' i hi;exact⟨by omega,by omega⟩⟩;have HVV:Hid (jv r (k+1)=(l.map (·.x)++[(dM n (l.map (·.x)) nx2 k x).2],(dM n (l.map (·.x)) nx2 k x).1)):=hid (by
    show(let s:=jv r k;let t:=dM r.length s.1 (s.2.set k (zeros r.length)) k (r.getD k default);(s.1++[t.2],t.1))=_
    rw[←HV.out,HD.out,←HNn.out];dsimp only;rw[←HN2.out])
   generalize dM n (l.map (·.x)) nx2 k x=nv at *;clear a0 a1 a2 EX hMd U0 aa2 aa3 hF4 hL4 hN6;refine AX.aW _ (by rfl) (by rfl) ?_;unfold Oper.wp;go_simp
   have hB7:=Bx.new W6 205 #[.bool nv.2.e, .slice (some ⟨F4,0,none⟩) n cf4, .slice (some ⟨L4,0,none⟩) n cl4];have hb7:Below W6.heap.size W6 (W6.alloc (.cells #[.bool nv.2.e, .slice (some ⟨F4,0,none⟩) n cf4, .slice (some ⟨L4,0,none⟩) n cl4] 205)):=(Below.refl _ _).alloc Nat.le.refl _;have hM7:=hM6.below hb7;have hy7:=And.intro (And.intro (hy4.1.1.below hb7 hy4.1.1.lt) (hy4.1.2.below hb7 hy4.1.2.lt)) hy4.2;generalize W6.alloc (.cells #[.bool nv.2.e, .slice (some ⟨F4,0,none⟩) n cf4, .slice (some ⟨L4,0,none⟩) n cl4] 205)=W7 at *;refine⟨⟨⟨⟨W7,trivial⟩,rfl⟩,fun _ _=>⟨⟨W7,HC.out _ hM7.mb⟩,rfl⟩⟩,?_⟩;simp only[show (Nat.beq 4 8 || Nat.beq 5 8)=false from rfl];clear hM6 hy4 hb7;refine AX.aW _ (by rfl) (by rfl) ?_;refine Bo w.heap.size n ev l ⟨nv.2,F4,cf4,L4,cl4⟩ _ _ rfl rfl hM7.row W6.heap.size 1 rfl hB7 (by omega) hM7.low.size ?_;intro v' W8 hR8 hg8;have Yp:Bx W8 Mb 202 #[.slice (some ⟨B,off,none⟩) n c,ev, .slice (some ⟨NB,0,none⟩) n n]:=(hg8.block Mb hM7.mb.lt (Bj.Dq hM7.row hM7.mb (by decide))).trans hM7.mb;refine⟨⟨⟨⟨W8,trivial⟩,rfl⟩,fun _=>⟨⟨W8,HC.out _ Yp⟩,rfl⟩⟩,?_⟩;simp only[Act.put,List.setIfInBounds_toArray,List.set_cons_succ,List.set_cons_zero];refine AX.bT _ (by rfl) ?_;go_big_quiet_step (fail);refine wpQuiet_nil ?_;refine AX.aW _ (by rfl) (by rfl) ?_;refine AX.aI (o:=1) (v:=v') rfl rfl ?_ adl Yp (show 1<3 by decide) ?_
   ·rcases hR8.2 with ⟨e,_⟩ | ⟨g,cap,cur,e,_⟩
    ·rw[e];rfl
    ·rw[e];rfl
   rintro W9 h3 h4 h5;have hM9:=hM7.push ⟨nv.2,F4,cf4,L4,cl4⟩ hy7 hR8 hg8 h3 h4 h5;refine⟨⟨⟨⟨W9,trivial⟩,rfl⟩,fun h=>by cases h⟩,?_⟩;clear hM7 hy7 hR8 hg8 Yp h3 h4 h5 HC;unfold AX.bD;go_wp2_with fail
   exact⟨⟨k+1,bs2,l++[⟨nv.2,F4,cf4,L4,cl4⟩],v',nv.1,by omega,by simp,by simp[hlk],hM9,hid (by rw[HVV.out];simp)⟩,by simp[intOf];omega⟩
  ·obtain rfl:k=n:=by omega
   have hE:=hM.eat;obtain⟨y,hy⟩:∃ y,l[k-1]?=some y:=⟨_,List.getElem?_eq_getElem (by omega)⟩;obtain⟨la,c1,hev,hEs⟩:=hE;obtain⟨B3,jg,F,cf,L,cl,rfl,hB3,Ro,⟨e0,e1,e2⟩,hF,hL,aer⟩:=hEs (k-1) y.x (by rw[List.getElem?_map,hy];rfl);have hle:(l.map (·.x)).length=k:=(by simp[hlk]);rw[hle] at hev;subst hev;have aa9:Hid ((jv r k).1.getD (r.length-1) default=y.x):=hid (by rw[←HV.out,←HNn.out];simp[List.getD_eq_getElem?_getD,hy]);have hwf:Hid (rJ k (k+1) y.x):=hid (by
    have:=Ry HOK.out (m:=k) (by rw[←HNn.out];omega) (k-1) y.x (by rw[←HV.out];simp[hy])
    rwa [←HNn.out] at this)
   have aes:=hM.bsl;have hlow:=hM.low;have hmb:=hM.mb;have NJ:=hM.nat;obtain⟨m0,m1,m2⟩:=hmb.three;have hkk:((k:Int)-1).toNat=k-1:=(by omega);have hk0:(0:Int)≤(k:Int)-1:=(by omega);have hT:=Bx.new wr 205 #[.bool false, .slice none 0 0, .slice none 0 0];have hbT:Below wr.heap.size wr (wr.alloc (.cells #[.bool false, .slice none 0 0, .slice none 0 0] 205)):=(Below.refl _ _).alloc Nat.le.refl _;clear hEs hM hle hlk Ro;obtain⟨⟨ye,yf,yl⟩,F0,cf0,L0,cl0⟩:=y;dsimp only at *;clear hy;have hconv:=Yl s
   cases hse:s.toList.isEmpty with
   | true =>
    have HE:Hid (bytesOf s = []):=hid (by rw[ByteArray.toList_eq,List.isEmpty_iff] at hse;unfold bytesOf;rw[hse];rfl);have HMV:Hid (mV r s=ye):=hid (by
     rw[HM.out,HE.out,jZ,if_pos rfl,←HNn.out];have:=aa9.out;rw[←HNn.out] at this;rw[this])
    clear hconv;go_wp2_with ((with_reducible refine bH ?_);refine AX.au (vs:=[.bool ye, .slice (some ⟨F,0,none⟩) k cf, .slice (some ⟨L,0,none⟩) k cl]) rfl rfl iP hT rfl rfl ?_;rintro W4 h3 h4 h5;have hb4:=hlow.trans ((hbT.trans (AX.aj Nat.le.refl (.inl (Array.getElem?_eq_some_iff.1 h3).1) h4 h5)).mono hlow.size);obtain⟨t0,t1,t2⟩:=Bx.three h3;clear h3 h4 h5)
    exact bodyPost_ret (v := .bool ye) (by simp[results,Tryz.results93,go_sem]) rfl ⟨by rw[HMV.out],hb4⟩
   | false =>
    have HE:Hid (bytesOf s≠[]):=hid (by
     intro e;have e2:s.data.toList = []:=(by simpa[bytesOf] using e);rw[ByteArray.toList_eq,e2] at hse
     cases hse)
    have hs1:1≤s.size:=by
     have:=HE.out;rcases Nat.eq_zero_or_pos s.size with h0 | h0
     ·exfalso
      apply this;have:(bytesOf s).length=0:=(by simp[bytesOf,h0]);exact List.eq_nil_of_length_eq_zero this
     ·exact h0
    go_wp2_with (first
     | ((with_reducible refine bH ?_);refine AX.au (vs:=[.bool ye, .slice (some ⟨F,0,none⟩) k cf, .slice (some ⟨L,0,none⟩) k cl]) rfl rfl iP hT rfl rfl ?_;rintro W4 h3 h4 h5;have hb4:=hbT.trans (AX.aj Nat.le.refl (.inl (Array.getElem?_eq_some_iff.1 h3).1) h4 h5);have hT4:Bx W4 wr.heap.size 205 #[.bool ye, .slice (some ⟨F,0,none⟩) k cf, .slice (some ⟨L,0,none⟩) k cl]:=h3;obtain⟨t0,t1,t2⟩:=Bx.three h3;obtain⟨W5,c5,adn,hb5,ado⟩:=hconv W4;clear h3 h4 h5))
    have NK:Below wr.heap.size wr W5:=hb4.trans (hb5.mono hb4.size);have hF5:=hF.below NK hF.lt;have hL5:=hL.below NK hL.lt;have hN5:=NJ.below NK NJ.lt (fun i hi=>NJ.lt' i hi);have hT5:=hT4.below hb5 hT4.lt;have Lc:Below w.heap.size w W5:=hlow.trans (NK.mono hlow.size);have hm5:=(hmb.below NK hmb.lt);obtain⟨Yo,hby⟩:=ado;have hsl:(bytesOf s).length=s.size:=(by simp[bytesOf]);obtain⟨Tb,hTb⟩:∃ Tb,Tb=wr.heap.size:=⟨_,rfl⟩;obtain⟨Bb,hBb⟩:∃ Bb,Bb=W4.heap.size:=⟨_,rfl⟩;rw[←hTb] at hT5 ⊢;rw[←hBb] at hby Yo ⊢;clear hTb hBb hT hbT hF hL NJ hb4 hT4 t0 t1 t2 hb5 hmb m0 m1 m2 hB3 e0 e1 e2 hlow NK adn hconv;have Yq:=fun i (hi:i<k)=>hN5.lt' i hi;have hsz5:=Lc.size;go_loopw [8,9,62] (fun nv hv ix wr=>∃(j Nw cN:Nat)(xg Ap:List Bool),j≤s.size∧ix = .int .i64 j∧nv = .slice (some ⟨Nw,0,none⟩) k cN∧aJ wr Nw xg∧xg.length=k∧((j=0∧hv = .slice none 0 0)∨∃ Hb,hv = .slice (some ⟨Hb,0,none⟩) k k∧aJ wr Hb Ap∧Ap.length=k)∧Hid ((xg,Ap)=((bytesOf s).take j).foldl (QB r nx) (yf,[]))∧Below W5.heap.size W5 wr)
     (fun _ _ ix _=>s.size-(intOf ix).toNat)
    case atStart=>exact⟨0,F,cf,yf,[],Nat.zero_le _,rfl,rfl,hF5,hwf.out.lf, .inl ⟨rfl,rfl⟩,hid rfl,Below.refl _ _⟩
    case round =>
     obtain⟨j,Nw,cN,xg,Ap,hj,rfl,rfl,hNw,hnl,hhv,HF,hB⟩:=hrel
     by_cases hjl:j<s.size
     ·obtain⟨b,hb⟩:∃ b,(bytesOf s)[j]?=some b:=⟨_,List.getElem?_eq_getElem (by omega)⟩
      have c0:=(hB.cell (p:=⟨Bb,j,none⟩) Yo).trans (hby j b hb);have HTK:Hid ((bytesOf s).take (j+1)=(bytesOf s).take j++[b]):=hid (by rw[List.take_add_one,hb];rfl);obtain⟨b,rfl,hb256⟩:∃ q:Nat,b=(q:Int)∧q<256:=by
       have hm:=List.mem_of_getElem? hb;obtain⟨u,_,hu⟩:=List.mem_map.1 hm;exact⟨u.toNat,hu.symm,UInt8.toNat_lt u⟩
      have hj0:(0:Int)≤(j:Int):=(by omega);have hj1:(j:Int)<(s.size:Int):=(by omega);clear hb hhv;go_wp2_with fail
      go_cut [8,9] from 64 to 101 (fun t8 t9 wz=>∃ P Q:Nat,t8 = .slice (some ⟨P,0,none⟩) k k∧t9 = .slice (some ⟨Q,0,none⟩) k k∧aJ wz P (zeros k)∧aJ wz Q (zeros k)∧P≠Q∧wr.heap.size≤P∧wr.heap.size≤Q∧Below wr.heap.size wr wz)
      case first =>
       have hW:Below wr.heap.size wr wr.drew:=(Below.refl _ wr).drew;clear hNw hF5 hL5 hN5 hT5 hm5 hby c0;refine AX.gG (C:=fun W=>∃ p:AX.BW wr,W=p.W) Dt _ (by kernel_rfl) (by kernel_rfl) rfl (by kernel_rfl) (by intro c a d v w h;cases d<;>exact h) ⟨⟨wr.drew,hW⟩,rfl⟩ ?_;unfold Dt;generalize wr.drew=Wd at *
       repeat (refine AX.aA _ (by rfl) ?_;go_big_quiet_step (fail);refine wpQuiet_nil ?_)
       refine⟨?_,?_⟩
       ·obtain⟨W21,RD,rP,kK,Ej⟩:=bF k hn3 Wd
        refine AX.ay _ (by rfl) (by rfl) ?_;refine aN rfl rfl RD ?_;obtain⟨P,hP⟩:∃ P,P=Wd.heap.size:=⟨_,rfl⟩;rw[←hP] at rP ⊢;have hP1:=Nat.le_of_eq hP;have hP2:=Nat.le_of_eq hP.symm;clear hP Ej RD;have EH:Below wr.heap.size wr W21:=hW.trans (kK.mono hW.size);have sP:=hW.size;refine⟨⟨⟨W21,EH⟩,rfl⟩,?_⟩;simp only[Act.put,List.setIfInBounds_toArray,List.set_cons_succ,List.set_cons_zero];refine AX.aA _ (by rfl) ?_;go_big_quiet_step (fail);refine wpQuiet_nil ?_;obtain⟨W22,RF,rQ,iJ,Qe⟩:=bF k hn3 W21;refine AX.ay _ (by rfl) (by rfl) ?_;refine aN rfl rfl RF ?_;have qP:=rP.lt;replace rP:=rP.below iJ rP.lt;obtain⟨Q,hQ⟩:∃ Q,Q=W21.heap.size:=⟨_,rfl⟩;rw[←hQ] at rQ ⊢;have hQ1:=Nat.le_of_eq hQ;have hQ2:=Nat.le_of_eq hQ.symm;clear hQ Qe RF;have RG:Below wr.heap.size wr W22:=EH.trans (iJ.mono EH.size);have sQ:=EH.size;refine⟨⟨⟨W22,RG⟩,rfl⟩,?_⟩;simp only[Act.put,List.setIfInBounds_toArray,List.set_cons_succ,List.set_cons_zero];refine AX.aA _ (by rfl) ?_;go_big_quiet_step (fail);refine wpQuiet_nil ?_;unfold AX.aV;go_wp2_with fail
        go_meet
        case rel=>exact⟨P,Q,rfl,rfl,rP,rQ,by omega,by omega,by omega,RG⟩
       ·obtain⟨W21,RD,rQ,kK,Ej⟩:=bF k hn3 Wd
        refine AX.ay _ (by rfl) (by rfl) ?_;refine aN rfl rfl RD ?_;obtain⟨Q,hQ⟩:∃ Q,Q=Wd.heap.size:=⟨_,rfl⟩;rw[←hQ] at rQ ⊢;have hQ1:=Nat.le_of_eq hQ;have hQ2:=Nat.le_of_eq hQ.symm;clear hQ Ej RD;have EH:Below wr.heap.size wr W21:=hW.trans (kK.mono hW.size);have sQ:=hW.size;refine⟨⟨⟨W21,EH⟩,rfl⟩,?_⟩;simp only[Act.put,List.setIfInBounds_toArray,List.set_cons_succ,List.set_cons_zero];obtain⟨W22,RF,rP,iJ,Qe⟩:=bF k hn3 W21;refine AX.ay _ (by rfl) (by rfl) ?_;refine aN rfl rfl RF ?_;have qQ:=rQ.lt;replace rQ:=rQ.below iJ rQ.lt;obtain⟨P,hP⟩:∃ P,P=W21.heap.size:=⟨_,rfl⟩;rw[←hP] at rP ⊢;have hP1:=Nat.le_of_eq hP;have hP2:=Nat.le_of_eq hP.symm;clear hP Qe RF;have RG:Below wr.heap.size wr W22:=EH.trans (iJ.mono EH.size);have sP:=EH.size;refine⟨⟨⟨W22,RG⟩,rfl⟩,?_⟩;simp only[Act.put,List.setIfInBounds_toArray,List.set_cons_succ,List.set_cons_zero];refine AX.aA _ (by rfl) ?_;go_big_quiet_step (fail);refine wpQuiet_nil ?_;refine AX.aA _ (by rfl) ?_;go_big_quiet_step (fail);refine wpQuiet_nil ?_;unfold AX.aV;go_wp2_with fail
        go_meet
        case rel=>exact⟨P,Q,rfl,rfl,rP,rQ,by omega,by omega,by omega,RG⟩
      case rest =>
       obtain⟨P,Q,rfl,rfl,hP,hQ,hPQ,hgP,hgQ,hz⟩:=hcut;have hNc:=hNw.below hz hNw.lt;have aeu:=hNw.lt;have hB2:=hB.trans (hz.mono hB.size);have hBs:=hB.size;have hlk2:(AY r xg (b:Int)).length=k:=(by rw[QG];exact HNn.out.symm);have HHV:Hid (∀ i x,i<k→r[i]?=some x→(AY r xg (b:Int)).getD i false=(xg.getD i false && x.has (b:Int))):=hid fun i x hi hx=>by
        have hir:=lt_of_some hx;unfold AY;rw[List.getD_eq_getElem?_getD,List.getElem?_map,List.getElem?_range hir];simp[List.getD_eq_getElem?_getD,hx]
       have HRD:Hid (QB r nx (xg,Ap) (b:Int)=(Uy r nx (AY r xg (b:Int)),AY r xg (b:Int))):=hid rfl;generalize AY r xg (b:Int)=hvl at *;clear hNw c0;go_wp2_with fail
       go_loopw [75] (fun ix wr=>∃(i:Nat)(nA hA:List Bool),i≤k∧ix = .int .i64 i∧aJ wr P nA∧aJ wr Q hA∧nA.length=k∧hA.length=k∧Hid (nA=(List.range i).foldl (JB nx hvl) (zeros k))∧Hid (∀ q,q<k→hA[q]?=some (if q<i then hvl.getD q false else false))∧fV (fun b=>b=P∨b=Q) wc wr)
        (fun ix _=>k-(intOf ix).toNat)
       case atStart=>exact⟨0,zeros k,zeros k,Nat.zero_le _,rfl,hP,hQ,by simp[zeros],by simp[zeros],hid rfl,hid (fun q hq=>by simp[zeros,hq]),fV.refl _ _⟩
       case round =>
        clear hP hQ;obtain⟨i,nA,hA,hi,rfl,hP,hQ,hnA,hhA,HNA,HHA,hbu⟩:=hrel
        by_cases hik:i<k
        ·obtain⟨x,hx⟩:∃ x,r[i]?=some x:=⟨_,List.getElem?_eq_getElem (by rw[←HNn.out];exact hik)⟩
         obtain⟨mi,hmi⟩:∃ mi,xg[i]?=some mi:=⟨_,List.getElem?_eq_getElem (by omega)⟩;have hxw:=hwd x (List.mem_of_getElem? hx);have hNi:=hNc.iQ hbu (by rintro (e | e)<;>omega);have c1:=hNi.at i mi hmi;have uK:Below w.heap.size w wr:=(Lc.trans (hB2.mono hsz5)).trans (hbu.below (by have:=hB2.size;omega) (by rintro q (e | e)<;>omega));obtain⟨_,k1,k2,k3,k4,_⟩:=hX i x hx;replace k1:=(uK.cell (p:=⟨B,off+i*6+1,none⟩) hBl).trans k1;replace k2:=(uK.cell (p:=⟨B,off+i*6+2,none⟩) hBl).trans k2;replace k3:=(uK.cell (p:=⟨B,off+i*6+3,none⟩) hBl).trans k3;replace k4:=(uK.cell (p:=⟨B,off+i*6+4,none⟩) hBl).trans k4;have HV9:Hid (hvl.getD i false=(mi && x.has (b:Int))):=hid (by rw[HHV.out i x hik hx,List.getD_eq_getElem?_getD,hmi];rfl);have hrn:Hid ((List.range (i+1)).foldl (JB nx hvl) (zeros k)=JB nx hvl nA i):=hid (by rw[List.range_succ,List.foldl_append,←HNA.out];rfl);have hi0:(0:Int)≤(i:Int):=(by omega);have hi1:(i:Int)<(k:Int):=(by omega);have hit:(i:Int).toNat=i:=(by omega);have hBw:B<wr.heap.size:=Nat.lt_of_lt_of_le hBl uK.size;have hhas:=fun W=>abb x hxw b hb256 W;have Yr:=HHA.out i hik;rw[if_neg (Nat.lt_irrefl i)] at Yr;have HHN:Hid (∀ v,v=hvl.getD i false→∀ q,q<k→(hA.set i v)[q]?=some (if q<i+1 then hvl.getD q false else false)):=hid (by
          intro v hv q hq;rw[List.getElem?_set]
          by_cases e:i=q
          ·subst e;rw[if_pos rfl,if_pos (by omega),if_pos (by omega),hv]
          ·rw[if_neg e,HHA.out q hq]
           by_cases e2:q<i
           ·rw[if_pos e2,if_pos (by omega)]
           ·rw[if_neg e2,if_neg (by omega)])
         have HSM:Hid (hA.set i false=hA):=hid (List.ext_getElem? fun q=>by
          rw[List.getElem?_set]
          by_cases e:i=q
          ·subst e;rw[if_pos rfl,if_pos (by omega),Yr]
          ·rw[if_neg e])
         have U1:∀ i,i<k→bs i≠P∧bs i≠Q:=fun i hi=>by have:=Yq i hi;exact⟨by omega,by omega⟩
         have hN9:NAt wr NB k k bs nx:=hN5.same ((hbu.same NB (by have:=hN5.lt;have:=hB2.size;omega) (by rintro (e | e)<;>(have:=hN5.lt;omega))).trans (hB2.block _ hN5.lt)) (fun i hi=>((hbu.same (bs i) (by have:=Yq i hi;have:=hB2.size;omega) (by rintro (e | e);exact (U1 i hi).1 e;exact (U1 i hi).2 e)).trans (hB2.block _ (Yq i hi))));obtain⟨row,hrow⟩:∃ row,nx[i]?=some row:=⟨_,List.getElem?_eq_getElem (by rw[hN5.len];exact hik)⟩;obtain⟨hr9,hrl⟩:=hN9.row i row hik hrow;have hc9:=hN9.cell hik;have HRW:Hid (nx.getD i []=row):=hid (by rw[List.getD_eq_getElem?_getD,hrow];rfl);have hm9:wr.cell? ⟨Mb,2,none⟩=some (.slice (some ⟨NB,0,none⟩) k k):=by
          have:=hm5.three.2.2;rw[←this];exact dh ((hbu.same Mb (by have:=hm5.lt;have:=hB2.size;omega) (by rintro (e | e)<;>(have:=hm5.lt;omega))).trans (hB2.block _ hm5.lt))
         have hor:=fun W (h1:aJ W P nA) (h2:aJ W (bs i) row)=>NG P (bs i) k k k nA row (U1 i hik).1 hnA hrl (by omega) W h1 h2;have adp:=hN9.lt;have adq:Mb<wr.heap.size:=by
          have:=hm5.lt;have:=hB2.size;have:=hbu.low.size;omega
         have abd:Mb≠Q∧NB≠Q:=⟨by have:=hm5.lt;omega,by have:=hN5.lt;omega⟩;have aev:=hr9.lt;clear hx hmi hrow hNi uK hN9;have HWF:Hid (∀ Wd,Below wr.heap.size wr Wd→aJ Wd P nA∧aJ Wd Q hA∧aJ Wd (bs i) row∧fV (fun b=>b=P∨b=Q) wc Wd):=hid fun Wd h=>⟨hP.below h hP.lt,hQ.below h hQ.lt,hr9.below h hr9.lt,hbu.trans (.of_below h)⟩
         cases mi with
         | false =>
          go_wp2_with fail
          exact⟨⟨i+1,nA,hA,by omega,by simp,hP,hQ,hnA,hhA,hid (by rw[hrn.out];unfold JB;rw[if_neg (by rw[HV9.out];simp)]),hid (by have:=HHN.out false (by rw[HV9.out];rfl);rwa [HSM.out] at this),hbu⟩,by simp[intOf];omega⟩
         | true =>
          cases hxb:x.has (b:Int) with
          | false =>
           rw[hxb] at HV9;have HH2:=hid hhas;rw[hxb] at hhas;clear hxb;go_wp2_with (go_at_call 125;(with_reducible refine(hhas _).mono ?_);rintro e Wd ⟨rfl,hbd⟩)
           obtain⟨hP2,hQ2,hr2,Yt⟩:=HWF.out _ hbd;exact⟨⟨i+1,nA,hA,by omega,by simp,hP2,hQ2,hnA,hhA,hid (by rw[hrn.out];unfold JB;rw[if_neg (by rw[HV9.out];simp)]),hid (by have:=HHN.out false (by rw[HV9.out];rfl);rwa [HSM.out] at this),Yt⟩,by simp[intOf];omega⟩
          | true =>
           rw[hxb] at HV9 hhas;clear hxb;go_wp2_with (first
            | (go_at_call 125;(with_reducible refine(hhas _).mono ?_);rintro e Wd ⟨rfl,hbd⟩;obtain⟨hP2,hQ2,hr2,Yt⟩:=HWF.out _ hbd;obtain⟨cs,hcs,hcg⟩:=hQ2;have hci:=(Array.getElem?_eq_some_iff.1 (hcg i _ Yr)).1;have m9:=(hbd.cell (p:=⟨Mb,2,none⟩) adq).trans hm9;have n9:=(hbd.cell (p:=⟨NB,i,none⟩) adp).trans hc9;have hQ2:aJ Wd Q hA:=⟨cs,hcs,hcg⟩;clear hcg)
            | ((with_reducible refine bH ?_);refine AX.aB (o:=i) (v := .bool true) rfl rfl rfl sz4 hcs hci ?_;rintro W6 h3 h4 h5;have hQ6:=hQ2.wrote hcs h3;have hP6:=hP2.same (h4 _ hPQ);have hr6:=hr2.same (h4 _ (U1 i hik).2);have m6:=(dh (o:=2) (h4 _ abd.1)).trans m9;have n6:=(dh (o:=i) (h4 _ abd.2)).trans n9;have U0:fV (fun b=>b=P∨b=Q) wc W6:=Yt.trans ⟨AX.aj (Nat.zero_le _) (.inl (Array.getElem?_eq_some_iff.1 h3).1) h4 h5,fun q _ hn=>h4 q (fun e=>hn (.inr e))⟩;clear h3 h4 h5)
            | (go_at_call 126;(with_reducible refine(hor _ hP6 hr6).mono ?_);rintro e W7 ⟨rfl,hP7,hb7⟩))
           have hQ7:=hQ6.but hb7 (fun e=>hPQ e.symm);exact⟨⟨i+1,orS nA row,hA.set i true,by omega,by simp,hP7,hQ7,by rw[iL (by rw[hnA,hrl]),hnA],by simpa using hhA,hid (by rw[hrn.out];unfold JB;rw[if_pos (by rw[HV9.out];rfl),HRW.out]),hid (HHN.out true (by rw[HV9.out];rfl)),U0.trans (.vN hb7 (.inl rfl))⟩,by simp[intOf];omega⟩
        ·obtain rfl:i=k:=by omega
         have HNF:Hid (nA=Uy r nx hvl):=hid (by rw[HNA.out];unfold Uy;rw[←HNn.out]);have HHF:Hid (hA=hvl):=hid (List.ext_getElem? fun q=>by
          by_cases hq:q<i
          ·rw[HHA.out q hq,if_pos hq,List.getD_eq_getElem?_getD,List.getElem?_eq_getElem (by omega)];rfl
          ·rw[List.getElem?_eq_none (by omega),List.getElem?_eq_none (by omega)])
         have hB9:=hB2.trans (hbu.below hB2.size (by rintro q (e | e)<;>omega));go_wp2_with fail
         exact⟨⟨j+1,P,i,nA,hA,by omega,by simp,rfl,hP,hnA, .inr ⟨Q,rfl,hQ,hhA⟩,hid (by rw[HTK.out,List.foldl_append,←HF.out];simp only[List.foldl_cons,List.foldl_nil,HRD.out,HNF.out,HHF.out]),hB9⟩,by simp[intOf];omega⟩
     ·obtain rfl:j=s.size:=by omega
      rcases hhv with ⟨h0,_⟩ | ⟨Hb,rfl,hH,hhl⟩
      ·omega
      have hLr:=hL5.below hB hL5.lt;have hTr:=hT5.below hB hT5.lt;have uK:=Lc.trans (hB.mono hsz5);obtain⟨t0,t1,t2⟩:=hTr.three;have hll:=hwf.out.ll;dsimp only at hll;have HMV:Hid (mV r s=QC Ap yl):=hid (by
       rw[HM.out,jZ];simp only[if_neg HE.out];have hT9:=aa9.out;rw[HNn.out] at hT9;rw[hT9];have h2:(jv r r.length).2=nx:=(by rw[←HNn.out,←HV.out]);rw[h2];have h3:=HF.out;rw[List.take_of_length_le (by omega)] at h3;rw[←h3])
      clear hT5 hm5 hN5 hF5 hL5 Lc hB hNw hby;obtain⟨wo,rfl⟩:∃ wo:World,wo=wr:=⟨_,rfl⟩;go_wp2_with fail
      go_loopw [104] (fun ix wr=>∃ i:Nat,i≤k∧ix = .int .i64 i∧Hid (∀ q,q<i→(Ap.getD q false && yl.getD q false)=false)∧wr=wo)
       (fun ix _=>k-(intOf ix).toNat)
      case atStart=>exact⟨0,Nat.zero_le _,rfl,hid (fun q h=>by omega),rfl⟩
      case round =>
       obtain⟨i,hi,rfl,HI,rfl⟩:=hrel
       by_cases hik:i<k
       ·obtain⟨hb1,hh1⟩:∃ b,Ap[i]?=some b:=⟨_,List.getElem?_eq_getElem (by omega)⟩
        obtain⟨lb1,hl1⟩:∃ b,yl[i]?=some b:=⟨_,List.getElem?_eq_getElem (by omega)⟩;have c0:=hH.at i hb1 hh1;have c1:=hLr.at i lb1 hl1;have HX1:Hid ((Ap.getD i false && yl.getD i false)=(hb1 && lb1)):=hid (by rw[List.getD_eq_getElem?_getD,List.getD_eq_getElem?_getD,hh1,hl1];rfl);have hi0:(0:Int)≤(i:Int):=(by omega);have hi1:(i:Int)<(k:Int):=(by omega);have hit:(i:Int).toNat=i:=(by omega);clear hh1 hl1
        cases hb1<;>cases lb1
        all_goals
         go_wp2_with fail
         first
          | exact bodyPost_ret (v := .bool true) (by simp[results,Tryz.results93,go_sem]) rfl ⟨by rw[HMV.out,show QC Ap yl=true from List.any_eq_true.2 ⟨i,List.mem_range.2 (by omega),by rw[HX1.out];rfl⟩],uK⟩
          | exact⟨⟨i+1,by omega,by simp,hid (fun q hq=>by
           by_cases e:q=i
           ·subst e;rw[HX1.out];rfl
           ·exact HI.out q (by omega)),trivial⟩,by simp[intOf];omega⟩
       ·obtain rfl:i=k:=by omega
        go_wp2_with fail
        exact bodyPost_ret (v := .bool false) (by simp[results,Tryz.results93,go_sem]) rfl ⟨by
         rw[HMV.out,show QC Ap yl=false from by
          unfold QC;rw[List.any_eq_false];intro q hq;rw[hhl] at hq;rw[HI.out q (List.mem_range.1 hq)];simp],uK⟩
end Go.Proofs.YtkjgogdkdejljaaGreatDoor.Rx
namespace Go.Proofs.YtkjgogdkdejljaaGreatDoor.Df
open Go Go.Proofs Go.RowKit
open Rx (Nd eP iO jk C4 Ms fA mkI dA fP nP dG cZ Reads jY h5 H5 pG mV)
def runM(s:ByteArray):Nat→Ms (List Nd) Int→Ms (List Nd) Int
 | 0,x=>x
 | f+1,x=>if dG s.size x.a x.e=true then runM s f (Rx.stepG mkI s x) else x
def yQ(s:ByteArray)(x:Ms (List Nd) Int):Nat:=if x.e=0 then s.size-x.a+1 else 0
theorem LU{s:ByteArray}{b x:Ms (List Nd) Int}(h:Rx.Reach mkI s b x)(F:Nat)(hF:yQ s b≤F):∃ F',runM s F b=runM s F' x∧yQ s x≤F':=by
 induction h with
 | refl=>exact⟨F,rfl,hF⟩
 | @more y _ hm ih =>
  obtain⟨F',h1,h2⟩:=ih;obtain⟨he,hal⟩:=cZ.1 hm;have h3:yQ s y=s.size-y.a+1:=if_pos he;obtain⟨G,rfl⟩:∃ G,F'=G+1:=⟨F'-1,by omega⟩;refine⟨G,by rw[h1];exact if_pos hm,?_⟩;unfold yQ;split
  ·rename_i h0
   have:=Rx.DL mkI s y he hal h0;omega
  ·omega
theorem run_end{s:ByteArray}{x:Ms (List Nd) Int}(h:dG s.size x.a x.e=false):∀ F,runM s F x=x
 | 0=>rfl
 | F+1=>by
  unfold runM;rw[h];rfl
def wI(s:ByteArray):Ms (List Nd) Int:=runM s (s.size+1) (nP [])
theorem OQ{s:ByteArray}{x:Ms (List Nd) Int}(h:Reads s x):x=wI s:=by
 obtain⟨F',h1,_⟩:=LU h.1 (s.size+1) (by show(if (0:Int)=0 then s.size-0+1 else 0)≤_;rw[if_pos rfl];omega);rw[run_end h.2.1] at h1;exact h1.symm
def rdP(s:ByteArray):List Nd×Int:=if (jY s (wI s)).2=0 then (Rx.rowOf (wI s),0) else ([],(jY s (wI s)).2)
theorem OT{s:ByteArray}(h:(rdP s).2=0):(jY s (wI s)).2=0∧(rdP s).1=Rx.rowOf (wI s):=by
 unfold rdP at h ⊢
 by_cases h0:(jY s (wI s)).2=0
 ·rw[if_pos h0];exact⟨h0,rfl⟩
 ·rw[if_neg h0] at h;exact absurd h h0
theorem xu{r:List Nd}{h:H5}{l:List Int}(hw:h.w.Wd)(hr:∀ y∈r,y.Wd):∀ y∈(mkI r h l).1,y.Wd:=fun y hy=>by
 rcases List.mem_append.1 hy with hy | hy
 ·exact hr y hy
 ·rw[List.mem_singleton.1 hy];exact⟨hw.a,hw.b,hw.c,hw.d⟩
theorem yR:C4.Wd .zero:=⟨by decide,by decide,by decide,by decide⟩
theorem yS{r:List Nd}{k:Int}{l:List Int}(hr:∀ y∈r,y.Wd):∀ y∈(dA mkI r k l).1,y.Wd:=by
 match l with
 | []=>exact xu yR hr
 | [_]=>exact hr
 | _::_::_=>exact xu yR hr
theorem FM{r:List Nd}{A I:List Int}(hr:∀ y∈r,y.Wd):∀ y∈(fP mkI r A I).1,y.Wd:=yS (yS hr)
theorem vw{x:Ms (List Nd) Int}{k:Int}(hr:∀ y∈x.st,y.Wd):∀ y∈(fA mkI x k).st,y.Wd:=by
 unfold fA;split
 ·exact hr
 ·exact xu yR hr
theorem OU{s:ByteArray}{x:Ms (List Nd) Int}(hm:dG s.size x.a x.e=true)(hr:∀ y∈x.st,y.Wd):∀ y∈(Rx.stepG mkI s x).st,y.Wd:=by
 have hal:=(cZ.1 hm).2;unfold Rx.stepG;split
 ·exact yS hr
 split
 ·exact hr
 split
 ·split
  ·exact hr
  ·exact FM hr
 split
 ·exact hr
 split
 ·exact vw hr
 split
 ·exact vw hr
 split
 ·exact vw hr
 ·exact xu (pG s (x.a+1) _ (by omega)).1 hr
theorem LW{s:ByteArray}{b x:Ms (List Nd) Int}(h:Rx.Reach mkI s b x)(hb:∀ y∈b.st,y.Wd):∀ y∈x.st,y.Wd:=by
 induction h with
 | refl=>exact hb
 | more _ hm ih=>exact OU hm ih
theorem J4{s:ByteArray}{x:Ms (List Nd) Int}(h:Reads s x):∀ y∈Rx.rowOf x,y.Wd:=FM (LW h.1 (fun y hy=>by cases hy))
open Rx (vC)
def OV(b:Nat)(s:ByteArray)(e:Ending)(w':World):Prop:=∃ v at_,e = .returned (.tuple #[v, .int .i64 at_, .int .i64 (rdP s).2])∧vC b w' v (rdP s).1∧((rdP s).2=0→eP (rdP s).1∧∀ y∈(rdP s).1,y.Wd)
theorem OW(w:World):jk w (.slice none 0 0) []:=⟨none,0,rfl,fun _=>rfl,fun a h=>by cases h⟩
theorem Tj{b b':Nat}{W W':World}{v:Value}{r:List Nd}(h:vC b' W v r)(hb:b≤b')(hl:Below W.heap.size W W'):vC b W' v r:=fun W2 h1 h2 =>
 h W2 (Nat.le_trans hl.size h1) fun j hj hlt=>(h2 j (Nat.le_trans hb hj) (Nat.lt_of_lt_of_le hlt hl.size)).trans (hl.block j hlt)
theorem abS(s:ByteArray)(hs:s.size≤254)(w:World):Calls Tryz.prog 53 #[.string s] w fun e w'=>OV w.heap.size s e w'∧Below w.heap.size w w' :=
 (Rx.WL s (by omega) w).mono fun e w' h=>by
  obtain⟨⟨x,v,hr,h1,h2,h3⟩,hb⟩:=h;have hx:=OQ hr;refine⟨⟨v,(if (jY s x).2=0 then (s.size:Int) else (jY s x).1),h1.trans ?_,?_,fun h0=>?_⟩,hb⟩
  ·refine congrArg Ending.returned ?_
   refine congrArg (fun z=>Value.tuple #[v,Value.int .i64 (if (jY s x).2=0 then (s.size:Int) else (jY s x).1),Value.int .i64 z]) ?_;unfold rdP;rw[←hx]
   by_cases h0:(jY s x).2=0
   ·rw[if_pos h0,h0]
   ·rw[if_neg h0]
  ·unfold rdP
   rw[←hx]
   by_cases h0:(jY s x).2=0
   ·rw[if_pos h0];exact h2 h0
   ·rw[if_neg h0,h3 h0];exact fun W' _ _=>OW W'
  ·obtain⟨h4,h5⟩:=OT h0
   rw[h5];rw[←hx] at h4 ⊢;exact⟨(Rx.BM hs hr h4).ok,J4 hr⟩
structure Rl where
 nm:ByteArray
 re:ByteArray
 tr:Bool
def inN(names:List ByteArray)(s:ByteArray):Bool:=names.any fun x=>x.data.toList == s.data.toList
theorem DN{names:List ByteArray}{s:ByteArray} : inN names s=true↔s∈names:=by
 unfold inN;rw[List.any_eq_true]
 constructor
 ·rintro⟨x,hx,h⟩
  have h:=eq_of_beq h;have:x=s:=by
   cases x;cases s
   simp only at h;rw[Array.toList_inj.1 h]
  exact this ▸ hx
 ·exact fun h=>⟨s,h,by simp⟩
def iU(names:List ByteArray)(x:Rl):List Nd×Int :=
 if x.nm.size=0 then ([],2) else if inN names x.nm=true then ([],6) else ((rdP x.re).1,if (rdP x.re).2=0 then (if Rx.jZ (rdP x.re).1 []=true then 4 else 0) else (rdP x.re).2)
end Go.Proofs.YtkjgogdkdejljaaGreatDoor.Df
