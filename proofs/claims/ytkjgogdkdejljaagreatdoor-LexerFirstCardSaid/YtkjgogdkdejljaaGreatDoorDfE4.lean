import Derived.Test.YtkjgogdkdejljaaGreatDoorRxS9
set_option maxRecDepth 100000
set_option maxHeartbeats 40000000
namespace Go.Proofs.YtkjgogdkdejljaaGreatDoor.Rx
section
open Go.Lib (hid)
open Go Go.Proofs Go.RowKit
attribute [local go_sem] Oper.semAt_some
theorem Em{σ α: Type}(mk: σ->H5->List α->σ×α)(s:ByteArray)(x:Ms σ α)(_he:x.e=0)(hal:x.a<s.size)(h:(stepG mk s x).e=0):x.a<(stepG mk s x).a:=by
 have hag:∀k,(eG mk x k).e=0->x.a<(eG mk x k).a:=fun k h=>by
  unfold eG at h⊢
  cases e:x.I.getLast? with
  | none=>rw[e]at h;simp at h
  | some y=>exact ag9 _
 unfold stepG at h⊢;split
 ·exact ag9 _
 rw[afO (by assumption)]at h;split
 ·exact ag9 _
 rw[afO (by assumption)]at h;split
 ·rw[afR (by assumption)]at h
  cases e:x.f with
  | nil=>rw[e]at h;simp at h
  | cons y f=>exact ag9 _
 rw[afO (by assumption)]at h;split
 ·rw[afR (by assumption)]at h;cases h
 rw[afO (by assumption)]at h;split
 ·rw[afR (by assumption)]at h;exact hag 5 h
 rw[afO (by assumption)]at h;split
 ·rw[afR (by assumption)]at h;exact hag 6 h
 rw[afO (by assumption)]at h;split
 ·rw[afR (by assumption)]at h;exact hag 7 h
 rw[afO (by assumption)]at h;obtain⟨_,_,t3⟩:=pV s (x.a+1) (bg s x.a) hal;exact t3 h
def Reads(s:ByteArray)(x:Ms (List Nd) Int):Prop:=Reach mkI s (nX []) x/\dh s.size x.a x.e=false/\(x.e=0->BM s x)
def kG(s:ByteArray)(x:Ms (List Nd) Int):Int×Int:=if x.f=[]then ((x.a:Int),x.e)else gQ ((x.a:Int),x.e) s.size 8
def TQ(b:Nat)(w':World)(s:ByteArray)(e:Ending):Prop:=∃x v,Reads s x/\e=.returned (.tuple #[v,.int .i64 (if (kG s x).2=0 then (s.size:Int)else (kG s x).1),.int .i64 (kG s x).2]) /\
 ((kG s x).2=0->vI b w' v (fE mkI x.st x.A x.I).1)/\((kG s x).2≠0->v=.slice none 0 0)
theorem Zw(w:World)(s:ByteArray)(W:World)(Rb Sb:Nat)(hlow:Below w.heap.size w W)(hSb:w.heap.size<=Sb)(hRb:w.heap.size<=Rb)(hS:Bx W Sb 165 #[.slice none 0 0,.slice none 0 0])
  (hR:Rdr W Rb s 0 (.slice none 0 0) (.slice (some ⟨Sb,0,none⟩) 1 1) 0):OU w W Rb s (nX []):=by
 have hn:∀u,Apart (.slice none 0 0) u:=fun u g hg=>by simp[Value.ownBlock]at hg
 refine⟨Sb,[],.slice none 0 0,.slice none 0 0,.slice none 0 0,[],[],1,⟨⟨hlow,hRb,hR,World.ownsRow_nil _ _ _ _,⟨rfl,.inr ⟨Sb,1,_,rfl,hSb,hS,agq _,by decide,rfl,rfl⟩⟩,fun p hp=>?_,?_,fun y hy=>by simp at hy,fun y hy=>by simp at hy,fun y hy=>by simp at hy⟩,rfl,.nil⟩⟩
 ·simp only[afX,agx,ahd]at hp
  rcases hp with rfl|rfl<;>exact World.ownsRow_nil _ _ _ _
 ·exact agF.2 ⟨fun q _=>hn _,agF.2 ⟨fun q hq=>by simp at hq,List.Pairwise.nil⟩⟩
theorem Ym(s:ByteArray)(hs:s.size<=256)(w:World):Calls Tryz.prog 53 #[.string s] w fun e w'=>TQ w.heap.size w' s e/\Below w.heap.size w w':=by
 have hs2:¬(256:Int)<(s.size:Int):=by omega
 obtain⟨W0,hW0⟩:=afC (w.alloc (.cells #[.slice none 0 0,.slice none 0 0] 165));obtain⟨Sb,hSb⟩:=afC w.heap.size;have hB0:Bx W0 Sb 165 #[.slice none 0 0,.slice none 0 0]:=by rw[hW0,hSb];exact Bx.new _ _ _
 have hb0:Below w.heap.size w W0:=by rw[hW0];exact (afI _ _).alloc afD _
 have hRd:Rdr (W0.alloc (.cells #[.string s,.int .i64 0,.slice none 0 0,.slice (some ⟨Sb,0,none⟩) 1 1,.int .i64 0] 168)) W0.heap.size s 0 (.slice none 0 0) (.slice (some ⟨Sb,0,none⟩) 1 1) 0:=Bx.new W0 168 _;have hb1:=(afI W0.heap.size W0).alloc afD (.cells #[.string s,.int .i64 0,.slice none 0 0,.slice (some ⟨Sb,0,none⟩) 1 1,.int .i64 0] 168);have hin:=Zw w s _ W0.heap.size Sb (hb0.trans (hb1.mono hb0.size)) (by omega) hb0.size (hB0.below hb1 hB0.lt) hRd;rw[show W0.heap.size=Sb+1 by rw[hW0,hSb];simp]at hin;have HW0:=hid hW0;have HSb:=hid hSb;clear hW0 hSb hRd hB0 hb1 hb0;go_enter Tryz.func53,Tryz.ntmps53
 go_wp2_with fail
 rw[<-HSb.out,<-HW0.out];obtain⟨Rb,hRb⟩:=afC (Sb+1);rw[<-hRb]at hin⊢;clear hRb;generalize (W0.alloc (.cells #[.string s,.int .i64 0,.slice none 0 0,.slice (some ⟨Sb,0,none⟩) 1 1,.int .i64 0] 168))=W1 at *;go_loopw [14] (fun _ wr=>∃x:Ms (List Nd) Int,OU w wr Rb s x/\Reach mkI s (nX []) x/\(x.e=0->BM s x))
  (fun _ wr=>if numOf wr Rb 4=0 then s.size-(numOf wr Rb 1).toNat+1 else 0)
 case atStart=>exact⟨nX [],hin,.refl _,fun _=>TF s⟩
 case round =>
  clear hin;obtain⟨x,hx,hre,hok⟩:=hrel;have HRE:=hid hre;have HOK:=hid hok;clear hre hok;have hx0:=hx;obtain⟨Sb2,r,rv,av,iv,fs,rs,c,h,hnd,hfr⟩:=hx;have hmk:=AP Rb s x.a rv (.slice (some ⟨Sb2,0,none⟩) (fs.length+1) c) x.e
  by_cases hm:dh s.size x.a x.e=true
  ·obtain⟨he,hal⟩:=bY.1 hm
   rw[hm]at hmk;have hst:=fun W2 (h2:OU w W2 Rb s x)=>Zx w W2 Rb s x h2 (HOK.out he) hs he hal;have HM:=hid hm;obtain⟨o1,o4⟩:=uN h.rd;have HE:=hid he;have HAL:=hid hal;clear hm he hal;go_wp2_with (first
    | (go_at_call 89;(with_reducible refine(hmk _ h.rd).mono ?_);rintro y W2 ⟨rfl,hb2⟩;have hx2:OU w W2 Rb s x:=⟨Sb2,r,rv,av,iv,fs,rs,c,⟨h.below hb2,hnd,hfr⟩⟩)
    | (go_at_call 90;(with_reducible refine(hst _ hx2).mono ?_);rintro y W3 ⟨rfl,hx3⟩))
   have aem:(stepG mkI s x).e=0->BM s (stepG mkI s x):=step_ok (HOK.out HE.out) hs HAL.out HE.out;have aen:=Reach.more HRE.out HM.out;refine⟨⟨stepG mkI s x,hx3,aen,aem⟩,?_⟩;obtain⟨Sb3,r3,rv3,av3,iv3,fs3,rs3,c3,h3,_,_⟩:=hx3;obtain⟨q1,q4⟩:=uN h3.rd;rw[q1,q4,o1,o4,HE.out,afR rfl,afY,afY];have hlt:=HAL.out
   by_cases h0:(stepG mkI s x).e=0
   ·rw[afR h0];have:=Em mkI s x HE.out hlt h0;omega
   ·rw[afO h0];omega
  ·have hmf:dh s.size x.a x.e=false:=agU.2 hm
   rw[hmf]at hmk;have HRS:Hid (Reads s x):=hid ⟨HRE.out,hmf,HOK.out⟩;clear hm hmf;have hlen:=hfr.len
   by_cases hf:x.f=[]
   ·have hO:kG s x=((x.a:Int),x.e):=afR hf
    have hfs:fs=[]:=agB (by rw[hlen,hf];rfl);subst hfs
    by_cases he:x.e=0
    ·obtain⟨hfo,hrl,hsl,hal',hfl⟩:=HOK.out he
     have acn:r.length<=9000:=by
      have:r.length=x.st.length:=(by rw[<-hnd];simp);omega
     have hAl:x.A.length<=9000:=by
      unfold eP at hrl;simp only[afP]at hrl;omega
     rw[he]at hO;have HO:=hid hO;have HE:=hid he;have HF:=hid hf;have HND:=hid hnd;rw[he]at h hmk;clear hfo hrl hsl hal' hfl hO he hf hnd hlen hfr;go_wp2_with (first
      | (go_at_call 89;(with_reducible refine(hmk _ h.rd).mono ?_);rintro y W2 ⟨rfl,hb2⟩;have h2:=h.below hb2;obtain⟨c0,c1,c2,c3,c4⟩:=Bx.fiv h2.rd;have hp:=XH av iv x.A x.I h2 acn hAl (by simp))
      | (go_at_call 92;(with_reducible refine hp.mono ?_);rintro y W3 ⟨rfl,rv3,r3,h3,hr3⟩;obtain⟨x0,x1,x2,x3,x4⟩:=Bx.fiv h3.rd))
     have hRR:=h3.far;rw[hr3,HND.out]at hRR;exact afJ (v:=.tuple #[rv3,.int .i64 s.size,.int .i64 0]) (by simp[results,Tryz.results53,go_sem]) rfl ⟨⟨x,rv3,HRS.out,by rw[HO.out];rfl,fun _=>hRR,fun hne=>absurd (by rw[HO.out]) hne⟩,h3.low⟩
    ·have HO:=hid hO
     have HE:=hid he;clear hO hf hnd hlen hfr;go_upto_region 9 with (first
      | (go_at_call 89;(with_reducible refine(hmk _ h.rd).mono ?_);rintro y W2 ⟨rfl,hb2⟩;have h2:=h.below hb2;obtain⟨c0,c1,c2,c3,c4⟩:=Bx.fiv h2.rd))
     obtain⟨e0,e1,e2,e3,e4⟩:=Bx.fiv h2.rd;have f1:=AX.aA e1 h2.rd.lt;have f4:=AX.aA e4 h2.rd.lt;refine AX.aF (by kernel_rfl) (by kernel_rfl) ?_
     repeat (go_big_quiet_step (fail))
     refine afQ ?_;rintro W4 ⟨p,rfl⟩;obtain⟨W4,hb4⟩:=p;change Below _ _ _ at hb4;have h4:=h2.below hb4;go_wp2_with fail
     exact afJ (v:=.tuple #[.slice none 0 0,.int .i64 x.a,.int .i64 x.e]) (by simp[results,Tryz.results53,go_sem]) rfl ⟨⟨x,.slice none 0 0,HRS.out,by rw[HO.out];simp only[afO HE.out],fun h0=>absurd (by rw[HO.out]at h0;exact h0) HE.out,fun _=>rfl⟩,h4.low⟩
   ·have hO:kG s x=gQ ((x.a:Int),x.e) s.size 8:=afO hf
    have hfs:1<=fs.length:=by
     rw[hlen]
     cases hx:x.f with
     | nil=>exact absurd hx hf
     | cons _ _=>simp
    have afs:(1:Int)<(fs.length:Int)+1:=(by omega);have hfv:=lK Rb s x.a rv (.slice (some ⟨Sb2,0,none⟩) (fs.length+1) c) x.e s.size 8;obtain⟨a2,ha2⟩:=afC ((gQ ((x.a:Int),x.e) s.size 8).1);obtain⟨e2',he2⟩:=afC ((gQ ((x.a:Int),x.e) s.size 8).2);have hne:e2'≠0:=by
     rw[he2];unfold gQ
     by_cases h0:x.e=0
     ·simp[h0]
     ·simp[h0]
    rw[<-ha2,<-he2]at hfv;have HO:Hid (kG s x=(a2,e2')):=hid (by rw[hO,ha2,he2]);have HE:=hid hne;clear hO hf hnd hlen hfr ha2 he2 hne;go_upto_region 9 with (first
     | (go_at_call 89;(with_reducible refine(hmk _ h.rd).mono ?_);rintro y W2 ⟨rfl,hb2⟩;have h2:=h.below hb2;obtain⟨c0,c1,c2,c3,c4⟩:=Bx.fiv h2.rd)
     | (go_at_call 91;(with_reducible refine(hfv _ h2.rd).mono ?_);rintro y W3 ⟨rfl,hR3,hb3⟩;have h3:=h2.box hb3 hR3;obtain⟨x0,x1,x2,x3,x4⟩:=Bx.fiv h3.rd;have hne2:=HE.out))
    obtain⟨e0,e1,e2,e3,e4⟩:=Bx.fiv h3.rd;have f1:=AX.aA e1 h3.rd.lt;have f4:=AX.aA e4 h3.rd.lt;refine AX.aF (by kernel_rfl) (by kernel_rfl) ?_
    repeat (go_big_quiet_step (fail))
    refine afQ ?_;rintro W4 ⟨p,rfl⟩;obtain⟨W4,hb4⟩:=p;change Below _ _ _ at hb4;have h4:=h3.below hb4;go_wp2_with fail
    exact afJ (v:=.tuple #[.slice none 0 0,.int .i64 a2,.int .i64 e2']) (by simp[results,Tryz.results53,go_sem]) rfl ⟨⟨x,.slice none 0 0,HRS.out,by rw[HO.out];simp only[afO HE.out],fun h0=>absurd (by rw[HO.out]at h0;exact h0) HE.out,fun _=>rfl⟩,h4.low⟩
end
section
open Go
def runN{σ α: Type}(mk: σ->H5->List α->σ×α)(s:ByteArray)(b:Ms σ α):Nat->Ms σ α
 | 0=>b
 | n+1=>if dh s.size (runN mk s b n).a (runN mk s b n).e=true then stepG mk s (runN mk s b n)else runN mk s b n
def Fin2(s:ByteArray)(A I:List (List Cd)):Prop:=Reach mkC s (nX ()) ⟨(),s.size,0,A,I,[]⟩
def ab4(A I:List (List Cd)):List Cd:=(fE mkC () A I).2
theorem Gv{s:ByteArray}(hs:s.size<=256){x:Ms (List Nd) Int}(h:Reach mkI s (nX []) x):(x.e=0->BM s x)/\Reach mkC s (nX ()) (rV x):=by
 induction h with
 | refl=>exact⟨fun _=>TF s,.refl _⟩
 | @more y _ hm ih =>
  obtain⟨h1,h2⟩:=bY.1 hm;have hok:=ih.1 h1;refine⟨fun he=>step_ok hok hs h2 h1 he,?_⟩;rw[TD s y hok.fo.inR];exact .more ih.2 hm
def rowOf(x:Ms (List Nd) Int):List Nd:=(fE mkI x.st x.A x.I).1
structure ab5(s:ByteArray)(r:List Nd)(A I:List (List Cd)):Prop where
 fin:Fin2 s A I
 ok:dL r
 code:codeOf r=ab4 A I
 len:r.length<=2*s.size+2
theorem DY{out:List Nd}{k:Int}(h:fC out [k])(h1:1<=out.length):k=(out.length:Int)-1:=by
 have hk:=h.roots k (afS ..)
 by_cases e:k=(out.length:Int)-1
 ·exact e
 ·have h2:=h.one (out.length-1) (by omega)
  have h3:(aY out).count ((out.length-1:Nat):Int)=0:=agS (fun hm=>by
   have:=nP (n:=0) (fun i x hx=>by simpa using h.nd i x hx) _ hm;omega)
  have h4: [k].count ((out.length-1:Nat):Int)=0:=agS (fun hm=>e (by
   have:=afK.1 hm;omega))
  omega
theorem OT{out:List Nd}{k:Int}(h:fC out [k])(hm:out.length<=512):dL out:=by
 have hk:=h.roots k (afS ..);have hl:=DY h (by omega);refine⟨by omega,hm,h.nd,fun j hj=>?_⟩;have h2:=h.one j (by omega);have h4: [k].count (j:Int)=0:=agS (fun hm=>by
  have:=afK.1 hm;omega)
 omega
theorem CQ{s:ByteArray}(hs:s.size<=254){x:Ms (List Nd) Int}(h:Reads s x)(he:(kG s x).2=0):ab5 s (rowOf x) (x.A.map (cZ x.st)) (x.I.map (cZ x.st)):=by
 obtain⟨hr,hm,hok⟩:=h;have hf:x.f=[]:=agj fun hf=>by
  unfold kG gQ at he;rw[afO hf]at he;dsimp only at he
  by_cases h0:x.e=0
  ·rw[afR h0]at he;cases he
  ·rw[afO h0]at he;exact h0 he
 have he0:x.e=0:=by
  unfold kG at he;rw[afR hf]at he;exact he
 have hk:=hok he0;have ha:x.a=s.size:=by
  have h1:=hk.al;have h2:¬x.a<s.size:=fun h2=>by
   rw[bY.2 ⟨he0,h2⟩]at hm
   cases hm
  omega
 have hfo:=hk.fo;have hrl:=hk.rl;have hsl:=hk.sl;unfold eP at hfo hrl;rw[hf]at hfo hrl;simp only[List.flatMap_nil,aha,afP]at hfo hrl;obtain⟨h1,h2⟩:=(hfo.perm (R':=x.A++x.I++[]) (by rw[aha])).XF (by omega) (by omega);have hrow:dL (rowOf x):=OT h1 (by show(fE mkI x.st x.A x.I).1.length<=512;omega);have habs:rV x=⟨(),s.size,0,x.A.map (cZ x.st),x.I.map (cZ x.st),[]⟩:=by
  unfold rV;rw[ha,he0,hf];rfl
 refine⟨?_,hrow,?_,by show(fE mkI x.st x.A x.I).1.length<=_;omega⟩
 ·have:=(Gv (by omega) hr).2
  rw[habs]at this;exact this
 ·unfold codeOf ab4
  have hrl2:((rowOf x).length:Int)-1=(fE mkI x.st x.A x.I).2:=(DY h1 hrow.one).symm;rw[hrl2];exact DV _ _ _ (uI hfo.inR) (DU hfo.inR)
end
section
open Go.Lib (hid)
open Go Go.Proofs Go.RowKit
attribute [local go_sem] Oper.semAt_some
def ML:List (Nat×Bool):=[(0,false),(1,false),(2,false),(3,false),(4,false),(5,true),(6,false),(7,true)]
def D5:AX.Plan:=.plain 0 (.plain 1 (.plain 3 (.plain 4 (.two 2 (.plain 6 (.one 5 (.plain 7 (.nil)))) 5 (.one 2 (.plain 6 (.plain 7 (.nil))))))))
def bytesOf(s:ByteArray):List Int:=s.data.toList.map fun b=>((b.toNat:Nat):Int)
open Classical in
noncomputable def mV(r:List Nd)(s:ByteArray):Bool:=if dL r then gY r (bytesOf s)else false
theorem aJ.wrote{W W':World}{B:Nat}{l:List Bool}{cs:Array Value}{i:Nat}{b:Bool}(h:aJ W B l)(hcs:W.heap[B]?=some (.cells cs 4 (0,0)))(h3:W'.heap[B]?=some (.cells (cs.setIfInBounds i (.bool b)) 4 (0,0))):aJ W' B (l.set i b):=by
 obtain⟨cs',hcs',hc⟩:=h;obtain rfl:cs=cs':=by rw[hcs]at hcs';cases hcs';rfl
 refine⟨_,h3,fun j c hj=>?_⟩;rw[agN];rw[agE]at hj
 by_cases e:i=j
 ·subst e
  rw[afR rfl]at hj⊢;split at hj
  ·rename_i hl
   have:=hc i l[i] (afE hl);rw[afR (afF.1 this).1,agc hj]
  ·cases hj
 ·rw[afO e]at hj⊢
  exact hc j c hj
theorem ZK(s:ByteArray)(w:World):∃(w':World)(c:Nat),(convert 9 106 (.string s)).run Tryz.prog w=.ok (.slice (some ⟨w.heap.size,0,none⟩) s.size c) w'/\Below w.heap.size w w'/\(w.heap.size<w'.heap.size/\∀j b,(bytesOf s)[j]?=some b->w'.cell? ⟨w.heap.size,j,none⟩=some (.int .u8 b)):=by
 refine⟨_,_,Lib.run_convert_string_bytes w 9 106 5 s Tryz.underlying9 Tryz.underlying106 Tryz.underlying5,⟨rfl,rfl,rfl,by rw[Lib.bytesWorld_size];omega,fun k hk=>Lib.bytesWorld_at_old w 5 s k hk⟩,by rw[Lib.bytesWorld_size];omega,fun j b hj=>?_⟩;have hj':=(afW.1 hj).1;have hjs:j<s.size:=by simpa[bytesOf]using hj'
 rw[Lib.bytesWorld_cell w 5 s j hjs];have hj2:j<s.data.toList.length:=by simpa using hjs
 rw[bytesOf,af8,afE hj2]at hj;simp only[ag8,ahc]at hj;rw[<-hj,afG,afE hj2];rfl
theorem ND(r:List Nd)(rv:Value)(s:ByteArray)(hl:r.length<=1000000)(hwd:∀x∈r,x.Wd)(hs:s.size<=1000)(w:World)(hR:jB w rv r):
  Calls Tryz.prog 93 #[rv,.string s] w fun e w'=>e=.returned (.bool (mV r s))/\Below w.heap.size w w':=by
 have hch:=jQ r rv hl w hR
 by_cases ok:dL r
 case neg =>
  have HM:Hid (mV r s=false):=hid (afO ok);rw[show eu r=2 from afO ok]at hch;clear ok hR;go_enter Tryz.func93,Tryz.ntmps93
  go_wp2_with (go_at_call 55;refine hch.mono ?_;rintro e W1 ⟨rfl,hb1⟩)
  exact afJ (v:=.bool false) (by simp[results,Tryz.results93,go_sem]) rfl ⟨by rw[HM.out],hb1⟩
 case pos =>
 have HM:Hid (mV r s=gY r (bytesOf s)):=hid (afR ok);rw[show eu r=0 from afR ok]at hch;obtain⟨la,c,rfl,h1,h2⟩:=hR;have hn1:=ok.one;have hn2:=ok.most
 cases la with
 | none=>have:=h1 rfl;subst this;simp at hn1
 | some ad =>
 obtain⟨B,off,rfl,hBl,hX⟩:=h2 _ rfl (by intro e;rw[e]at hn1;simp at hn1);clear h1 h2 hl;obtain⟨n,hn⟩:=afC r.length;rw[<-hn]at hn1 hn2 hch⊢;have HNn:=hid hn;clear hn;have HOK:=hid ok;clear ok;have hm1:=WR n (by omega);go_enter Tryz.func93,Tryz.ntmps93
 go_wp2_with (first
  | (go_at_call 55;refine hch.mono ?_;rintro e W1 ⟨rfl,hb1⟩;obtain⟨W2,cs2,hmk,hNB,hcs2,hb2,hz2⟩:=hm1 W1;have hQ:=Bx.new W2 202 #[.slice none 0 0,.slice none 0 0,.slice none 0 0];rw[hz2]at hQ;have hlow2:=hb1.size;clear hch hm1)
  | ((with_reducible refine bK ?_);refine AX.aj (vs:=[.slice (some ⟨B,off,none⟩) n c,.slice none 0 0,.slice (some ⟨W1.heap.size,0,none⟩) n n]) rfl rfl aey hQ rfl rfl ?_;rintro W3 h3 h4 h5))
 have hM0:Mst w W3 (W1.heap.size+1) W1.heap.size n 0 (fun _=>0) (.slice (some ⟨B,off,none⟩) n c) (.slice none 0 0) [] (List.replicate n []):=by
  have e0:W3.heap[W1.heap.size]?=some (.cells cs2 203 (0,0)):=(h4 _ (by omega)).trans ((Below.heap_alloc _ _ _ (by omega)).trans hNB);have hb3:Below w.heap.size w W3:=(hb1.trans (hb2.mono hlow2)).trans (((afI _ W2).alloc (by omega) _).trans (AX.ah (show w.heap.size<=W1.heap.size+1 by omega) (.inl (afF.1 h3).1) h4 h5));exact⟨h3,⟨by simp,⟨cs2,e0,hcs2,fun i hi=>by omega⟩,fun i row hi=>by omega,fun i j hi=>by omega,fun i hi=>by omega⟩,World.ownsRow_nil _ _ _ _,fun y hy=>by simp at hy,hb3,fun i hi=>by omega,hlow2,by omega⟩
 clear h3 h4 h5 hQ hmk hNB hcs2 hb2 hz2;obtain⟨NB,ZL⟩:=afC W1.heap.size;obtain⟨Mb,ZM⟩:=afC (W1.heap.size+1);rw[<-ZM,<-ZL]at hM0;rw[<-ZM];simp only[<-ZL];clear ZM ZL hb1 hlow2;have hn3:n<=1000:=by omega
 go_loopw [27] (fun ix wr=>∃(k:Nat)(bs:Nat->Nat)(l:List EL)(ev:Value)(nx:List (List Bool)),k<=n/\ix=.int .i64 k/\l.length=k/\Mst w wr Mb NB n k bs (.slice (some ⟨B,off,none⟩) n c) ev l nx/\Hid ((l.map (·.x),nx)=fQ r k))
  (fun ix _=>n-(RowKit.intOf ix).toNat)
 case atStart=>exact⟨0,_,[],_,_,af0 _,rfl,rfl,hM0,hid (by rw[HNn.out];rfl)⟩
 case round =>
  obtain⟨k,bs,l,ev,nx,hk,rfl,hlk,hM,HV⟩:=hrel;clear hM0
  by_cases hlt:k<n
  ·obtain⟨x,hx⟩:∃x,r[k]?=some x:=⟨_,afE (by rw[<-HNn.out];exact hlt)⟩
   have hXk:=hX k x hx;have HD:Hid (r.getD k default=x):=hid (by rw[afG,hx];rfl);have HNd:=hid (HOK.out.nd k x hx);have hk0:(0:Int)<=(k:Int):=(by omega);have hk1:(k:Int)<(n:Int):=(by omega);clear hx;go_wp2_with fail
   have hMd:=hM.below (afI wr.heap.size wr).drew;obtain⟨C,hCi,hCo⟩:∃C:World->Prop,(∀W,C W->W.cell? ⟨Mb,2,none⟩=some (.slice (some ⟨NB,0,none⟩) n n))/\(∀W,W.cell? ⟨Mb,2,none⟩=some (.slice (some ⟨NB,0,none⟩) n n)->C W):=⟨_,fun _ h=>h,fun _ h=>h⟩;have hW0:C wr.drew:=hCo _ (hMd.mb.cell 2);haveI:Inhabited (AX.CW C):=⟨⟨_,hW0⟩⟩;have a0:=fun p:AX.CW C=>hCi _ p.h;have HC:=hid hCo;clear hCo hCi;refine AX.gJ (C:=fun W=>∃p:AX.CW C,W=p.W) ML _ (by kernel_rfl) (by kernel_rfl) rfl (by kernel_rfl) (by kernel_rfl) (by intro c a d v w h;cases d<;>exact h) ⟨⟨_,hW0⟩,rfl⟩ ?_;unfold ML;clear hM hW0;generalize wr.drew=wd at *
   repeat (refine AX.dD _ (by rfl) ?_;go_big_quiet_step (fail);refine afQ ?_)
   obtain⟨W4,hm4,rU,hb4,hz4⟩:=bH n hn3 wd;refine AX.kH _ (by rfl) (by rfl) ?_;refine aK rfl rfl hm4 ?_;have hM4:=hMd.below hb4;obtain⟨cs,hcs,hcsz,_⟩:=hM4.nat.cells;obtain⟨U,hU⟩:=afC wd.heap.size;rw[<-hU]at rU⊢;have HU:=hid hU;clear hU hz4 hm4;refine⟨⟨⟨W4,HC.out _ (hM4.mb.cell 2)⟩,rfl⟩,?_⟩;simp only[Act.put,afH,afL,afM];refine AX.dD _ (by rfl) ?_;go_big_quiet_step (fail);refine afQ ?_;refine AX.kH _ (by rfl) (by rfl) ?_;refine AX.aI (o:=k) (v:=.slice (some ⟨U,0,none⟩) n n) rfl rfl rfl aez hcs (by omega) ?_;rintro W5 h3 h4 h5;have hM5:=hMd.next hlt HU.out hb4 rU hcs h3 h4 h5
   refine⟨⟨⟨W5,HC.out _ (hM5.mb.cell 2)⟩,rfl⟩,?_⟩;have ZN:∀i,i<k+1->w.heap.size<=(if i=k then U else bs i):=hM5.bsl;clear a0 HC hMd hM4 h3 h4 h5 hb4 rU hcs hcsz;generalize (fun j=>if j=k then U else bs j)=bs2 at *;obtain⟨nx2,hnx2⟩:=afC (nx.set k (zeros n));rw[<-hnx2]at hM5;have HN2:=hid hnx2;clear hnx2;unfold AX.fP;go_wp2_with fail
   have hMd:=hM5.below (afI W5.heap.size W5).drew;have FV:=fun W (h:Mst w W Mb NB n (k+1) bs2 (.slice (some ⟨B,off,none⟩) n c) ev l nx2)=>ZI NB n k n c bs2 B off ev nx2 (l.map (·.x)) x hn3 hlt HNd.out (by simp[hlk]) (fun j y hj=>by
    have e:(l.map (·.x))=(fQ r k).1:=(by rw[<-HV.out]);rw[e]at hj;have:=Uh HOK.out (m:=k) (by rw[<-HNn.out];omega) j y hj
    rwa [<-HNn.out]at this) w W h.nat h.eat hBl hXk h.low h.bsl
   obtain⟨C,hCi,hCo⟩:∃C:World->Prop,(∀W,C W->Bx W Mb 202 #[.slice (some ⟨B,off,none⟩) n c,ev,.slice (some ⟨NB,0,none⟩) n n])/\(∀W,Bx W Mb 202 #[.slice (some ⟨B,off,none⟩) n c,ev,.slice (some ⟨NB,0,none⟩) n n]->C W):=⟨_,fun _ h=>h,fun _ h=>h⟩;have hW0:C W5.drew:=hCo _ hMd.mb;haveI:Inhabited (AX.CW C):=⟨⟨_,hW0⟩⟩;haveI:Inhabited (AX.CW fun _=>True):=⟨⟨w,trivial⟩⟩;have a0:=fun p:AX.CW C=>(hCi _ p.h).three.1;have a1:=fun p:AX.CW C=>(hCi _ p.h).three.2.1;have a2:=fun p:AX.CW C=>(hCi _ p.h).three.2.2;have HC:=hid hCo;clear hCo hCi;refine AX.dF (C:=fun W=>∃p:AX.CW C,W=p.W) (CT:=fun W=>∃p:AX.CW fun _=>True,W=p.W) 8 [(0,0),(1,0),(2,0),(3,0),(4,2),(5,2),(6,2),(7,0),(8,2)] _ (by kernel_rfl) (by kernel_rfl) rfl (by kernel_rfl) (by decide) (by kernel_rfl) (by kernel_rfl) (by intro c a d v w h;cases d<;>exact h) ⟨⟨⟨_,trivial⟩,rfl⟩,⟨⟨_,hW0⟩,rfl⟩⟩ ?_;clear hM5 hW0;generalize W5.drew=wd at *
   repeat (refine AX.bQ _ (by rfl) ?_;go_big_quiet_step (fail);refine afQ ?_)
   refine AX.dW (FV _ hMd) (by rfl) (by rfl) (by rfl) Tryz.func124 (by kernel_rfl) (by rfl) (by simp only[agh,agd,agm];rfl) ?_;rintro e W6 ⟨⟨F4,cf4,L4,cl4,rfl,acz,acA,acB,hF4,hL4⟩,hN6,WT⟩;have hM6:=hMd.called WT hN6;refine⟨_,rfl,⟨⟨⟨W6,trivial⟩,rfl⟩,fun _=>⟨⟨W6,HC.out _ hM6.mb⟩,rfl⟩⟩,?_⟩;simp only[Act.put,afH,afL,afM];have hgl:=hMd.low.size;have hy4:(aJ W6 F4 (cO n (l.map (·.x)) nx2 k x).2.f/\aJ W6 L4 (cO n (l.map (·.x)) nx2 k x).2.l)/\(w.heap.size<=F4/\w.heap.size<=L4)/\∀i,i<k+1->bs2 i≠F4/\bs2 i≠L4:=⟨⟨hF4,hL4⟩,⟨by omega,by omega⟩,fun i hi=>by have:=hMd.nat.lt' i hi;exact⟨by omega,by omega⟩⟩;have HVV:Hid (fQ r (k+1)=(l.map (·.x)++[(cO n (l.map (·.x)) nx2 k x).2],(cO n (l.map (·.x)) nx2 k x).1)):=hid (by
    show(let s:=fQ r k;let t:=cO r.length s.1 (s.2.set k (zeros r.length)) k (r.getD k default);(s.1++[t.2],t.1))=_
    rw[<-HV.out,HD.out,<-HNn.out];dsimp only;rw[<-HN2.out])
   generalize cO n (l.map (·.x)) nx2 k x=nv at *;clear a0 a1 a2 FV hMd WT acz acA hF4 hL4 hN6;refine AX.aV _ (by rfl) (by rfl) ?_;unfold Oper.wp;go_simp
   have hB7:=Bx.new W6 205 #[.bool nv.2.e,.slice (some ⟨F4,0,none⟩) n cf4,.slice (some ⟨L4,0,none⟩) n cl4];have hb7:Below W6.heap.size W6 (W6.alloc (.cells #[.bool nv.2.e,.slice (some ⟨F4,0,none⟩) n cf4,.slice (some ⟨L4,0,none⟩) n cl4] 205)):=(afI _ _).alloc afD _;have hM7:=hM6.below hb7;have hy7:=And.intro (And.intro (hy4.1.1.below hb7 hy4.1.1.lt) (hy4.1.2.below hb7 hy4.1.2.lt)) hy4.2;generalize W6.alloc (.cells #[.bool nv.2.e,.slice (some ⟨F4,0,none⟩) n cf4,.slice (some ⟨L4,0,none⟩) n cl4] 205)=W7 at *;refine⟨⟨⟨⟨W7,trivial⟩,rfl⟩,fun _ _=>⟨⟨W7,HC.out _ hM7.mb⟩,rfl⟩⟩,?_⟩;simp only[show (Nat.beq 4 8 || Nat.beq 5 8)=false from rfl];clear hM6 hy4 hb7;refine AX.aV _ (by rfl) (by rfl) ?_;refine BZ w.heap.size n ev l ⟨nv.2,F4,cf4,L4,cl4⟩ _ _ rfl rfl hM7.row W6.heap.size 1 rfl hB7 (by omega) hM7.low.size ?_;intro v' W8 hR8 hg8;have ZO:Bx W8 Mb 202 #[.slice (some ⟨B,off,none⟩) n c,ev,.slice (some ⟨NB,0,none⟩) n n]:=(hg8.block Mb hM7.mb.lt (BU.DZ hM7.row hM7.mb (by decide))).trans hM7.mb;refine⟨⟨⟨⟨W8,trivial⟩,rfl⟩,fun _=>⟨⟨W8,HC.out _ ZO⟩,rfl⟩⟩,?_⟩;simp only[Act.put,afH,afL,afM];refine AX.bQ _ (by rfl) ?_;go_big_quiet_step (fail);refine afQ ?_;refine AX.aV _ (by rfl) (by rfl) ?_;refine AX.aI (o:=1) (v:=v') rfl rfl ?_ aeA ZO (show 1<3 by decide) ?_
   ·rcases hR8.2 with ⟨e,_⟩|⟨g,cap,cur,e,_⟩
    ·rw[e];rfl
    ·rw[e];rfl
   rintro W9 h3 h4 h5;have hM9:=hM7.push ⟨nv.2,F4,cf4,L4,cl4⟩ hy7 hR8 hg8 h3 h4 h5;refine⟨⟨⟨⟨W9,trivial⟩,rfl⟩,fun h=>by cases h⟩,?_⟩;clear hM7 hy7 hR8 hg8 ZO h3 h4 h5 HC;unfold AX.bC;go_wp2_with fail
   exact⟨⟨k+1,bs2,l++[⟨nv.2,F4,cf4,L4,cl4⟩],v',nv.1,by omega,by simp,by simp[hlk],hM9,hid (by rw[HVV.out];simp)⟩,by simp[RowKit.intOf];omega⟩
  ·obtain rfl:k=n:=by omega
   have hE:=hM.eat;obtain⟨y,hy⟩:∃y,l[k-1]?=some y:=⟨_,afE (by omega)⟩;obtain⟨la,c1,hev,hEs⟩:=hE;obtain⟨B3,jd,F,cf,L,cl,rfl,hB3,Ud,⟨e0,e1,e2⟩,hF,hL,afx⟩:=hEs (k-1) y.x (by rw[af8,hy];rfl);have hle:(l.map (·.x)).length=k:=(by simp[hlk]);rw[hle]at hev;subst hev;have acG:Hid ((fQ r k).1.getD (r.length-1) default=y.x):=hid (by rw[<-HV.out,<-HNn.out];simp[afG,hy]);have hwf:Hid (rY k (k+1) y.x):=hid (by
    have:=Uh HOK.out (m:=k) (by rw[<-HNn.out];omega) (k-1) y.x (by rw[<-HV.out];simp[hy])
    rwa [<-HNn.out]at this)
   have afy:=hM.bsl;have hlow:=hM.low;have hmb:=hM.mb;have O4:=hM.nat;obtain⟨m0,m1,m2⟩:=hmb.three;have hkk:((k:Int)-1).toNat=k-1:=(by omega);have hk0:(0:Int)<=(k:Int)-1:=(by omega);have hT:=Bx.new wr 205 #[.bool false,.slice none 0 0,.slice none 0 0];have hbT:Below wr.heap.size wr (wr.alloc (.cells #[.bool false,.slice none 0 0,.slice none 0 0] 205)):=(afI _ _).alloc afD _;clear hEs hM hle hlk Ud;obtain⟨⟨ye,yf,yl⟩,F0,cf0,L0,cl0⟩:=y;dsimp only at *;clear hy;have hconv:=ZK s
   cases hse:s.toList.isEmpty with
   | true =>
    have HE:Hid (bytesOf s=[]):=hid (by rw[ByteArray.toList_eq,List.isEmpty_iff]at hse;unfold bytesOf;rw[hse];rfl);have HMV:Hid (mV r s=ye):=hid (by
     rw[HM.out,HE.out,gY,afR rfl,<-HNn.out];have:=acG.out;rw[<-HNn.out]at this;rw[this])
    clear hconv;go_wp2_with ((with_reducible refine bK ?_);refine AX.aj (vs:=[.bool ye,.slice (some ⟨F,0,none⟩) k cf,.slice (some ⟨L,0,none⟩) k cl]) rfl rfl je hT rfl rfl ?_;rintro W4 h3 h4 h5;have hb4:=hlow.trans ((hbT.trans (AX.ah afD (.inl (afF.1 h3).1) h4 h5)).mono hlow.size);obtain⟨t0,t1,t2⟩:=Bx.three h3;clear h3 h4 h5)
    exact afJ (v:=.bool ye) (by simp[results,Tryz.results93,go_sem]) rfl ⟨by rw[HMV.out],hb4⟩
   | false =>
    have HE:Hid (bytesOf s≠[]):=hid (by
     intro e;have e2:s.data.toList=[]:=(by simpa[bytesOf]using e);rw[ByteArray.toList_eq,e2]at hse
     cases hse)
    have hs1:1<=s.size:=by
     have:=HE.out;rcases Nat.eq_zero_or_pos s.size with h0|h0
     ·exfalso
      apply this;have:(bytesOf s).length=0:=(by simp[bytesOf,h0]);exact agB this
     ·exact h0
    go_wp2_with (first
     | ((with_reducible refine bK ?_);refine AX.aj (vs:=[.bool ye,.slice (some ⟨F,0,none⟩) k cf,.slice (some ⟨L,0,none⟩) k cl]) rfl rfl je hT rfl rfl ?_;rintro W4 h3 h4 h5;have hb4:=hbT.trans (AX.ah afD (.inl (afF.1 h3).1) h4 h5);have hT4:Bx W4 wr.heap.size 205 #[.bool ye,.slice (some ⟨F,0,none⟩) k cf,.slice (some ⟨L,0,none⟩) k cl]:=h3;obtain⟨t0,t1,t2⟩:=Bx.three h3;obtain⟨W5,c5,aeB,hb5,aeC⟩:=hconv W4;clear h3 h4 h5))
    have O5:Below wr.heap.size wr W5:=hb4.trans (hb5.mono hb4.size);have hF5:=hF.below O5 hF.lt;have hL5:=hL.below O5 hL.lt;have hN5:=O4.below O5 O4.lt (fun i hi=>O4.lt' i hi);have hT5:=hT4.below hb5 hT4.lt;have MN:Below w.heap.size w W5:=hlow.trans (O5.mono hlow.size);have hm5:=(hmb.below O5 hmb.lt);obtain⟨ZN,hby⟩:=aeC;have hsl:(bytesOf s).length=s.size:=(by simp[bytesOf]);obtain⟨Tb,hTb⟩:=afC wr.heap.size;obtain⟨Bb,hBb⟩:=afC W4.heap.size;rw[<-hTb]at hT5⊢;rw[<-hBb]at hby ZN⊢;clear hTb hBb hT hbT hF hL O4 hb4 hT4 t0 t1 t2 hb5 hmb m0 m1 m2 hB3 e0 e1 e2 hlow O5 aeB hconv;have ZP:=fun i (hi:i<k)=>hN5.lt' i hi;have hsz5:=MN.size;go_loopw [8,9,62] (fun nv hv ix wr=>∃(j Nw cN:Nat)(xM AV:List Bool),j<=s.size/\ix=.int .i64 j/\nv=.slice (some ⟨Nw,0,none⟩) k cN/\aJ wr Nw xM/\xM.length=k/\((j=0/\hv=.slice none 0 0)\/∃Hb,hv=.slice (some ⟨Hb,0,none⟩) k k/\aJ wr Hb AV/\AV.length=k)/\Hid ((xM,AV)=((bytesOf s).take j).foldl (Ti r nx) (yf,[]))/\Below W5.heap.size W5 wr)
     (fun _ _ ix _=>s.size-(RowKit.intOf ix).toNat)
    case atStart=>exact⟨0,F,cf,yf,[],af0 _,rfl,rfl,hF5,hwf.out.lf,.inl ⟨rfl,rfl⟩,hid rfl,afI _ _⟩
    case round =>
     obtain⟨j,Nw,cN,xM,AV,hj,rfl,rfl,hNw,hnl,hhv,HF,hB⟩:=hrel
     by_cases hjl:j<s.size
     ·obtain⟨b,hb⟩:∃b,(bytesOf s)[j]?=some b:=⟨_,afE (by omega)⟩
      have c0:=(hB.cell (p:=⟨Bb,j,none⟩) ZN).trans (hby j b hb);have HTK:Hid ((bytesOf s).take (j+1)=(bytesOf s).take j++[b]):=hid (by rw[ahm,hb];rfl);obtain⟨b,rfl,hb256⟩:∃q:Nat,b=(q:Int)/\q<256:=by
       have hm:=af7 hb;obtain⟨u,_,hu⟩:=agv.1 hm;exact⟨u.toNat,hu.symm,ahZ u⟩
      have hj0:(0:Int)<=(j:Int):=(by omega);have hj1:(j:Int)<(s.size:Int):=(by omega);clear hb hhv;go_wp2_with fail
      go_cut [8,9]from 64 to 101 (fun t8 t9 wz=>∃P Q:Nat,t8=.slice (some ⟨P,0,none⟩) k k/\t9=.slice (some ⟨Q,0,none⟩) k k/\aJ wz P (zeros k)/\aJ wz Q (zeros k)/\P≠Q/\wr.heap.size<=P/\wr.heap.size<=Q/\Below wr.heap.size wr wz)
      case first =>
       have hW:Below wr.heap.size wr wr.drew:=(afI _ wr).drew;clear hNw hF5 hL5 hN5 hT5 hm5 hby c0;refine AX.gI (C:=fun W=>∃p:AX.BW wr,W=p.W) D5 _ (by kernel_rfl) (by kernel_rfl) rfl (by kernel_rfl) (by intro c a d v w h;cases d<;>exact h) ⟨⟨wr.drew,hW⟩,rfl⟩ ?_;unfold D5;generalize wr.drew=Wd at *
       repeat (refine AX.ay _ (by rfl) ?_;go_big_quiet_step (fail);refine afQ ?_)
       refine⟨?_,?_⟩
       ·obtain⟨W21,Uj,rP,kN,EU⟩:=bH k hn3 Wd
        refine AX.au _ (by rfl) (by rfl) ?_;refine aK rfl rfl Uj ?_;obtain⟨P,hP⟩:=afC Wd.heap.size;rw[<-hP]at rP⊢;have hP1:=afT hP;have hP2:=afT hP.symm;clear hP EU Uj;have Fz:Below wr.heap.size wr W21:=hW.trans (kN.mono hW.size);have sP:=hW.size;refine⟨⟨⟨W21,Fz⟩,rfl⟩,?_⟩;simp only[Act.put,afH,afL,afM];refine AX.ay _ (by rfl) ?_;go_big_quiet_step (fail);refine afQ ?_;obtain⟨W22,Uk,rQ,iV,Sl⟩:=bH k hn3 W21;refine AX.au _ (by rfl) (by rfl) ?_;refine aK rfl rfl Uk ?_;have qP:=rP.lt;replace rP:=rP.below iV rP.lt;obtain⟨Q,hQ⟩:=afC W21.heap.size;rw[<-hQ]at rQ⊢;have hQ1:=afT hQ;have hQ2:=afT hQ.symm;clear hQ Sl Uk;have Ul:Below wr.heap.size wr W22:=Fz.trans (iV.mono Fz.size);have sQ:=Fz.size;refine⟨⟨⟨W22,Ul⟩,rfl⟩,?_⟩;simp only[Act.put,afH,afL,afM];refine AX.ay _ (by rfl) ?_;go_big_quiet_step (fail);refine afQ ?_;unfold AX.aQ;go_wp2_with fail
        go_meet
        case rel=>exact⟨P,Q,rfl,rfl,rP,rQ,by omega,by omega,by omega,Ul⟩
       ·obtain⟨W21,Uj,rQ,kN,EU⟩:=bH k hn3 Wd
        refine AX.au _ (by rfl) (by rfl) ?_;refine aK rfl rfl Uj ?_;obtain⟨Q,hQ⟩:=afC Wd.heap.size;rw[<-hQ]at rQ⊢;have hQ1:=afT hQ;have hQ2:=afT hQ.symm;clear hQ EU Uj;have Fz:Below wr.heap.size wr W21:=hW.trans (kN.mono hW.size);have sQ:=hW.size;refine⟨⟨⟨W21,Fz⟩,rfl⟩,?_⟩;simp only[Act.put,afH,afL,afM];obtain⟨W22,Uk,rP,iV,Sl⟩:=bH k hn3 W21;refine AX.au _ (by rfl) (by rfl) ?_;refine aK rfl rfl Uk ?_;have qQ:=rQ.lt;replace rQ:=rQ.below iV rQ.lt;obtain⟨P,hP⟩:=afC W21.heap.size;rw[<-hP]at rP⊢;have hP1:=afT hP;have hP2:=afT hP.symm;clear hP Sl Uk;have Ul:Below wr.heap.size wr W22:=Fz.trans (iV.mono Fz.size);have sP:=Fz.size;refine⟨⟨⟨W22,Ul⟩,rfl⟩,?_⟩;simp only[Act.put,afH,afL,afM];refine AX.ay _ (by rfl) ?_;go_big_quiet_step (fail);refine afQ ?_;refine AX.ay _ (by rfl) ?_;go_big_quiet_step (fail);refine afQ ?_;unfold AX.aQ;go_wp2_with fail
        go_meet
        case rel=>exact⟨P,Q,rfl,rfl,rP,rQ,by omega,by omega,by omega,Ul⟩
      case rest =>
       obtain⟨P,Q,rfl,rfl,hP,hQ,hPQ,hgP,hgQ,hz⟩:=hcut;have hNc:=hNw.below hz hNw.lt;have afz:=hNw.lt;have hB2:=hB.trans (hz.mono hB.size);have hBs:=hB.size;have hlk2:(BK r xM (b:Int)).length=k:=(by rw[Tt];exact HNn.out.symm);have HHV:Hid (∀i x,i<k->r[i]?=some x->(BK r xM (b:Int)).getD i false=(xM.getD i false && x.has (b:Int))):=hid fun i x hi hx=>by
        have hir:=lt_of_some hx;unfold BK;rw[afG,af8,List.getElem?_range hir];simp[afG,hx]
       have HRD:Hid (Ti r nx (xM,AV) (b:Int)=(V9 r nx (BK r xM (b:Int)),BK r xM (b:Int))):=hid rfl;generalize BK r xM (b:Int)=hvl at *;clear hNw c0;go_wp2_with fail
       go_loopw [75] (fun ix wr=>∃(i:Nat)(nA hA:List Bool),i<=k/\ix=.int .i64 i/\aJ wr P nA/\aJ wr Q hA/\nA.length=k/\hA.length=k/\Hid (nA=(List.range i).foldl (KA nx hvl) (zeros k))/\Hid (∀q,q<k->hA[q]?=some (if q<i then hvl.getD q false else false))/\fM (fun b=>b=P\/b=Q) wc wr)
        (fun ix _=>k-(RowKit.intOf ix).toNat)
       case atStart=>exact⟨0,zeros k,zeros k,af0 _,rfl,hP,hQ,by simp[zeros],by simp[zeros],hid rfl,hid (fun q hq=>by simp[zeros,hq]),fM.refl _ _⟩
       case round =>
        clear hP hQ;obtain⟨i,nA,hA,hi,rfl,hP,hQ,hnA,hhA,HNA,HHA,hbu⟩:=hrel
        by_cases hik:i<k
        ·obtain⟨x,hx⟩:∃x,r[i]?=some x:=⟨_,afE (by rw[<-HNn.out];exact hik)⟩
         obtain⟨mi,hmi⟩:∃mi,xM[i]?=some mi:=⟨_,afE (by omega)⟩;have hxw:=hwd x (af7 hx);have hNi:=hNc.jf hbu (by rintro (e|e)<;>omega);have c1:=hNi.at i mi hmi;have uQ:Below w.heap.size w wr:=(MN.trans (hB2.mono hsz5)).trans (hbu.below (by have:=hB2.size;omega) (by rintro q (e|e)<;>omega));obtain⟨_,k1,k2,k3,k4,_⟩:=hX i x hx;replace k1:=(uQ.cell (p:=⟨B,off+i*6+1,none⟩) hBl).trans k1;replace k2:=(uQ.cell (p:=⟨B,off+i*6+2,none⟩) hBl).trans k2;replace k3:=(uQ.cell (p:=⟨B,off+i*6+3,none⟩) hBl).trans k3;replace k4:=(uQ.cell (p:=⟨B,off+i*6+4,none⟩) hBl).trans k4;have HV9:Hid (hvl.getD i false=(mi && x.has (b:Int))):=hid (by rw[HHV.out i x hik hx,afG,hmi];rfl);have hrn:Hid ((List.range (i+1)).foldl (KA nx hvl) (zeros k)=KA nx hvl nA i):=hid (by rw[ahQ,agI,<-HNA.out];rfl);have hi0:(0:Int)<=(i:Int):=(by omega);have hi1:(i:Int)<(k:Int):=(by omega);have hit:(i:Int).toNat=i:=(by omega);have hBw:B<wr.heap.size:=afN hBl uQ.size;have hhas:=fun W=>acH x hxw b hb256 W;have ZQ:=HHA.out i hik;rw[afO (ah2 i)]at ZQ;have HHN:Hid (∀v,v=hvl.getD i false->∀q,q<k->(hA.set i v)[q]?=some (if q<i+1 then hvl.getD q false else false)):=hid (by
          intro v hv q hq;rw[agE]
          by_cases e:i=q
          ·subst e;rw[afR rfl,afR (by omega),afR (by omega),hv]
          ·rw[afO e,HHA.out q hq]
           by_cases e2:q<i
           ·rw[afR e2,afR (by omega)]
           ·rw[afO e2,afO (by omega)])
         have HSM:Hid (hA.set i false=hA):=hid (agJ fun q=>by
          rw[agE]
          by_cases e:i=q
          ·subst e;rw[afR rfl,afR (by omega),ZQ]
          ·rw[afO e])
         have WU:∀i,i<k->bs i≠P/\bs i≠Q:=fun i hi=>by have:=ZP i hi;exact⟨by omega,by omega⟩
         have hN9:NAt wr NB k k bs nx:=hN5.same ((hbu.same NB (by have:=hN5.lt;have:=hB2.size;omega) (by rintro (e|e)<;>(have:=hN5.lt;omega))).trans (hB2.block _ hN5.lt)) (fun i hi=>((hbu.same (bs i) (by have:=ZP i hi;have:=hB2.size;omega) (by rintro (e|e);exact (WU i hi).1 e;exact (WU i hi).2 e)).trans (hB2.block _ (ZP i hi))));obtain⟨row,hrow⟩:∃row,nx[i]?=some row:=⟨_,afE (by rw[hN5.len];exact hik)⟩;obtain⟨hr9,hrl⟩:=hN9.row i row hik hrow;have hc9:=hN9.cell hik;have HRW:Hid (nx.getD i []=row):=hid (by rw[afG,hrow];rfl);have hm9:wr.cell? ⟨Mb,2,none⟩=some (.slice (some ⟨NB,0,none⟩) k k):=by
          have:=hm5.three.2.2;rw[<-this];exact bZ ((hbu.same Mb (by have:=hm5.lt;have:=hB2.size;omega) (by rintro (e|e)<;>(have:=hm5.lt;omega))).trans (hB2.block _ hm5.lt))
         have hor:=fun W (h1:aJ W P nA) (h2:aJ W (bs i) row)=>OY P (bs i) k k k nA row (WU i hik).1 hnA hrl (by omega) W h1 h2;have aeD:=hN9.lt;have aeE:Mb<wr.heap.size:=by
          have:=hm5.lt;have:=hB2.size;have:=hbu.low.size;omega
         have acI:Mb≠Q/\NB≠Q:=⟨by have:=hm5.lt;omega,by have:=hN5.lt;omega⟩;have afA:=hr9.lt;clear hx hmi hrow hNi uQ hN9;have HWF:Hid (∀Wd,Below wr.heap.size wr Wd->aJ Wd P nA/\aJ Wd Q hA/\aJ Wd (bs i) row/\fM (fun b=>b=P\/b=Q) wc Wd):=hid fun Wd h=>⟨hP.below h hP.lt,hQ.below h hQ.lt,hr9.below h hr9.lt,hbu.trans (.of_below h)⟩
         cases mi with
         | false =>
          go_wp2_with fail
          exact⟨⟨i+1,nA,hA,by omega,by simp,hP,hQ,hnA,hhA,hid (by rw[hrn.out];unfold KA;rw[afO (by rw[HV9.out];simp)]),hid (by have:=HHN.out false (by rw[HV9.out];rfl);rwa [HSM.out]at this),hbu⟩,by simp[RowKit.intOf];omega⟩
         | true =>
          cases hxb:x.has (b:Int)with
          | false =>
           rw[hxb]at HV9;have HH2:=hid hhas;rw[hxb]at hhas;clear hxb;go_wp2_with (go_at_call 125;(with_reducible refine(hhas _).mono ?_);rintro e Wd ⟨rfl,hbd⟩)
           obtain⟨hP2,hQ2,hr2,ZR⟩:=HWF.out _ hbd;exact⟨⟨i+1,nA,hA,by omega,by simp,hP2,hQ2,hnA,hhA,hid (by rw[hrn.out];unfold KA;rw[afO (by rw[HV9.out];simp)]),hid (by have:=HHN.out false (by rw[HV9.out];rfl);rwa [HSM.out]at this),ZR⟩,by simp[RowKit.intOf];omega⟩
          | true =>
           rw[hxb]at HV9 hhas;clear hxb;go_wp2_with (first
            | (go_at_call 125;(with_reducible refine(hhas _).mono ?_);rintro e Wd ⟨rfl,hbd⟩;obtain⟨hP2,hQ2,hr2,ZR⟩:=HWF.out _ hbd;obtain⟨cs,hcs,hcg⟩:=hQ2;have hci:=(afF.1 (hcg i _ ZQ)).1;have m9:=(hbd.cell (p:=⟨Mb,2,none⟩) aeE).trans hm9;have n9:=(hbd.cell (p:=⟨NB,i,none⟩) aeD).trans hc9;have hQ2:aJ Wd Q hA:=⟨cs,hcs,hcg⟩;clear hcg)
            | ((with_reducible refine bK ?_);refine AX.aB (o:=i) (v:=.bool true) rfl rfl rfl sz4 hcs hci ?_;rintro W6 h3 h4 h5;have hQ6:=hQ2.wrote hcs h3;have hP6:=hP2.same (h4 _ hPQ);have hr6:=hr2.same (h4 _ (WU i hik).2);have m6:=(bZ (o:=2) (h4 _ acI.1)).trans m9;have n6:=(bZ (o:=i) (h4 _ acI.2)).trans n9;have WT:fM (fun b=>b=P\/b=Q) wc W6:=ZR.trans ⟨AX.ah (af0 _) (.inl (afF.1 h3).1) h4 h5,fun q _ hn=>h4 q (fun e=>hn (.inr e))⟩;clear h3 h4 h5)
            | (go_at_call 126;(with_reducible refine(hor _ hP6 hr6).mono ?_);rintro e W7 ⟨rfl,hP7,hb7⟩))
           have hQ7:=hQ6.but hb7 (fun e=>hPQ e.symm);exact⟨⟨i+1,orS nA row,hA.set i true,by omega,by simp,hP7,hQ7,by rw[iY (by rw[hnA,hrl]),hnA],by simpa using hhA,hid (by rw[hrn.out];unfold KA;rw[afR (by rw[HV9.out];rfl),HRW.out]),hid (HHN.out true (by rw[HV9.out];rfl)),WT.trans (.wB hb7 (.inl rfl))⟩,by simp[RowKit.intOf];omega⟩
        ·obtain rfl:i=k:=by omega
         have HNF:Hid (nA=V9 r nx hvl):=hid (by rw[HNA.out];unfold V9;rw[<-HNn.out]);have HHF:Hid (hA=hvl):=hid (agJ fun q=>by
          by_cases hq:q<i
          ·rw[HHA.out q hq,afR hq,afG,afE (by omega)];rfl
          ·rw[af5 (by omega),af5 (by omega)])
         have hB9:=hB2.trans (hbu.below hB2.size (by rintro q (e|e)<;>omega));go_wp2_with fail
         exact⟨⟨j+1,P,i,nA,hA,by omega,by simp,rfl,hP,hnA,.inr ⟨Q,rfl,hQ,hhA⟩,hid (by rw[HTK.out,agI,<-HF.out];simp only[agw,aio,HRD.out,HNF.out,HHF.out]),hB9⟩,by simp[RowKit.intOf];omega⟩
     ·obtain rfl:j=s.size:=by omega
      rcases hhv with ⟨h0,_⟩|⟨Hb,rfl,hH,hhl⟩
      ·omega
      have hLr:=hL5.below hB hL5.lt;have hTr:=hT5.below hB hT5.lt;have uQ:=MN.trans (hB.mono hsz5);obtain⟨t0,t1,t2⟩:=hTr.three;have hll:=hwf.out.ll;dsimp only at hll;have HMV:Hid (mV r s=Tj AV yl):=hid (by
       rw[HM.out,gY];simp only[afO HE.out];have hT9:=acG.out;rw[HNn.out]at hT9;rw[hT9];have h2:(fQ r r.length).2=nx:=(by rw[<-HNn.out,<-HV.out]);rw[h2];have h3:=HF.out;rw[agW (by omega)]at h3;rw[<-h3])
      clear hT5 hm5 hN5 hF5 hL5 MN hB hNw hby;obtain⟨wo,rfl⟩:∃wo:World,wo=wr:=⟨_,rfl⟩;go_wp2_with fail
      go_loopw [104] (fun ix wr=>∃i:Nat,i<=k/\ix=.int .i64 i/\Hid (∀q,q<i->(AV.getD q false && yl.getD q false)=false)/\wr=wo)
       (fun ix _=>k-(RowKit.intOf ix).toNat)
      case atStart=>exact⟨0,af0 _,rfl,hid (fun q h=>by omega),rfl⟩
      case round =>
       obtain⟨i,hi,rfl,HI,rfl⟩:=hrel
       by_cases hik:i<k
       ·obtain⟨hb1,hh1⟩:∃b,AV[i]?=some b:=⟨_,afE (by omega)⟩
        obtain⟨lb1,hl1⟩:∃b,yl[i]?=some b:=⟨_,afE (by omega)⟩;have c0:=hH.at i hb1 hh1;have c1:=hLr.at i lb1 hl1;have HX1:Hid ((AV.getD i false && yl.getD i false)=(hb1 && lb1)):=hid (by rw[afG,afG,hh1,hl1];rfl);have hi0:(0:Int)<=(i:Int):=(by omega);have hi1:(i:Int)<(k:Int):=(by omega);have hit:(i:Int).toNat=i:=(by omega);clear hh1 hl1
        cases hb1<;>cases lb1
        all_goals
         go_wp2_with fail
         first
          | exact afJ (v:=.bool true) (by simp[results,Tryz.results93,go_sem]) rfl ⟨by rw[HMV.out,show Tj AV yl=true from ahO.2 ⟨i,agH.2 (by omega),by rw[HX1.out];rfl⟩],uQ⟩
          | exact⟨⟨i+1,by omega,by simp,hid (fun q hq=>by
           by_cases e:q=i
           ·subst e;rw[HX1.out];rfl
           ·exact HI.out q (by omega)),trivial⟩,by simp[RowKit.intOf];omega⟩
       ·obtain rfl:i=k:=by omega
        go_wp2_with fail
        exact afJ (v:=.bool false) (by simp[results,Tryz.results93,go_sem]) rfl ⟨by
         rw[HMV.out,show Tj AV yl=false from by
          unfold Tj;rw[List.any_eq_false];intro q hq;rw[hhl]at hq;rw[HI.out q (agH.1 hq)];simp],uQ⟩
end
end Go.Proofs.YtkjgogdkdejljaaGreatDoor.Rx
namespace Go.Proofs.YtkjgogdkdejljaaGreatDoor.Df
open Go Go.Proofs Go.RowKit
open Rx (Nd dL iM jB C4 Ms eG mkI cu fE nX dh bY Reads kG h5 H5 pV mV)
def runM(s:ByteArray):Nat->Ms (List Nd) Int->Ms (List Nd) Int
 | 0,x=>x
 | f+1,x=>if dh s.size x.a x.e=true then runM s f (Rx.stepG mkI s x)else x
def yZ(s:ByteArray)(x:Ms (List Nd) Int):Nat:=if x.e=0 then s.size-x.a+1 else 0
theorem Nz{s:ByteArray}{b x:Ms (List Nd) Int}(h:Rx.Reach mkI s b x)(F:Nat)(hF:yZ s b<=F):∃F',runM s F b=runM s F' x/\yZ s x<=F':=by
 induction h with
 | refl=>exact⟨F,rfl,hF⟩
 | @more y _ hm ih =>
  obtain⟨F',h1,h2⟩:=ih;obtain⟨he,hal⟩:=bY.1 hm;have h3:yZ s y=s.size-y.a+1:=afR he;obtain⟨G,rfl⟩:∃G,F'=G+1:=⟨F'-1,by omega⟩;refine⟨G,by rw[h1];exact afR hm,?_⟩;unfold yZ;split
  ·rename_i h0
   have:=Rx.Em mkI s y he hal h0;omega
  ·omega
theorem run_end{s:ByteArray}{x:Ms (List Nd) Int}(h:dh s.size x.a x.e=false):∀F,runM s F x=x
 | 0=>rfl
 | F+1=>by
  unfold runM;rw[h];rfl
def wU(s:ByteArray):Ms (List Nd) Int:=runM s (s.size+1) (nX [])
theorem Qn{s:ByteArray}{x:Ms (List Nd) Int}(h:Reads s x):x=wU s:=by
 obtain⟨F',h1,_⟩:=Nz h.1 (s.size+1) (by show(if (0:Int)=0 then s.size-0+1 else 0)<=_;rw[afR rfl];omega);rw[run_end h.2.1]at h1;exact h1.symm
def rdP(s:ByteArray):List Nd×Int:=if (kG s (wU s)).2=0 then (Rx.rowOf (wU s),0)else ([],(kG s (wU s)).2)
theorem Qo{s:ByteArray}(h:(rdP s).2=0):(kG s (wU s)).2=0/\(rdP s).1=Rx.rowOf (wU s):=by
 unfold rdP at h⊢
 by_cases h0:(kG s (wU s)).2=0
 ·rw[afR h0];exact⟨h0,rfl⟩
 ·rw[afO h0]at h;exact absurd h h0
theorem xO{r:List Nd}{h:H5}{l:List Int}(hw:h.w.Wd)(hr:∀y∈r,y.Wd):∀y∈(mkI r h l).1,y.Wd:=fun y hy=>by
 rcases af2.1 hy with hy|hy
 ·exact hr y hy
 ·rw[afK.1 hy];exact⟨hw.a,hw.b,hw.c,hw.d⟩
theorem zi:C4.Wd .zero:=⟨by decide,by decide,by decide,by decide⟩
theorem zk{r:List Nd}{k:Int}{l:List Int}(hr:∀y∈r,y.Wd):∀y∈(cu mkI r k l).1,y.Wd:=by
 match l with
 | []=>exact xO zi hr
 | [_]=>exact hr
 | _::_::_=>exact xO zi hr
theorem Gs{r:List Nd}{A I:List Int}(hr:∀y∈r,y.Wd):∀y∈(fE mkI r A I).1,y.Wd:=zk (zk hr)
theorem vH{x:Ms (List Nd) Int}{k:Int}(hr:∀y∈x.st,y.Wd):∀y∈(eG mkI x k).st,y.Wd:=by
 unfold eG;split
 ·exact hr
 ·exact xO zi hr
theorem Qp{s:ByteArray}{x:Ms (List Nd) Int}(hm:dh s.size x.a x.e=true)(hr:∀y∈x.st,y.Wd):∀y∈(Rx.stepG mkI s x).st,y.Wd:=by
 have hal:=(bY.1 hm).2;unfold Rx.stepG;split
 ·exact zk hr
 split
 ·exact hr
 split
 ·split
  ·exact hr
  ·exact Gs hr
 split
 ·exact hr
 split
 ·exact vH hr
 split
 ·exact vH hr
 split
 ·exact vH hr
 ·exact xO (pV s (x.a+1) _ (by omega)).1 hr
theorem NC{s:ByteArray}{b x:Ms (List Nd) Int}(h:Rx.Reach mkI s b x)(hb:∀y∈b.st,y.Wd):∀y∈x.st,y.Wd:=by
 induction h with
 | refl=>exact hb
 | more _ hm ih=>exact Qp hm ih
theorem Le{s:ByteArray}{x:Ms (List Nd) Int}(h:Reads s x):∀y∈Rx.rowOf x,y.Wd:=Gs (NC h.1 (fun y hy=>by cases hy))
open Rx (vI)
def Qq(b:Nat)(s:ByteArray)(e:Ending)(w':World):Prop:=∃v at_,e=.returned (.tuple #[v,.int .i64 at_,.int .i64 (rdP s).2])/\vI b w' v (rdP s).1/\((rdP s).2=0->dL (rdP s).1/\∀y∈(rdP s).1,y.Wd)
theorem Qr(w:World):jB w (.slice none 0 0) []:=⟨none,0,rfl,fun _=>rfl,fun a h=>by cases h⟩
theorem U2{b b':Nat}{W W':World}{v:Value}{r:List Nd}(h:vI b' W v r)(hb:b<=b')(hl:Below W.heap.size W W'):vI b W' v r:=fun W2 h1 h2 =>
 h W2 (agb hl.size h1) fun j hj hlt=>(h2 j (agb hb hj) (afN hlt hl.size)).trans (hl.block j hlt)
theorem adi(s:ByteArray)(hs:s.size<=254)(w:World):Calls Tryz.prog 53 #[.string s] w fun e w'=>Qq w.heap.size s e w'/\Below w.heap.size w w':=
 (Rx.Ym s (by omega) w).mono fun e w' h=>by
  obtain⟨⟨x,v,hr,h1,h2,h3⟩,hb⟩:=h;have hx:=Qn hr;refine⟨⟨v,(if (kG s x).2=0 then (s.size:Int)else (kG s x).1),h1.trans ?_,?_,fun h0=>?_⟩,hb⟩
  ·refine ag3 Ending.returned ?_
   refine ag3 (fun z=>Value.tuple #[v,Value.int .i64 (if (kG s x).2=0 then (s.size:Int)else (kG s x).1),Value.int .i64 z]) ?_;unfold rdP;rw[<-hx]
   by_cases h0:(kG s x).2=0
   ·rw[afR h0,h0]
   ·rw[afO h0]
  ·unfold rdP
   rw[<-hx]
   by_cases h0:(kG s x).2=0
   ·rw[afR h0];exact h2 h0
   ·rw[afO h0,h3 h0];exact fun W' _ _=>Qr W'
  ·obtain⟨h4,h5⟩:=Qo h0
   rw[h5];rw[<-hx]at h4⊢;exact⟨(Rx.CQ hs hr h4).ok,Le hr⟩
structure Rl where
 nm:ByteArray
 re:ByteArray
 tr:Bool
def inN(names:List ByteArray)(s:ByteArray):Bool:=names.any fun x=>x.data.toList == s.data.toList
theorem Eo{names:List ByteArray}{s:ByteArray}: inN names s=true↔s∈names:=by
 unfold inN;rw[ahO]
 constructor
 ·rintro⟨x,hx,h⟩
  have h:=eq_of_beq h;have:x=s:=by
   cases x;cases s
   simp only at h;rw[air.1 h]
  exact this▸ hx
 ·exact fun h=>⟨s,h,by simp⟩
def jh(names:List ByteArray)(x:Rl):List Nd×Int:=
 if x.nm.size=0 then ([],2)else if inN names x.nm=true then ([],6)else ((rdP x.re).1,if (rdP x.re).2=0 then (if Rx.gY (rdP x.re).1 []=true then 4 else 0)else (rdP x.re).2)
end Go.Proofs.YtkjgogdkdejljaaGreatDoor.Df
