import Derived.Test.YtkjgogdkdejljaaGreatDoorRxS1
set_option maxRecDepth 100000
set_option maxHeartbeats 40000000
namespace Go.Proofs.YtkjgogdkdejljaaGreatDoor.Rx
section
open Go Go.Proofs Go.RowKit
attribute [local go_sem] Oper.semAt_some
theorem KAt.low{W W':World}{kv:Value}{l:List Int}(h:KAt W none kv l)(hb:Below W.heap.size W W'):KAt W' none kv l:=h.same fun _ _ hB hn=>⟨hb.block _ (afF.1 hB).1,hn⟩
theorem KAt.form{W:World}{own:Option Nat}{kv:Value}{l:List Int}(h:KAt W own kv l):∃la c,kv=.slice la l.length c:=by
 rcases h with ⟨e,e2⟩|⟨B,c,cs,e,_⟩
 ·exact⟨none,0,by rw[e,e2];rfl⟩
 ·exact⟨_,_,e⟩
theorem BN.form{W:World}{base:Nat}{v:Value}{l:List NL}(h:BN W base v l):∃la c,v=.slice la l.length c:=by
 rcases h.2 with ⟨e,h0⟩|⟨g,cap,cur,e,_⟩
 ·exact⟨none,0,by rw[h0];exact e⟩
 ·exact⟨_,_,e⟩
theorem bG.form{W:World}{base:Nat}{v:Value}{l:List Int}(h:bG W base v l):∃la c,v=.slice la l.length c:=by
 rcases h.2 with ⟨e,h0⟩|⟨g,cap,cur,e,_⟩
 ·exact⟨none,0,by rw[h0];exact e⟩
 ·exact⟨_,_,e⟩
theorem aco:AX.sizeT Tryz.prog 44=some 1:=by kernel_rfl
theorem BP{o:Oper}{a:Act}{K:Act->World->Prop}{Q:Exit->Act->World->Prop}{W:World}(base:Nat)(v:Value)(l:List NL)(y:NL)(s x:Operand)
  (ho:o.op=.call {callee:=.builtin .append,args:=#[s,x],argTypes:=#[44,44]}) (hs:a.eval s=v) (hown:BN W base v l) (B c:Nat) (hx:a.eval x=.slice (some ⟨B,0,none⟩) 1 c)
  (hc:Bx W B 153 (OV y).toArray) (hyk:y.kv.oneCell'=true) (hl:l.length<=100000) (hb:base<=W.heap.size)
  (h:∀v' w',BN w' base v' (l++[y])->W.grownBy w' v.ownBlock->K (a.put o.dst v') w'):o.wp Tryz.prog a W K Q:=by
 obtain⟨ti,hi,hz0,hz1,hz2⟩:=info_parts WE;refine wp_append_own (P:=Tryz.prog) (w:=W) s x 44 ho base 153 ti (.agg #[.int .i64 0,.int .u64 0,.int .u64 0,.int .u64 0,.int .u64 0,.slice none 0 0]) 6 64 Tryz.underlying44 hi hz0 hz1 hz2 rfl (by decide) v l.length _ hs hown ⟨B,0,none⟩ 1 c (OV y) hx rfl
  (fun j u hj=>by rw[addr_add,af9,hc.cell];simpa using hj) (fun u hu=>by
   simp only[OV,afX,agx,ahd]at hu;rcases hu with rfl|rfl|rfl|rfl|rfl|rfl<;>first|rfl|exact hyk) (by unfold maxLen;omega) (by omega) hb ?_
 intro v' w' h1 h2 _;refine h v' w' ?_ h2;unfold BN;rw[afP,ag7]
 simpa using h1
section
variable {w W : World} {Rb : Nat} {s : ByteArray} {at_ e : Int} {rv sv : Value} {r : List NL} {fs : List (Value × Value)} {rows : List (Value × List Int)}
def KJ(k:Int)(c:C4)(l:List Int):Nd:=⟨k,c.a,c.b,c.c,c.d,l⟩
theorem MH(k:Int)(c:C4)(kv:Value)(kids:List Int)(h:St w W Rb s at_ e rv sv r fs rows)(hk:KAt W none kv kids)(hd:∀p∈rows,Apart p.1 kv)(hkb:∀g,kv.ownBlock=some g->w.heap.size<=g)(hl:r.length<=10000):
  Calls Tryz.prog 120 #[.pointer (some ⟨Rb,0,none⟩),.int .i64 k,c.v,kv] W fun x W'=>x=.returned (.int .i64 r.length)/\∃rv',St w W' Rb s at_ e rv' sv (r++[⟨KJ k c kids,kv⟩]) fs rows:=by
 obtain⟨lk,ck,rfl⟩:=hk.form;obtain⟨ca,cb,cc,cd⟩:=c;unfold C4.v;dsimp only;have hb0:=(afI W.heap.size W).alloc afD (.cells #[.int .u64 ca,.int .u64 cb,.int .u64 cc,.int .u64 cd] 116);have h0:=h.below hb0;have hB0:=Bx.new W 116 #[.int .u64 ca,.int .u64 cb,.int .u64 cc,.int .u64 cd];have hk0:=hk.low hb0;clear hb0 h hk;go_enter Tryz.func120,Tryz.ntmps120
 go_wp2_with fail
 obtain⟨Bc,hBc⟩:=afC W.heap.size;rw[<-hBc]at hB0⊢;clear hBc;generalize W.alloc (.cells #[.int .u64 ca,.int .u64 cb,.int .u64 cc,.int .u64 cd] 116)=W0 at *;have hbd:=(afI W0.heap.size W0).drew;have h0d:=h0.below hbd;have hBd:=hB0.below hbd hB0.lt;have hkd:=hk0.low hbd;obtain⟨C,hCi,hCo⟩:∃C:World->Prop,(∀Z,C Z->Rdr Z Rb s at_ rv sv e/\Bx Z Bc 116 #[.int .u64 ca,.int .u64 cb,.int .u64 cc,.int .u64 cd])/\(∀Z,Rdr Z Rb s at_ rv sv e/\Bx Z Bc 116 #[.int .u64 ca,.int .u64 cb,.int .u64 cc,.int .u64 cd]->C Z):=⟨_,fun _ h=>h,fun _ h=>h⟩;have hW0:C W0.drew:=hCo _ ⟨h0d.rd,hBd⟩;haveI:Inhabited (AX.CW C):=⟨⟨_,hW0⟩⟩;haveI:Inhabited (AX.CW fun _=>True):=⟨⟨w,trivial⟩⟩;have a2:=fun p:AX.CW C=>(Bx.fiv (hCi _ p.h).1).2.2.1;have b0:∀p:AX.CW C,p.W.cell? ⟨Bc,0,none⟩=some (.int .u64 ca):=fun p=>(hCi _ p.h).2.cell 0;have b1:∀p:AX.CW C,p.W.cell? ⟨Bc,1,none⟩=some (.int .u64 cb):=fun p=>(hCi _ p.h).2.cell 1;have b2:∀p:AX.CW C,p.W.cell? ⟨Bc,2,none⟩=some (.int .u64 cc):=fun p=>(hCi _ p.h).2.cell 2;have b3:∀p:AX.CW C,p.W.cell? ⟨Bc,3,none⟩=some (.int .u64 cd):=fun p=>(hCi _ p.h).2.cell 3;have HC:=Lib.hid hCo;clear hCo hCi;refine AX.dF (C:=fun W=>∃p:AX.CW C,W=p.W) (CT:=fun W=>∃p:AX.CW fun _=>True,W=p.W) 13 [(0,0),(1,0),(2,0),(3,0),(4,0),(5,0),(6,0),(7,0),(8,0),(9,2),(10,2),(11,1),(12,0),(13,2)] _ (by kernel_rfl) (by kernel_rfl) rfl (by kernel_rfl) (by decide) (by kernel_rfl) (by kernel_rfl) (by intro c a d v w h;cases d<;>exact h) ⟨⟨⟨_,trivial⟩,rfl⟩,⟨⟨_,hW0⟩,rfl⟩⟩ ?_;clear h0 hB0 hk0 hW0 hbd;generalize W0.drew=W1 at *
 repeat ((first|refine AX.bQ _ (by rfl) ?_|refine AX.gG _ (by rfl) ?_);go_big_quiet_step (fail);refine afQ ?_)
 refine AX.aV _ (by rfl) (by rfl) ?_;unfold Oper.wp;go_simp
 have hB7:=Bx.new W1 153 #[.int .i64 k,.int .u64 ca,.int .u64 cb,.int .u64 cc,.int .u64 cd,.slice lk kids.length ck];have hb7:Below W1.heap.size W1 (W1.alloc (.cells #[.int .i64 k,.int .u64 ca,.int .u64 cb,.int .u64 cc,.int .u64 cd,.slice lk kids.length ck] 153)):=(afI _ _).alloc afD _;have h7:=h0d.below hb7;have Zy:=hBd.below hb7 hBd.lt;have hk7:=hkd.low hb7;clear h0d hBd hkd hb7;obtain⟨Bn,hBn⟩:=afC W1.heap.size;rw[<-hBn]at hB7⊢;clear hBn;generalize W1.alloc (.cells #[.int .i64 k,.int .u64 ca,.int .u64 cb,.int .u64 cc,.int .u64 cd,.slice lk kids.length ck] 153)=W7 at *;refine⟨⟨⟨⟨W7,trivial⟩,rfl⟩,fun _=>⟨⟨W7,HC.out _ ⟨h7.rd,Zy⟩⟩,rfl⟩⟩,?_⟩;simp only[show Nat.beq 9 13=false from rfl];refine AX.aV _ (by rfl) (by rfl) ?_;refine BP w.heap.size rv r ⟨KJ k ⟨ca,cb,cc,cd⟩ kids,.slice lk kids.length ck⟩ _ _ rfl rfl h7.ro Bn 1 rfl hB7 rfl (by omega) h7.low.size ?_;intro v' W8 hR8 hg8;have s8:dH 153 W7 W8:=aX h7.ro hg8;have hr8:Rdr W8 Rb s at_ rv sv e:=(s8 Rb _ 168 h7.rd (by decide)).trans h7.rd;have acp:Bx W8 Bc 116 #[.int .u64 ca,.int .u64 cb,.int .u64 cc,.int .u64 cd]:=(s8 Bc _ 116 Zy (by decide)).trans Zy;refine⟨⟨⟨⟨W8,trivial⟩,rfl⟩,fun _=>⟨⟨W8,HC.out _ ⟨hr8,acp⟩⟩,rfl⟩⟩,?_⟩;simp only[Act.put,afH,afL,afM]
 repeat ((first|refine AX.bQ _ (by rfl) ?_|refine AX.gG _ (by rfl) ?_);go_big_quiet_step (fail);refine afQ ?_)
 refine AX.aV _ (by rfl) (by rfl) ?_;obtain⟨lv,cv,hv'⟩:=hR8.form;refine AX.aI (o:=2) (v:=v') rfl rfl (by rw[hv'];rfl) aco hr8 (show 2<5 by decide) ?_;rintro W9 h3 h4 h5;have hr9:Rdr W9 Rb s at_ v' sv e:=h3;have h9:=h7.node ⟨KJ k ⟨ca,cb,cc,cd⟩ kids,.slice lk kids.length ck⟩ hk7 hd hkb hR8 hg8 hr9 h4 h5;refine⟨⟨⟨⟨W9,trivial⟩,rfl⟩,fun h=>by cases h⟩,?_⟩;clear h7 hR8 hg8 hr8 acp h3 h4 h5 HC s8;unfold AX.bC;have c2:=(Bx.fiv hr9).2.2.1;rw[hv']at c2;have hlen:(r++[(⟨KJ k ⟨ca,cb,cc,cd⟩ kids,.slice lk kids.length ck⟩:NL)]).length=r.length+1:=by simp
 rw[hlen]at c2;go_wp2_with fail
 exact afJ (v:=.int .i64 r.length) (by simp[results,Tryz.results120,go_sem]) rfl ⟨rfl,_,h9⟩
end
theorem bG.cells{W:World}{base:Nat}{v:Value}{l:List Int}(h:bG W base v l)(hn:l≠[]):∃g c cs,v=.slice (some ⟨g,0,none⟩) l.length c/\W.heap[g]?=some (.cells cs 3 (0,0))/\base<=g/\l.length<=cs.size/\∀i x,l[i]?=some x->W.cell? ⟨g,i,none⟩=some (.int .i64 x):=by
 rcases h.2 with ⟨e,h0⟩|⟨g,cap,cur,e,hg,hh,hc1,hc2,hc3,hc4⟩
 ·exact absurd (agB h0) hn
 ·refine⟨g,cap,cur,e,hh,hg,by rw[hc3];omega,fun i x hx=>?_⟩
  have:=World.ownsRow.cells h (g:=g) (by rw[e];rfl) i (.int .i64 x) (by rw[af8,hx];rfl)
  rwa [addr_add,af9]at this
theorem MI(r:List NL)(k:Int)(c:C4)(kids:List Int)(kv:Value):(r++[(⟨KJ k c kids,kv⟩:NL)]).map (·.x)=(mkI (r.map (·.x)) ⟨k,c⟩ kids).1/\(mkI (r.map (·.x)) ⟨k,c⟩ kids).2=(r.length:Int):=by
 constructor
 ·rw[agt];rfl
 ·simp[mkI]
section
variable {w W : World} {Rb : Nat} {s : ByteArray} {at_ e : Int} {rv sv : Value} {r : List NL} {fs : List (Value × Value)} {rows : List (Value × List Int)}
theorem TR(k:Int)(kv:Value)(l:List Int)(h:St w W Rb s at_ e rv sv r fs ((kv,l)::rows))(hl:r.length<=10000):
  Calls Tryz.prog 122 #[.pointer (some ⟨Rb,0,none⟩),.int .i64 k,kv] W fun x W'=>x=.returned (.int .i64 (cu mkI (r.map (·.x)) k l).2)/\∃rv' r',St w W' Rb s at_ e rv' sv r' fs rows/\r'.map (·.x)=(cu mkI (r.map (·.x)) k l).1:=by
 have hz:C4.v .zero=.agg #[.int .u64 0,.int .u64 0,.int .u64 0,.int .u64 0]:=rfl;obtain⟨hk,hap,hkb⟩:KAt W none kv l/\(∀q∈rows,Apart q.1 kv)/\∀g,kv.ownBlock=some g->w.heap.size<=g:=h.kids
 match l,h,hk with
 | [],h,hk =>
  obtain⟨la,c,hkv⟩:=hk.form;subst hkv;have hp:=MH 1 .zero (.slice none 0 0) [] h.drop (.inl ⟨rfl,rfl⟩) (fun p _ g _=>by simp[Value.ownBlock]) (fun g hg=>by simp[Value.ownBlock]at hg) hl;rw[hz]at hp;have e0:((([]:List Int).length:Nat):Int)=0:=rfl;obtain⟨m1,m2⟩:=MI r 1 .zero [] (.slice none 0 0);go_enter Tryz.func122,Tryz.ntmps122
  go_wp2_with (go_at_call 120;(with_reducible refine hp.mono ?_);rintro x W1 ⟨rfl,rv1,h1⟩)
  exact afJ (v:=.int .i64 r.length) (by simp[results,Tryz.results122,go_sem]) rfl ⟨by simp only[cu,h5];rw[m2],_,_,h1,m1⟩
 | [x],h,hk =>
  have h0:bG W w.heap.size kv [x]:=h.io _ (afS ..);obtain⟨g,c,cs,rfl,hg,_,_,hc⟩:=h0.cells (by simp);have c0:=hc 0 x rfl;have hgl:=(afF.1 hg).1;have e0:((([x]:List Int).length:Nat):Int)=1:=rfl;go_enter Tryz.func122,Tryz.ntmps122
  go_wp2_with fail
  exact afJ (v:=.int .i64 x) (by simp[results,Tryz.results122,go_sem]) rfl ⟨rfl,_,_,h.drop,rfl⟩
 | x::y::l,h,hk =>
  obtain⟨la,c,hkv⟩:=hk.form;have hp:=MH k .zero kv (x::y::l) h.drop hk hap hkb hl;rw[hz]at hp;obtain⟨m1,m2⟩:=MI r k .zero (x::y::l) kv;obtain⟨n,hn⟩:=afC ((x::y::l).length);have hn2:2<=n:=by rw[hn];simp
  rw[<-hn]at hkv;subst hkv;have e0:¬((n:Int)=0):=by omega
  have e1:¬((n:Int)=1):=by omega
  have HN:=Lib.hid hn;clear hn;go_enter Tryz.func122,Tryz.ntmps122
  go_wp2_with (go_at_call 120;(with_reducible refine hp.mono ?_);rintro z W1 ⟨rfl,rv1,h1⟩)
  exact afJ (v:=.int .i64 r.length) (by simp[results,Tryz.results122,go_sem]) rfl ⟨by simp only[cu,h5];rw[m2],_,_,h1,m1⟩
end
theorem BR{o:Oper}{a:Act}{K:Act->World->Prop}{Q:Exit->Act->World->Prop}{W:World}(base:Nat)(v:Value)(l:List Int)(y:Int)(s x:Operand)
  (ho:o.op=.call {callee:=.builtin .append,args:=#[s,x],argTypes:=#[25,25]}) (hs:a.eval s=v) (hown:bG W base v l) (B c:Nat) (hx:a.eval x=.slice (some ⟨B,0,none⟩) 1 c)
  (hc:W.cell? ⟨B,0,none⟩=some (.int .i64 y)) (hl:l.length<=100000) (hb:base<=W.heap.size)
  (h:∀v' w',bG w' base v' (l++[y])->W.grownBy w' v.ownBlock->(v'.ownBlock=v.ownBlock\/v'.ownBlock=some W.heap.size)->K (a.put o.dst v') w'):o.wp Tryz.prog a W K Q:=by
 obtain⟨ti,hi,hz0,hz1,hz2⟩:=info_parts info3';obtain⟨v',w',hr,h2,h3,h4,h5⟩:=run_append_own_at (P:=Tryz.prog) W base 25 o.type 3 ti (.int .i64 0) 1 8 Tryz.underlying25 hi hz0 hz1 hz2 rfl (by decide) v l.length _ hown ⟨B,0,none⟩ 1 c [.int .i64 y] rfl
  (fun j u hj=>by
   rw[addr_add,af9]
   cases j with
   | zero=>simp at hj;rw[<-hj];exact hc
   | succ j=>simp at hj) (fun u hu=>by rw[afK.1 hu];rfl) (by unfold maxLen;omega) (by omega) hb
 unfold Oper.wp execOp;simp only[ho,resolve,invoke,builtin,Sem.run_bind,Sem.run_pure,Result.andThen_ok,agh,agd,agm,hs,hx,hr];refine h v' w' ?_ h3 h5;unfold bG;rw[afP,agt];exact h2
theorem TS:AX.sizeT Tryz.prog 25=some 1:=by kernel_rfl
theorem jG.set{W W':World}{base Sb c q:Nat}{fs:List (Value×Value)}{f f':Value×Value}{cs:Array Value}{v:Value}(h:jG W base (.slice (some ⟨Sb,0,none⟩) (fs.length+1) c) (fs++[f]))(hc:W.heap[Sb]?=some (.cells cs 165 (0,0)))
  (h':W'.heap[Sb]?=some (.cells (cs.setIfInBounds (fs.length*2+q) v) 165 (0,0))) (hq:q<2) (he:nS f'=(nS f).set q v):jG W' base (.slice (some ⟨Sb,0,none⟩) (fs.length+1) c) (fs++[f']):=by
 rcases h.2 with ⟨e1,_⟩|⟨g,cap,cur,e1,hg,hh,hc1,hc2,hc3,hc4⟩
 ·cases e1
 ·obtain⟨rfl,rfl⟩:Sb=g/\c=cap:=by
   injection e1 with a1 a2 a3
   injection a1 with a1
   injection a1 with a1
   exact⟨a1,a3⟩
  rw[hc]at hh;obtain rfl:cs=cur:=by cases hh;rfl
  have hlen:(fs++[f']).length=(fs++[f]).length:=by simp
  have hl2:(fs++[f]).length*2=fs.length*2+2:=by simp;omega
  refine⟨by rw[MG],.inr ⟨Sb,c,_,by simp,hg,h',by rw[hlen];exact hc1,hc2,by rw[ahz];exact hc3,?_⟩⟩;rw[hlen,hl2];rw[hl2]at hc4;apply agJ;intro i;rw[ag1,Array.toList_setIfInBounds,agE];have h4:∀i,i<fs.length*2+2->cs.toList[i]?=((fs++[f]).flatMap nS)[i]?:=fun i hi=>by rw[<-hc4,ag1,afR hi]
  have hsz:fs.length*2+2<=cs.toList.length:=by
   have:cs.toList.length=c*2:=(by rw[ahY];exact hc3);rw[this];have:(fs++[f]).length*2<=c*2:=ah9 2 hc1;simp at this;omega
  have hap:∀z:Value×Value,∀i,((fs++[z]).flatMap nS)[i]?=if i<fs.length*2 then (fs.flatMap nS)[i]? else (nS z)[i-fs.length*2]?:=fun z i=>by
   rw[ag7,List.getElem?_append,MG];simp
  rw[hap]
  by_cases hi:i<fs.length*2+2
  ·rw[afR hi]
   by_cases hi2:fs.length*2+q=i
   ·rw[afR hi2,afR (by omega),afO (by omega),he,<-hi2,Nat.add_sub_cancel_left,agE]
    rw[afR rfl,afR (by simpa[nS]using hq)]
   ·rw[afO hi2,h4 i hi,hap]
    by_cases hi3:i<fs.length*2
    ·rw[afR hi3,afR hi3]
    ·rw[afO hi3,afO hi3,he,agE,afO (by omega)]
  ·rw[afO hi,afO (by omega),af5 (by simp[nS];omega)]
section
variable {w W W' : World} {Rb : Nat} {s : ByteArray} {at_ e : Int} {rv sv : Value} {r : List NL} {fs : List (Value × Value)} {rows : List (Value × List Int)}
theorem St.set{Sb c q:Nat}{f f':Value×Value}{cs:Array Value}{v:Value}(h:St w W Rb s at_ e rv (.slice (some ⟨Sb,0,none⟩) (fs.length+1) c) r (fs++[f]) rows)(hc:W.heap[Sb]?=some (.cells cs 165 (0,0)))
  (h3:W'.heap[Sb]?=some (.cells (cs.setIfInBounds (fs.length*2+q) v) 165 (0,0))) (h4:∀j,j≠Sb->W'.heap[j]?=W.heap[j]?) (h5:AX.Same W W') (hq:q<2) (he:nS f'=(nS f).set q v):St w W' Rb s at_ e rv (.slice (some ⟨Sb,0,none⟩) (fs.length+1) c) r (fs++[f']) rows:=by
 have s1:dH 165 W W':=aP hc h4;have hb:=(World.ownsRow.lt h.so Sb rfl).1;exact⟨h.low.trans (AX.ah (n:=w.heap.size) hb (.inl (afF.1 h3).1) h4 h5),h.rb,(s1 Rb _ 168 h.rd (by decide)).trans h.rd,aC h.ro s1 (by decide),h.so.set hc h3 hq he,
  fun p hp=>aC (h.io p hp) s1 (by decide),h.dis,fun y hy=>(h.ka y hy).aW s1 (by decide),h.kd,h.kb⟩
theorem St.TT{Sb n c:Nat}(h:St w W Rb s at_ e rv (.slice (some ⟨Sb,0,none⟩) n c) r fs rows):∃cs,W.heap[Sb]?=some (.cells cs 165 (0,0))/\fs.length*2<=cs.size:=by
 rcases h.so.2 with ⟨e1,_⟩|⟨g,cap,cur,e1,hg,hh,hc1,hc2,hc3,hc4⟩
 ·cases e1
 ·obtain rfl:Sb=g:=by
   injection e1 with a1 a2 a3
   injection a1 with a1
   injection a1 with a1
  exact⟨cur,hh,by rw[hc3];exact ah9 _ hc1⟩
def WG(w W':World)(Rb:Nat)(s:ByteArray)(at_ e:Int)(Sb c:Nat)(fs:List (Value×Value))(A:List Int)(rows:List (Value×List Int))(z:List Nd×Int):Prop:=
 ∃rv' r' av',St w W' Rb s at_ e rv' (.slice (some ⟨Sb,0,none⟩) (fs.length+1) c) r' (fs++[(av',.slice none 0 0)]) ((av',A++[z.2])::rows)/\r'.map (·.x)=z.1
theorem XI{Sb c:Nat}(av iv:Value)(A I:List Int)(h:St w W Rb s at_ e rv (.slice (some ⟨Sb,0,none⟩) (fs.length+1) c) r (fs++[(av,iv)]) ((av,A)::(iv,I)::rows))(hl:r.length<=10000)(hA:A.length<=10000)(hf:fs.length<=900):
  Calls Tryz.prog 117 #[.pointer (some ⟨Rb,0,none⟩)] W fun x W'=>x=.returned (.tuple #[])/\WG w W' Rb s at_ e Sb c fs A rows (cu mkI (r.map (·.x)) 3 I):=by
 obtain⟨n,hn⟩:=afC fs.length;rw[<-hn]at hf;have HN:=Lib.hid hn;have ht:=TI Rb Sb (fs.length+1) c (by omega) (by omega) s at_ rv e W h.rd;rw[<-hn,Nat.add_sub_cancel]at ht;obtain⟨la,ca,rfl⟩:=bG.form (show bG W w.heap.size av A from h.io (av,A) (afS ..));obtain⟨li,ci,rfl⟩:=bG.form (show bG W w.heap.size iv I from h.io (iv,I) (afV _ (afS ..)));clear hn;go_enter Tryz.func117,Tryz.ntmps117
 go_wp2_with (go_at_call 123;(with_reducible refine ht.mono ?_);rintro x W1 ⟨rfl,hb1⟩)
 have h1:=h.below hb1;clear h hb1 ht;have hbd:=(afI W1.heap.size W1).drew;have h1d:=h1.below hbd;obtain⟨C,hCi,hCo⟩:∃C:World->Prop,(∀Z,C Z->Z.cell? ⟨Sb,n*2,none⟩=some (.slice la A.length ca)/\Z.cell? ⟨Sb,n*2+1,none⟩=some (.slice li I.length ci))/\(∀Z,Z.cell? ⟨Sb,n*2,none⟩=some (.slice la A.length ca)/\Z.cell? ⟨Sb,n*2+1,none⟩=some (.slice li I.length ci)->C Z):=⟨_,fun _ h=>h,fun _ h=>h⟩;have hW0:C W1.drew:=hCo _ (by rw[HN.out];exact h1d.top rfl);haveI:Inhabited (AX.CW C):=⟨⟨_,hW0⟩⟩;haveI:Inhabited (AX.CW fun _=>True):=⟨⟨w,trivial⟩⟩;have a0:=fun p:AX.CW C=>(hCi _ p.h).1;have a1:=fun p:AX.CW C=>(hCi _ p.h).2;have HC:=Lib.hid hCo;clear hCo hCi;refine AX.dF (C:=fun W=>∃p:AX.CW C,W=p.W) (CT:=fun W=>∃p:AX.CW fun _=>True,W=p.W) 16 [(0,0),(1,1),(2,0),(3,0),(4,0),(5,0),(6,0),(7,0),(8,0),(9,0),(10,0),(11,2),(12,2),(13,2),(14,1),(15,0),(16,2),(17,1),(18,1),(19,2)] _ (by kernel_rfl) (by kernel_rfl) rfl (by kernel_rfl) (by decide) (by kernel_rfl) (by kernel_rfl) (by intro c a d v w h;cases d<;>exact h) ⟨⟨⟨_,trivial⟩,rfl⟩,⟨⟨_,hW0⟩,rfl⟩⟩ ?_;clear hW0 hbd h1;generalize W1.drew=Wd at *
 repeat ((first|refine AX.bQ _ (by rfl) ?_|refine AX.gG _ (by rfl) ?_);go_big_quiet_step (fail);refine afQ ?_)
 have hm:=TR 3 (.slice li I.length ci) I (h1d.perm (List.Perm.swap _ _ _)) hl;refine AX.dW hm (by rfl) (by rfl) (by rfl) Tryz.func122 (by kernel_rfl) (by rfl) (by simp only[agh,agd,agm];rfl) ?_;rintro e2 W2 ⟨rfl,rv2,r2,h2,hr2⟩;refine⟨_,rfl,⟨⟨⟨W2,trivial⟩,rfl⟩,fun _=>⟨⟨W2,HC.out _ (by rw[HN.out];exact h2.top rfl)⟩,rfl⟩⟩,?_⟩;simp only[Act.put,afH,afL,afM];have HR2:=Lib.hid hr2;clear hm h1d hr2;obtain⟨qi,hqi⟩:=afC ((cu mkI (r.map (·.x)) 3 I).2);rw[<-hqi];have HQ:=Lib.hid hqi;clear hqi;refine AX.aV _ (by rfl) (by rfl) ?_;unfold Oper.wp;go_simp
 have hB7:=(Bx.new W2 3 #[.int .i64 qi]).cell 0;have hb7:Below W2.heap.size W2 (W2.alloc (.cells #[.int .i64 qi] 3)):=(afI _ _).alloc afD _;have h7:=h2.below hb7;clear h2 hb7;obtain⟨Bn,hBn⟩:=afC W2.heap.size;rw[<-hBn]at hB7⊢;clear hBn;generalize W2.alloc (.cells #[.int .i64 qi] 3)=W7 at *;refine⟨⟨⟨⟨W7,trivial⟩,rfl⟩,fun _ _=>⟨⟨W7,HC.out _ (by rw[HN.out];exact h7.top rfl)⟩,rfl⟩⟩,?_⟩;simp only[show Nat.beq 11 16=false from rfl,show Nat.beq 12 16=false from rfl,ahT];refine AX.aV _ (by rfl) (by rfl) ?_;refine BR w.heap.size (.slice la A.length ca) A qi _ _ rfl rfl (h7.io _ (afS ..)) Bn 1 rfl hB7 (by omega) h7.low.size ?_;intro v' W8 hR8 hg8 Zz;have h8:=h7.num hR8 hg8 Zz;refine⟨⟨⟨⟨W8,trivial⟩,rfl⟩,fun _=>⟨⟨W8,HC.out _ (by rw[HN.out];exact h8.top rfl)⟩,rfl⟩⟩,?_⟩;simp only[Act.put,afH,afL,afM]
 repeat ((first|refine AX.bQ _ (by rfl) ?_|refine AX.gG _ (by rfl) ?_);go_big_quiet_step (fail);refine afQ ?_)
 refine AX.aV _ (by rfl) (by rfl) ?_;obtain⟨lv,cv,hv'⟩:=hR8.form;obtain⟨cs8,hs8,hz8⟩:=h8.TT;have aeo:n*2+2<=cs8.size:=by have:=HN.out;simp at hz8;omega
 refine AX.aI (o:=n*2) (v:=v') rfl rfl (by rw[hv'];rfl) TS hs8 (by omega) ?_;rintro W9 h3 h4 h5;have h9:=h8.set (q:=0) (v:=v') (f':=(v',.slice li I.length ci)) hs8 (by rw[<-HN.out];exact h3) h4 h5 (by decide) rfl;refine⟨⟨⟨⟨W9,trivial⟩,rfl⟩,fun h=>by cases h⟩,?_⟩
 repeat ((first|refine AX.bQ _ (by rfl) ?_|refine AX.gG _ (by rfl) ?_);go_big_quiet_step (fail);refine afQ ?_)
 refine AX.aV _ (by rfl) (by rfl) ?_;refine AX.aI (o:=n*2+1) (v:=.slice none 0 0) rfl rfl rfl TS h3 (by rw[ahz];omega) ?_;rintro W10 g3 g4 g5;have h10:=h9.set (q:=1) (v:=.slice none 0 0) (f':=(v',.slice none 0 0)) h3 (by rw[<-HN.out];exact g3) g4 g5 (by decide) rfl;refine⟨⟨⟨⟨W10,trivial⟩,rfl⟩,fun h=>by cases h⟩,?_⟩;clear h7 hR8 hg8 h3 h4 h5 HC h8 h9 g3 g4 g5 hs8 hz8 aeo;unfold AX.bC;go_wp2_with fail
 exact bodyPost_end (v:=.tuple #[]) (by simp[results,Tryz.results117,go_sem]) rfl ⟨rfl,rv2,r2,v',by rw[<-HQ.out];exact h10,HR2.out⟩
end
theorem XJ:AX.sizeT Tryz.prog 166=some 1:=by kernel_rfl
theorem jG.less{W:World}{base Sb c:Nat}{fs:List (Value×Value)}{f:Value×Value}(h:jG W base (.slice (some ⟨Sb,0,none⟩) (fs.length+1) c) (fs++[f])):jG W base (.slice (some ⟨Sb,0,none⟩) fs.length c) fs/\fs.length+1<=c:=by
 rcases h.2 with ⟨e1,_⟩|⟨g,cap,cur,e1,hg,hh,hc1,hc2,hc3,hc4⟩
 ·cases e1
 ·obtain⟨rfl,rfl⟩:Sb=g/\c=cap:=by
   injection e1 with a1 a2 a3
   injection a1 with a1
   injection a1 with a1
   exact⟨a1,a3⟩
  have hl:(fs++[f]).length=fs.length+1:=by simp
  rw[hl]at hc1 hc4;refine⟨⟨MG fs,.inr ⟨Sb,c,cur,rfl,hg,hh,by omega,hc2,hc3,?_⟩⟩,hc1⟩;have e2:fs.flatMap nS=((fs++[f]).flatMap nS).take (fs.length*2):=by
   rw[ag7,<-MG fs,List.take_left]
  rw[e2,<-hc4,List.take_take]
  congr 1
  omega
section
variable {w W W' : World} {Rb : Nat} {s : ByteArray} {at_ e : Int} {rv sv : Value} {r : List NL} {fs : List (Value × Value)} {rows : List (Value × List Int)}
theorem St.pop{Sb c:Nat}{f:Value×Value}(h:St w W Rb s at_ e rv (.slice (some ⟨Sb,0,none⟩) (fs.length+1) c) r (fs++[f]) rows)(hR:Rdr W' Rb s at_ rv (.slice (some ⟨Sb,0,none⟩) fs.length c) e)(h4:∀j,j≠Rb->W'.heap[j]?=W.heap[j]?)(h5:AX.Same W W'):
  St w W' Rb s at_ e rv (.slice (some ⟨Sb,0,none⟩) fs.length c) r fs rows:=by
 have hs:dH 168 W W':=aP h.rd h4;exact⟨h.low.trans (AX.ah (n:=w.heap.size) h.rb (.inl hR.lt) h4 h5),h.rb,hR,aC h.ro hs (by decide),aC h.so.less.1 hs (by decide),fun p hp=>aC (h.io p hp) hs (by decide),h.dis,fun y hy=>(h.ka y hy).aW hs (by decide),h.kd,h.kb⟩
def WH(w W':World)(Rb:Nat)(s:ByteArray)(at_ e:Int)(sv:Value)(fs:List (Value×Value))(rows:List (Value×List Int))(z:List Nd×Int):Prop:=
 ∃rv' r',St w W' Rb s at_ e rv' sv r' fs rows/\r'.map (·.x)=z.1
theorem TU(r:List Nd)(k:Int)(l:List Int):(cu mkI r k l).1.length<=r.length+1:=by
 match l with
 | []=>simp[cu,mkI]
 | [x]=>simp[cu]
 | x::y::l=>simp[cu,mkI]
theorem XH{Sb c:Nat}(av iv:Value)(A I:List Int)(h:St w W Rb s at_ e rv (.slice (some ⟨Sb,0,none⟩) (fs.length+1) c) r (fs++[(av,iv)]) ((av,A)::(iv,I)::rows))(hl:r.length<=9000)(hA:A.length<=9000)(hf:fs.length<=900):
  Calls Tryz.prog 92 #[.pointer (some ⟨Rb,0,none⟩)] W fun x W'=>x=.returned (.int .i64 (fE mkI (r.map (·.x)) A I).2)/\WH w W' Rb s at_ e (.slice (some ⟨Sb,0,none⟩) fs.length c) fs rows (fE mkI (r.map (·.x)) A I):=by
 have ha:=XI av iv A I h (by omega) (by omega) hf;have hml:=TU (r.map (·.x)) 3 I;rw[agf]at hml;unfold fE;obtain⟨rr,hrr⟩:=afC (cu mkI (r.map (·.x)) 3 I);rw[<-hrr]at ha hml⊢;clear hrr h;obtain⟨A1,hA1⟩:=afC (A++[rr.2]);rw[<-hA1];obtain⟨z,hz⟩:=afC (cu mkI rr.1 4 A1);rw[<-hz];have HZ:=Lib.hid hz;have HA1:=Lib.hid hA1;clear hz hA1;go_enter Tryz.func92,Tryz.ntmps92
 go_wp2_with (go_at_call 117;(with_reducible refine ha.mono ?_);rintro x W1 ⟨rfl,rv1,r1,av1,h1,hr1⟩)
 have ht:=TI Rb Sb (fs.length+1) c (by omega) (by omega) s at_ rv1 e W1 h1.rd;rw[Nat.add_sub_cancel]at ht;rw[<-HA1.out]at h1;have hav:bG W1 w.heap.size av1 A1:=h1.io (av1,A1) (afS ..);obtain⟨la,ca,rfl⟩:=hav.form;have hm:=fun W2 (h2:St w W2 Rb s at_ e rv1 (.slice (some ⟨Sb,0,none⟩) (fs.length+1) c) r1 (fs++[(.slice la A1.length ca,.slice none 0 0)]) ((.slice la A1.length ca,A1)::rows))=>TR 4 (.slice la A1.length ca) A1 h2 (by
  have:r1.length=(r1.map (·.x)).length:=by simp
  rw[hr1]at this;omega)
 rw[hr1,<-HZ.out]at hm;have HR1:=Lib.hid hr1;clear hr1 ha hav;go_wp2_with (first
  | (go_at_call 123;(with_reducible refine ht.mono ?_);rintro x W2 ⟨rfl,hb2⟩;have h2:=h1.below hb2;obtain⟨c0,c1⟩:=h2.top rfl;dsimp only at c0)
  | (go_at_call 122;(with_reducible refine(hm _ h2).mono ?_);rintro x W3 ⟨rfl,rv3,r3,h3,hr3⟩))
 have h3c:=h3.so.less.2;obtain⟨C,hCi,hCo⟩:∃C:World->Prop,(∀Z,C Z->Z.cell? ⟨Rb,3,none⟩=some (.slice (some ⟨Sb,0,none⟩) (fs.length+1) c))/\(∀Z,Z.cell? ⟨Rb,3,none⟩=some (.slice (some ⟨Sb,0,none⟩) (fs.length+1) c)->C Z):=⟨_,fun _ h=>h,fun _ h=>h⟩;have hbd:=(afI W3.heap.size W3).drew;have h3d:=h3.below hbd;have hW0:C W3.drew:=hCo _ (h3d.rd.cell 3);haveI:Inhabited (AX.CW C):=⟨⟨_,hW0⟩⟩;haveI:Inhabited (AX.CW fun _=>True):=⟨⟨w,trivial⟩⟩;have a0:=fun p:AX.CW C=>hCi _ p.h;clear hCo hCi;have hn0:(0:Int)<=(fs.length:Int):=by omega
 have hn1:(fs.length:Int)<=(c:Int):=by omega
 have hn2:((fs.length:Int)).toNat=fs.length:=by omega
 refine AX.dF (C:=fun W=>∃p:AX.CW C,W=p.W) (CT:=fun W=>∃p:AX.CW fun _=>True,W=p.W) 14 [(0,0),(1,0),(2,0),(3,0),(4,0),(5,0),(6,0),(7,0),(8,0),(9,0),(10,0),(11,0),(12,1),(13,0),(14,2)] _ (by kernel_rfl) (by kernel_rfl) rfl (by kernel_rfl) (by decide) (by kernel_rfl) (by kernel_rfl) (by intro c a d v w h;cases d<;>exact h) ⟨⟨⟨_,trivial⟩,rfl⟩,⟨⟨_,hW0⟩,rfl⟩⟩ ?_;clear hW0 hbd h3;generalize W3.drew=Wd at *
 repeat ((first|refine AX.bQ _ (by rfl) ?_|refine AX.gG _ (by rfl) ?_);go_big_quiet_step (fail);refine afQ ?_)
 refine AX.aV _ (by rfl) (by rfl) ?_;refine AX.aI (o:=3) (v:=.slice (some ⟨Sb,0,none⟩) fs.length c) rfl rfl rfl XJ h3d.rd (show 3<5 by decide) ?_;rintro W4 g3 g4 g5;have h4:=h3d.pop g3 g4 g5;refine⟨⟨⟨⟨W4,trivial⟩,rfl⟩,fun h=>by cases h⟩,?_⟩;clear h3d g3 g4 g5;unfold AX.bC;go_wp2_with fail
 exact afJ (v:=.int .i64 z.2) (by simp[results,Tryz.results92,go_sem]) rfl ⟨rfl,_,_,h4,hr3⟩
end
section
variable {w W W' : World} {Rb : Nat} {s : ByteArray} {at_ e : Int} {rv sv : Value} {r : List NL} {fs : List (Value × Value)} {rows : List (Value × List Int)}
theorem St.ZA{Sb c:Nat}{f:Value×Value}(h:St w W Rb s at_ e rv (.slice (some ⟨Sb,0,none⟩) (fs.length+1) c) r (fs++[f]) rows)(hf:fs.length<=900):
  Calls Tryz.prog 123 #[.pointer (some ⟨Rb,0,none⟩)] W fun x w'=>x=.returned (.pointer (some ⟨Sb,fs.length*2,none⟩))/\Below W.heap.size W w':=by
 have ht:=TI Rb Sb (fs.length+1) c (by omega) (by omega) s at_ rv e W h.rd
 rwa [Nat.add_sub_cancel]at ht
def TV(w W':World)(Rb:Nat)(s:ByteArray)(at_ e:Int)(rv sv av:Value)(r:List NL)(fs:List (Value×Value))(rows:List (Value×List Int))(l:List Int):Prop:=
 ∃iv',St w W' Rb s at_ e rv sv r (fs++[(av,iv')]) ((iv',l)::rows)
theorem TW{Sb c:Nat}(av iv:Value)(I:List Int)(n:Int)(h:St w W Rb s at_ e rv (.slice (some ⟨Sb,0,none⟩) (fs.length+1) c) r (fs++[(av,iv)]) ((iv,I)::rows))(hI:I.length<=9000)(hf:fs.length<=900):
  Calls Tryz.prog 118 #[.pointer (some ⟨Rb,0,none⟩),.int .i64 n] W fun x W'=>x=.returned (.tuple #[])/\TV w W' Rb s at_ e rv (.slice (some ⟨Sb,0,none⟩) (fs.length+1) c) av r fs rows (I++[n]):=by
 go_enter Tryz.func118,Tryz.ntmps118
 go_wp2_with (first
  | (go_at_call 123;(with_reducible refine(h.ZA hf).mono ?_);rintro x W1 ⟨rfl,hb1⟩;have h1:=h.below hb1;clear h;have h:=h1;clear h1;obtain⟨c0,c1⟩:=h.top rfl;dsimp only at c1;have hcb:=(Bx.new W1 3 #[.int .i64 n]).cell 0;have h7:=h.below ((afI W1.heap.size W1).alloc afD (.cells #[.int .i64 n] 3));have hr7:bG (W1.alloc (.cells #[.int .i64 n] 3)) w.heap.size iv I:=h7.io _ (afS ..);have hz7:=h7.low.size)
  | (at_builtin;refine TY _ w.heap.size iv I n rfl _ _ rfl rfl hr7 _ 1 rfl hcb (by omega) hz7 ?_;intro v' W8 hr8 hg8 Zz;have h8:=h7.num hr8 hg8 Zz;have acr:v'.oneCell'=true:=(by obtain⟨lv,cv,hv'⟩:=hr8.form;subst hv';rfl);obtain⟨cs8,hs8,hz8⟩:=h8.TT;have hz9:fs.length*2+2<=cs8.size:=(by rw[afP,ags]at hz8;omega))
  | ((with_reducible refine bK ?_);refine AX.aB (o:=fs.length*2+1) (v:=v') rfl rfl acr TS hs8 (by omega) ?_;rintro W9 g3 g4 g5;have h9:=h8.set (q:=1) (v:=v') (f':=(av,v')) hs8 g3 g4 g5 (by decide) rfl))
 exact bodyPost_end (v:=.tuple #[]) (by simp[results,Tryz.results118,go_sem]) rfl ⟨rfl,_,h9⟩
end
theorem bG.setLast{W W':World}{base g c:Nat}{cs:Array Value}{D:List Int}{x y:Int}(h:bG W base (.slice (some ⟨g,0,none⟩) (D.length+1) c) (D++[x]))(hc:W.heap[g]?=some (.cells cs 3 (0,0)))
  (h':W'.heap[g]?=some (.cells (cs.setIfInBounds D.length (.int .i64 y)) 3 (0,0))):bG W' base (.slice (some ⟨g,0,none⟩) (D.length+1) c) (D++[y]):=by
 rcases h.2 with ⟨e1,_⟩|⟨g',cap,cur,e1,hg,hh,hc1,hc2,hc3,hc4⟩
 ·cases e1
 ·obtain⟨rfl,rfl⟩:g=g'/\c=cap:=by
   injection e1 with a1 a2 a3
   injection a1 with a1
   injection a1 with a1
   exact⟨a1,a3⟩
  rw[hc]at hh;obtain rfl:cs=cur:=by cases hh;rfl
  have hl:(D++[x]).length=D.length+1:=by simp
  rw[hl]at hc1 hc4;have hl2:(D++[y]).length=D.length+1:=by simp
  refine⟨by simp,.inr ⟨g,c,_,by rw[hl2],hg,h',by rw[hl2];exact hc1,hc2,by rw[ahz];exact hc3,?_⟩⟩;rw[hl2];rw[ah5]at hc4⊢;have hsz:D.length+1<=cs.toList.length:=by
   have:cs.toList.length=c*1:=(by rw[ahY];exact hc3);omega
  apply agJ;intro i;have h4:=ag3 (fun l=>l[i]?) hc4;simp only[ag1,agt,List.getElem?_append,agf]at h4;rw[ag1,Array.toList_setIfInBounds,agE,agt,List.getElem?_append,agf]
  by_cases hi:i<D.length+1
  ·rw[afR hi]at h4⊢
   by_cases hi2:D.length=i
   ·subst hi2
    rw[afR rfl,afR (by omega),afO (by omega),aho];rfl
   ·rw[afO hi2,h4,afR (by omega),afR (by omega)]
  ·rw[afO hi,afO (by omega),af5 (by simp;omega)]
section
variable {w W W' : World} {Rb : Nat} {s : ByteArray} {at_ e : Int} {rv sv : Value} {r : List NL} {fs : List (Value × Value)} {rows : List (Value × List Int)}
theorem St.setLast{g c:Nat}{cs:Array Value}{D:List Int}{x y:Int}(h:St w W Rb s at_ e rv sv r fs ((.slice (some ⟨g,0,none⟩) (D.length+1) c,D++[x])::rows))(hc:W.heap[g]?=some (.cells cs 3 (0,0)))
  (h3:W'.heap[g]?=some (.cells (cs.setIfInBounds D.length (.int .i64 y)) 3 (0,0))) (h4:∀j,j≠g->W'.heap[j]?=W.heap[j]?) (h5:AX.Same W W'):St w W' Rb s at_ e rv sv r fs ((.slice (some ⟨g,0,none⟩) (D.length+1) c,D++[y])::rows):=by
 have hv:bG W w.heap.size (.slice (some ⟨g,0,none⟩) (D.length+1) c) (D++[x]):=h.io _ (afS ..);have s1:dH 3 W W':=aP hc h4;have hb:=(World.ownsRow.lt hv g rfl).1;have hd:=(agF.1 h.dis).1;refine⟨h.low.trans (AX.ah (n:=w.heap.size) hb (.inl (afF.1 h3).1) h4 h5),h.rb,(s1 Rb _ 168 h.rd (by decide)).trans h.rd,aC h.ro s1 (by decide),aC h.so s1 (by decide),fun q hq=>?_,?_,fun y' hy=>?_,fun y' hy q hq=>?_,h.kb⟩
 ·rcases afX.1 hq with rfl|hq
  ·exact hv.setLast hc h3
  ·exact bP (h.io q (afV _ hq)) fun g' eg=>h4 g' fun e'=>hd q hq g' (by rw[e'];rfl) eg
 ·exact agF.2 ⟨fun q hq=>hd q hq,(agF.1 h.dis).2⟩
 ·rcases h.ka y' hy with hk|⟨B,c',cs',e1,e2,e3,e4⟩
  ·exact .inl hk
  ·have e5:=h4 B (fun e'=>h.kd y' hy _ (afS ..) B (by rw[e'];rfl) (by rw[e1];rfl))
   exact .inr ⟨B,c',cs',e1,e5.trans e2,e3,fun i x hx=>(bZ e5).trans (e4 i x hx)⟩
 ·rcases afX.1 hq with rfl|hq
  ·exact h.kd y' hy (_,D++[x]) (afS ..)
  ·exact h.kd y' hy q (afV _ hq)
theorem St.ZB{g n c:Nat}{l:List Int}(h:St w W Rb s at_ e rv sv r fs ((.slice (some ⟨g,0,none⟩) n c,l)::rows)):∃cs,W.heap[g]?=some (.cells cs 3 (0,0))/\l.length<=cs.size:=by
 have hv:bG W w.heap.size (.slice (some ⟨g,0,none⟩) n c) l:=h.io _ (afS ..);rcases hv.2 with ⟨e1,_⟩|⟨g',cap,cur,e1,hg,hh,hc1,hc2,hc3,hc4⟩
 ·cases e1
 ·obtain rfl:g=g':=by
   injection e1 with a1 a2 a3
   injection a1 with a1
   injection a1 with a1
  exact⟨cur,hh,by rw[hc3];omega⟩
theorem St.at(h:St w W Rb s at_ e rv sv r fs rows):W.cell? ⟨Rb,1,none⟩=some (.int .i64 at_):=h.rd.cell 1
theorem sz3:AX.sizeT Tryz.prog 3=some 1:=by kernel_rfl
def OW(w W':World)(Rb:Nat)(s:ByteArray)(at_ e:Int)(sv av iv:Value)(fs:List (Value×Value))(rows:List (Value×List Int))(l:List Int)(z:List Nd):Prop:=
 ∃rv' r',St w W' Rb s at_ e rv' sv r' (fs++[(av,iv)]) ((iv,l)::rows)/\r'.map (·.x)=z
theorem AQ{Sb c:Nat}(a:Nat)(k:Int)(av iv:Value)(h:St w W Rb s a 0 rv (.slice (some ⟨Sb,0,none⟩) (fs.length+1) c) r (fs++[(av,iv)]) ((iv,[])::rows))(hf:fs.length<=900):
  Calls Tryz.prog 119 #[.pointer (some ⟨Rb,0,none⟩),.int .i64 k] W fun x W'=>x=.returned (.tuple #[])/\St w W' Rb s a 7 rv (.slice (some ⟨Sb,0,none⟩) (fs.length+1) c) r (fs++[(av,iv)]) ((iv,[])::rows):=by
 obtain⟨li,ci,rfl⟩:=bG.form (show bG W w.heap.size iv []from h.io (iv,[]) (afS ..));have e0:((([]:List Int).length:Nat):Int)=0:=rfl;have ht:=h.ZA hf;go_enter Tryz.func119,Tryz.ntmps119
 go_wp2_with (first
  | (go_at_call 123;(with_reducible refine ht.mono ?_);rintro x W1 ⟨rfl,hb1⟩;have h1:=h.below hb1;obtain⟨c0,c1⟩:=h1.top rfl;dsimp only at c1;have d1:=h1.at)
  | (go_at_call 91;(with_reducible refine(lK Rb s _ rv _ 0 _ _ _ h1.rd).mono ?_);rintro x W2 ⟨rfl,hR2,hb2⟩;have h2:=h1.box hb2 hR2))
 exact afJ (v:=.tuple #[]) (by simp[results,Tryz.results119,go_sem]) rfl ⟨rfl,h2⟩
theorem AU{Sb c:Nat}(a:Nat)(ha:a<=1000000)(k:Int)(av iv:Value)(D:List Int)(x:Int)(h:St w W Rb s a 0 rv (.slice (some ⟨Sb,0,none⟩) (fs.length+1) c) r (fs++[(av,iv)]) ((iv,D++[x])::rows))(hl:r.length<=9000)(hD:D.length<=9000)(hf:fs.length<=900):
  Calls Tryz.prog 119 #[.pointer (some ⟨Rb,0,none⟩),.int .i64 k] W fun y W'=>y=.returned (.tuple #[])/\OW w W' Rb s ((a:Int)+1) 0 (.slice (some ⟨Sb,0,none⟩) (fs.length+1) c) av iv fs rows (D++[(r.length:Int)]) (mkI (r.map (·.x)) (h5 k) [x]).1:=by
 have hv0:bG W w.heap.size iv (D++[x]):=h.io (iv,_) (afS ..);obtain⟨g,ci,cs,rfl,hg,hgb,hgs,hgc⟩:=hv0.cells (by simp);have hDl:(D++[x]).length=D.length+1:=by simp
 rw[hDl]at h hgs hv0⊢;have ht:=h.ZA hf;have hd0:(0:Int)<=(D.length:Int):=by omega
 have hd1:(D.length:Int)<(D.length:Int)+1:=by omega
 have hd2:((D.length:Int)).toNat=D.length:=by omega
 have hd3:¬((D.length:Int)+1=0):=by omega
 have acs:=hgc D.length x (by simp);go_enter Tryz.func119,Tryz.ntmps119
 go_wp2_with (go_at_call 123;(with_reducible refine ht.mono ?_);rintro y W1 ⟨rfl,hb1⟩;have h1:=h.below hb1;obtain⟨c0,c1⟩:=h1.top rfl;dsimp only at c1;have d1:=h1.at)
 have hSl:Sb<W1.heap.size:=(World.ownsRow.lt h1.so Sb rfl).2;have a1:=AX.aA c1 hSl;refine AX.aF (by kernel_rfl) (by kernel_rfl) ?_
 repeat (go_big_quiet_step (fail))
 refine afQ ?_;rintro W2 ⟨p,rfl⟩;obtain⟨W2,hb2⟩:=p;change Below _ _ _ at hb2;have h2:=h1.below hb2;have hbb:Below W.heap.size W W2:=hb1.trans (hb2.mono hb1.size);have hgl:=(afF.1 hg).1;have g0:W2.cell? ⟨g,D.length,none⟩=some (.int .i64 x):=(hbb.cell (p:=⟨g,D.length,none⟩) hgl).trans acs;have hg2:W2.heap[g]?=some (.cells cs 3 (0,0)):=(hbb.block g hgl).trans hg;clear c0 c1 d1 a1 h1 hb1 ht h hgc acs hv0 hg;have h3:=h2.below ((afI W2.heap.size W2).alloc afD (.cells #[.int .i64 x] 3));have hx3:KAt (W2.alloc (.cells #[.int .i64 x] 3)) none (.slice (some ⟨W2.heap.size,0,none⟩) 1 1) [x]:=.inr ⟨W2.heap.size,0,#[.int .i64 x],rfl,World.alloc_heap_new W2 _,by simp,fun i y hy=>by
  cases i with
  | zero=>simp at hy;subst hy;exact (Bx.new W2 3 #[.int .i64 x]).cell 0
  | succ i=>simp at hy⟩
 have hap:∀p∈(Value.slice (some ⟨g,0,none⟩) (D.length+1) ci,D++[x])::rows,Apart p.1 (.slice (some ⟨W2.heap.size,0,none⟩) 1 1):=fun p hp j hj hj2=>by
  have h4:=(World.ownsRow.lt (h2.io p hp) j hj).2;have h5:W2.heap.size=j:=by simpa[Value.ownBlock]using hj2
  omega
 have hp:=MH k .zero (.slice (some ⟨W2.heap.size,0,none⟩) 1 1) [x] h3 hx3 hap (fun j hj=>by
  have h5:W2.heap.size=j:=by simpa[Value.ownBlock]using hj
  have:=h2.low.size;omega) (by omega)
 rw[show C4.v .zero=.agg #[.int .u64 0,.int .u64 0,.int .u64 0,.int .u64 0]from rfl]at hp;clear hg2 hgb hgs;go_wp2_with (first
  | (go_at_call 120;(with_reducible refine hp.mono ?_);rintro y W4 ⟨rfl,rv4,h4⟩;obtain⟨cs4,hg4,hz4⟩:=h4.ZB;have hz5:D.length+1<=cs4.size:=(by rw[hDl]at hz4;exact hz4))
  | ((with_reducible refine bK ?_);refine AX.aB (o:=D.length) (v:=.int .i64 r.length) rfl rfl rfl sz3 hg4 (by omega) ?_;rintro W5 g3 g4 g5;have h5:=h4.setLast hg4 g3 g4 g5;have d5:=h5.at;have f5:=h5.rd.frozen 1;have h6:=h5.box (iZ W5 Rb 1 (.int .i64 ((a:Int)+1))) (Bx.set h5.rd 1 (.int .i64 ((a:Int)+1)))))
 exact bodyPost_end (v:=.tuple #[]) (by simp[results,Tryz.results119,go_sem]) rfl ⟨rfl,rv4,r++[⟨KJ k C4.zero [x],.slice (some ⟨W2.heap.size,0,none⟩) 1 1⟩],h6,by rw[agt];rfl⟩
end
end
section
open Go Go.Proofs Go.RowKit Go.Shelf
attribute [local go_sem] Oper.semAt_some
def uk(k i a b:Nat):Value:=.int .u64 ((if i<k then a ||| b else a:Nat):Int)
theorem union_k(a b c d e f g h:Nat)(ha:a<18446744073709551616)(hb:b<18446744073709551616)(hc:c<18446744073709551616)(hd:d<18446744073709551616)(he:e<18446744073709551616)(hf:f<18446744073709551616)(hg:g<18446744073709551616)(hh:h<18446744073709551616)(w:World):
  Calls Tryz.prog 166 #[.agg #[.int .u64 a,.int .u64 b,.int .u64 c,.int .u64 d],.agg #[.int .u64 e,.int .u64 f,.int .u64 g,.int .u64 h]] w fun x w'=>x=.returned (.agg #[.int .u64 (a ||| e:Nat),.int .u64 (b ||| f:Nat),.int .u64 (c ||| g:Nat),.int .u64 (d ||| h:Nat)])/\Below w.heap.size w w':=by
 have xa:=bits_or_u64_nat a e ha he;have xb:=bits_or_u64_nat b f hb hf;have xc:=bits_or_u64_nat c g hc hg;have xd:=bits_or_u64_nat d h hd hh;clear ha hb hc hd he hf hg hh;go_enter Tryz.func166,Tryz.ntmps166
 go_wp2
 go_loopw [8] (fun i wr=>∃k:Nat,k<=4/\i=.int .i64 k/\Bx wr w.heap.size 116 #[uk k 0 a e,uk k 1 b f,uk k 2 c g,uk k 3 d h]/\Bx wr (w.heap.size+2) 116 #[.int .u64 0,.int .u64 0,.int .u64 0,.int .u64 0]/\Below w.heap.size w wr)
  (fun i _=>4-(RowKit.intOf i).toNat)
 case atStart =>
  have hz:=Bx.new ((w.alloc (.cells #[.int .u64 a,.int .u64 b,.int .u64 c,.int .u64 d] 116)).alloc (.cells #[.int .u64 e,.int .u64 f,.int .u64 g,.int .u64 h] 116)) 116 #[.int .u64 0,.int .u64 0,.int .u64 0,.int .u64 0];exact⟨0,by omega,rfl,((Bx.new w 116 _).alloc _).alloc _,by simpa using hz,(((afI _ w).alloc afD _).alloc (by simp) _).alloc (by simp;omega) _⟩
 case round =>
  obtain⟨k,hk,rfl,h1,h2,hB⟩:=hrel;obtain rfl|rfl|rfl|rfl|rfl:k=0\/k=1\/k=2\/k=3\/k=4:=by omega
  ·have c0:wr.cell? ⟨w.heap.size,0,none⟩=some (.int .u64 (a:Nat)):=h1.cell 0
   have f0:=h1.frozen 0;have ix:=tC (.int .u64 e) (.int .u64 f) (.int .u64 g) (.int .u64 h);have hs:Bx (wr.setCell ⟨w.heap.size,0,none⟩ (.int .u64 (a ||| e:Nat))) w.heap.size 116 #[uk 1 0 a e,uk 1 1 b f,uk 1 2 c g,uk 1 3 d h]:=Bx.set h1 0 (.int .u64 (a ||| e:Nat));have ho:Bx (wr.setCell ⟨w.heap.size,0,none⟩ (.int .u64 (a ||| e:Nat))) (w.heap.size+2) 116 _:=h2.other (by omega);have hb:=hB.setCell (p:=⟨w.heap.size,0,none⟩) afD (.int .u64 (a ||| e:Nat));go_wp2
   exact⟨⟨1,by omega,rfl,hs,ho,hb⟩,by simp[RowKit.intOf]⟩
  ·have c0:wr.cell? ⟨w.heap.size,1,none⟩=some (.int .u64 (b:Nat)):=h1.cell 1
   have f0:=h1.frozen 1;have ix:=tH (.int .u64 e) (.int .u64 f) (.int .u64 g) (.int .u64 h);have hs:Bx (wr.setCell ⟨w.heap.size,1,none⟩ (.int .u64 (b ||| f:Nat))) w.heap.size 116 #[uk 2 0 a e,uk 2 1 b f,uk 2 2 c g,uk 2 3 d h]:=Bx.set h1 1 (.int .u64 (b ||| f:Nat));have ho:Bx (wr.setCell ⟨w.heap.size,1,none⟩ (.int .u64 (b ||| f:Nat))) (w.heap.size+2) 116 _:=h2.other (by omega);have hb:=hB.setCell (p:=⟨w.heap.size,1,none⟩) afD (.int .u64 (b ||| f:Nat));go_wp2
   exact⟨⟨2,by omega,rfl,hs,ho,hb⟩,by simp[RowKit.intOf]⟩
  ·have c0:wr.cell? ⟨w.heap.size,2,none⟩=some (.int .u64 (c:Nat)):=h1.cell 2
   have f0:=h1.frozen 2;have ix:=tJ (.int .u64 e) (.int .u64 f) (.int .u64 g) (.int .u64 h);have hs:Bx (wr.setCell ⟨w.heap.size,2,none⟩ (.int .u64 (c ||| g:Nat))) w.heap.size 116 #[uk 3 0 a e,uk 3 1 b f,uk 3 2 c g,uk 3 3 d h]:=Bx.set h1 2 (.int .u64 (c ||| g:Nat));have ho:Bx (wr.setCell ⟨w.heap.size,2,none⟩ (.int .u64 (c ||| g:Nat))) (w.heap.size+2) 116 _:=h2.other (by omega);have hb:=hB.setCell (p:=⟨w.heap.size,2,none⟩) afD (.int .u64 (c ||| g:Nat));go_wp2
   exact⟨⟨3,by omega,rfl,hs,ho,hb⟩,by simp[RowKit.intOf]⟩
  ·have c0:wr.cell? ⟨w.heap.size,3,none⟩=some (.int .u64 (d:Nat)):=h1.cell 3
   have f0:=h1.frozen 3;have ix:=tK (.int .u64 e) (.int .u64 f) (.int .u64 g) (.int .u64 h);have hs:Bx (wr.setCell ⟨w.heap.size,3,none⟩ (.int .u64 (d ||| h:Nat))) w.heap.size 116 #[uk 4 0 a e,uk 4 1 b f,uk 4 2 c g,uk 4 3 d h]:=Bx.set h1 3 (.int .u64 (d ||| h:Nat));have ho:Bx (wr.setCell ⟨w.heap.size,3,none⟩ (.int .u64 (d ||| h:Nat))) (w.heap.size+2) 116 _:=h2.other (by omega);have hb:=hB.setCell (p:=⟨w.heap.size,3,none⟩) afD (.int .u64 (d ||| h:Nat));go_wp2
   exact⟨⟨4,by omega,rfl,hs,ho,hb⟩,by simp[RowKit.intOf]⟩
  ·have c0:wr.cell? ⟨w.heap.size,0,none⟩=some (.int .u64 (a ||| e:Nat)):=h1.cell 0
   have c1:wr.cell? ⟨w.heap.size,1,none⟩=some (.int .u64 (b ||| f:Nat)):=h1.cell 1;have c2:wr.cell? ⟨w.heap.size,2,none⟩=some (.int .u64 (c ||| g:Nat)):=h1.cell 2;have c3:wr.cell? ⟨w.heap.size,3,none⟩=some (.int .u64 (d ||| h:Nat)):=h1.cell 3;clear xa xb xc xd;go_wp2_with ((with_reducible refine bK ?_);refine AX.aj (vs:=[.int .u64 (a ||| e:Nat),.int .u64 (b ||| f:Nat),.int .u64 (c ||| g:Nat),.int .u64 (d ||| h:Nat)]) rfl rfl vY h2 rfl rfl ?_;rintro W9 h3 h4 h5)
   have h3':Bx W9 (w.heap.size+2) 116 #[.int .u64 (a ||| e:Nat),.int .u64 (b ||| f:Nat),.int .u64 (c ||| g:Nat),.int .u64 (d ||| h:Nat)]:=h3;have d0:=h3'.cell 0;have d1:=h3'.cell 1;have d2:=h3'.cell 2;have d3:=h3'.cell 3;have hB9:Below w.heap.size w W9:=hB.trans (AX.ah (by omega) (.inl (afF.1 h3).1) h4 h5);exact afJ (v:=.agg #[.int .u64 (a ||| e:Nat),.int .u64 (b ||| f:Nat),.int .u64 (c ||| g:Nat),.int .u64 (d ||| h:Nat)]) (by simp[results,Tryz.results166,go_sem,d0,d1,d2,d3]) rfl ⟨rfl,hB9⟩
end
end Go.Proofs.YtkjgogdkdejljaaGreatDoor.Rx
