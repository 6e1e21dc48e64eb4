import Derived.Test.YtkjgogdkdejljaaGreatDoorRxS8
import Derived.Test.YtkjgogdkdejljaaGreatDoorDfV3
set_option maxRecDepth 100000
set_option maxHeartbeats 40000000
namespace Go.Proofs.YtkjgogdkdejljaaGreatDoor.Rx
section
open Go.Lib (hid)
open Go Go.Proofs Go.RowKit
attribute [local go_sem] Oper.semAt_some
inductive JL:List (Value×Value)→List (Value×List Int)→List (Fr Int)→Prop where
 | nil:JL [] [] []
 | snoc {fs:List (Value×Value)} {rs:List (Value×List Int)} {f:List (Fr Int)} (av iv:Value) (A I:List Int):JL fs rs f→JL (fs++[(av,iv)]) ((av,A)::(iv,I)::rs) ((A,I)::f)
theorem JL.len{fs:List (Value×Value)}{rs:List (Value×List Int)}{f:List (Fr Int)}(h:JL fs rs f):fs.length=f.length:=by
 induction h with
 | nil=>rfl
 | snoc _ _ _ _ _ ih=>simp[ih]
structure Rs(w W:World)(Rb Sb:Nat)(s:ByteArray)(x:Ms (List Nd) Int)(r:List NL)(rv av iv:Value)(fs:List (Value×Value))(rs:List (Value×List Int))(c:Nat):Prop where
 st:St w W Rb s x.a x.e rv (.slice (some ⟨Sb,0,none⟩) (fs.length+1) c) r (fs++[(av,iv)]) ((av,x.A)::(iv,x.I)::rs)
 nd:r.map (·.x)=x.st
 fr:JL fs rs x.f
def Nz(w W:World)(Rb:Nat)(s:ByteArray)(x:Ms (List Nd) Int):Prop:=∃ Sb r rv av iv fs rs c,Rs w W Rb Sb s x r rv av iv fs rs c
theorem Ye:(Tryz.prog.info? 165).map (fun i=>(i.zero,i.size,i.bytes))=some (some (.agg #[.slice none 0 0, .slice none 0 0]),2,48):=by kernel_rfl
theorem Rj{ops:Array Oper}{rest:List Oper}{o:Oper}{a:Act}{Q:Exit→Act→World→Prop}(W:World)(base:Nat)(v:Value)(pre:List (Value×Value))(hgd:o.guard=none)(s y:Operand)
  (ho:o.op = .call { callee := .builtin .append,args:=#[s,y],argTypes:=#[166,166] }) (hs:a.eval s=v) (hown:jA W base v pre) (B c:Nat) (hx:a.eval y = .slice (some ⟨B,0,none⟩) 1 c)
  (hc:Bx W B 165 #[.slice none 0 0, .slice none 0 0]) (hl:pre.length≤100000) (hb:base≤W.heap.size)
  (h:∀ v' w',jA w' base v' (pre++[(.slice none 0 0, .slice none 0 0)])→W.grownBy w' v.ownBlock→wpList Tryz.prog ops Q rest (a.put o.dst v') w'):wpList Tryz.prog ops Q (o::rest) a W:=by
 obtain⟨ti,hi,hz0,hz1,hz2⟩:=info_parts Ye;refine wpList_append_own (P:=Tryz.prog) (w:=W) hgd s y 166 ho base 165 ti (.agg #[.slice none 0 0, .slice none 0 0]) 2 48 Tryz.underlying166 hi hz0 hz1 hz2 rfl (by decide) v pre.length _ hs hown ⟨B,0,none⟩ 1 c [.slice none 0 0, .slice none 0 0] hx rfl
  (fun j u hj=>by rw[addr_add,Nat.zero_add,hc.cell];simpa using hj) (fun u hu=>by
   simp only[List.mem_cons,List.not_mem_nil,or_false] at hu;rcases hu with rfl | rfl<;>rfl) (by unfold maxLen;omega) (by omega) hb ?_
 intro v' w' h1 h2 _;refine h v' w' ?_ h2;unfold jA;rw[List.length_append,List.flatMap_append]
 simpa[nH] using h1
section
variable {w W W' : World} {Rb : Nat} {s : ByteArray} {at_ e : Int} {rv sv : Value} {r : List NL} {fs : List (Value × Value)} {rows : List (Value × List Int)}
theorem St.push{W1 W2:World}{sv':Value}{f:Value×Value}(h:St w W Rb s at_ e rv sv r fs rows)(hn:jA W1 w.heap.size sv' (fs++[f]))(hg:W.grownBy W1 sv.ownBlock)
  (hR:Rdr W2 Rb s at_ rv sv' e) (h4:∀ j,j≠Rb→W2.heap[j]?=W1.heap[j]?) (h5:AX.Same W1 W2):St w W2 Rb s at_ e rv sv' r (fs++[f]) rows:=by
 have s1:dQ 165 W W1:=aZ h.so hg;have hR1:Rdr W1 Rb s at_ rv sv e:=(s1 Rb _ 168 h.rd (by decide)).trans h.rd;have s2:dQ 168 W1 W2:=aT hR1 h4;have b1:=(Below.refl w.heap.size W).grown hg h.low.size fun j ej=>(World.ownsRow.lt h.so j ej).1;have b2:=AX.aj (n:=w.heap.size) h.rb (.inl hR.lt) h4 h5;exact⟨h.low.trans (b1.trans b2),h.rb,hR,aC (aC h.ro s1 (by decide)) s2 (by decide),aC hn s2 (by decide),fun p hp=>aC (aC (h.io p hp) s1 (by decide)) s2 (by decide),h.dis,fun z hz=>((h.ka z hz).aY s1 (by decide)).aY s2 (by decide),h.kd,h.kb⟩
theorem St.next{a:Nat}(h:St w W Rb s a e rv sv r fs rows):St w (W.setCell ⟨Rb,1,none⟩ (.int .i64 ((a:Int)+1))) Rb s ((a+1:Nat):Int) e rv sv r fs rows:=h.box (iM W Rb 1 _) (Bx.set h.rd 1 (.int .i64 ((a:Int)+1)))
end
theorem X9(w W:World)(Rb:Nat)(s:ByteArray)(x:Ms (List Nd) Int)(h:Nz w W Rb s x)(hm:A8 s x)(hs:s.size≤256)(he:x.e=0)(hal:x.a<s.size) :
  Calls Tryz.prog 90 #[.pointer (some ⟨Rb,0,none⟩)] W fun y W'=>y = .returned (.tuple #[])∧Nz w W' Rb s (stepG mkI s x):=by
 obtain⟨st,a,e,A,I,f⟩:=x;obtain⟨Sb,r,rv,av,iv,fs,rs,c,h,hnd,hfr⟩:=h;dsimp only at he hal hnd hfr h;subst he;obtain⟨hfo,hrl,hsl,hal',hfl⟩:=hm;dsimp only at hfo hrl hsl hal' hfl;have aem:fs.length≤300:=by have:=hfr.len;omega
 have aaT:r.length≤600:=by
  have:r.length=st.length:=by rw[←hnd];simp
  omega
 have hAI:A.length≤300∧I.length≤300:=by
  unfold fB at hrl;simp only[List.length_append] at hrl;omega
 obtain⟨b,hb,hb2⟩:=wF s a;have HB:=hid hb;have hal2:(a:Int)<(s.size:Int):=by omega
 have hby:=gQ s a hal;rw[hb] at hby;have HBY:=hid hby;have HND:=hid hnd;have HFR:=hid hfr;have HJ:Hid (∀ B J f',f=(B,J)::f'→J.length≤300):=hid (by
  rintro B J f' rfl;unfold fB at hrl;simp only[List.length_append,List.flatMap_cons] at hrl;omega)
 clear hb hby hnd hfr hfo hrl hsl hal' hfl;go_enter Tryz.func90,Tryz.ntmps90
 go_wp2_with fail
 obtain⟨c0,c1,c2,c3,c4⟩:=Bx.fiv h.rd;have d0:=AX.aF c0 h.rd.lt;have d1:=AX.aF c1 h.rd.lt;refine AX.aO (by kernel_rfl) (by kernel_rfl) ?_
 repeat (go_big_quiet_step (fail))
 refine wpQuiet_nil ?_;rintro W1 ⟨p,rfl⟩;obtain⟨W1,hb1⟩:=p;change Below _ _ _ at hb1;have h1:=h.below hb1;simp only[←HBY.out];clear c0 c1 c2 c3 c4 d0 d1 h;have d1:=h1.at;have f1:=h1.rd.frozen 1
 by_cases ac9:b=124
 ·subst ac9
  have hst:stepG mkI s ⟨st,a,0,A,I,f⟩=⟨(dA mkI st 3 I).1,a+1,0,A++[(dA mkI st 3 I).2],[],f⟩:=by
   unfold stepG;dsimp only;rw[HB.out];rfl
  have HST:=hid hst;clear hst;have ha:=VB av iv A I h1 (by omega) (by omega) (by omega);rw[HND.out] at ha;go_wp2_with (go_at_call 117;(with_reducible refine ha.mono ?_);rintro y W2 ⟨rfl,rv2,r2,av2,h2,hr2⟩;have d2:=h2.at;have f2:=h2.rd.frozen 1)
  exact bodyPost_end (v := .tuple #[]) (by simp[results,Tryz.results90,go_sem]) rfl ⟨rfl,by rw[HST.out];exact⟨Sb,r2,rv2,av2, .slice none 0 0,fs,rs,c,⟨(h2.next.empty).perm (List.Perm.swap _ _ _),hr2,HFR.out⟩⟩⟩
 have n124:¬(b:Int)=124:=by omega
 by_cases h40:b=40
 ·subst h40
  have hst:stepG mkI s ⟨st,a,0,A,I,f⟩=⟨st,a+1,0,[],[],(A,I)::f⟩:=by
   unfold stepG;dsimp only;rw[HB.out];rfl
  have HST:=hid hst;clear hst;have h2:=h1.below ((Below.refl W1.heap.size W1).alloc Nat.le.refl (.cells #[.slice none 0 0, .slice none 0 0] 165));have hB2:=Bx.new W1 165 #[.slice none 0 0, .slice none 0 0];have d3:W1.cell? ⟨Rb,3,none⟩=some (.slice (some ⟨Sb,0,none⟩) (fs.length+1) c):=h1.rd.cell 3;have hsv:∃ sv,sv=Value.slice (some ⟨Sb,0,none⟩) (fs.length+1) c:=⟨_,rfl⟩;obtain⟨sv,hsv⟩:=hsv;rw[←hsv] at h1 h2 d3;clear hsv;go_wp2_with (first
   | (at_builtin;(refine Rj _ w.heap.size sv (fs++[(av,iv)]) rfl _ _ rfl rfl h2.so W1.heap.size 1 rfl hB2 (by rw[List.length_append,List.length_singleton];omega) h2.low.size ?_);intro v' W8 hr8 hg8;have ada:Rdr W8 Rb s a rv sv 0:=(aZ h2.so hg8 Rb _ 168 h2.rd (by decide)).trans h2.rd;have hone:v'.oneCell'=true:=(by rcases hr8.2 with ⟨e,_⟩ | ⟨g,cap,cur,e,_⟩<;>rw[e]<;>rfl))
   | ((with_reducible refine bH ?_);refine AX.aB (o:=3) (v:=v') rfl rfl hone VD ada (show 3<5 by decide) ?_;rintro W9 g3 g4 g5;have h9:=h2.push hr8 hg8 g3 g4 g5;have d9:=h9.at;have f9:=h9.rd.frozen 1))
  obtain⟨Sb2,c2,cs2,hv2,_,_,_,_⟩:=hr8.block (by simp);have hl2:(fs++[(av,iv)]++[(Value.slice none 0 0,Value.slice none 0 0)]).length=(fs++[(av,iv)]).length+1:=by simp
  rw[hl2] at hv2;subst hv2;exact bodyPost_end (v := .tuple #[]) (by simp[results,Tryz.results90,go_sem]) rfl ⟨rfl,by rw[HST.out];exact⟨Sb2,r,rv, .slice none 0 0, .slice none 0 0,fs++[(av,iv)],_,c2,⟨h9.next.empty.empty,HND.out,HFR.out.snoc av iv A I⟩⟩⟩
 have n40:¬(b:Int)=40:=by omega
 by_cases h41:b=41
 ·subst h41
  cases f with
  | nil =>
   have hst:stepG mkI s ⟨st,a,0,A,I,[]⟩=⟨st,a,7,A,I,[]⟩:=by
    unfold stepG;dsimp only;rw[HB.out];rfl
   have HST:=hid hst;clear hst;have h0:=HFR.out.len;have adb:fs = []:=List.eq_nil_of_length_eq_zero h0;subst adb;have d3:W1.cell? ⟨Rb,3,none⟩=some (.slice (some ⟨Sb,0,none⟩) (0+1) c):=h1.rd.cell 3;rw[Nat.zero_add] at d3;go_wp2_with (go_at_call 91;(with_reducible refine(lD Rb s _ rv _ 0 _ _ _ h1.rd).mono ?_);rintro y W2 ⟨rfl,hR2,hb2⟩;have h2:=h1.box hb2 hR2)
   exact bodyPost_ret (v := .tuple #[]) (by simp[results,Tryz.results90,go_sem]) rfl ⟨rfl,by rw[HST.out];exact⟨Sb,r,rv,av,iv,[],rs,c,⟨h2,HND.out,HFR.out⟩⟩⟩
  | cons y f =>
   obtain⟨B,J⟩:=y;have hst:stepG mkI s ⟨st,a,0,A,I,(B,J)::f⟩=⟨(fP mkI st A I).1,a+1,0,B,J++[(fP mkI st A I).2],f⟩:=by
    unfold stepG;dsimp only;rw[HB.out];rfl
   have HST:=hid hst;clear hst;obtain⟨fs',rs',av',iv',rfl,rfl,aaZ⟩:∃ fs' rs' av' iv',fs=fs'++[(av',iv')]∧rs=(av',B)::(iv',J)::rs'∧JL fs' rs' f:=by
    cases HFR.out with
    | snoc av' iv' _ _ h=>exact⟨_,_,_,_,rfl,rfl,h⟩
   have ade:=hid aaZ;have hp:=VA av iv A I h1 (by omega) (by omega) (by omega);have hl1:(fs'++[(av',iv')]).length=fs'.length+1:=(by simp);rw[HND.out] at hp;rw[hl1] at hp;have hJ:J.length≤9000:=(by have:=HJ.out B J f rfl;omega);have d3:W1.cell? ⟨Rb,3,none⟩=some (.slice (some ⟨Sb,0,none⟩) (fs'.length+1+1) c):=(by rw[←hl1];exact h1.rd.cell 3);have hn1:¬((fs'.length:Int)+1+1=1):=(by omega);clear aaZ;go_wp2_with (first
    | (go_at_call 92;(with_reducible refine hp.mono ?_);rintro y W2 ⟨rfl,rv2,r2,h2,hr2⟩;have hi:=Rf av' iv' J (fP mkI st A I).2 (h2.perm (List.Perm.swap _ _ _)) hJ (by omega))
    | (go_at_call 118;(with_reducible refine hi.mono ?_);rintro y W3 ⟨rfl,iv3,h3⟩;have d4:=h3.at;have f4:=h3.rd.frozen 1))
   exact bodyPost_end (v := .tuple #[]) (by simp[results,Tryz.results90,go_sem]) rfl ⟨rfl,by rw[HST.out];exact⟨Sb,r2,rv2,av',iv3,fs',rs',c,⟨h3.next.perm (List.Perm.swap _ _ _),hr2,ade.out⟩⟩⟩
 have n41:¬(b:Int)=41:=by omega
 by_cases h93:b=93
 ·subst h93
  have hst:stepG mkI s ⟨st,a,0,A,I,f⟩=⟨st,a,7,A,I,f⟩:=by
   unfold stepG;dsimp only;rw[HB.out];rfl
  have HST:=hid hst;clear hst;go_wp2_with (go_at_call 91;(with_reducible refine(lD Rb s _ rv _ 0 _ _ _ h1.rd).mono ?_);rintro y W2 ⟨rfl,hR2,hb2⟩;have h2:=h1.box hb2 hR2)
  exact bodyPost_ret (v := .tuple #[]) (by simp[results,Tryz.results90,go_sem]) rfl ⟨rfl,by rw[HST.out];exact⟨Sb,r,rv,av,iv,fs,rs,c,⟨h2,HND.out,HFR.out⟩⟩⟩
 have n93:¬(b:Int)=93:=by omega
 by_cases h42:b=42
 ·subst h42
  have hst:stepG mkI s ⟨st,a,0,A,I,f⟩=fA mkI ⟨st,a,0,A,I,f⟩ 5:=by
   unfold stepG;dsimp only;rw[HB.out];rfl
  unfold fA at hst;dsimp only at hst;rcases List.eq_nil_or_concat I with rfl | ⟨D,x,hDx⟩
  ·have HST:=hid hst
   clear hst;have ha:=Ak a 5 av iv (h1.perm (List.Perm.swap _ _ _)) (by omega);go_wp2_with (go_at_call 119;(with_reducible refine ha.mono ?_);rintro y W2 ⟨rfl,h2⟩)
   exact bodyPost_ret (v := .tuple #[]) (by simp[results,Tryz.results90,go_sem]) rfl ⟨rfl,by rw[HST.out];exact⟨Sb,r,rv,av,iv,fs,rs,c,⟨h2.perm (List.Perm.swap _ _ _),HND.out,HFR.out⟩⟩⟩
  ·rw[List.concat_eq_append] at hDx
   subst hDx;have hlast:(D++[x]).getLast?=some x:=(by simp);have hdl:(D++[x]).dropLast=D:=(by simp);have oV:(r.length:Int)=((r.map (·.x)).length:Int):=(by simp);rw[hlast] at hst;dsimp only at hst;rw[hdl] at hst;have HST:=hid hst;have HRL:=hid oV;have hDl:D.length≤9000:=(by have:=hAI.2;simp at this;omega);have ha:=Am a (by omega) 5 av iv D x (h1.perm (List.Perm.swap _ _ _)) (by omega) hDl (by omega);clear hst hlast hdl oV;go_wp2_with (go_at_call 119;(with_reducible refine ha.mono ?_);rintro y W2 ⟨rfl,rv2,r2,h2,hr2⟩)
   exact bodyPost_ret (v := .tuple #[]) (by simp[results,Tryz.results90,go_sem]) rfl ⟨rfl,by
    rw[HST.out];refine⟨Sb,r2,rv2,av,iv,fs,rs,c,⟨?_,by rw[hr2,HND.out],HFR.out⟩⟩;have h3:=h2.perm (List.Perm.swap _ _ _);rw[HRL.out,HND.out] at h3;exact h3⟩
 have n42:¬(b:Int)=42:=by omega
 by_cases h43:b=43
 ·subst h43
  have hst:stepG mkI s ⟨st,a,0,A,I,f⟩=fA mkI ⟨st,a,0,A,I,f⟩ 6:=by
   unfold stepG;dsimp only;rw[HB.out];rfl
  unfold fA at hst;dsimp only at hst;rcases List.eq_nil_or_concat I with rfl | ⟨D,x,hDx⟩
  ·have HST:=hid hst
   clear hst;have ha:=Ak a 6 av iv (h1.perm (List.Perm.swap _ _ _)) (by omega);go_wp2_with (go_at_call 119;(with_reducible refine ha.mono ?_);rintro y W2 ⟨rfl,h2⟩)
   exact bodyPost_ret (v := .tuple #[]) (by simp[results,Tryz.results90,go_sem]) rfl ⟨rfl,by rw[HST.out];exact⟨Sb,r,rv,av,iv,fs,rs,c,⟨h2.perm (List.Perm.swap _ _ _),HND.out,HFR.out⟩⟩⟩
  ·rw[List.concat_eq_append] at hDx
   subst hDx;have hlast:(D++[x]).getLast?=some x:=(by simp);have hdl:(D++[x]).dropLast=D:=(by simp);have oV:(r.length:Int)=((r.map (·.x)).length:Int):=(by simp);rw[hlast] at hst;dsimp only at hst;rw[hdl] at hst;have HST:=hid hst;have HRL:=hid oV;have hDl:D.length≤9000:=(by have:=hAI.2;simp at this;omega);have ha:=Am a (by omega) 6 av iv D x (h1.perm (List.Perm.swap _ _ _)) (by omega) hDl (by omega);clear hst hlast hdl oV;go_wp2_with (go_at_call 119;(with_reducible refine ha.mono ?_);rintro y W2 ⟨rfl,rv2,r2,h2,hr2⟩)
   exact bodyPost_ret (v := .tuple #[]) (by simp[results,Tryz.results90,go_sem]) rfl ⟨rfl,by
    rw[HST.out];refine⟨Sb,r2,rv2,av,iv,fs,rs,c,⟨?_,by rw[hr2,HND.out],HFR.out⟩⟩;have h3:=h2.perm (List.Perm.swap _ _ _);rw[HRL.out,HND.out] at h3;exact h3⟩
 have n43:¬(b:Int)=43:=by omega
 by_cases h63:b=63
 ·subst h63
  have hst:stepG mkI s ⟨st,a,0,A,I,f⟩=fA mkI ⟨st,a,0,A,I,f⟩ 7:=by
   unfold stepG;dsimp only;rw[HB.out];rfl
  unfold fA at hst;dsimp only at hst;rcases List.eq_nil_or_concat I with rfl | ⟨D,x,hDx⟩
  ·have HST:=hid hst
   clear hst;have ha:=Ak a 7 av iv (h1.perm (List.Perm.swap _ _ _)) (by omega);go_wp2_with (go_at_call 119;(with_reducible refine ha.mono ?_);rintro y W2 ⟨rfl,h2⟩)
   exact bodyPost_ret (v := .tuple #[]) (by simp[results,Tryz.results90,go_sem]) rfl ⟨rfl,by rw[HST.out];exact⟨Sb,r,rv,av,iv,fs,rs,c,⟨h2.perm (List.Perm.swap _ _ _),HND.out,HFR.out⟩⟩⟩
  ·rw[List.concat_eq_append] at hDx
   subst hDx;have hlast:(D++[x]).getLast?=some x:=(by simp);have hdl:(D++[x]).dropLast=D:=(by simp);have oV:(r.length:Int)=((r.map (·.x)).length:Int):=(by simp);rw[hlast] at hst;dsimp only at hst;rw[hdl] at hst;have HST:=hid hst;have HRL:=hid oV;have hDl:D.length≤9000:=(by have:=hAI.2;simp at this;omega);have ha:=Am a (by omega) 7 av iv D x (h1.perm (List.Perm.swap _ _ _)) (by omega) hDl (by omega);clear hst hlast hdl oV;go_wp2_with (go_at_call 119;(with_reducible refine ha.mono ?_);rintro y W2 ⟨rfl,rv2,r2,h2,hr2⟩)
   exact bodyPost_ret (v := .tuple #[]) (by simp[results,Tryz.results90,go_sem]) rfl ⟨rfl,by
    rw[HST.out];refine⟨Sb,r2,rv2,av,iv,fs,rs,c,⟨?_,by rw[hr2,HND.out],HFR.out⟩⟩;have h3:=h2.perm (List.Perm.swap _ _ _);rw[HRL.out,HND.out] at h3;exact h3⟩
 have n63:¬(b:Int)=63:=by omega
 obtain⟨z,hz⟩:∃ z,z=gq s (a+1) (b:Int):=⟨_,rfl⟩;have hst:stepG mkI s ⟨st,a,0,A,I,f⟩=⟨(mkI st ⟨2,z.1⟩ []).1,z.2.1,z.2.2,A,I++[(mkI st ⟨2,z.1⟩ []).2],f⟩:=by
  unfold stepG;dsimp only;rw[HB.out,if_neg n124,if_neg n40,if_neg n41,if_neg n93,if_neg n42,if_neg n43,if_neg n63,hz]
 have HST:=hid hst;have oV:(r.length:Int)=((r.map (·.x)).length:Int):=by simp
 have HRL:=hid oV;have h2:=h1.next (a:=a)
 have ht:=UN Rb s (a+1) b hb2 rv (.slice (some ⟨Sb,0,none⟩) (fs.length+1) c) _ h2.rd (by omega) (by omega);rw[←hz] at ht;clear hst hz oV;go_wp2_with (first
  | (go_at_call 121;(with_reducible refine ht.mono ?_);rintro y W3 ⟨rfl,hR3,hb3⟩;have h3:=h2.box hb3 hR3;have hp:=KU 2 z.1 (.slice none 0 0) [] h3 (.inl ⟨rfl,rfl⟩) (fun p _ g _=>(by simp[Value.ownBlock])) (fun g hg=>(by simp[Value.ownBlock] at hg)) (by omega))
  | (go_at_call 120;(with_reducible refine hp.mono ?_);rintro y W4 ⟨rfl,rv4,h4⟩;have hi:=Rf av iv I (r.length:Int) (h4.perm (List.Perm.swap _ _ _)) (by omega) (by omega))
  | (go_at_call 118;(with_reducible refine hi.mono ?_);rintro y W5 ⟨rfl,iv5,h5⟩))
 exact bodyPost_ret (v := .tuple #[]) (by simp[results,Tryz.results90,go_sem]) rfl ⟨rfl,by
  rw[HST.out];refine⟨Sb,r++[⟨JJ 2 z.1 [], .slice none 0 0⟩],rv4,av,iv5,fs,rs,c,⟨?_,by rw[List.map_append,HND.out];rfl,HFR.out⟩⟩;have h6:=h5.perm (List.Perm.swap _ _ _);rw[HRL.out,HND.out] at h6;exact h6⟩
theorem DL{σ α : Type}(mk : σ→H5→List α→σ×α)(s:ByteArray)(x:Ms σ α)(_he:x.e=0)(hal:x.a<s.size)(h:(stepG mk s x).e=0):x.a<(stepG mk s x).a:=by
 have hag:∀ k,(fA mk x k).e=0→x.a<(fA mk x k).a:=fun k h=>by
  unfold fA at h ⊢
  cases e:x.I.getLast? with
  | none=>rw[e] at h;simp at h
  | some y=>exact Nat.lt_succ_self _
 unfold stepG at h ⊢;split
 ·exact Nat.lt_succ_self _
 rw[if_neg (by assumption)] at h;split
 ·exact Nat.lt_succ_self _
 rw[if_neg (by assumption)] at h;split
 ·rw[if_pos (by assumption)] at h
  cases e:x.f with
  | nil=>rw[e] at h;simp at h
  | cons y f=>exact Nat.lt_succ_self _
 rw[if_neg (by assumption)] at h;split
 ·rw[if_pos (by assumption)] at h;cases h
 rw[if_neg (by assumption)] at h;split
 ·rw[if_pos (by assumption)] at h;exact hag 5 h
 rw[if_neg (by assumption)] at h;split
 ·rw[if_pos (by assumption)] at h;exact hag 6 h
 rw[if_neg (by assumption)] at h;split
 ·rw[if_pos (by assumption)] at h;exact hag 7 h
 rw[if_neg (by assumption)] at h;obtain⟨_,_,t3⟩:=pG s (x.a+1) (bC s x.a) hal;exact t3 h
def Reads(s:ByteArray)(x:Ms (List Nd) Int):Prop:=Reach mkI s (nP []) x∧dG s.size x.a x.e=false∧(x.e=0→A8 s x)
def jY(s:ByteArray)(x:Ms (List Nd) Int):Int×Int:=if x.f = [] then ((x.a:Int),x.e) else gK ((x.a:Int),x.e) s.size 8
def QY(b:Nat)(w':World)(s:ByteArray)(e:Ending):Prop:=∃ x v,Reads s x∧e = .returned (.tuple #[v, .int .i64 (if (jY s x).2=0 then (s.size:Int) else (jY s x).1), .int .i64 (jY s x).2]) ∧
 ((jY s x).2=0→vC b w' v (fP mkI x.st x.A x.I).1)∧((jY s x).2≠0→v = .slice none 0 0)
theorem X8(w:World)(s:ByteArray)(W:World)(Rb Sb:Nat)(hlow:Below w.heap.size w W)(hSb:w.heap.size≤Sb)(hRb:w.heap.size≤Rb)(hS:Bx W Sb 165 #[.slice none 0 0, .slice none 0 0])
  (hR:Rdr W Rb s 0 (.slice none 0 0) (.slice (some ⟨Sb,0,none⟩) 1 1) 0):Nz w W Rb s (nP []):=by
 have hn:∀ u,Apart (.slice none 0 0) u:=fun u g hg=>by simp[Value.ownBlock] at hg
 refine⟨Sb,[], .slice none 0 0, .slice none 0 0, .slice none 0 0,[],[],1,⟨⟨hlow,hRb,hR,World.ownsRow_nil _ _ _ _,⟨rfl, .inr ⟨Sb,1,_,rfl,hSb,hS,Nat.le_refl _,by decide,rfl,rfl⟩⟩,fun p hp=>?_,?_,fun y hy=>by simp at hy,fun y hy=>by simp at hy,fun y hy=>by simp at hy⟩,rfl, .nil⟩⟩
 ·simp only[List.mem_cons,List.not_mem_nil,or_false] at hp
  rcases hp with rfl | rfl<;>exact World.ownsRow_nil _ _ _ _
 ·exact List.pairwise_cons.2 ⟨fun q _=>hn _,List.pairwise_cons.2 ⟨fun q hq=>by simp at hq,List.Pairwise.nil⟩⟩
theorem WL(s:ByteArray)(hs:s.size≤256)(w:World):Calls Tryz.prog 53 #[.string s] w fun e w'=>QY w.heap.size w' s e∧Below w.heap.size w w':=by
 have hs2:¬(256:Int)<(s.size:Int):=by omega
 obtain⟨W0,hW0⟩:∃ W0,W0=w.alloc (.cells #[.slice none 0 0, .slice none 0 0] 165):=⟨_,rfl⟩;obtain⟨Sb,hSb⟩:∃ Sb,Sb=w.heap.size:=⟨_,rfl⟩;have hB0:Bx W0 Sb 165 #[.slice none 0 0, .slice none 0 0]:=by rw[hW0,hSb];exact Bx.new _ _ _
 have hb0:Below w.heap.size w W0:=by rw[hW0];exact (Below.refl _ _).alloc Nat.le.refl _
 have hRd:Rdr (W0.alloc (.cells #[.string s, .int .i64 0, .slice none 0 0, .slice (some ⟨Sb,0,none⟩) 1 1, .int .i64 0] 168)) W0.heap.size s 0 (.slice none 0 0) (.slice (some ⟨Sb,0,none⟩) 1 1) 0:=Bx.new W0 168 _;have hb1:=(Below.refl W0.heap.size W0).alloc Nat.le.refl (.cells #[.string s, .int .i64 0, .slice none 0 0, .slice (some ⟨Sb,0,none⟩) 1 1, .int .i64 0] 168);have hin:=X8 w s _ W0.heap.size Sb (hb0.trans (hb1.mono hb0.size)) (by omega) hb0.size (hB0.below hb1 hB0.lt) hRd;rw[show W0.heap.size=Sb+1 by rw[hW0,hSb];simp] at hin;have HW0:=hid hW0;have HSb:=hid hSb;clear hW0 hSb hRd hB0 hb1 hb0;go_enter Tryz.func53,Tryz.ntmps53
 go_wp2_with fail
 rw[←HSb.out,←HW0.out];obtain⟨Rb,hRb⟩:∃ Rb,Rb=Sb+1:=⟨_,rfl⟩;rw[←hRb] at hin ⊢;clear hRb;generalize (W0.alloc (.cells #[.string s, .int .i64 0, .slice none 0 0, .slice (some ⟨Sb,0,none⟩) 1 1, .int .i64 0] 168))=W1 at *;go_loopw [14] (fun _ wr=>∃ x:Ms (List Nd) Int,Nz w wr Rb s x∧Reach mkI s (nP []) x∧(x.e=0→A8 s x))
  (fun _ wr=>if numOf wr Rb 4=0 then s.size-(numOf wr Rb 1).toNat+1 else 0)
 case atStart=>exact⟨nP [],hin, .refl _,fun _=>QM s⟩
 case round =>
  clear hin;obtain⟨x,hx,hre,hok⟩:=hrel;have HRE:=hid hre;have HOK:=hid hok;clear hre hok;have hx0:=hx;obtain⟨Sb2,r,rv,av,iv,fs,rs,c,h,hnd,hfr⟩:=hx;have hmk:=Aj Rb s x.a rv (.slice (some ⟨Sb2,0,none⟩) (fs.length+1) c) x.e
  by_cases hm:dG s.size x.a x.e=true
  ·obtain⟨he,hal⟩:=cZ.1 hm
   rw[hm] at hmk;have hst:=fun W2 (h2:Nz w W2 Rb s x)=>X9 w W2 Rb s x h2 (HOK.out he) hs he hal;have HM:=hid hm;obtain⟨o1,o4⟩:=uH h.rd;have HE:=hid he;have HAL:=hid hal;clear hm he hal;go_wp2_with (first
    | (go_at_call 89;(with_reducible refine(hmk _ h.rd).mono ?_);rintro y W2 ⟨rfl,hb2⟩;have hx2:Nz w W2 Rb s x:=⟨Sb2,r,rv,av,iv,fs,rs,c,⟨h.below hb2,hnd,hfr⟩⟩)
    | (go_at_call 90;(with_reducible refine(hst _ hx2).mono ?_);rintro y W3 ⟨rfl,hx3⟩))
   have ac6:(stepG mkI s x).e=0→A8 s (stepG mkI s x):=step_ok (HOK.out HE.out) hs HAL.out HE.out;have ac7:=Reach.more HRE.out HM.out;refine⟨⟨stepG mkI s x,hx3,ac7,ac6⟩,?_⟩;obtain⟨Sb3,r3,rv3,av3,iv3,fs3,rs3,c3,h3,_,_⟩:=hx3;obtain⟨q1,q4⟩:=uH h3.rd;rw[q1,q4,o1,o4,HE.out,if_pos rfl,Int.toNat_natCast,Int.toNat_natCast];have hlt:=HAL.out
   by_cases h0:(stepG mkI s x).e=0
   ·rw[if_pos h0];have:=DL mkI s x HE.out hlt h0;omega
   ·rw[if_neg h0];omega
  ·have hmf:dG s.size x.a x.e=false:=Bool.eq_false_iff.2 hm
   rw[hmf] at hmk;have HRS:Hid (Reads s x):=hid ⟨HRE.out,hmf,HOK.out⟩;clear hm hmf;have hlen:=hfr.len
   by_cases hf:x.f = []
   ·have hO:jY s x=((x.a:Int),x.e):=if_pos hf
    have hfs:fs = []:=List.eq_nil_of_length_eq_zero (by rw[hlen,hf];rfl);subst hfs
    by_cases he:x.e=0
    ·obtain⟨hfo,hrl,hsl,hal',hfl⟩:=HOK.out he
     have aaT:r.length≤9000:=by
      have:r.length=x.st.length:=(by rw[←hnd];simp);omega
     have hAl:x.A.length≤9000:=by
      unfold fB at hrl;simp only[List.length_append] at hrl;omega
     rw[he] at hO;have HO:=hid hO;have HE:=hid he;have HF:=hid hf;have HND:=hid hnd;rw[he] at h hmk;clear hfo hrl hsl hal' hfl hO he hf hnd hlen hfr;go_wp2_with (first
      | (go_at_call 89;(with_reducible refine(hmk _ h.rd).mono ?_);rintro y W2 ⟨rfl,hb2⟩;have h2:=h.below hb2;obtain⟨c0,c1,c2,c3,c4⟩:=Bx.fiv h2.rd;have hp:=VA av iv x.A x.I h2 aaT hAl (by simp))
      | (go_at_call 92;(with_reducible refine hp.mono ?_);rintro y W3 ⟨rfl,rv3,r3,h3,hr3⟩;obtain⟨x0,x1,x2,x3,x4⟩:=Bx.fiv h3.rd))
     have hRR:=h3.far;rw[hr3,HND.out] at hRR;exact bodyPost_ret (v := .tuple #[rv3, .int .i64 s.size, .int .i64 0]) (by simp[results,Tryz.results53,go_sem]) rfl ⟨⟨x,rv3,HRS.out,by rw[HO.out];rfl,fun _=>hRR,fun hne=>absurd (by rw[HO.out]) hne⟩,h3.low⟩
    ·have HO:=hid hO
     have HE:=hid he;clear hO hf hnd hlen hfr;go_upto_region 9 with (first
      | (go_at_call 89;(with_reducible refine(hmk _ h.rd).mono ?_);rintro y W2 ⟨rfl,hb2⟩;have h2:=h.below hb2;obtain⟨c0,c1,c2,c3,c4⟩:=Bx.fiv h2.rd))
     obtain⟨e0,e1,e2,e3,e4⟩:=Bx.fiv h2.rd;have f1:=AX.aF e1 h2.rd.lt;have f4:=AX.aF e4 h2.rd.lt;refine AX.aO (by kernel_rfl) (by kernel_rfl) ?_
     repeat (go_big_quiet_step (fail))
     refine wpQuiet_nil ?_;rintro W4 ⟨p,rfl⟩;obtain⟨W4,hb4⟩:=p;change Below _ _ _ at hb4;have h4:=h2.below hb4;go_wp2_with fail
     exact bodyPost_ret (v := .tuple #[.slice none 0 0, .int .i64 x.a, .int .i64 x.e]) (by simp[results,Tryz.results53,go_sem]) rfl ⟨⟨x, .slice none 0 0,HRS.out,by rw[HO.out];simp only[if_neg HE.out],fun h0=>absurd (by rw[HO.out] at h0;exact h0) HE.out,fun _=>rfl⟩,h4.low⟩
   ·have hO:jY s x=gK ((x.a:Int),x.e) s.size 8:=if_neg hf
    have hfs:1≤fs.length:=by
     rw[hlen]
     cases hx:x.f with
     | nil=>exact absurd hx hf
     | cons _ _=>simp
    have ael:(1:Int)<(fs.length:Int)+1:=(by omega);have hfv:=lD Rb s x.a rv (.slice (some ⟨Sb2,0,none⟩) (fs.length+1) c) x.e s.size 8;obtain⟨a2,ha2⟩:∃ a2,a2=(gK ((x.a:Int),x.e) s.size 8).1:=⟨_,rfl⟩;obtain⟨e2',he2⟩:∃ e2',e2'=(gK ((x.a:Int),x.e) s.size 8).2:=⟨_,rfl⟩;have hne:e2'≠0:=by
     rw[he2];unfold gK
     by_cases h0:x.e=0
     ·simp[h0]
     ·simp[h0]
    rw[←ha2,←he2] at hfv;have HO:Hid (jY s x=(a2,e2')):=hid (by rw[hO,ha2,he2]);have HE:=hid hne;clear hO hf hnd hlen hfr ha2 he2 hne;go_upto_region 9 with (first
     | (go_at_call 89;(with_reducible refine(hmk _ h.rd).mono ?_);rintro y W2 ⟨rfl,hb2⟩;have h2:=h.below hb2;obtain⟨c0,c1,c2,c3,c4⟩:=Bx.fiv h2.rd)
     | (go_at_call 91;(with_reducible refine(hfv _ h2.rd).mono ?_);rintro y W3 ⟨rfl,hR3,hb3⟩;have h3:=h2.box hb3 hR3;obtain⟨x0,x1,x2,x3,x4⟩:=Bx.fiv h3.rd;have hne2:=HE.out))
    obtain⟨e0,e1,e2,e3,e4⟩:=Bx.fiv h3.rd;have f1:=AX.aF e1 h3.rd.lt;have f4:=AX.aF e4 h3.rd.lt;refine AX.aO (by kernel_rfl) (by kernel_rfl) ?_
    repeat (go_big_quiet_step (fail))
    refine wpQuiet_nil ?_;rintro W4 ⟨p,rfl⟩;obtain⟨W4,hb4⟩:=p;change Below _ _ _ at hb4;have h4:=h3.below hb4;go_wp2_with fail
    exact bodyPost_ret (v := .tuple #[.slice none 0 0, .int .i64 a2, .int .i64 e2']) (by simp[results,Tryz.results53,go_sem]) rfl ⟨⟨x, .slice none 0 0,HRS.out,by rw[HO.out];simp only[if_neg HE.out],fun h0=>absurd (by rw[HO.out] at h0;exact h0) HE.out,fun _=>rfl⟩,h4.low⟩
end
section
open Go
def Fin2(s:ByteArray)(A I:List (List Cd)):Prop:=Reach mkC s (nP ()) ⟨(),s.size,0,A,I,[]⟩
def aaG(A I:List (List Cd)):List Cd:=(fP mkC () A I).2
theorem FT{s:ByteArray}(hs:s.size≤256){x:Ms (List Nd) Int}(h:Reach mkI s (nP []) x):(x.e=0→A8 s x)∧Reach mkC s (nP ()) (rG x):=by
 induction h with
 | refl=>exact⟨fun _=>QM s, .refl _⟩
 | @more y _ hm ih =>
  obtain⟨h1,h2⟩:=cZ.1 hm;have hok:=ih.1 h1;refine⟨fun he=>step_ok hok hs h2 h1 he,?_⟩;rw[QK s y hok.fo.inR];exact .more ih.2 hm
def rowOf(x:Ms (List Nd) Int):List Nd:=(fP mkI x.st x.A x.I).1
structure aaH(s:ByteArray)(r:List Nd)(A I:List (List Cd)):Prop where
 fin:Fin2 s A I
 ok:eP r
 code:codeOf r=aaG A I
 len:r.length≤2*s.size+2
theorem Dp{out:List Nd}{k:Int}(h:fM out [k])(h1:1≤out.length):k=(out.length:Int)-1:=by
 have hk:=h.roots k (List.mem_cons_self ..)
 by_cases e:k=(out.length:Int)-1
 ·exact e
 ·have h2:=h.one (out.length-1) (by omega)
  have h3:(bg out).count ((out.length-1:Nat):Int)=0:=List.count_eq_zero_of_not_mem (fun hm=>by
   have:=nG (n:=0) (fun i x hx=>by simpa using h.nd i x hx) _ hm;omega)
  have h4 : [k].count ((out.length-1:Nat):Int)=0:=List.count_eq_zero_of_not_mem (fun hm=>e (by
   have:=List.mem_singleton.1 hm;omega))
  omega
theorem Ny{out:List Nd}{k:Int}(h:fM out [k])(hm:out.length≤512):eP out:=by
 have hk:=h.roots k (List.mem_cons_self ..);have hl:=Dp h (by omega);refine⟨by omega,hm,h.nd,fun j hj=>?_⟩;have h2:=h.one j (by omega);have h4 : [k].count (j:Int)=0:=List.count_eq_zero_of_not_mem (fun hm=>by
  have:=List.mem_singleton.1 hm;omega)
 omega
theorem BM{s:ByteArray}(hs:s.size≤254){x:Ms (List Nd) Int}(h:Reads s x)(he:(jY s x).2=0):aaH s (rowOf x) (x.A.map (dB x.st)) (x.I.map (dB x.st)):=by
 obtain⟨hr,hm,hok⟩:=h;have hf:x.f = []:=Classical.byContradiction fun hf=>by
  unfold jY gK at he;rw[if_neg hf] at he;dsimp only at he
  by_cases h0:x.e=0
  ·rw[if_pos h0] at he;cases he
  ·rw[if_neg h0] at he;exact h0 he
 have he0:x.e=0:=by
  unfold jY at he;rw[if_pos hf] at he;exact he
 have hk:=hok he0;have ha:x.a=s.size:=by
  have h1:=hk.al;have h2:¬x.a<s.size:=fun h2=>by
   rw[cZ.2 ⟨he0,h2⟩] at hm
   cases hm
  omega
 have hfo:=hk.fo;have hrl:=hk.rl;have hsl:=hk.sl;unfold fB at hfo hrl;rw[hf] at hfo hrl;simp only[List.flatMap_nil,List.append_nil,List.length_append] at hfo hrl;obtain⟨h1,h2⟩:=(hfo.perm (R':=x.A++x.I++[]) (by rw[List.append_nil])).Vy (by omega) (by omega);have hrow:eP (rowOf x):=Ny h1 (by show(fP mkI x.st x.A x.I).1.length≤512;omega);have habs:rG x=⟨(),s.size,0,x.A.map (dB x.st),x.I.map (dB x.st),[]⟩:=by
  unfold rG;rw[ha,he0,hf];rfl
 refine⟨?_,hrow,?_,by show(fP mkI x.st x.A x.I).1.length≤_;omega⟩
 ·have:=(FT (by omega) hr).2
  rw[habs] at this;exact this
 ·unfold codeOf aaG
  have hrl2:((rowOf x).length:Int)-1=(fP mkI x.st x.A x.I).2:=(Dp h1 hrow.one).symm;rw[hrl2];exact Di _ _ _ (uz hfo.inR) (Dh hfo.inR)
end
end Go.Proofs.YtkjgogdkdejljaaGreatDoor.Rx
