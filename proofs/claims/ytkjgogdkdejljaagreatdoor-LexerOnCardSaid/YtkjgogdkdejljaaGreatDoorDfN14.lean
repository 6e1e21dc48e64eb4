import Derived.Test.YtkjgogdkdejljaaGreatDoorDfV3
set_option maxRecDepth 100000
set_option maxHeartbeats 40000000
namespace Go.Proofs.YtkjgogdkdejljaaGreatDoor.Df
section
def tH(n:Nat)(nx:List (List Int))(has:Nat→Nat→Bool)(S:List Int)(b:Nat):List Int :=
 ((List.range n).filter fun t:Nat=>S.any (fun k=>(nx.getD k.toNat []).contains (t:Int)) && has t b).map fun t:Nat=>(t:Int)
def jD(ru:List Int)(out k:Int):Int:=if 0≤k∧k<(ru.length:Int) then (if 0≤ru.getD k.toNat (-1)∧(out<0∨ru.getD k.toNat (-1)<out) then ru.getD k.toNat (-1) else out) else out
def nJ(ru:List Int)(S:List Int):Int:=S.foldl (jD ru) (-1)
def iG(ru:List Int)(T:Sets):List Int:=T.map (nJ ru)
theorem IV(ru:List Int)(hr:∀ r∈ru,-1≤r∧r<16)(S:List Int) : -1≤nJ ru S∧nJ ru S<16:=by
 have:∀(S:List Int)(o:Int),-1≤o∧o<16 → -1≤S.foldl (jD ru) o∧S.foldl (jD ru) o<16:=by
  intro S
  induction S with
  | nil=>intro o h;exact h
  | cons k S ih =>
   intro o h;refine ih _ ?_;unfold jD;split
   ·rename_i hk
    split
    ·have hm:ru.getD k.toNat (-1)∈ru:=by
      rw[List.getD_eq_getElem?_getD,List.getElem?_eq_getElem (by omega)];exact List.getElem_mem _
     exact hr _ hm
    ·exact h
   ·exact h
 exact this S (-1) (by omega)
def kW(ks:List Int)(t:Int):List Int:=if t∈ks then ks else ks++[t]
def qU(has:Int→Bool)(ks l:List Int):List Int:=l.foldl (fun ks t=>if has t then kW ks t else ks) ks
def oM(nx:List (List Int))(has:Int→Bool)(S ks:List Int):List Int:=S.foldl (fun ks q=>qU has ks (nx.getD q.toNat [])) ks
theorem Qm{ks:List Int}{t x:Int} : x∈kW ks t↔x∈ks∨x=t:=by
 unfold kW;split
 ·rename_i h
  exact⟨.inl,fun h2=>h2.elim id fun e=>e ▸ h⟩
 ·simp
theorem Jm{ks:List Int}{t:Int}(h:ks.Nodup):(kW ks t).Nodup:=by
 unfold kW;split
 ·exact h
 ·rename_i hn
  refine List.nodup_append.2 ⟨h,by simp,?_⟩;intro a ha b hb;rw[List.mem_singleton.1 hb];intro e;exact hn (e ▸ ha)
theorem GH{has:Int→Bool} : ∀ {l ks:List Int} {x:Int},x∈qU has ks l↔x∈ks∨(x∈l∧has x=true)
 | [],ks,x=>by simp[qU]
 | t::l,ks,x=>by
  show x∈qU has (if has t then kW ks t else ks) l↔_
  rw[GH]
  by_cases ht:has t=true
  ·rw[if_pos ht,Qm,List.mem_cons]
   constructor
   ·rintro ((h | rfl) | ⟨h1,h2⟩)
    ·exact .inl h
    ·exact .inr ⟨.inl rfl,ht⟩
    ·exact .inr ⟨.inr h1,h2⟩
   ·rintro (h | ⟨rfl | h1,h2⟩)
    ·exact .inl (.inl h)
    ·exact .inl (.inr rfl)
    ·exact .inr ⟨h1,h2⟩
  ·rw[if_neg ht,List.mem_cons]
   constructor
   ·rintro (h | ⟨h1,h2⟩)
    ·exact .inl h
    ·exact .inr ⟨.inr h1,h2⟩
   ·rintro (h | ⟨rfl | h1,h2⟩)
    ·exact .inl h
    ·exact absurd h2 ht
    ·exact .inr ⟨h1,h2⟩
theorem zM{has:Int→Bool} : ∀ {l ks:List Int},ks.Nodup→(qU has ks l).Nodup
 | [],ks,h=>h
 | t::l,ks,h=>by
  show(qU has (if has t then kW ks t else ks) l).Nodup
  refine zM ?_;split
  ·exact Jm h
  ·exact h
theorem CQ{nx:List (List Int)}{has:Int→Bool} : ∀ {S ks:List Int} {x:Int},x∈oM nx has S ks↔x∈ks∨((∃ q∈S,x∈nx.getD q.toNat [])∧has x=true)
 | [],ks,x=>by simp[oM]
 | q::S,ks,x=>by
  show x∈oM nx has S (qU has ks (nx.getD q.toNat []))↔_
  rw[CQ,GH]
  constructor
  ·rintro ((h | ⟨h1,h2⟩) | ⟨⟨p,hp,h1⟩,h2⟩)
   ·exact .inl h
   ·exact .inr ⟨⟨q,List.mem_cons_self ..,h1⟩,h2⟩
   ·exact .inr ⟨⟨p,List.mem_cons_of_mem _ hp,h1⟩,h2⟩
  ·rintro (h | ⟨⟨p,hp,h1⟩,h2⟩)
   ·exact .inl (.inl h)
   ·rcases List.mem_cons.1 hp with rfl | hp
    ·exact .inl (.inr ⟨h1,h2⟩)
    ·exact .inr ⟨⟨p,hp,h1⟩,h2⟩
theorem wL{nx:List (List Int)}{has:Int→Bool} : ∀ {S ks:List Int},ks.Nodup→(oM nx has S ks).Nodup
 | [],ks,h=>h
 | q::S,ks,h=>wL (S:=S) (zM h)
theorem CS{n:Nat}{nx:List (List Int)}{h:Nat→Nat→Bool}{S:List Int}{b:Nat}{x:Int} : x∈tH n nx h S b↔∃ m:Nat,x=(m:Int)∧m<n∧(∃ q∈S,(m:Int)∈nx.getD q.toNat [])∧h m b=true:=by
 unfold tH;simp only[List.mem_map,List.mem_filter,List.mem_range,Bool.and_eq_true,List.any_eq_true,List.contains_iff_mem]
 constructor
 ·rintro⟨m,⟨h1,h2,h3⟩,rfl⟩
  exact⟨m,rfl,h1,h2,h3⟩
 ·rintro⟨m,rfl,h1,h2,h3⟩
  exact⟨m,⟨h1,h2,h3⟩,rfl⟩
theorem tJ(n:Nat)(nx:List (List Int))(h:Nat→Nat→Bool)(S:List Int)(b:Nat):(tH n nx h S b).Pairwise (· < ·):=by
 unfold tH;refine List.pairwise_map.2 ((List.Pairwise.filter _ List.pairwise_lt_range).imp fun h=>?_);exact Int.ofNat_lt.2 h
theorem vM(n:Nat)(nx:List (List Int))(h:Nat→Nat→Bool)(S:List Int)(b:Nat):(tH n nx h S b).length≤n:=by
 unfold tH;rw[List.length_map];exact Nat.le_trans (List.length_filter_le _ _) (by simp)
theorem zD{n:Nat}{nx:List (List Int)}{h:Nat→Nat→Bool}{S:List Int}{b:Nat}{x:Int}(hx:x∈tH n nx h S b):0≤x∧x<n:=by
 obtain⟨m,rfl,h1,_⟩:=CS.1 hx;omega
theorem Jc{n:Nat}{nx:List (List Int)}{h:Nat→Nat→Bool}{S:List Int}{b:Nat}(hin:∀ l∈nx,∀ x∈l,0≤x∧x<(n:Int)):(oM nx (fun t=>h t.toNat b) S []).Perm (tH n nx h S b):=by
 refine (List.perm_ext_iff_of_nodup (wL .nil) ((tJ n nx h S b).imp fun h e=>by omega)).2 fun x=>?_;rw[CQ,CS];simp only[List.not_mem_nil,false_or]
 constructor
 ·rintro⟨⟨q,hq,h1⟩,h2⟩
  have hb:0≤x∧x<(n:Int):=by
   rw[List.getD_eq_getElem?_getD] at h1
   cases hg:nx[q.toNat]? with
   | none=>rw[hg] at h1;simp at h1
   | some l=>rw[hg] at h1;exact hin l (List.mem_of_getElem? hg) x h1
  have e:((x.toNat:Nat):Int)=x:=by omega
  exact⟨x.toNat,e.symm,by omega,⟨q,hq,by rw[e];exact h1⟩,h2⟩
 ·rintro⟨m,rfl,h1,⟨q,hq,h2⟩,h3⟩
  exact⟨⟨q,hq,h2⟩,by rw[Int.toNat_natCast];exact h3⟩
theorem TY{l ss:List Int}(h:ss.Perm l)(hl:l.Pairwise (· < ·)):ss.mergeSort (fun x y=>decide (x≤y))=l:=by
 have tr:∀ a b c:Int,decide (a≤b)=true→decide (b≤c)=true→decide (a≤c)=true:=fun a b c h1 h2=>by simp only[decide_eq_true_eq] at *;omega
 have tzo:∀ a b:Int,(decide (a≤b) || decide (b≤a))=true:=fun a b=>by simp only[Bool.or_eq_true,decide_eq_true_eq];omega
 refine List.Perm.eq_of_pairwise (le:=fun a b:Int=>decide (a≤b)=true) (fun a b _ _ h1 h2=>?_) (List.pairwise_mergeSort tr tzo ss) (hl.imp fun h=>by simp only[decide_eq_true_eq];omega) ((List.mergeSort_perm ss _).trans h);simp only[decide_eq_true_eq] at h1 h2;omega
end
section
open Go.Lib (hid)
open Go Go.Proofs Go.RowKit Go.Shelf
attribute [local go_sem] Oper.semAt_some
def TabAt(w:World):Prop:=∀ j,j<64→w.cell? ⟨0,j,none⟩=some (.int .u8 (Lib.deBruijn64tab.getD j 0:Nat))
theorem TabAt.below{n:Nat}{w w':World}(h:TabAt w)(hb:Below n w w')(hn:0<n):TabAt w':=fun j hj=>(hb.cell (p:=⟨0,j,none⟩) hn).trans (h j hj)
theorem tz64_core(F:Fence)(n:Nat)(hF:F.fn 111)(hro:F.round=none)(x k idx:Nat)(w:World)(hx0:((x:Int) == 0)=false)
  (key:IntKind.u64.wrap (bits BinOp.and IntKind.u64 (x:Int) (IntKind.u64.wrap (-(x:Int)))*285870213051353865) / 288230376151711744=(idx:Int))
  (hi:idx<64) (hk:k<64) (hcell:w.cell? ⟨0,idx,none⟩=some (.int .u8 k)) :
  CallsIn F n Tryz.prog 111 #[.int .u64 x] w fun e w'=>e = .returned (.int .i64 k)∧w'=w:=by
 refine callsIn_of_wp Tryz.func111 rfl hF ?_ hro;simp only[Tryz.ntmps111,List.size_toArray,List.length_cons,List.length_nil,Nat.reduceAdd,Nat.reduceSub,Array.replicate_succ,Array.replicate_zero,List.push_toArray,List.append_toArray,List.nil_append,List.cons_append];gi_wp2_with (simp only[key])
 go_ret
 exact⟨rfl,rfl⟩
theorem tz64_key(x a:Nat)(hx:x<18446744073709551616)(hx0:x≠0)(hlow:x &&& (18446744073709551616-x)=a) :
  IntKind.u64.wrap (bits BinOp.and IntKind.u64 (x:Int) (IntKind.u64.wrap (-(x:Int)))*285870213051353865) / 288230376151711744=((a*285870213051353865 % 18446744073709551616 / 288230376151711744:Nat):Int):=by
 have e1:IntKind.u64.wrap (-(x:Int))=((18446744073709551616-x:Nat):Int):=by rw[IntKind.wrap_u64];omega
 rw[e1,bits_and_u64_nat x _ hx (by omega),hlow,IntKind.wrap_u64];omega
theorem xJ(F:Fence)(n:Nat)(hF:F.fn 111)(hro:F.round=none)(x:Nat)(hx:x<18446744073709551616)(hx0:x≠0)(w:World)(hT:TabAt w) :
  CallsIn F n Tryz.prog 111 #[.int .u64 x] w fun e w'=>e = .returned (.int .i64 (Lib.ctz 64 x:Nat))∧w'=w:=by
 obtain⟨hlow,hk⟩:=Lib.lowest_bit 64 x hx0 hx;obtain⟨hi,htab⟩:=Lib.deBruijn64_at _ hk;have hcell:=hT _ hi;rw[htab] at hcell;exact tz64_core F n hF hro x _ _ w (by simp;omega) (tz64_key x _ hx hx0 hlow) hi hk hcell
def kH(b a0 a1 a2 a3:Nat)(W:World):Prop :=
 W.cell? ⟨b,0,none⟩=some (.int .u64 (a0:Nat))∧W.cell? ⟨b,1,none⟩=some (.int .u64 (a1:Nat))∧W.cell? ⟨b,2,none⟩=some (.int .u64 (a2:Nat))∧W.cell? ⟨b,3,none⟩=some (.int .u64 (a3:Nat))
theorem acP(x0 x1 x2 x3:Value)(w:World):(Instr.index 116 (.agg #[x0,x1,x2,x3]) (.int .i64 0)).run Tryz.prog w = .ok x0 w:=by kernel_rfl
theorem acQ(x0 x1 x2 x3:Value)(w:World):(Instr.index 116 (.agg #[x0,x1,x2,x3]) (.int .i64 1)).run Tryz.prog w = .ok x1 w:=by kernel_rfl
theorem acR(x0 x1 x2 x3:Value)(w:World):(Instr.index 116 (.agg #[x0,x1,x2,x3]) (.int .i64 2)).run Tryz.prog w = .ok x2 w:=by kernel_rfl
theorem acS(x0 x1 x2 x3:Value)(w:World):(Instr.index 116 (.agg #[x0,x1,x2,x3]) (.int .i64 3)).run Tryz.prog w = .ok x3 w:=by kernel_rfl
def oP(v:Value):Nat:=(intOf v).toNat
theorem lW(F:Fence)(n:Nat)(h42:F.fn 110)(h43:F.fn 111)(hro:F.round=none)(hn:1≤n)(l b n₀ a0 a1 a2 a3:Nat)(hw:wlt a0 a1 a2 a3)(hb:0<n₀)(J Jx:List Nat→World→Prop)
  (hY:∀ pre (x:Nat) W,J pre W→pre.length<256→x<256→YieldAt F (n-1) Tryz.prog l #[.int .u8 (x:Nat)] W fun e W' =>
   (e = .returned (.bool true)∧J (pre++[x]) W'∧Below n₀ W W')∨(e = .returned (.bool false)∧Jx (pre++[x]) W'))
  (W:World) (hT:TabAt W) (hC:kH b a0 a1 a2 a3 W) (h0:J [] W) :
  CallsIn F n Tryz.prog 110 #[.func (.yield l) #[] #[], .pointer (some ⟨b,0,none⟩)] W fun e W'=>(∃ v,e = .returned v) ∧
   ((∃ ys,ys=gX a0 a1 a2 a3∧J ys W')∨(∃ pre,(∃ k,k≤256∧pre=upB a0 a1 a2 a3 k)∧Jx pre W')):=by
 obtain⟨c0,c1,c2,c3⟩:=hC;refine callsIn_of_wp Tryz.func110 rfl h42 ?_ hro;simp only[Tryz.ntmps110,List.size_toArray,List.length_cons,List.length_nil,Nat.reduceAdd,Nat.reduceSub,Array.replicate_succ,Array.replicate_zero,List.push_toArray,List.append_toArray,List.nil_append,List.cons_append];gi_wp2
 gi_loopw [6] (fun i wr=>∃(k:Nat)(z:Int),z=k∧k≤4∧i = .int .i64 z∧J (upB a0 a1 a2 a3 (64*k)) wr∧Below n₀ W wr)
  (fun i _=>4-(intOf i).toNat)
 case atStart=>exact⟨0,0,rfl,Nat.zero_le _,rfl,h0,Below.refl _ _⟩
 case round =>
  obtain⟨k,z,hz,hk,rfl,hJs,hnx⟩:=hrel
  by_cases hlt:k<4
  ·obtain rfl | rfl | rfl | rfl:k=0∨k=1∨k=2∨k=3:=by omega
   ·have hi:=acP
    obtain rfl:z=0:=by omega
    clear hz;gi_wp2
    gi_loopw [4] (fun v wr=>∃ x t:Nat,t≤64∧x<18446744073709551616∧v = .int .u64 (x:Nat)∧(∀ j,x.testBit j=(decide (t≤j) && (wd a0 a1 a2 a3 0).testBit j))∧J (upB a0 a1 a2 a3 (64*0+t)) wr∧Below n₀ W wr)
     (fun v _=>oP v)
    case atStart=>exact⟨a0,0,by omega,hw 0,rfl,by simp[wd],hJs,hnx⟩
    case round =>
     clear hi hJs hnx;obtain⟨x,t,ht,hx,rfl,gJ,hJx,hnx⟩:=hrel
     by_cases hx0:x=0
     ·subst hx0
      have hu:=xE a0 a1 a2 a3 0 t ht gJ;clear gJ;gi_wp2
      exact⟨⟨0+1,_,rfl,by omega,rfl,by rw[hu];exact hJx,hnx⟩,by simp[intOf]⟩
     ·obtain⟨XO,hb1,hb2⟩:=oI x hx0 hx
      obtain⟨hle,hup⟩:=xC a0 a1 a2 a3 0 t x hx0 hx gJ;obtain⟨hdl,hdb⟩:=sS x hx0 hx;have hTr:=hT.below hnx (by omega);obtain⟨fn,tmps,assign,body,hy,hR⟩:=hY _ (64*0+Lib.ctz 64 x) wr hJx (by have:=xB a0 a1 a2 a3 (64*0+t);omega) (by omega);have HU:=hid hup;have HDB:=hid hdb;have HB:=hid gJ;clear hup hdb gJ hb1 hb2;have hxne:((x:Int) == 0)=false:=(by simp;omega);have Qk:((x:Int) != 0)=true:=(by simp;omega);generalize hc:Lib.ctz 64 x=c at *;have HC:=hid hc;clear hc;have e1:((64*0+c:Nat):Int)=(c:Int):=(by omega);rw[e1] at hy;clear e1;gi_wp2_with (gi_at_call 111;refine(xJ F (n-1) h43 hro x hx hx0 _ hTr).mono ?_;rintro e w' ⟨rfl,rfl⟩;rw[HC.out])
      refine hR.mono ?_;rintro e W3 (⟨rfl,hJ3,hk3⟩ | ⟨rfl,hJx3⟩)
      ·have hsub:IntKind.u64.wrap ((x:Int)-1)=((x-1:Nat):Int):=by rw[IntKind.wrap_u64];omega
       have hand:=bits_and_u64_nat x (x-1) hx (by omega);gi_wp2
       go_roundw
       case rel=>exact⟨x &&& (x-1),c+1,by omega,by omega,rfl,left_step HB.out HDB.out hle,by rw[HU.out];exact hJ3,hnx.trans hk3⟩
       case measure=>simp only[oP,intOf];simpa using hdl
      ·gi_wp2
       refine bodyPost_ret (results_none rfl _ _ _) rfl ?_;exact⟨⟨_,rfl⟩, .inr ⟨_,⟨64*0+(c+1),by omega,HU.out.symm⟩,hJx3⟩⟩
   ·have hi:=acQ
    obtain rfl:z=1:=by omega
    clear hz;gi_wp2
    gi_loopw [4] (fun v wr=>∃ x t:Nat,t≤64∧x<18446744073709551616∧v = .int .u64 (x:Nat)∧(∀ j,x.testBit j=(decide (t≤j) && (wd a0 a1 a2 a3 1).testBit j))∧J (upB a0 a1 a2 a3 (64*1+t)) wr∧Below n₀ W wr)
     (fun v _=>oP v)
    case atStart=>exact⟨a1,0,by omega,hw 1,rfl,by simp[wd],hJs,hnx⟩
    case round =>
     clear hi hJs hnx;obtain⟨x,t,ht,hx,rfl,gJ,hJx,hnx⟩:=hrel
     by_cases hx0:x=0
     ·subst hx0
      have hu:=xE a0 a1 a2 a3 1 t ht gJ;clear gJ;gi_wp2
      exact⟨⟨1+1,_,rfl,by omega,rfl,by rw[hu];exact hJx,hnx⟩,by simp[intOf]⟩
     ·obtain⟨XO,hb1,hb2⟩:=oI x hx0 hx
      obtain⟨hle,hup⟩:=xC a0 a1 a2 a3 1 t x hx0 hx gJ;obtain⟨hdl,hdb⟩:=sS x hx0 hx;have hTr:=hT.below hnx (by omega);obtain⟨fn,tmps,assign,body,hy,hR⟩:=hY _ (64*1+Lib.ctz 64 x) wr hJx (by have:=xB a0 a1 a2 a3 (64*1+t);omega) (by omega);have HU:=hid hup;have HDB:=hid hdb;have HB:=hid gJ;clear hup hdb gJ hb1 hb2;have hxne:((x:Int) == 0)=false:=(by simp;omega);have Qk:((x:Int) != 0)=true:=(by simp;omega);generalize hc:Lib.ctz 64 x=c at *;have HC:=hid hc;clear hc;have e1:((64*1+c:Nat):Int)=64+(c:Int):=(by omega);rw[e1] at hy;clear e1;gi_wp2_with (gi_at_call 111;refine(xJ F (n-1) h43 hro x hx hx0 _ hTr).mono ?_;rintro e w' ⟨rfl,rfl⟩;rw[HC.out])
      refine hR.mono ?_;rintro e W3 (⟨rfl,hJ3,hk3⟩ | ⟨rfl,hJx3⟩)
      ·have hsub:IntKind.u64.wrap ((x:Int)-1)=((x-1:Nat):Int):=by rw[IntKind.wrap_u64];omega
       have hand:=bits_and_u64_nat x (x-1) hx (by omega);gi_wp2
       go_roundw
       case rel=>exact⟨x &&& (x-1),c+1,by omega,by omega,rfl,left_step HB.out HDB.out hle,by rw[HU.out];exact hJ3,hnx.trans hk3⟩
       case measure=>simp only[oP,intOf];simpa using hdl
      ·gi_wp2
       refine bodyPost_ret (results_none rfl _ _ _) rfl ?_;exact⟨⟨_,rfl⟩, .inr ⟨_,⟨64*1+(c+1),by omega,HU.out.symm⟩,hJx3⟩⟩
   ·have hi:=acR
    obtain rfl:z=2:=by omega
    clear hz;gi_wp2
    gi_loopw [4] (fun v wr=>∃ x t:Nat,t≤64∧x<18446744073709551616∧v = .int .u64 (x:Nat)∧(∀ j,x.testBit j=(decide (t≤j) && (wd a0 a1 a2 a3 2).testBit j))∧J (upB a0 a1 a2 a3 (64*2+t)) wr∧Below n₀ W wr)
     (fun v _=>oP v)
    case atStart=>exact⟨a2,0,by omega,hw 2,rfl,by simp[wd],hJs,hnx⟩
    case round =>
     clear hi hJs hnx;obtain⟨x,t,ht,hx,rfl,gJ,hJx,hnx⟩:=hrel
     by_cases hx0:x=0
     ·subst hx0
      have hu:=xE a0 a1 a2 a3 2 t ht gJ;clear gJ;gi_wp2
      exact⟨⟨2+1,_,rfl,by omega,rfl,by rw[hu];exact hJx,hnx⟩,by simp[intOf]⟩
     ·obtain⟨XO,hb1,hb2⟩:=oI x hx0 hx
      obtain⟨hle,hup⟩:=xC a0 a1 a2 a3 2 t x hx0 hx gJ;obtain⟨hdl,hdb⟩:=sS x hx0 hx;have hTr:=hT.below hnx (by omega);obtain⟨fn,tmps,assign,body,hy,hR⟩:=hY _ (64*2+Lib.ctz 64 x) wr hJx (by have:=xB a0 a1 a2 a3 (64*2+t);omega) (by omega);have HU:=hid hup;have HDB:=hid hdb;have HB:=hid gJ;clear hup hdb gJ hb1 hb2;have hxne:((x:Int) == 0)=false:=(by simp;omega);have Qk:((x:Int) != 0)=true:=(by simp;omega);generalize hc:Lib.ctz 64 x=c at *;have HC:=hid hc;clear hc;have e1:((64*2+c:Nat):Int)=128+(c:Int):=(by omega);rw[e1] at hy;clear e1;gi_wp2_with (gi_at_call 111;refine(xJ F (n-1) h43 hro x hx hx0 _ hTr).mono ?_;rintro e w' ⟨rfl,rfl⟩;rw[HC.out])
      refine hR.mono ?_;rintro e W3 (⟨rfl,hJ3,hk3⟩ | ⟨rfl,hJx3⟩)
      ·have hsub:IntKind.u64.wrap ((x:Int)-1)=((x-1:Nat):Int):=by rw[IntKind.wrap_u64];omega
       have hand:=bits_and_u64_nat x (x-1) hx (by omega);gi_wp2
       go_roundw
       case rel=>exact⟨x &&& (x-1),c+1,by omega,by omega,rfl,left_step HB.out HDB.out hle,by rw[HU.out];exact hJ3,hnx.trans hk3⟩
       case measure=>simp only[oP,intOf];simpa using hdl
      ·gi_wp2
       refine bodyPost_ret (results_none rfl _ _ _) rfl ?_;exact⟨⟨_,rfl⟩, .inr ⟨_,⟨64*2+(c+1),by omega,HU.out.symm⟩,hJx3⟩⟩
   ·have hi:=acS
    obtain rfl:z=3:=by omega
    clear hz;gi_wp2
    gi_loopw [4] (fun v wr=>∃ x t:Nat,t≤64∧x<18446744073709551616∧v = .int .u64 (x:Nat)∧(∀ j,x.testBit j=(decide (t≤j) && (wd a0 a1 a2 a3 3).testBit j))∧J (upB a0 a1 a2 a3 (64*3+t)) wr∧Below n₀ W wr)
     (fun v _=>oP v)
    case atStart=>exact⟨a3,0,by omega,hw 3,rfl,by simp[wd],hJs,hnx⟩
    case round =>
     clear hi hJs hnx;obtain⟨x,t,ht,hx,rfl,gJ,hJx,hnx⟩:=hrel
     by_cases hx0:x=0
     ·subst hx0
      have hu:=xE a0 a1 a2 a3 3 t ht gJ;clear gJ;gi_wp2
      exact⟨⟨3+1,_,rfl,by omega,rfl,by rw[hu];exact hJx,hnx⟩,by simp[intOf]⟩
     ·obtain⟨XO,hb1,hb2⟩:=oI x hx0 hx
      obtain⟨hle,hup⟩:=xC a0 a1 a2 a3 3 t x hx0 hx gJ;obtain⟨hdl,hdb⟩:=sS x hx0 hx;have hTr:=hT.below hnx (by omega);obtain⟨fn,tmps,assign,body,hy,hR⟩:=hY _ (64*3+Lib.ctz 64 x) wr hJx (by have:=xB a0 a1 a2 a3 (64*3+t);omega) (by omega);have HU:=hid hup;have HDB:=hid hdb;have HB:=hid gJ;clear hup hdb gJ hb1 hb2;have hxne:((x:Int) == 0)=false:=(by simp;omega);have Qk:((x:Int) != 0)=true:=(by simp;omega);generalize hc:Lib.ctz 64 x=c at *;have HC:=hid hc;clear hc;have e1:((64*3+c:Nat):Int)=192+(c:Int):=(by omega);rw[e1] at hy;clear e1;gi_wp2_with (gi_at_call 111;refine(xJ F (n-1) h43 hro x hx hx0 _ hTr).mono ?_;rintro e w' ⟨rfl,rfl⟩;rw[HC.out])
      refine hR.mono ?_;rintro e W3 (⟨rfl,hJ3,hk3⟩ | ⟨rfl,hJx3⟩)
      ·have hsub:IntKind.u64.wrap ((x:Int)-1)=((x-1:Nat):Int):=by rw[IntKind.wrap_u64];omega
       have hand:=bits_and_u64_nat x (x-1) hx (by omega);gi_wp2
       go_roundw
       case rel=>exact⟨x &&& (x-1),c+1,by omega,by omega,rfl,left_step HB.out HDB.out hle,by rw[HU.out];exact hJ3,hnx.trans hk3⟩
       case measure=>simp only[oP,intOf];simpa using hdl
      ·gi_wp2
       refine bodyPost_ret (results_none rfl _ _ _) rfl ?_;exact⟨⟨_,rfl⟩, .inr ⟨_,⟨64*3+(c+1),by omega,HU.out.symm⟩,hJx3⟩⟩
  ·obtain rfl:k=4:=by omega
   obtain rfl:z=4:=by omega
   clear hz;gi_wp2
   go_end0
   exact⟨⟨_,rfl⟩, .inl ⟨_,rfl,hJs⟩⟩
end
section
open Go Go.Proofs Go.RowKit Go.Shelf
attribute [local go_sem] Oper.semAt_some
theorem wrap_two_pow(r:Nat)(hr:r<64):IntKind.u64.wrap ((2:Int) ^ r)=((2 ^ r:Nat):Int):=by
 have h:2 ^ r<2 ^ 64:=Nat.pow_lt_pow_right (by decide) hr;have h:2 ^ r<18446744073709551616:=by simpa using h
 have e:((2:Int) ^ r)=((2 ^ r:Nat):Int):=by simp
 rw[e];generalize 2 ^ r=m at *;rw[IntKind.wrap_u64];omega
theorem mO(a r:Nat):a &&& 2 ^ r=if a.testBit r then 2 ^ r else 0:=by
 apply Nat.eq_of_testBit_eq;intro j;rw[Nat.testBit_and,Nat.testBit_two_pow]
 by_cases h:r=j
 ·subst h
  cases a.testBit r<;>simp
 ·cases a.testBit r<;>simp[h,Nat.testBit_two_pow]
theorem or_bit(a r:Nat)(ha:a<18446744073709551616)(hr:r<64):bits .or .u64 (a:Int) (IntKind.u64.wrap ((2:Int) ^ r))=((a ||| 2 ^ r:Nat):Int):=by
 have h:2 ^ r<2 ^ 64:=Nat.pow_lt_pow_right (by decide) hr;rw[wrap_two_pow r hr,bits_or_u64_nat a _ ha (by simpa using h)]
theorem jL(a r:Nat)(ha:a<18446744073709551616)(hr:r<64):(bits .and .u64 (a:Int) (IntKind.u64.wrap ((2:Int) ^ r)) != 0)=a.testBit r:=by
 have h:2 ^ r<2 ^ 64:=Nat.pow_lt_pow_right (by decide) hr;rw[wrap_two_pow r hr,bits_and_u64_nat a _ ha (by simpa using h),mO];have hp:0<2 ^ r:=Nat.two_pow_pos r;generalize 2 ^ r=m at hp
 cases hb:a.testBit r with
 | true=>simp;omega
 | false=>simp
def dU(B:Nat)(l:List Nat)(W:World):Prop:=kH B (cw l 0) (cw l 1) (cw l 2) (cw l 3) W∧∀ j,W.frozen? ⟨B,j,none⟩=false
theorem jr(W:World)(B i q:Nat)(v:Value)(h:i≠q):(W.setCell ⟨B,q,none⟩ v).cell? ⟨B,i,none⟩=W.cell? ⟨B,i,none⟩:=by
 exact World.cell?_setCell_other _ _ _ _ (by simp)
def stored(B a0 a1 a2 a3:Nat)(W:World):World:=(((W.setCell ⟨B,0,none⟩ (.int .u64 a0)).setCell ⟨B,1,none⟩ (.int .u64 a1)).setCell ⟨B,2,none⟩ (.int .u64 a2)).setCell ⟨B,3,none⟩ (.int .u64 a3)
theorem pK{B a0 a1 a2 a3:Nat}{W:World}(h0:(W.cell? ⟨B,0,none⟩).isSome=true)(h1:(W.cell? ⟨B,1,none⟩).isSome=true)(h2:(W.cell? ⟨B,2,none⟩).isSome=true)(h3:(W.cell? ⟨B,3,none⟩).isSome=true) :
  kH B a0 a1 a2 a3 (stored B a0 a1 a2 a3 W):=by
 have n1:∀(W:World)(v:Value)(i q:Nat),i≠q→(W.setCell ⟨B,q,none⟩ v).cell? ⟨B,i,none⟩=W.cell? ⟨B,i,none⟩:=fun W v i q h=>jr W B i q v h;refine⟨?_,?_,?_,?_⟩<;>unfold stored
 ·rw[n1 _ _ _ _ (by decide),n1 _ _ _ _ (by decide),n1 _ _ _ _ (by decide)]
  exact World.cell?_setCell_same' _ _ _ h0
 ·rw[n1 _ _ _ _ (by decide),n1 _ _ _ _ (by decide)]
  exact World.cell?_setCell_same' _ _ _ (by rw[n1 _ _ _ _ (by decide)];exact h1)
 ·rw[n1 _ _ _ _ (by decide)]
  exact World.cell?_setCell_same' _ _ _ (by rw[n1 _ _ _ _ (by decide),n1 _ _ _ _ (by decide)];exact h2)
 ·exact World.cell?_setCell_same' _ _ _ (by rw[n1 _ _ _ _ (by decide),n1 _ _ _ _ (by decide),n1 _ _ _ _ (by decide)];exact h3)
theorem jM{n B a0 a1 a2 a3:Nat}{w W:World}(h:Below n w W)(hn:n≤B):Below n w (stored B a0 a1 a2 a3 W) :=
 (((h.setCell (p:=⟨B,0,none⟩) hn _).setCell (p:=⟨B,1,none⟩) hn _).setCell (p:=⟨B,2,none⟩) hn _).setCell (p:=⟨B,3,none⟩) hn _
theorem dU.put{B:Nat}{l:List Nat}{W:World}(h:dU B l W){y q r:Nat}(hq:y / 64=q)(hr:r=y % 64)(h4:q<4) :
  dU B (l++[y]) (W.setCell ⟨B,q,none⟩ (.int .u64 (cw l q ||| 2 ^ r:Nat))):=by
 obtain⟨⟨c0,c1,c2,c3⟩,hf⟩:=h;have hs:∀ i,cw (l++[y]) i=if q=i then cw l i ||| 2 ^ r else cw l i:=fun i=>by rw[D6,hq,hr]
 refine⟨?_,fun j=>by rw[World.frozen?_setCell];exact hf j⟩;obtain rfl | rfl | rfl | rfl:q=0∨q=1∨q=2∨q=3:=by omega
 all_goals
  refine⟨?_,?_,?_,?_⟩<;>rw[hs]
  all_goals first
   | (rw[if_pos rfl];exact World.cell?_setCell_same' _ _ _ (by simp[c0,c1,c2,c3]))
   | (rw[if_neg (by decide),jr _ _ _ _ _ (by decide)];assumption)
theorem dU.drew{B:Nat}{l:List Nat}{W:World}(h:dU B l W):dU B l W.drew:=⟨⟨h.1.1,h.1.2.1,h.1.2.2.1,h.1.2.2.2⟩,h.2⟩
theorem oL(low high:Nat)(hl:low<256)(hh:high<256)(w:World) :
  Calls Tryz.prog 102 #[.int .u8 low, .int .u8 high] w fun e w'=>e = .returned (.agg #[.int .u64 (cw (rng low high) 0:Nat), .int .u64 (cw (rng low high) 1:Nat), .int .u64 (cw (rng low high) 2:Nat), .int .u64 (cw (rng low high) 3:Nat)])∧Below w.heap.size w w':=by
 have hB0:Below w.heap.size w (w.alloc (.cells #[.int .u64 0, .int .u64 0, .int .u64 0, .int .u64 0] 116)):=(Below.refl _ w).alloc Nat.le.refl _;have hcls:dU w.heap.size [] (w.alloc (.cells #[.int .u64 0, .int .u64 0, .int .u64 0, .int .u64 0] 116)):=⟨⟨by simp[lq],by simp[lq],by simp[lq],by simp[lq]⟩,fun j=>by simp⟩;go_enter Tryz.func102,Tryz.ntmps102
 go_wp2
 go_loopw [5] (fun i wr=>∃ k:Nat,low≤k∧k≤256∧(k≤high+1∨k=low)∧i = .int .i64 k∧dU w.heap.size (List.range' low (k-low)) wr∧Below w.heap.size w wr)
  (fun i _=>256-(intOf i).toNat)
 case atStart=>exact⟨low,Nat.le_refl _,by omega, .inr rfl,rfl,by rw[Nat.sub_self];exact hcls,hB0⟩
 case round =>
  obtain⟨k,hk,hk2,hk3,rfl,hcl,hB⟩:=hrel
  by_cases hlt:k≤high
  ·have e:List.range' low (k+1-low)=List.range' low (k-low)++[k]:=by
    rw[show k+1-low=(k-low)+1 by omega,List.range'_concat]
    congr 2
    omega
   have HE:=Lib.hid e;clear e;generalize List.range' low (k-low)=l at *;obtain⟨⟨c0,c1,c2,c3⟩,hf⟩:=hcl;have l0:=gW l 0;have l1:=gW l 1;have l2:=gW l 2;have l3:=gW l 3;obtain⟨r,hr⟩:∃ r:Nat,r=k % 64:=⟨_,rfl⟩;have jO:r<64:=(by omega);have hrm:(k:Int) % 64=(r:Nat):=(by omega);have HR:=Lib.hid hr;clear hr;obtain hq | hq | hq | hq:k / 64=0∨k / 64=1∨k / 64=2∨k / 64=3:=by omega
   ·have hqi:(k:Int) / 64=0:=by omega
    have HN:=dU.put (B:=w.heap.size) (W:=wr) ⟨⟨c0,c1,c2,c3⟩,hf⟩ hq HR.out (by decide);have HQ:=Lib.hid HN;clear hq HN;have ho:=or_bit _ r l0 jO;go_wp2
    go_region
    go_wp2
    go_roundw
    case rel=>exact⟨k+1,by omega,by omega,by omega,by simp,by rw[HE.out];exact HQ.out.drew,(hB.setCell (p:=⟨w.heap.size,0,none⟩) Nat.le.refl _).drew⟩
    case measure=>simp[intOf];omega
   ·have hqi:(k:Int) / 64=1:=by omega
    have HN:=dU.put (B:=w.heap.size) (W:=wr) ⟨⟨c0,c1,c2,c3⟩,hf⟩ hq HR.out (by decide);have HQ:=Lib.hid HN;clear hq HN;have ho:=or_bit _ r l1 jO;go_wp2
    go_region
    go_wp2
    go_roundw
    case rel=>exact⟨k+1,by omega,by omega,by omega,by simp,by rw[HE.out];exact HQ.out.drew,(hB.setCell (p:=⟨w.heap.size,1,none⟩) Nat.le.refl _).drew⟩
    case measure=>simp[intOf];omega
   ·have hqi:(k:Int) / 64=2:=by omega
    have HN:=dU.put (B:=w.heap.size) (W:=wr) ⟨⟨c0,c1,c2,c3⟩,hf⟩ hq HR.out (by decide);have HQ:=Lib.hid HN;clear hq HN;have ho:=or_bit _ r l2 jO;go_wp2
    go_region
    go_wp2
    go_roundw
    case rel=>exact⟨k+1,by omega,by omega,by omega,by simp,by rw[HE.out];exact HQ.out.drew,(hB.setCell (p:=⟨w.heap.size,2,none⟩) Nat.le.refl _).drew⟩
    case measure=>simp[intOf];omega
   ·have hqi:(k:Int) / 64=3:=by omega
    have HN:=dU.put (B:=w.heap.size) (W:=wr) ⟨⟨c0,c1,c2,c3⟩,hf⟩ hq HR.out (by decide);have HQ:=Lib.hid HN;clear hq HN;have ho:=or_bit _ r l3 jO;go_wp2
    go_region
    go_wp2
    go_roundw
    case rel=>exact⟨k+1,by omega,by omega,by omega,by simp,by rw[HE.out];exact HQ.out.drew,(hB.setCell (p:=⟨w.heap.size,3,none⟩) Nat.le.refl _).drew⟩
    case measure=>simp[intOf];omega
  ·have e:List.range' low (k-low)=rng low high:=by unfold rng;congr 1;omega
   rw[e] at hcl;clear e;obtain⟨⟨c0,c1,c2,c3⟩,hf⟩:=hcl;go_wp2
   have hF:=pK (B:=w.heap.size) (a0:=cw (rng low high) 0) (a1:=cw (rng low high) 1) (a2:=cw (rng low high) 2) (a3:=cw (rng low high) 3) (W:=wr) (by rw[c0];rfl) (by rw[c1];rfl) (by rw[c2];rfl) (by rw[c3];rfl);have hBf:=jM (B:=w.heap.size) (a0:=cw (rng low high) 0) (a1:=cw (rng low high) 1) (a2:=cw (rng low high) 2) (a3:=cw (rng low high) 3) hB Nat.le.refl;unfold stored at hF hBf;generalize ((((wr.setCell ⟨w.heap.size,0,none⟩ (.int .u64 (cw (rng low high) 0:Nat))).setCell ⟨w.heap.size,1,none⟩ (.int .u64 (cw (rng low high) 1:Nat))).setCell ⟨w.heap.size,2,none⟩ (.int .u64 (cw (rng low high) 2:Nat))).setCell ⟨w.heap.size,3,none⟩ (.int .u64 (cw (rng low high) 3:Nat)))=Wf at hF hBf ⊢;obtain⟨d0,d1,d2,d3⟩:=hF;exact bodyPost_ret (v := .agg #[.int .u64 (cw (rng low high) 0:Nat), .int .u64 (cw (rng low high) 1:Nat), .int .u64 (cw (rng low high) 2:Nat), .int .u64 (cw (rng low high) 3:Nat)]) (by simp[results,Tryz.results61,go_sem,d0,d1,d2,d3]) rfl ⟨rfl,hBf⟩
theorem MH(a0 a1 a2 a3 b:Nat)(hw:wlt a0 a1 a2 a3)(hb:b<256)(w:World) :
  Calls Tryz.prog 125 #[.agg #[.int .u64 a0, .int .u64 a1, .int .u64 a2, .int .u64 a3], .int .u8 b] w fun e w'=>e = .returned (.bool (hasB a0 a1 a2 a3 b))∧Below w.heap.size w w':=by
 obtain⟨r,hr⟩:∃ r:Nat,r=b % 64:=⟨_,rfl⟩;have jO:r<64:=by omega
 have hrm:(b:Int) % 64=(r:Nat):=by omega
 have l0:a0<18446744073709551616:=hw 0;have l1:a1<18446744073709551616:=hw 1;have l2:a2<18446744073709551616:=hw 2;have l3:a3<18446744073709551616:=hw 3;have h4:b / 64=0∨b / 64=1∨b / 64=2∨b / 64=3:=by omega
 have hB:Below w.heap.size w (w.alloc (.cells #[.int .u64 a0, .int .u64 a1, .int .u64 a2, .int .u64 a3] 116)):=(Below.refl _ w).alloc Nat.le.refl _;have HR:=Lib.hid hr;clear hr;obtain hq | hq | hq | hq:=h4
 ·have hqi:(b:Int) / 64=0:=by omega
  have HH:=Lib.hid (show hasB a0 a1 a2 a3 b=a0.testBit r by unfold hasB;rw[hq,HR.out];rfl);clear hq;have ho:=jL _ r l0 jO;go_enter Tryz.func125,Tryz.ntmps125
  go_wp2
  go_ret
  exact⟨by rw[HH.out];rfl,hB⟩
 ·have hqi:(b:Int) / 64=1:=by omega
  have HH:=Lib.hid (show hasB a0 a1 a2 a3 b=a1.testBit r by unfold hasB;rw[hq,HR.out];rfl);clear hq;have ho:=jL _ r l1 jO;go_enter Tryz.func125,Tryz.ntmps125
  go_wp2
  go_ret
  exact⟨by rw[HH.out];rfl,hB⟩
 ·have hqi:(b:Int) / 64=2:=by omega
  have HH:=Lib.hid (show hasB a0 a1 a2 a3 b=a2.testBit r by unfold hasB;rw[hq,HR.out];rfl);clear hq;have ho:=jL _ r l2 jO;go_enter Tryz.func125,Tryz.ntmps125
  go_wp2
  go_ret
  exact⟨by rw[HH.out];rfl,hB⟩
 ·have hqi:(b:Int) / 64=3:=by omega
  have HH:=Lib.hid (show hasB a0 a1 a2 a3 b=a3.testBit r by unfold hasB;rw[hq,HR.out];rfl);clear hq;have ho:=jL _ r l3 jO;go_enter Tryz.func125,Tryz.ntmps125
  go_wp2
  go_ret
  exact⟨by rw[HH.out];rfl,hB⟩
theorem bH{P:Program}{ops:Array Oper}{Q:Exit→Act→World→Prop}{a:Act}{w:World}{rest:List Oper}{t:TypeId}{x y:Operand}{ty:TypeId}{pos:String}{after:Array Edge}(h:wpList P ops Q ({ dst:=none,op := .store t x y,type:=ty,pos:=pos,after:=after,guard:=none }::rest) a w) :
 wpList P ops Q ({ dst:=none,op := .store t x y,type:=ty,pos:=pos,after:=after,guard:=none }::rest) a w:=h
def Bx(w:World)(b:Nat)(t:TypeId)(cs:Array Value):Prop:=w.heap[b]?=some (.cells cs t (0,0))
theorem Bx.lt{w:World}{B:Nat}{t:TypeId}{cs:Array Value}(h:Bx w B t cs):B<w.heap.size:=(Array.getElem?_eq_some_iff.1 h).1
theorem Bx.new(w:World)(t:TypeId)(cs:Array Value):Bx (w.alloc (.cells cs t)) w.heap.size t cs:=World.alloc_heap_new w _
theorem Bx.cell{w:World}{B:Nat}{t:TypeId}{cs:Array Value}(h:Bx w B t cs)(j:Nat):w.cell? ⟨B,j,none⟩=cs[j]?:=by simp[World.cell?,show w.heap[B]?=_ from h]
theorem Bx.frozen{w:World}{B:Nat}{t:TypeId}{cs:Array Value}(h:Bx w B t cs)(j:Nat):w.frozen? ⟨B,j,none⟩=false:=by simp[World.frozen?,show w.heap[B]?=_ from h]
theorem Bx.below{n B:Nat}{t:TypeId}{cs:Array Value}{w w':World}(h:Bx w B t cs)(hb:Below n w w')(hn:B<n):Bx w' B t cs:=(hb.block _ hn).trans h
theorem Bx.same{B:Nat}{t:TypeId}{cs:Array Value}{w w':World}(h:Bx w B t cs)(e:w'.heap[B]?=w.heap[B]?):Bx w' B t cs:=e.trans h
theorem Bx.alloc{w:World}{B:Nat}{t:TypeId}{cs:Array Value}(h:Bx w B t cs)(o:Obj):Bx (w.alloc o) B t cs:=(Below.heap_alloc _ _ _ h.lt).trans h
theorem Bx.set{w:World}{B:Nat}{t:TypeId}{cs:Array Value}(h:Bx w B t cs)(i:Nat)(v:Value):Bx (w.setCell ⟨B,i,none⟩ v) B t (cs.setIfInBounds i v):=by
 have h':w.heap[B]?=_:=h;simp[Bx,World.setCell,Array.getElem?_modify,h']
theorem Bx.other{W:World}{B B' i:Nat}{t:TypeId}{cs:Array Value}{v:Value}(h:Bx W B t cs)(hne:B≠B'):Bx (W.setCell ⟨B',i,none⟩ v) B t cs:=h.same (Below.heap_setCell _ _ _ _ hne)
theorem Ea(a:Nat)(ha:a<18446744073709551616):bits .xor .u64 18446744073709551615 (a:Int)=(nw a:Nat):=by
 have h1:(BitVec.ofInt 64 (a:Int)).toNat=a:=by
  rw[BitVec.ofInt_natCast,BitVec.toNat_ofNat];exact Nat.mod_eq_of_lt (by omega)
 have h2:(BitVec.ofInt 64 (18446744073709551615:Int)).toNat=18446744073709551615:=by decide
 have h3:=oJ a ha
 show IntKind.u64.wrap ((BitVec.ofInt 64 18446744073709551615 ^^^ BitVec.ofInt 64 (a:Int)).toNat:Int)=_
 rw[BitVec.toNat_xor,h1,h2,IntKind.wrap_u64];unfold nw at h3 ⊢;omega
theorem iI(a:Nat)(ha:a<18446744073709551616):bits .xor .u64 (if IntKind.u64.signed=true then -1 else IntKind.u64.max) (a:Int)=(nw a:Nat):=Ea a ha
theorem vJ:AX.sizeT Tryz.prog 116=some 4:=by kernel_rfl
theorem sW(x0 x1 x2 x3:Value)(w:World):(Instr.index 116 (.agg #[x0,x1,x2,x3]) (.int .i64 0)).run Tryz.prog w = .ok x0 w:=by kernel_rfl
theorem tq(x0 x1 x2 x3:Value)(w:World):(Instr.index 116 (.agg #[x0,x1,x2,x3]) (.int .i64 1)).run Tryz.prog w = .ok x1 w:=by kernel_rfl
theorem tu(x0 x1 x2 x3:Value)(w:World):(Instr.index 116 (.agg #[x0,x1,x2,x3]) (.int .i64 2)).run Tryz.prog w = .ok x2 w:=by kernel_rfl
theorem tC(x0 x1 x2 x3:Value)(w:World):(Instr.index 116 (.agg #[x0,x1,x2,x3]) (.int .i64 3)).run Tryz.prog w = .ok x3 w:=by kernel_rfl
def nk(k i a:Nat):Value := .int .u64 ((if i<k then nw a else a:Nat):Int)
theorem Ku(a b c d:Nat)(ha:a<18446744073709551616)(hb:b<18446744073709551616)(hc:c<18446744073709551616)(hd:d<18446744073709551616)(w:World) :
  Calls Tryz.prog 104 #[.agg #[.int .u64 a, .int .u64 b, .int .u64 c, .int .u64 d]] w fun e w'=>e = .returned (.agg #[.int .u64 (nw a:Nat), .int .u64 (nw b:Nat), .int .u64 (nw c:Nat), .int .u64 (nw d:Nat)])∧Below w.heap.size w w':=by
 have xa:=iI a ha;have xb:=iI b hb;have xc:=iI c hc;have xd:=iI d hd;clear ha hb hc hd;go_enter Tryz.func104,Tryz.ntmps104
 go_wp2
 go_loopw [6] (fun i wr=>∃ k:Nat,k≤4∧i = .int .i64 k∧Bx wr w.heap.size 116 #[nk k 0 a,nk k 1 b,nk k 2 c,nk k 3 d]∧Bx wr (w.heap.size+1) 116 #[.int .u64 0, .int .u64 0, .int .u64 0, .int .u64 0]∧Below w.heap.size w wr)
  (fun i _=>4-(intOf i).toNat)
 case atStart=>exact⟨0,by omega,rfl,(Bx.new w 116 _).alloc _,by have:=Bx.new (w.alloc (.cells #[.int .u64 a, .int .u64 b, .int .u64 c, .int .u64 d] 116)) 116 #[.int .u64 0, .int .u64 0, .int .u64 0, .int .u64 0];simpa using this,((Below.refl _ w).alloc Nat.le.refl _).alloc (by simp) _⟩
 case round =>
  obtain⟨k,hk,rfl,h1,h2,hB⟩:=hrel;obtain rfl | rfl | rfl | rfl | rfl:k=0∨k=1∨k=2∨k=3∨k=4:=by omega
  ·have c0:wr.cell? ⟨w.heap.size,0,none⟩=some (.int .u64 (a:Nat)):=h1.cell 0
   have f0:=h1.frozen 0;have ix:=sW (.int .u64 a) (.int .u64 b) (.int .u64 c) (.int .u64 d);have hs:Bx (wr.setCell ⟨w.heap.size,0,none⟩ (.int .u64 (nw a:Nat))) w.heap.size 116 #[nk 1 0 a,nk 1 1 b,nk 1 2 c,nk 1 3 d]:=Bx.set h1 0 (.int .u64 (nw a:Nat));have ho:Bx (wr.setCell ⟨w.heap.size,0,none⟩ (.int .u64 (nw a:Nat))) (w.heap.size+1) 116 _:=h2.other (by omega);have hb:=hB.setCell (p:=⟨w.heap.size,0,none⟩) Nat.le.refl (.int .u64 (nw a:Nat));go_wp2
   exact⟨⟨1,by omega,rfl,hs,ho,hb⟩,by simp[intOf]⟩
  ·have c0:wr.cell? ⟨w.heap.size,1,none⟩=some (.int .u64 (b:Nat)):=h1.cell 1
   have f0:=h1.frozen 1;have ix:=tq (.int .u64 a) (.int .u64 b) (.int .u64 c) (.int .u64 d);have hs:Bx (wr.setCell ⟨w.heap.size,1,none⟩ (.int .u64 (nw b:Nat))) w.heap.size 116 #[nk 2 0 a,nk 2 1 b,nk 2 2 c,nk 2 3 d]:=Bx.set h1 1 (.int .u64 (nw b:Nat));have ho:Bx (wr.setCell ⟨w.heap.size,1,none⟩ (.int .u64 (nw b:Nat))) (w.heap.size+1) 116 _:=h2.other (by omega);have hb:=hB.setCell (p:=⟨w.heap.size,1,none⟩) Nat.le.refl (.int .u64 (nw b:Nat));go_wp2
   exact⟨⟨2,by omega,rfl,hs,ho,hb⟩,by simp[intOf]⟩
  ·have c0:wr.cell? ⟨w.heap.size,2,none⟩=some (.int .u64 (c:Nat)):=h1.cell 2
   have f0:=h1.frozen 2;have ix:=tu (.int .u64 a) (.int .u64 b) (.int .u64 c) (.int .u64 d);have hs:Bx (wr.setCell ⟨w.heap.size,2,none⟩ (.int .u64 (nw c:Nat))) w.heap.size 116 #[nk 3 0 a,nk 3 1 b,nk 3 2 c,nk 3 3 d]:=Bx.set h1 2 (.int .u64 (nw c:Nat));have ho:Bx (wr.setCell ⟨w.heap.size,2,none⟩ (.int .u64 (nw c:Nat))) (w.heap.size+1) 116 _:=h2.other (by omega);have hb:=hB.setCell (p:=⟨w.heap.size,2,none⟩) Nat.le.refl (.int .u64 (nw c:Nat));go_wp2
   exact⟨⟨3,by omega,rfl,hs,ho,hb⟩,by simp[intOf]⟩
  ·have c0:wr.cell? ⟨w.heap.size,3,none⟩=some (.int .u64 (d:Nat)):=h1.cell 3
   have f0:=h1.frozen 3;have ix:=tC (.int .u64 a) (.int .u64 b) (.int .u64 c) (.int .u64 d);have hs:Bx (wr.setCell ⟨w.heap.size,3,none⟩ (.int .u64 (nw d:Nat))) w.heap.size 116 #[nk 4 0 a,nk 4 1 b,nk 4 2 c,nk 4 3 d]:=Bx.set h1 3 (.int .u64 (nw d:Nat));have ho:Bx (wr.setCell ⟨w.heap.size,3,none⟩ (.int .u64 (nw d:Nat))) (w.heap.size+1) 116 _:=h2.other (by omega);have hb:=hB.setCell (p:=⟨w.heap.size,3,none⟩) Nat.le.refl (.int .u64 (nw d:Nat));go_wp2
   exact⟨⟨4,by omega,rfl,hs,ho,hb⟩,by simp[intOf]⟩
  ·have c0:wr.cell? ⟨w.heap.size,0,none⟩=some (.int .u64 (nw a:Nat)):=h1.cell 0
   have c1:wr.cell? ⟨w.heap.size,1,none⟩=some (.int .u64 (nw b:Nat)):=h1.cell 1;have c2:wr.cell? ⟨w.heap.size,2,none⟩=some (.int .u64 (nw c:Nat)):=h1.cell 2;have c3:wr.cell? ⟨w.heap.size,3,none⟩=some (.int .u64 (nw d:Nat)):=h1.cell 3;clear xa xb xc xd;go_wp2_with ((with_reducible refine bH ?_);refine AX.au (vs:=[.int .u64 (nw a:Nat), .int .u64 (nw b:Nat), .int .u64 (nw c:Nat), .int .u64 (nw d:Nat)]) rfl rfl vJ h2 rfl rfl ?_;rintro W9 h3 h4 h5)
   have h3':Bx W9 (w.heap.size+1) 116 #[.int .u64 (nw a:Nat), .int .u64 (nw b:Nat), .int .u64 (nw c:Nat), .int .u64 (nw d:Nat)]:=h3;have d0:=h3'.cell 0;have d1:=h3'.cell 1;have d2:=h3'.cell 2;have d3:=h3'.cell 3;have hB9:Below w.heap.size w W9:=hB.trans (AX.aj (by omega) (.inl (Array.getElem?_eq_some_iff.1 h3).1) h4 h5);exact bodyPost_ret (v := .agg #[.int .u64 (nw a:Nat), .int .u64 (nw b:Nat), .int .u64 (nw c:Nat), .int .u64 (nw d:Nat)]) (by simp[results,Tryz.results81,go_sem,d0,d1,d2,d3]) rfl ⟨rfl,hB9⟩
end
end Go.Proofs.YtkjgogdkdejljaaGreatDoor.Df
