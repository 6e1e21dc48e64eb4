import Derived.Test.YtkjgogdkdejljaaGreatDoorDfE4
set_option maxRecDepth 100000
set_option maxHeartbeats 40000000
namespace Go.Proofs.YtkjgogdkdejljaaGreatDoor.Df
section
open Go Go.Proofs Go.RowKit
def dY:Nat→List Int→List MapEntry
 | _,[]=>[]
 | o,k::T=>{ key := .int .i64 k,val := .int .i64 (o:Int),born:=o }::dY (o+1) T
theorem yM:∀(o:Nat)(T:List Int)(k:Int),dY o (T++[k])=dY o T++[{ key := .int .i64 k,val := .int .i64 ((o+T.length:Nat):Int),born:=o+T.length }]
 | o,[],k=>by simp[dY]
 | o,u::T,k=>by
  show _::dY (o+1) (T++[k])=_::(dY (o+1) T++_)
  rw[yM (o+1) T k,List.length_cons,show o+1+T.length=o+(T.length+1) by omega]
theorem vg:∀(o:Nat)(T:List Int)(j:Nat)(e:MapEntry),(dY o T)[j]?=some e→∃ k,T[j]?=some k∧e.key = .int .i64 k∧e.val = .int .i64 ((o+j:Nat):Int)
 | _,[],j,e,h=>by simp[dY] at h
 | o,k::T,0,e,h=>by
  simp[dY] at h;subst h;exact⟨k,rfl,rfl,rfl⟩
 | o,k::T,j+1,e,h=>by
  simp only[dY,List.getElem?_cons_succ] at h;obtain⟨u,h1,h2,h3⟩:=vg (o+1) T j e h;exact⟨u,by simpa using h1,h2,by rw[h3];congr 2;omega⟩
theorem LP{T:List Int}{k:Int}(h:k∈T):∃ e∈dY 0 T,e.key = .int .i64 k:=by
 have:∀(o:Nat)(T:List Int),k∈T→∃ e∈dY o T,e.key = .int .i64 k:=by
  intro o T
  induction T generalizing o with
  | nil=>intro h;cases h
  | cons u T ih =>
   intro h;rcases List.mem_cons.1 h with rfl | h
   ·exact⟨_,List.mem_cons_self ..,rfl⟩
   ·obtain⟨e,he,h2⟩:=ih (o+1) h
    exact⟨e,List.mem_cons_of_mem _ he,h2⟩
 exact this 0 T h
def fx(T:List Int)(k:Int):Nat:=T.findIdx (· == k)
theorem Vj{W:World}{T:List Int}{k:Int}(hn:T.Nodup):(Instr.findKey 3 (.int .i64 k) (dY 0 T)).run Tryz.prog W = .ok (if fx T k<T.length then some (fx T k, .int .i64 (fx T k:Int)) else none) W:=by
 have hd:Tryz.prog.underlying 3=some (.int .i64):=Tryz.underlying3;have hkk:MapKept.IsKey (.int .i64) (Value.int .i64 k):=rfl;have hks:∀ x∈dY 0 T,MapKept.IsKey (.int .i64) x.key:=fun x hx=>by
  obtain⟨j,hj⟩:=List.getElem?_of_mem hx;obtain⟨u,_,e,_⟩:=vg 0 T j x hj;rw[e];rfl
 rcases MapKept.findNow_spec hkk (dY 0 T) 0 hks with ⟨h1,h2⟩ | ⟨j,e,h1,h2,h3⟩
 ·have hno:k∉T:=fun h=>by
   obtain⟨e,he,h3⟩:=LP h;exact h2 e he h3
  have:¬fx T k<T.length:=fun h=>by
   unfold fx at h;have:=List.findIdx_getElem (w:=h);simp only[beq_iff_eq] at this;exact hno (this ▸ List.getElem_mem h)
  rw[if_neg this];exact MapKept.run_findKey hd h1
 ·obtain⟨u,h4,h5,h6⟩:=vg 0 T j e h2
  have hu:u=k:=by
   have:=h5.symm.trans h3;exact (Value.int.inj this).2
  subst hu;obtain⟨hj,hju⟩:=List.getElem?_eq_some_iff.1 h4;have hlt:fx T u<T.length:=List.findIdx_lt_length_of_exists ⟨u,List.mem_of_getElem? h4,by simp⟩;have hfj:fx T u=j:=by
   have h7:T[fx T u]=u:=by
    have:=List.findIdx_getElem (w:=hlt);simp only[beq_iff_eq] at this;exact this
   exact (List.getElem_inj hn).1 (h7.trans hju.symm)
  rw[if_pos hlt,hfj];have:=MapKept.run_findKey hd h1 (w:=W)
  simpa[h6] using this
theorem Za{W:World}{r:Nat}{T:List Int}{c:Nat}{k:Int}(hb:W.heap[r]?=some (.map (dY 0 T).toArray c))(hn:T.Nodup) :
  (Instr.lookup 100 (.map (some r)) (.int .i64 k) true).run Tryz.prog W = .ok (.tuple #[.int .i64 (if fx T k<T.length then (fx T k:Int) else 0), .bool (decide (fx T k<T.length))]) W:=by
 have hm:Tryz.prog.underlying 100=some (.map 3 3):=Tryz.underlying100;have hd:Tryz.prog.underlying 3=some (.int .i64):=Tryz.underlying3;have hc:(Instr.checkKey (dY 0 T).toArray.isEmpty 10000 3 (.int .i64 k)).run Tryz.prog W = .ok () W:=MapKept.run_checkKey hd (k := .int .i64 k) rfl _ 9999;have hf:=Vj (W:=W) (k:=k) hn;have hz:=Tryz.zeroValue3
 by_cases h:fx T k<T.length
 ·rw[if_pos h] at hf
  rw[if_pos h,decide_eq_true h];simp only[Instr.lookup,Sem.run_bind,run_underlying hm,Result.andThen_ok,MapKept.run_getObj_map hb,Sem.run_pure,hc,hf];rfl
 ·rw[if_neg h] at hf
  rw[if_neg h,decide_eq_false h];simp only[Instr.lookup,Sem.run_bind,run_underlying hm,Result.andThen_ok,MapKept.run_getObj_map hb,Sem.run_pure,hc,hf,hz];rfl
theorem SY{W:World}{r:Nat}{T:List Int}{k:Int}(hb:W.heap[r]?=some (.map (dY 0 T).toArray T.length))(hn:T.Nodup)(hno:¬fx T k<T.length) :
  ∃ W',(Instr.mapUpdate 100 (.map (some r)) (.int .i64 k) (.int .i64 T.length)).run Tryz.prog W = .ok () W'∧W'.heap[r]?=some (.map (dY 0 (T++[k])).toArray (T++[k]).length)∧AX.But r W W':=by
 have hm:Tryz.prog.underlying 100=some (.map 3 3):=Tryz.underlying100;have hd:Tryz.prog.underlying 3=some (.int .i64):=Tryz.underlying3;have hf:=Vj (W:=W) (k:=k) hn;rw[if_neg hno] at hf;have hc:(Instr.checkKey false 10000 3 (.int .i64 k)).run Tryz.prog W = .ok () W:=MapKept.run_checkKey hd (k := .int .i64 k) rfl _ 9999;have hx:((dY 0 T).toArray.push { key := .int .i64 k,val := .int .i64 (T.length:Int),born:=T.length })=(dY 0 (T++[k])).toArray:=by
  rw[yM,Nat.zero_add];simp
 refine⟨{ W with heap:=W.heap.setIfInBounds r (.map ((dY 0 T).toArray.push { key := .int .i64 k,val := .int .i64 (T.length:Int),born:=T.length }) (T.length+1)) },?_,?_,⟨⟨rfl,rfl,rfl,by simp,fun j hj=>absurd hj (Nat.not_lt_zero _)⟩,fun j hj hne=>(MapKept.heap_set hb).2 j hne⟩⟩
 ·simp only[Instr.mapUpdate,Sem.run_bind,run_underlying hm,Result.andThen_ok,MapKept.run_getObj_map hb,hc,hf,MapKept.run_setObj_map _ hb]
 ·rw[←hx,List.length_append]
  exact (MapKept.heap_set hb).1
def dZ:Nat→List ByteArray→List MapEntry
 | _,[]=>[]
 | o,k::T=>{ key := .string k,val := .bool true,born:=o }::dZ (o+1) T
theorem yT:∀(o:Nat)(T:List ByteArray)(k:ByteArray),dZ o (T++[k])=dZ o T++[{ key := .string k,val := .bool true,born:=o+T.length }]
 | o,[],k=>by simp[dZ]
 | o,u::T,k=>by
  show _::dZ (o+1) (T++[k])=_::(dZ (o+1) T++_)
  rw[yT (o+1) T k,List.length_cons,show o+1+T.length=o+(T.length+1) by omega]
theorem BN{o:Nat}{T:List ByteArray}{e:MapEntry}(h:e∈dZ o T):∃ k∈T,e.key = .string k∧e.val = .bool true:=by
 induction T generalizing o with
 | nil=>cases h
 | cons u T ih =>
  rcases List.mem_cons.1 h with rfl | h
  ·exact⟨u,List.mem_cons_self ..,rfl,rfl⟩
  ·obtain⟨k,h1,h2⟩:=ih h
   exact⟨k,List.mem_cons_of_mem _ h1,h2⟩
theorem OY{o:Nat}{T:List ByteArray}{k:ByteArray}(h:k∈T):∃ e∈dZ o T,e.key = .string k:=by
 induction T generalizing o with
 | nil=>cases h
 | cons u T ih =>
  rcases List.mem_cons.1 h with rfl | h
  ·exact⟨_,List.mem_cons_self ..,rfl⟩
  ·obtain⟨e,h1,h2⟩:=ih (o:=o+1) h
   exact⟨e,List.mem_cons_of_mem _ h1,h2⟩
theorem Vk{W:World}{T:List ByteArray}{k:ByteArray} : (k∈T∧∃ j,(Instr.findKey 9 (.string k) (dZ 0 T)).run Tryz.prog W = .ok (some (j, .bool true)) W)∨(k∉T∧(Instr.findKey 9 (.string k) (dZ 0 T)).run Tryz.prog W = .ok none W):=by
 have hd:Tryz.prog.underlying 9=some .string:=Tryz.underlying9;have hkk:MapKept.IsKey .string (Value.string k):=trivial;have hks:∀ x∈dZ 0 T,MapKept.IsKey .string x.key:=fun x hx=>by
  obtain⟨u,_,e,_⟩:=BN hx;rw[e]
  trivial
 rcases MapKept.findNow_spec hkk (dZ 0 T) 0 hks with ⟨h1,h2⟩ | ⟨j,e,h1,h2,h3⟩
 ·refine .inr ⟨fun h=>?_,MapKept.run_findKey hd h1⟩
  obtain⟨e,he,h3⟩:=OY (o:=0) h;exact h2 e he h3
 ·obtain⟨u,h4,h5,h6⟩:=BN (List.mem_of_getElem? h2)
  have hu:u=k:=by
   have:=h5.symm.trans h3;exact Value.string.inj this
  subst hu;have:=MapKept.run_findKey hd h1 (w:=W);rw[h6] at this;exact .inl ⟨h4,0+j,this⟩
theorem Zg{W:World}{r c:Nat}{T:List ByteArray}{k:ByteArray}(hb:W.heap[r]?=some (.map (dZ 0 T).toArray c)) :
  (Instr.lookup 67 (.map (some r)) (.string k) false).run Tryz.prog W = .ok (.bool (inN T k)) W:=by
 have hm:Tryz.prog.underlying 67=some (.map 9 4):=Tryz.underlying67;have hd:Tryz.prog.underlying 9=some .string:=Tryz.underlying9;have hc:(Instr.checkKey (dZ 0 T).toArray.isEmpty 10000 9 (.string k)).run Tryz.prog W = .ok () W:=MapKept.run_checkKey hd (k := .string k) trivial _ 9999;have hz:=Tryz.zeroValue4;rcases Vk (W:=W) (T:=T) (k:=k) with ⟨h1,j,hf⟩ | ⟨h1,hf⟩
 ·rw[DN.2 h1]
  simp only[Instr.lookup,Sem.run_bind,run_underlying hm,Result.andThen_ok,MapKept.run_getObj_map hb,Sem.run_pure,hc,hf];rfl
 ·rw[show inN T k=false from Bool.eq_false_iff.2 fun h=>h1 (DN.1 h)]
  simp only[Instr.lookup,Sem.run_bind,run_underlying hm,Result.andThen_ok,MapKept.run_getObj_map hb,Sem.run_pure,hc,hf,hz];rfl
theorem updB{W:World}{r:Nat}{T:List ByteArray}{k:ByteArray}(hb:W.heap[r]?=some (.map (dZ 0 T).toArray T.length))(hno:k∉T) :
  ∃ W',(Instr.mapUpdate 67 (.map (some r)) (.string k) (.bool true)).run Tryz.prog W = .ok () W'∧W'.heap[r]?=some (.map (dZ 0 (T++[k])).toArray (T++[k]).length)∧AX.But r W W':=by
 have hm:Tryz.prog.underlying 67=some (.map 9 4):=Tryz.underlying67;have hd:Tryz.prog.underlying 9=some .string:=Tryz.underlying9;have hf:(Instr.findKey 9 (.string k) (dZ 0 T)).run Tryz.prog W = .ok none W:=by
  rcases Vk (W:=W) (T:=T) (k:=k) with ⟨h1,_⟩ | ⟨_,hf⟩
  ·exact absurd h1 hno
  ·exact hf
 have hc:(Instr.checkKey false 10000 9 (.string k)).run Tryz.prog W = .ok () W:=MapKept.run_checkKey hd (k := .string k) trivial _ 9999;have hx:((dZ 0 T).toArray.push { key := .string k,val := .bool true,born:=T.length })=(dZ 0 (T++[k])).toArray:=by
  rw[yT,Nat.zero_add];simp
 refine⟨{ W with heap:=W.heap.setIfInBounds r (.map ((dZ 0 T).toArray.push { key := .string k,val := .bool true,born:=T.length }) (T.length+1)) },?_,?_,⟨⟨rfl,rfl,rfl,by simp,fun j hj=>absurd hj (Nat.not_lt_zero _)⟩,fun j hj hne=>(MapKept.heap_set hb).2 j hne⟩⟩
 ·simp only[Instr.mapUpdate,Sem.run_bind,run_underlying hm,Result.andThen_ok,MapKept.run_getObj_map hb,hc,hf,MapKept.run_setObj_map _ hb]
 ·rw[←hx,List.length_append]
  exact (MapKept.heap_set hb).1
section
variable {ops : Array Oper} {rest : List Oper} {a : Act} {w : World} {Q : Exit → Act → World → Prop} {dst : Option Tmp} {ty : TypeId} {pos : String} {after : Array Edge} {xm xk xv : Operand}
theorem OZ(h:wpList Tryz.prog ops Q ({ dst:=dst,op := .lookup 67 xm xk false,type:=ty,pos:=pos,after:=after,guard:=none }::rest) a w):wpList Tryz.prog ops Q ({ dst:=dst,op := .lookup 67 xm xk false,type:=ty,pos:=pos,after:=after,guard:=none }::rest) a w:=h
theorem qw{r c:Nat}{T:List ByteArray}{k:ByteArray}(hm:a.eval xm = .map (some r))(hk:a.eval xk = .string k)(hb:w.heap[r]?=some (.map (dZ 0 T).toArray c))(h:wpList Tryz.prog ops Q rest (a.put dst (.bool (inN T k))) w):wpList Tryz.prog ops Q ({ dst:=dst,op := .lookup 67 xm xk false,type:=ty,pos:=pos,after:=after,guard:=none }::rest) a w:=by
 refine Go.Great.wpList_readTo rfl dst rfl _ ?_ h;unfold execOp;simp only[hm,hk];simp[Zg hb]
theorem WM(h:wpList Tryz.prog ops Q ({ dst:=none,op := .mapUpdate 67 xm xk xv,type:=ty,pos:=pos,after:=after,guard:=none }::rest) a w):wpList Tryz.prog ops Q ({ dst:=none,op := .mapUpdate 67 xm xk xv,type:=ty,pos:=pos,after:=after,guard:=none }::rest) a w:=h
theorem DR{r:Nat}{T:List ByteArray}{k:ByteArray}(hm:a.eval xm = .map (some r))(hk:a.eval xk = .string k)(hv:a.eval xv = .bool true)(hb:w.heap[r]?=some (.map (dZ 0 T).toArray T.length))(hno:k∉T)
  (h:∀ W',W'.heap[r]?=some (.map (dZ 0 (T++[k])).toArray (T++[k]).length)→AX.But r w W'→wpList Tryz.prog ops Q rest a W'):wpList Tryz.prog ops Q ({ dst:=none,op := .mapUpdate 67 xm xk xv,type:=ty,pos:=pos,after:=after,guard:=none }::rest) a w:=by
 obtain⟨W',hr,h1,h2⟩:=updB hb hno;refine wpList_plain rfl fun K hK=>?_;have hx:(execOp a.eval { dst:=none,op := .mapUpdate 67 xm xk xv,type:=ty,pos:=pos,after:=after,guard:=none }).run Tryz.prog w = .ok .skip W':=by
  simp only[execOp,hm,hk,hv,Sem.run_bind,hr];rfl
 unfold Oper.wp;rw[hx];exact hK _ _ (h _ h1 h2)
end
end
section
open Go.Lib (hid)
open Go Go.Proofs Go.RowKit
open Rx (Nd eP iO jk mV vC)
attribute [local go_sem] Oper.semAt_some
theorem WO(r:List Nd)(ok:eP r)(wd:∀ y∈r,y.Wd)(v:Value)(w:World)(hR:jk w v r):Calls Tryz.prog 54 #[v] w fun e w'=>e = .returned (.bool (Rx.jZ r []))∧Below w.heap.size w w':=by
 have hm:=Rx.LX r v { data:=#[] } (by have:=ok.most;omega) wd (by decide) w hR;have he:Hid (mV r { data:=#[] } = Rx.jZ r []):=hid (by unfold mV;rw[if_pos ok];rfl);rw[he.out] at hm;generalize Rx.jZ r []=b at hm he ⊢;clear he;go_enter Tryz.func54,Tryz.ntmps54
 go_wp2_with (go_at_call 93;(with_reducible refine hm.mono ?_);rintro e W1 ⟨rfl,hb1⟩)
 exact bodyPost_ret (v := .bool b) (by simp[results,Tryz.results54,go_sem]) rfl ⟨rfl,hb1⟩
theorem abT:AX.sizeT Tryz.prog 35=some 3:=by kernel_rfl
def FN(names:List ByteArray)(x:Rl)(M:Nat)(w:World)(e:Ending)(w':World):Prop :=
 ∃ v,e = .returned (.tuple #[v, .int .i64 (iU names x).2])∧v.oneCell'=true∧AX.But M w w'∧((iU names x).2=0→vC w.heap.size w' v (iU names x).1∧eP (iU names x).1∧(∀ y∈(iU names x).1,y.Wd)∧w'.heap[M]?=some (.map (dZ 0 (names++[x.nm])).toArray (names++[x.nm]).length))
theorem WQ(names:List ByteArray)(x:Rl)(hre:x.re.size≤254)(M:Nat)(w:World)(hm:w.heap[M]?=some (.map (dZ 0 names).toArray names.length)) :
  Calls Tryz.prog 29 #[.agg #[.string x.nm, .string x.re, .bool x.tr], .map (some M)] w (FN names x M w):=by
 obtain⟨nm,re,tr⟩:=x;simp only at hre;have FK:M<w.heap.size:=(Array.getElem?_eq_some_iff.1 hm).1;have hbx:=Bx.new w 35 #[.string nm, .string re, .bool tr];have hb0:=(Below.refl w.heap.size w).alloc Nat.le.refl (.cells #[.string nm, .string re, .bool tr] 35);obtain⟨X,hX⟩:∃ X,X=w.heap.size:=⟨_,rfl⟩;obtain⟨W0,hW0⟩:∃ W0,W0=w.alloc (.cells #[.string nm, .string re, .bool tr] 35):=⟨_,rfl⟩;rw[←hW0] at hbx hb0;have hm0:=(hb0.block M FK).trans hm;have hrd:=fun W=>abS re hre W;have hMX:M<X:=by omega
 rw[←hX] at hbx;have c0:W0.cell? ⟨X,0,none⟩=some (.string nm):=hbx.cell 0;have HBX:=hid hbx;have HB0:=hid hb0;have HM0:=hid hm0;have HX:=hid hX;clear hbx hb0 hm0 hm FK;obtain⟨pr,hpr⟩:∃ pr,pr=iU names ⟨nm,re,tr⟩:=⟨_,rfl⟩;have hty:nm.toList.isEmpty=decide (nm.size=0):=by
  rw[ByteArray.toList_eq,Bool.eq_iff_iff,List.isEmpty_iff,decide_eq_true_eq,←ByteArray.size_data,←Array.length_toList,List.length_eq_zero_iff]
 by_cases hz:nm.size=0
 ·have hp:pr=([],2):=by rw[hpr];exact if_pos hz
  rw[decide_eq_true hz] at hty;have HP:=hid hp;rw[hpr] at hp;have HPR:=hid hp;clear hp hpr hz;go_enter Tryz.func29,Tryz.ntmps29
  go_upto_region 1 with fail
  rw[←hW0,←hX];clear hX hW0;go_wp2_with fail
  exact bodyPost_ret (v := .tuple #[.slice none 0 0, .int .i64 2]) (by simp[results,Tryz.results29,go_sem]) rfl ⟨.slice none 0 0,by rw[HPR.out],rfl,AX.But.of_below HB0.out,fun h=>by rw[HPR.out] at h;cases h⟩
 rw[decide_eq_false hz] at hty
 by_cases hin:inN names nm=true
 ·have hp:pr=([],6):=by rw[hpr];unfold iU;rw[if_neg hz,if_pos hin]
  rw[hpr] at hp;have HPR:=hid hp;clear hp hpr hz;go_enter Tryz.func29,Tryz.ntmps29
  go_upto_region 1 with fail
  rw[←hW0,←hX];clear hX hW0;go_wp2_with ((with_reducible refine OZ ?_);refine qw rfl rfl HM0.out ?_;rw[hin])
  exact bodyPost_ret (v := .tuple #[.slice none 0 0, .int .i64 6]) (by simp[results,Tryz.results29,go_sem]) rfl ⟨.slice none 0 0,by rw[HPR.out],rfl,AX.But.of_below HB0.out,fun h=>by rw[HPR.out] at h;cases h⟩
 have abU:inN names nm=false:=Bool.eq_false_iff.2 hin;have hno:nm∉names:=fun h=>hin (DN.2 h);have hp:pr=((rdP re).1,if (rdP re).2=0 then (if Rx.jZ (rdP re).1 []=true then 4 else 0) else (rdP re).2):=by rw[hpr];unfold iU;rw[if_neg hz,if_neg hin]
 rw[hpr] at hp;have HPR:=hid hp;have HNO:=hid hno;clear hp hpr hz hno hin;obtain⟨rp,hrp⟩:∃ rp,rp=rdP re:=⟨_,rfl⟩;unfold OV at hrd;rw[←hrp] at HPR hrd;obtain⟨rr,rc⟩:=rp;clear hrp;simp only at HPR hrd;go_enter Tryz.func29,Tryz.ntmps29
 go_upto_region 1 with fail
 rw[←hW0,←hX];clear hX hW0;go_upto_region 7 with (first
  | ((with_reducible refine OZ ?_);refine qw rfl rfl HM0.out ?_;rw[abU])
  | ((with_reducible refine WM ?_);refine DR rfl rfl rfl HM0.out HNO.out ?_;rintro W1 hm1 hb1;have c1:W1.cell? ⟨X,1,none⟩=some (.string re):=(show Bx W1 X 35 #[.string nm, .string re, .bool tr] from(hb1.same X HBX.out.lt (by omega)).trans HBX.out).cell 1)
  | (go_at_call 53;(with_reducible refine(hrd W1).mono ?_);rintro e W2 ⟨⟨v,at_,rfl,hv,hok⟩,hb2⟩))
 have HM2:Hid (W2.heap[M]?=some (.map (dZ 0 (names++[nm])).toArray (names++[nm]).length)):=hid ((hb2.block M (Array.getElem?_eq_some_iff.1 hm1).1).trans hm1);have HBT:Hid (AX.But M w W2):=hid (((AX.But.of_below HB0.out).trans hb1).trans (AX.But.of_below hb2));obtain⟨va,vc,hvf⟩:∃ a c,v = .slice a rr.length c:=by obtain⟨la,c,e,_⟩:=hv.row;exact⟨la,c,e⟩
 have HV:=hid hv;have HBS:Hid (w.heap.size≤W1.heap.size):=hid (Nat.le_trans HB0.out.size hb1.low.size);have HOK:=hid hok;clear hb2 hm1 hb1 hv hok hrd;subst hvf
 by_cases h0:rc=0
 ·subst h0
  obtain⟨ok,wd⟩:=HOK.out rfl;have hnl:=WO rr ok wd _ W2 HV.out.row;obtain⟨b,hbb⟩:∃ b,b=Rx.jZ rr []:=⟨_,rfl⟩;rw[if_pos rfl,←hbb] at HPR;rw[←hbb] at hnl;have HOW:=hid (And.intro ok wd);clear hbb ok wd
  cases b with
  | true =>
   go_wp2_with (go_at_call 54;(with_reducible refine hnl.mono ?_);rintro e W3 ⟨rfl,hb3⟩)
   exact bodyPost_ret (v := .tuple #[.slice va rr.length vc, .int .i64 4]) (by simp[results,Tryz.results29,go_sem]) rfl ⟨.slice va rr.length vc,by rw[HPR.out];rfl,rfl,HBT.out.trans (AX.But.of_below hb3),fun h=>by rw[HPR.out] at h;cases h⟩
  | false =>
   go_wp2_with (go_at_call 54;(with_reducible refine hnl.mono ?_);rintro e W3 ⟨rfl,hb3⟩)
   exact bodyPost_ret (v := .tuple #[.slice va rr.length vc, .int .i64 0]) (by simp[results,Tryz.results29,go_sem]) rfl ⟨.slice va rr.length vc,by rw[HPR.out];rfl,rfl,HBT.out.trans (AX.But.of_below hb3),fun _=>by
    rw[HPR.out];exact⟨Tj HV.out HBS.out hb3,HOW.out.1,HOW.out.2,(hb3.block M (Array.getElem?_eq_some_iff.1 HM2.out).1).trans HM2.out⟩⟩
 ·rw[if_neg h0] at HPR
  have hd:decide (rc=0)=false:=decide_eq_false h0;go_wp2_with fail
  exact bodyPost_ret (v := .tuple #[.slice va rr.length vc, .int .i64 rc]) (by simp[results,Tryz.results29,go_sem]) rfl ⟨.slice va rr.length vc,by rw[HPR.out],rfl,HBT.out,fun h=>by rw[HPR.out] at h;exact absurd h h0⟩
end
section
open Go Go.Proofs Go.RowKit
section
variable {ops : Array Oper} {rest : List Oper} {a : Act} {w : World} {Q : Exit → Act → World → Prop} {dst : Option Tmp} {ty : TypeId} {pos : String} {after : Array Edge} {s x xm xk xv : Operand}
theorem qM(h:wpList Tryz.prog ops Q ({ dst:=dst,op := .call { callee := .builtin .append,args:=#[s,x],argTypes:=#[25,25] },type:=ty,pos:=pos,after:=after,guard:=none }::rest) a w):wpList Tryz.prog ops Q ({ dst:=dst,op := .call { callee := .builtin .append,args:=#[s,x],argTypes:=#[25,25] },type:=ty,pos:=pos,after:=after,guard:=none }::rest) a w:=h
theorem OJ(h:wpList Tryz.prog ops Q ({ dst:=dst,op := .lookup 100 xm xk true,type:=ty,pos:=pos,after:=after,guard:=none }::rest) a w):wpList Tryz.prog ops Q ({ dst:=dst,op := .lookup 100 xm xk true,type:=ty,pos:=pos,after:=after,guard:=none }::rest) a w:=h
theorem oC{r:Nat}{k:Int}{v:Value}(hm:a.eval xm = .map (some r))(hk:a.eval xk = .int .i64 k)(hr:(Instr.lookup 100 (.map (some r)) (.int .i64 k) true).run Tryz.prog w = .ok v w)(h:wpList Tryz.prog ops Q rest (a.put dst v) w):wpList Tryz.prog ops Q ({ dst:=dst,op := .lookup 100 xm xk true,type:=ty,pos:=pos,after:=after,guard:=none }::rest) a w:=by
 refine Go.Great.wpList_readTo rfl dst rfl v ?_ h;unfold execOp;simp only[hm,hk];simp[hr]
theorem WH(h:wpList Tryz.prog ops Q ({ dst:=none,op := .mapUpdate 100 xm xk xv,type:=ty,pos:=pos,after:=after,guard:=none }::rest) a w):wpList Tryz.prog ops Q ({ dst:=none,op := .mapUpdate 100 xm xk xv,type:=ty,pos:=pos,after:=after,guard:=none }::rest) a w:=h
theorem AL{r:Nat}{T:List Int}{k:Int}(hm:a.eval xm = .map (some r))(hk:a.eval xk = .int .i64 k)(hv:a.eval xv = .int .i64 T.length)(hb:w.heap[r]?=some (.map (dY 0 T).toArray T.length))(hn:T.Nodup)(hno:¬fx T k<T.length)
  (h:∀ W',W'.heap[r]?=some (.map (dY 0 (T++[k])).toArray (T++[k]).length)→AX.But r w W'→wpList Tryz.prog ops Q rest a W'):wpList Tryz.prog ops Q ({ dst:=none,op := .mapUpdate 100 xm xk xv,type:=ty,pos:=pos,after:=after,guard:=none }::rest) a w:=by
 obtain⟨W',hr,h1,h2⟩:=SY hb hn hno;refine wpList_plain rfl fun K hK=>?_;have hx:(execOp a.eval { dst:=none,op := .mapUpdate 100 xm xk xv,type:=ty,pos:=pos,after:=after,guard:=none }).run Tryz.prog w = .ok .skip W':=by
  simp only[execOp,hm,hk,hv,Sem.run_bind,hr];rfl
 unfold Oper.wp;rw[hx];exact hK _ _ (h _ h1 h2)
end
theorem OL{W:World}{base SB:Nat}{x:Int}(h:Bx W SB 3 (ci [x]))(hb:base≤SB):bJ W base (.slice (some ⟨SB,0,none⟩) 1 1) [x] :=
 ⟨rfl, .inr ⟨SB,1,ci [x],rfl,hb,h,Nat.le_refl _,by decide,by simp[ci],by simp[ci]⟩⟩
theorem yN{o:Oper}{a:Act}{K:Act→World→Prop}{Q:Exit→Act→World→Prop}{W:World}(base:Nat)(v:Value)(l:List Int)(y:Int)(s x:Operand)
  (ho:o.op = .call { callee := .builtin .append,args:=#[s,x],argTypes:=#[25,25] }) (hs:a.eval s=v) (hown:bJ W base v l) (B c:Nat) (hx:a.eval x = .slice (some ⟨B,0,none⟩) 1 c)
  (hc:Bx W B 3 #[.int .i64 y]) (hl:l.length≤1000000) (hb:base≤W.heap.size)
  (h:∀ v' w',bJ w' base v' (l++[y])→W.grownBy w' v.ownBlock→(v'.ownBlock=v.ownBlock∨v'.ownBlock=some W.heap.size)→K (a.put o.dst v') w'):o.wp Tryz.prog a W K Q:=by
 obtain⟨ti,hi,hz0,hz1,hz2⟩:=info_parts NU;obtain⟨v',w',hr,h2,h3,h4,h5⟩:=run_append_own_at (P:=Tryz.prog) W base 25 o.type 3 ti (.int .i64 0) 1 8 Tryz.underlying25 hi hz0 hz1 hz2 rfl (by decide) v l.length _ hown ⟨B,0,none⟩ 1 c [.int .i64 y] rfl
  (fun j u hj=>by rw[addr_add,Nat.zero_add,hc.cell];simpa using hj) (fun u hu=>by rw[List.mem_singleton.1 hu];rfl) (by unfold maxLen;omega) (by omega) hb
 unfold Oper.wp execOp;simp only[ho,resolve,invoke,builtin,Sem.run_bind,Sem.run_pure,Result.andThen_ok,List.map_toArray,List.map_cons,List.map_nil,hs,hx,hr];refine h v' w' ?_ h3 h5;unfold bJ;rw[List.length_append,List.map_append];exact h2
theorem fQ{ops:Array Oper}{rest:List Oper}{a:Act}{w:World}{Q:Exit→Act→World→Prop}{dst:Option Tmp}{ty:TypeId}{pos:String}{after:Array Edge}{s x:Operand}(base:Nat)(v:Value)(l:List Int)(y:Int)(hs:a.eval s=v)(hown:bJ w base v l)(B c:Nat)(hx:a.eval x = .slice (some ⟨B,0,none⟩) 1 c)(hc:Bx w B 3 #[.int .i64 y])(hl:l.length≤1000000)(hb:base≤w.heap.size)
  (h:∀ v' w',bJ w' base v' (l++[y])→w.grownBy w' v.ownBlock→(v'.ownBlock=v.ownBlock∨v'.ownBlock=some w.heap.size)→wpList Tryz.prog ops Q rest (a.put dst v') w'):wpList Tryz.prog ops Q ({ dst:=dst,op := .call { callee := .builtin .append,args:=#[s,x],argTypes:=#[25,25] },type:=ty,pos:=pos,after:=after,guard:=none }::rest) a w :=
 wpList_plain rfl fun K hK=>yN base v l y s x rfl hs hown B c hx hc hl hb fun v' w' h1 h2 h3=>hK _ _ (h v' w' h1 h2 h3)
theorem pF{W W':World}{base:Nat}{v:Value}{l:List Int}{b:Option Nat}(h:bJ W base v l)(hg:W.grownBy W' b)(hne:∀ g,v.ownBlock=some g→b≠some g):bJ W' base v l :=
 bY h fun g hv=>hg.block g (World.ownsRow.lt h g hv).2 fun e=>hne g hv e.symm
def Apt(v u:Value):Prop:=∀ g,v.ownBlock=some g→u.ownBlock≠some g
theorem Apt.symm{v u:Value}(h:Apt v u):Apt u v:=fun g h1 h2=>h g h2 h1
theorem Apt.grow{W:World}{base:Nat}{v v' u:Value}{l:List Int}(h:Apt v u)(hu:bJ W base u l)(hv:v'.ownBlock=v.ownBlock∨v'.ownBlock=some W.heap.size):Apt v' u:=fun g h1 h2=>by
 rcases hv with hv | hv
 ·exact h g (hv ▸ h1) h2
 ·have:=(World.ownsRow.lt hu g h2).2
  rw[hv] at h1
  cases h1
  omega
structure Rw3(base:Nat)(sv nv rv:Value)(st nx ru:List Int)(wz:World):Prop where
 s:bJ wz base sv st
 n:bJ wz base nv nx
 r:bJ wz base rv ru
 sn:Apt sv nv
 sr:Apt sv rv
 nr:Apt nv rv
section
variable {base : Nat} {sv nv rv : Value} {st nx ru : List Int} {wz wy : World}
theorem Rw3.low(h:Rw3 base sv nv rv st nx ru wz)(hb:Below wz.heap.size wz wy):Rw3 base sv nv rv st nx ru wy:=⟨bG h.s hb,bG h.n hb,bG h.r hb,h.sn,h.sr,h.nr⟩
theorem Rw3.aY{t:TypeId}(h:Rw3 base sv nv rv st nx ru wz)(hs:dQ t wz wy)(hne:(3:TypeId)≠t):Rw3 base sv nv rv st nx ru wy:=⟨aC h.s hs hne,aC h.n hs hne,aC h.r hs hne,h.sn,h.sr,h.nr⟩
theorem Rw3.WI{v':Value}{l:List Int}(h:Rw3 base sv nv rv st nx ru wz)(ho:bJ wy base v' l)(hg:wz.grownBy wy sv.ownBlock)(hv:v'.ownBlock=sv.ownBlock∨v'.ownBlock=some wz.heap.size):Rw3 base v' nv rv l nx ru wy :=
 ⟨ho,pF h.n hg h.sn.symm,pF h.r hg h.sr.symm,h.sn.grow h.n hv,h.sr.grow h.r hv,h.nr⟩
theorem Rw3.abL{v':Value}{l:List Int}(h:Rw3 base sv nv rv st nx ru wz)(ho:bJ wy base v' l)(hg:wz.grownBy wy nv.ownBlock)(hv:v'.ownBlock=nv.ownBlock∨v'.ownBlock=some wz.heap.size):Rw3 base sv v' rv st l ru wy :=
 ⟨pF h.s hg h.sn,ho,pF h.r hg h.nr.symm,(h.sn.symm.grow h.s hv).symm,h.sr,h.nr.grow h.r hv⟩
theorem Rw3.abM{v':Value}{l:List Int}(h:Rw3 base sv nv rv st nx ru wz)(ho:bJ wy base v' l)(hg:wz.grownBy wy rv.ownBlock)(hv:v'.ownBlock=rv.ownBlock∨v'.ownBlock=some wz.heap.size):Rw3 base sv nv v' st nx l wy :=
 ⟨pF h.s hg h.sr,pF h.n hg h.nr,ho,h.sn,(h.sr.symm.grow h.s hv).symm,(h.nr.symm.grow h.n hv).symm⟩
end
theorem sK{W:World}{base:Nat}{v:Value}{l:List Int}(h:bJ W base v l):∃ la c,v = .slice la l.length c∧l.length≤c∧aK W la l:=by
 rcases h.2 with ⟨e,hn⟩ | ⟨g,cap,cur,e,_,_,hc,_⟩
 ·have:l = []:=List.length_eq_zero_iff.1 hn
  subst this;exact⟨none,0,e,Nat.le_refl _,fun h=>absurd rfl h⟩
 ·subst e
  refine⟨_,_,rfl,hc,fun _=>⟨g,0,rfl,(World.ownsRow.lt h g rfl).2,fun j hj=>?_⟩⟩;have:=World.ownsRow.cellAt h j (by omega);rw[Nat.zero_add,this,List.getElem?_map,List.getElem?_eq_getElem hj];rfl
theorem S9{W:World}{base:Nat}{v:Value}{l:List Int}(h:bJ W base v l)(hl:0<l.length):∃ g c,v = .slice (some ⟨g,0,none⟩) l.length c∧∀ j,j<l.length→W.cell? ⟨g,j,none⟩=some (.int .i64 (l.getD j 0)):=by
 rcases h.2 with ⟨e,hn⟩ | ⟨g,cap,cur,e,_,_,hc,_⟩
 ·omega
 ·subst e
  refine⟨g,cap,rfl,fun j hj=>?_⟩;have:=World.ownsRow.cellAt h j (by omega);rw[this,List.getElem?_map,List.getElem?_eq_getElem hj,List.getD_eq_getElem?_getD,List.getElem?_eq_getElem hj];rfl
theorem jq{W:World}{base:Nat}{e:TypeId}{k:Nat}{v:Value}{n:Nat}{xs:List Value}(h:W.ownsRow base e k v n xs):v.oneCell'=true:=by
 rcases h.2 with ⟨e,_⟩ | ⟨g,cap,cur,e,_⟩<;>rw[e]<;>rfl
theorem BK{W:World}{base M:Nat}{v:Value}{l:List Int}{es:Array MapEntry}{c:Nat}(h:bJ W base v l)(hM:W.heap[M]?=some (.map es c)):v.ownBlock≠some M:=fun e=>by
 obtain⟨cs,hc⟩:=iF h M e;rw[hM] at hc
 cases hc
theorem bZ{ops:Array Oper}{Q:Exit→Act→World→Prop}{a:Act}{w:World}{rest:List Oper}{t:TypeId}{x y:Operand}{ty:TypeId}{pos:String}{after:Array Edge}(h:wpList Tryz.prog ops Q ({ dst:=none,op := .store t x y,type:=ty,pos:=pos,after:=after,guard:=none }::rest) a w) :
 wpList Tryz.prog ops Q ({ dst:=none,op := .store t x y,type:=ty,pos:=pos,after:=after,guard:=none }::rest) a w:=h
theorem Tc:AX.sizeT Tryz.prog 27=some 2:=by kernel_rfl
theorem yO:AX.sizeT Tryz.prog 25=some 1:=by kernel_rfl
structure Lw(W2:World)(OX M:Nat)(T:List Int)(sv nv rv:Value)(st nx ru:List Int)(wz:World):Prop where
 ox:Bx wz OX 27 #[nv,rv]
 mp:wz.heap[M]?=some (.map (dY 0 T).toArray T.length)
 rw:Rw3 W2.heap.size sv nv rv st nx ru wz
 lo:Below W2.heap.size W2 wz
 og:W2.heap.size≤OX
 mg:W2.heap.size≤M
section
variable {W2 wz wy wx : World} {OX M : Nat} {T : List Int} {sv nv rv v' : Value} {st nx ru l : List Int}
theorem Lw.mlt(h:Lw W2 OX M T sv nv rv st nx ru wz):M<wz.heap.size:=(Array.getElem?_eq_some_iff.1 h.mp).1
theorem Lw.ne(h:Lw W2 OX M T sv nv rv st nx ru wz):M≠OX:=fun e=>by
 have h1:=h.mp;rw[e,show wz.heap[OX]?=_ from h.ox] at h1
 cases h1
theorem Lw.low(h:Lw W2 OX M T sv nv rv st nx ru wz)(hb:Below wz.heap.size wz wy):Lw W2 OX M T sv nv rv st nx ru wy :=
 ⟨h.ox.below hb h.ox.lt,(hb.block M h.mlt).trans h.mp,h.rw.low hb,h.lo.trans (hb.mono h.lo.size),h.og,h.mg⟩
theorem Lw.gro{v:Value}{k:List Int}(h:Lw W2 OX M T sv nv rv st nx ru wz)(hv:bJ wz W2.heap.size v k)(hg:wz.grownBy wy v.ownBlock):Bx wy OX 27 #[nv,rv]∧wy.heap[M]?=some (.map (dY 0 T).toArray T.length)∧Below W2.heap.size W2 wy :=
 ⟨h.ox.aY (aZ hv hg) (by decide),(hg.block M h.mlt fun e=>BK hv h.mp e.symm).trans h.mp,h.lo.grown hg h.lo.size fun k hk=>(World.ownsRow.lt hv k hk).1⟩
theorem Lw.WI(h:Lw W2 OX M T sv nv rv st nx ru wz)(ho:bJ wy W2.heap.size v' l)(hg:wz.grownBy wy sv.ownBlock)(hv:v'.ownBlock=sv.ownBlock∨v'.ownBlock=some wz.heap.size):Lw W2 OX M T v' nv rv l nx ru wy :=
 ⟨(h.gro h.rw.s hg).1,(h.gro h.rw.s hg).2.1,h.rw.WI ho hg hv,(h.gro h.rw.s hg).2.2,h.og,h.mg⟩
theorem Lw.Td(h:Lw W2 OX M T sv nv rv st nx ru wz)(ho:bJ wy W2.heap.size v' l)(hg:wz.grownBy wy nv.ownBlock)(hv:v'.ownBlock=nv.ownBlock∨v'.ownBlock=some wz.heap.size)(x:Bx wx OX 27 #[v',rv])(g4:∀ j,j≠OX→wx.heap[j]?=wy.heap[j]?)(g5:AX.Same wy wx):Lw W2 OX M T sv v' rv st l ru wx :=
 ⟨x,(g4 M h.ne).trans (h.gro h.rw.n hg).2.1,(h.rw.abL ho hg hv).aY (aT (h.gro h.rw.n hg).1 g4) (by decide),(h.gro h.rw.n hg).2.2.trans (AX.aj h.og (.inl x.lt) g4 g5),h.og,h.mg⟩
theorem Lw.abN(h:Lw W2 OX M T sv nv rv st nx ru wz)(ho:bJ wy W2.heap.size v' l)(hg:wz.grownBy wy rv.ownBlock)(hv:v'.ownBlock=rv.ownBlock∨v'.ownBlock=some wz.heap.size)(x:Bx wx OX 27 #[nv,v'])(g4:∀ j,j≠OX→wx.heap[j]?=wy.heap[j]?)(g5:AX.Same wy wx):Lw W2 OX M T sv nv v' st nx l wx :=
 ⟨x,(g4 M h.ne).trans (h.gro h.rw.r hg).2.1,(h.rw.abM ho hg hv).aY (aT (h.gro h.rw.r hg).1 g4) (by decide),(h.gro h.rw.r hg).2.2.trans (AX.aj h.og (.inl x.lt) g4 g5),h.og,h.mg⟩
theorem Lw.upd{T':List Int}(h:Lw W2 OX M T sv nv rv st nx ru wz)(hm:wy.heap[M]?=some (.map (dY 0 T').toArray T'.length))(hb:AX.But M wz wy):Lw W2 OX M T' sv nv rv st nx ru wy :=
 have k:∀ {v:Value} {l:List Int},bJ wz W2.heap.size v l→bJ wy W2.heap.size v l:=fun hv=>bY hv fun g hg=>hb.same g (World.ownsRow.lt hv g hg).2 fun e=>BK hv h.mp (e ▸ hg)
 ⟨(hb.same OX h.ox.lt fun e=>h.ne e.symm).trans h.ox,hm,⟨k h.rw.s,k h.rw.n,k h.rw.r,h.rw.sn,h.rw.sr,h.rw.nr⟩,h.lo.trans (hb.below h.lo.size h.mg),h.og,h.mg⟩
end
end
end Go.Proofs.YtkjgogdkdejljaaGreatDoor.Df
