import Derived.Test.YtkjgogdkdejljaaGreatDoorDfE9
import Derived.Test.YtkjgogdkdejljaaGreatDoorTie
import Derived.Test.YtkjgogdkdejljaaGreatDoorCards
import Derived.Lib.SmallJoins
set_option maxRecDepth 100000
set_option maxHeartbeats 40000000
namespace Go.Proofs.YtkjgogdkdejljaaGreatDoor.AX
open Go
variable {H : Type} {enc : TypeId × Value → H} {P : Program} {w w' : World}
theorem jd{α β : Type}{f g : α→Option β} : ∀ {l:List α} {xs:List β},l.mapM f=some xs→(∀ a∈l,∀ y∈xs,f a=some y→g a=some y)→l.mapM g=some xs
 | [],xs,h,_=>by simpa using h
 | a::l,xs,h,hg=>by
  rw[List.mapM_cons] at h ⊢
  cases hf:f a with
  | none=>rw[hf] at h;cases h
  | some y =>
   rw[hf] at h
   cases hr:l.mapM f with
   | none=>simp[hr] at h
   | some ys =>
    simp[hr] at h;subst h;rw[hg a (List.mem_cons_self ..) y (List.mem_cons_self ..) hf];simp[jd hr fun b hb z hz=>hg b (List.mem_cons_of_mem _ hb) z (List.mem_cons_of_mem _ hz)]
theorem mapM_len{α β : Type}{f : α→Option β} : ∀ {l:List α} {xs:List β},l.mapM f=some xs→xs.length=l.length
 | [],xs,h=>by simp at h;subst h;rfl
 | a::l,xs,h=>by
  rw[List.mapM_cons] at h
  cases hf:f a with
  | none=>rw[hf] at h;cases h
  | some y =>
   rw[hf] at h
   cases hr:l.mapM f with
   | none=>simp[hr] at h
   | some ys =>
    simp[hr] at h;subst h;simp[mapM_len hr]
theorem pR{α β : Type}{o o':Option α}{f g : α→Option β}{y : β}(h:o.bind f=some y)(ho:∀ x,o=some x→o'=some x)(hf:∀ x,f x=some y→g x=some y):o'.bind g=some y:=by
 cases o with
 | none=>cases h
 | some x=>rw[ho x rfl];exact hf x h
theorem tZ{α β : Type}{o o':Option α}{f : α→β}{y : β}(h:o.map f=some y)(ho:∀ x,o=some x→f x=y→o'=some x):o'.map f=some y:=by
 cases o with
 | none=>cases h
 | some x =>
  have e:f x=y:=by simpa using h
  rw[ho x rfl e];simp[e]
def wO(w w':World):Prop:=∀(k:Nat)(o:Obj),w.heap[k]?=some o→w'.heap[k]?=some o
theorem wO.cell(h:wO w w'){a:Addr}{v:Value}(hc:w.cell? a=some v):w'.cell? a=some v:=by
 unfold World.cell? at hc ⊢
 cases hb:w.heap[a.block]? with
 | none=>simp[hb] at hc
 | some o=>rw[hb] at hc;rw[h _ _ hb];exact hc
theorem wO.cells(h:wO w w'){b:Nat}{a:Addr}{n:Nat}{l:List Value}(hc:w.cells? b a n=some l):w'.cells? b a n=some l:=by
 unfold World.cells? at hc ⊢;split at hc
 ·rename_i h0
  rw[if_pos h0];exact jd hc fun i _ y _ hy=>h.cell hy
 ·cases hc
def ug(P:Program)(l:List Nat):Bool:=l.all fun t=>match P.underlying t with
 | some (.pointer e)=>l.contains e
 | some (.slice e)=>l.contains e && !(Nat.beq (P.cellsOf e) 0)
 | some (.struct fs)=>fs.toList.all fun f=>l.contains f.type
 | some (.array _ e)=>l.contains e
 | some (.map _ e)=>l.contains e
 | _=>true
theorem Jt{l:List Nat}(h:ug P l=true){t:Nat}(ht:t∈l):(match P.underlying t with
 | some (.pointer e)=>l.contains e
 | some (.slice e)=>l.contains e && !(Nat.beq (P.cellsOf e) 0)
 | some (.struct fs)=>fs.toList.all fun f=>l.contains f.type
 | some (.array _ e)=>l.contains e
 | some (.map _ e)=>l.contains e
 | _=>true)=true:=List.all_eq_true.1 h t ht
theorem mem_row(a:Addr)(n:Nat)(h:0<n):MemPlace.cell a.block a.off∈MemPlace.row a n:=by
 unfold MemPlace.row;exact List.mem_map.2 ⟨0,List.mem_range.2 h,by simp⟩
theorem uh{α β : Type}{l:List (α×List β)}{y : α×List β}(hy:y∈l){p : β}(hp:p∈y.2):p∈l.flatMap (·.2):=List.mem_flatMap.2 ⟨y,hy,hp⟩
theorem MX(hk:wO w w'){l:List Nat}(hz:ug P l=true)(sp:Nat→Bool):∀(fuel:Nat)(t:TypeId),t∈l→∀(cs:List Value)(d:DataW H)(ps:List MemPlace),
  DataW.trod enc P w 0 (fun _=>true) true fuel t cs=some (d,ps)→(∀ p∈ps,sp p.block=true)→DataW.trod enc P w' 0 sp true fuel t cs=some (d,ps):=by
 intro fuel
 induction fuel with
 | zero=>intro t _ cs d ps h _;cases h
 | succ n ih =>
  intro t ht cs d ps h hp;have hc:=Jt hz ht;unfold DataW.trod at h ⊢;split at h
  case h_6 =>
   rename_i e a hu;rw[hu] at hc;have hc:e∈l:=(by simpa using hc);refine tZ h fun x hx he=>?_
   cases he
   exact pR hx (fun l hl=>hk.cells hl) fun l hl=>ih _ hc _ _ _ hl fun p hpp=>hp p (List.mem_append_right _ hpp)
  case h_8 =>
   rename_i e a len cap hu;rw[hu] at hc;simp only[Bool.and_eq_true] at hc;obtain⟨hc,hz0⟩:=hc;have hc:e∈l:=(by simpa using hc);have hz0:P.cellsOf e≠0:=(by intro h0;rw[h0] at hz0;cases hz0);split at h
   ·rename_i h0
    rw[if_pos h0]
    cases hE:(List.range len).mapM fun i=>(w.cells? 0 (a.add (i*P.cellsOf e)) (P.cellsOf e)).bind (DataW.trod enc P w 0 (fun _=>true) true n e) with
    | none=>simp[hE] at h
    | some elems =>
     cases hR:(List.range (cap-len)).mapM fun j=>(w.cells? 0 (a.add ((len+j)*P.cellsOf e)) (P.cellsOf e)).bind (DataW.trod enc P w 0 (fun _=>true) true n e) with
     | none=>simp[hE,hR] at h
     | some rest =>
      simp[hE,hR] at h;obtain⟨h1,h2⟩:=h;have hE':((List.range len).mapM fun i=>(w'.cells? 0 (a.add (i*P.cellsOf e)) (P.cellsOf e)).bind (DataW.trod enc P w' 0 sp true n e))=some elems :=
       jd hE fun i _ y hy h=>pR h (fun l hl=>hk.cells hl) fun l hl=>ih _ hc _ _ _ hl fun p hpp=>hp p (by
        rw[←h2];exact List.mem_append_right _ (List.mem_append_left _ (uh hy hpp)))
      have hR':((List.range (cap-len)).mapM fun j=>(w'.cells? 0 (a.add ((len+j)*P.cellsOf e)) (P.cellsOf e)).bind (DataW.trod enc P w' 0 sp true n e))=some rest :=
       jd hR fun i _ y hy h=>pR h (fun l hl=>hk.cells hl) fun l hl=>ih _ hc _ _ _ hl fun p hpp=>hp p (by
        rw[←h2];exact List.mem_append_right _ (List.mem_append_right _ (uh hy hpp)))
      have acY:sp a.block=true∨rest = []:=by
       by_cases hr:rest = []
       ·exact .inr hr
       ·refine .inl (hp (.cell a.block a.off) ?_)
        rw[←h2];refine List.mem_append_left _ (mem_row _ _ ?_);have:0<rest.length:=List.length_pos_iff.2 hr;exact Nat.mul_pos (by omega) (Nat.pos_of_ne_zero hz0)
      rcases acY with hs | rfl
      ·simp[hE',hR',hs,h1,h2]
      ·have hl0:cap-len=0:=by
        have:=mapM_len hR;simp at this;omega
       rw[hl0];simp[hE'];exact⟨h1,by simpa using h2⟩
   ·cases h
  case h_9 =>
   rename_i fs hu;rw[hu] at hc;have hc:∀ f∈fs.toList,f.type∈l:=fun f hf=>by simpa using List.all_eq_true.1 hc f hf
   split at h
   ·rename_i h0
    rw[if_pos h0];refine tZ h fun x hx he=>?_
    cases he
    exact jd hx fun f hfm y hy hf=>ih _ (hc f hfm) _ _ _ hf fun p hpp=>hp p (uh hy hpp)
   ·cases h
  case h_10 =>
   rename_i m e hu;rw[hu] at hc;have hc:e∈l:=(by simpa using hc);split at h
   ·rename_i h0
    rw[if_pos h0];refine tZ h fun x hx he=>?_
    cases he
    exact jd hx fun f _ y hy hf=>ih _ hc _ _ _ hf fun p hpp=>hp p (uh hy hpp)
   ·cases h
  case h_14 =>
   rename_i k e b hu;rw[hu] at hc;have hc:e∈l:=(by simpa using hc);split at h
   ·rename_i es clock hb
    rw[hk _ _ hb];simp only;split at h
    ·rename_i h0
     rw[if_pos h0]
     cases hE:es.toList.mapM (fun x=>(keyOf P k x.key).bind fun key=>if x.val.formed P e then (DataW.trod enc P w 0 (fun _=>true) true n e x.val.cells.toList).map fun y=>((key,y.1),y.2) else none) with
     | none=>simp only[hE,Option.bind_none] at h;cases h
     | some entries =>
      simp only[hE,Option.bind_some] at h;split at h
      ·rename_i hr
       cases h
       have hE':es.toList.mapM (fun x=>(keyOf P k x.key).bind fun key=>if x.val.formed P e then (DataW.trod enc P w' 0 sp true n e x.val.cells.toList).map fun y=>((key,y.1),y.2) else none)=some entries:=by
        refine jd hE fun x _ y hy hx=>pR hx (fun _ h=>h) fun key hkk=>?_;split at hkk
        ·rename_i hfm
         rw[if_pos hfm];refine tZ hkk fun z hz he=>?_;exact ih _ hc _ _ _ hz fun p hpp=>hp p (List.mem_cons_of_mem _ (List.mem_flatMap.2 ⟨y,hy,by rw[←he];exact hpp⟩))
        ·cases hkk
       simp only[hE',Option.bind_some];rw[if_pos hr]
      ·cases h
    ·cases h
   ·cases h
  all_goals first
   | exact h
   | cases h
theorem MZ(hk:wO w w'){l:List Nat}(hz:ug P l=true){sp:Nat→Bool}{t:TypeId}(ht:t∈l){v:Value}{d:DataW H}{ps:List MemPlace}(h:DataW.Trod enc P w 0 (fun _=>true) true t v d ps)(hp:∀ p∈ps,sp p.block=true) :
  DataW.Trod enc P w' 0 sp true t v d ps:=by
 obtain⟨n,h⟩:=h;exact⟨n,MX hk hz sp n _ ht _ _ _ h hp⟩
theorem uj(hk:wO w w'){l:List Nat}(hz:ug P l=true){sp:Nat→Bool} : ∀ {ts:List TypeId} {vs:List Value} {ds:List (DataW H)} {ps:List MemPlace},(∀ t∈ts,t∈l)→DataW.TrodAll enc P w 0 (fun _=>true) true ts vs ds ps →
  (∀ p∈ps,sp p.block=true)→DataW.TrodAll enc P w' 0 sp true ts vs ds ps
 | [],[],[],_,_,h,_=>h
 | t::ts,v::vs,d::ds,ps,ht,h,hp=>by
  obtain⟨p,q,h1,h2,rfl⟩:=h;exact⟨p,q,MZ hk hz (ht t (List.mem_cons_self ..)) h1 fun x hx=>hp x (List.mem_append_left _ hx),uj hk hz (fun t h=>ht t (List.mem_cons_of_mem _ h)) h2 fun x hx=>hp x (List.mem_append_right _ hx),rfl⟩
 | [],[],_::_,_,_,h,_=>h.elim
 | [],_::_,_,_,_,h,_=>h.elim
 | _::_,[],_,_,_,h,_=>h.elim
 | _::_,_::_,[],_,_,h,_=>h.elim
theorem Kept.aaE(k:Kept w w'):wO w w':=k.block
theorem Cb{f:Func}{s:ChangeSpec}{apart fresh handsOn again:Bool}{W W':World}{args:Array Value}{v:Value}{ds:List (DataW H)}{before:List MemPlace}{l:List Nat}(hz:ug P l=true)(hl:∀ t∈f.params.toList,t∈l)
  (hW:DataW.Whole enc P f.params.toList s.vars apart W args.toList ds [] before)
  (hres:∀(b:Nat)(sp:Nat→Bool)(hd:Bool),DataW.TrodAll enc P W' b sp hd f.resultTypes.toList (v.resultList f.resultTypes.size) (s.fn H (ds++[])).results [])
  (hargs:(s.fn H (ds++[])).args=ds) (hv:s.vars = []) (hvars:(s.fn H (ds++[])).vars = []) (hk:Kept W W')
  (hok:∀(j:Nat)(t:TypeId)(r:Value),f.resultTypes[j]?=some t→(v.resultList f.resultTypes.size)[j]?=some r→Value.okWide P W' .any 0 t r) :
  s.post enc P f apart fresh handsOn again W args v W':=by
 have hW':=hW;obtain⟨p,q,hA,hV,rfl,_,_⟩:=hW';rw[hv] at hV;obtain rfl:q = []:=hV;exact Du (pa:=p) (pv:=[]) hW hres (fun sp hsp=>by rw[hargs];exact uj hk.aaE hz hl hA fun x hx=>hsp x (List.mem_append_left _ hx))
  (fun sp _=>by rw[hv,hvars];exact rfl) rfl hk hok
end Go.Proofs.YtkjgogdkdejljaaGreatDoor.AX
namespace Go.Proofs.YtkjgogdkdejljaaGreatDoor.Df
open Go Go.Proofs Go.ChangeShapes Go.WideShapes Go.ChangeAt Go.RowKit
theorem own:ownKnob Tryz.prog.godebug=none:=by kernel_rfl
def laid1:List (String×DataW Unit):=[("math/bits.deBruijn64tab",Rows.laid_math_bits_deBruijn64tab)]
theorem door_met(os:Os)(args:Array Value):laidMetH Tryz.prog laid1 ((World.doorLaid Tryz.prog 14 os).forCall (fun _ _=>0) ⟨#[],args,[]⟩).memory :=
 laidMetH_of_parts3 (fuel:=8) (laidMet_of_run' 8 (by kernel_rfl) (by kernel_rfl)) (by kernel_rfl) (by kernel_rfl)
theorem zi{w w':World}(h:Below w.heap.size w w'):AX.Kept w w':=⟨h.os,h.output,h.tape,fun k _ hk=>(h.block k (Array.getElem?_eq_some_iff.1 hk).1).trans hk⟩
theorem Pg:∀ j:Fin 64,nums[j.val]?=some ((Lib.deBruijn64tab.getD j.val 0:Nat):Int):=by decide +kernel
theorem Ph{W:World}(h:AX.uM W 0 .u8 nums):0<W.heap.size∧TabAt W:=by
 obtain⟨cs,e,fz,h1,h2⟩:=h;refine⟨(Array.getElem?_eq_some_iff.1 h1).1,fun j hj=>?_⟩;have h3:W.cell? ⟨0,j,none⟩=cs[j]?:=by simp[World.cell?,h1]
 rw[h3,←Array.getElem?_toList,h2,List.getElem?_map,Pg ⟨j,hj⟩];rfl
theorem wK{α : Type}{p:Nat→α→Prop} : ∀ n,(∀ i,i<n→∃ x,p i x)→∃ l:List α,l.length=n∧∀ i (h:i<l.length),p i l[i]
 | 0,_=>⟨[],rfl,fun i h=>by cases h⟩
 | n+1,h=>by
  obtain⟨l,hl,hp⟩:=wK n fun i hi=>h i (by omega);obtain⟨x,hx⟩:=h n (Nat.lt_succ_self n);refine⟨l++[x],by simp[hl],fun i hi=>?_⟩
  by_cases e:i<l.length
  ·rw[List.getElem_append_left e];exact hp i e
  ·have e2:i=l.length:=by simp at hi;omega
   subst e2;rw[List.getElem_append_right Nat.le.refl]
   simpa[hl] using hx
section
variable {H : Type} {enc : TypeId × Value → H} {w : World} {base : Nat} {sp : Nat → Bool} {held : Bool}
theorem abZ:Tryz.prog.cellsOf 35=3:=by kernel_rfl
theorem hc9:Tryz.prog.cellsOf 9=1:=by kernel_rfl
theorem hc4:Tryz.prog.cellsOf 4=1:=by kernel_rfl
theorem J8{n:Nat}{c:Value}{y:DataW H×List MemPlace}(h:DataW.trod enc Tryz.prog w base sp held n 9 [c]=some y):∃ s:ByteArray,c = .string s:=by
 obtain⟨s,h1,_⟩:=DataW.trod_string Tryz.underlying9 h;exact⟨s,by simpa using h1⟩
theorem Pj{n:Nat}{c:Value}{y:DataW H×List MemPlace}(h:DataW.trod enc Tryz.prog w base sp held n 4 [c]=some y):∃ b:Bool,c = .bool b:=by
 obtain⟨s,h1,_⟩:=DataW.trod_bool Tryz.underlying4 h;exact⟨s,by simpa using h1⟩
theorem zk{r:Reach}{b0:Nat}{v:Value}{d:DataW H}{p:List MemPlace}(hv:Value.okWide Tryz.prog w r b0 22 v)(h:DataW.Trod enc Tryz.prog w base sp held 22 v d p) :
  ∃(la:Option Addr)(R:List Rl)(c:Nat),v = .slice la R.length c∧R.length≤9223372036854775807∧uZ w la R:=by
 simp only[Value.okWide,Tryz.underlying22] at hv;obtain⟨sa,sn,sc,rfl⟩:∃ a n c,v = .slice a n c:=by cases v<;>first | exact⟨_,_,_,rfl⟩ | exact hv.elim
 obtain⟨fuel,hf⟩:=h;rcases Deep.open_slice Tryz.underlying22 hf with ⟨h1,_⟩ | ⟨a,len,cap,m,n,D,Pl,h1,_,hl,hcap,hm,_,hx⟩
 ·simp[Value.cells] at h1
  obtain⟨rfl,rfl,rfl⟩:=h1;exact⟨none,[],0,rfl,Nat.zero_le _,fun i x h=>by simp at h⟩
 ·simp[Value.cells] at h1
  obtain⟨rfl,rfl,rfl⟩:=h1;have hle:sn≤m:=by rw[hm];split<;>omega
  obtain⟨l,hlen,hk⟩:=wK (p:=fun i (x:Rl)=>w.cell? ((a.add (i*3)).add 0)=some (.string x.nm)∧w.cell? ((a.add (i*3)).add 1)=some (.string x.re)∧w.cell? ((a.add (i*3)).add 2)=some (.bool x.tr)) sn fun i hi=>by
   obtain⟨cs',h2,h3⟩:=hx i (by omega);rw[abZ] at h2;obtain⟨_,hlen,hcell⟩:=World.cells?_some h2;obtain⟨c0,c1,c2,rfl⟩:∃ c0 c1 c2,cs' = [c0,c1,c2]:=by
    match cs',hlen with
    | [c0,c1,c2],_=>exact⟨c0,c1,c2,rfl⟩
   obtain⟨y0,y1,y2,n',_,_,g0,g1,g2⟩:=Deep.trod_struct3 Tryz.underlying35 h3;simp only[hc9,hc4] at g0 g1 g2;obtain⟨s0,rfl⟩:=J8 g0;obtain⟨s1,rfl⟩:=J8 g1;obtain⟨s2,rfl⟩:=Pj g2;exact⟨⟨s0,s1,s2⟩,hcell 0 (by simp),hcell 1 (by simp),hcell 2 (by simp)⟩
  subst hlen;refine⟨some a,l,sc,rfl,by unfold maxLen at hcap;omega,fun i x hx=>?_⟩;obtain⟨hi,rfl⟩:=List.getElem?_eq_some_iff.1 hx;obtain⟨k0,k1,k2⟩:=hk i hi;obtain⟨kz,_,_⟩:=hk 0 (by omega);have ez:(a.add (0*3)).add 0=a:=by simp[Addr.add]
  rw[ez] at kz;have hsp:=World.cell?_spot kz;have hlt:=block_lt_of_cell kz;obtain⟨B,off,spot⟩:=a;simp only at hsp hlt;subst hsp;have hB:B<w.heap.size:=hlt;rw[addr_add,addr_add] at k0 k1 k2;exact⟨B,off,rfl,hB,k0,k1,k2⟩
end
end Go.Proofs.YtkjgogdkdejljaaGreatDoor.Df
