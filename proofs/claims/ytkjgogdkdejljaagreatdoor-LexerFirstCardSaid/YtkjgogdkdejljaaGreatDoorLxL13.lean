import Derived.Test.YtkjgogdkdejljaaGreatDoorLxL5
set_option maxRecDepth 100000
set_option maxHeartbeats 40000000
namespace Go.Proofs.YtkjgogdkdejljaaGreatDoor.Lx
section
def dK(next rule:List Int)(t:List Nat):Nat->Nat->Nat->Int->Nat->Int×Nat×Nat
 | 0,i,_,r,tzo=>(r,tzo,i+1)
 | f+1,i,st,r,tzo=>if i<t.length then
   let s:=next.getD (256*st+t.getD i 0) 0
   if s<0 then (r,tzo,i+1)else
   let u:=rule.getD s.toNat 0
   if 0<=u then dK next rule t f (i+1) s.toNat u (i+1)else dK next rule t f (i+1) s.toNat r tzo
  else (r,tzo,i+1)
structure Tk where
 k:Int
 f:Nat
 a:Nat
 t:Nat
 e:Nat
def iC(next rule:List Int)(t:List Nat)(at_:Nat):Int×Nat×Nat:=dK next rule t (t.length-at_) at_ 0 (-1) (at_+1)
def tokF(next rule kind:List Int)(t:List Nat)(from_:Nat):Nat->Nat->Nat->Tk
 | 0,_,_=>⟨-2,from_,t.length,t.length,t.length+1⟩
 | f+1,at_,ext=>if at_<t.length then
   let x:=iC next rule t at_
   let k:=if x.1<0 then -1 else kind.getD x.1.toNat 0
   if x.1<0\/0<=k then ⟨k,from_,at_,x.2.1,max (max ext x.2.2) (x.2.1+1)⟩else tokF next rule kind t from_ f x.2.1 (max ext x.2.2)
  else ⟨-2,from_,t.length,t.length,t.length+1⟩
def dZ(next rule kind:List Int)(t:List Nat)(at_:Nat):Tk:=tokF next rule kind t at_ (t.length-at_) at_ 0
def wH(next rule kind:List Int)(t:List Nat):Nat->Nat->List Tk
 | 0,at_=>[dZ next rule kind t at_]
 | f+1,at_=>if (dZ next rule kind t at_).k = -2 then [dZ next rule kind t at_]else dZ next rule kind t at_::wH next rule kind t f (dZ next rule kind t at_).t
def jc(next rule kind:List Int)(t:List Nat)(at_:Nat):List Tk:=wH next rule kind t (t.length-at_) at_
structure Fits(next rule kind:List Int)(kinds:Int):Prop where
 r1:1<=rule.length
 nl:next.length=256*rule.length
 bd:∀x∈next,-1<=x/\x<rule.length
 br:∀x∈rule,-1<=x/\x<16/\x<kind.length
 bk:∀x∈kind,-1<=x/\x<kinds
 k16:0<=kinds/\kinds<=16
theorem getD_mem{l:List Int}{i:Nat}(h:i<l.length):l.getD i 0∈l:=by
 rw[show l.getD i 0=l[i]by simp[h]];exact agu h
section
variable {next rule kind : List Int} {kinds : Int} {t : List Nat}
theorem Ap(H:Fits next rule kind kinds)(ht:∀b∈t,b<256):∀(f i st:Nat)(r:Int)(tzo:Nat),st<rule.length->f=t.length-i->i<=t.length->tzo<=t.length\/tzo<=i+1 ->
  -1<=r->r<16->r<kind.length ->
  (-1<=(dK next rule t f i st r tzo).1/\(dK next rule t f i st r tzo).1<16/\(dK next rule t f i st r tzo).1<kind.length)/\(min tzo (i+1)<=(dK next rule t f i st r tzo).2.1) /\
   i+1<=(dK next rule t f i st r tzo).2.2/\(dK next rule t f i st r tzo).2.2<=t.length+1
 | 0,i,st,r,tzo,hst,hf,hi,hto,h1,h2,h3=>by
  unfold dK;exact⟨⟨h1,h2,h3⟩,Nat.min_le_left _ _,agq _,by show i+1<=t.length+1;omega⟩
 | f+1,i,st,r,tzo,hst,hf,hi,hto,h1,h2,h3=>by
  unfold dK;have hlt:i<t.length:=by omega
  rw[afR hlt];have hb:t.getD i 0<256:=by
   rw[show t.getD i 0=t[i]by simp[hlt]];exact ht _ (agu hlt)
  have hix:256*st+t.getD i 0<next.length:=by have:=H.nl;omega
  have hs:=H.bd _ (getD_mem hix);generalize next.getD (256*st+t.getD i 0) 0=s at *
  simp only;split
  ·exact⟨⟨h1,h2,h3⟩,Nat.min_le_left _ _,agq _,by show i+1<=t.length+1;omega⟩
  ·rename_i hs0
   have hsl:s.toNat<rule.length:=(by omega);have hu:=H.br _ (getD_mem hsl);generalize rule.getD s.toNat 0=u at *;split
   ·have:=Ap H ht f (i+1) s.toNat u (i+1) hsl (by omega) (by omega) (.inl (by omega)) (by omega) hu.2.1 hu.2.2
    exact⟨this.1,by omega,by omega,this.2.2.2⟩
   ·have:=Ap H ht f (i+1) s.toNat r tzo hsl (by omega) (by omega) (by omega) h1 h2 h3
    exact⟨this.1,by omega,by omega,this.2.2.2⟩
theorem Aq(H:Fits next rule kind kinds)(ht:∀b∈t,b<256):∀(f i st:Nat)(r:Int)(tzo:Nat),st<rule.length->f=t.length-i->tzo<=t.length->(dK next rule t f i st r tzo).2.1<=t.length
 | 0,i,st,r,tzo,hst,hf,hto=>by unfold dK;exact hto
 | f+1,i,st,r,tzo,hst,hf,hto=>by
  unfold dK;have hlt:i<t.length:=by omega
  rw[afR hlt];have hb:t.getD i 0<256:=by
   rw[show t.getD i 0=t[i]by simp[hlt]];exact ht _ (agu hlt)
  have hix:256*st+t.getD i 0<next.length:=by have:=H.nl;omega
  have hs:=H.bd _ (getD_mem hix);generalize next.getD (256*st+t.getD i 0) 0=s at *
  simp only;split
  ·exact hto
  ·rename_i hs0
   have hsl:s.toNat<rule.length:=(by omega);split
   ·exact Aq H ht f (i+1) s.toNat _ (i+1) hsl (by omega) (by omega)
   ·exact Aq H ht f (i+1) s.toNat r tzo hsl (by omega) hto
theorem zB(H:Fits next rule kind kinds)(ht:∀b∈t,b<256){i:Nat}(hi:i<t.length):
  -1<=(iC next rule t i).1/\(iC next rule t i).1<16/\(iC next rule t i).1<kind.length/\i+1<=(iC next rule t i).2.1/\(iC next rule t i).2.1<=t.length/\i+1<=(iC next rule t i).2.2/\(iC next rule t i).2.2<=t.length+1:=by
 have hk:(-1:Int)<kind.length:=by omega
 have h1:=Ap H ht (t.length-i) i 0 (-1) (i+1) (by have:=H.r1;omega) rfl (by omega) (.inr afD) (by omega) (by omega) hk;have h2:=Aq H ht (t.length-i) i 0 (-1) (i+1) (by have:=H.r1;omega) rfl (by omega);unfold iC;exact⟨h1.1.1,h1.1.2.1,h1.1.2.2,by omega,h2,h1.2.2.1,h1.2.2.2⟩
theorem LY(H:Fits next rule kind kinds)(ht:∀b∈t,b<256)(fr:Nat)(hfr:fr<=t.length):∀(f i e:Nat),t.length-i<=f->fr<=i->i<=t.length->e<=t.length+1 ->
  (tokF next rule kind t fr f i e).f=fr /\ -2<=(tokF next rule kind t fr f i e).k/\(tokF next rule kind t fr f i e).k<16/\fr<=(tokF next rule kind t fr f i e).a/\(tokF next rule kind t fr f i e).a<=(tokF next rule kind t fr f i e).t/\(tokF next rule kind t fr f i e).t<=t.length /\
   (tokF next rule kind t fr f i e).e<=t.length+1/\((tokF next rule kind t fr f i e).k ≠ -2->i+1<=(tokF next rule kind t fr f i e).t)
 | 0,i,e,hf,hfi,hi,he=>by
  unfold tokF;exact⟨rfl,by simp,by simp,hfr,agq _,agq _,agq _,fun h=>absurd rfl h⟩
 | f+1,i,e,hf,hfi,hi,he=>by
  unfold tokF
  by_cases hlt:i<t.length
  ·rw[afR hlt]
   have hx:=zB H ht hlt;generalize iC next rule t i=x at *
   obtain⟨r,tzo,ex⟩:=x;simp only at hx⊢;obtain⟨x1,x2,x3,x4,x5,x6,x7⟩:=hx
   by_cases hr:r<0
   ·rw[afR (.inl hr)]
    simp only[afR hr];exact⟨trivial,by omega,by omega,by omega,by omega,by omega,by omega,fun _=>by omega⟩
   ·have hrl:r.toNat<kind.length:=by omega
    have hk:=H.bk _ (getD_mem hrl);have SI:=H.k16;rw[afO hr];generalize kind.getD r.toNat 0=k at *;split
    ·simp only
     exact⟨trivial,by omega,by omega,by omega,by omega,by omega,by omega,fun _=>by omega⟩
    ·have:=LY H ht fr hfr f tzo (max e ex) (by omega) (by omega) (by omega) (by omega)
     exact⟨this.1,this.2.1,this.2.2.1,this.2.2.2.1,this.2.2.2.2.1,this.2.2.2.2.2.1,this.2.2.2.2.2.2.1,fun h=>by have:=this.2.2.2.2.2.2.2 h;omega⟩
  ·rw[afO hlt]
   exact⟨rfl,by simp,by simp,hfr,agq _,agq _,agq _,fun h=>absurd rfl h⟩
theorem vN(H:Fits next rule kind kinds)(ht:∀b∈t,b<256){i:Nat}(hi:i<=t.length):
  (dZ next rule kind t i).f=i /\ -2<=(dZ next rule kind t i).k/\(dZ next rule kind t i).k<16/\i<=(dZ next rule kind t i).a/\(dZ next rule kind t i).a<=(dZ next rule kind t i).t/\(dZ next rule kind t i).t<=t.length /\
   (dZ next rule kind t i).e<=t.length+1/\((dZ next rule kind t i).k ≠ -2->i+1<=(dZ next rule kind t i).t):=
 LY H ht i hi _ i 0 afD afD hi (af0 _)
theorem wG(f i e:Nat)(fr:Nat)(hi:i<t.length):tokF next rule kind t fr (f+1) i e=if (iC next rule t i).1<0\/0<=(if (iC next rule t i).1<0 then -1 else kind.getD (iC next rule t i).1.toNat 0)then
  ⟨if (iC next rule t i).1<0 then -1 else kind.getD (iC next rule t i).1.toNat 0,fr,i,(iC next rule t i).2.1,max (max e (iC next rule t i).2.2) ((iC next rule t i).2.1+1)⟩
  else tokF next rule kind t fr f (iC next rule t i).2.1 (max e (iC next rule t i).2.2):=by
 rw[tokF,afR hi]
theorem DF(H:Fits next rule kind kinds)(ht:∀b∈t,b<256)(fr:Nat):∀(f g i e:Nat),t.length-i<=f->t.length-i<=g->i<=t.length->tokF next rule kind t fr f i e=tokF next rule kind t fr g i e
 | 0,0,_,_,_,_,_=>rfl
 | 0,g+1,i,e,hf,_,hi=>by
  have hlt:¬i<t.length:=by omega
  rw[tokF,tokF,afO hlt]
 | f+1,0,i,e,_,hg,hi=>by
  have hlt:¬i<t.length:=by omega
  rw[tokF,tokF,afO hlt]
 | f+1,g+1,i,e,hf,hg,hi=>by
  by_cases hlt:i<t.length
  ·have hx:=zB H ht hlt
   rw[wG f i e fr hlt,wG g i e fr hlt];rw[DF H ht fr f g _ _ (by omega) (by omega) (by omega)]
  ·rw[tokF,tokF,afO hlt,afO hlt]
theorem DL(H:Fits next rule kind kinds)(ht:∀b∈t,b<256):∀(f g i:Nat),t.length-i<=f->t.length-i<=g->i<=t.length->wH next rule kind t f i=wH next rule kind t g i
 | 0,0,_,_,_,_=>rfl
 | 0,g+1,i,hf,_,hi=>by
  have hk:(dZ next rule kind t i).k = -2:=by
   have:t.length-i=0:=(by omega);unfold dZ;rw[this,tokF]
  rw[wH,wH,afR hk]
 | f+1,0,i,_,hg,hi=>by
  have hk:(dZ next rule kind t i).k = -2:=by
   have:t.length-i=0:=(by omega);unfold dZ;rw[this,tokF]
  rw[wH,wH,afR hk]
 | f+1,g+1,i,hf,hg,hi=>by
  rw[wH,wH];split
  ·rfl
  ·rename_i hk
   have:=vN H ht hi;have h8:=this.2.2.2.2.2.2.2 hk;rw[DL H ht f g _ (by omega) (by omega) this.2.2.2.2.2.1]
theorem sU(H:Fits next rule kind kinds)(ht:∀b∈t,b<256){i:Nat}(hi:i<=t.length):jc next rule kind t i=if (dZ next rule kind t i).k = -2 then [dZ next rule kind t i]else dZ next rule kind t i::jc next rule kind t (dZ next rule kind t i).t:=by
 have hb:=vN H ht hi
 by_cases hk:(dZ next rule kind t i).k = -2
 ·rw[afR hk]
  unfold jc
  cases h:t.length-i with
  | zero=>rw[wH]
  | succ f=>rw[wH,afR hk]
 ·rw[afO hk]
  have h8:=hb.2.2.2.2.2.2.2 hk;have h6:=hb.2.2.2.2.2.1;unfold jc;obtain⟨f,hf⟩:∃f,t.length-i=f+1:=⟨t.length-i-1,by omega⟩;rw[hf,wH,afO hk]
  congr 1
  exact DL H ht _ _ _ (by omega) afD h6
theorem Ak(H:Fits next rule kind kinds)(ht:∀b∈t,b<256):∀(n i:Nat),t.length-i<=n->i<=t.length->(jc next rule kind t i).length<=t.length-i+1
 | 0,i,hn,hi=>by
  rw[sU H ht hi];have:(dZ next rule kind t i).k = -2:=by
   have:t.length-i=0:=(by omega);unfold dZ;rw[this,tokF]
  rw[afR this];simp
 | n+1,i,hn,hi=>by
  rw[sU H ht hi];have hb:=vN H ht hi;split
  ·simp
  ·rename_i hk
   have h8:=hb.2.2.2.2.2.2.2 hk;have h6:=hb.2.2.2.2.2.1;have:=Ak H ht n (dZ next rule kind t i).t (by omega) h6;rw[agl];omega
end
end
section
open Go Go.Proofs Go.RowKit
attribute [local go_sem] Oper.semAt_some
def Bx(w:World)(g:Nat)(t:TypeId)(cs:Array Value):Prop:=w.heap[g]?=some (.cells cs t (0,0))
theorem Bx.lt{w:World}{g:Nat}{t:TypeId}{cs:Array Value}(h:Bx w g t cs):g<w.heap.size:=(afF.1 h).1
theorem Bx.cell{w:World}{g:Nat}{t:TypeId}{cs:Array Value}(h:Bx w g t cs)(i:Nat):w.cell? ⟨g,i,none⟩=cs[i]?:=cell_of_row w g i cs t (0,0) h
theorem Bx.frozen{w:World}{g:Nat}{t:TypeId}{cs:Array Value}(h:Bx w g t cs)(i:Nat):w.frozen? ⟨g,i,none⟩=false:=by simp[World.frozen?,show w.heap[g]?=_ from h]
theorem Bx.new(w:World)(t:TypeId)(cs:Array Value):Bx (w.alloc (.cells cs t)) w.heap.size t cs:=World.alloc_heap_new w _
theorem Bx.below{n:Nat}{w w':World}{g:Nat}{t:TypeId}{cs:Array Value}(h:Bx w g t cs)(hb:Below n w w')(hn:g<n):Bx w' g t cs:=(hb.block _ hn).trans h
theorem Bx.alloc{w:World}{g:Nat}{t:TypeId}{cs:Array Value}(h:Bx w g t cs)(o:Obj):Bx (w.alloc o) g t cs:=(Below.heap_alloc w o _ h.lt).trans h
theorem Bx.set{w:World}{g:Nat}{t:TypeId}{cs:Array Value}(h:Bx w g t cs)(i:Nat)(u:Value):Bx (w.setCell ⟨g,i,none⟩ u) g t (cs.setIfInBounds i u):=heap_setCell_same w g i cs t u h
theorem Bx.other{w:World}{g g' i:Nat}{t:TypeId}{cs:Array Value}{u:Value}(h:Bx w g t cs)(hne:g≠g'):Bx (w.setCell ⟨g',i,none⟩ u) g t cs:=(Below.heap_setCell _ _ _ _ hne).trans h
def sb(s:ByteArray):List Nat:=s.data.toList.map UInt8.toNat
theorem dS(s:ByteArray):(sb s).length=s.size:=by simp[sb]
theorem zH(s:ByteArray):∀b∈sb s,b<256:=fun b hb=>by
 obtain⟨u,_,hu⟩:=agv.1 hb;have:=ahZ u;omega
theorem Ko(s:ByteArray)(i:Nat)(h:i<s.size):(sb s).getD i 0=s[i].toNat:=by
 have:i<s.data.size:=h;simp only[sb,List.getD,af8,Array.getElem?_toList];rw[agD this];rfl
def scV(a l s r f t e:Int)(b d:Bool):Value:=.agg #[.int .i64 a,.int .i64 l,.int .i64 s,.int .i64 r,.int .i64 f,.int .i64 t,.int .i64 e,.bool b,.bool d]
def scC(a l s r f t e:Int)(b d:Bool):Array Value:=#[.int .i64 a,.int .i64 l,.int .i64 s,.int .i64 r,.int .i64 f,.int .i64 t,.int .i64 e,.bool b,.bool d]
theorem V5(a:Nat)(ha:a<=1000000)(w:World):Calls Tryz.prog 135 #[.int .i64 a] w fun e w'=>e=.returned (scV a 0 0 (-1) a (a+1) 0 true false)/\Below w.heap.size w w':=by
 unfold scV;go_enter Tryz.func135,Tryz.ntmps135
 go_wp2
 exact afJ (v:=.agg #[.int .i64 a,.int .i64 0,.int .i64 0,.int .i64 (-1),.int .i64 a,.int .i64 (a+1),.int .i64 0,.bool true,.bool false]) (by simp[results,Tryz.results135,go_sem]) rfl ⟨rfl,(afI _ w).alloc afD _⟩
section
variable {next rule : List Int} {an ar : Option Addr} {cn cr : Nat} {w : World}
theorem SV(s:ByteArray)(a l:Nat)(st:Int)(r f t e:Int)(hi:a+l=s.size)(hs:s.size<=1000000):
  Calls Tryz.prog 136 #[scV a l st r f t e true false,.agg #[.slice an next.length cn,.slice ar rule.length cr],.string s] w fun en w'=>en=.returned (scV a (l+1) st r f t (s.size+1) true true)/\Below w.heap.size w w':=by
 unfold scV;have hz:(a:Int)+(l:Int)=(s.size:Int):=by omega
 have hal:(a:Int)<=1000000:=by omega
 have hll:(l:Int)<=1000000:=by omega
 have ha0:(0:Int)<=(a:Int):=by omega
 have hl0:(0:Int)<=(l:Int):=by omega
 have hs1:(s.size:Int)<=1000000:=by omega
 generalize next.length=N at *
 generalize rule.length=R at *;clear hi;go_enter Tryz.func136,Tryz.ntmps136
 go_wp2
 exact afJ (v:=.agg #[.int .i64 a,.int .i64 (l+1),.int .i64 st,.int .i64 r,.int .i64 f,.int .i64 t,.int .i64 (s.size+1),.bool true,.bool true]) (by simp[results,Tryz.results136,go_sem]) rfl ⟨rfl,(((afI _ w).alloc afD _).alloc (by simp) _).alloc (by simp;omega) _⟩
theorem look_in(hN:aH w an next)(hR:aH w ar rule)(s:ByteArray)(a l st:Nat)(r f t e:Int)(hi:a+l<s.size)(hs:s.size<=1000000)(hst:st<rule.length)(hr:rule.length<=512)(hnl:next.length=256*rule.length)
  (x:Int) (hx:x=next.getD (256*st+(sb s).getD (a+l) 0) 0) (hxr:x<rule.length):
  Calls Tryz.prog 136 #[scV a l st r f t e true false,.agg #[.slice an next.length cn,.slice ar rule.length cr],.string s] w fun en w' =>
   en=.returned (if x<0 then scV a (l+1) x r f t (a+l+1) true true else if 0<=rule.getD x.toNat 0 then scV a (l+1) x (rule.getD x.toNat 0) f (a+l+1) (a+l+1) true false else scV a (l+1) x r f t (a+l+1) true false)/\Below w.heap.size w w':=by
 have hb:(sb s).getD (a+l) 0<256:=by
  rw[Ko s _ hi];exact ahZ _
 have hlt:256*st+(sb s).getD (a+l) 0<next.length:=by omega
 obtain⟨b1,o1,rfl,hb1,hc1⟩:=hN.get hlt;rw[<-hx]at hc1;rw[Ko s _ hi]at hc1 hb hlt;have hal:(a:Int)<=1000000:=by omega
 have hll:(l:Int)<=1000000:=by omega
 have ha0:(0:Int)<=(a:Int):=by omega
 have hl0:(0:Int)<=(l:Int):=by omega
 have hs1:(s.size:Int)<=1000000:=by omega
 have hlt1:(a:Int)+(l:Int)<(s.size:Int):=by omega
 have hne:((a:Int)+(l:Int) == (s.size:Int))=false:=by simp;omega
 have htn:((a:Int)+(l:Int)).toNat=a+l:=by omega
 obtain⟨c,hc⟩:∃c,s[a+l].toNat=c:=⟨_,rfl⟩;rw[hc]at hc1 hb hlt;have hp0:(0:Int)<=(a:Int)+(l:Int):=by omega
 have hc0:(0:Int)<=(c:Int):=by omega
 have hc2:(c:Int)<256:=by omega
 have hs0:(0:Int)<=(st:Int):=by omega
 have hs5:(st:Int)<512:=by omega
 have hq:256*(st:Int)+(c:Int)<(next.length:Int):=by omega
 have htq:(256*(st:Int)+(c:Int)).toNat=256*st+c:=by omega
 have hbw:b1<w.heap.size:=hb1;clear hx hb1 hnl
 by_cases h1:x<0
 ·rw[afR h1]
  unfold scV;clear hR;generalize next.length=N at *
  generalize rule.length=R at *;go_enter Tryz.func136,Tryz.ntmps136
  go_wp2
  have w1:IntKind.i64.wrap (256*(st:Int))=256*(st:Int):=by rw[IntKind.wrap_i64];omega
  have w2:IntKind.i64.wrap (c:Int)=(c:Int):=by rw[IntKind.wrap_i64];omega
  have w3:IntKind.i64.wrap (256*(st:Int)+(c:Int))=256*(st:Int)+(c:Int):=by rw[IntKind.wrap_i64];omega
  have hp1:(0:Int)<=256*(st:Int)+(c:Int):=by omega
  have hb2:b1<w.heap.size+1:=by omega
  have hb3:b1<w.heap.size+1+1:=by omega
  go_region
  go_wp2
  exact afJ (v:=.agg #[.int .i64 a,.int .i64 (l+1),.int .i64 x,.int .i64 r,.int .i64 f,.int .i64 t,.int .i64 (a+l+1),.bool true,.bool true]) (by simp[results,Tryz.results136,go_sem]) rfl
   ⟨rfl,((((afI _ w).alloc afD _).alloc (by simp) _).alloc (by simp;omega) _).drew⟩
 ·rw[afO h1]
  obtain⟨y,rfl⟩:∃y:Nat,x=y:=⟨x.toNat,by omega⟩;have hyl:y<rule.length:=by omega
  obtain⟨b2,o2,rfl,hb4,hc4⟩:=hR.get hyl;rw[afY];have hy0:(0:Int)<=(y:Int):=by omega
  have hy1:(y:Int)<(rule.length:Int):=by omega
  have hb5:b2<w.heap.size+1:=by omega
  have hb6:b2<w.heap.size+1+1:=by omega
  generalize rule.getD y 0=u at *;clear hR h1;have hyn:¬((y:Int)<0):=by omega
  unfold scV;generalize next.length=N at *
  generalize rule.length=R at *
  by_cases hu:0<=u
  ·rw[afR hu]
   go_enter Tryz.func136,Tryz.ntmps136
   go_wp2
   have w1:IntKind.i64.wrap (256*(st:Int))=256*(st:Int):=(by rw[IntKind.wrap_i64];omega);have w2:IntKind.i64.wrap (c:Int)=(c:Int):=(by rw[IntKind.wrap_i64];omega);have w3:IntKind.i64.wrap (256*(st:Int)+(c:Int))=256*(st:Int)+(c:Int):=(by rw[IntKind.wrap_i64];omega);have hp1:(0:Int)<=256*(st:Int)+(c:Int):=(by omega);have hb2:b1<w.heap.size+1:=(by omega);have hb3:b1<w.heap.size+1+1:=(by omega);go_region
   go_wp2
   exact afJ (v:=.agg #[.int .i64 a,.int .i64 (l+1),.int .i64 y,.int .i64 u,.int .i64 f,.int .i64 (a+l+1),.int .i64 (a+l+1),.bool true,.bool false]) (by simp[results,Tryz.results136,go_sem]) rfl
    ⟨rfl,((((afI _ w).alloc afD _).alloc (by simp) _).alloc (by simp;omega) _).drew⟩
  ·rw[afO hu]
   have hu':u<0:=(by omega);clear hu;go_enter Tryz.func136,Tryz.ntmps136
   go_wp2
   have w1:IntKind.i64.wrap (256*(st:Int))=256*(st:Int):=(by rw[IntKind.wrap_i64];omega);have w2:IntKind.i64.wrap (c:Int)=(c:Int):=(by rw[IntKind.wrap_i64];omega);have w3:IntKind.i64.wrap (256*(st:Int)+(c:Int))=256*(st:Int)+(c:Int):=(by rw[IntKind.wrap_i64];omega);have hp1:(0:Int)<=256*(st:Int)+(c:Int):=(by omega);have hb2:b1<w.heap.size+1:=(by omega);have hb3:b1<w.heap.size+1+1:=(by omega);go_region
   go_wp2
   exact afJ (v:=.agg #[.int .i64 a,.int .i64 (l+1),.int .i64 y,.int .i64 r,.int .i64 f,.int .i64 t,.int .i64 (a+l+1),.bool true,.bool false]) (by simp[results,Tryz.results136,go_sem]) rfl
    ⟨rfl,((((afI _ w).alloc afD _).alloc (by simp) _).alloc (by simp;omega) _).drew⟩
end
end
section
open Go.Lib (hid)
open Go Go.Proofs Go.RowKit
attribute [local go_sem] Oper.semAt_some
section
variable {next rule : List Int} {an ar : Option Addr} {cn cr : Nat} {w : World}
structure Sc(w W:World)(next rule:List Int)(an ar:Option Addr)(cn cr:Nat)(B:Nat):Prop where
 b:Below w.heap.size w W
 d:Bx W w.heap.size 27 #[.slice an next.length cn,.slice ar rule.length cr]
 z:Bx W (w.heap.size+1) 159 #[.int .i64 0,.int .i64 0,.int .i64 0,.int .i64 0]
 lt:w.heap.size+1<B
theorem Sc.below{W W':World}{B:Nat}(h:Sc w W next rule an ar cn cr B)(hb:Below B W W'):Sc w W' next rule an ar cn cr B:=by
 have:=h.lt;exact⟨h.b.trans (hb.mono (by omega)),h.d.below hb (by omega),h.z.below hb h.lt,h.lt⟩
def looksAt(w:World)(B:Nat):Nat:=match w.cell? ⟨B,1,none⟩with
 | some (.int _ q)=>q.toNat
 | _=>0
theorem Am{w:World}{B:Nat}{a s r f t e:Int}{l:Nat}{b d:Bool}(h:Bx w B 214 (scC a l s r f t e b d)):looksAt w B=l:=by
 unfold looksAt;rw[h.cell 1];rfl
theorem Bx.nine{w:World}{B:Nat}{t:TypeId}{v0 v1 v2 v3 v4 v5 v6 v7 v8:Value}(h:Bx w B t #[v0,v1,v2,v3,v4,v5,v6,v7,v8]):w.cell? ⟨B,0,none⟩=some v0/\w.cell? ⟨B,1,none⟩=some v1/\w.cell? ⟨B,2,none⟩=some v2/\w.cell? ⟨B,3,none⟩=some v3/\w.cell? ⟨B,4,none⟩=some v4/\w.cell? ⟨B,5,none⟩=some v5/\w.cell? ⟨B,6,none⟩=some v6/\w.cell? ⟨B,7,none⟩=some v7/\w.cell? ⟨B,8,none⟩=some v8:=
 ⟨h.cell 0,h.cell 1,h.cell 2,h.cell 3,h.cell 4,h.cell 5,h.cell 6,h.cell 7,h.cell 8⟩
theorem Kq{t:List Nat}{i st:Nat}{r:Int}{tzo:Nat}(hi:i<t.length):dK next rule t (t.length-i) i st r tzo=if next.getD (256*st+t.getD i 0) 0<0 then (r,tzo,i+1)else if 0<=rule.getD (next.getD (256*st+t.getD i 0) 0).toNat 0 then dK next rule t (t.length-(i+1)) (i+1) (next.getD (256*st+t.getD i 0) 0).toNat (rule.getD (next.getD (256*st+t.getD i 0) 0).toNat 0) (i+1)else dK next rule t (t.length-(i+1)) (i+1) (next.getD (256*st+t.getD i 0) 0).toNat r tzo:=by
 rw[show t.length-i=(t.length-(i+1))+1 from by omega,dK,afR hi]
theorem Bx.four{w:World}{B:Nat}{t:TypeId}{v0 v1 v2 v3:Value}(h:Bx w B t #[v0,v1,v2,v3]):w.cell? ⟨B,0,none⟩=some v0/\w.cell? ⟨B,1,none⟩=some v1/\w.cell? ⟨B,2,none⟩=some v2/\w.cell? ⟨B,3,none⟩=some v3:=⟨h.cell 0,h.cell 1,h.cell 2,h.cell 3⟩
theorem J7:AX.sizeT Tryz.prog 159=some 4:=by kernel_rfl
theorem LX:AX.sizeT Tryz.prog 214=some 9:=by kernel_rfl
theorem V7(hN:aH w an next)(hR:aH w ar rule)(s:ByteArray)(at_:Nat)(hi:at_<s.size)(hs:s.size<=1000000)(hr0:1<=rule.length)(hr:rule.length<=512)(hnl:next.length=256*rule.length)(hbd:∀x∈next,-1<=x/\x<rule.length):
  Calls Tryz.prog 116 #[.agg #[.slice an next.length cn,.slice ar rule.length cr],.string s,.int .i64 at_] w fun e w' =>
   e=.returned (.agg #[.int .i64 (iC next rule (sb s) at_).1,.int .i64 at_,.int .i64 (iC next rule (sb s) at_).2.1,.int .i64 (iC next rule (sb s) at_).2.2])/\Below w.heap.size w w':=by
 have hB:=((afI w.heap.size w).alloc afD (.cells #[.slice an next.length cn,.slice ar rule.length cr] 27)).alloc (by simp) (.cells #[.int .i64 0,.int .i64 0,.int .i64 0,.int .i64 0] 159);have hD:Bx ((w.alloc (.cells #[.slice an next.length cn,.slice ar rule.length cr] 27)).alloc (.cells #[.int .i64 0,.int .i64 0,.int .i64 0,.int .i64 0] 159)) w.heap.size 27 #[.slice an next.length cn,.slice ar rule.length cr]:=(Bx.new _ _ _).alloc _;have hZ:Bx ((w.alloc (.cells #[.slice an next.length cn,.slice ar rule.length cr] 27)).alloc (.cells #[.int .i64 0,.int .i64 0,.int .i64 0,.int .i64 0] 159)) (w.heap.size+1) 159 #[.int .i64 0,.int .i64 0,.int .i64 0,.int .i64 0]:=by
  have:=Bx.new (w.alloc (.cells #[.slice an next.length cn,.slice ar rule.length cr] 27)) 159 #[.int .i64 0,.int .i64 0,.int .i64 0,.int .i64 0]
  rwa [World.size_alloc]at this
 have hbg:=fun W=>V5 at_ (by omega) W;unfold scV at hbg;have HNL:=hid hnl;clear hnl;go_enter Tryz.func116,Tryz.ntmps116
 go_wp2_with fail
 generalize (w.alloc (.cells #[.slice an next.length cn,.slice ar rule.length cr] 27)).alloc (.cells #[.int .i64 0,.int .i64 0,.int .i64 0,.int .i64 0] 159)=W0 at *;have hz1:=hZ.lt;go_step3
 go_wp2_with (go_at_call 135;((with_reducible refine(hbg _).mono ?_);rintro e W1 ⟨rfl,hBd⟩))
 go_step3
 go_wp2_with fail
 obtain⟨B,hBe⟩:∃B,W1.heap.size=B:=⟨_,rfl⟩;have hS1:Sc w (W1.alloc (.cells (scC at_ 0 0 (-1) at_ (at_+1) 0 true false) 214)) next rule an ar cn cr B:=by
  have hlt:w.heap.size+1<W1.heap.size:=afN hz1 hBd.size;have hB3:=hBd.alloc (agq _ |> fun h=>agb h hBd.size) (.cells (scC at_ 0 0 (-1) at_ (at_+1) 0 true false) 214);exact⟨hB.trans (hB3.mono (by omega)),hD.below hB3 (by omega),hZ.below hB3 hz1,hBe▸ hlt⟩
 have hX1:Bx (W1.alloc (.cells (scC at_ 0 0 (-1) at_ (at_+1) 0 true false) 214)) B 214 (scC at_ 0 0 (-1) at_ (at_+1) 0 true false):=hBe▸ Bx.new _ _ _;clear hBd hbg hz1 hD hZ hB;rw[hBe];clear hBe;unfold scC at hS1 hX1;generalize (W1.alloc (.cells #[.int .i64 at_,.int .i64 0,.int .i64 0,.int .i64 (-1),.int .i64 at_,.int .i64 (at_+1),.int .i64 0,.bool true,.bool false] 214))=W2 at *;go_loopw [] (fun wr=>∃(l st:Nat)(r:Int)(tzo:Nat)(e:Int),at_+l<=s.size/\st<rule.length/\Bx wr B 214 (scC at_ l st r at_ tzo e true false)/\Sc w wr next rule an ar cn cr B/\Hid (dK next rule (sb s) (s.size-(at_+l)) (at_+l) st r tzo=iC next rule (sb s) at_)) (fun wr=>s.size+1-looksAt wr B)
 case atStart=>exact⟨0,0,-1,at_+1,0,by omega,by omega,hX1,hS1,hid (by unfold iC;rw[dS];rfl)⟩
 case round =>
  obtain⟨l,st,r,tzo,e,hle,hst,hBx,hS,hm⟩:=hrel;rw[Am hBx];obtain⟨c0,c1,c2,c3,c4,c5,c6,c7,c8⟩:=Bx.nine hBx;have d0:wr.cell? ⟨w.heap.size,0,none⟩=some (.slice an next.length cn):=hS.d.cell 0;have d1:wr.cell? ⟨w.heap.size,1,none⟩=some (.slice ar rule.length cr):=hS.d.cell 1;have hBl:=hBx.lt;rcases Nat.lt_or_eq_of_le hle with hlt|heq
  ·have hnl:=HNL.out
   obtain⟨x,hx⟩:=afC (next.getD (256*st+(sb s).getD (at_+l) 0) 0)
   have hix:256*st+(sb s).getD (at_+l) 0<next.length:=by
    have:(sb s).getD (at_+l) 0<256:=(by rw[Ko s _ hlt];exact ahZ _);omega
   have hxb:=hbd _ (getD_mem hix);rw[<-hx]at hxb;have hlk:=look_in (cn:=cn) (cr:=cr) (hN.below hS.b afD) (hR.below hS.b afD) s at_ l st r at_ tzo e hlt hs hst hr hnl x hx hxb.2;have hm:=hm.out;rw[<-dS,Kq (by rw[dS];exact hlt),<-hx]at hm;clear hix hnl hx
   by_cases h1:x<0
   ·rw[afR h1]at hlk hm
    have HM:=hid hm;clear hm;unfold scV at hlk;go_wp2_with (first
     | (go_at_call 136;(with_reducible refine hlk.mono ?_);rintro e3 W3 ⟨rfl,hB3⟩;have hB4:=hBx.below hB3 hBx.lt;clear hBx c0 c1 c2 c3 c4 c5 c6 c7 c8 d0 d1 hlk)
     | (refine AX.aj (vs:=[.int .i64 at_,.int .i64 (l+1),.int .i64 x,.int .i64 r,.int .i64 at_,.int .i64 tzo,.int .i64 (at_+l+1),.bool true,.bool true]) rfl rfl LX hB4 rfl rfl ?_;rintro W4 h4 h5 h6;have h4:Bx W4 B 214 #[.int .i64 at_,.int .i64 (l+1),.int .i64 x,.int .i64 r,.int .i64 at_,.int .i64 tzo,.int .i64 (at_+l+1),.bool true,.bool true]:=h4;have hS4:=hS.below ((hB3.mono (ahh hBl)).trans (AX.ah afD (.inl h4.lt) h5 h6));obtain⟨c0,c1,c2,c3,c4,c5,c6,c7,c8⟩:=Bx.nine h4;clear h5 h6 hB3 hB4)
     | (refine AX.aj (vs:=[.int .i64 r,.int .i64 at_,.int .i64 tzo,.int .i64 (at_+l+1)]) rfl rfl J7 hS4.z rfl rfl ?_;rintro W5 h7 h8 h9;have h7:Bx W5 (w.heap.size+1) 159 #[.int .i64 r,.int .i64 at_,.int .i64 tzo,.int .i64 (at_+l+1)]:=h7;have hb5:=hS4.b.trans (AX.ah (ahS _) (.inl h7.lt) h8 h9);obtain⟨z0,z1,z2,z3⟩:=Bx.four h7;clear h8 h9))
    rw[Exit.noGoto_ret];exact afJ (v:=.agg #[.int .i64 r,.int .i64 at_,.int .i64 tzo,.int .i64 (at_+l+1)]) (by simp[results,Tryz.results116,go_sem,z0,z1,z2,z3]) rfl ⟨by rw[<-HM.out];rfl,hb5⟩
   ·rw[afO h1]at hlk hm
    obtain⟨y,rfl⟩:∃y:Nat,x=y:=⟨x.toNat,by omega⟩;rw[afY]at hlk hm;have hyl:y<rule.length:=(by omega);obtain⟨u,hu⟩:=afC (rule.getD y 0);rw[<-hu]at hlk hm;clear hu h1
    by_cases h2:0<=u
    ·rw[afR h2]at hlk hm
     have HM:=hid hm;clear hm;unfold scV at hlk;go_wp2_with (first
      | (go_at_call 136;(with_reducible refine hlk.mono ?_);rintro e3 W3 ⟨rfl,hB3⟩;have hB4:=hBx.below hB3 hBx.lt;clear hBx c0 c1 c2 c3 c4 c5 c6 c7 c8 d0 d1 hlk)
      | (refine AX.aj (vs:=[.int .i64 at_,.int .i64 (l+1),.int .i64 y,.int .i64 u,.int .i64 at_,.int .i64 (at_+l+1),.int .i64 (at_+l+1),.bool true,.bool false]) rfl rfl LX hB4 rfl rfl ?_;rintro W4 h4 h5 h6;have h4:Bx W4 B 214 #[.int .i64 at_,.int .i64 (l+1),.int .i64 y,.int .i64 u,.int .i64 at_,.int .i64 (at_+l+1),.int .i64 (at_+l+1),.bool true,.bool false]:=h4;have hS4:=hS.below ((hB3.mono (ahh hBl)).trans (AX.ah afD (.inl h4.lt) h5 h6));obtain⟨c0,c1,c2,c3,c4,c5,c6,c7,c8⟩:=Bx.nine h4;clear h5 h6 hB3 hB4))
     go_roundw
     case rel=>exact⟨l+1,y,u,at_+l+1,at_+l+1,by omega,hyl,h4,hS4,hid (by have:=HM.out;rwa [dS]at this)⟩
     case measure=>rw[Am (l:=l+1) h4];omega
    ·rw[afO h2]at hlk hm
     have HM:=hid hm;clear hm;unfold scV at hlk;go_wp2_with (first
      | (go_at_call 136;(with_reducible refine hlk.mono ?_);rintro e3 W3 ⟨rfl,hB3⟩;have hB4:=hBx.below hB3 hBx.lt;clear hBx c0 c1 c2 c3 c4 c5 c6 c7 c8 d0 d1 hlk)
      | (refine AX.aj (vs:=[.int .i64 at_,.int .i64 (l+1),.int .i64 y,.int .i64 r,.int .i64 at_,.int .i64 tzo,.int .i64 (at_+l+1),.bool true,.bool false]) rfl rfl LX hB4 rfl rfl ?_;rintro W4 h4 h5 h6;have h4:Bx W4 B 214 #[.int .i64 at_,.int .i64 (l+1),.int .i64 y,.int .i64 r,.int .i64 at_,.int .i64 tzo,.int .i64 (at_+l+1),.bool true,.bool false]:=h4;have hS4:=hS.below ((hB3.mono (ahh hBl)).trans (AX.ah afD (.inl h4.lt) h5 h6));obtain⟨c0,c1,c2,c3,c4,c5,c6,c7,c8⟩:=Bx.nine h4;clear h5 h6 hB3 hB4))
     go_roundw
     case rel=>exact⟨l+1,y,r,tzo,at_+l+1,by omega,hyl,h4,hS4,hid (by have:=HM.out;rwa [dS]at this)⟩
     case measure=>rw[Am (l:=l+1) h4];omega
  ·have hlk:=SV (next:=next) (rule:=rule) (an:=an) (ar:=ar) (cn:=cn) (cr:=cr) (w:=wr) s at_ l st r at_ tzo e heq hs
   unfold scV at hlk;have hm:=hm.out;rw[heq,aho,dK]at hm;have HM:=hid hm;clear hm;go_wp2_with (first
    | (go_at_call 136;(with_reducible refine hlk.mono ?_);rintro e3 W3 ⟨rfl,hB3⟩;have hB4:=hBx.below hB3 hBx.lt;clear hBx c0 c1 c2 c3 c4 c5 c6 c7 c8 d0 d1 hlk)
    | (refine AX.aj (vs:=[.int .i64 at_,.int .i64 (l+1),.int .i64 st,.int .i64 r,.int .i64 at_,.int .i64 tzo,.int .i64 (s.size+1),.bool true,.bool true]) rfl rfl LX hB4 rfl rfl ?_;rintro W4 h4 h5 h6;have h4:Bx W4 B 214 #[.int .i64 at_,.int .i64 (l+1),.int .i64 st,.int .i64 r,.int .i64 at_,.int .i64 tzo,.int .i64 (s.size+1),.bool true,.bool true]:=h4;have hS4:=hS.below ((hB3.mono (ahh hBl)).trans (AX.ah afD (.inl h4.lt) h5 h6));obtain⟨c0,c1,c2,c3,c4,c5,c6,c7,c8⟩:=Bx.nine h4;clear h5 h6 hB3 hB4)
    | (refine AX.aj (vs:=[.int .i64 r,.int .i64 at_,.int .i64 tzo,.int .i64 (s.size+1)]) rfl rfl J7 hS4.z rfl rfl ?_;rintro W5 h7 h8 h9;have h7:Bx W5 (w.heap.size+1) 159 #[.int .i64 r,.int .i64 at_,.int .i64 tzo,.int .i64 (s.size+1)]:=h7;have hb5:=hS4.b.trans (AX.ah (ahS _) (.inl h7.lt) h8 h9);obtain⟨z0,z1,z2,z3⟩:=Bx.four h7;clear h8 h9))
   rw[Exit.noGoto_ret];exact afJ (v:=.agg #[.int .i64 r,.int .i64 at_,.int .i64 tzo,.int .i64 (s.size+1)]) (by simp[results,Tryz.results116,go_sem,z0,z1,z2,z3]) rfl ⟨by rw[<-HM.out];rfl,hb5⟩
end
end
section
open Go Go.Proofs Go.RowKit
attribute [local go_sem] Oper.semAt_some
section
variable {next rule : List Int} {an ar : Option Addr} {cn cr : Nat} {w : World}
theorem SX{next rule:List Int}(h:okT next rule=true):1<=rule.length/\rule.length<=512/\next.length=256*rule.length/\(∀x∈rule,-1<=x/\x<16)/\(∀x∈next,-1<=x/\x<rule.length):=by
 unfold okT inR at h;simp only[afU,afZ,agk]at h;exact⟨h.1,h.2.1,h.2.2.1,h.2.2.2.1,h.2.2.2.2⟩
def lxV(x:Int×Nat×Nat)(at_:Nat):Value:=.agg #[.int .i64 x.1,.int .i64 at_,.int .i64 x.2.1,.int .i64 x.2.2]
theorem Ov(s:ByteArray)(at_:Nat)(hi:at_=s.size)(hs:s.size<=1000000):
  Calls Tryz.prog 87 #[dV an ar next.length rule.length cn cr,.string s,.int .i64 at_] w fun e w'=>e=.returned (.tuple #[lxV (0,0,0) 0,.bool false])/\Below w.heap.size w w':=by
 unfold dV lxV;subst hi;have h0:(0:Int)<=(s.size:Int):=by omega
 go_enter Tryz.func87,Tryz.ntmps87
 go_wp2
 exact afJ (v:=.tuple #[.agg #[.int .i64 0,.int .i64 0,.int .i64 0,.int .i64 0],.bool false]) (by simp[results,Tryz.results87,go_sem]) rfl ⟨rfl,((afI _ w).alloc afD _).alloc (by simp) _⟩
theorem SH(hN:aH w an next)(hR:aH w ar rule)(hok:okT next rule=true)(s:ByteArray)(at_:Nat)(hi:at_<s.size)(hs:s.size<=1000000):
  Calls Tryz.prog 87 #[dV an ar next.length rule.length cn cr,.string s,.int .i64 at_] w fun e w'=>e=.returned (.tuple #[lxV (iC next rule (sb s) at_) at_,.bool true])/\Below w.heap.size w w':=by
 obtain⟨hr1,hr2,hnl,_,hbd⟩:=SX hok;have hck:=fun W (hb:Below w.heap.size w W)=>jQ next rule (by omega) (by omega) an ar cn cr W (hN.below hb afD) (hR.below hb afD)
 have hmn:=fun W (hb:Below w.heap.size w W)=>V7 (cn:=cn) (cr:=cr) (hN.below hb afD) (hR.below hb afD) s at_ hi hs hr1 hr2 hnl hbd;unfold eu at hck;simp only[hok,ain]at hck;unfold dV lxV;generalize iC next rule (sb s) at_=x at *
 generalize next.length=N at *
 generalize rule.length=R at *;have h0:(0:Int)<=(at_:Int):=by omega
 have h1:(at_:Int)<(s.size:Int):=by omega
 have hB:=((afI w.heap.size w).alloc afD (.cells #[.slice an N cn,.slice ar R cr] 27)).alloc (by simp) (.cells #[.int .i64 0,.int .i64 0,.int .i64 0,.int .i64 0] 159);have hD:Bx ((w.alloc (.cells #[.slice an N cn,.slice ar R cr] 27)).alloc (.cells #[.int .i64 0,.int .i64 0,.int .i64 0,.int .i64 0] 159)) w.heap.size 27 #[.slice an N cn,.slice ar R cr]:=(Bx.new _ _ _).alloc _;have hZ:Bx ((w.alloc (.cells #[.slice an N cn,.slice ar R cr] 27)).alloc (.cells #[.int .i64 0,.int .i64 0,.int .i64 0,.int .i64 0] 159)) (w.heap.size+1) 159 #[.int .i64 0,.int .i64 0,.int .i64 0,.int .i64 0]:=by
  have:=Bx.new (w.alloc (.cells #[.slice an N cn,.slice ar R cr] 27)) 159 #[.int .i64 0,.int .i64 0,.int .i64 0,.int .i64 0]
  rwa [World.size_alloc]at this
 clear hN hR hok hr1 hr2 hnl hbd;go_enter Tryz.func87,Tryz.ntmps87
 go_wp2_with fail
 generalize (w.alloc (.cells #[.slice an N cn,.slice ar R cr] 27)).alloc (.cells #[.int .i64 0,.int .i64 0,.int .i64 0,.int .i64 0] 159)=W0 at *;have h27:=hck W0 hB;have hz1:=hZ.lt;have hlt:w.heap.size<W0.heap.size:=Nat.lt_trans (ag9 _) hz1;have d0:=hD.cell 0;have d1:=hD.cell 1;simp only[List.getElem?_toArray,List.getElem?_cons_zero,ahE]at d0 d1;clear hck;go_wp2_with (first
  | (go_at_call 36;((with_reducible refine h27.mono ?_);rintro e W1 ⟨rfl,hb1⟩;have hD1:=hD.below hb1 hlt;have hZ1:=hZ.below hb1 hz1;have hB1:=hB.trans (hb1.mono (ahh hlt));have f0:W1.cell? ⟨w.heap.size,0,none⟩=some (.slice an N cn):=hD1.cell 0;have f1:W1.cell? ⟨w.heap.size,1,none⟩=some (.slice ar R cr):=hD1.cell 1;have h62:=hmn W1 hB1;clear h27))
  | (go_at_call 116;((with_reducible refine h62.mono ?_);rintro e W2 ⟨rfl,hb2⟩;have hZ2:=hZ1.below hb2 hZ1.lt;have hB2:=hB1.trans (hb2.mono hB1.size)))
  | (refine AX.aj (vs:=[.int .i64 x.1,.int .i64 at_,.int .i64 x.2.1,.int .i64 x.2.2]) rfl rfl J7 hZ2 rfl rfl ?_;rintro W3 h3 h4 h5;have h3:Bx W3 (w.heap.size+1) 159 #[.int .i64 x.1,.int .i64 at_,.int .i64 x.2.1,.int .i64 x.2.2]:=h3;have hB3:=hB2.trans (AX.ah (ahS _) (.inl h3.lt) h4 h5);obtain⟨z0,z1,z2,z3⟩:=Bx.four h3;clear h4 h5))
 exact afJ (v:=.tuple #[.agg #[.int .i64 x.1,.int .i64 at_,.int .i64 x.2.1,.int .i64 x.2.2],.bool true]) (by simp[results,Tryz.results87,go_sem,z0,z1,z2,z3]) rfl ⟨rfl,hB3⟩
end
section
variable {next rule kind : List Int} {kinds : Int} {an ar ak : Option Addr} {cn cr ck : Nat} {w : World}
theorem bK{P:Program}{ops:Array Oper}{Q:Exit->Act->World->Prop}{a:Act}{w:World}{rest:List Oper}{t:TypeId}{x y:Operand}{ty:TypeId}{pos:String}{after:Array Edge}(h:wpList P ops Q ({dst:=none,op:=.store t x y,type:=ty,pos:=pos,after:=after,guard:=none}::rest) a w):
 wpList P ops Q ({dst:=none,op:=.store t x y,type:=ty,pos:=pos,after:=after,guard:=none}::rest) a w:=h
theorem ug{F:Fence}{m:Nat}{P:Program}{ops:Array Oper}{Q:Exit->Act->World->Prop}{a:Act}{w:World}{rest:List Oper}{t:TypeId}{x y:Operand}{ty:TypeId}{pos:String}{after:Array Edge}(h:wpListIn F m P ops Q ({dst:=none,op:=.store t x y,type:=ty,pos:=pos,after:=after,guard:=none}::rest) a w):
 wpListIn F m P ops Q ({dst:=none,op:=.store t x y,type:=ty,pos:=pos,after:=after,guard:=none}::rest) a w:=h
def tkV(t:Tk):Value:=.agg #[.int .i64 t.k,.int .i64 t.f,.int .i64 t.a,.int .i64 t.t,.int .i64 t.e]
structure Nx(w W:World)(next rule kind:List Int)(kinds:Int)(an ar ak:Option Addr)(cn cr ck:Nat):Prop where
 b:Below w.heap.size w W
 d:Bx W w.heap.size 29 #[.slice an next.length cn,.slice ar rule.length cr,.slice ak kind.length ck,.int .i64 kinds]
 z:Bx W (w.heap.size+1) 42 #[.int .i64 0,.int .i64 0,.int .i64 0,.int .i64 0,.int .i64 0]
theorem Nx.below{W W':World}(h:Nx w W next rule kind kinds an ar ak cn cr ck)(hb:Below (w.heap.size+1+1) W W'):Nx w W' next rule kind kinds an ar ak cn cr ck:=
 ⟨h.b.trans (hb.mono (by omega)),h.d.below hb (by omega),h.z.below hb (by omega)⟩
theorem mY:AX.sizeT Tryz.prog 42=some 5:=by kernel_rfl
theorem sz3:AX.sizeT Tryz.prog 3=some 1:=by kernel_rfl
theorem Bx.five{w:World}{B:Nat}{t:TypeId}{v0 v1 v2 v3 v4:Value}(h:Bx w B t #[v0,v1,v2,v3,v4]):w.cell? ⟨B,0,none⟩=some v0/\w.cell? ⟨B,1,none⟩=some v1/\w.cell? ⟨B,2,none⟩=some v2/\w.cell? ⟨B,3,none⟩=some v3/\w.cell? ⟨B,4,none⟩=some v4:=⟨h.cell 0,h.cell 1,h.cell 2,h.cell 3,h.cell 4⟩
theorem Bx.abZ{w:World}{T:Nat}{t:TypeId}{v0 v1 v2 v3 v4:Value}(h:Bx w T t #[v0,v1,v2,v3,v4])(a b c:Value):Bx (((w.setCell ⟨T,0,none⟩ a).setCell ⟨T,2,none⟩ b).setCell ⟨T,3,none⟩ c).drew T t #[a,v1,b,c,v4]:=by
 have h:=h.set 0 a;rw[afH]at h;simp only[afM]at h;have h:=h.set 2 b;simp only[afH,afM,afL]at h;have h:=h.set 3 c;simp only[afH,afM,afL]at h;exact h
theorem Bx.XB{w:World}{T B:Nat}{t:TypeId}{cs:Array Value}(h:Bx w B t cs)(hne:B≠T)(a b c:Value):Bx (((w.setCell ⟨T,0,none⟩ a).setCell ⟨T,2,none⟩ b).setCell ⟨T,3,none⟩ c).drew B t cs:=
 ((h.other hne).other hne).other hne
theorem Ai{n T:Nat}{v w:World}(h:Below n v w)(hn:n<=T)(a b c:Value):Below n v (((w.setCell ⟨T,0,none⟩ a).setCell ⟨T,2,none⟩ b).setCell ⟨T,3,none⟩ c).drew:=
 (((h.setCell (by exact hn) a).setCell (by exact hn) b).setCell (by exact hn) c).drew
theorem XA{next rule kind:List Int}{kinds:Int}(h:okL next rule kind kinds=true):okT next rule=true:=by
 unfold okL at h;simp only[afU]at h;exact h.1
theorem EY{next rule kind:List Int}{kinds:Int}(h:okL next rule kind kinds=true):Fits next rule kind kinds:=by
 obtain⟨h1,h2,h3,h4,h5⟩:=SX (XA h);unfold okL inR at h;simp only[afU,afZ,agk]at h;obtain⟨_,h6,h7,h8,h9⟩:=h;exact⟨h1,h3,h5,fun x hx=>⟨(h4 x hx).1,(h4 x hx).2,h9 x hx⟩,h8,h6,h7⟩
end
section
variable {next rule kind : List Int} {kinds : Int} {an ar ak : Option Addr} {cn cr ck : Nat} {w : World}
def SK(next rule kind:List Int)(kinds:Int)(s:ByteArray)(at_:Int):Int:=if okL next rule kind kinds=true/\0<=at_/\at_<=s.size then 0 else 2
theorem XC(hn:next.length<=1000000)(hr:rule.length<=1000000)(hk:kind.length<=1000000)(hN:aH w an next)(hR:aH w ar rule)(hK:aH w ak kind)(s:ByteArray)(at_:Int)(_hs:s.size<=1000000):
  Calls Tryz.prog 47 #[lV an ar ak next.length rule.length kind.length cn cr ck kinds,.string s,.int .i64 at_] w fun e w'=>e=.returned (.int .i64 (SK next rule kind kinds s at_))/\Below w.heap.size w w':=by
 have hck:=fun W (hb:Below w.heap.size w W)=>Ic next rule kind kinds hn hr hk an ar ak cn cr ck W (hN.below hb afD) (hR.below hb afD) (hK.below hb afD)
 have hB:=(afI w.heap.size w).alloc afD (.cells #[.slice an next.length cn,.slice ar rule.length cr,.slice ak kind.length ck,.int .i64 kinds] 29);have hD:Bx (w.alloc (.cells #[.slice an next.length cn,.slice ar rule.length cr,.slice ak kind.length ck,.int .i64 kinds] 29)) w.heap.size 29 #[.slice an next.length cn,.slice ar rule.length cr,.slice ak kind.length ck,.int .i64 kinds]:=Bx.new _ _ _;unfold lV at *;unfold SK;unfold nH at hck;clear hN hR hK;have hw:w.heap.size<(w.alloc (.cells #[.slice an next.length cn,.slice ar rule.length cr,.slice ak kind.length ck,.int .i64 kinds] 29)).heap.size:=hD.lt;have h0:okL next rule kind kinds=true\/¬okL next rule kind kinds=true:=Classical.em _
 rcases h0 with hok|hok
 ·simp only[hok,ain,aiD]at hck⊢
  clear hok;have h15:=hck _ hB;clear hck;rcases Int.lt_or_le at_ 0 with h1|h1
  ·rw[afO (by omega)]
   go_enter Tryz.func47,Tryz.ntmps47
   go_wp2_with (go_at_call 15;((with_reducible refine h15.mono ?_);rintro e W1 ⟨rfl,hb1⟩;have hB1:=hB.trans (hb1.mono (ahh hw))))
   go_ret
   exact⟨rfl,hB1⟩
  ·rcases Int.lt_or_le s.size at_ with h2|h2
   ·rw[afO (by omega)]
    go_enter Tryz.func47,Tryz.ntmps47
    go_wp2_with (go_at_call 15;((with_reducible refine h15.mono ?_);rintro e W1 ⟨rfl,hb1⟩;have hB1:=hB.trans (hb1.mono (ahh hw))))
    go_ret
    exact⟨rfl,hB1⟩
   ·rw[afR ⟨h1,h2⟩]
    go_enter Tryz.func47,Tryz.ntmps47
    go_wp2_with (go_at_call 15;((with_reducible refine h15.mono ?_);rintro e W1 ⟨rfl,hb1⟩;have hB1:=hB.trans (hb1.mono (ahh hw))))
    go_ret
    exact⟨rfl,hB1⟩
 ·simp only[hok,ahr,aiC,false_and]at hck⊢
  clear hok;have h15:=hck _ hB;clear hck;go_enter Tryz.func47,Tryz.ntmps47
  go_wp2_with (go_at_call 15;((with_reducible refine h15.mono ?_);rintro e W1 ⟨rfl,hb1⟩;have hB1:=hB.trans (hb1.mono (ahh hw))))
  go_ret
  exact⟨rfl,hB1⟩
end
section
variable {next rule kind : List Int} {kinds : Int} {an ar ak : Option Addr} {cn cr ck : Nat} {w : World}
theorem Bx.turn{w w':World}{B b:Nat}{t:TypeId}{cs:Array Value}(h:Bx w B t cs)(hne:B≠b)(h4:∀k,k≠b->w'.heap[k]?=w.heap[k]?):Bx w' B t cs:=(h4 _ hne).trans h
end
end
end Go.Proofs.YtkjgogdkdejljaaGreatDoor.Lx
