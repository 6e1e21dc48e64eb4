import Derived.Test.YtkjgogdkdejljaaGreatDoorDfI3
import Derived.Test.YtkjgogdkdejljaaGreatDoorDfG1
set_option maxRecDepth 100000
set_option maxHeartbeats 40000000
namespace Go.Proofs.YtkjgogdkdejljaaGreatDoor
open Go Go.Proofs Go.ChangeShapes Go.WideShapes Go.ChangeAt Go.RowKit Df
theorem lexerOn_lifted(os:Os)(started:os.Started)(H:Type)(enc:TypeId×Value→H) :
  ReturnsInHanded {} Tryz.checked os 8 .any (fun w args=>(Rows.lexerOnSpec.pre enc Tryz.prog Tryz.f8 [] false w args∧laidMetH Tryz.prog laid1 w)∧sizedMet enc Tryz.prog Tryz.f8 (OpenSpec.ofChange Rows.lexerOnSpec) false w args)
   (Rows.lexerOnSpec.post enc Tryz.prog Tryz.f8 false true false false):=by
 refine returnsInHanded_of_change_and (C:=Tryz.checked) (X:=fun w _=>laidMetH Tryz.prog laid1 w) (fun _ _ _ hh h=>h.of_heap hh) own started (by kernel_rfl) Tryz.func8
  (ChangeSpec.witness_shaped (enc:=enc) (C:=Tryz.checked) (os:=os) (X:=fun w _=>laidMetH Tryz.prog laid1 w) false (World.doorLaid Tryz.prog 14 os) #[.slice none 0 0, .string .empty, .int .i64 0, .int .i64 0, .int .i64 0] 8 rfl (World.shaped_of_RefB (by kernel_rfl) (by kernel_rfl)) (by kernel_rfl) (by kernel_rfl) (by kernel_rfl) (door_met os _)) ?_
 intro W base args ds gs before hval0 hW _ _ hL _;have hval:∀ (j:Nat) t v,Tryz.f8.params[j]?=some t→args[j]?=some v→Value.okWide Tryz.prog W .any base t v:=hval0;have hW':=hW;obtain⟨p,q,hA0,hV,rfl,hfz,hnd⟩:=hW;have hA:DataW.TrodAll enc Tryz.prog W 0 (fun _=>true) true Tryz.f8.params.toList args.toList ds p:=hA0;rw[Tryz.params8] at hA hval;obtain⟨rfl,rfl⟩:=trodVars_none hV;obtain⟨v0,l,d0,dl,p0,q0,h0,rfl,rfl,k0,hA⟩:=trodAll_cons hA;obtain⟨v1,l,d1,dl,p1,q1,rfl,rfl,rfl,k1,hA⟩:=trodAll_cons hA;obtain⟨v2,l,d2,dl,p2,q2,rfl,rfl,rfl,k2,hA⟩:=trodAll_cons hA;obtain⟨v3,l,d3,dl,p3,q3,rfl,rfl,rfl,k3,hA⟩:=trodAll_cons hA;obtain⟨v4,l,d4,dl,p4,q4,rfl,rfl,rfl,k4,hA⟩:=trodAll_cons hA;obtain⟨rfl,rfl,rfl⟩:=trodAll_nil hA;have ha:args=#[v0,v1,v2,v3,v4]:=by cases args;simp_all
 subst ha;obtain⟨s,rfl,rfl,rfl,hs⟩:=Go.ChangeMaps.open_string Tryz.underlying9 (hval 1 9 v1 rfl rfl) k1;obtain⟨z2,rfl,rfl,rfl,_⟩:=open_int Tryz.underlying3 (hval 2 3 v2 rfl rfl) k2;obtain⟨z3,rfl,rfl,rfl,_⟩:=open_int Tryz.underlying3 (hval 3 3 v3 rfl rfl) k3;obtain⟨z4,rfl,rfl,rfl,_⟩:=open_int Tryz.underlying3 (hval 4 3 v4 rfl rfl) k4;obtain⟨la,R,c,rfl,hll,hR⟩:=zk (hval 0 22 v0 rfl rfl) k0;obtain⟨hp,hT⟩:=Ph (uM hL);have hcall:=ab7 R hll la c s z2 z3 z4 W hp hT hR;refine hcall.mono fun e W' ⟨he,hkp⟩=>?_;subst he;exact⟨_,rfl,AX.Cb (l:=[22,35,9,4,3]) (by kernel_rfl) (by rw[Tryz.params8];simp) hW' (fun _ _ _=>(trodAll_cons_mk (shut_bool Tryz.underlying4 _) trodAll_mk0)) rfl rfl rfl (zi hkp) (Go.RowKit.ok_one (by kernel_rfl) rfl (okWide_bool_mk Tryz.underlying4 _))⟩
theorem lexerOn_holds:Rows.LexerOnSaid :=
 OpenClaim.holds_of_wide 8 Tryz.f8 rfl rfl rfl rfl rfl rfl rfl ⟨rfl,rfl,rfl,rfl,rfl⟩ rfl rfl rfl rfl rfl (by kernel_rfl) Tryz.func8 (by kernel_rfl)
  (of_decide_eq_true (by kernel_rfl)) (by unfold Func.isWrapper;first | (rw[if_pos (by decide +kernel)];kernel_rfl) | (rw[if_neg (by decide +kernel)];exact⟨rfl,rfl⟩))
  (fun os started H enc _=>lexerOn_lifted os started H enc)
theorem lexerOn_card:Rows.LexerOnCardSaid :=
 Claim7.holds_tied_plain_at .later [] [.data] true (true,"9e6da1d1f218071baa13808b26dd098b23e6ee80befeaacc6dfedf4fb87b7f32") false
  lexerOn_holds (fun _ h=>by cases h) (by kernel_rfl) (fun _ h=>by cases h) lexerOn_row_tie rfl ⟨rfl,rfl⟩ (by kernel_rfl) rfl
  (fun f fn hf hfn=>by
   obtain rfl:f=8:=Option.some.inj ((show Tryz.prog.funcNamed "viewport/viewportlaw07.LexerOn" = some 8 by kernel_rfl).symm.trans hf) |>.symm;obtain rfl:fn=Tryz.f8:=(Option.some.inj (Tryz.func8.symm.trans hfn)).symm;exact⟨by kernel_rfl,fun j t ht=>by
    rw[Tryz.params8] at ht
    match j,ht with
    | 0,ht=>cases ht;exact(show Tryz.prog.wantsStandIn 22=false by kernel_rfl)
    | 1,ht=>cases ht;exact(show Tryz.prog.wantsStandIn 9=false by kernel_rfl)
    | 2,ht=>cases ht;exact(show Tryz.prog.wantsStandIn 3=false by kernel_rfl)
    | 3,ht=>cases ht;exact(show Tryz.prog.wantsStandIn 3=false by kernel_rfl)
    | 4,ht=>cases ht;exact(show Tryz.prog.wantsStandIn 3=false by kernel_rfl)⟩)
  (by kernel_rfl)
end Go.Proofs.YtkjgogdkdejljaaGreatDoor
