/- LexerFirst returns true at every input: its calls are answered by contracts, each proved by walking the code (the reader of expressions, the building of states, tables, least tables, the lexer); lives() by the same contracts, its table reckoned in plain Lean. Condition: the table math/bits.deBruijn64tab lies as the program lays it (the row's own). -/
import Derived.Test.YtkjgogdkdejljaaGreatDoorDfG1
set_option maxRecDepth 100000
set_option maxHeartbeats 40000000
namespace Go.Proofs.YtkjgogdkdejljaaGreatDoor
open Go Go.Proofs Go.ChangeShapes Go.WideShapes Go.ChangeAt Go.RowKit Df
theorem lexerFirst_lifted(os:Os)(started:os.Started)(H:Type)(enc:TypeId×Value->H):
  ReturnsInHanded {} Tryz.checked os 6 .any (fun w args=>(Rows.lexerFirstSpec.pre enc Tryz.prog Tryz.f6 [] false w args/\laidMetH Tryz.prog laid1 w)/\sizedMet enc Tryz.prog Tryz.f6 (OpenSpec.ofChange Rows.lexerFirstSpec) false w args)
   (Rows.lexerFirstSpec.post enc Tryz.prog Tryz.f6 false true false false):=by
 refine returnsInHanded_of_change_and (C:=Tryz.checked) (X:=fun w _=>laidMetH Tryz.prog laid1 w) (fun _ _ _ hh h=>h.of_heap hh) own started (by kernel_rfl) Tryz.func6
  (ChangeSpec.witness_shaped (enc:=enc) (C:=Tryz.checked) (os:=os) (X:=fun w _=>laidMetH Tryz.prog laid1 w) false (World.doorLaid Tryz.prog 14 os) #[.slice none 0 0,.int .i64 0] 8 rfl (World.shaped_of_RefB (by kernel_rfl) (by kernel_rfl)) (by kernel_rfl) (by kernel_rfl) (by kernel_rfl) (door_met os _)) ?_
 intro W base args ds gs before hval0 hW _ _ hL _;have hval:∀(j:Nat) t v,Tryz.f6.params[j]?=some t->args[j]?=some v->Value.okWide Tryz.prog W .any base t v:=hval0;have hW':=hW;obtain⟨p,q,hA0,hV,rfl,hfz,hnd⟩:=hW;have hA:DataW.TrodAll enc Tryz.prog W 0 (fun _=>true) true Tryz.f6.params.toList args.toList ds p:=hA0;rw[Tryz.params6]at hA hval;obtain⟨rfl,rfl⟩:=trodVars_none hV;obtain⟨v0,l,d0,dl,p0,q0,h0,rfl,rfl,k0,hA⟩:=trodAll_cons hA;obtain⟨v1,l,d1,dl,p1,q1,rfl,rfl,rfl,k1,hA⟩:=trodAll_cons hA;obtain⟨rfl,rfl,rfl⟩:=trodAll_nil hA;have ha:args=#[v0,v1]:=by cases args;simp_all
 subst ha;obtain⟨z1,rfl,rfl,rfl,_⟩:=open_int Tryz.underlying3 (hval 1 3 v1 rfl rfl) k1;obtain⟨la,R,c,rfl,hll,hR⟩:=JA (hval 0 22 v0 rfl rfl) k0;obtain⟨hp,hT⟩:=YA (yC hL);have hcall:=U9 R hll la c z1 W hp hT hR;refine hcall.mono fun e W' ⟨he,hkp⟩=>?_;subst he;exact⟨_,rfl,AX.NV (l:=[22,35,9,4,3]) (by kernel_rfl) (by rw[Tryz.params6];simp) hW' (fun _ _ _=>(trodAll_cons_mk (shut_bool Tryz.underlying4 _) trodAll_mk0)) rfl rfl rfl (Jz hkp) (Go.RowKit.ok_one (by kernel_rfl) rfl (okWide_bool_mk Tryz.underlying4 _))⟩
theorem lexerFirst_holds:Rows.LexerFirstSaid:=
 OpenClaim.holds_of_wide 6 Tryz.f6 rfl rfl rfl rfl rfl rfl rfl ⟨rfl,rfl,rfl,rfl,rfl⟩ rfl rfl rfl rfl rfl (by kernel_rfl) Tryz.func6 (by kernel_rfl)
  (of_decide_eq_true (by kernel_rfl)) (by unfold Func.isWrapper;first|(rw[afR (by decide +kernel)];kernel_rfl)|(rw[afO (by decide +kernel)];exact⟨rfl,rfl⟩))
  (fun os started H enc _=>lexerFirst_lifted os started H enc)
theorem lexerFirst_card:Rows.LexerFirstCardSaid:=
 Claim7.holds_tied_plain_at .later [] [.data] true (true,"9e6da1d1f218071baa13808b26dd098b23e6ee80befeaacc6dfedf4fb87b7f32") false
  lexerFirst_holds (fun _ h=>by cases h) (by kernel_rfl) (fun _ h=>by cases h) lexerFirst_row_tie rfl ⟨rfl,rfl⟩ (by kernel_rfl) rfl
  (fun f fn hf hfn=>by
   obtain rfl:f=6:=agc ((show Tryz.prog.funcNamed "viewport/viewportlaw07.LexerFirst" = some 6 by kernel_rfl).symm.trans hf) |>.symm;obtain rfl:fn=Tryz.f6:=(agc (Tryz.func6.symm.trans hfn)).symm;exact⟨by kernel_rfl,fun j t ht=>by
    rw[Tryz.params6]at ht
    match j,ht with
    | 0,ht=>cases ht;exact(show Tryz.prog.wantsStandIn 22=false by kernel_rfl)
    | 1,ht=>cases ht;exact(show Tryz.prog.wantsStandIn 3=false by kernel_rfl)⟩)
  (by kernel_rfl)
#print axioms lexerFirst_card
end Go.Proofs.YtkjgogdkdejljaaGreatDoor
