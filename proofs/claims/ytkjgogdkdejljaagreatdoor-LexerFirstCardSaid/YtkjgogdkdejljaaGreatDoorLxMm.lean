import Derived.Test.YtkjgogdkdejljaaGreatDoorChecked
import Derived.Lib.Strings
import Derived.Lib.Slices
import Derived.Lib.Walk
set_option maxRecDepth 100000
set_option maxHeartbeats 40000000
namespace Go.Proofs.YtkjgogdkdejljaaGreatDoor.Lx
open Go.Proofs
theorem slices_Min_int(b off n c:Nat)(zs:List Int)(w:World)(hn:0<n)(hz:n≤zs.length)(hbig:n≤9223372036854775807)(hc:∀j,j<zs.length→w.cell? ⟨b,off+j,none⟩=some (.int .i64 (zs.getD j 0))):
  Calls Tryz.prog 75 #[.slice (some ⟨b,off,none⟩) n c] w fun e w'=>e=.returned (.int .i64 (Lib.minOf (zs.take n)))∧w'=w:=by
 have h0:w.cell? ⟨b,off,none⟩=some (.int .i64 (zs.getD 0 0)):=by simpa using hc 0 (by omega)
 go_enter Tryz.func75,Tryz.ntmps75
 go_wp2
 go_loop [3,4] (fun m i=>∃k:Nat,0<k∧k≤n∧i=.int .i64 k∧m=.int .i64 (Lib.minOf (zs.take k))) (fun _ i=>match i with| .int _ q=>n-q.toNat|_=>0)
 case atStart=>exact⟨1,Nat.one_pos,hn,rfl,by rw[Lib.minOf_one];simp[List.getD]⟩
 case round =>
  obtain⟨k,hk0,hk,rfl,rfl⟩:=hrel;have hcell:k<n→w.cell? ⟨b,off+k,none⟩=some (.int .i64 (zs.getD k 0)):=fun _=>hc k (by omega);go_wp2
  ·have hlt:k<n:=by assumption
   have e1:((k:Int)+1+9223372036854775808) % 18446744073709551616-9223372036854775808=((k+1:Nat):Int):=(by omega);refine⟨⟨k+1,Nat.succ_pos k,by omega,e1,?_⟩,by omega⟩;rw[Lib.minOf_step zs k hk0 (by omega)];simp[List.getD]
  ·have hge:¬k<n:=by assumption
   have:k=n:=(by omega);subst this;go_ret
   exact⟨rfl,rfl⟩
theorem slices_Max_int(b off n c:Nat)(zs:List Int)(w:World)(hn:0<n)(hz:n≤zs.length)(hbig:n≤9223372036854775807)(hc:∀j,j<zs.length→w.cell? ⟨b,off+j,none⟩=some (.int .i64 (zs.getD j 0))):
  Calls Tryz.prog 37 #[.slice (some ⟨b,off,none⟩) n c] w fun e w'=>e=.returned (.int .i64 (Lib.maxOf (zs.take n)))∧w'=w:=by
 have h0:w.cell? ⟨b,off,none⟩=some (.int .i64 (zs.getD 0 0)):=by simpa using hc 0 (by omega)
 go_enter Tryz.func37,Tryz.ntmps37
 go_wp2
 go_loop [3,4] (fun m i=>∃k:Nat,0<k∧k≤n∧i=.int .i64 k∧m=.int .i64 (Lib.maxOf (zs.take k))) (fun _ i=>match i with| .int _ q=>n-q.toNat|_=>0)
 case atStart=>exact⟨1,Nat.one_pos,hn,rfl,by rw[Lib.maxOf_one];simp[List.getD]⟩
 case round =>
  obtain⟨k,hk0,hk,rfl,rfl⟩:=hrel;have hcell:k<n→w.cell? ⟨b,off+k,none⟩=some (.int .i64 (zs.getD k 0)):=fun _=>hc k (by omega);go_wp2
  ·have hlt:k<n:=by assumption
   have e1:((k:Int)+1+9223372036854775808) % 18446744073709551616-9223372036854775808=((k+1:Nat):Int):=(by omega);refine⟨⟨k+1,Nat.succ_pos k,by omega,e1,?_⟩,by omega⟩;rw[Lib.maxOf_step zs k hk0 (by omega)];simp[List.getD]
  ·have hge:¬k<n:=by assumption
   have:k=n:=(by omega);subst this;go_ret
   exact⟨rfl,rfl⟩
end Go.Proofs.YtkjgogdkdejljaaGreatDoor.Lx
