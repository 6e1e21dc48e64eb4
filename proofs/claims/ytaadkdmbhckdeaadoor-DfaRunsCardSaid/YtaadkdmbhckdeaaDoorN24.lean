/- Dfa: DfaFound 3. -/
import Derived.Test.YtaadkdmbhckdeaaDoorN23
import Derived.Test.YtaadkdmbhckdeaaDoorN6
import Derived.Test.YtaadkdmbhckdeaaDoorN7
import Derived.Test.YtaadkdmbhckdeaaDoorT9
namespace Go.Proofs.YtaadkdmbhckdeaaDoor
open Go Go.Proofs Go.RowKit
attribute [local go_sem] Oper.semAt_some
theorem rcheck_fine {N : Nf} (o : NfOk N) {ac an ar : Option Addr} {cc cn cr : Nat} {w : World} (h : NfAt w N ac an ar) : Calls Tryd.prog 8 #[.agg #[.slice ac N.cl.length cc, .slice an N.nx.length cn, .slice ar N.ru.length cr]] w fun e w' => e = .returned (.int .i64 0) ∧ Below w.heap.size w w' := by
  have := rcheck_k N ac an ar cc cn cr w h
  rw [show ckN N = 0 from if_pos o] at this
  exact this
/-- What Build's rows come to. -/
structure Bl (N : Nf) (most : Nat) (tss : List (List Int)) (T : Sets) : Prop where
  r : BldR (lowsOf (spl N.cl)) (clsOf (spl N.cl)) T.length (fun k => tss.getD k []) (sOf 1 tss) (nextOf (clsOf (spl N.cl)) tss)
  len : tss.length = T.length
  most : T.length ≤ most
  one : 1 ≤ T.length
  bd : ∀ i, i < 256 * T.length → -1 ≤ (nextOf (clsOf (spl N.cl)) tss).getD i 0 ∧ (nextOf (clsOf (spl N.cl)) tss).getD i 0 < (T.length : Int)
theorem getD_mem {l : List Int} {i : Nat} (h : i < l.length) : l.getD i 0 ∈ l := by
  rw [List.getD_eq_getElem?_getD, List.getElem?_eq_getElem h]
  exact List.getElem_mem h
theorem Bl.of {N : Nf} {most : Nat} (hm : 1 ≤ most) {tss : List (List Int)} {T : Sets} (h : bldB most (stepN N) (lowsOf (spl N.cl)) (most + 1) 0 [[0]] = some (tss, T)) : Bl N most tss T := by
  obtain ⟨h1, h2, h3, ⟨R, h4⟩, h5⟩ := bldB_ok h (by simpa using hm) (by simp) (by omega)
  obtain ⟨r, hl⟩ := bld_r (clsOf (spl N.cl)) h hm
  refine ⟨r, hl, h2, by rw [h4]; simp, fun i hi => ?_⟩
  obtain ⟨k, x, hx, rfl⟩ : ∃ k x, x < 256 ∧ i = 256 * k + x := ⟨i / 256, i % 256, Nat.mod_lt _ (by decide), by omega⟩
  have hk : k < T.length := by omega
  have L := lay_of (spl_parted N.cl) (spl_sorted N.cl)
  rw [nextOf_at _ _ _ _ (by omega) hx]
  obtain ⟨a1, _, _, a4⟩ := h5 k (by omega)
  have hlt : clsOf (spl N.cl) x < (tss.getD k []).length := by rw [a1]; exact L.lt x hx
  exact a4 _ (getD_mem hlt)
end Go.Proofs.YtaadkdmbhckdeaaDoor
