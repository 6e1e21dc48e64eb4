/- Dfa: maps of numbers; maps.Keys 56, nfa.step 41. -/
import Derived.Test.YtaadkdmbhckdeaaGreatDoorV7
import Derived.Test.YtaadkdmbhckdeaaGreatDoorRf1
import Derived.Test.YtaadkdmbhckdeaaGreatDoorN15
import Derived.Test.YtaadkdmbhckdeaaGreatDoorN5
import Derived.Test.YtaadkdmbhckdeaaGreatDoorKn
namespace Go.Proofs.YtaadkdmbhckdeaaGreatDoor
open Go Go.Proofs Go.RowKit
attribute [local go_sem] Oper.semAt_some
theorem row_shape {w : World} {base : Nat} {e : TypeId} {size : Nat} {v : Value} {n : Nat} {xs : List Value} (h : w.ownsRow base e size v n xs) : ∃ a c, v = .slice a n c := by
 rcases h.2 with ⟨rfl, rfl⟩ | ⟨g, cap, cur, rfl, _⟩
 · exact ⟨_, _, rfl⟩
 · exact ⟨_, _, rfl⟩
theorem row_base {w : World} {base base' : Nat} {e : TypeId} {size : Nat} {v : Value} {n : Nat} {xs : List Value} (h : w.ownsRow base e size v n xs) (hb : base' ≤ base) : w.ownsRow base' e size v n xs := by
 refine ⟨h.1, ?_⟩
 rcases h.2 with hn | ⟨g, cap, cur, hv, hg, rest⟩
 · exact .inl hn
 · exact .inr ⟨g, cap, cur, hv, Nat.le_trans hb hg, rest⟩
def HAt (W : World) (r : Nat) (ks : List Int) : Prop := ∃ es clock, W.heap[r]? = some (.map es clock) ∧ es.toList.map (·.key) = ks.map (Value.int .i64) ∧ MapKept.Stamped es clock
theorem HAt.lt {W : World} {r : Nat} {ks : List Int} (h : HAt W r ks) : r < W.heap.size := by
 obtain ⟨_, _, h, _⟩ := h
 exact (Array.getElem?_eq_some_iff.1 h).1
theorem HAt.below {n r : Nat} {W W' : World} {ks : List Int} (h : HAt W r ks) (hb : Below n W W') (hn : r < n) : HAt W' r ks := by
 obtain ⟨es, c, h1, h2⟩ := h
 exact ⟨es, c, (hb.block r hn).trans h1, h2⟩
theorem HAt.put {W : World} {r : Nat} {ks : List Int} (h : HAt W r ks) (k : Int) (v : Value) : ∃ W', (Instr.mapUpdate 99 (.map (some r)) (.int .i64 k) v).run Tryz.prog W = .ok () W' ∧ HAt W' r (addK ks k) ∧ AX.But r W W' := by
 obtain ⟨es, clock, hb, hk, hs⟩ := h
 have hks : ∀ x ∈ es.toList, MapKept.IsKey (.int .i64) x.key := fun x hx => by
  have : x.key ∈ es.toList.map (·.key) := List.mem_map_of_mem hx
  rw [hk, List.mem_map] at this
  obtain ⟨n, _, e⟩ := this
  rw [← e]
  rfl
 have hm : Tryz.prog.underlying 99 = some (.map 3 100) := Tryz.underlying99
 have hd : Tryz.prog.underlying 3 = some (.int .i64) := Tryz.underlying3
 have hkk : MapKept.IsKey (.int .i64) (Value.int .i64 k) := rfl
 have but : ∀ o' : Obj, AX.But r W { W with heap := W.heap.setIfInBounds r o' } := fun o' => ⟨⟨rfl, rfl, rfl, by simp, fun j hj => absurd hj (Nat.not_lt_zero _)⟩, fun j hj hne => (MapKept.heap_set (o' := o') hb).2 j hne⟩
 rcases MapKept.findNow_spec hkk es.toList 0 hks with ⟨h1, h2⟩ | ⟨j, e, h1, h2, h3⟩
 · refine ⟨{ W with heap := W.heap.setIfInBounds r (.map (es.push { key := .int .i64 k, val := v, born := clock }) (clock + 1)) }, ?_, ⟨_, _, (MapKept.heap_set hb).1, ?_, MapKept.stamped_push hs h2⟩, but _⟩
   · simp [Instr.mapUpdate, run_underlying hm, MapKept.run_getObj_map hb, MapKept.run_checkKey hd hkk, MapKept.run_findKey hd h1, MapKept.run_setObj_map _ hb, Result.andThen]
   · have hn : k ∉ ks := fun hmem => by
      have : Value.int .i64 k ∈ es.toList.map (·.key) := by rw [hk]; exact List.mem_map_of_mem hmem
      obtain ⟨x, hx, e⟩ := List.mem_map.1 this
      exact h2 x hx e
     unfold addK
     rw [if_neg hn]
     simp [hk]
 · have hj : es[j]? = some e := by simpa using h2
   have hkey : ∀ e', es[j]? = some e' → ({ e' with key := .int .i64 k, val := v } : MapEntry).key = e'.key := fun e' he' => by rw [hj] at he'; cases he'; exact h3.symm
   refine ⟨{ W with heap := W.heap.setIfInBounds r (.map (es.modify j fun e => { e with key := .int .i64 k, val := v }) clock) }, ?_, ⟨_, _, (MapKept.heap_set hb).1, ?_, MapKept.stamped_modify hs _ _ (fun _ _ => rfl) (fun e' _ he' => hkey e' he')⟩, but _⟩
   · simp [Instr.mapUpdate, run_underlying hm, MapKept.run_getObj_map hb, MapKept.run_checkKey hd hkk, MapKept.run_findKey hd h1, hj, h3, MapKept.run_keyThatStays hkk, MapKept.run_setObj_map _ hb, Result.andThen]
   · rw [MapKept.modify_keys _ _ hkey, hk]
     have hn : k ∈ ks := by
      have : e.key ∈ es.toList.map (·.key) := List.mem_map_of_mem (List.mem_of_getElem? h2)
      rw [h3, hk] at this
      obtain ⟨x, hx, e2⟩ := List.mem_map.1 this
      cases e2
      exact hx
     unfold addK
     rw [if_pos hn]
theorem wpList_put {ops : Array Oper} {rest : List Oper} {a : Act} {Q : Exit → Act → World → Prop} {m kx v : Operand} {ty : TypeId} {pos : String} {after : Array Edge} (W : World) (r : Nat) (ks : List Int) (k : Int)
  (hm : a.eval m = .map (some r)) (hk : a.eval kx = .int .i64 k) (hH : HAt W r ks)
  (h : ∀ W', HAt W' r (addK ks k) → AX.But r W W' → wpList Tryz.prog ops Q rest a W') :
  wpList Tryz.prog ops Q ({ dst := none, op := .mapUpdate 99 m kx v, type := ty, pos := pos, after := after, guard := none } :: rest) a W := by
 obtain ⟨W', hr, h1, h2⟩ := hH.put k (a.eval v)
 refine wpList_plain rfl fun K hK => ?_
 have hx : (execOp a.eval { dst := none, op := .mapUpdate 99 m kx v, type := ty, pos := pos, after := after, guard := none }).run Tryz.prog W = .ok .skip W' := by
  simp only [execOp, hm, hk, Sem.run_bind, hr]
  rfl
 unfold Oper.wp
 rw [hx]
 exact hK _ _ (h _ h1 h2)
theorem mk102 (W : World) : (Instr.makeMap 99 none).run Tryz.prog W = .ok (.map (some W.heap.size)) (W.alloc (.map #[] 0)) := run_makeMap 102 W
set_option maxRecDepth 100000 in
set_option maxHeartbeats 1000000 in
theorem keys56_k (r : Nat) (w : World) :
  Calls Tryz.prog 62 #[.map (some r)] w fun e w' => e = .returned (.func (.func 80) #[] #[.pointer (some ⟨w.heap.size, 0, none⟩)]) ∧ w' = w.alloc (.cells #[.map (some r)] 99) := by
 go_enter Tryz.func62, Tryz.ntmps62
 go_wp2
 go_ret
 exact ⟨rfl, rfl⟩
theorem sorted55_k {W : World} {Bm r : Nat} {ks l : List Int} (hH : HAt W r ks) (hp : ks.Perm l) (hl : l.Pairwise (· < ·)) (hb : ∀ x ∈ l, 0 ≤ x ∧ x < 100000) (hlen : l.length ≤ 100000) (hBm : Bm < W.heap.size) (hm : W.cell? ⟨Bm, 0, none⟩ = some (.map (some r))) :
  Calls Tryz.prog 61 #[.func (.func 80) #[] #[.pointer (some ⟨Bm, 0, none⟩)]] W fun e W' => ∃ v, e = .returned v ∧ W'.ownsRow W.heap.size 3 1 v l.length (l.map (Value.int .i64)) ∧ Below W.heap.size W W' := by
 obtain ⟨es, clk, h1, h2, h3⟩ := hH
 have hnd : ks.Nodup := hp.nodup_iff.2 (hl.imp fun h e => by omega)
 obtain ⟨D, hown, hpD, hsz⟩ := AX.own_ints (P := Tryz.prog) (k := 3) Tryz.underlying3 h1 h2 (fun x hx => by
  have := hb x (hp.mem_iff.1 hx)
  simp only [AX.okI, Bool.and_eq_true, AX.leI_eq, decide_eq_true_eq]
  omega) hnd h3.2.1 h3.1 (by rw [hp.length_eq]; omega)
 refine (sorted_keys Bm r ks.length D W hBm hm hown (by rw [hsz, hp.length_eq]; omega)).mono ?_
 rintro e W' ⟨v, ss, rfl, hs, hrow, _, hB⟩
 have hsl : ss.Perm l := (hs.trans hpD).trans hp
 refine ⟨v, rfl, ?_, hB⟩
 have e1 := sort_is hsl hl
 rw [e1, hsl.length_eq] at hrow
 exact hrow
def hasN (N : Nf) (t b : Nat) : Bool := (N.cl.getD t Kl.zero).has b
def stepN (N : Nf) (S : List Int) (b : Nat) : List Int := stepF N.cl.length N.nx (hasN N) S b
theorem up_in {k : Int} : ∀ {l : List Int} {last : Int}, Up k last l → ∀ x ∈ l, last < x ∧ x < k
 | [], _, _, x, hx => by simp at hx
 | y :: l, last, ⟨h1, h2, h3⟩, x, hx => by
  rcases List.mem_cons.1 hx with rfl | hx
  · exact ⟨h1, h2⟩
  · have := up_in h3 x hx
    omega
theorem NfOk.in_ {N : Nf} (o : NfOk N) : ∀ l ∈ N.nx, ∀ x ∈ l, 0 < x ∧ x < (N.cl.length : Int) := fun l hl x hx => up_in (o.up l hl) x hx
theorem take_snoc {α : Type} {l : List α} {k : Nat} {q : α} (h : l[k]? = some q) : l.take (k + 1) = l.take k ++ [q] := by
 obtain ⟨hk, rfl⟩ := List.getElem?_eq_some_iff.1 h
 exact List.take_succ_eq_append_getElem hk
set_option maxRecDepth 100000 in
set_option maxHeartbeats 4000000 in
theorem step41_k (N : Nf) (o : NfOk N) (ac an ar : Option Addr) (cc cn cr : Nat) (S : List Int) (hS : S.length ≤ 1000000) (hin : ∀ q ∈ S, 0 ≤ q ∧ q < (N.cl.length : Int)) (aS : Option Addr) (cs : Nat) (b : Nat) (hb : b < 256) (w : World) (h : NfAt w N ac an ar) (hI : IRow w aS S) :
  Calls Tryz.prog 47 #[.agg #[.slice ac N.cl.length cc, .slice an N.nx.length cn, .slice ar N.ru.length cr], .slice aS S.length cs, .int .u8 b] w fun e w' => ∃ v, e = .returned v ∧ w'.ownsRow w.heap.size 3 1 v (stepN N S b).length ((stepN N S b).map (Value.int .i64)) ∧ Below w.heap.size w w' := by
 obtain ⟨U, hU⟩ : ∃ U, U = w.heap.size := ⟨_, rfl⟩
 obtain ⟨wo, hwo⟩ : ∃ wo, wo = (w.alloc (.cells #[.slice ac N.cl.length cc, .slice an N.nx.length cn, .slice ar N.ru.length cr] 26)).alloc (.map #[] 0) := ⟨_, rfl⟩
 have hb0 : Below U w wo := by rw [hwo, hU]; exact ((Below.refl _ w).alloc (Nat.le_refl _) _).alloc (by simp) _
 have u0 : wo.cell? ⟨U, 0, none⟩ = some (.slice ac N.cl.length cc) := by rw [hwo, hU]; simp [World.cell?_alloc_old]
 have u1 : wo.cell? ⟨U, 1, none⟩ = some (.slice an N.nx.length cn) := by rw [hwo, hU]; simp [World.cell?_alloc_old]
 have hH0 : HAt wo (U + 1) [] := ⟨#[], 0, by
  have := World.alloc_heap_new (w.alloc (.cells #[.slice ac N.cl.length cc, .slice an N.nx.length cn, .slice ar N.ru.length cr] 26)) (.map #[] 0)
  rw [World.size_alloc] at this
  rw [hwo, hU]; exact this, rfl, MapKept.stamped_empty 0⟩
 have hperm : (setKf N.nx (fun t => hasN N t.toNat b) S []).Perm (stepN N S b) := setKf_perm (fun l hl x hx => by have := o.in_ l hl x hx; omega)
 have HP := Lib.hid hperm
 have HO := Lib.hid o
 have HU := Lib.hid hU
 have HW := Lib.hid hwo
 have HB := Lib.hid hb0
 have HIN := Lib.hid hin
 obtain ⟨m, hm⟩ : ∃ m, m = S.length := ⟨_, rfl⟩
 obtain ⟨n, hn⟩ : ∃ n, n = N.cl.length := ⟨_, rfl⟩
 obtain ⟨nn, hnn⟩ : ∃ nn, nn = N.nx.length := ⟨_, rfl⟩
 have HMm := Lib.hid hm
 have HNn := Lib.hid hn
 have HNN := Lib.hid hnn
 have HEQ : Hid (nn = n) := Lib.hid (by rw [hnn, hn]; exact o.nx)
 have hUw : U < wo.heap.size := by have := hH0.lt; omega
 rw [← hn] at u0
 rw [← hnn] at u1
 rw [← hm] at hS
 rw [← hm, ← hn, ← hnn]
 have HC := Lib.hid h.c
 have HNx := Lib.hid h.n
 have HI := Lib.hid hI
 clear hperm hwo hU hb0 h hI hin hm hn hnn o
 have hmk := mk102
 go_enter Tryz.func47, Tryz.ntmps47
 go_upto_region 2 with (fail)
 have e0 := HW.out
 rw [← HNn.out, ← HNN.out] at e0
 rw [← e0, ← HU.out]
 clear e0
 go_wp2_with fail
 go_loopw [15] (fun i wr => ∃ k : Nat, k ≤ m ∧ i = .int .i64 k ∧ HAt wr (U + 1) (setKf N.nx (fun t => hasN N t.toNat b) (S.take k) []) ∧ Below (U + 1) wo wr)
  (fun i _ => m - (intOf i).toNat)
 case atStart => exact ⟨0, Nat.zero_le _, rfl, hH0, Below.refl _ _⟩
 case round =>
  clear hH0
  obtain ⟨k, hk, rfl, hH, hB⟩ := hrel
  by_cases hkl : k < m
  · obtain ⟨q, hq⟩ : ∃ q, S[k]? = some q := ⟨_, List.getElem?_eq_getElem (by rw [← HMm.out]; exact hkl)⟩
    have hqb := HIN.out q (List.mem_of_getElem? hq)
    obtain ⟨p, rfl⟩ : ∃ p : Nat, q = (p : Int) := ⟨q.toNat, by omega⟩
    have hpn : p < n := by rw [HNn.out]; omega
    obtain ⟨Bs, os, rfl, hBs, hSc⟩ := HI.out (by intro e; rw [e] at hq; cases hq)
    rw [← HU.out] at hBs
    have hBw : Below U w wr := HB.out.trans (hB.mono (by omega))
    have hkS : k < S.length := by rw [← HMm.out]; exact hkl
    have d0 := (hBw.cell (p := ⟨Bs, os + k, none⟩) hBs).trans (hSc k hkS)
    have hqe : S[k] = (p : Int) := by obtain ⟨_, e⟩ := List.getElem?_eq_some_iff.1 hq; exact e
    rw [hqe] at d0
    have v1 := (hB.cell (p := ⟨U, 1, none⟩) (by show U < U + 1; omega)).trans u1
    have hpN : p < N.nx.length := by rw [← HNN.out, HEQ.out]; exact hpn
    obtain ⟨l, hl⟩ : ∃ l, N.nx[p]? = some l := ⟨_, List.getElem?_eq_getElem hpN⟩
    obtain ⟨Bn, on, rfl, hBn, hNc⟩ := HNx.out (by intro e; rw [e] at hpN; cases hpN)
    rw [← HU.out] at hBn
    obtain ⟨la, c, e1, e2⟩ := hNc p hpN
    have hle : N.nx[p] = l := by obtain ⟨_, e⟩ := List.getElem?_eq_some_iff.1 hl; exact e
    rw [hle] at e1 e2
    have d1 := (hBw.cell (p := ⟨Bn, on + p, none⟩) hBn).trans e1
    have HST : Hid (setKf N.nx (fun t => hasN N t.toNat b) (S.take (k + 1)) [] = rowK (fun t => hasN N t.toNat b) (setKf N.nx (fun t => hasN N t.toNat b) (S.take k) []) l) := Lib.hid (by
     rw [take_snoc hq]
     unfold setKf
     rw [List.foldl_append]
     show rowK _ _ (N.nx.getD (p : Int).toNat []) = _
     rw [Int.toNat_natCast, List.getD_eq_getElem?_getD, hl]
     rfl)
    have HLL := Lib.hid (HO.out.in_ l (List.mem_of_getElem? hl))
    have HE2 := Lib.hid e2
    have hll : l.length ≤ 1024 := by
     rcases up_len (HO.out.up l (List.mem_of_getElem? hl)) with e | e
     · rw [e]; simp
     · have := HO.out.most; omega
    obtain ⟨ks0, hks0⟩ : ∃ ks0, ks0 = setKf N.nx (fun t => hasN N t.toNat b) (S.take k) [] := ⟨_, rfl⟩
    rw [← hks0] at hH HST
    have hk0 : (0 : Int) ≤ (k : Int) := by omega
    have hk1 : (k : Int) < (m : Int) := by omega
    have hp0 : ¬ (p : Int) < 0 := by omega
    have hp1 : ¬ (nn : Int) ≤ (p : Int) := by have := HEQ.out; omega
    have hp2 : (0 : Int) ≤ (p : Int) := by omega
    have hp3 : (p : Int) < (nn : Int) := by have := HEQ.out; omega
    clear hq hqb hSc hqe hNc hle e1 e2 hl hks0 hpN hkS
    go_wp2_with fail
    go_loopw [34] (fun i wr => ∃ j : Nat, j ≤ l.length ∧ i = .int .i64 j ∧ HAt wr (U + 1) (rowK (fun t => hasN N t.toNat b) ks0 (l.take j)) ∧ Below (U + 1) wo wr)
     (fun i _ => l.length - (intOf i).toNat)
    case atStart => exact ⟨0, Nat.zero_le _, rfl, hH, hB⟩
    case round =>
     clear hH hB d0 v1 d1 hBw
     obtain ⟨j, hj, rfl, hH, hB⟩ := hrel
     by_cases hjl : j < l.length
     · obtain ⟨t, ht⟩ : ∃ t, l[j]? = some t := ⟨_, List.getElem?_eq_getElem hjl⟩
       have htb := HLL.out t (List.mem_of_getElem? ht)
       obtain ⟨tn, rfl⟩ : ∃ tn : Nat, t = (tn : Int) := ⟨t.toNat, by omega⟩
       have hBw : Below U w wr := HB.out.trans (hB.mono (by omega))
       obtain ⟨Bl, ol, rfl, hBl, hLc⟩ := HE2.out (by intro e; rw [e] at hjl; simp at hjl)
       rw [← HU.out] at hBl
       have hte : l[j] = (tn : Int) := by obtain ⟨_, e⟩ := List.getElem?_eq_some_iff.1 ht; exact e
       have d0 := (hBw.cell (p := ⟨Bl, ol + j, none⟩) hBl).trans (hLc j hjl)
       rw [hte] at d0
       have htn : tn < N.cl.length := by omega
       obtain ⟨Bc, oc, rfl, hBc, hCc⟩ := HC.out (by intro e; rw [e] at htn; simp at htn)
       rw [← HU.out] at hBc
       obtain ⟨c0, c1, c2, c3⟩ := hCc tn htn
       replace c0 := (hBw.cell (p := ⟨Bc, oc + tn * 4, none⟩) hBc).trans c0
       replace c1 := (hBw.cell (p := ⟨Bc, oc + tn * 4 + 1, none⟩) hBc).trans c1
       replace c2 := (hBw.cell (p := ⟨Bc, oc + tn * 4 + 2, none⟩) hBc).trans c2
       replace c3 := (hBw.cell (p := ⟨Bc, oc + tn * 4 + 3, none⟩) hBc).trans c3
       have v0 := (hB.cell (p := ⟨U, 0, none⟩) (by show U < U + 1; omega)).trans u0
       have hx : hasN N tn b = (N.cl[tn]).has b := by
        unfold hasN
        rw [List.getD_eq_getElem?_getD, List.getElem?_eq_getElem htn]
        rfl
       have HST2 : Hid (rowK (fun t => hasN N t.toNat b) ks0 (l.take (j + 1)) = if hasN N tn b = true then addK (rowK (fun t => hasN N t.toNat b) ks0 (l.take j)) tn else rowK (fun t => hasN N t.toNat b) ks0 (l.take j)) := Lib.hid (by
        rw [take_snoc ht]
        unfold rowK
        rw [List.foldl_append]
        rfl)
       have hhas := fun W => has_calls (N.cl[tn]).a (N.cl[tn]).b (N.cl[tn]).c (N.cl[tn]).d b (N.cl[tn]).h hb W
       change ∀ W, Calls Tryz.prog 60 _ W fun e w' => e = .returned (.bool ((N.cl[tn]).has b)) ∧ Below W.heap.size W w' at hhas
       rw [← hx] at hhas
       obtain ⟨ks1, hks1⟩ : ∃ ks1, ks1 = rowK (fun t => hasN N t.toNat b) ks0 (l.take j) := ⟨_, rfl⟩
       rw [← hks1] at hH HST2
       generalize (N.cl[tn]).a = xa at *
       generalize (N.cl[tn]).b = xb at *
       generalize (N.cl[tn]).c = xc at *
       generalize (N.cl[tn]).d = xd at *
       have hj0 : (0 : Int) ≤ (j : Int) := by omega
       have hj1 : (j : Int) < (l.length : Int) := by omega
       have ht0 : (0 : Int) ≤ (tn : Int) := by omega
       have ht1 : (tn : Int) < (n : Int) := by rw [HNn.out]; omega
       clear hLc hCc hx ht htb hte hks1
       cases hz : hasN N tn b with
       | true =>
        rw [hz] at hhas
        have HST3 := Lib.hid (HST2.out.trans (if_pos hz))
        clear hz HST2
        go_wp2_with (first
         | (go_at_call 60; (with_reducible refine (hhas _).mono ?_); rintro e W3 ⟨rfl, hB3⟩; have hB4 : Below (U + 1) wo W3 := hB.trans (hB3.mono (Nat.le_of_lt hH.lt)); have hH4 := hH.below hB3 hH.lt)
         | (at_mapUpdate; (with_reducible refine wpList_put W3 (U + 1) ks1 tn rfl rfl hH4 ?_); rintro W5 hH5 hT5))
        exact ⟨⟨j + 1, by omega, by simp, by rw [HST3.out]; exact hH5, hB4.trans (hT5.below (by have := hH4.lt; omega) (Nat.le_refl _))⟩, by simp [intOf]; omega⟩
       | false =>
        rw [hz] at hhas
        have HST3 := Lib.hid (HST2.out.trans (if_neg (by rw [hz]; decide)))
        clear hz HST2
        go_wp2_with (first
         | (go_at_call 60; (with_reducible refine (hhas _).mono ?_); rintro e W3 ⟨rfl, hB3⟩; have hB4 : Below (U + 1) wo W3 := hB.trans (hB3.mono (Nat.le_of_lt hH.lt)); have hH4 := hH.below hB3 hH.lt))
        exact ⟨⟨j + 1, by omega, by simp, by rw [HST3.out]; exact hH4, hB4⟩, by simp [intOf]; omega⟩
     · obtain rfl : j = l.length := by omega
       rw [List.take_length, ← HST.out] at hH
       go_wp2_with fail
       exact ⟨⟨k + 1, by omega, by simp, hH, hB⟩, by simp [intOf]; omega⟩
  · obtain rfl : k = m := by omega
    rw [HMm.out, List.take_length] at hH
    have hls : (stepN N S b).length ≤ 1024 := Nat.le_trans (stepF_len _ _ _ _ _) HO.out.most
    have hk56 := keys56_k (U + 1)
    have hsz := hH.lt
    have hso := sorted55_k (hH.below ((Below.refl wr.heap.size wr).alloc (Nat.le_refl _) (.cells #[.map (some (U + 1))] 99)) hsz) HP.out (stepF_rising _ _ _ _ _) (fun x hx => by have h1 := stepF_in hx; have h2 := HO.out.most; omega) (by omega) (Bm := wr.heap.size) (by simp) (by simp)
    have hb9 : Below w.heap.size w (wr.alloc (.cells #[.map (some (U + 1))] 99)) := by rw [← HU.out]; exact (HB.out.trans (hB.mono (by omega))).alloc (by omega) _
    have HSO := Lib.hid hso
    have HB9 := Lib.hid hb9
    clear hso hb9 hH
    go_wp2_with (first
     | (go_at_call 62; (with_reducible refine (hk56 _).mono ?_); rintro e W3 ⟨rfl, rfl⟩)
     | (go_at_call 61; (with_reducible refine HSO.out.mono ?_); rintro e W4 ⟨v, rfl, hrow, hb4⟩))
    exact bodyPost_ret (v := v) (by simp [results, Tryz.results47, go_sem]) rfl ⟨v, rfl, row_base hrow (HB9.out.size), HB9.out.trans (hb4.mono HB9.out.size)⟩
end Go.Proofs.YtaadkdmbhckdeaaGreatDoor
