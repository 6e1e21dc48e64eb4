/- Dfa: what viewportref04.Build keeps in memory. -/
import Derived.Test.YtaadkdmbhckdeaaGreatDoorN23a
import Derived.Test.YtaadkdmbhckdeaaGreatDoorN30
namespace Go.Proofs.YtaadkdmbhckdeaaGreatDoor
theorem rowB_snoc {most : Nat} {g : Nat → List Int} (b : Nat) : ∀ (l : List Nat) (T : Sets), rowB most g (l ++ [b]) T = match rowB most g l T with
  | none => none
  | some (ts, T1) => match addS most T1 (g b) with
   | none => none
   | some (t, T2) => some (ts ++ [t], T2)
 | [], T => by
  cases h : addS most T (g b) with
  | none => simp [rowB, h]
  | some p => obtain ⟨t, T1⟩ := p; simp [rowB, h]
 | a :: l, T => by
  show rowB most g (a :: (l ++ [b])) T = _
  unfold rowB
  cases h : addS most T (g a) with
  | none => rfl
  | some p =>
   obtain ⟨t, T1⟩ := p
   dsimp only
   rw [rowB_snoc b l T1]
   cases h2 : rowB most g l T1 with
   | none => rfl
   | some p =>
    obtain ⟨ts, T2⟩ := p
    dsimp only
    cases h3 : addS most T2 (g b) with
    | none => rfl
    | some p => obtain ⟨t', T3⟩ := p; rfl
theorem addS_nodup {most : Nat} {T T1 : Sets} {S : List Int} {t : Int} (h : addS most T S = some (t, T1)) (hn : T.Nodup) : T1.Nodup := by
 unfold addS at h
 split at h
 · cases h; exact hn
 split at h
 · cases h; exact hn
 rename_i hf
 split at h
 · cases h
 · cases h
   refine List.nodup_append.2 ⟨hn, by simp, fun a ha b hb e => ?_⟩
   rw [List.mem_singleton] at hb
   subst hb; subst e
   exact hf (List.findIdx_lt_length_of_exists ⟨a, ha, by simp⟩)
theorem rowB_nodup {most : Nat} {g : Nat → List Int} : ∀ {l : List Nat} {T T2 : Sets} {ts : List Int}, rowB most g l T = some (ts, T2) → T.Nodup → T2.Nodup
 | [], T, T2, ts, h, hn => by cases h; exact hn
 | b :: l, T, T2, ts, h, hn => by
  unfold rowB at h
  cases h1 : addS most T (g b) with
  | none => rw [h1] at h; cases h
  | some p =>
   obtain ⟨t, T1⟩ := p
   rw [h1] at h
   dsimp only at h
   cases h2 : rowB most g l T1 with
   | none => rw [h2] at h; cases h
   | some p =>
    obtain ⟨ts', T2'⟩ := p
    rw [h2] at h
    dsimp only at h
    cases h
    exact rowB_nodup h2 (addS_nodup h1 hn)
theorem addS_tell {most : Nat} {T : Sets} {S : List Int} {t : Int} (hn : T.Nodup) (h : Tells T S t) : addS most T S = some (t, T) := by
 unfold addS
 rcases h with ⟨h0, rfl⟩ | ⟨h0, p, rfl, hp⟩
 · rw [if_pos h0]
 · obtain ⟨hpl, hpe⟩ := List.getElem?_eq_some_iff.1 hp
   have hlt : T.findIdx (fun U => U == S) < T.length := List.findIdx_lt_length_of_exists ⟨S, by rw [← hpe]; exact List.getElem_mem hpl, by simp⟩
   rw [if_neg h0, if_pos hlt]
   have he : T[T.findIdx (fun U => U == S)] = S := by simpa using List.findIdx_getElem (w := hlt)
   have : T.findIdx (fun U => U == S) = p := (List.getElem_inj hn).1 (he.trans hpe.symm)
   rw [this]
def rowOf (cls : Nat → Nat) (n : Nat) (ts : List Int) : List Int := (List.range n).map fun x => ts.getD (cls x) 0
theorem row_all {most : Nat} {g : Nat → List Int} {lows : List Nat} {cls : Nat → Nat} (L : Lay lows cls) (hg : ∀ x (hx : x < 256), g x = g (lows[cls x]'(L.lt x hx))) {T : Sets} (hT : T.Nodup) (hm : T.length ≤ most) : ∀ x, x ≤ 256 →
  ∃ p, p ≤ lows.length ∧ (∀ j (hj : j < lows.length), lows[j] < x ↔ j < p) ∧ rowB most g (List.range x) T = (rowB most g (lows.take p) T).map fun q => (rowOf cls x q.1, q.2)
 | 0, _ => ⟨0, Nat.zero_le _, fun j hj => by omega, rfl⟩
 | x + 1, hx => by
  obtain ⟨p, hp, hlow, heq⟩ := row_all L hg hT hm x (by omega)
  have hx' : x < 256 := by omega
  have hcl := L.lt x hx'
  have hle := L.le x hx'
  by_cases hlx : lows[cls x] = x
  · -- a class begins here
    have hcp : cls x = p := by
     have h1 := (hlow (cls x) hcl)
     have hnlt : ¬ cls x < p := fun h => by have := h1.2 h; omega
     have h2 : ¬ p < cls x := fun h => by
      have := L.inc p (cls x) (by omega) hcl h
      have := (hlow p (by omega)).1 (by omega)
      omega
     omega
    have hpl : p < lows.length := by omega
    have hpx : lows[p] = x := by rw [← hlx]; congr 1; exact hcp.symm
    refine ⟨p + 1, by omega, fun j hj => ?_, ?_⟩
    · constructor
      · intro h
        rcases Nat.lt_or_ge p j with hpj | hpj
        · have := L.inc p j hpl hj hpj; omega
        · omega
      · intro h
        rcases Nat.lt_or_ge j p with hjp | hjp
        · have := (hlow j hj).2 hjp; omega
        · have : j = p := by omega
          subst this; omega
    · rw [List.range_succ, rowB_snoc, heq, List.take_succ_eq_append_getElem hpl, rowB_snoc]
      cases h1 : rowB most g (lows.take p) T with
      | none => rfl
      | some q =>
       obtain ⟨ts, T1⟩ := q
       simp only [Option.map_some]
       rw [hpx]
       cases h2 : addS most T1 (g x) with
       | none => rfl
       | some q =>
        obtain ⟨t, T2⟩ := q
        simp only [Option.map_some]
        have hts : ts.length = p := by rw [(rowB_ok h1 hm).1, List.length_take]; omega
        congr 2
        unfold rowOf
        rw [List.range_succ, List.map_append]
        congr 1
        · refine List.map_congr_left fun y hy => ?_
          have hy' : y < x := List.mem_range.1 hy
          have hcy := L.lt y (by omega)
          have := (hlow (cls y) hcy).1 (by have := L.le y (by omega); omega)
          rw [List.getD_eq_getElem?_getD, List.getD_eq_getElem?_getD, List.getElem?_append_left (by omega)]
        · simp [hcp, ← hts]
  · have hlt : lows[cls x] < x := by omega
    have hcp := (hlow (cls x) hcl).1 hlt
    refine ⟨p, hp, fun j hj => ?_, ?_⟩
    · constructor
      · intro h
        refine (hlow j hj).1 ?_
        rcases Nat.lt_or_ge lows[j] x with h3 | h3
        · exact h3
        · have e : lows[j] = x := by omega
          have := (L.low j hj).2
          rw [e] at this
          exact absurd (by simp only [this]; exact e) hlx
      · intro h
        have := (hlow j hj).2 h
        omega
    · rw [List.range_succ, rowB_snoc, heq]
      cases h1 : rowB most g (lows.take p) T with
      | none => rfl
      | some q =>
       obtain ⟨ts, T1⟩ := q
       simp only [Option.map_some]
       have ht := rowB_tells h1 hm (cls x) lows[cls x] (by rw [List.getElem?_take_of_lt hcp, List.getElem?_eq_getElem hcl])
       rw [← hg x hx'] at ht
       rw [addS_tell (rowB_nodup h1 hT) ht]
       simp only
       congr 2
       unfold rowOf
       rw [List.range_succ, List.map_append]
       rfl
theorem row_all256 {most : Nat} {g : Nat → List Int} {lows : List Nat} {cls : Nat → Nat} (L : Lay lows cls) (hg : ∀ x (hx : x < 256), g x = g (lows[cls x]'(L.lt x hx))) {T : Sets} (hT : T.Nodup) (hm : T.length ≤ most) :
  rowB most g (List.range 256) T = (rowB most g lows T).map fun q => (rowOf cls 256 q.1, q.2) := by
 obtain ⟨p, hp, hlow, h⟩ := row_all L hg hT hm 256 (Nat.le_refl _)
 have : p = lows.length := by
  rcases Nat.lt_or_ge p lows.length with h1 | h1
  · have := (hlow p h1).1 (L.low p h1).1
    omega
  · omega
 rw [h, this, List.take_length]
theorem bld_all {most : Nat} {f : List Int → Nat → List Int} {lows : List Nat} {cls : Nat → Nat} (L : Lay lows cls) (hg : ∀ S x (hx : x < 256), f S x = f S (lows[cls x]'(L.lt x hx))) : ∀ (n i : Nat) (T : Sets), T.Nodup → T.length ≤ most →
  bldB most f (List.range 256) n i T = (bldB most f lows n i T).map fun q => (q.1.map (rowOf cls 256), q.2)
 | 0, i, T, _, _ => rfl
 | n + 1, i, T, hT, hm => by
  unfold bldB
  by_cases hlt : i < T.length
  · rw [if_pos hlt, if_pos hlt, row_all256 L (hg _) hT hm]
    cases h1 : rowB most (f (T.getD i [])) lows T with
    | none => rfl
    | some q =>
     obtain ⟨ts, T1⟩ := q
     simp only [Option.map_some]
     rw [bld_all L hg n (i + 1) T1 (rowB_nodup h1 hT) (rowB_ok h1 hm).2.2.2.1]
     cases h2 : bldB most f lows n (i + 1) T1 with
     | none => rfl
     | some q => obtain ⟨tss, T2⟩ := q; rfl
  · rw [if_neg hlt, if_neg hlt]; rfl
theorem nextOf_flat (cls : Nat → Nat) (tss : List (List Int)) : nextOf cls tss = (tss.map (rowOf cls 256)).flatten := by
 unfold nextOf
 rw [List.flatMap_def]
 rfl
open Go Go.Proofs Go.RowKit
attribute [local go_sem] Oper.semAt_some
def row31_5 : List (Nat × Bool) := [(0, false), (1, false), (2, false), (3, false), (4, false), (5, false), (6, false), (7, false), (8, false), (9, false), (10, false), (11, false), (12, false), (13, true), (14, true), (15, false)]
def inf31_5 : List AX.Inf := [⟨0, 2048, 8, true⟩, ⟨0, 4096, 1, true⟩, ⟨0, 8192, 16, true⟩, ⟨6, 16384, 12288, true⟩, ⟨8, 32768, 16384, true⟩, ⟨16, 65536, 32768, true⟩, ⟨32, 131072, 65536, true⟩, ⟨0, 262144, 1, true⟩, ⟨0, 524288, 16, true⟩, ⟨384, 1048576, 786432, true⟩, ⟨512, 2097152, 1048576, true⟩, ⟨1024, 4194304, 2097152, true⟩, ⟨2048, 8388608, 4194304, true⟩, ⟨4160, 16777216, 8519680, false⟩, ⟨8193, 33554432, 16779264, false⟩, ⟨32767, 8, 33554432, true⟩]
theorem fit31_5 : AX.mixF inf31_5 row31_5 0 = true := by kernel_rfl
theorem oper_append_b {o : Oper} {a : Act} {K : Act → World → Prop} {Q : Exit → Act → World → Prop} {W : World} (base : Nat) (v : Value) (pre : List UInt8) (x y : UInt8) (s z : Operand)
  (ho : o.op = .call { callee := .builtin .append, args := #[s, z], argTypes := #[64, 64] }) (hs : a.eval s = v) (hown : BOwn W base v pre) (B c : Nat) (hx : a.eval z = .slice (some ⟨B, 0, none⟩) 2 c)
  (hc0 : W.cell? ⟨B, 0, none⟩ = some (.int .u8 (x.toNat : Int))) (hc1 : W.cell? ⟨B, 1, none⟩ = some (.int .u8 (y.toNat : Int))) (hl : pre.length ≤ 10000000) (hb : base ≤ W.heap.size)
  (h : ∀ v' w', BOwn w' base v' (pre ++ [x, y]) → W.grownBy w' v.ownBlock → K (a.put o.dst v') w') : o.wp Tryz.prog a W K Q := by
 obtain ⟨ti, hi, hz0, hz1, hz2⟩ := info_parts info5'
 obtain ⟨v', w', hr, h2, h3, _, h5⟩ := run_append_own_at (P := Tryz.prog) W base 64 o.type 5 ti (.int .u8 0) 1 1 Tryz.underlying64 hi hz0 hz1 hz2 rfl (by decide) v pre.length _ hown ⟨B, 0, none⟩ 2 c [.int .u8 (x.toNat : Int), .int .u8 (y.toNat : Int)] rfl
  (fun j u hj => by
   rcases j with _ | _ | j
   · simp at hj; subst hj; exact hc0
   · simp at hj; subst hj; exact hc1
   · simp at hj) (fun u hu => by
   rcases List.mem_cons.1 hu with rfl | hu
   · rfl
   · rw [List.mem_singleton.1 hu]; rfl) (by unfold maxLen; omega) (by omega) hb
 unfold Oper.wp execOp
 simp only [ho, resolve, invoke, builtin, Sem.run_bind, Sem.run_pure, Result.andThen_ok, List.map_toArray, List.map_cons, List.map_nil, hs, hx, hr]
 refine h v' w' ?_ h3
 unfold BOwn
 rw [List.length_append, List.map_append]
 exact h2
set_option maxRecDepth 100000 in
set_option maxHeartbeats 4000000 in
theorem rkey_k (S : List Int) (hS : S.length ≤ 1000000) (hb : ∀ k ∈ S, 0 ≤ k ∧ k < 65536) (aS : Option Addr) (cs : Nat) (w : World) (hI : IRow w aS S) :
  Calls Tryz.prog 31 #[.slice aS S.length cs] w fun e w' => e = .returned (.string ⟨(keyL S).toArray⟩) ∧ Below w.heap.size w w' := by
 obtain ⟨m, hm⟩ : ∃ m, m = S.length := ⟨_, rfl⟩
 have HS := Lib.hid hm
 have HB := Lib.hid hb
 rw [← hm] at hS ⊢
 clear hm hb
 have hr0 : BOwn w w.heap.size (.slice none 0 0) [] := World.ownsRow_nil _ _ _ _
 go_enter Tryz.func31, Tryz.ntmps31
 go_wp2_with fail
 go_loopw [3, 4] (fun t3 i wr => ∃ k : Nat, k ≤ m ∧ i = .int .i64 k ∧ BOwn wr w.heap.size t3 (keyL (S.take k)) ∧ Below w.heap.size w wr)
  (fun _ i _ => m - (intOf i).toNat)
 case atStart => exact ⟨0, Nat.zero_le _, rfl, hr0, Below.refl _ _⟩
 case round =>
  clear hr0
  obtain ⟨k, hk, rfl, hr, hb⟩ := hrel
  by_cases hkl : k < m
  · obtain ⟨q, hq⟩ : ∃ q, S[k]? = some q := ⟨_, List.getElem?_eq_getElem (by rw [← HS.out]; exact hkl)⟩
    have hqb := HB.out q (List.mem_of_getElem? hq)
    obtain ⟨p, rfl⟩ : ∃ p : Nat, q = (p : Int) := ⟨q.toNat, by omega⟩
    obtain ⟨Bs, os, rfl, hBs, hSc⟩ := hI (by intro e; rw [e] at hq; cases hq)
    have hkS : k < S.length := by rw [← HS.out]; exact hkl
    have hqe : S[k] = (p : Int) := by obtain ⟨_, e⟩ := List.getElem?_eq_some_iff.1 hq; exact e
    have hd : w.cell? ⟨Bs, os + k, none⟩ = some (.int .i64 p) := by rw [← hqe]; exact hSc k hkS
    have hK : Hid (keyL (S.take (k + 1)) = keyL (S.take k) ++ [UInt8.ofNat (p / 256), UInt8.ofNat p]) := Lib.hid (by
     rw [List.take_succ_eq_append_getElem hkS, hqe]
     unfold keyL
     rw [List.flatMap_append]
     congr 1
     simp only [List.flatMap_cons, List.flatMap_nil, List.append_nil]
     congr 1
     · congr 1; omega
     · congr 1
       rw [← UInt8.toNat_inj, UInt8.toNat_ofNat', UInt8.toNat_ofNat']
       omega)
    obtain ⟨C, hCi, hCo⟩ : ∃ C : World → Prop, (∀ X, C X → Below w.heap.size w X) ∧ ∀ X, Below w.heap.size w X → C X := ⟨fun X => Below w.heap.size w X, fun _ h => h, fun _ h => h⟩
    have hC0 : C wr.drew := hCo _ (hb.trans ((Below.refl _ wr).drew.mono hb.size))
    haveI : Inhabited (AX.CW C) := ⟨⟨_, hC0⟩⟩
    have A0 : ∀ x : AX.CW C, x.W.cell? ⟨Bs, os + k, none⟩ = some (.int .i64 p) := fun x => ((hCi _ x.h).cell (p := ⟨Bs, os + k, none⟩) hBs).trans hd
    have hk0 : (0 : Int) ≤ (k : Int) := by omega
    have hk1 : (k : Int) < (m : Int) := by omega
    have hp0 : p < 65536 := by omega
    have x0 : (((UInt8.ofNat (p / 256)).toNat : Nat) : Int) = (p : Int) / 256 := by rw [UInt8.toNat_ofNat']; omega
    have x1 : (((UInt8.ofNat p).toNat : Nat) : Int) = (p : Int) % 256 := by rw [UInt8.toNat_ofNat']; omega
    have X0 := Lib.hid x0
    have X1 := Lib.hid x1
    have hlt9 : (keyL (S.take k)).length ≤ 10000000 := by
     have : ∀ l : List Int, (keyL l).length = 2 * l.length := fun l => by
      unfold keyL
      induction l with
      | nil => rfl
      | cons a l ih => rw [List.flatMap_cons, List.length_append, ih]; simp; omega
     rw [this, List.length_take]
     omega
    have HCi := Lib.hid hCi
    have HCo := Lib.hid hCo
    have Hhr := Lib.hid hr
    have H9 := Lib.hid hlt9
    clear hq hSc hqe hqb hd hCi hCo hr x0 x1 hlt9
    go_upto_region 5 with (fail)
    refine AX.region_mixF (C := fun W => ∃ x : AX.CW C, W = x.W) row31_5 inf31_5 (by kernel_rfl) (by kernel_rfl) (by kernel_rfl) (by kernel_rfl) fit31_5 (by intro c a d v w h; cases d <;> exact h) ⟨⟨_, hC0⟩, rfl⟩ ?_
    unfold row31_5
    repeat (refine AX.mix_plain _ (by rfl) ?_; go_big_quiet_step (fail); refine wpQuiet_nil ?_)
    refine AX.mix_op _ (by rfl) (by rfl) ?_
    unfold Oper.wp
    go_simp
    have hv2 : Below wr.heap.size wr (wr.alloc (.cells #[.int .u8 ((p : Int) / 256), .int .u8 ((p : Int) % 256)] 5)).drew := ((Below.refl _ wr).alloc (Nat.le_refl _) _).drew
    have c0 : (wr.alloc (.cells #[.int .u8 ((p : Int) / 256), .int .u8 ((p : Int) % 256)] 5)).drew.cell? ⟨wr.heap.size, 0, none⟩ = some (.int .u8 (((UInt8.ofNat (p / 256)).toNat : Nat) : Int)) := by rw [X0.out]; simp
    have c1 : (wr.alloc (.cells #[.int .u8 ((p : Int) / 256), .int .u8 ((p : Int) % 256)] 5)).drew.cell? ⟨wr.heap.size, 1, none⟩ = some (.int .u8 (((UInt8.ofNat p).toNat : Nat) : Int)) := by rw [X1.out]; simp
    generalize (wr.alloc (.cells #[.int .u8 ((p : Int) / 256), .int .u8 ((p : Int) % 256)] 5)).drew = V2 at *
    have hbV := hb.trans (hv2.mono hb.size)
    refine ⟨⟨⟨_, HCo.out _ hbV⟩, rfl⟩, ?_⟩
    (try simp only [Act.put, List.setIfInBounds_toArray, List.set_cons_succ, List.set_cons_zero])
    refine AX.mix_op _ (by rfl) (by rfl) ?_
    have hr2 : BOwn V2 w.heap.size u3 (keyL (S.take k)) := own_ch Hhr.out (Ch.of_below hv2 []) (fun _ _ => by simp)
    refine oper_append_b w.heap.size u3 (keyL (S.take k)) (UInt8.ofNat (p / 256)) (UInt8.ofNat p) _ _ rfl rfl hr2 wr.heap.size 2 rfl c0 c1 H9.out hbV.size ?_
    intro v' V3 h6 h7
    have hb3 : Below w.heap.size w V3 := hbV.trans ((Below.refl w.heap.size _).grown h7 hbV.size fun g e => (World.ownsRow.lt hr2 g e).1)
    refine ⟨⟨⟨_, HCo.out _ hb3⟩, rfl⟩, ?_⟩
    (try simp only [Act.put, List.setIfInBounds_toArray, List.set_cons_succ, List.set_cons_zero])
    have H6 := Lib.hid h6
    clear h6 h7 hr2 c0 c1 A0 hbV hv2 hb
    repeat (refine AX.mix_plain _ (by rfl) ?_; go_big_quiet_step (fail); refine wpQuiet_nil ?_)
    unfold AX.wpMix
    go_wp2_with fail
    go_round
    case rel => exact ⟨k + 1, by omega, by simp, by rw [hK.out]; exact H6.out, hb3⟩
    case measure => simp [intOf]; omega
  · obtain rfl : k = m := by omega
    rw [HS.out, List.take_length] at hr
    rw [← HS.out] at *
    have hcv : (convert 64 9 u3).run Tryz.prog wr = .ok (.string ⟨(keyL S).toArray⟩) wr := by
     rcases hr.2 with ⟨rfl, hn⟩ | ⟨g, cap, cur, rfl, _⟩
     · rw [List.eq_nil_of_length_eq_zero hn]
       exact run_convert_bytes_nil wr 64 5 Tryz.underlying64 Tryz.underlying5 _ _ 9 Tryz.underlying9
     · have := run_convert_bytes_arg (P := Tryz.prog) wr 64 5 Tryz.underlying64 Tryz.underlying5 g 0 (keyL S).length cap ((keyL S).map fun b => ((b.toNat : Nat) : Int)) (by simp) (fun i hi => by
        have := World.ownsRow.cellAt hr i (by simpa using hi)
        rw [Nat.zero_add, this]
        simp [hi]) 9 Tryz.underlying9
       rw [this]
       congr 2
       simp [strOfNums, Function.comp_def]
    clear hr
    go_wp2_with fail
    go_ret
    exact ⟨rfl, hb⟩
def bz (r D : Nat) (sv nv rv : Value) : List Nat := r :: D :: (sv.ownBlock.toList ++ (nv.ownBlock.toList ++ rv.ownBlock.toList))
theorem mem_bz {r D : Nat} {sv nv rv : Value} {k : Nat} : k ∈ bz r D sv nv rv ↔ k = r ∨ k = D ∨ sv.ownBlock = some k ∨ nv.ownBlock = some k ∨ rv.ownBlock = some k := by
 unfold bz
 simp only [List.mem_cons, List.mem_append, Option.mem_toList]
theorem SAt.turn {bad bad' c : List Nat} {X Y : World} {v : Value} {l : List Int} (h : SAt X bad v l) (hc : Ch c X Y) (h1 : ∀ k ∈ c, k < X.heap.size → k ∈ bad) (h2 : ∀ k ∈ bad', k < X.heap.size → k ∈ bad) : SAt Y bad' v l := by
 obtain ⟨a, n, rfl, h⟩ := h
 refine ⟨a, n, rfl, fun h0 => ?_⟩
 obtain ⟨b, off, e1, e2, e3, e4⟩ := h h0
 exact ⟨b, off, e1, Nat.lt_of_lt_of_le e2 hc.low.size, fun hm => e3 (h2 b hm e2), fun j hj => (hc.cell e2 (fun hm => e3 (h1 b hm e2)) _).trans (e4 j hj)⟩
structure Rs (w W : World) (x0 x1 x2 : Value) (U r D : Nat) (sv nv rv : Value) (vals : List Value) (T : Sets) (next rule : List Int) : Prop where
 low : Below w.heap.size w W
 ub : Bx W U 26 #[x0, x1, x2]
 rb : Bx W (U + 1) 28 #[.slice none 0 0, .slice none 0 0]
 db : Bx W D 28 #[nv, rv]
 own : W.ownsRow w.heap.size 24 1 sv T.length vals
 vl : vals.length = T.length
 row : ∀ (i : Nat) (v : Value) (S : List Int), vals[i]? = some v → T[i]? = some S → SAt W (bz r D sv nv rv) v S
 map : W.heap[r]? = some (.map (entsF 0 T).toArray T.length)
 no : W.ownsRow w.heap.size 3 1 nv next.length (next.map (Value.int .i64))
 ro : W.ownsRow w.heap.size 3 1 rv rule.length (rule.map (Value.int .i64))
 ap : ∀ g, nv.ownBlock = some g → rv.ownBlock ≠ some g
 neD : D ≠ U + 1
 bD : w.heap.size ≤ D
 br : w.heap.size ≤ r
 small : ∀ S ∈ T, Small S
section
variable {w W W' : World} {x0 x1 x2 : Value} {U r D : Nat} {sv nv rv : Value} {vals : List Value} {T : Sets} {next rule : List Int}
theorem Rs.below (h : Rs w W x0 x1 x2 U r D sv nv rv vals T next rule) (hb : Below W.heap.size W W') : Rs w W' x0 x1 x2 U r D sv nv rv vals T next rule := by
 have c : Ch [] W W' := Ch.of_below hb []
 exact { h with
  low := h.low.trans (hb.mono h.low.size)
  ub := c.bx h.ub (by simp)
  rb := c.bx h.rb (by simp)
  db := c.bx h.db (by simp)
  own := own_ch h.own c (fun _ _ => by simp)
  row := fun i v S hv hS => (h.row i v S hv hS).turn c (fun _ hm => by simp at hm) (fun _ hm _ => hm)
  map := (c.same r (Array.getElem?_eq_some_iff.1 h.map).1 (by simp)).trans h.map
  no := own_ch h.no c (fun _ _ => by simp)
  ro := own_ch h.ro c (fun _ _ => by simp) }
theorem Rs.set (h : Rs w W x0 x1 x2 U r D sv nv rv vals T next rule) {i : Nat} (hi : i < T.length) : ∃ g c v, sv = .slice (some ⟨g, 0, none⟩) T.length c ∧ g < W.heap.size ∧ W.cell? ⟨g, i, none⟩ = some v ∧ SAt W (bz r D sv nv rv) v (T.getD i []) := by
 rcases h.own.2 with ⟨_, h0⟩ | ⟨g, cap, cur, e, _, hh, _⟩
 · omega
 · cases e
   have hiv : i < vals.length := by rw [h.vl]; exact hi
   refine ⟨g, cap, vals[i], rfl, (Array.getElem?_eq_some_iff.1 hh).1, ?_, h.row i _ _ (List.getElem?_eq_getElem hiv) (by rw [List.getD_eq_getElem?_getD, List.getElem?_eq_getElem hi]; rfl)⟩
   have := h.own.cells (g := g) rfl i vals[i] (by simp [hiv])
   rw [addr_add, Nat.zero_add] at this
   exact this
theorem Rs.pushN {W5 W6 : World} (h : Rs w W x0 x1 x2 U r D sv nv rv vals T next rule) {v' : Value} {l : List Int}
  (h6 : W5.ownsRow w.heap.size 3 1 v' (next.length + l.length) (next.map (Value.int .i64) ++ l.map (Value.int .i64))) (h7 : W.grownBy W5 nv.ownBlock) (h8 : v'.ownBlock = nv.ownBlock ∨ v'.ownBlock = some W.heap.size)
  (g3 : Bx W6 D 28 #[v', rv]) (g4 : ∀ k, k ≠ D → W6.heap[k]? = W5.heap[k]?) (hl : Below 0 W5 W6) :
  Rs w W6 x0 x1 x2 U r D sv v' rv vals T (next ++ l) rule := by
 have c1 : Ch (D :: nv.ownBlock.toList) W W5 := Ch.of_grown h7 fun g hg => by simp [hg]
 have c2 : Ch (D :: nv.ownBlock.toList) W W6 := c1.trans (Ch.of_turn (A := D) hl g4 (by simp))
 have memc : ∀ k, k ∈ D :: nv.ownBlock.toList → (∃ cs, W.heap[k]? = some (.cells cs 28 (0, 0)) ∧ k = D) ∨ (∃ cs, W.heap[k]? = some (.cells cs 3 (0, 0)) ∧ nv.ownBlock = some k) := fun k hk => by
  rw [List.mem_cons, Option.mem_toList] at hk
  rcases hk with rfl | hk
  · exact .inl ⟨_, h.db, rfl⟩
  · obtain ⟨cs, hc⟩ := own_cells h.no k hk
    exact .inr ⟨cs, hc, hk⟩
 have typ : ∀ (k : Nat) (cs : Array Value) (t : TypeId), W.heap[k]? = some (.cells cs t (0, 0)) → t ≠ 28 → t ≠ 3 → k ∉ D :: nv.ownBlock.toList := fun k cs t hk h1 h2 hm => by
  rcases memc k hm with ⟨cs', e, _⟩ | ⟨cs', e, _⟩
  · rw [hk] at e; cases e; exact h1 rfl
  · rw [hk] at e; cases e; exact h2 rfl
 have hr : r ∉ D :: nv.ownBlock.toList := fun hm => by
  rcases memc r hm with ⟨cs', e, _⟩ | ⟨cs', e, _⟩ <;> (rw [h.map] at e; cases e)
 have hU1 : U + 1 ∉ D :: nv.ownBlock.toList := fun hm => by
  rcases memc _ hm with ⟨cs', e, e2⟩ | ⟨cs', e, _⟩
  · exact h.neD e2.symm
  · rw [show W.heap[U + 1]? = _ from h.rb] at e; cases e
 have hs : ∀ g, sv.ownBlock = some g → g ∉ D :: nv.ownBlock.toList := fun g hg => by
  obtain ⟨cs, hc⟩ := own_cells h.own g hg
  exact typ g cs 24 hc (by decide) (by decide)
 have hrv : ∀ g, rv.ownBlock = some g → g ∉ D :: nv.ownBlock.toList := fun g hg hm => by
  rcases memc g hm with ⟨cs', e, _⟩ | ⟨cs', _, e2⟩
  · obtain ⟨cs, hc⟩ := own_cells h.ro g hg
    rw [hc] at e; cases e
  · exact h.ap g e2 hg
 have x5 : W5.heap[D]? = some (.cells #[nv, rv] 28 (0, 0)) := (h7.block D h.db.lt (fun e => by
  obtain ⟨cs, hc⟩ := own_cells h.no D e.symm
  rw [show W.heap[D]? = _ from h.db] at hc
  cases hc)).trans h.db
 have o6 : W6.ownsRow w.heap.size 3 1 v' (next.length + l.length) (next.map (Value.int .i64) ++ l.map (Value.int .i64)) := own_ch h6 (Ch.of_turn (A := D) (bad := [D]) hl g4 (by simp)) fun g hg e => by
  obtain ⟨cs, hc⟩ := own_cells h6 g hg
  rw [List.mem_singleton.1 e, x5] at hc
  cases hc
 exact { h with
  low := h.low.trans (c2.below h.low.size fun k hk => by
   rw [List.mem_cons, Option.mem_toList] at hk
   rcases hk with rfl | hk
   · exact h.bD
   · exact (h.no.lt k hk).1)
  ub := c2.bx h.ub (typ U _ 26 h.ub (by decide) (by decide))
  rb := c2.bx h.rb hU1
  db := g3
  own := own_ch h.own c2 hs
  row := fun i v S hv hS => (h.row i v S hv hS).turn c2 (fun k hk _ => by
   rw [List.mem_cons, Option.mem_toList] at hk
   rw [mem_bz]
   rcases hk with hk | hk
   · exact .inr (.inl hk)
   · exact .inr (.inr (.inr (.inl hk)))) (fun k hk hlt => by
   rw [mem_bz] at hk ⊢
   rcases hk with hk | hk | hk | hk | hk
   · exact .inl hk
   · exact .inr (.inl hk)
   · exact .inr (.inr (.inl hk))
   · rcases h8 with e | e
     · rw [e] at hk; exact .inr (.inr (.inr (.inl hk)))
     · rw [e] at hk; cases hk; omega
   · exact .inr (.inr (.inr (.inr hk))))
  map := (c2.same r (Array.getElem?_eq_some_iff.1 h.map).1 hr).trans h.map
  no := by rw [List.length_append, List.map_append]; exact o6
  ro := own_ch h.ro c2 hrv
  ap := fun g hg e => by
   rcases h8 with e8 | e8
   · rw [e8] at hg; exact h.ap g hg e
   · rw [e8] at hg; cases hg; have := (h.ro.lt _ e).2; omega }
theorem Rs.pushR {W5 W6 : World} (h : Rs w W x0 x1 x2 U r D sv nv rv vals T next rule) {v' : Value} {l : List Int}
  (h6 : W5.ownsRow w.heap.size 3 1 v' (rule.length + l.length) (rule.map (Value.int .i64) ++ l.map (Value.int .i64))) (h7 : W.grownBy W5 rv.ownBlock) (h8 : v'.ownBlock = rv.ownBlock ∨ v'.ownBlock = some W.heap.size)
  (g3 : Bx W6 D 28 #[nv, v']) (g4 : ∀ k, k ≠ D → W6.heap[k]? = W5.heap[k]?) (hl : Below 0 W5 W6) :
  Rs w W6 x0 x1 x2 U r D sv nv v' vals T next (rule ++ l) := by
 have c1 : Ch (D :: rv.ownBlock.toList) W W5 := Ch.of_grown h7 fun g hg => by simp [hg]
 have c2 : Ch (D :: rv.ownBlock.toList) W W6 := c1.trans (Ch.of_turn (A := D) hl g4 (by simp))
 have memc : ∀ k, k ∈ D :: rv.ownBlock.toList → (∃ cs, W.heap[k]? = some (.cells cs 28 (0, 0)) ∧ k = D) ∨ (∃ cs, W.heap[k]? = some (.cells cs 3 (0, 0)) ∧ rv.ownBlock = some k) := fun k hk => by
  rw [List.mem_cons, Option.mem_toList] at hk
  rcases hk with rfl | hk
  · exact .inl ⟨_, h.db, rfl⟩
  · obtain ⟨cs, hc⟩ := own_cells h.ro k hk
    exact .inr ⟨cs, hc, hk⟩
 have typ : ∀ (k : Nat) (cs : Array Value) (t : TypeId), W.heap[k]? = some (.cells cs t (0, 0)) → t ≠ 28 → t ≠ 3 → k ∉ D :: rv.ownBlock.toList := fun k cs t hk h1 h2 hm => by
  rcases memc k hm with ⟨cs', e, _⟩ | ⟨cs', e, _⟩
  · rw [hk] at e; cases e; exact h1 rfl
  · rw [hk] at e; cases e; exact h2 rfl
 have hr : r ∉ D :: rv.ownBlock.toList := fun hm => by
  rcases memc r hm with ⟨cs', e, _⟩ | ⟨cs', e, _⟩ <;> (rw [h.map] at e; cases e)
 have hU1 : U + 1 ∉ D :: rv.ownBlock.toList := fun hm => by
  rcases memc _ hm with ⟨cs', e, e2⟩ | ⟨cs', e, _⟩
  · exact h.neD e2.symm
  · rw [show W.heap[U + 1]? = _ from h.rb] at e; cases e
 have hs : ∀ g, sv.ownBlock = some g → g ∉ D :: rv.ownBlock.toList := fun g hg => by
  obtain ⟨cs, hc⟩ := own_cells h.own g hg
  exact typ g cs 24 hc (by decide) (by decide)
 have hrv : ∀ g, nv.ownBlock = some g → g ∉ D :: rv.ownBlock.toList := fun g hg hm => by
  rcases memc g hm with ⟨cs', e, _⟩ | ⟨cs', _, e2⟩
  · obtain ⟨cs, hc⟩ := own_cells h.no g hg
    rw [hc] at e; cases e
  · exact h.ap g hg e2
 have x5 : W5.heap[D]? = some (.cells #[nv, rv] 28 (0, 0)) := (h7.block D h.db.lt (fun e => by
  obtain ⟨cs, hc⟩ := own_cells h.ro D e.symm
  rw [show W.heap[D]? = _ from h.db] at hc
  cases hc)).trans h.db
 have o6 : W6.ownsRow w.heap.size 3 1 v' (rule.length + l.length) (rule.map (Value.int .i64) ++ l.map (Value.int .i64)) := own_ch h6 (Ch.of_turn (A := D) (bad := [D]) hl g4 (by simp)) fun g hg e => by
  obtain ⟨cs, hc⟩ := own_cells h6 g hg
  rw [List.mem_singleton.1 e, x5] at hc
  cases hc
 exact { h with
  low := h.low.trans (c2.below h.low.size fun k hk => by
   rw [List.mem_cons, Option.mem_toList] at hk
   rcases hk with rfl | hk
   · exact h.bD
   · exact (h.ro.lt k hk).1)
  ub := c2.bx h.ub (typ U _ 26 h.ub (by decide) (by decide))
  rb := c2.bx h.rb hU1
  db := g3
  own := own_ch h.own c2 hs
  row := fun i v S hv hS => (h.row i v S hv hS).turn c2 (fun k hk _ => by
   rw [List.mem_cons, Option.mem_toList] at hk
   rw [mem_bz]
   rcases hk with hk | hk
   · exact .inr (.inl hk)
   · exact .inr (.inr (.inr (.inr hk)))) (fun k hk hlt => by
   rw [mem_bz] at hk ⊢
   rcases hk with hk | hk | hk | hk | hk
   · exact .inl hk
   · exact .inr (.inl hk)
   · exact .inr (.inr (.inl hk))
   · exact .inr (.inr (.inr (.inl hk)))
   · rcases h8 with e | e
     · rw [e] at hk; exact .inr (.inr (.inr (.inr hk)))
     · rw [e] at hk; cases hk; omega)
  map := (c2.same r (Array.getElem?_eq_some_iff.1 h.map).1 hr).trans h.map
  ro := by rw [List.length_append, List.map_append]; exact o6
  no := own_ch h.no c2 hrv
  ap := fun g hg e => by
   rcases h8 with e8 | e8
   · rw [e8] at e; exact h.ap g hg e
   · rw [e8] at e; cases e; have := (h.no.lt _ hg).2; omega }
theorem Rs.add {W5 W6 W8 : World} (h : Rs w W x0 x1 x2 U r D sv nv rv vals T next rule) {v' vS : Value} {S : List Int} (hS : SAt W (bz r D sv nv rv) vS S) (hSm : Small S)
  (h6 : W5.ownsRow w.heap.size 24 1 v' (T.length + 1) (vals ++ [vS])) (h7 : W.grownBy W5 sv.ownBlock) (h8 : v'.ownBlock = sv.ownBlock ∨ v'.ownBlock = some W.heap.size) (hb : Below W5.heap.size W5 W6) (hu : AX.But r W6 W8)
  (hm8 : W8.heap[r]? = some (.map (entsF 0 (T ++ [S])).toArray (T ++ [S]).length)) : Rs w W8 x0 x1 x2 U r D v' nv rv (vals ++ [vS]) (T ++ [S]) next rule := by
 have c1 : Ch (r :: sv.ownBlock.toList) W W5 := Ch.of_grown h7 fun g hg => by simp [hg]
 have c3 : Ch (r :: sv.ownBlock.toList) W W8 := (c1.trans (Ch.of_below hb _)).trans (Ch.of_but hu (by simp))
 have memc : ∀ k, k ∈ r :: sv.ownBlock.toList → (∃ es n, W.heap[k]? = some (.map es n)) ∨ (∃ cs, W.heap[k]? = some (.cells cs 24 (0, 0))) := fun k hk => by
  rw [List.mem_cons, Option.mem_toList] at hk
  rcases hk with rfl | hk
  · exact .inl ⟨_, _, h.map⟩
  · exact .inr (own_cells h.own k hk)
 have typ : ∀ (k : Nat) (cs : Array Value) (t : TypeId), W.heap[k]? = some (.cells cs t (0, 0)) → t ≠ 24 → k ∉ r :: sv.ownBlock.toList := fun k cs t hk h1 hm => by
  rcases memc k hm with ⟨es, n, e⟩ | ⟨cs', e⟩
  · rw [hk] at e; cases e
  · rw [hk] at e; cases e; exact h1 rfl
 have o8 : W8.ownsRow w.heap.size 24 1 v' (T.length + 1) (vals ++ [vS]) := by
  have o6 := own_ch h6 (Ch.of_below hb []) (fun _ _ => by simp)
  refine own_ch o6 (Ch.of_but (bad := [r]) hu (by simp)) fun g hg hm => ?_
  obtain ⟨cs, hc⟩ := own_cells h6 g hg
  have hr5 : W5.heap[r]? = some (.map (entsF 0 T).toArray T.length) := (h7.block r (Array.getElem?_eq_some_iff.1 h.map).1 (fun e => by
   obtain ⟨cs, hc⟩ := own_cells h.own r e.symm
   rw [h.map] at hc; cases hc)).trans h.map
  rw [List.mem_singleton.1 hm, hr5] at hc
  cases hc
 have inold : ∀ k ∈ r :: sv.ownBlock.toList, k < W.heap.size → k ∈ bz r D sv nv rv := fun k hk _ => by
  rw [List.mem_cons, Option.mem_toList] at hk
  rw [mem_bz]
  rcases hk with hk | hk
  · exact .inl hk
  · exact .inr (.inr (.inl hk))
 have innew : ∀ k ∈ bz r D v' nv rv, k < W.heap.size → k ∈ bz r D sv nv rv := fun k hk hlt => by
  rw [mem_bz] at hk ⊢
  rcases hk with hk | hk | hk | hk
  · exact .inl hk
  · exact .inr (.inl hk)
  · rcases h8 with e | e
    · rw [e] at hk; exact .inr (.inr (.inl hk))
    · rw [e] at hk; cases hk; omega
  · exact .inr (.inr (.inr hk))
 exact { h with
  low := h.low.trans (c3.below h.low.size fun k hk => by
   rw [List.mem_cons, Option.mem_toList] at hk
   rcases hk with rfl | hk
   · exact h.br
   · exact (h.own.lt k hk).1)
  ub := c3.bx h.ub (typ U _ 26 h.ub (by decide))
  rb := c3.bx h.rb (typ _ _ 28 h.rb (by decide))
  db := c3.bx h.db (typ D _ 28 h.db (by decide))
  own := by rw [List.length_append]; exact o8
  vl := by simp [h.vl]
  row := fun i v U hv hU => by
   by_cases hi : i < T.length
   · rw [List.getElem?_append_left (by rw [h.vl]; exact hi)] at hv
     rw [List.getElem?_append_left hi] at hU
     exact (h.row i v U hv hU).turn c3 inold innew
   · rw [List.getElem?_append_right (by rw [h.vl]; omega), h.vl] at hv
     rw [List.getElem?_append_right (by omega)] at hU
     have e : i - T.length = 0 := by
      have := (List.getElem?_eq_some_iff.1 hU).1
      simp at this
      omega
     rw [e] at hv hU
     simp at hv hU
     subst hv
     subst hU
     exact hS.turn c3 inold innew
  map := hm8
  no := own_ch h.no c3 fun g hg => by
   obtain ⟨cs, hc⟩ := own_cells h.no g hg
   exact typ g cs 3 hc (by decide)
  ro := own_ch h.ro c3 fun g hg => by
   obtain ⟨cs, hc⟩ := own_cells h.ro g hg
   exact typ g cs 3 hc (by decide)
  small := fun U hU => by
   rcases List.mem_append.1 hU with hU | hU
   · exact h.small U hU
   · rw [List.mem_singleton.1 hU]; exact hSm }
end
end Go.Proofs.YtaadkdmbhckdeaaGreatDoor
