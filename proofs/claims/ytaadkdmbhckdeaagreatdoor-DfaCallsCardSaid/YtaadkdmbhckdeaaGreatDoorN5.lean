/- Dfa: key 33. -/
import Derived.Test.YtaadkdmbhckdeaaGreatDoorN2
import Derived.Test.YtaadkdmbhckdeaaGreatDoorV5
import Derived.Maps.AppendAt
import Derived.RangeFuncBox
import Derived.OneCell
namespace Go.Proofs.YtaadkdmbhckdeaaGreatDoor
open Go Go.Proofs Go.RowKit
attribute [local go_sem] Oper.semAt_some
theorem ruleF_take (ru S : List Int) (k : Nat) (q : Int) (h : S[k]? = some q) : (S.take (k + 1)).foldl (ruleK ru) (-1) = ruleK ru ((S.take k).foldl (ruleK ru) (-1)) q := by
 obtain ⟨hk, rfl⟩ := List.getElem?_eq_some_iff.1 h
 rw [List.take_succ_eq_append_getElem hk, List.foldl_append]
 rfl
set_option maxRecDepth 100000 in
set_option maxHeartbeats 4000000 in
theorem rule40_k (N : Nf) (ac an ar : Option Addr) (cc cn cr : Nat) (S : List Int) (hS : S.length ≤ 1000000) (aS : Option Addr) (cs : Nat) (w : World) (h : NfAt w N ac an ar) (hI : IRow w aS S) :
  Calls Tryz.prog 46 #[nfV ac an ar N.cl.length N.nx.length N.ru.length cc cn cr, .slice aS S.length cs] w fun e w' => e = .returned (.int .i64 (ruleF N.ru S)) ∧ Below w.heap.size w w' := by
 unfold nfV
 obtain ⟨wo, hwo⟩ : ∃ wo, wo = w.alloc (.cells #[.slice ac N.cl.length cc, .slice an N.nx.length cn, .slice ar N.ru.length cr] 26) := ⟨_, rfl⟩
 have hb0 : Below w.heap.size w wo := by rw [hwo]; exact (Below.refl _ w).alloc (Nat.le_refl _) _
 obtain ⟨U, hU⟩ : ∃ U, U = w.heap.size := ⟨_, rfl⟩
 have u2 : wo.cell? ⟨U, 2, none⟩ = some (.slice ar N.ru.length cr) := by rw [hwo, hU]; simp
 have hI' := hI.below hb0 (Nat.le_refl _)
 have hR' := h.r.below hb0 (Nat.le_refl _)
 have HW := Lib.hid hwo
 have HB := Lib.hid hb0
 have HU := Lib.hid hU
 obtain ⟨m, hm⟩ : ∃ m, m = S.length := ⟨_, rfl⟩
 obtain ⟨r, hr⟩ : ∃ r, r = N.ru.length := ⟨_, rfl⟩
 rw [← hr] at u2
 have HS := Lib.hid hm
 have HR := Lib.hid hr
 rw [← hm, ← hr]
 rw [← hm] at hS
 clear hwo hb0 hU hI h hm hr
 go_enter Tryz.func46, Tryz.ntmps46
 go_upto_region 1 with (fail)
 have e0 := HW.out
 rw [← HR.out] at e0
 rw [← e0, ← HU.out]
 clear e0
 go_wp2_with fail
 go_loopw [5, 11] (fun t5 i wr => ∃ k : Nat, k ≤ m ∧ i = .int .i64 k ∧ t5 = .int .i64 ((S.take k).foldl (ruleK N.ru) (-1)) ∧ wr = wo)
  (fun _ i _ => m - (intOf i).toNat)
 case atStart => exact ⟨0, Nat.zero_le _, rfl, rfl, rfl⟩
 case round =>
  obtain ⟨k, hk, rfl, rfl, rfl⟩ := hrel
  by_cases hkl : k < m
  · obtain ⟨q, hq⟩ : ∃ q, S[k]? = some q := ⟨_, List.getElem?_eq_getElem (by rw [← HS.out]; exact hkl)⟩
    obtain ⟨Bs, os, rfl, hBs, hSc⟩ := hI' (by intro e; rw [e] at hq; cases hq)
    have hkS : k < S.length := by rw [← HS.out]; exact hkl
    have d0 := hSc k hkS
    have hqe : S[k] = q := by obtain ⟨_, e⟩ := List.getElem?_eq_some_iff.1 hq; exact e
    rw [hqe] at d0
    have HF := Lib.hid (ruleF_take N.ru S k q hq)
    obtain ⟨out, hout⟩ : ∃ o, o = (S.take k).foldl (ruleK N.ru) (-1) := ⟨_, rfl⟩
    rw [← hout] at HF ⊢
    have hk0 : (0 : Int) ≤ (k : Int) := by omega
    have hk1 : (k : Int) < (m : Int) := by omega
    have hkt : (k : Int).toNat = k := by omega
    clear hq hSc hqe hout
    by_cases hin : 0 ≤ q ∧ q < (r : Int)
    · obtain ⟨hq0, hq1⟩ := hin
      obtain ⟨p, rfl⟩ : ∃ p : Nat, q = (p : Int) := ⟨q.toNat, by omega⟩
      have hpr : p < N.ru.length := by rw [← HR.out]; omega
      obtain ⟨Br, or', rfl, hBr, hRc⟩ := hR' (by intro e; rw [e] at hpr; simp at hpr)
      have d1 := hRc p hpr
      obtain ⟨z, hz⟩ : ∃ z, z = N.ru[p] := ⟨_, rfl⟩
      rw [← hz] at d1
      have hgd : N.ru.getD p (-1) = z := by rw [List.getD_eq_getElem?_getD, List.getElem?_eq_getElem hpr, hz]; rfl
      have HF2 : Hid ((S.take (k + 1)).foldl (ruleK N.ru) (-1) = if 0 ≤ z ∧ (out < 0 ∨ z < out) then z else out) := Lib.hid (by
       rw [HF.out]
       unfold ruleK
       rw [if_pos ⟨by omega, by omega⟩, Int.toNat_natCast, hgd])
      have n1 : ¬ (p : Int) < 0 := by omega
      have n2 : ¬ (r : Int) ≤ (p : Int) := by omega
      have n3 : (p : Int).toNat = p := by omega
      clear hz hgd hRc hpr
      by_cases z0 : 0 ≤ z
      · by_cases o0 : out < 0
        · have hv := HF2.out
          rw [if_pos ⟨z0, .inl o0⟩] at hv
          have HV := Lib.hid hv
          clear hv
          go_wp2_with fail
          exact ⟨⟨k + 1, by omega, by simp, by rw [HV.out], trivial⟩, by simp [intOf]; omega⟩
        · by_cases zo : z < out
          · have hv := HF2.out
            rw [if_pos ⟨z0, .inr zo⟩] at hv
            have HV := Lib.hid hv
            clear hv
            go_wp2_with fail
            exact ⟨⟨k + 1, by omega, by simp, by rw [HV.out], trivial⟩, by simp [intOf]; omega⟩
          · have hv := HF2.out
            rw [if_neg (by omega)] at hv
            have HV := Lib.hid hv
            clear hv
            go_wp2_with fail
            exact ⟨⟨k + 1, by omega, by simp, by rw [HV.out], trivial⟩, by simp [intOf]; omega⟩
      · have hv := HF2.out
        rw [if_neg (by omega)] at hv
        have HV := Lib.hid hv
        clear hv
        go_wp2_with fail
        exact ⟨⟨k + 1, by omega, by simp, by rw [HV.out], trivial⟩, by simp [intOf]; omega⟩
    · have hv := HF.out
      unfold ruleK at hv
      rw [if_neg (by rw [← HR.out]; exact hin)] at hv
      have HV : Hid ((S.take (k + 1)).foldl (ruleK N.ru) (-1) = out) := Lib.hid hv
      clear hv HF
      by_cases hq0 : q < 0
      · clear hin
        go_wp2_with fail
        exact ⟨⟨k + 1, by omega, by simp, by rw [HV.out], trivial⟩, by simp [intOf]; omega⟩
      · have hq1 : (r : Int) ≤ q := by omega
        clear hin
        go_wp2_with fail
        exact ⟨⟨k + 1, by omega, by simp, by rw [HV.out], trivial⟩, by simp [intOf]; omega⟩
  · obtain rfl : k = m := by omega
    have hv : (S.take k).foldl (ruleK N.ru) (-1) = ruleF N.ru S := by rw [HS.out, List.take_length]; rfl
    rw [hv]
    have HB2 := HB.out
    clear hv
    go_wp2_with fail
    go_ret
    exact ⟨rfl, HB2⟩
theorem check_fine {N : Nf} (o : NfOk N) {ac an ar : Option Addr} {cc cn cr : Nat} {w : World} (h : NfAt w N ac an ar) : Calls Tryz.prog 23 #[.agg #[.slice ac N.cl.length cc, .slice an N.nx.length cn, .slice ar N.ru.length cr]] w fun e w' => e = .returned (.int .i64 0) ∧ Below w.heap.size w w' := by
 have := ncheck_k N ac an ar cc cn cr w h
 rw [show ckN N = 0 from if_pos o] at this
 exact this
set_option maxRecDepth 100000 in
set_option maxHeartbeats 4000000 in
theorem rule23_k (N : Nf) (o : NfOk N) (ac an ar : Option Addr) (cc cn cr : Nat) (S : List Int) (hS : S.length ≤ 1000000) (aS : Option Addr) (cs : Nat) (w : World) (h : NfAt w N ac an ar) (hI : IRow w aS S) :
  Calls Tryz.prog 26 #[.agg #[.slice ac N.cl.length cc, .slice an N.nx.length cn, .slice ar N.ru.length cr], .slice aS S.length cs] w fun e w' => e = .returned (.int .i64 (ruleF N.ru S)) ∧ Below w.heap.size w w' := by
 have hb0 : Below w.heap.size w (w.alloc (.cells #[.slice ac N.cl.length cc, .slice an N.nx.length cn, .slice ar N.ru.length cr] 26)) := (Below.refl _ w).alloc (Nat.le_refl _) _
 have hck := check_fine o (cc := cc) (cn := cn) (cr := cr) (h.below hb0 (Nat.le_refl _))
 have hrl := fun W (hb : Below w.heap.size w W) => rule40_k N ac an ar cc cn cr S hS aS cs W (h.below hb (Nat.le_refl _)) (hI.below hb (Nat.le_refl _))
 unfold nfV at hrl
 have g0 : ∀ (W : World) (j : Nat) (v : Value), Below (w.alloc (.cells #[.slice ac N.cl.length cc, .slice an N.nx.length cn, .slice ar N.ru.length cr] 26)).heap.size (w.alloc (.cells #[.slice ac N.cl.length cc, .slice an N.nx.length cn, .slice ar N.ru.length cr] 26)) W → (#[Value.slice ac N.cl.length cc, .slice an N.nx.length cn, .slice ar N.ru.length cr])[j]? = some v → W.cell? ⟨w.heap.size, j, none⟩ = some v := fun W j v hb hv => (hb.cell (p := ⟨w.heap.size, j, none⟩) (by simp)).trans (by simp [hv])
 go_enter Tryz.func26, Tryz.ntmps26
 go_wp2_with (first
  | (go_at_call 23; (with_reducible refine hck.mono ?_); rintro e W1 ⟨rfl, hb1⟩; have e0 := g0 W1 0 _ hb1 rfl; have e1 := g0 W1 1 _ hb1 rfl; have e2 := g0 W1 2 _ hb1 rfl; have hb2 := hb0.trans (hb1.mono (by simp)))
  | (go_at_call 46; (with_reducible refine (hrl _ hb2).mono ?_); rintro e W3 ⟨rfl, hb3⟩))
 go_ret
 exact ⟨rfl, hb2.trans (hb3.mono hb2.size)⟩
def keyL (S : List Int) : List UInt8 := S.flatMap fun k => [UInt8.ofNat (k / 256 % 256).toNat, UInt8.ofNat (k % 256).toNat]
theorem info5' : (Tryz.prog.info? 5).map (fun i => (i.zero, i.size, i.bytes)) = some (some (.int .u8 0), 1, 1) := by kernel_rfl
def BOwn (W : World) (base : Nat) (v : Value) (l : List UInt8) : Prop := W.ownsRow base 5 1 v l.length (l.map fun b => Value.int .u8 (b.toNat : Int))
theorem append_b {ops : Array Oper} {rest : List Oper} {o : Oper} {a : Act} {Q : Exit → Act → World → Prop} (W : World) (base : Nat) (v : Value) (pre : List UInt8) (x y : UInt8) (hgd : o.guard = none) (s z : Operand)
  (ho : o.op = .call { callee := .builtin .append, args := #[s, z], argTypes := #[64, 64] }) (hs : a.eval s = v) (hown : BOwn W base v pre) (B c : Nat) (hx : a.eval z = .slice (some ⟨B, 0, none⟩) 2 c)
  (hc0 : W.cell? ⟨B, 0, none⟩ = some (.int .u8 (x.toNat : Int))) (hc1 : W.cell? ⟨B, 1, none⟩ = some (.int .u8 (y.toNat : Int))) (hl : pre.length ≤ 10000000) (hb : base ≤ W.heap.size)
  (h : ∀ v' w', BOwn w' base v' (pre ++ [x, y]) → W.grownBy w' v.ownBlock → wpList Tryz.prog ops Q rest (a.put o.dst v') w') : wpList Tryz.prog ops Q (o :: rest) a W := by
 obtain ⟨ti, hi, hz0, hz1, hz2⟩ := info_parts info5'
 refine wpList_append_own_at (P := Tryz.prog) (w := W) hgd s z 64 ho base 5 ti (.int .u8 0) 1 1 Tryz.underlying64 hi hz0 hz1 hz2 rfl (by decide) v pre.length _ hs hown ⟨B, 0, none⟩ 2 c [.int .u8 (x.toNat : Int), .int .u8 (y.toNat : Int)] hx rfl
  (fun j u hj => by
   rcases j with _ | _ | j
   · simp at hj; subst hj; exact hc0
   · simp at hj; subst hj; exact hc1
   · simp at hj) (fun u hu => by
   rcases List.mem_cons.1 hu with rfl | hu
   · rfl
   · rw [List.mem_singleton.1 hu]; rfl) (by unfold maxLen; omega) (by omega) hb ?_
 intro v' w' h1 h2 _ h4
 refine h v' w' ?_ h2
 unfold BOwn
 rw [List.length_append, List.map_append]
 exact h1
set_option maxRecDepth 100000 in
set_option maxHeartbeats 4000000 in
theorem key_k (S : List Int) (hS : S.length ≤ 1000000) (hb : ∀ k ∈ S, 0 ≤ k ∧ k < 65536) (aS : Option Addr) (cs : Nat) (w : World) (hI : IRow w aS S) :
  Calls Tryz.prog 39 #[.slice aS S.length cs] w fun e w' => e = .returned (.string ⟨(keyL S).toArray⟩) ∧ Below w.heap.size w w' := by
 obtain ⟨m, hm⟩ : ∃ m, m = S.length := ⟨_, rfl⟩
 have HS := Lib.hid hm
 have HB := Lib.hid hb
 rw [← hm] at hS ⊢
 clear hm hb
 have hr0 : BOwn w w.heap.size (.slice none 0 0) [] := World.ownsRow_nil _ _ _ _
 go_enter Tryz.func39, Tryz.ntmps39
 go_wp2_with fail
 go_loopw [3, 8] (fun t3 i wr => ∃ k : Nat, k ≤ m ∧ i = .int .i64 k ∧ BOwn wr w.heap.size t3 (keyL (S.take k)) ∧ Below w.heap.size w wr)
  (fun _ i _ => m - (intOf i).toNat)
 case atStart => exact ⟨0, Nat.zero_le _, rfl, hr0, Below.refl _ _⟩
 case round =>
  clear hr0
  obtain ⟨k, hk, rfl, hr, hb⟩ := hrel
  by_cases hkl : k < m
  · obtain ⟨q, hq⟩ : ∃ q, S[k]? = some q := ⟨_, List.getElem?_eq_getElem (by rw [← HS.out]; exact hkl)⟩
    have hqb := HB.out q (List.mem_of_getElem? hq)
    obtain ⟨p, rfl⟩ : ∃ p : Nat, q = (p : Int) := ⟨q.toNat, by omega⟩
    obtain ⟨Bs, os, rfl, hBs, hSc⟩ := hI (by intro e; rw [e] at hq; cases hq)
    have hkS : k < S.length := by rw [← HS.out]; exact hkl
    have d0 := (hb.cell (p := ⟨Bs, os + k, none⟩) hBs).trans (hSc k hkS)
    have hqe : S[k] = (p : Int) := by obtain ⟨_, e⟩ := List.getElem?_eq_some_iff.1 hq; exact e
    rw [hqe] at d0
    have hK : Hid (keyL (S.take (k + 1)) = keyL (S.take k) ++ [UInt8.ofNat (p / 256), UInt8.ofNat p]) := Lib.hid (by
     rw [List.take_succ_eq_append_getElem hkS, hqe]
     unfold keyL
     rw [List.flatMap_append]
     congr 1
     simp only [List.flatMap_cons, List.flatMap_nil, List.append_nil]
     congr 1
     · congr 1; omega
     · congr 1
       rw [← UInt8.toNat_inj, UInt8.toNat_ofNat', UInt8.toNat_ofNat']
       omega)
    have hk0 : (0 : Int) ≤ (k : Int) := by omega
    have hk1 : (k : Int) < (m : Int) := by omega
    have hkt : (k : Int).toNat = k := by omega
    have hp0 : p < 65536 := by omega
    clear hq hSc hqe hqb
    have x0 : (((UInt8.ofNat (p / 256)).toNat : Nat) : Int) = (p : Int) / 256 := by rw [UInt8.toNat_ofNat']; omega
    have x1 : (((UInt8.ofNat p).toNat : Nat) : Int) = (p : Int) % 256 := by rw [UInt8.toNat_ofNat']; omega
    have hbw : Below w.heap.size wr (wr.alloc (.cells #[.int .u8 ((p : Int) / 256), .int .u8 ((p : Int) % 256)] 5)) := (Below.refl _ wr).alloc hb.size _
    have hc0 : (wr.alloc (.cells #[.int .u8 ((p : Int) / 256), .int .u8 ((p : Int) % 256)] 5)).cell? ⟨wr.heap.size, 0, none⟩ = some (.int .u8 (((UInt8.ofNat (p / 256)).toNat : Nat) : Int)) := by rw [x0]; simp
    have hc1 : (wr.alloc (.cells #[.int .u8 ((p : Int) / 256), .int .u8 ((p : Int) % 256)] 5)).cell? ⟨wr.heap.size, 1, none⟩ = some (.int .u8 (((UInt8.ofNat p).toNat : Nat) : Int)) := by rw [x1]; simp
    have hra : BOwn (wr.alloc (.cells #[.int .u8 ((p : Int) / 256), .int .u8 ((p : Int) % 256)] 5)) w.heap.size u3 (keyL (S.take k)) := World.ownsRow.alloc hr _
    have hsz9 : w.heap.size ≤ (wr.alloc (.cells #[.int .u8 ((p : Int) / 256), .int .u8 ((p : Int) % 256)] 5)).heap.size := Nat.le_trans hb.size (by simp)
    have hlt9 : (keyL (S.take k)).length ≤ 10000000 := by
     have : ∀ l : List Int, (keyL l).length = 2 * l.length := fun l => by
      unfold keyL
      induction l with
      | nil => rfl
      | cons a l ih => rw [List.flatMap_cons, List.length_append, ih]; simp; omega
     rw [this, List.length_take]
     omega
    have HC0 := Lib.hid hc0
    have HC1 := Lib.hid hc1
    clear x0 x1 hc0 hc1
    go_wp2_with (at_builtin; refine append_b _ w.heap.size u3 _ (UInt8.ofNat (p / 256)) (UInt8.ofNat p) rfl _ _ rfl rfl hra wr.heap.size 2 rfl HC0.out HC1.out hlt9 hsz9 ?_; intro v' W5 hr5 hg5)
    exact ⟨⟨k + 1, by omega, by simp, by rw [hK.out]; exact hr5, (hb.trans hbw).trans ((Below.refl w.heap.size _).grown hg5 hsz9 fun g e => (World.ownsRow.lt hra g e).1)⟩, by simp [intOf]; omega⟩
  · obtain rfl : k = m := by omega
    rw [HS.out, List.take_length] at hr
    rw [← HS.out] at *
    have hcv : (convert 64 9 u3).run Tryz.prog wr = .ok (.string ⟨(keyL S).toArray⟩) wr := by
     rcases hr.2 with ⟨rfl, hn⟩ | ⟨g, cap, cur, rfl, _⟩
     · rw [List.eq_nil_of_length_eq_zero hn]
       exact run_convert_bytes_nil wr 64 5 Tryz.underlying64 Tryz.underlying5 _ _ 9 Tryz.underlying9
     · have := run_convert_bytes_arg (P := Tryz.prog) wr 64 5 Tryz.underlying64 Tryz.underlying5 g 0 (keyL S).length cap ((keyL S).map fun b => ((b.toNat : Nat) : Int)) (by simp) (fun i hi => by
        have := World.ownsRow.cellAt hr i (by simpa using hi)
        rw [Nat.zero_add, this]
        simp [hi]) 9 Tryz.underlying9
       rw [this]
       congr 2
       simp [strOfNums, Function.comp_def]
    clear hr
    go_wp2_with fail
    go_ret
    exact ⟨rfl, hb⟩
end Go.Proofs.YtaadkdmbhckdeaaGreatDoor
