/- Dfa: LightDfa, Pick; what is kept. -/
import Derived.Test.YtaadkdmbhckdeaaGreatDoorT2
import Derived.Lib.ConvBytes
namespace Go.Proofs.YtaadkdmbhckdeaaGreatDoor
open Go Go.Proofs Go.RowKit
attribute [local go_sem] Oper.semAt_some
theorem bcell {W w1 : World} (hb : Below W.heap.size W w1) : (∀ b o, b < W.heap.size → w1.cell? ⟨b, o, none⟩ = W.cell? ⟨b, o, none⟩) ∧ (∀ b o, b < W.heap.size → w1.frozen? ⟨b, o, none⟩ = W.frozen? ⟨b, o, none⟩) :=
 ⟨fun b o h => hb.cell (p := ⟨b, o, none⟩) h, fun b o h => hb.frozen (p := ⟨b, o, none⟩) h⟩
structure Tab (w : World) (next rule : List Int) (an ar : Option Addr) : Prop where
 r1 : 1 ≤ rule.length
 r2 : rule.length ≤ 512
 nl : next.length = 256 * rule.length
 ok : okT next rule = true
 bd : ∀ x ∈ next, -1 ≤ x ∧ x < rule.length
 hN : IRow w an next
 hR : IRow w ar rule
theorem Tab.mk' {w : World} {next rule : List Int} {an ar : Option Addr} (h : okT next rule = true) (hN : IRow w an next) (hR : IRow w ar rule) : Tab w next rule an ar := by
 have ok := h
 unfold okT at h
 simp only [Bool.and_eq_true, decide_eq_true_eq] at h
 obtain ⟨h1, h2, h3, h4, h5⟩ := h
 refine ⟨h1, h2, h3, ok, fun x hx => ?_, hN, hR⟩
 unfold inR at h5
 simp only [List.all_eq_true, Bool.and_eq_true, decide_eq_true_eq] at h5
 exact h5 x hx
theorem Tab.below {n : Nat} {w w' : World} {next rule : List Int} {an ar : Option Addr} (h : Tab w next rule an ar) (hb : Below n w w') (hn : w.heap.size ≤ n) : Tab w' next rule an ar :=
 { h with hN := h.hN.below hb hn, hR := h.hR.below hb hn }
theorem check_ok {next rule : List Int} {an ar : Option Addr} {cn cr : Nat} {w : World} (h : Tab w next rule an ar) :
  Calls Tryz.prog 10 #[.agg #[.slice an next.length cn, .slice ar rule.length cr]] w fun e w' => e = .returned (.int .i64 0) ∧ Below w.heap.size w w' := by
 have := check_k next rule (by have := h.nl; have := h.r2; omega) (by have := h.r2; omega) an ar cn cr w h.hN h.hR
 rwa [show checkV next rule = 0 from if_pos h.ok] at this
set_option maxHeartbeats 4000000 in
theorem len_k {next rule : List Int} {an ar : Option Addr} {cn cr : Nat} {w : World} (h : Tab w next rule an ar) :
  Calls Tryz.prog 12 #[.agg #[.slice an next.length cn, .slice ar rule.length cr]] w fun e w' => e = .returned (.int .i64 rule.length) ∧ Below w.heap.size w w' := by
 have hB := (Below.refl w.heap.size w).alloc (Nat.le_refl _) (.cells #[.slice an next.length cn, .slice ar rule.length cr] 28)
 have hT := h.below hB (Nat.le_refl _)
 have kc := check_ok (cn := cn) (cr := cr) hT
 clear h hT
 generalize next.length = N at *
 generalize rule.length = R at *
 go_enter Tryz.func12, Tryz.ntmps12
 go_wp2_with (go_at_call 10; ((with_reducible refine kc.mono ?_); rintro e Wd ⟨rfl, hBd⟩; obtain ⟨hc, hf⟩ := bcell hBd))
 go_ret
 exact ⟨rfl, hB.trans (hBd.mono (by simp))⟩
def ruleV (rule : List Int) (st : Int) : Int := if 0 ≤ st ∧ st < rule.length then rule.getD st.toNat 0 else -1
def stepV (next : List Int) (n : Nat) (st : Int) (b : Nat) : Int := if 0 ≤ st ∧ st < n then next.getD (256 * st.toNat + b) 0 else -1
set_option maxHeartbeats 4000000 in
theorem rule_k {next rule : List Int} {an ar : Option Addr} {cn cr : Nat} {w : World} (h : Tab w next rule an ar) (st : Int) :
  Calls Tryz.prog 16 #[.agg #[.slice an next.length cn, .slice ar rule.length cr], .int .i64 st] w fun e w' => e = .returned (.int .i64 (ruleV rule st)) ∧ Below w.heap.size w w' := by
 have hB := (Below.refl w.heap.size w).alloc (Nat.le_refl _) (.cells #[.slice an next.length cn, .slice ar rule.length cr] 28)
 have hT := h.below hB (Nat.le_refl _)
 have kc := len_k (cn := cn) (cr := cr) hT
 by_cases h0 : 0 ≤ st ∧ st < rule.length
 · obtain ⟨k, rfl⟩ : ∃ k : Nat, st = k := ⟨st.toNat, by omega⟩
   have hk : k < rule.length := by omega
   have HV : Hid (ruleV rule k = rule[k]) := Lib.hid (by rw [ruleV, if_pos h0]; simp [hk])
   obtain ⟨b, off, rfl, hb, hcell⟩ := hT.hR.at hk
   simp only [World.size_alloc] at hb
   generalize rule[k] = x at *
   generalize ruleV rule k = rv at *
   have hk' : (k : Int) < (rule.length : Int) := by omega
   have hk0 : (0 : Int) ≤ (k : Int) := by omega
   clear h hT h0
   generalize next.length = N at *
   generalize rule.length = R at *
   go_enter Tryz.func16, Tryz.ntmps16
   go_wp2_with (go_at_call 12; ((with_reducible refine kc.mono ?_); rintro e Wd ⟨rfl, hBd⟩; obtain ⟨hc, hf⟩ := bcell hBd; have hcell' := (hBd.cell (p := ⟨b, off + k, none⟩) (by simp; omega)).trans hcell))
   go_ret
   exact ⟨by rw [HV.out]; rfl, hB.trans (hBd.mono (by simp))⟩
 · have HV : Hid (ruleV rule st = -1) := Lib.hid (if_neg h0)
   generalize ruleV rule st = rv at *
   clear h hT
   generalize next.length = N at *
   generalize rule.length = R at *
   by_cases h1 : 0 ≤ st
   · have h2 : (R : Int) ≤ st := by omega
     clear h0
     go_enter Tryz.func16, Tryz.ntmps16
     go_wp2_with (go_at_call 12; ((with_reducible refine kc.mono ?_); rintro e Wd ⟨rfl, hBd⟩))
     go_ret
     exact ⟨by rw [HV.out]; rfl, hB.trans (hBd.mono (by simp))⟩
   · have h2 : st < 0 := by omega
     clear h0 h1
     go_enter Tryz.func16, Tryz.ntmps16
     go_wp2_with fail
     go_ret
     exact ⟨by rw [HV.out]; rfl, hB⟩
set_option maxRecDepth 100000 in
set_option maxHeartbeats 4000000 in
theorem step_k {next rule : List Int} {an ar : Option Addr} {cn cr : Nat} {w : World} (h : Tab w next rule an ar) (st : Int) (c : Nat) (hc256 : c < 256) :
  Calls Tryz.prog 14 #[.agg #[.slice an next.length cn, .slice ar rule.length cr], .int .i64 st, .int .u8 c] w fun e w' => e = .returned (.int .i64 (stepV next rule.length st c)) ∧ Below w.heap.size w w' := by
 have hB := (Below.refl w.heap.size w).alloc (Nat.le_refl _) (.cells #[.slice an next.length cn, .slice ar rule.length cr] 28)
 have hT := h.below hB (Nat.le_refl _)
 have kc := len_k (cn := cn) (cr := cr) hT
 by_cases h0 : 0 ≤ st ∧ st < rule.length
 · obtain ⟨k, rfl⟩ : ∃ k : Nat, st = k := ⟨st.toNat, by omega⟩
   have hk : 256 * k + c < next.length := by have := h.nl; omega
   have HV : Hid (stepV next rule.length k c = next[256 * k + c]) := Lib.hid (by rw [stepV, if_pos h0]; simp [hk])
   obtain ⟨b, off, rfl, hb, hcell⟩ := hT.hN.at hk
   simp only [World.size_alloc] at hb
   generalize next[256 * k + c] = x at *
   generalize stepV next rule.length k c = rv at *
   have hk' : (k : Int) < (rule.length : Int) := by omega
   have hk5 : (k : Int) < 512 := by have := h.r2; omega
   have hk0 : (0 : Int) ≤ (k : Int) := by omega
   have hc0 : (0 : Int) ≤ (c : Int) := by omega
   have hc1 : (c : Int) < 256 := by omega
   have hk2 : 256 * (k : Int) + (c : Int) < (next.length : Int) := by omega
   have htn : (256 * (k : Int) + (c : Int)).toNat = 256 * k + c := by omega
   clear h hT h0
   generalize next.length = N at *
   generalize rule.length = R at *
   go_enter Tryz.func14, Tryz.ntmps14
   go_wp2_with (go_at_call 12; ((with_reducible refine kc.mono ?_); rintro e Wd ⟨rfl, hBd⟩; obtain ⟨hc, hf⟩ := bcell hBd; have hcell' := (hBd.cell (p := ⟨b, off + (256 * k + c), none⟩) (by simp; omega)).trans hcell))
   go_ret
   exact ⟨by rw [HV.out]; rfl, hB.trans (hBd.mono (by simp))⟩
 · have HV : Hid (stepV next rule.length st c = -1) := Lib.hid (if_neg h0)
   generalize stepV next rule.length st c = rv at *
   clear h hT
   generalize next.length = N at *
   generalize rule.length = R at *
   by_cases h1 : 0 ≤ st
   · have h2 : (R : Int) ≤ st := by omega
     clear h0
     go_enter Tryz.func14, Tryz.ntmps14
     go_wp2_with (go_at_call 12; ((with_reducible refine kc.mono ?_); rintro e Wd ⟨rfl, hBd⟩))
     go_ret
     exact ⟨by rw [HV.out]; rfl, hB.trans (hBd.mono (by simp))⟩
   · have h2 : st < 0 := by omega
     clear h0 h1
     go_enter Tryz.func14, Tryz.ntmps14
     go_wp2_with fail
     go_ret
     exact ⟨by rw [HV.out]; rfl, hB⟩
def sb (s : ByteArray) : List Nat := s.data.toList.map UInt8.toNat
theorem sb_len (s : ByteArray) : (sb s).length = s.size := by simp [sb]
theorem sb_lt (s : ByteArray) (k : Nat) (h : k < (sb s).length) : (sb s)[k] < 256 := by
 obtain ⟨u, _, hu⟩ := List.mem_map.1 (List.getElem_mem h)
 have := UInt8.toNat_lt u
 omega
def goV (next : List Int) (n : Nat) (l : List Nat) : Int := l.foldl (stepV next n) 0
theorem stepV_neg (next : List Int) (n : Nat) (b : Nat) : stepV next n (-1) b = -1 := if_neg (by omega)
theorem fold_neg (next : List Int) (n : Nat) : ∀ l : List Nat, l.foldl (stepV next n) (-1) = -1
 | [] => rfl
 | b :: l => by rw [List.foldl_cons, stepV_neg, fold_neg next n l]
theorem goV_snoc (next : List Int) (n : Nat) (l : List Nat) (b : Nat) : goV next n (l ++ [b]) = stepV next n (goV next n l) b := by simp [goV]
theorem conv_bytes (w : World) (s : ByteArray) : ∃ cap W2, (convert 9 64 (.string s)).run Tryz.prog w = .ok (.slice (some ⟨w.heap.size, 0, none⟩) s.size cap) W2 ∧ Below w.heap.size w W2 ∧ w.heap.size < W2.heap.size ∧
  ∀ j (h : j < (sb s).length), W2.cell? ⟨w.heap.size, j, none⟩ = some (.int .u8 ((sb s)[j] : Nat)) := by
 refine ⟨_, _, Lib.run_convert_string_bytes w 9 64 5 s Tryz.underlying9 Tryz.underlying64 Tryz.underlying5, ⟨rfl, rfl, rfl, by rw [Lib.bytesWorld_size]; omega, fun k hk => Lib.bytesWorld_at_old w 5 s k hk⟩, by rw [Lib.bytesWorld_size]; omega, fun j hj => ?_⟩
 have hj' : j < s.size := by rwa [sb_len] at hj
 rw [Lib.bytesWorld_cell w 5 s j hj']
 simp [sb, List.getD]
 rw [Array.getElem?_eq_getElem hj', Option.getD_some]
set_option maxRecDepth 100000 in
set_option maxHeartbeats 4000000 in
theorem run_k {next rule : List Int} {an ar : Option Addr} {cn cr : Nat} {w : World} (h : Tab w next rule an ar) (s : ByteArray) (hs : s.size ≤ 1000000) :
  Calls Tryz.prog 18 #[.agg #[.slice an next.length cn, .slice ar rule.length cr], .string s] w fun e w' => e = .returned (.int .i64 (ruleV rule (goV next rule.length (sb s)))) ∧ Below w.heap.size w w' := by
 have hB := (Below.refl w.heap.size w).alloc (Nat.le_refl _) (.cells #[.slice an next.length cn, .slice ar rule.length cr] 28)
 have hT := h.below hB (Nat.le_refl _)
 have kc := check_ok (cn := cn) (cr := cr) hT
 obtain ⟨rv, hrv⟩ : ∃ rv, rv = ruleV rule (goV next rule.length (sb s)) := ⟨_, rfl⟩
 rw [← hrv]
 have HRV := Lib.hid hrv
 clear hrv
 go_enter Tryz.func18, Tryz.ntmps18
 go_wp2_with (go_at_call 10; ((with_reducible refine kc.mono ?_); rintro e Wd ⟨rfl, hBd⟩; obtain ⟨hc, hf⟩ := bcell hBd; obtain ⟨cap, W2, hcv, hB2, hs2, hcl⟩ := conv_bytes Wd s))
 have hT2 := (hT.below hBd (Nat.le_refl _)).below hB2 (Nat.le_refl _)
 obtain ⟨hc2, hf2⟩ := bcell hB2
 have hBw : Below w.heap.size w W2 := hB.trans ((hBd.mono (by simp)).trans (hB2.mono (by have := hBd.size; simp at this ⊢; omega)))
 have HG : Hid (∀ k, k ≤ s.size → goV next rule.length ((sb s).take k) = -1 → rv = -1) := Lib.hid fun k hk h => by
  have e : goV next rule.length (sb s) = -1 := by
   conv => lhs; rw [← List.take_append_drop k (sb s)]
   unfold goV at h ⊢
   rw [List.foldl_append, h, fold_neg]
  rw [HRV.out, e]; exact if_neg (by omega)
 have HE : Hid (goV next rule.length ((sb s).take s.size) = goV next rule.length (sb s)) := Lib.hid (by rw [← sb_len, List.take_length])
 have HS : Hid (∀ k st : Nat, k < s.size → st < rule.length → goV next rule.length ((sb s).take k) = st → ∃ c : Nat, c < 256 ∧ W2.cell? ⟨Wd.heap.size, k, none⟩ = some (.int .u8 (c : Nat)) ∧ goV next rule.length ((sb s).take (k + 1)) = next.getD (256 * st + c) 0 ∧ -1 ≤ next.getD (256 * st + c) 0 ∧ next.getD (256 * st + c) 0 < rule.length ∧
   ∃ b off, an = some ⟨b, off, none⟩ ∧ b < W2.heap.size ∧ W2.cell? ⟨b, off + (256 * st + c), none⟩ = some (.int .i64 (next.getD (256 * st + c) 0))) := Lib.hid fun k st hk hst h => by
  have hk' : k < (sb s).length := by rw [sb_len]; exact hk
  have hb := sb_lt s k hk'
  have hlt : 256 * st + (sb s)[k] < next.length := by have := hT2.nl; omega
  have e : next.getD (256 * st + (sb s)[k]) 0 = next[256 * st + (sb s)[k]] := by simp [hlt]
  obtain ⟨b, off, h1, h2, h3⟩ := hT2.hN.at hlt
  refine ⟨(sb s)[k], hb, hcl k hk', ?_, ?_, ?_, b, off, h1, h2, by rw [e]; exact h3⟩
  · rw [List.take_succ_eq_append_getElem hk', goV_snoc, h, stepV, if_pos ⟨by omega, by omega⟩]; rfl
  · rw [e]; exact (hT2.bd _ (List.getElem_mem _)).1
  · rw [e]; exact (hT2.bd _ (List.getElem_mem _)).2
 have HR : Hid (∀ st : Nat, st < rule.length → goV next rule.length ((sb s).take s.size) = st → ∃ b off x, ar = some ⟨b, off, none⟩ ∧ b < W2.heap.size ∧ W2.cell? ⟨b, off + st, none⟩ = some (.int .i64 x) ∧ rv = x) := Lib.hid fun st hst h => by
  obtain ⟨b, off, h1, h2, h3⟩ := hT2.hR.at hst
  refine ⟨b, off, rule[st], h1, h2, h3, ?_⟩
  rw [HRV.out, ← HE.out, h, ruleV, if_pos ⟨by omega, by omega⟩]
  simp [hst]
 have hr512 := hT2.r2
 have hnl : (next.length : Int) ≤ 256 * rule.length := by have := hT2.nl; omega
 have hnl2 : (256 * rule.length : Int) ≤ next.length := by have := hT2.nl; omega
 have h00 : goV next rule.length ((sb s).take 0) = 0 := rfl
 have hr1 := hT2.r1
 clear hcv hcl HE hT hT2 h kc HRV
 have HQ := Lib.hid h00
 clear h00
 obtain ⟨G, hG⟩ : ∃ G : Nat → Int, G = fun k => goV next rule.length ((sb s).take k) := ⟨_, rfl⟩
 have HG' : Hid (∀ k, k ≤ s.size → G k = -1 → rv = -1) := Lib.hid (by rw [hG]; exact HG.out)
 have HS' : Hid (∀ k st : Nat, k < s.size → st < rule.length → G k = st → ∃ c : Nat, c < 256 ∧ W2.cell? ⟨Wd.heap.size, k, none⟩ = some (.int .u8 (c : Nat)) ∧ G (k + 1) = next.getD (256 * st + c) 0 ∧ -1 ≤ next.getD (256 * st + c) 0 ∧ next.getD (256 * st + c) 0 < rule.length ∧
  ∃ b off, an = some ⟨b, off, none⟩ ∧ b < W2.heap.size ∧ W2.cell? ⟨b, off + (256 * st + c), none⟩ = some (.int .i64 (next.getD (256 * st + c) 0))) := Lib.hid (by rw [hG]; exact HS.out)
 have HR' : Hid (∀ st : Nat, st < rule.length → G s.size = st → ∃ b off x, ar = some ⟨b, off, none⟩ ∧ b < W2.heap.size ∧ W2.cell? ⟨b, off + st, none⟩ = some (.int .i64 x) ∧ rv = x) := Lib.hid (by rw [hG]; exact HR.out)
 have HQ' : Hid (G 0 = 0) := Lib.hid (by rw [hG]; exact HQ.out)
 clear HG HS HR HQ hG
 generalize rule.length = R at *
 generalize next.length = N at *
 have hB1 : w.heap.size < Wd.heap.size := by have := hBd.size; simp at this; omega
 go_loop [5, 14] (fun st i => ∃ k q : Nat, k ≤ s.size ∧ q < R ∧ i = .int .i64 k ∧ st = .int .i64 q ∧ Hid (G k = q)) (fun _ i => s.size - (intOf i).toNat)
 case atStart => exact ⟨0, 0, Nat.zero_le _, by omega, rfl, rfl, HQ'⟩
 case round =>
  obtain ⟨k, q, hk, hq, rfl, rfl, hg⟩ := hrel
  rcases Nat.lt_or_ge k s.size with hlt | hge
  · obtain ⟨c, hc256, hcell, hnext, hx1, hx2, b, off, rfl, hb, hcell2⟩ := HS'.out k q hlt hq hg.out
    have HX := Lib.hid hnext
    clear hnext
    generalize next.getD (256 * q + c) 0 = x at *
    have hc0 : (0 : Int) ≤ (c : Int) := by omega
    have hc1 : (c : Int) < 256 := by omega
    have hq0 : (0 : Int) ≤ (q : Int) := by omega
    have hq1 : (q : Int) < 512 := by omega
    have hqc : 256 * (q : Int) + (c : Int) < (N : Int) := by omega
    have htn : (256 * (q : Int) + (c : Int)).toNat = 256 * q + c := by omega
    have hk0 : (0 : Int) ≤ (k : Int) := by omega
    have hk1 : (k : Int) < (s.size : Int) := by omega
    by_cases hx : x < 0
    · have E : rv = -1 := HG'.out (k + 1) (by omega) (by rw [HX.out]; omega)
      have HE := Lib.hid E
      clear E
      go_wp2
      go_ret
      exact ⟨by rw [HE.out]; rfl, hBw⟩
    · obtain ⟨y, rfl⟩ : ∃ y : Nat, x = y := ⟨x.toNat, by omega⟩
      go_wp2
      go_round
      case rel => exact ⟨k + 1, y, by omega, by omega, by simp, rfl, HX⟩
      case measure => simp [intOf]; omega
  · obtain rfl : k = s.size := by omega
    obtain ⟨b, off, x, rfl, hb, hcell, hrv⟩ := HR'.out q hq hg.out
    have HE := Lib.hid hrv
    clear hrv
    have hq0 : (0 : Int) ≤ (q : Int) := by omega
    have hq1 : (q : Int) < (R : Int) := by omega
    go_wp2
    go_ret
    exact ⟨by rw [HE.out]; rfl, hBw⟩
structure BW (w : World) where
 W : World
 h : Below w.heap.size w W
instance (w : World) : Inhabited (BW w) := ⟨⟨w, Below.refl _ w⟩⟩
theorem region_below {P : Program} {id : Nat} {Q : Exit → Act → World → Prop} {a : Act} {w : World} {l : List Oper} (hm : P.follows .mixedOrders = true) (hB : Region.lexB .any l.toArray = true)
  (h : wpQuiet P l.toArray (fun w' => ∃ p : BW w, w' = p.W) (fun a' => ∀ w', (∃ p : BW w, w' = p.W) → Q .normal a' w') l a) : (Code.region id l.toArray true).wp P Q a w :=
 wp_region_quiet (C := fun w' => ∃ p : BW w, w' = p.W) hm hB ⟨⟨w.drew, (Below.refl _ w).drew⟩, rfl⟩ (by simpa using h)
set_option maxHeartbeats 4000000 in
theorem light_k (an ar : Option Addr) (n r cn cr : Nat) (hn : n ≤ 9223372036854775807) (hr : r ≤ 9223372036854775807) (w : World) :
  Calls Tryz.prog 6 #[.agg #[.slice an n cn, .slice ar r cr], .int .i64 24] w fun e w' => e = .returned (.bool (decide (r ≤ 24) && decide (n ≤ 6144))) ∧ Below w.heap.size w w' := by
 have hB := (Below.refl w.heap.size w).alloc (Nat.le_refl _) (.cells #[.slice an n cn, .slice ar r cr] 28)
 obtain ⟨rv, hrv⟩ : ∃ rv, rv = (decide (r ≤ 24) && decide (n ≤ 6144)) := ⟨_, rfl⟩
 rw [← hrv]
 have HRV := Lib.hid hrv
 clear hrv
 by_cases h1 : (r : Int) ≤ 24
 · by_cases h2 : (n : Int) ≤ 6144
   · have HE := Lib.hid (show rv = true by rw [HRV.out]; simp; omega)
     clear HRV
     go_enter Tryz.func6, Tryz.ntmps6
     go_wp2
     go_ret
     exact ⟨by rw [HE.out]; rfl, hB⟩
   · have HE := Lib.hid (show rv = false by rw [HRV.out]; simp; omega)
     have h3 : (6144 : Int) < (n : Int) := by omega
     clear HRV h2
     go_enter Tryz.func6, Tryz.ntmps6
     go_wp2
     have E : decide ((n : Int) ≤ 6144) = false := by simp; omega
     exact bodyPost_ret (v := .bool rv) (by simp [results, Tryz.results6, go_sem, HE.out, E]) rfl ⟨rfl, hB⟩
 · have HE := Lib.hid (show rv = false by rw [HRV.out]; simp; omega)
   have h3 : (24 : Int) < (r : Int) := by omega
   clear HRV h1
   go_enter Tryz.func6, Tryz.ntmps6
   go_wp2
   go_ret
   exact ⟨by rw [HE.out]; rfl, hB⟩
end Go.Proofs.YtaadkdmbhckdeaaGreatDoor
