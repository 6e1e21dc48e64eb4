/- Dfa: DfaFound 3. -/
import Derived.Test.YtaadkdmbhckdeaaDoorN23
import Derived.Test.YtaadkdmbhckdeaaDoorN6
import Derived.Test.YtaadkdmbhckdeaaDoorN7
import Derived.Test.YtaadkdmbhckdeaaDoorT9
namespace Go.Proofs.YtaadkdmbhckdeaaDoor
open Go Go.Proofs Go.RowKit
attribute [local go_sem] Oper.semAt_some
/-- What Build's rows come to. -/
structure Bl (N : Nf) (most : Nat) (tss : List (List Int)) (T : Sets) : Prop where
  r : BldR (lowsOf (spl N.cl)) (clsOf (spl N.cl)) T.length (fun k => tss.getD k []) (sOf 1 tss) (nextOf (clsOf (spl N.cl)) tss)
  len : tss.length = T.length
  most : T.length ≤ most
  one : 1 ≤ T.length
  bd : ∀ i, i < 256 * T.length → -1 ≤ (nextOf (clsOf (spl N.cl)) tss).getD i 0 ∧ (nextOf (clsOf (spl N.cl)) tss).getD i 0 < (T.length : Int)
theorem getD_mem {l : List Int} {i : Nat} (h : i < l.length) : l.getD i 0 ∈ l := by
  rw [List.getD_eq_getElem?_getD, List.getElem?_eq_getElem h]
  exact List.getElem_mem h
theorem Bl.of {N : Nf} {most : Nat} (hm : 1 ≤ most) {tss : List (List Int)} {T : Sets} (h : bldB most (stepN N) (lowsOf (spl N.cl)) (most + 1) 0 [[0]] = some (tss, T)) : Bl N most tss T := by
  obtain ⟨h1, h2, h3, ⟨R, h4⟩, h5⟩ := bldB_ok h (by simpa using hm) (by simp) (by omega)
  obtain ⟨r, hl⟩ := bld_r (clsOf (spl N.cl)) h hm
  refine ⟨r, hl, h2, by rw [h4]; simp, fun i hi => ?_⟩
  obtain ⟨k, x, hx, rfl⟩ : ∃ k x, x < 256 ∧ i = 256 * k + x := ⟨i / 256, i % 256, Nat.mod_lt _ (by decide), by omega⟩
  have hk : k < T.length := by omega
  have L := lay_of (spl_parted N.cl) (spl_sorted N.cl)
  rw [nextOf_at _ _ _ _ (by omega) hx]
  obtain ⟨a1, _, _, a4⟩ := h5 k (by omega)
  have hlt : clsOf (spl N.cl) x < (tss.getD k []).length := by rw [a1]; exact L.lt x hx
  exact a4 _ (getD_mem hlt)
theorem fnd_bd {next : List Int} {m : Int} (hm : 0 < m) : ∀ k, (∀ i, i < k → next.getD i 0 < m) → 0 ≤ fnd next k ∧ fnd next k < m
  | 0, _ => ⟨Int.le_refl _, hm⟩
  | k + 1, h => by
    have := fnd_bd hm k (fun i hi => h i (by omega))
    have h2 := h k (by omega)
    show 0 ≤ max _ _ ∧ max _ _ < m
    omega
set_option maxRecDepth 100000 in
set_option maxHeartbeats 4000000 in
theorem found_k (N : Nf) (ac an ar : Option Addr) (cc cn cr : Nat) (w : World) (hp : 0 < w.heap.size) (hT : TabAt w) (h : NfAt w N ac an ar) (hL : ∀ W, Below w.heap.size w W → Calls Tryd.prog 6 #[] W fun e w' => e = .returned (.bool true) ∧ Below W.heap.size W w') :
    Calls Tryd.prog 3 #[.agg #[.slice ac N.cl.length cc, .slice an N.nx.length cn, .slice ar N.ru.length cr]] w fun e w' => e = .returned (.bool true) ∧ Below w.heap.size w w' := by
  obtain ⟨x0, hx0⟩ : ∃ v, v = Value.slice ac N.cl.length cc := ⟨_, rfl⟩
  obtain ⟨x1, hx1⟩ : ∃ v, v = Value.slice an N.nx.length cn := ⟨_, rfl⟩
  obtain ⟨x2, hx2⟩ : ∃ v, v = Value.slice ar N.ru.length cr := ⟨_, rfl⟩
  have hlt : ∀ W, Below w.heap.size w W → Calls Tryd.prog 7 #[.agg #[x0, x1, x2], .int .i64 12] W fun e w' => LightPost N.cl.length N.nx.length N.ru.length e ∧ Below W.heap.size W w' := fun W hb => by
    rw [hx0, hx1, hx2]; exact light7_k N ac an ar cc cn cr W (h.below hb (Nat.le_refl _))
  have hbd : NfOk N → N.cl.length ≤ 12 → ∀ W, Below w.heap.size w W → Calls Tryd.prog 9 #[.agg #[x0, x1, x2], .int .i64 64] W (BPost W N 64) := fun o hl W hb => by
    rw [hx0, hx1, hx2]; exact build9_k N o hl ac an ar cc cn cr 64 (by decide) (by decide) W (Nat.lt_of_lt_of_le hp hb.size) (hT.below hb hp) (h.below hb (Nat.le_refl _))
  have hrc : ∀ W, Below w.heap.size w W → Calls Tryd.prog 8 #[.agg #[x0, x1, x2]] W fun e w' => e = .returned (.int .i64 (ckN N)) ∧ Below W.heap.size W w' := fun W hb => by
    rw [hx0, hx1, hx2]; exact rcheck_k N ac an ar cc cn cr W (h.below hb (Nat.le_refl _))
  rw [← hx0, ← hx1, ← hx2]
  have o0 : x0.oneCell' = true := by rw [hx0]; rfl
  have o1 : x1.oneCell' = true := by rw [hx1]; rfl
  have o2 : x2.oneCell' = true := by rw [hx2]; rfl
  obtain ⟨U, hU⟩ : ∃ U, U = w.heap.size := ⟨_, rfl⟩
  obtain ⟨W1, hW1⟩ : ∃ W1, W1 = w.alloc (.cells #[x0, x1, x2] 26) := ⟨_, rfl⟩
  have hB1 : Below w.heap.size w W1 := by rw [hW1]; exact (Below.refl _ w).alloc (Nat.le_refl _) _
  have u1 : Bx W1 U 26 #[x0, x1, x2] := by rw [hW1, hU]; exact Bx.new w 26 _
  have HW1 := Lib.hid hW1
  have HU := Lib.hid hU
  have HX0 := Lib.hid hx0
  have HX1 := Lib.hid hx1
  have HX2 := Lib.hid hx2
  clear hW1 hU hx0 hx1 hx2
  go_enter Tryd.func3, Tryd.ntmps3
  go_upto_region 3 with (first
    | (go_at_call 6; (try rw [← HW1.out, ← HU.out]); (with_reducible refine (hL _ hB1).mono ?_); rintro e W2 ⟨rfl, hb2⟩; have hB2 := hB1.trans (hb2.mono hB1.size); have u2 := u1.below hb2 u1.lt; have d0 := u2.cell 0; have d1 := u2.cell 1; have d2 := u2.cell 2))
  obtain ⟨q, hq⟩ : ∃ q, q = ckN N := ⟨_, rfl⟩
  rw [← hq] at hrc
  have HQ := Lib.hid hq
  clear hq d0 d1 d2
  have e0 := u2.cell 0
  have e1 := u2.cell 1
  have e2 := u2.cell 2
  go_upto_if 16 with (first
    | (go_at_call 7; (with_reducible refine (hlt _ hB2).mono ?_); rintro e W3 ⟨⟨z, rfl, hz⟩, hb3⟩; have hB3 := hB2.trans (hb3.mono hB2.size); have u3 := u2.below hb3 u2.lt; have d0 := u3.cell 0; have d1 := u3.cell 1; have d2 := u3.cell 2)
    | (go_at_call 8; (with_reducible refine (hrc _ hB3).mono ?_); rintro e W4 ⟨rfl, hb4⟩; have hB4 := hB3.trans (hb4.mono hB3.size); have u4 := u3.below hb4 u3.lt))
  · by_cases o : NfOk N
    · have hq0 : q = 0 := HQ.out.trans (if_pos o)
      subst hq0
      have hz1 := hz (by assumption)
      have HL12 := Lib.hid hz1.1
      have e5 := u4.cell 0
      have e6 := u4.cell 1
      have e7 := u4.cell 2
      cases hbl : bldB 64 (stepN N) (lowsOf (spl N.cl)) (64 + 1) 0 [[0]] with
      | none =>
        have hb9 := (hbd o hz1.1 _ hB4).mono (R' := fun e w' => e = .returned (.tuple #[.agg #[.slice none 0 0, .slice none 0 0], .int .i64 10]) ∧ Below W4.heap.size W4 w') (by
          rintro e w' ⟨h1, (⟨_, h2⟩ | ⟨tss, T, _, _, _, _, h3, _⟩)⟩
          · exact ⟨h2, h1⟩
          · rw [hbl] at h3; cases h3)
        clear hbd hlt hrc hL
        go_wp2_with (first | (go_at_call 9; (with_reducible refine hb9.mono ?_); rintro e W5 ⟨rfl, hb5⟩))
        go_ret
        exact ⟨rfl, (hB4.trans (hb5.mono hB4.size)).alloc (Nat.le_trans hB4.size hb5.size) _⟩
      | some p =>
        obtain ⟨tss, T⟩ := p
        have hb9 := (hbd o hz1.1 _ hB4).mono (R' := fun e w' => ∃ an ar cn cr, e = .returned (.tuple #[.agg #[.slice an (nextOf (clsOf (spl N.cl)) tss).length cn, .slice ar (rulesOf N.ru T).length cr], .int .i64 0]) ∧ IRow w' an (nextOf (clsOf (spl N.cl)) tss) ∧ IRow w' ar (rulesOf N.ru T) ∧ Below W4.heap.size W4 w') (by
          rintro e w' ⟨h1, (⟨h2, _⟩ | ⟨tss', T', an, ar, cn, cr, h3, h4, h5, h6⟩)⟩
          · rw [hbl] at h2; cases h2
          · rw [hbl] at h3; cases h3; exact ⟨an, ar, cn, cr, h4, h5, h6, h1⟩)
        have hBl := Bl.of (by decide) hbl
        have hrl : (rulesOf N.ru T).length = T.length := by unfold rulesOf; simp
        obtain ⟨next, hnext⟩ : ∃ next, next = nextOf (clsOf (spl N.cl)) tss := ⟨_, rfl⟩
        have hnl : next.length = 256 * T.length := by rw [hnext, nextOf_len, hBl.len]
        obtain ⟨nl, hnl'⟩ : ∃ nl, nl = next.length := ⟨_, rfl⟩
        obtain ⟨m, hm⟩ : ∃ m, m = T.length := ⟨_, rfl⟩
        rw [← hnext, ← hnl', hrl, ← hm] at hb9
        rw [← hnl', ← hm] at hnl
        have hm1 : 1 ≤ m := by rw [hm]; exact hBl.one
        have hm2 : m ≤ 64 := by rw [hm]; exact hBl.most
        have hfb : ∀ k, k ≤ nl → 0 ≤ fnd next k ∧ fnd next k < (m : Int) := fun k hk => fnd_bd (by omega) k (fun i hi => by rw [hnext, hm]; exact (hBl.bd i (by omega)).2)
        have hok : ∀ k, k < nl → next.getD k 0 ≤ fnd next k + 1 ∧ ((k / 256 : Nat) : Int) ≤ fnd next k ∧ -1 ≤ next.getD k 0 := fun k hk => by
          have h1 := fnd_ok (lay_of (spl_parted N.cl) (spl_sorted N.cl)) hBl.r k (by omega)
          have h2 := (hBl.bd k (by omega)).1
          rw [← hnext] at h1 h2
          exact ⟨h1.1, h1.2, h2⟩
        have hend : fnd next nl = (m : Int) - 1 := by
          have := fnd_end (lay_of (spl_parted N.cl) (spl_sorted N.cl)) hBl.r
          rw [← hnext, ← hm] at this
          rw [hnl]; exact this
        have HFB := Lib.hid hfb
        have HOK := Lib.hid hok
        have HEND := Lib.hid hend
        have HNL := Lib.hid hnl'
        clear hbd hlt hrc hL hBl hrl hfb hok hend hnl' hnext hm hbl
        have hnl3 : (nl : Int) ≤ 16384 := by omega
        have HNN := Lib.hid hnl
        clear hnl
        go_wp2_with (first | (go_at_call 9; (with_reducible refine hb9.mono ?_); rintro e W5 ⟨an', ar', cn', cr', rfl, hI5, hJ5, hb5⟩))
        have hB5 := hB4.trans (hb5.mono hB4.size)
        obtain ⟨W6, hW6⟩ : ∃ W6, W6 = W5.alloc (.cells #[.slice an' nl cn', .slice ar' m cr'] 32) := ⟨_, rfl⟩
        obtain ⟨D, hD⟩ : ∃ D, D = W5.heap.size := ⟨_, rfl⟩
        have hb6 : Below W5.heap.size W5 W6 := by rw [hW6]; exact (Below.refl _ W5).alloc (Nat.le_refl _) _
        have hD6 : Bx W6 D 32 #[.slice an' nl cn', .slice ar' m cr'] := by rw [hW6, hD]; exact Bx.new W5 32 _
        have hI6 := hI5.below hb6 (Nat.le_refl _)
        have hB6 := hB5.trans (hb6.mono hB5.size)
        have c0 : W6.cell? ⟨D, 0, none⟩ = some (.slice an' nl cn') := hD6.cell 0
        have c1 : W6.cell? ⟨D, 1, none⟩ = some (.slice ar' m cr') := hD6.cell 1
        rw [← hW6, ← hD]
        clear hW6 hD hb6 hI5 hJ5 hb5 hb9 hD6
        go_loopw [5, 6] (fun f i wr => ∃ k : Nat, k ≤ nl ∧ i = .int .i64 k ∧ f = .int .i64 (fnd next k) ∧ wr = W6)
          (fun _ i _ => nl - (intOf i).toNat)
        case atStart => exact ⟨0, Nat.zero_le _, rfl, rfl, rfl⟩
        case round =>
          obtain ⟨k, hk, rfl, rfl, rfl⟩ := hrel
          obtain ⟨f0, f1⟩ := HFB.out k hk
          by_cases hkl : k < nl
          · obtain ⟨b1, b2, b3⟩ := HOK.out k hkl
            have hkn : k < next.length := by rw [← HNL.out]; exact hkl
            obtain ⟨Bn, on, rfl, hBn, hNc⟩ := hI6 (by intro e; rw [e] at hkn; simp at hkn)
            have d5 := hNc k hkn
            have hge : next.getD k 0 = next[k] := by rw [List.getD_eq_getElem?_getD, List.getElem?_eq_getElem hkn]; rfl
            rw [← hge] at d5
            have HFS : Hid (fnd next (k + 1) = max (fnd next k) (next.getD k 0)) := Lib.hid rfl
            obtain ⟨z, hz⟩ : ∃ z, z = next.getD k 0 := ⟨_, rfl⟩
            obtain ⟨f, hf⟩ : ∃ f, f = fnd next k := ⟨_, rfl⟩
            rw [← hz] at b1 b3 d5 HFS
            rw [← hf] at b1 b2 f0 f1 HFS ⊢
            have hk0 : (0 : Int) ≤ (k : Int) := by omega
            have hk1 : (k : Int) < (nl : Int) := by omega
            have b4 : ¬ f + 1 < z := by omega
            have b5 : ¬ f < (k : Int) / 256 := by omega
            clear hNc hge hz hf b2
            go_wp2_with fail
            · have hzf : z = f + 1 := by assumption
              exact ⟨⟨k + 1, by omega, by simp, by rw [HFS.out, hzf], trivial⟩, by simp [intOf]; omega⟩
            · exact ⟨⟨k + 1, by omega, by simp, by rw [HFS.out], trivial⟩, by simp [intOf]; omega⟩
          · obtain rfl : k = nl := by omega
            rw [HEND.out]
            have HB6 := hB6
            go_wp2_with fail
            go_ret
            exact ⟨rfl, HB6⟩
    · have hq2 : q = 2 := HQ.out.trans (if_neg o)
      subst hq2
      go_wp2_with fail
      go_ret
      exact ⟨rfl, hB4⟩
  · go_wp2_with fail
    go_ret
    exact ⟨rfl, hB3⟩
end Go.Proofs.YtaadkdmbhckdeaaDoor
