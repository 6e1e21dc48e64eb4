/- Dfa: Build 9 that may make no state; a table's run is the states' own. -/
import Derived.Test.YtaadkdmbhckdeaaDoorN31
namespace Go.Proofs.YtaadkdmbhckdeaaDoor
open Go Go.Proofs Go.RowKit
attribute [local go_sem] Oper.semAt_some
set_option maxRecDepth 100000 in
set_option maxHeartbeats 4000000 in
theorem build9_low (N : Nf) (o : NfOk N) (ac an ar : Option Addr) (cc cn cr : Nat) (most : Int) (hm : most < 1) (w : World) (h : NfAt w N ac an ar) :
    Calls Tryd.prog 9 #[.agg #[.slice ac N.cl.length cc, .slice an N.nx.length cn, .slice ar N.ru.length cr], .int .i64 most] w fun e w' => e = .returned (.tuple #[.agg #[.slice none 0 0, .slice none 0 0], .int .i64 2]) ∧ Below w.heap.size w w' := by
  obtain ⟨x0, hx0⟩ : ∃ v, v = Value.slice ac N.cl.length cc := ⟨_, rfl⟩
  obtain ⟨x1, hx1⟩ : ∃ v, v = Value.slice an N.nx.length cn := ⟨_, rfl⟩
  obtain ⟨x2, hx2⟩ : ∃ v, v = Value.slice ar N.ru.length cr := ⟨_, rfl⟩
  rw [← hx0, ← hx1, ← hx2]
  obtain ⟨U, hU⟩ : ∃ U, U = w.heap.size := ⟨_, rfl⟩
  obtain ⟨W1, hW1⟩ : ∃ W1, W1 = (w.alloc (.cells #[x0, x1, x2] 26)).alloc (.cells #[.slice none 0 0, .slice none 0 0] 32) := ⟨_, rfl⟩
  have hB1 : Below w.heap.size w W1 := by rw [hW1]; exact ((Below.refl _ w).alloc (Nat.le_refl _) _).alloc (by simp) _
  have hz1 : W1.heap.size = U + 2 := by rw [hW1, hU]; simp
  have u1 : Bx W1 U 26 #[x0, x1, x2] := by rw [hW1, hU]; exact (Bx.new w 26 _).alloc _
  have r1 : Bx W1 (U + 1) 32 #[.slice none 0 0, .slice none 0 0] := by
    have := Bx.new (w.alloc (.cells #[x0, x1, x2] 26)) 32 #[.slice none 0 0, .slice none 0 0]
    rw [World.size_alloc] at this
    rw [hW1, hU]; exact this
  have hck := check_fine o (cc := cc) (cn := cn) (cr := cr) (h.below hB1 (Nat.le_refl _))
  rw [← hx0, ← hx1, ← hx2] at hck
  have HW1 := Lib.hid hW1
  have HU := Lib.hid hU
  have HZ1 := Lib.hid hz1
  have d0 := u1.cell 0
  have d1 := u1.cell 1
  have d2 := u1.cell 2
  have o0 : x0.oneCell' = true := by rw [hx0]; rfl
  have o1 : x1.oneCell' = true := by rw [hx1]; rfl
  have o2 : x2.oneCell' = true := by rw [hx2]; rfl
  clear hW1 hz1 hU hx0 hx1 hx2
  go_enter Tryd.func9, Tryd.ntmps9
  go_upto_region 1 with (fail)
  rw [← HW1.out, ← HU.out]
  go_wp2_with (first
    | (go_at_call 20; (with_reducible refine hck.mono ?_); rintro e W2 ⟨rfl, hb2⟩; have r2 : Bx W2 (U + 1) 32 #[.slice none 0 0, .slice none 0 0] := r1.below hb2 r1.lt)
    | ((with_reducible refine st21_id ?_); refine AX.wpList_storeBox (vs := [.slice none 0 0, .slice none 0 0]) rfl rfl sz32 r2 rfl rfl ?_; rintro W7 g3 g4 g5))
  have g3' : Bx W7 (U + 1) 32 #[.slice none 0 0, .slice none 0 0] := g3
  have hl7 : Below w.heap.size W2 W7 := AX.below_turn (by have := HU.out; omega) (.inl g3'.lt) g4 g5
  have e0 := g3'.cell 0
  have e1 := g3'.cell 1
  have hfin : Below w.heap.size w W7 := (hB1.trans (hb2.mono hB1.size)).trans hl7
  exact bodyPost_ret (v := .tuple #[.agg #[.slice none 0 0, .slice none 0 0], .int .i64 2]) (by simp [results, Tryd.f9, go_sem, e0, e1]) rfl ⟨rfl, hfin⟩
/-- A table that may be, from Build's own. -/
theorem Bl.ok {N : Nf} (o : NfOk N) {most : Nat} (hm : most ≤ 512) {tss : List (List Int)} {T : Sets} (h : Bl N most tss T) : okT (nextOf (clsOf (spl N.cl)) tss) (rulesOf N.ru T) = true := by
  have hl : (rulesOf N.ru T).length = T.length := by unfold rulesOf; simp
  have h1 := h.one
  have h2 := h.most
  have hn : (nextOf (clsOf (spl N.cl)) tss).length = 256 * T.length := by rw [nextOf_len, h.len]
  unfold okT inR
  simp only [Bool.and_eq_true, decide_eq_true_eq, List.all_eq_true]
  refine ⟨by omega, by omega, by omega, fun x hx => ?_, fun x hx => ?_⟩
  · unfold rulesOf at hx
    obtain ⟨S, _, rfl⟩ := List.mem_map.1 hx
    exact rule_bound N.ru o.rule S
  · obtain ⟨i, hi, rfl⟩ := List.mem_iff_getElem.1 hx
    have := h.bd i (by omega)
    rw [List.getD_eq_getElem?_getD, List.getElem?_eq_getElem hi, Option.getD_some] at this
    rw [hl]; exact this
theorem goV_goT {next : List Int} {R : Nat} (hR : 1 ≤ R) (hb : ∀ i, i < 256 * R → -1 ≤ next.getD i 0 ∧ next.getD i 0 < (R : Int)) : ∀ (l : List Nat) (a : Int), -1 ≤ a ∧ a < (R : Int) → (∀ b ∈ l, b < 256) →
    l.foldl (stepV next R) a = l.foldl (goT next) a ∧ -1 ≤ l.foldl (goT next) a ∧ l.foldl (goT next) a < (R : Int)
  | [], a, h, _ => ⟨rfl, h⟩
  | b :: l, a, h, hl => by
    have hb1 := hl b (List.mem_cons_self ..)
    have e : stepV next R a b = goT next a b := by
      unfold stepV goT
      by_cases h0 : a < 0
      · rw [if_neg (by omega), if_pos h0]
      · rw [if_pos (by omega), if_neg h0]
    have h2 : -1 ≤ goT next a b ∧ goT next a b < (R : Int) := by
      unfold goT
      by_cases h0 : a < 0
      · rw [if_pos h0]; omega
      · rw [if_neg h0]; exact hb _ (by omega)
    rw [List.foldl_cons, List.foldl_cons, e]
    exact goV_goT hR hb l _ h2 (fun c hc => hl c (List.mem_cons_of_mem _ hc))
/-- A table's run is the states' own. -/
theorem Bl.run {N : Nf} {most : Nat} {tss : List (List Int)} {T : Sets} (hm : 1 ≤ most) (h : Bl N most tss T) (hb : bldB most (stepN N) (lowsOf (spl N.cl)) (most + 1) 0 [[0]] = some (tss, T)) (s : ByteArray) :
    ruleV (rulesOf N.ru T) (goV (nextOf (clsOf (spl N.cl)) tss) (rulesOf N.ru T).length (sb s)) = ruleF N.ru (Sk N (sb s)) := by
  have hl : (rulesOf N.ru T).length = T.length := by unfold rulesOf; simp
  have hlt : ∀ b ∈ sb s, b < 256 := fun b hb => by
    obtain ⟨k, hk, rfl⟩ := List.mem_iff_getElem.1 hb
    exact sb_lt s k hk
  have L := lay_of (spl_parted N.cl) (spl_sorted N.cl)
  have ht := run_tells L (n := N.cl.length) (nx := N.nx) (has := hasN N) (fun x hx t ht => by
    unfold hasN
    rw [List.getD_eq_getElem?_getD, List.getElem?_eq_getElem ht]
    exact cls_alike (spl_parted N.cl) (spl_sorted N.cl) hx (List.getElem_mem ht)) (S0 := [0]) (by simp) hb hm (sb s) hlt
  obtain ⟨e1, e2, e3⟩ := goV_goT h.one h.bd (sb s) 0 (by have := h.one; omega) hlt
  have hr := run_rule (ru := N.ru) ht
  rw [hl]
  unfold goV
  rw [e1]
  refine Eq.trans ?_ hr
  unfold ruleV
  rw [hl]
  generalize (sb s).foldl (goT (nextOf (clsOf (spl N.cl)) tss)) 0 = a at *
  by_cases h0 : a < 0
  · rw [if_neg (by omega), if_pos h0]
  · rw [if_pos (by omega), if_neg h0]
    have hk : a.toNat < (rulesOf N.ru T).length := by omega
    rw [List.getD_eq_getElem?_getD, List.getD_eq_getElem?_getD, List.getElem?_eq_getElem hk]
    rfl
/-- One state fewer is too few. -/
theorem Bl.less {N : Nf} {most : Nat} {tss : List (List Int)} {T : Sets} (hm : 1 ≤ most) (hb : bldB most (stepN N) (lowsOf (spl N.cl)) (most + 1) 0 [[0]] = some (tss, T)) {m : Nat} (h1 : 1 ≤ m) (h2 : m < T.length) :
    bldB m (stepN N) (lowsOf (spl N.cl)) (m + 1) 0 [[0]] = none :=
  bldB_less hb (by simpa using hm) (by simp) (by omega) (by simpa using h1) h2 _ (by omega)
end Go.Proofs.YtaadkdmbhckdeaaDoor
