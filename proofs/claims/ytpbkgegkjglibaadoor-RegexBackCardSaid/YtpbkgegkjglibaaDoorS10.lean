/- Regex: Read walked. -/
import Derived.Test.YtpbkgegkjglibaaDoorR10
import Derived.Laws.BytesArg
import Derived.Test.YtpbkgegkjglibaaDoorS7
import Derived.Test.YtpbkgegkjglibaaDoorQ2
namespace Go.Proofs.YtpbkgegkjglibaaDoor
open Go Go.Proofs Go.RowKit
attribute [local go_sem] Oper.semAt_some
theorem of_nat (l : List Nat) (s : ByteArray) (hs : s.size ≤ 1000000) (hl : sb s = l) (w : World) : Calls Tryd.prog 60 #[.string s] w fun e w' => e = .returned (C4.ofL l).v ∧ Below w.heap.size w w' := by
  subst hl
  exact of_calls s hs w
theorem not_v (z : C4) (h : z.Wd) (W : World) : Calls Tryd.prog 59 #[z.v] W fun e w' => e = .returned z.not.v ∧ Below W.heap.size W w' := not_k z.a z.b z.c z.d h.a h.b h.c h.d W
/-- A string of one byte. -/
theorem conv_one (W : World) (B c : Nat) (h : W.cell? ⟨B, 0, none⟩ = some (.int .u8 (c : Nat))) : (convert 67 9 (.slice (some ⟨B, 0, none⟩) 1 1)).run Tryd.prog W = .ok (.string (strOfNums [(c : Int)])) W :=
  run_convert_bytes_arg (P := Tryd.prog) W 67 5 Tryd.underlying67 Tryd.underlying5 B 0 1 1 [(c : Int)] rfl (fun i hi => by
    obtain rfl : i = 0 := by omega
    exact h) 9 Tryd.underlying9
theorem sb_one (c : Nat) (h : c < 256) : sb (strOfNums [(c : Int)]) = [c] := by
  unfold sb
  rw [strOfNums_data]
  simp only [List.map_cons, List.map_nil, Int.toNat_natCast, UInt8.toNat_ofNat']
  rw [Nat.mod_eq_of_lt h]
set_option maxRecDepth 100000 in
set_option maxHeartbeats 8000000 in
theorem thing_k (Rb : Nat) (s : ByteArray) (a : Nat) (c : Nat) (hc : c < 256) (rv sv : Value) (w : World) (hR : Rdr w Rb s a rv sv 0) (hs : s.size ≤ 1000000) (ha : a ≤ s.size) :
    Calls Tryd.prog 44 #[.pointer (some ⟨Rb, 0, none⟩), .int .u8 c] w fun x w' => x = .returned (thingV s a c).1.v ∧ Rdr w' Rb s (thingV s a c).2.1 rv sv (thingV s a c).2.2 ∧ AX.But Rb w w' := by
  obtain ⟨Bc, hBc⟩ : ∃ Bc, Bc = w.heap.size := ⟨_, rfl⟩
  have HBC := Lib.hid hBc
  have hRl := hR.lt
  have hne : Bc ≠ Rb := by omega
  have hBcw : w.heap.size ≤ Bc := by omega
  have hb0 : AX.But Rb w (w.alloc (.cells #[.int .u64 0, .int .u64 0, .int .u64 0, .int .u64 0] 38)) := AX.But.of_below ((Below.refl _ w).alloc (Nat.le_refl _) _)
  have hR0 : Rdr (w.alloc (.cells #[.int .u64 0, .int .u64 0, .int .u64 0, .int .u64 0] 38)) Rb s a rv sv 0 := hR.alloc _
  have hC0 : ClsB (w.alloc (.cells #[.int .u64 0, .int .u64 0, .int .u64 0, .int .u64 0] 38)) Bc .zero := by rw [hBc]; exact Bx.new _ _ _
  obtain ⟨W0, hW0⟩ : ∃ W0, W0 = w.alloc (.cells #[.int .u64 0, .int .u64 0, .int .u64 0, .int .u64 0] 38) := ⟨_, rfl⟩
  rw [← hW0] at hb0 hR0 hC0
  have HW0 := Lib.hid hW0
  clear hBc hW0
  go_enter Tryd.func44, Tryd.ntmps44
  go_upto_if 6 with (fail)
  rw [← HBC.out, ← HW0.out]
  by_cases h91 : c = 91
  · subst h91
    have hv : thingV s a ((91 : Nat) : Int) = classV s a := if_pos rfl
    have hk := class_k Rb s a rv sv _ hR0 hs ha
    obtain ⟨z, hz⟩ : ∃ z, z = classV s a := ⟨_, rfl⟩
    rw [← hz] at hk hv
    have HV := Lib.hid hv
    clear hv hz
    go_wp2_with (first
      | (go_at_call 58; (with_reducible refine hk.mono ?_); rintro x W1 ⟨rfl, hR1, hb1⟩; have hC1 : ClsB W1 Bc .zero := (hb1.same Bc (Bx.lt hC0) hne).trans hC0)
      | ((with_reducible refine st_id ?_); refine AX.wpList_storeBox (vs := [.int .u64 z.1.a, .int .u64 z.1.b, .int .u64 z.1.c, .int .u64 z.1.d]) rfl rfl sz38 hC1 rfl rfl ?_; rintro W7 h3 h4 h5; have hC7 : ClsB W7 Bc z.1 := h3; have hR7 := (h4 Rb (fun e => hne e.symm)).trans hR1; have hB7 := but_new (hb0.trans hb1) hBcw (Array.getElem?_eq_some_iff.1 h3).1 h4 h5; obtain ⟨y0, y1, y2, y3⟩ := hC7.cells))
    exact bodyPost_ret (v := z.1.v) (by simp [results, Tryd.results44, go_sem, C4.v, y0, y1, y2, y3]) rfl (by rw [HV.out]; exact ⟨rfl, hR7, hB7⟩)
  have n91 : ¬ (c : Int) = 91 := by omega
  by_cases h46 : c = 46
  · subst h46
    obtain ⟨z, hz⟩ : ∃ z, z = C4.ofL [10] := ⟨_, rfl⟩
    have hv : thingV s a ((46 : Nat) : Int) = (z.not, a, 0) := by rw [hz]; rfl
    have hk := fun W => of_nat [10] ⟨#[10]⟩ (by decide) rfl W
    have hzw : z.Wd := by rw [hz]; exact C4.wd_ofL _
    rw [← hz] at hk
    have hnk := not_v z hzw
    have HV := Lib.hid hv
    clear hv hz
    go_wp2_with (first
      | (go_at_call 60; (with_reducible refine (hk _).mono ?_); rintro x W1 ⟨rfl, hb1⟩; have hC1 : ClsB W1 Bc .zero := Bx.below hC0 hb1 (Bx.lt hC0); have hR1 := Bx.below hR0 hb1 (Bx.lt hR0); have hB1 := hb0.trans (AX.But.of_below hb1))
      | (go_at_call 59; (with_reducible refine (hnk _).mono ?_); rintro x W2 ⟨rfl, hb2⟩; have hC2 : ClsB W2 Bc .zero := Bx.below hC1 hb2 (Bx.lt hC1); have hR2 := Bx.below hR1 hb2 (Bx.lt hR1); have hB2 := hB1.trans (AX.But.of_below hb2))
      | ((with_reducible refine st_id ?_); refine AX.wpList_storeBox (vs := [.int .u64 (nw z.a : Nat), .int .u64 (nw z.b : Nat), .int .u64 (nw z.c : Nat), .int .u64 (nw z.d : Nat)]) rfl rfl sz38 hC2 rfl rfl ?_; rintro W7 h3 h4 h5; have hC7 : ClsB W7 Bc z.not := h3; have hR7 := (h4 Rb (fun e => hne e.symm)).trans hR2; have hB7 := but_new hB2 hBcw (Array.getElem?_eq_some_iff.1 h3).1 h4 h5; obtain ⟨y0, y1, y2, y3⟩ := hC7.cells))
    exact bodyPost_ret (v := z.not.v) (by simp [results, Tryd.results44, go_sem, C4.v, y0, y1, y2, y3]) rfl (by rw [HV.out]; exact ⟨rfl, hR7, hB7⟩)
  have n46 : ¬ (c : Int) = 46 := by omega
  by_cases h92 : c = 92
  · subst h92
    obtain ⟨q, k, e, hv, hq, hk, _⟩ := escape_out s a ha
    have hes := escape_k Rb s a rv sv 0
    have hv2 : thingV s a ((92 : Nat) : Int) = (C4.ofL [(escapeV s a 0).1.toNat], (escapeV s a 0).2.1.toNat, (escapeV s a 0).2.2) := rfl
    rw [hv] at hes hv2
    simp only [Int.toNat_natCast] at hv2
    obtain ⟨z, hz⟩ : ∃ z, z = C4.ofL [q] := ⟨_, rfl⟩
    have hof := fun W => of_nat [q] (strOfNums [(q : Int)]) (by rw [strOfNums_size]; simp) (sb_one q hq) W
    rw [← hz] at hv2 hof
    have HV := Lib.hid hv2
    clear hv hv2 hz
    go_wp2_with (first
      | (go_at_call 61; (with_reducible refine (hes _ hR0 hs ha).mono ?_); rintro x W1 ⟨rfl, hR1, hb1⟩; have hC1 : ClsB W1 Bc .zero := (hb1.same Bc (Bx.lt hC0) hne).trans hC0; have hba := (Below.refl W1.heap.size W1).alloc (Nat.le_refl _) (.cells #[.int .u8 q] 5); have hcv := conv_one (W1.alloc (.cells #[.int .u8 q] 5)) W1.heap.size q ((Bx.new W1 5 #[.int .u8 q]).cell 0); have hR2 := Bx.below hR1 hba (Bx.lt hR1); have hC2 : ClsB (W1.alloc (.cells #[.int .u8 q] 5)) Bc .zero := Bx.below hC1 hba (Bx.lt hC1); have hB2 := (hb0.trans hb1).trans (AX.But.of_below hba))
      | (go_at_call 60; (with_reducible refine (hof _).mono ?_); rintro x W3 ⟨rfl, hb3⟩; have hC3 : ClsB W3 Bc .zero := Bx.below hC2 hb3 (Bx.lt hC2); have hR3 := Bx.below hR2 hb3 (Bx.lt hR2); have hB3 := hB2.trans (AX.But.of_below hb3))
      | ((with_reducible refine st_id ?_); refine AX.wpList_storeBox (vs := [.int .u64 z.a, .int .u64 z.b, .int .u64 z.c, .int .u64 z.d]) rfl rfl sz38 hC3 rfl rfl ?_; rintro W7 h3 h4 h5; have hC7 : ClsB W7 Bc z := h3; have hR7 := (h4 Rb (fun e => hne e.symm)).trans hR3; have hB7 := but_new hB3 hBcw (Array.getElem?_eq_some_iff.1 h3).1 h4 h5; obtain ⟨y0, y1, y2, y3⟩ := hC7.cells))
    exact bodyPost_ret (v := z.v) (by simp [results, Tryd.results44, go_sem, C4.v, y0, y1, y2, y3]) rfl (by rw [HV.out]; exact ⟨rfl, hR7, hB7⟩)
  · have n92 : ¬ (c : Int) = 92 := by omega
    have hv2 : thingV s a (c : Int) = (C4.ofL [c], a, 0) := by
      unfold thingV
      rw [if_neg n91, if_neg n46, if_neg n92, Int.toNat_natCast]
    obtain ⟨z, hz⟩ : ∃ z, z = C4.ofL [c] := ⟨_, rfl⟩
    have hof := fun W => of_nat [c] (strOfNums [(c : Int)]) (by rw [strOfNums_size]; simp) (sb_one c hc) W
    rw [← hz] at hv2 hof
    have HV := Lib.hid hv2
    have hba := (Below.refl W0.heap.size W0).alloc (Nat.le_refl _) (.cells #[.int .u8 c] 5)
    have hcv := conv_one (W0.alloc (.cells #[.int .u8 c] 5)) W0.heap.size c ((Bx.new W0 5 #[.int .u8 c]).cell 0)
    have hR2 := Bx.below hR0 hba (Bx.lt hR0)
    have hC2 : ClsB (W0.alloc (.cells #[.int .u8 c] 5)) Bc .zero := Bx.below hC0 hba (Bx.lt hC0)
    have hB2 := hb0.trans (AX.But.of_below hba)
    clear hv2 hz
    go_wp2_with (first
      | (go_at_call 60; (with_reducible refine (hof _).mono ?_); rintro x W3 ⟨rfl, hb3⟩; have hC3 : ClsB W3 Bc .zero := Bx.below hC2 hb3 (Bx.lt hC2); have hR3 := Bx.below hR2 hb3 (Bx.lt hR2); have hB3 := hB2.trans (AX.But.of_below hb3))
      | ((with_reducible refine st_id ?_); refine AX.wpList_storeBox (vs := [.int .u64 z.a, .int .u64 z.b, .int .u64 z.c, .int .u64 z.d]) rfl rfl sz38 hC3 rfl rfl ?_; rintro W7 h3 h4 h5; have hC7 : ClsB W7 Bc z := h3; have hR7 := (h4 Rb (fun e => hne e.symm)).trans hR3; have hB7 := but_new hB3 hBcw (Array.getElem?_eq_some_iff.1 h3).1 h4 h5; obtain ⟨y0, y1, y2, y3⟩ := hC7.cells))
    exact bodyPost_ret (v := z.v) (by simp [results, Tryd.results44, go_sem, C4.v, y0, y1, y2, y3]) rfl (by rw [HV.out]; exact ⟨rfl, hR7, hB7⟩)
end Go.Proofs.YtpbkgegkjglibaaDoor

namespace Go.Proofs.YtpbkgegkjglibaaDoor
open Go Go.Proofs Go.RowKit
attribute [local go_sem] Oper.semAt_some
/-- The frames below: their values, their rows, what they stand for. -/
inductive FrOk : List (Value × Value) → List (Value × List Int) → List (Fr Int) → Prop where
  | nil : FrOk [] [] []
  | snoc {fs : List (Value × Value)} {rs : List (Value × List Int)} {f : List (Fr Int)} (av iv : Value) (A I : List Int) : FrOk fs rs f → FrOk (fs ++ [(av, iv)]) ((av, A) :: (iv, I) :: rs) ((A, I) :: f)
theorem FrOk.len {fs : List (Value × Value)} {rs : List (Value × List Int)} {f : List (Fr Int)} (h : FrOk fs rs f) : fs.length = f.length := by
  induction h with
  | nil => rfl
  | snoc _ _ _ _ _ ih => simp [ih]
/-- The reader in memory, and what it stands for. -/
structure Rs (w W : World) (Rb Sb : Nat) (s : ByteArray) (x : Ms (List Nd) Int) (r : List NL) (rv av iv : Value) (fs : List (Value × Value)) (rs : List (Value × List Int)) (c : Nat) : Prop where
  st : St w W Rb s x.a x.e rv (.slice (some ⟨Sb, 0, none⟩) (fs.length + 1) c) r (fs ++ [(av, iv)]) ((av, x.A) :: (iv, x.I) :: rs)
  nd : r.map (·.x) = x.st
  fr : FrOk fs rs x.f
def RsIn (w W : World) (Rb : Nat) (s : ByteArray) (x : Ms (List Nd) Int) : Prop := ∃ Sb r rv av iv fs rs c, Rs w W Rb Sb s x r rv av iv fs rs c
theorem info53 : (Tryd.prog.info? 53).map (fun i => (i.zero, i.size, i.bytes)) = some (some (.agg #[.slice none 0 0, .slice none 0 0]), 2, 48) := by kernel_rfl
theorem append_f {ops : Array Oper} {rest : List Oper} {o : Oper} {a : Act} {Q : Exit → Act → World → Prop} (W : World) (base : Nat) (v : Value) (pre : List (Value × Value)) (hgd : o.guard = none) (s y : Operand)
    (ho : o.op = .call { callee := .builtin .append, args := #[s, y], argTypes := #[54, 54] }) (hs : a.eval s = v) (hown : SOwn W base v pre) (B c : Nat) (hx : a.eval y = .slice (some ⟨B, 0, none⟩) 1 c)
    (hc : Bx W B 53 #[.slice none 0 0, .slice none 0 0]) (hl : pre.length ≤ 100000) (hb : base ≤ W.heap.size)
    (h : ∀ v' w', SOwn w' base v' (pre ++ [(.slice none 0 0, .slice none 0 0)]) → W.grownBy w' v.ownBlock → wpList Tryd.prog ops Q rest (a.put o.dst v') w') : wpList Tryd.prog ops Q (o :: rest) a W := by
  obtain ⟨ti, hi, hz0, hz1, hz2⟩ := info_parts info53
  refine wpList_append_own (P := Tryd.prog) (w := W) hgd s y 54 ho base 53 ti (.agg #[.slice none 0 0, .slice none 0 0]) 2 48 Tryd.underlying54 hi hz0 hz1 hz2 rfl (by decide) v pre.length _ hs hown ⟨B, 0, none⟩ 1 c [.slice none 0 0, .slice none 0 0] hx rfl
    (fun j u hj => by rw [addr_add, Nat.zero_add, hc.cell]; simpa using hj) (fun u hu => by
      simp only [List.mem_cons, List.not_mem_nil, or_false] at hu
      rcases hu with rfl | rfl <;> rfl) (by unfold maxLen; omega) (by omega) hb ?_
  intro v' w' h1 h2 _
  refine h v' w' ?_ h2
  unfold SOwn
  rw [List.length_append, List.flatMap_append]
  simpa [encF] using h1
section
variable {w W W' : World} {Rb : Nat} {s : ByteArray} {at_ e : Int} {rv sv : Value} {r : List NL} {fs : List (Value × Value)} {rows : List (Value × List Int)}
/-- A frame is put on the others. -/
theorem St.push {W1 W2 : World} {sv' : Value} {f : Value × Value} (h : St w W Rb s at_ e rv sv r fs rows) (hn : SOwn W1 w.heap.size sv' (fs ++ [f])) (hg : W.grownBy W1 sv.ownBlock)
    (hR : Rdr W2 Rb s at_ rv sv' e) (h4 : ∀ j, j ≠ Rb → W2.heap[j]? = W1.heap[j]?) (h5 : AX.Same W1 W2) : St w W2 Rb s at_ e rv sv' r (fs ++ [f]) rows := by
  have s1 : SBut 53 W W1 := sbut_grown h.so hg
  have hR1 : Rdr W1 Rb s at_ rv sv e := (s1 Rb _ 56 h.rd (by decide)).trans h.rd
  have s2 : SBut 56 W1 W2 := sbut_block hR1 h4
  have b1 := (Below.refl w.heap.size W).grown hg h.low.size fun j ej => (World.ownsRow.lt h.so j ej).1
  have b2 := AX.below_turn (n := w.heap.size) h.rb (.inl hR.lt) h4 h5
  exact ⟨h.low.trans (b1.trans b2), h.rb, hR, own_sbut (own_sbut h.ro s1 (by decide)) s2 (by decide), own_sbut hn s2 (by decide), fun p hp => own_sbut (own_sbut (h.io p hp) s1 (by decide)) s2 (by decide), h.dis, fun z hz => ((h.ka z hz).sbut s1 (by decide)).sbut s2 (by decide), h.kd⟩
/-- The place goes on by one. -/
theorem St.next {a : Nat} (h : St w W Rb s a e rv sv r fs rows) : St w (W.setCell ⟨Rb, 1, none⟩ (.int .i64 ((a : Int) + 1))) Rb s ((a + 1 : Nat) : Int) e rv sv r fs rows := h.box (but_set W Rb 1 _) (Bx.set h.rd 1 (.int .i64 ((a : Int) + 1)))
end
set_option maxRecDepth 100000 in
set_option maxHeartbeats 8000000 in
theorem step_k (w W : World) (Rb : Nat) (s : ByteArray) (x : Ms (List Nd) Int) (h : RsIn w W Rb s x) (hm : MsOk s x) (hs : s.size ≤ 256) (he : x.e = 0) (hal : x.a < s.size) :
    Calls Tryd.prog 24 #[.pointer (some ⟨Rb, 0, none⟩)] W fun y W' => y = .returned (.tuple #[]) ∧ RsIn w W' Rb s (stepG mkI s x) := by
  obtain ⟨st, a, e, A, I, f⟩ := x
  obtain ⟨Sb, r, rv, av, iv, fs, rs, c, h, hnd, hfr⟩ := h
  dsimp only at he hal hnd hfr h
  subst he
  obtain ⟨hfo, hrl, hsl, hal', hfl⟩ := hm
  dsimp only at hfo hrl hsl hal' hfl
  have hfsl : fs.length ≤ 300 := by have := hfr.len; omega
  have hrln : r.length ≤ 600 := by
    have : r.length = st.length := by rw [← hnd]; simp
    omega
  have hAI : A.length ≤ 300 ∧ I.length ≤ 300 := by
    unfold rootsM at hrl
    simp only [List.length_append] at hrl
    omega
  obtain ⟨b, hb, hb2⟩ := byteI_nat s a
  have HB := Lib.hid hb
  have hal2 : (a : Int) < (s.size : Int) := by omega
  have hby := byteI_eq s a hal
  rw [hb] at hby
  have HBY := Lib.hid hby
  have HND := Lib.hid hnd
  have HFR := Lib.hid hfr
  have HJ : Hid (∀ B J f', f = (B, J) :: f' → J.length ≤ 300) := Lib.hid (by
    rintro B J f' rfl
    unfold rootsM at hrl
    simp only [List.length_append, List.flatMap_cons] at hrl
    omega)
  clear hb hby hnd hfr hfo hrl hsl hal' hfl
  go_enter Tryd.func24, Tryd.ntmps24
  go_wp2_with fail
  obtain ⟨c0, c1, c2, c3, c4⟩ := Bx.fiv h.rd
  have d0 := AX.cell_all c0 h.rd.lt
  have d1 := AX.cell_all c1 h.rd.lt
  refine AX.region_below (by kernel_rfl) (by kernel_rfl) ?_
  repeat (go_big_quiet_step (fail))
  refine wpQuiet_nil ?_
  rintro W1 ⟨p, rfl⟩
  obtain ⟨W1, hb1⟩ := p
  change Below _ _ _ at hb1
  have h1 := h.below hb1
  simp only [← HBY.out]
  clear c0 c1 c2 c3 c4 d0 d1 h
  have d1 := h1.at
  have f1 := h1.rd.frozen 1
  by_cases h124 : b = 124
  · subst h124
    have hst : stepG mkI s ⟨st, a, 0, A, I, f⟩ = ⟨(manyG mkI st 3 I).1, a + 1, 0, A ++ [(manyG mkI st 3 I).2], [], f⟩ := by
      unfold stepG; dsimp only; rw [HB.out]; rfl
    have HST := Lib.hid hst
    clear hst
    have ha := alt_k av iv A I h1 (by omega) (by omega) (by omega)
    rw [HND.out] at ha
    go_wp2_with (go_at_call 40; (with_reducible refine ha.mono ?_); rintro y W2 ⟨rfl, rv2, r2, av2, h2, hr2⟩; have d2 := h2.at; have f2 := h2.rd.frozen 1)
    exact bodyPost_end (v := .tuple #[]) (by simp [results, Tryd.results24, go_sem]) rfl ⟨rfl, by rw [HST.out]; exact ⟨Sb, r2, rv2, av2, .slice none 0 0, fs, rs, c, ⟨(h2.next.empty).perm (List.Perm.swap _ _ _), hr2, HFR.out⟩⟩⟩
  have n124 : ¬ (b : Int) = 124 := by omega
  by_cases h40 : b = 40
  · subst h40
    have hst : stepG mkI s ⟨st, a, 0, A, I, f⟩ = ⟨st, a + 1, 0, [], [], (A, I) :: f⟩ := by
      unfold stepG; dsimp only; rw [HB.out]; rfl
    have HST := Lib.hid hst
    clear hst
    have h2 := h1.below ((Below.refl W1.heap.size W1).alloc (Nat.le_refl _) (.cells #[.slice none 0 0, .slice none 0 0] 53))
    have hB2 := Bx.new W1 53 #[.slice none 0 0, .slice none 0 0]
    have d3 : W1.cell? ⟨Rb, 3, none⟩ = some (.slice (some ⟨Sb, 0, none⟩) (fs.length + 1) c) := h1.rd.cell 3
    have hsv : ∃ sv, sv = Value.slice (some ⟨Sb, 0, none⟩) (fs.length + 1) c := ⟨_, rfl⟩
    obtain ⟨sv, hsv⟩ := hsv
    rw [← hsv] at h1 h2 d3
    clear hsv
    go_wp2_with (first
      | (at_builtin; (refine append_f _ w.heap.size sv (fs ++ [(av, iv)]) rfl _ _ rfl rfl h2.so W1.heap.size 1 rfl hB2 (by rw [List.length_append, List.length_singleton]; omega) h2.low.size ?_); intro v' W8 hr8 hg8; have hr8b : Rdr W8 Rb s a rv sv 0 := (sbut_grown h2.so hg8 Rb _ 56 h2.rd (by decide)).trans h2.rd; have hone : v'.oneCell' = true := (by rcases hr8.2 with ⟨e, _⟩ | ⟨g, cap, cur, e, _⟩ <;> rw [e] <;> rfl))
      | ((with_reducible refine st_id ?_); refine AX.wpList_storeCell (o := 3) (v := v') rfl rfl hone sz54' hr8b (show 3 < 5 by decide) ?_; rintro W9 g3 g4 g5; have h9 := h2.push hr8 hg8 g3 g4 g5; have d9 := h9.at; have f9 := h9.rd.frozen 1))
    obtain ⟨Sb2, c2, cs2, hv2, _, _, _, _⟩ := hr8.block (by simp)
    have hl2 : (fs ++ [(av, iv)] ++ [(Value.slice none 0 0, Value.slice none 0 0)]).length = (fs ++ [(av, iv)]).length + 1 := by simp
    rw [hl2] at hv2
    subst hv2
    exact bodyPost_end (v := .tuple #[]) (by simp [results, Tryd.results24, go_sem]) rfl ⟨rfl, by rw [HST.out]; exact ⟨Sb2, r, rv, .slice none 0 0, .slice none 0 0, fs ++ [(av, iv)], _, c2, ⟨h9.next.empty.empty, HND.out, HFR.out.snoc av iv A I⟩⟩⟩
  have n40 : ¬ (b : Int) = 40 := by omega
  by_cases h41 : b = 41
  · subst h41
    cases f with
    | nil =>
      have hst : stepG mkI s ⟨st, a, 0, A, I, []⟩ = ⟨st, a, 7, A, I, []⟩ := by
        unfold stepG; dsimp only; rw [HB.out]; rfl
      have HST := Lib.hid hst
      clear hst
      have h0 := HFR.out.len
      have hfs0 : fs = [] := List.eq_nil_of_length_eq_zero h0
      subst hfs0
      have d3 : W1.cell? ⟨Rb, 3, none⟩ = some (.slice (some ⟨Sb, 0, none⟩) (0 + 1) c) := h1.rd.cell 3
      rw [Nat.zero_add] at d3
      go_wp2_with (go_at_call 25; (with_reducible refine (fail_k Rb s _ rv _ 0 _ _ _ h1.rd).mono ?_); rintro y W2 ⟨rfl, hR2, hb2⟩; have h2 := h1.box hb2 hR2)
      exact bodyPost_ret (v := .tuple #[]) (by simp [results, Tryd.results24, go_sem]) rfl ⟨rfl, by rw [HST.out]; exact ⟨Sb, r, rv, av, iv, [], rs, c, ⟨h2, HND.out, HFR.out⟩⟩⟩
    | cons y f =>
      obtain ⟨B, J⟩ := y
      have hst : stepG mkI s ⟨st, a, 0, A, I, (B, J) :: f⟩ = ⟨(shutG mkI st A I).1, a + 1, 0, B, J ++ [(shutG mkI st A I).2], f⟩ := by
        unfold stepG; dsimp only; rw [HB.out]; rfl
      have HST := Lib.hid hst
      clear hst
      obtain ⟨fs', rs', av', iv', rfl, rfl, hfr'⟩ : ∃ fs' rs' av' iv', fs = fs' ++ [(av', iv')] ∧ rs = (av', B) :: (iv', J) :: rs' ∧ FrOk fs' rs' f := by
        cases HFR.out with
        | snoc av' iv' _ _ h => exact ⟨_, _, _, _, rfl, rfl, h⟩
      have HFR' := Lib.hid hfr'
      have hp := pop_k av iv A I h1 (by omega) (by omega) (by omega)
      have hl1 : (fs' ++ [(av', iv')]).length = fs'.length + 1 := by simp
      rw [HND.out] at hp
      rw [hl1] at hp
      have hJ : J.length ≤ 9000 := by have := HJ.out B J f rfl; omega
      have d3 : W1.cell? ⟨Rb, 3, none⟩ = some (.slice (some ⟨Sb, 0, none⟩) (fs'.length + 1 + 1) c) := by rw [← hl1]; exact h1.rd.cell 3
      have hn1 : ¬ ((fs'.length : Int) + 1 + 1 = 1) := by omega
      clear hfr'
      go_wp2_with (first
        | (go_at_call 26; (with_reducible refine hp.mono ?_); rintro y W2 ⟨rfl, rv2, r2, h2, hr2⟩; have hi := item_k av' iv' J (shutG mkI st A I).2 (h2.perm (List.Perm.swap _ _ _)) hJ (by omega))
        | (go_at_call 41; (with_reducible refine hi.mono ?_); rintro y W3 ⟨rfl, iv3, h3⟩; have d4 := h3.at; have f4 := h3.rd.frozen 1))
      exact bodyPost_end (v := .tuple #[]) (by simp [results, Tryd.results24, go_sem]) rfl ⟨rfl, by rw [HST.out]; exact ⟨Sb, r2, rv2, av', iv3, fs', rs', c, ⟨h3.next.perm (List.Perm.swap _ _ _), hr2, HFR'.out⟩⟩⟩
  have n41 : ¬ (b : Int) = 41 := by omega
  by_cases h93 : b = 93
  · subst h93
    have hst : stepG mkI s ⟨st, a, 0, A, I, f⟩ = ⟨st, a, 7, A, I, f⟩ := by
      unfold stepG; dsimp only; rw [HB.out]; rfl
    have HST := Lib.hid hst
    clear hst
    go_wp2_with (go_at_call 25; (with_reducible refine (fail_k Rb s _ rv _ 0 _ _ _ h1.rd).mono ?_); rintro y W2 ⟨rfl, hR2, hb2⟩; have h2 := h1.box hb2 hR2)
    exact bodyPost_ret (v := .tuple #[]) (by simp [results, Tryd.results24, go_sem]) rfl ⟨rfl, by rw [HST.out]; exact ⟨Sb, r, rv, av, iv, fs, rs, c, ⟨h2, HND.out, HFR.out⟩⟩⟩
  have n93 : ¬ (b : Int) = 93 := by omega
  by_cases h42 : b = 42
  · subst h42
    have hst : stepG mkI s ⟨st, a, 0, A, I, f⟩ = againG mkI ⟨st, a, 0, A, I, f⟩ 5 := by
      unfold stepG; dsimp only; rw [HB.out]; rfl
    unfold againG at hst
    dsimp only at hst
    rcases List.eq_nil_or_concat I with rfl | ⟨D, x, hDx⟩
    · have HST := Lib.hid hst
      clear hst
      have ha := again0_k a 5 av iv (h1.perm (List.Perm.swap _ _ _)) (by omega)
      go_wp2_with (go_at_call 42; (with_reducible refine ha.mono ?_); rintro y W2 ⟨rfl, h2⟩)
      exact bodyPost_ret (v := .tuple #[]) (by simp [results, Tryd.results24, go_sem]) rfl ⟨rfl, by rw [HST.out]; exact ⟨Sb, r, rv, av, iv, fs, rs, c, ⟨h2.perm (List.Perm.swap _ _ _), HND.out, HFR.out⟩⟩⟩
    · rw [List.concat_eq_append] at hDx
      subst hDx
      have hlast : (D ++ [x]).getLast? = some x := by simp
      have hdl : (D ++ [x]).dropLast = D := by simp
      have hrln2 : (r.length : Int) = ((r.map (·.x)).length : Int) := by simp
      rw [hlast] at hst
      dsimp only at hst
      rw [hdl] at hst
      have HST := Lib.hid hst
      have HRL := Lib.hid hrln2
      have hDl : D.length ≤ 9000 := by have := hAI.2; simp at this; omega
      have ha := again1_k a (by omega) 5 av iv D x (h1.perm (List.Perm.swap _ _ _)) (by omega) hDl (by omega)
      clear hst hlast hdl hrln2
      go_wp2_with (go_at_call 42; (with_reducible refine ha.mono ?_); rintro y W2 ⟨rfl, rv2, r2, h2, hr2⟩)
      exact bodyPost_ret (v := .tuple #[]) (by simp [results, Tryd.results24, go_sem]) rfl ⟨rfl, by
        rw [HST.out]
        refine ⟨Sb, r2, rv2, av, iv, fs, rs, c, ⟨?_, by rw [hr2, HND.out], HFR.out⟩⟩
        have h3 := h2.perm (List.Perm.swap _ _ _)
        rw [HRL.out, HND.out] at h3
        exact h3⟩
  have n42 : ¬ (b : Int) = 42 := by omega
  by_cases h43 : b = 43
  · subst h43
    have hst : stepG mkI s ⟨st, a, 0, A, I, f⟩ = againG mkI ⟨st, a, 0, A, I, f⟩ 6 := by
      unfold stepG; dsimp only; rw [HB.out]; rfl
    unfold againG at hst
    dsimp only at hst
    rcases List.eq_nil_or_concat I with rfl | ⟨D, x, hDx⟩
    · have HST := Lib.hid hst
      clear hst
      have ha := again0_k a 6 av iv (h1.perm (List.Perm.swap _ _ _)) (by omega)
      go_wp2_with (go_at_call 42; (with_reducible refine ha.mono ?_); rintro y W2 ⟨rfl, h2⟩)
      exact bodyPost_ret (v := .tuple #[]) (by simp [results, Tryd.results24, go_sem]) rfl ⟨rfl, by rw [HST.out]; exact ⟨Sb, r, rv, av, iv, fs, rs, c, ⟨h2.perm (List.Perm.swap _ _ _), HND.out, HFR.out⟩⟩⟩
    · rw [List.concat_eq_append] at hDx
      subst hDx
      have hlast : (D ++ [x]).getLast? = some x := by simp
      have hdl : (D ++ [x]).dropLast = D := by simp
      have hrln2 : (r.length : Int) = ((r.map (·.x)).length : Int) := by simp
      rw [hlast] at hst
      dsimp only at hst
      rw [hdl] at hst
      have HST := Lib.hid hst
      have HRL := Lib.hid hrln2
      have hDl : D.length ≤ 9000 := by have := hAI.2; simp at this; omega
      have ha := again1_k a (by omega) 6 av iv D x (h1.perm (List.Perm.swap _ _ _)) (by omega) hDl (by omega)
      clear hst hlast hdl hrln2
      go_wp2_with (go_at_call 42; (with_reducible refine ha.mono ?_); rintro y W2 ⟨rfl, rv2, r2, h2, hr2⟩)
      exact bodyPost_ret (v := .tuple #[]) (by simp [results, Tryd.results24, go_sem]) rfl ⟨rfl, by
        rw [HST.out]
        refine ⟨Sb, r2, rv2, av, iv, fs, rs, c, ⟨?_, by rw [hr2, HND.out], HFR.out⟩⟩
        have h3 := h2.perm (List.Perm.swap _ _ _)
        rw [HRL.out, HND.out] at h3
        exact h3⟩
  have n43 : ¬ (b : Int) = 43 := by omega
  by_cases h63 : b = 63
  · subst h63
    have hst : stepG mkI s ⟨st, a, 0, A, I, f⟩ = againG mkI ⟨st, a, 0, A, I, f⟩ 7 := by
      unfold stepG; dsimp only; rw [HB.out]; rfl
    unfold againG at hst
    dsimp only at hst
    rcases List.eq_nil_or_concat I with rfl | ⟨D, x, hDx⟩
    · have HST := Lib.hid hst
      clear hst
      have ha := again0_k a 7 av iv (h1.perm (List.Perm.swap _ _ _)) (by omega)
      go_wp2_with (go_at_call 42; (with_reducible refine ha.mono ?_); rintro y W2 ⟨rfl, h2⟩)
      exact bodyPost_ret (v := .tuple #[]) (by simp [results, Tryd.results24, go_sem]) rfl ⟨rfl, by rw [HST.out]; exact ⟨Sb, r, rv, av, iv, fs, rs, c, ⟨h2.perm (List.Perm.swap _ _ _), HND.out, HFR.out⟩⟩⟩
    · rw [List.concat_eq_append] at hDx
      subst hDx
      have hlast : (D ++ [x]).getLast? = some x := by simp
      have hdl : (D ++ [x]).dropLast = D := by simp
      have hrln2 : (r.length : Int) = ((r.map (·.x)).length : Int) := by simp
      rw [hlast] at hst
      dsimp only at hst
      rw [hdl] at hst
      have HST := Lib.hid hst
      have HRL := Lib.hid hrln2
      have hDl : D.length ≤ 9000 := by have := hAI.2; simp at this; omega
      have ha := again1_k a (by omega) 7 av iv D x (h1.perm (List.Perm.swap _ _ _)) (by omega) hDl (by omega)
      clear hst hlast hdl hrln2
      go_wp2_with (go_at_call 42; (with_reducible refine ha.mono ?_); rintro y W2 ⟨rfl, rv2, r2, h2, hr2⟩)
      exact bodyPost_ret (v := .tuple #[]) (by simp [results, Tryd.results24, go_sem]) rfl ⟨rfl, by
        rw [HST.out]
        refine ⟨Sb, r2, rv2, av, iv, fs, rs, c, ⟨?_, by rw [hr2, HND.out], HFR.out⟩⟩
        have h3 := h2.perm (List.Perm.swap _ _ _)
        rw [HRL.out, HND.out] at h3
        exact h3⟩
  have n63 : ¬ (b : Int) = 63 := by omega
  obtain ⟨z, hz⟩ : ∃ z, z = thingV s (a + 1) (b : Int) := ⟨_, rfl⟩
  have hst : stepG mkI s ⟨st, a, 0, A, I, f⟩ = ⟨(mkI st ⟨2, z.1⟩ []).1, z.2.1, z.2.2, A, I ++ [(mkI st ⟨2, z.1⟩ []).2], f⟩ := by
    unfold stepG
    dsimp only
    rw [HB.out, if_neg n124, if_neg n40, if_neg n41, if_neg n93, if_neg n42, if_neg n43, if_neg n63, hz]
  have HST := Lib.hid hst
  have hrln2 : (r.length : Int) = ((r.map (·.x)).length : Int) := by simp
  have HRL := Lib.hid hrln2
  have h2 := h1.next (a := a)
  have ht := thing_k Rb s (a + 1) b hb2 rv (.slice (some ⟨Sb, 0, none⟩) (fs.length + 1) c) _ h2.rd (by omega) (by omega)
  rw [← hz] at ht
  clear hst hz hrln2
  go_wp2_with (first
    | (go_at_call 44; (with_reducible refine ht.mono ?_); rintro y W3 ⟨rfl, hR3, hb3⟩; have h3 := h2.box hb3 hR3; have hp := put_k 2 z.1 (.slice none 0 0) [] h3 (.inl ⟨rfl, rfl⟩) (fun p _ g _ => (by simp [Value.ownBlock])) (by omega))
    | (go_at_call 43; (with_reducible refine hp.mono ?_); rintro y W4 ⟨rfl, rv4, h4⟩; have hi := item_k av iv I (r.length : Int) (h4.perm (List.Perm.swap _ _ _)) (by omega) (by omega))
    | (go_at_call 41; (with_reducible refine hi.mono ?_); rintro y W5 ⟨rfl, iv5, h5⟩))
  exact bodyPost_ret (v := .tuple #[]) (by simp [results, Tryd.results24, go_sem]) rfl ⟨rfl, by
    rw [HST.out]
    refine ⟨Sb, r ++ [⟨ndOf 2 z.1 [], .slice none 0 0⟩], rv4, av, iv5, fs, rs, c, ⟨?_, by rw [List.map_append, HND.out]; rfl, HFR.out⟩⟩
    have h6 := h5.perm (List.Perm.swap _ _ _)
    rw [HRL.out, HND.out] at h6
    exact h6⟩
end Go.Proofs.YtpbkgegkjglibaaDoor

namespace Go.Proofs.YtpbkgegkjglibaaDoor
open Go Go.Proofs Go.RowKit
attribute [local go_sem] Oper.semAt_some
theorem step_lt {σ α : Type} (mk : σ → H5 → List α → σ × α) (s : ByteArray) (x : Ms σ α) (_he : x.e = 0) (hal : x.a < s.size) (h : (stepG mk s x).e = 0) : x.a < (stepG mk s x).a := by
  have hag : ∀ k, (againG mk x k).e = 0 → x.a < (againG mk x k).a := fun k h => by
    unfold againG at h ⊢
    cases e : x.I.getLast? with
    | none => rw [e] at h; simp at h
    | some y => exact Nat.lt_succ_self _
  unfold stepG at h ⊢
  split
  · exact Nat.lt_succ_self _
  rw [if_neg (by assumption)] at h
  split
  · exact Nat.lt_succ_self _
  rw [if_neg (by assumption)] at h
  split
  · rw [if_pos (by assumption)] at h
    cases e : x.f with
    | nil => rw [e] at h; simp at h
    | cons y f => exact Nat.lt_succ_self _
  rw [if_neg (by assumption)] at h
  split
  · rw [if_pos (by assumption)] at h; cases h
  rw [if_neg (by assumption)] at h
  split
  · rw [if_pos (by assumption)] at h; exact hag 5 h
  rw [if_neg (by assumption)] at h
  split
  · rw [if_pos (by assumption)] at h; exact hag 6 h
  rw [if_neg (by assumption)] at h
  split
  · rw [if_pos (by assumption)] at h; exact hag 7 h
  rw [if_neg (by assumption)] at h
  obtain ⟨_, _, t3⟩ := thing_out s (x.a + 1) (byteI s x.a) hal
  exact t3 h
/-- The reader at its end. -/
def Reads (s : ByteArray) (x : Ms (List Nd) Int) : Prop := Reach mkI s (begG []) x ∧ moreV s.size x.a x.e = false ∧ (x.e = 0 → MsOk s x)
def outE (s : ByteArray) (x : Ms (List Nd) Int) : Int × Int := if x.f = [] then ((x.a : Int), x.e) else failV ((x.a : Int), x.e) s.size 8
def ReadPost (w' : World) (s : ByteArray) (e : Ending) : Prop := ∃ x v, Reads s x ∧ e = .returned (.tuple #[v, .int .i64 (if (outE s x).2 = 0 then (s.size : Int) else (outE s x).1), .int .i64 (outE s x).2]) ∧
  ((outE s x).2 = 0 → RRow w' v (shutG mkI x.st x.A x.I).1) ∧ ((outE s x).2 ≠ 0 → v = .slice none 0 0)
theorem beg_in (w : World) (s : ByteArray) (W : World) (Rb Sb : Nat) (hlow : Below w.heap.size w W) (hSb : w.heap.size ≤ Sb) (hRb : w.heap.size ≤ Rb) (hS : Bx W Sb 53 #[.slice none 0 0, .slice none 0 0])
    (hR : Rdr W Rb s 0 (.slice none 0 0) (.slice (some ⟨Sb, 0, none⟩) 1 1) 0) : RsIn w W Rb s (begG []) := by
  have hn : ∀ u, Apart (.slice none 0 0) u := fun u g hg => by simp [Value.ownBlock] at hg
  refine ⟨Sb, [], .slice none 0 0, .slice none 0 0, .slice none 0 0, [], [], 1, ⟨⟨hlow, hRb, hR, World.ownsRow_nil _ _ _ _, ⟨rfl, .inr ⟨Sb, 1, _, rfl, hSb, hS, Nat.le_refl _, by decide, rfl, rfl⟩⟩, fun p hp => ?_, ?_, fun y hy => by simp at hy, fun y hy => by simp at hy⟩, rfl, .nil⟩⟩
  · simp only [List.mem_cons, List.not_mem_nil, or_false] at hp
    rcases hp with rfl | rfl <;> exact World.ownsRow_nil _ _ _ _
  · exact List.pairwise_cons.2 ⟨fun q _ => hn _, List.pairwise_cons.2 ⟨fun q hq => by simp at hq, List.Pairwise.nil⟩⟩
set_option maxRecDepth 100000 in
set_option maxHeartbeats 8000000 in
theorem read_k (s : ByteArray) (hs : s.size ≤ 256) (w : World) : Calls Tryd.prog 9 #[.string s] w fun e w' => ReadPost w' s e ∧ Below w.heap.size w w' := by
  have hs2 : ¬ (256 : Int) < (s.size : Int) := by omega
  obtain ⟨W0, hW0⟩ : ∃ W0, W0 = w.alloc (.cells #[.slice none 0 0, .slice none 0 0] 53) := ⟨_, rfl⟩
  obtain ⟨Sb, hSb⟩ : ∃ Sb, Sb = w.heap.size := ⟨_, rfl⟩
  have hB0 : Bx W0 Sb 53 #[.slice none 0 0, .slice none 0 0] := by rw [hW0, hSb]; exact Bx.new _ _ _
  have hb0 : Below w.heap.size w W0 := by rw [hW0]; exact (Below.refl _ _).alloc (Nat.le_refl _) _
  have hRd : Rdr (W0.alloc (.cells #[.string s, .int .i64 0, .slice none 0 0, .slice (some ⟨Sb, 0, none⟩) 1 1, .int .i64 0] 56)) W0.heap.size s 0 (.slice none 0 0) (.slice (some ⟨Sb, 0, none⟩) 1 1) 0 := Bx.new W0 56 _
  have hb1 := (Below.refl W0.heap.size W0).alloc (Nat.le_refl _) (.cells #[.string s, .int .i64 0, .slice none 0 0, .slice (some ⟨Sb, 0, none⟩) 1 1, .int .i64 0] 56)
  have hin := beg_in w s _ W0.heap.size Sb (hb0.trans (hb1.mono hb0.size)) (by omega) hb0.size (hB0.below hb1 hB0.lt) hRd
  rw [show W0.heap.size = Sb + 1 by rw [hW0, hSb]; simp] at hin
  have HW0 := Lib.hid hW0
  have HSb := Lib.hid hSb
  clear hW0 hSb hRd hB0 hb1 hb0
  go_enter Tryd.func9, Tryd.ntmps9
  go_wp2_with fail
  rw [← HSb.out, ← HW0.out]
  obtain ⟨Rb, hRb⟩ : ∃ Rb, Rb = Sb + 1 := ⟨_, rfl⟩
  rw [← hRb] at hin ⊢
  clear hRb
  generalize (W0.alloc (.cells #[.string s, .int .i64 0, .slice none 0 0, .slice (some ⟨Sb, 0, none⟩) 1 1, .int .i64 0] 56)) = W1 at *
  go_loopw [14] (fun _ wr => ∃ x : Ms (List Nd) Int, RsIn w wr Rb s x ∧ Reach mkI s (begG []) x ∧ (x.e = 0 → MsOk s x))
    (fun _ wr => if numOf wr Rb 4 = 0 then s.size - (numOf wr Rb 1).toNat + 1 else 0)
  case atStart => exact ⟨begG [], hin, .refl _, fun _ => beg_ok s⟩
  case round =>
    clear hin
    obtain ⟨x, hx, hre, hok⟩ := hrel
    have HRE := Lib.hid hre
    have HOK := Lib.hid hok
    clear hre hok
    have hx0 := hx
    obtain ⟨Sb2, r, rv, av, iv, fs, rs, c, h, hnd, hfr⟩ := hx
    have hmk := more_k Rb s x.a rv (.slice (some ⟨Sb2, 0, none⟩) (fs.length + 1) c) x.e
    by_cases hm : moreV s.size x.a x.e = true
    · obtain ⟨he, hal⟩ := more_iff.1 hm
      rw [hm] at hmk
      have hst := fun W2 (h2 : RsIn w W2 Rb s x) => step_k w W2 Rb s x h2 (HOK.out he) hs he hal
      have HM := Lib.hid hm
      obtain ⟨o1, o4⟩ := numOf_at h.rd
      have HE := Lib.hid he
      have HAL := Lib.hid hal
      clear hm he hal
      go_wp2_with (first
        | (go_at_call 23; (with_reducible refine (hmk _ h.rd).mono ?_); rintro y W2 ⟨rfl, hb2⟩; have hx2 : RsIn w W2 Rb s x := ⟨Sb2, r, rv, av, iv, fs, rs, c, ⟨h.below hb2, hnd, hfr⟩⟩)
        | (go_at_call 24; (with_reducible refine (hst _ hx2).mono ?_); rintro y W3 ⟨rfl, hx3⟩))
      have hok3 : (stepG mkI s x).e = 0 → MsOk s (stepG mkI s x) := step_ok (HOK.out HE.out) hs HAL.out HE.out
      have hre3 := Reach.more HRE.out HM.out
      refine ⟨⟨stepG mkI s x, hx3, hre3, hok3⟩, ?_⟩
      obtain ⟨Sb3, r3, rv3, av3, iv3, fs3, rs3, c3, h3, _, _⟩ := hx3
      obtain ⟨q1, q4⟩ := numOf_at h3.rd
      rw [q1, q4, o1, o4, HE.out, if_pos rfl, Int.toNat_natCast, Int.toNat_natCast]
      have hlt := HAL.out
      by_cases h0 : (stepG mkI s x).e = 0
      · rw [if_pos h0]; have := step_lt mkI s x HE.out hlt h0; omega
      · rw [if_neg h0]; omega
    · have hmf : moreV s.size x.a x.e = false := Bool.eq_false_iff.2 hm
      rw [hmf] at hmk
      have HRS : Hid (Reads s x) := Lib.hid ⟨HRE.out, hmf, HOK.out⟩
      clear hm hmf
      have hlen := hfr.len
      by_cases hf : x.f = []
      · have hO : outE s x = ((x.a : Int), x.e) := if_pos hf
        have hfs : fs = [] := List.eq_nil_of_length_eq_zero (by rw [hlen, hf]; rfl)
        subst hfs
        by_cases he : x.e = 0
        · obtain ⟨hfo, hrl, hsl, hal', hfl⟩ := HOK.out he
          have hrln : r.length ≤ 9000 := by
            have : r.length = x.st.length := by rw [← hnd]; simp
            omega
          have hAl : x.A.length ≤ 9000 := by
            unfold rootsM at hrl
            simp only [List.length_append] at hrl
            omega
          rw [he] at hO
          have HO := Lib.hid hO
          have HE := Lib.hid he
          have HF := Lib.hid hf
          have HND := Lib.hid hnd
          rw [he] at h hmk
          clear hfo hrl hsl hal' hfl hO he hf hnd hlen hfr
          go_wp2_with (first
            | (go_at_call 23; (with_reducible refine (hmk _ h.rd).mono ?_); rintro y W2 ⟨rfl, hb2⟩; have h2 := h.below hb2; obtain ⟨c0, c1, c2, c3, c4⟩ := Bx.fiv h2.rd; have hp := pop_k av iv x.A x.I h2 hrln hAl (by simp))
            | (go_at_call 26; (with_reducible refine hp.mono ?_); rintro y W3 ⟨rfl, rv3, r3, h3, hr3⟩; obtain ⟨x0, x1, x2, x3, x4⟩ := Bx.fiv h3.rd))
          have hRR := h3.ro.rrow h3.ka
          rw [hr3, HND.out] at hRR
          exact bodyPost_ret (v := .tuple #[rv3, .int .i64 s.size, .int .i64 0]) (by simp [results, Tryd.results9, go_sem]) rfl ⟨⟨x, rv3, HRS.out, by rw [HO.out]; rfl, fun _ => hRR, fun hne => absurd (by rw [HO.out]) hne⟩, h3.low⟩
        · have HO := Lib.hid hO
          have HE := Lib.hid he
          clear hO hf hnd hlen hfr
          go_upto_region 9 with (first
            | (go_at_call 23; (with_reducible refine (hmk _ h.rd).mono ?_); rintro y W2 ⟨rfl, hb2⟩; have h2 := h.below hb2; obtain ⟨c0, c1, c2, c3, c4⟩ := Bx.fiv h2.rd))
          obtain ⟨e0, e1, e2, e3, e4⟩ := Bx.fiv h2.rd
          have f1 := AX.cell_all e1 h2.rd.lt
          have f4 := AX.cell_all e4 h2.rd.lt
          refine AX.region_below (by kernel_rfl) (by kernel_rfl) ?_
          repeat (go_big_quiet_step (fail))
          refine wpQuiet_nil ?_
          rintro W4 ⟨p, rfl⟩
          obtain ⟨W4, hb4⟩ := p
          change Below _ _ _ at hb4
          have h4 := h2.below hb4
          go_wp2_with fail
          exact bodyPost_ret (v := .tuple #[.slice none 0 0, .int .i64 x.a, .int .i64 x.e]) (by simp [results, Tryd.results9, go_sem]) rfl ⟨⟨x, .slice none 0 0, HRS.out, by rw [HO.out]; simp only [if_neg HE.out], fun h0 => absurd (by rw [HO.out] at h0; exact h0) HE.out, fun _ => rfl⟩, h4.low⟩
      · have hO : outE s x = failV ((x.a : Int), x.e) s.size 8 := if_neg hf
        have hfs : 1 ≤ fs.length := by
          rw [hlen]
          cases hx : x.f with
          | nil => exact absurd hx hf
          | cons _ _ => simp
        have hfs1 : (1 : Int) < (fs.length : Int) + 1 := by omega
        have hfv := fail_k Rb s x.a rv (.slice (some ⟨Sb2, 0, none⟩) (fs.length + 1) c) x.e s.size 8
        obtain ⟨a2, ha2⟩ : ∃ a2, a2 = (failV ((x.a : Int), x.e) s.size 8).1 := ⟨_, rfl⟩
        obtain ⟨e2', he2⟩ : ∃ e2', e2' = (failV ((x.a : Int), x.e) s.size 8).2 := ⟨_, rfl⟩
        have hne : e2' ≠ 0 := by
          rw [he2]
          unfold failV
          by_cases h0 : x.e = 0
          · simp [h0]
          · simp [h0]
        rw [← ha2, ← he2] at hfv
        have HO : Hid (outE s x = (a2, e2')) := Lib.hid (by rw [hO, ha2, he2])
        have HE := Lib.hid hne
        clear hO hf hnd hlen hfr ha2 he2 hne
        go_upto_region 9 with (first
          | (go_at_call 23; (with_reducible refine (hmk _ h.rd).mono ?_); rintro y W2 ⟨rfl, hb2⟩; have h2 := h.below hb2; obtain ⟨c0, c1, c2, c3, c4⟩ := Bx.fiv h2.rd)
          | (go_at_call 25; (with_reducible refine (hfv _ h2.rd).mono ?_); rintro y W3 ⟨rfl, hR3, hb3⟩; have h3 := h2.box hb3 hR3; obtain ⟨x0, x1, x2, x3, x4⟩ := Bx.fiv h3.rd; have hne2 := HE.out))
        obtain ⟨e0, e1, e2, e3, e4⟩ := Bx.fiv h3.rd
        have f1 := AX.cell_all e1 h3.rd.lt
        have f4 := AX.cell_all e4 h3.rd.lt
        refine AX.region_below (by kernel_rfl) (by kernel_rfl) ?_
        repeat (go_big_quiet_step (fail))
        refine wpQuiet_nil ?_
        rintro W4 ⟨p, rfl⟩
        obtain ⟨W4, hb4⟩ := p
        change Below _ _ _ at hb4
        have h4 := h3.below hb4
        go_wp2_with fail
        exact bodyPost_ret (v := .tuple #[.slice none 0 0, .int .i64 a2, .int .i64 e2']) (by simp [results, Tryd.results9, go_sem]) rfl ⟨⟨x, .slice none 0 0, HRS.out, by rw [HO.out]; simp only [if_neg HE.out], fun h0 => absurd (by rw [HO.out] at h0; exact h0) HE.out, fun _ => rfl⟩, h4.low⟩
end Go.Proofs.YtpbkgegkjglibaaDoor
