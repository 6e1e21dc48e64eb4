/- Dfa: nfa.Check 20. -/
import Derived.Test.YtaadkdmbhckdeaaGreatDoorK1
import Derived.Test.YtaadkdmbhckdeaaGreatDoorT2
import Derived.Deep.Cut
namespace Go.Proofs.YtaadkdmbhckdeaaGreatDoor
open Go Go.Proofs Go.RowKit
attribute [local go_sem] Oper.semAt_some
def CRow (w : World) (a : Option Addr) (l : List Kl) : Prop := l ≠ [] → ∃ b off, a = some ⟨b, off, none⟩ ∧ b < w.heap.size ∧ ∀ j (h : j < l.length), w.cell? ⟨b, off + j * 4, none⟩ = some (.int .u64 (l[j].a : Nat)) ∧ w.cell? ⟨b, off + j * 4 + 1, none⟩ = some (.int .u64 (l[j].b : Nat)) ∧ w.cell? ⟨b, off + j * 4 + 2, none⟩ = some (.int .u64 (l[j].c : Nat)) ∧ w.cell? ⟨b, off + j * 4 + 3, none⟩ = some (.int .u64 (l[j].d : Nat))
theorem CRow.below {n : Nat} {w w' : World} {a : Option Addr} {l : List Kl} (h : CRow w a l) (hb : Below n w w') (hn : w.heap.size ≤ n) : CRow w' a l := fun h0 => by
 obtain ⟨b, off, rfl, h1, h2⟩ := h h0
 refine ⟨b, off, rfl, Nat.lt_of_lt_of_le h1 hb.size, fun j hj => ?_⟩
 obtain ⟨c0, c1, c2, c3⟩ := h2 j hj
 exact ⟨(hb.cell (p := ⟨b, off + j * 4, none⟩) (by simp only; omega)).trans c0, (hb.cell (p := ⟨b, off + j * 4 + 1, none⟩) (by simp only; omega)).trans c1, (hb.cell (p := ⟨b, off + j * 4 + 2, none⟩) (by simp only; omega)).trans c2, (hb.cell (p := ⟨b, off + j * 4 + 3, none⟩) (by simp only; omega)).trans c3⟩
def NRow (w : World) (a : Option Addr) (l : List (List Int)) : Prop := l ≠ [] → ∃ b off, a = some ⟨b, off, none⟩ ∧ b < w.heap.size ∧ ∀ j (h : j < l.length), ∃ la c, w.cell? ⟨b, off + j, none⟩ = some (.slice la l[j].length c) ∧ IRow w la l[j]
theorem NRow.below {n : Nat} {w w' : World} {a : Option Addr} {l : List (List Int)} (h : NRow w a l) (hb : Below n w w') (hn : w.heap.size ≤ n) : NRow w' a l := fun h0 => by
 obtain ⟨b, off, rfl, h1, h2⟩ := h h0
 refine ⟨b, off, rfl, Nat.lt_of_lt_of_le h1 hb.size, fun j hj => ?_⟩
 obtain ⟨la, c, c0, c1⟩ := h2 j hj
 exact ⟨la, c, (hb.cell (p := ⟨b, off + j, none⟩) (by simp only; omega)).trans c0, c1.below hb hn⟩
structure Nf where
 cl : List Kl
 nx : List (List Int)
 ru : List Int
def nfV (ac an ar : Option Addr) (nc nn nr cc cn cr : Nat) : Value := .agg #[.slice ac nc cc, .slice an nn cn, .slice ar nr cr]
structure NfAt (w : World) (N : Nf) (ac an ar : Option Addr) : Prop where
 c : CRow w ac N.cl
 n : NRow w an N.nx
 r : IRow w ar N.ru
theorem NfAt.below {n : Nat} {w w' : World} {N : Nf} {ac an ar : Option Addr} (h : NfAt w N ac an ar) (hb : Below n w w') (hn : w.heap.size ≤ n) : NfAt w' N ac an ar := ⟨h.c.below hb hn, h.n.below hb hn, h.r.below hb hn⟩
def Up (k : Int) : Int → List Int → Prop
 | _, [] => True
 | last, t :: l => last < t ∧ t < k ∧ Up k t l
structure NfOk (N : Nf) : Prop where
 one : 1 ≤ N.cl.length
 most : N.cl.length ≤ 1024
 nx : N.nx.length = N.cl.length
 ru : N.ru.length = N.cl.length
 zero : N.cl.head? = some Kl.zero
 up : ∀ l ∈ N.nx, Up N.cl.length 0 l
 rule : ∀ r ∈ N.ru, -1 ≤ r ∧ r < 16
open Classical in
noncomputable def ckN (N : Nf) : Int := if NfOk N then 0 else 2
instance : DecidableEq Kl := fun x y => decidable_of_iff (x.a = y.a ∧ x.b = y.b ∧ x.c = y.c ∧ x.d = y.d) ⟨fun ⟨h0, h1, h2, h3⟩ => Kl.ext4 h0 h1 h2 h3, fun h => by subst h; exact ⟨rfl, rfl, rfl, rfl⟩⟩
theorem kl_eq (x y : Kl) : (((x.a : Int) == (y.a : Int)) && (((x.b : Int) == (y.b : Int)) && (((x.c : Int) == (y.c : Int)) && ((x.d : Int) == (y.d : Int))))) = decide (x = y) := by
 rw [Bool.eq_iff_iff]
 simp only [Bool.and_eq_true, beq_iff_eq, decide_eq_true_eq, Int.natCast_inj]
 exact ⟨fun ⟨h0, h1, h2, h3⟩ => Kl.ext4 h0 h1 h2 h3, fun h => by subst h; exact ⟨rfl, rfl, rfl, rfl⟩⟩
theorem cells48 : Tryz.prog.cellsOf 53 = 1 := by kernel_rfl
theorem info48 : ∃ i, Tryz.prog.info? 53 = some i := Option.isSome_iff_exists.1 (by kernel_rfl)
theorem part48 (x0 x1 x2 x3 : Value) (w : World) : (part 53 #[x0, x1, x2, x3] 0).run Tryz.prog w = .ok x0 w ∧ (part 53 #[x0, x1, x2, x3] 1).run Tryz.prog w = .ok x1 w ∧ (part 53 #[x0, x1, x2, x3] 2).run Tryz.prog w = .ok x2 w ∧ (part 53 #[x0, x1, x2, x3] 3).run Tryz.prog w = .ok x3 w :=
 ⟨by kernel_rfl, by kernel_rfl, by kernel_rfl, by kernel_rfl⟩
theorem eq50 (x y : Kl) (w : World) : (Op.equalIn 10000 55 (.agg #[.int .u64 (x.a : Nat), .int .u64 (x.b : Nat), .int .u64 (x.c : Nat), .int .u64 (x.d : Nat)]) (.agg #[.int .u64 (y.a : Nat), .int .u64 (y.b : Nat), .int .u64 (y.c : Nat), .int .u64 (y.d : Nat)])).run Tryz.prog w = .ok (decide (x = y)) w := by
 obtain ⟨i, hi⟩ := info48
 rw [← kl_eq, run_equalIn_array w 9999 _ _ Tryz.underlying55 hi, cells48]
 have px := part48 (.int .u64 (x.a : Nat)) (.int .u64 (x.b : Nat)) (.int .u64 (x.c : Nat)) (.int .u64 (x.d : Nat)) w
 have py := part48 (.int .u64 (y.a : Nat)) (.int .u64 (y.b : Nat)) (.int .u64 (y.c : Nat)) (.int .u64 (y.d : Nat)) w
 obtain ⟨p0, p1, p2, p3⟩ := px
 obtain ⟨q0, q1, q2, q3⟩ := py
 have hr : List.range 4 = [0, 1, 2, 3] := rfl
 have he : ∀ a b : Int, (Op.equalIn 9999 53 (.int .u64 a) (.int .u64 b)).run Tryz.prog w = .ok (a == b) w := fun a b => run_equalIn_int w 9998 53 .u64 .u64 a b Tryz.underlying53
 rw [hr]
 cases h0 : ((x.a : Int) == (y.a : Int)) <;> cases h1 : ((x.b : Int) == (y.b : Int)) <;> cases h2 : ((x.c : Int) == (y.c : Int)) <;> cases h3 : ((x.d : Int) == (y.d : Int)) <;>
  simp only [Op.eqItems, Sem.run_bind, Nat.zero_mul, Nat.one_mul, Nat.mul_one, p0, p1, p2, p3, q0, q1, q2, q3, Result.andThen_ok, he, h0, h1, h2, h3, Bool.not_false, Bool.not_true, if_true, if_false, Bool.false_eq_true, Sem.run_pure, Bool.and_true, Bool.and_false, Bool.true_and, Bool.false_and]
theorem neq_zero (x : Kl) (w : World) : (Op.equalIn 10000 55 (.agg #[.int .u64 (x.a : Nat), .int .u64 (x.b : Nat), .int .u64 (x.c : Nat), .int .u64 (x.d : Nat)]) (.agg #[.int .u64 0, .int .u64 0, .int .u64 0, .int .u64 0])).run Tryz.prog w = .ok x.isZ w := by
 refine (eq50 x Kl.zero w).trans ?_
 congr 1
 rw [Bool.eq_iff_iff, Kl.isZ_iff]
 simp
theorem up_snoc {k last : Int} : ∀ {l : List Int} {t : Int}, Up k last (l ++ [t]) ↔ Up k last l ∧ (l.getLastD last) < t ∧ t < k
 | [], t => by simp [Up]
 | x :: l, t => by
  simp only [List.cons_append, Up]
  rw [up_snoc (last := x)]
  cases l with
  | nil => simp [and_assoc]
  | cons y l => simp [and_assoc, List.getLastD]
theorem up_take {k last : Int} {l : List Int} (h : Up k last l) : ∀ j, Up k last (l.take j) := by
 intro j
 induction l generalizing last j with
 | nil => simp [Up]
 | cons x l ih =>
  cases j with
  | zero => simp [Up]
  | succ j => exact ⟨h.1, h.2.1, ih h.2.2 j⟩
theorem up_len {k : Int} : ∀ {l : List Int} {last : Int}, Up k last l → l = [] ∨ last + l.length < k
 | [], _, _ => .inl rfl
 | x :: l, last, h => by
  obtain ⟨h1, h2, h3⟩ := h
  rcases up_len h3 with rfl | h4
  · right; simp; omega
  · right; simp only [List.length_cons]; omega
set_option maxRecDepth 100000 in
set_option maxHeartbeats 4000000 in
theorem ncheck_k (N : Nf) (ac an ar : Option Addr) (cc cn cr : Nat) (w : World) (h : NfAt w N ac an ar) :
  Calls Tryz.prog 23 #[nfV ac an ar N.cl.length N.nx.length N.ru.length cc cn cr] w fun e w' => e = .returned (.int .i64 (ckN N)) ∧ Below w.heap.size w w' := by
 unfold nfV
 obtain ⟨n, hn⟩ : ∃ n, n = N.cl.length := ⟨_, rfl⟩
 obtain ⟨m, hm⟩ : ∃ m, m = N.nx.length := ⟨_, rfl⟩
 obtain ⟨r, hr⟩ : ∃ r, r = N.ru.length := ⟨_, rfl⟩
 rw [← hn, ← hm, ← hr]
 by_cases hbad : n < 1 ∨ 1024 < n ∨ m ≠ n ∨ r ≠ n
 · have hc : ckN N = 2 := if_neg (fun o => by have := o.one; have := o.most; have := o.nx; have := o.ru; omega)
   rw [hc]
   clear hc hn hm hr h
   by_cases h1 : n < 1
   · have : (n : Int) < 1 := by omega
     go_enter Tryz.func23, Tryz.ntmps23
     go_wp2
     exact bodyPost_ret (v := .int .i64 2) (by simp [results, Tryz.results23, go_sem]) rfl ⟨rfl, (Below.refl _ w).alloc (Nat.le_refl _) _⟩
   by_cases h2 : 1024 < n
   · have : ¬ (n : Int) < 1 := by omega
     have : (1024 : Int) < (n : Int) := by omega
     go_enter Tryz.func23, Tryz.ntmps23
     go_wp2
     exact bodyPost_ret (v := .int .i64 2) (by simp [results, Tryz.results23, go_sem]) rfl ⟨rfl, (Below.refl _ w).alloc (Nat.le_refl _) _⟩
   have g1 : ¬ (n : Int) < 1 := by omega
   have g2 : ¬ (1024 : Int) < (n : Int) := by omega
   by_cases h3 : m = n
   · have h4 : ((r : Int) != (n : Int)) = true := by simp; omega
     subst h3
     go_enter Tryz.func23, Tryz.ntmps23
     go_wp2
     exact bodyPost_ret (v := .int .i64 2) (by simp [results, Tryz.results23, go_sem]) rfl ⟨rfl, (Below.refl _ w).alloc (Nat.le_refl _) _⟩
   · have h4 : ((m : Int) != (n : Int)) = true := by simp; omega
     go_enter Tryz.func23, Tryz.ntmps23
     go_wp2
     exact bodyPost_ret (v := .int .i64 2) (by simp [results, Tryz.results23, go_sem]) rfl ⟨rfl, (Below.refl _ w).alloc (Nat.le_refl _) _⟩
 · have hm1 : n = m := by omega
   have hr1 : n = r := by omega
   have hn1 : 1 ≤ n := by omega
   have hn2 : n ≤ 1024 := by omega
   clear hbad
   obtain ⟨x, hx⟩ : ∃ x, N.cl[0]? = some x := ⟨_, List.getElem?_eq_getElem (by omega)⟩
   have hcne : N.cl ≠ [] := fun e => by rw [e] at hx; cases hx
   have hnne : N.nx ≠ [] := fun e => by rw [e] at hm; simp at hm; omega
   have hrne : N.ru ≠ [] := fun e => by rw [e] at hr; simp at hr; omega
   obtain ⟨Bc, oc, rfl, hBc, hC⟩ := h.c hcne
   obtain ⟨Bn, on, rfl, hBn, hN⟩ := h.n hnne
   obtain ⟨Br, or', rfl, hBr, hR⟩ := h.r hrne
   have hx0 : N.cl[0]'(by omega) = x := by
    have := List.getElem?_eq_getElem (l := N.cl) (i := 0) (by omega)
    rw [hx] at this
    exact (Option.some.inj this).symm
   obtain ⟨c0, c1, c2, c3⟩ := hC 0 (by omega)
   rw [hx0] at c0 c1 c2 c3
   simp only [Nat.zero_mul, Nat.add_zero] at c0 c1 c2 c3
   have hhead : N.cl.head? = some x := by rw [List.head?_eq_getElem?]; exact hx
   have hb0 : Below w.heap.size w (w.alloc (.cells #[.slice (some ⟨Bc, oc, none⟩) n cc, .slice (some ⟨Bn, on, none⟩) n cn, .slice (some ⟨Br, or', none⟩) n cr] 26)) := (Below.refl _ w).alloc (Nat.le_refl _) _
   have d0 := (hb0.cell (p := ⟨Bc, oc, none⟩) hBc).trans c0
   have d1 := (hb0.cell (p := ⟨Bc, oc + 1, none⟩) hBc).trans c1
   have d2 := (hb0.cell (p := ⟨Bc, oc + 2, none⟩) hBc).trans c2
   have d3 := (hb0.cell (p := ⟨Bc, oc + 3, none⟩) hBc).trans c3
   have he := fun w => neq_zero x w
   obtain ⟨z, hz⟩ : ∃ z, z = x.isZ := ⟨_, rfl⟩
   rw [← hz] at he
   have g1 : ¬ (n : Int) < 1 := by omega
   have g2 : ¬ (1024 : Int) < (n : Int) := by omega
   have g3 : (0 : Int) < (n : Int) := by omega
   have HN := Lib.hid hn
   have HM := Lib.hid hm
   have HRl := Lib.hid hr
   have HH := Lib.hid hhead
   have HZ := Lib.hid hz
   subst hm1
   subst hr1
   clear c0 c1 c2 c3 hC hx hx0 hhead hcne hnne hrne hn hm hr hz h
   cases z with
   | false =>
    have hc : ckN N = 2 := if_neg (fun o => by
     have := o.zero
     rw [HH.out] at this
     have e : x = Kl.zero := Option.some.inj this
     have h1 := (Kl.isZ_iff x).2 e
     rw [← HZ.out] at h1
     cases h1)
    rw [hc]
    clear hc
    go_enter Tryz.func23, Tryz.ntmps23
    go_wp2
    exact bodyPost_ret (v := .int .i64 2) (by simp [results, Tryz.results23, go_sem]) rfl ⟨rfl, hb0⟩
   | true =>
    have hz0 : N.cl.head? = some Kl.zero := by rw [HH.out, (Kl.isZ_iff x).1 HZ.out.symm]
    have HZ0 := Lib.hid hz0
    clear hz0 HZ HH
    go_enter Tryz.func23, Tryz.ntmps23
    go_upto_region 4 with (fail)
    obtain ⟨wo, hwo⟩ : ∃ wo, wo = w.alloc (.cells #[.slice (some ⟨Bc, oc, none⟩) n cc, .slice (some ⟨Bn, on, none⟩) n cn, .slice (some ⟨Br, or', none⟩) n cr] 26) := ⟨_, rfl⟩
    rw [← hwo] at hb0 ⊢
    obtain ⟨U, hU⟩ : ∃ U, U = w.heap.size := ⟨_, rfl⟩
    have u1 : wo.cell? ⟨U, 1, none⟩ = some (.slice (some ⟨Bn, on, none⟩) n cn) := by rw [hwo, hU]; simp
    have u2 : wo.cell? ⟨U, 2, none⟩ = some (.slice (some ⟨Br, or', none⟩) n cr) := by rw [hwo, hU]; simp
    rw [← hU]
    have hB : Hid (Below w.heap.size w wo) := Lib.hid hb0
    have hNw : ∀ (j : Nat) (l : List Int), N.nx[j]? = some l → ∃ la c, wo.cell? ⟨Bn, on + j, none⟩ = some (.slice la l.length c) ∧ IRow wo la l := fun j l hl => by
     obtain ⟨hj, rfl⟩ := List.getElem?_eq_some_iff.1 hl
     obtain ⟨la, c, e1, e2⟩ := hN j hj
     exact ⟨la, c, (hb0.cell (p := ⟨Bn, on + j, none⟩) hBn).trans e1, e2.below hb0 (Nat.le_refl _)⟩
    have hRw : ∀ (j : Nat) (q : Int), N.ru[j]? = some q → wo.cell? ⟨Br, or' + j, none⟩ = some (.int .i64 q) := fun j q hl => by
     obtain ⟨hj, rfl⟩ := List.getElem?_eq_some_iff.1 hl
     exact (hb0.cell (p := ⟨Br, or' + j, none⟩) hBr).trans (hR j hj)
    clear hb0 d0 d1 d2 d3 hN hR he hU hwo
    have HNw := Lib.hid hNw
    have HRw := Lib.hid hRw
    clear hNw hRw
    go_wp2_with fail
    go_loopw [43] (fun i wr => ∃ k : Nat, k ≤ n ∧ i = .int .i64 k ∧ Hid (∀ j, j < k → (∀ l, N.nx[j]? = some l → Up n 0 l) ∧ ∀ q, N.ru[j]? = some q → -1 ≤ q ∧ q < 16) ∧ wr = wo)
     (fun i _ => n - (intOf i).toNat)
    case atStart => exact ⟨0, Nat.zero_le _, rfl, Lib.hid (fun j hj => absurd hj (Nat.not_lt_zero _)), rfl⟩
    case round =>
     obtain ⟨k, hk, rfl, HK, rfl⟩ := hrel
     by_cases hkl : k < n
     · obtain ⟨l, hl⟩ : ∃ l, N.nx[k]? = some l := ⟨_, List.getElem?_eq_getElem (by rw [← HM.out]; exact hkl)⟩
       obtain ⟨q, hq⟩ : ∃ q, N.ru[k]? = some q := ⟨_, List.getElem?_eq_getElem (by rw [← HRl.out]; exact hkl)⟩
       obtain ⟨la, c, e1, e2⟩ := HNw.out k l hl
       have e3 := HRw.out k q hq
       have HL := Lib.hid hl
       have HQ := Lib.hid hq
       have hk0 : (0 : Int) ≤ (k : Int) := by omega
       have hk1 : (k : Int) < (n : Int) := by omega
       have hkt : (k : Int).toNat = k := by omega
       clear hl hq
       go_wp2_with fail
       obtain ⟨wp, hwp⟩ : ∃ wp, wp = wr := ⟨_, rfl⟩
       have HWP := Lib.hid hwp
       clear hwp
       go_loopw [6, 50] (fun t6 t50 wx => ∃ j : Nat, j ≤ l.length ∧ t50 = .int .i64 j ∧ t6 = .int .i64 ((l.take j).getLastD 0) ∧ Hid (Up n 0 (l.take j)) ∧ wx = wp)
        (fun _ t50 _ => l.length - (intOf t50).toNat)
       case atStart => exact ⟨0, Nat.zero_le _, rfl, rfl, Lib.hid trivial, HWP.out.symm⟩
       case round =>
        obtain ⟨j, hj, rfl, rfl, HU, rfl⟩ := hrel
        have ew : wr = _ := HWP.out
        subst ew
        have hj1024 : j ≤ 1024 := by
         have e : (l.take j).length = j := by rw [List.length_take]; omega
         rcases up_len HU.out with h | h
         · rw [h] at e
           have e : 0 = j := e
           omega
         · rw [e] at h
           omega
        by_cases hjl : j < l.length
        · obtain ⟨Bl, ol, rfl, hBl, hLc⟩ := e2 (by intro e; rw [e] at hjl; simp at hjl)
          have d0 := hLc j hjl
          obtain ⟨t, ht⟩ : ∃ t, t = l[j] := ⟨_, rfl⟩
          rw [← ht] at d0
          have HTJ : Hid (l.take (j + 1) = l.take j ++ [t]) := Lib.hid (by rw [List.take_succ_eq_append_getElem hjl, ht])
          have hj0 : (0 : Int) ≤ (j : Int) := by omega
          have hj1 : (j : Int) < (l.length : Int) := by omega
          have hjt : (j : Int).toNat = j := by omega
          obtain ⟨la', hla'⟩ : ∃ x, x = (l.take j).getLastD 0 := ⟨_, rfl⟩
          rw [← hla']
          have HLA := Lib.hid hla'
          clear ht hLc hla'
          by_cases hbad : t ≤ la' ∨ (n : Int) ≤ t
          · have hc : ckN N = 2 := if_neg (fun o => by
             have h1 := o.up l (List.mem_of_getElem? HL.out)
             rw [← HN.out] at h1
             have h2 := up_take h1 (j + 1)
             rw [HTJ.out, up_snoc, ← HLA.out] at h2
             omega)
            have HC := Lib.hid hc
            have HB2 := hB.out
            clear hc
            by_cases hb1 : t ≤ la'
            · go_wp2_with fail
              exact bodyPost_ret (v := .int .i64 2) (by simp [results, Tryz.results23, go_sem]) rfl ⟨by rw [HC.out], HB2⟩
            · have hb2 : (n : Int) ≤ t := by omega
              go_wp2_with fail
              exact bodyPost_ret (v := .int .i64 2) (by simp [results, Tryz.results23, go_sem]) rfl ⟨by rw [HC.out], HB2⟩
          · have hb1 : ¬ t ≤ la' := by omega
            have hb2 : ¬ (n : Int) ≤ t := by omega
            have HU2 : Hid (Up n 0 (l.take (j + 1))) := Lib.hid (by
             rw [HTJ.out, up_snoc, ← HLA.out]
             exact ⟨HU.out, by omega, by omega⟩)
            have HG : Hid ((l.take (j + 1)).getLastD 0 = t) := Lib.hid (by rw [HTJ.out]; simp)
            clear hbad
            go_wp2_with fail
            exact ⟨⟨j + 1, by omega, by simp, by rw [HG.out], HU2, trivial⟩, by simp [intOf]; omega⟩
        · obtain rfl : j = l.length := by omega
          rw [List.take_length] at HU
          have hl1 : ¬ (l.length : Int) < (l.length : Int) := by omega
          have hbl : ∀ a : Int, a < -1 → (a < -1) = True := fun a h => by simp [h]
          by_cases hbad : q < -1 ∨ 16 ≤ q
          · have hc : ckN N = 2 := if_neg (fun o => by
             have h1 := o.rule q (List.mem_of_getElem? HQ.out)
             omega)
            have HC := Lib.hid hc
            have HB2 := hB.out
            clear hc
            by_cases hb1 : q < -1
            · go_wp2_with fail
              exact bodyPost_ret (v := .int .i64 2) (by simp [results, Tryz.results23, go_sem]) rfl ⟨by rw [HC.out], HB2⟩
            · have hb2 : 16 ≤ q := by omega
              go_wp2_with fail
              exact bodyPost_ret (v := .int .i64 2) (by simp [results, Tryz.results23, go_sem]) rfl ⟨by rw [HC.out], HB2⟩
          · have hb1 : ¬ q < -1 := by omega
            have hb2 : ¬ 16 ≤ q := by omega
            have HK2 : Hid (∀ j, j < k + 1 → (∀ l, N.nx[j]? = some l → Up n 0 l) ∧ ∀ q, N.ru[j]? = some q → -1 ≤ q ∧ q < 16) := Lib.hid (fun j hj => by
             by_cases hjk : j < k
             · exact HK.out j hjk
             · obtain rfl : j = k := by omega
               refine ⟨fun l' hl' => ?_, fun q' hq' => ?_⟩
               · rw [HL.out] at hl'
                 cases hl'
                 exact HU.out
               · rw [HQ.out] at hq'
                 cases hq'
                 exact ⟨by omega, by omega⟩)
            clear hbad hbl
            go_wp2_with fail
            exact ⟨⟨k + 1, by omega, by simp, HK2, trivial⟩, by simp [intOf]; omega⟩
     · obtain rfl : k = n := by omega
       have hc : ckN N = 0 := if_pos ⟨by rw [← HN.out]; exact hn1, by rw [← HN.out]; exact hn2, by rw [← HN.out, ← HM.out], by rw [← HN.out, ← HRl.out], HZ0.out, fun l hl => by
        obtain ⟨j, hj, rfl⟩ := List.getElem_of_mem hl
        rw [← HN.out]
        exact (HK.out j (by rw [HM.out]; exact hj)).1 _ (List.getElem?_eq_getElem hj), fun q hq => by
        obtain ⟨j, hj, rfl⟩ := List.getElem_of_mem hq
        exact (HK.out j (by rw [HRl.out]; exact hj)).2 _ (List.getElem?_eq_getElem hj)⟩
       have HC := Lib.hid hc
       have HB2 := hB.out
       clear hc
       go_wp2_with fail
       exact bodyPost_ret (v := .int .i64 0) (by simp [results, Tryz.results23, go_sem]) rfl ⟨by rw [HC.out], HB2⟩
end Go.Proofs.YtaadkdmbhckdeaaGreatDoor
