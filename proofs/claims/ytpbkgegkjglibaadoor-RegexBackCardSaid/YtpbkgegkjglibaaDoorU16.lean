/- Regex: the text of an expression is read as its tree: the induction. -/
import Derived.Test.YtpbkgegkjglibaaDoorU11
import Derived.Test.YtpbkgegkjglibaaDoorQ2
import Derived.Test.YtpbkgegkjglibaaDoorR10
import Derived.Test.YtpbkgegkjglibaaDoorQ6
import Derived.Test.YtpbkgegkjglibaaDoorQ3
namespace Go.Proofs.YtpbkgegkjglibaaDoor
open Go
/-- A text stands at a place. -/
def At (u : ByteArray) (d : Nat) (t : List UInt8) : Prop := d + t.length ≤ u.size ∧ ∀ j (h : j < t.length), byteI u (d + j) = (t[j].toNat : Int)
theorem At.left {u : ByteArray} {d : Nat} {a b : List UInt8} (h : At u d (a ++ b)) : At u d a :=
  ⟨by have := h.1; rw [List.length_append] at this; omega, fun j hj => by
    have := h.2 j (by rw [List.length_append]; omega)
    rw [this, List.getElem_append_left hj]⟩
theorem At.right {u : ByteArray} {d : Nat} {a b : List UInt8} (h : At u d (a ++ b)) : At u (d + a.length) b :=
  ⟨by have := h.1; rw [List.length_append] at this; omega, fun j hj => by
    have := h.2 (a.length + j) (by rw [List.length_append]; omega)
    rw [Nat.add_assoc, this, List.getElem_append_right (by omega)]
    congr 2
    simp⟩
theorem At.head {u : ByteArray} {d : Nat} {c : UInt8} {t : List UInt8} (h : At u d (c :: t)) : byteI u d = (c.toNat : Int) ∧ d < u.size :=
  ⟨h.2 0 (by simp), by have := h.1; simp at this; omega⟩
theorem At.tail {u : ByteArray} {d : Nat} {c : UInt8} {t : List UInt8} (h : At u d (c :: t)) : At u (d + 1) t := At.right (a := [c]) h
theorem hex_hexd (n : Nat) (h : n < 16) : hexV ((hexd n).toNat : Int) = (n : Int) := by
  have : ∀ n : Fin 16, hexV ((hexd n.val).toNat : Int) = (n.val : Int) := by decide +kernel
  exact this ⟨n, h⟩
theorem wrap_hex (b : Nat) (h : b < 256) : IntKind.u8.wrap (16 * ((b / 16 : Nat) : Int) + ((b % 16 : Nat) : Int)) = (b : Int) := by
  have : ∀ n : Fin 256, IntKind.u8.wrap (16 * ((n.val / 16 : Nat) : Int) + ((n.val % 16 : Nat) : Int)) = (n.val : Int) := by decide +kernel
  exact this ⟨b, h⟩
theorem letter_facts (b : UInt8) (h : letterV (b.toNat : Int) = true) : b.toNat ≠ 92 ∧ b.toNat ≠ 93 ∧ b.toNat ≠ 94 ∧ b.toNat ≠ 45 ∧ b.toNat ≠ 124 ∧ b.toNat ≠ 40 ∧ b.toNat ≠ 41 ∧ b.toNat ≠ 42 ∧ b.toNat ≠ 43 ∧ b.toNat ≠ 63 ∧ b.toNat ≠ 91 ∧ b.toNat ≠ 46 := by
  unfold letterV at h
  simp only [Bool.or_eq_true, Bool.and_eq_true, decide_eq_true_eq] at h
  omega
theorem toldU_letter (b : UInt8) (h : letterV (b.toNat : Int) = true) : toldU b = [b] := by
  unfold toldU toldV
  rw [if_pos h]
  simp
theorem toldU_not (b : UInt8) (h : letterV (b.toNat : Int) = false) : toldU b = [92, 120, hexd (b.toNat / 16), hexd (b.toNat % 16)] := by
  unfold toldU toldV
  rw [if_neg (by rw [h]; decide)]
theorem toldU_pos (b : UInt8) : 1 ≤ (toldU b).length := by
  cases h : letterV (b.toNat : Int) with
  | true => rw [toldU_letter b h]; simp
  | false => rw [toldU_not b h]; simp
/-- The first byte of what a byte is told as. -/
theorem toldU_head (u : ByteArray) (d : Nat) (b : UInt8) (h : At u d (toldU b)) : byteI u d ≠ 45 ∧ byteI u d ≠ 93 ∧ byteI u d ≠ 94 ∧ d < u.size := by
  cases hl : letterV (b.toNat : Int) with
  | true =>
    rw [toldU_letter b hl] at h
    have := letter_facts b hl
    rw [h.head.1]
    exact ⟨by omega, by omega, by omega, h.head.2⟩
  | false =>
    rw [toldU_not b hl] at h
    rw [h.head.1]
    exact ⟨by decide, by decide, by decide, h.head.2⟩
theorem one_told (u : ByteArray) (d : Nat) (b : UInt8) (h : At u d (toldU b)) : oneV u d 0 = ((b.toNat : Int), ((d + (toldU b).length : Nat) : Int), 0) := by
  cases hl : letterV (b.toNat : Int) with
  | true =>
    rw [toldU_letter b hl] at h ⊢
    have hf := letter_facts b hl
    unfold oneV
    rw [h.head.1, if_neg (by omega)]
    rfl
  | false =>
    rw [toldU_not b hl] at h ⊢
    have h0 := h.head
    have h1 := h.tail.head
    have h2 := h.tail.tail.head
    have h3 := h.tail.tail.tail.head
    have hm : moreV u.size ((d + 1 : Nat) : Int) 0 = true := more_iff.2 ⟨rfl, by omega⟩
    have b1 : byteI u (d + 1) = 120 := h1.1
    have x2 : hx u (d + 1 + 1) = ((b.toNat / 16 : Nat) : Int) := by unfold hx; rw [h2.1]; exact hex_hexd _ (by have := UInt8.toNat_lt b; omega)
    have x3 : hx u (d + 1 + 2) = ((b.toNat % 16 : Nat) : Int) := by unfold hx; rw [show d + 1 + 2 = d + 1 + 1 + 1 from rfl, h3.1]; exact hex_hexd _ (Nat.mod_lt _ (by decide))
    unfold oneV
    rw [h0.1, if_pos (by decide)]
    unfold escapeV
    rw [if_neg (by rw [hm]; decide), if_pos b1]
    unfold digitsV
    rw [if_neg (by omega), if_neg (by rw [x2]; omega), if_neg (by omega), if_neg (by rw [x3]; omega), x2, x3, wrap_hex _ (UInt8.toNat_lt b)]
    congr 2
/-- A byte alone. -/
theorem pair_one (u : ByteArray) (d : Nat) (b : UInt8) (h : At u d (toldU b)) (hn : d + (toldU b).length + 1 < u.size → byteI u (d + (toldU b).length) ≠ 45) : clsPair u d = (b.toNat, b.toNat, d + (toldU b).length, 0) := by
  unfold clsPair
  rw [one_told u d b h]
  simp only [Int.toNat_natCast]
  rw [if_neg (by rintro ⟨_, h1, h2, _⟩; exact hn h1 h2)]
/-- From a byte on up to another. -/
theorem pair_two (u : ByteArray) (d : Nat) (b c : UInt8) (h : At u d (toldU b ++ (45 :: toldU c))) (hbc : b.toNat ≤ c.toNat) : clsPair u d = (b.toNat, c.toNat, d + (toldU b).length + 1 + (toldU c).length, 0) := by
  have h1 := h.right.head
  have h2 := toldU_head u _ c h.right.tail
  unfold clsPair
  rw [one_told u d b h.left]
  simp only [Int.toNat_natCast]
  rw [if_pos ⟨trivial, h2.2.2.2, h1.1, h2.2.1⟩, one_told u _ c h.right.tail]
  simp only [Int.toNat_natCast]
  rw [if_neg (by omega)]
theorem clsL_step (u : ByteArray) (n d lo hi d' : Nat) (W : C4) (hd : d < u.size) (h93 : byteI u d ≠ 93) (hp : clsPair u d = (lo, hi, d', 0)) : clsL u (n + 1) d 0 W = clsL u n d' 0 (W.or (.ofL (rng lo hi))) := by
  conv => lhs; unfold clsL
  rw [if_pos ⟨more_iff.2 ⟨rfl, hd⟩, h93⟩, hp]
theorem ofL_app (l m : List Nat) : C4.ofL (l ++ m) = (C4.ofL l).or (C4.ofL m) := by
  unfold C4.ofL C4.or
  rw [cw_append, cw_append, cw_append, cw_append]
/-- Bytes that rise. -/
def Rise (l : List UInt8) : Prop := l.Pairwise (fun a b => a.toNat < b.toNat)
theorem rl_run : ∀ l : List UInt8, Rise l → (l.take (rl l)).map UInt8.toNat = List.range' (l.getD 0 0).toNat (rl l)
  | [], _ => rfl
  | [a], _ => by simp [rl]
  | a :: b :: t, h => by
    have h' : Rise (b :: t) := List.Pairwise.of_cons h
    have hab : a.toNat < b.toNat := (List.pairwise_cons.1 h).1 b (List.mem_cons_self ..)
    have ih := rl_run (b :: t) h'
    unfold rl
    by_cases e : b = a + 1
    · rw [if_pos e]
      have hb : b.toNat = a.toNat + 1 := by
        have := congrArg UInt8.toNat e
        rw [UInt8.toNat_add] at this
        have h1 : (1 : UInt8).toNat = 1 := rfl
        rw [h1] at this
        omega
      rw [Nat.add_comm 1, List.take_succ_cons, List.map_cons, ih, List.range'_succ]
      simp [hb]
    · rw [if_neg e]
      simp
theorem rise_drop {l : List UInt8} (h : Rise l) (n : Nat) : Rise (l.drop n) := List.Pairwise.drop h
theorem run_rng (l : List UInt8) (h : Rise l) (hl : l ≠ []) : rng (l.getD 0 0).toNat (l.getD (rl l - 1) 0).toNat = (l.take (rl l)).map UInt8.toNat := by
  have hp := rl_pos l hl
  have hr := rl_run l h
  have hlast : (l.getD (rl l - 1) 0).toNat = (l.getD 0 0).toNat + (rl l - 1) := by
    have this : ((l.take (rl l)).map UInt8.toNat)[rl l - 1]? = (List.range' (l.getD 0 0).toNat (rl l))[rl l - 1]? := by rw [hr]
    rw [List.getElem?_map, List.getElem?_take, if_pos (by omega), List.getElem?_eq_getElem (by omega), List.getElem?_range' (by omega)] at this
    simp only [Option.map_some, Option.some.injEq] at this
    rw [getD_at l _ (by omega), this]
    omega
  rw [hr, hlast]
  unfold rng
  congr 1
  omega
/-- What comes ahead of a class's other bytes. -/
theorem ctx_head (u : ByteArray) (d : Nat) (l : List UInt8) (h : At u d (ctx l.length l ++ [93])) : byteI u d ≠ 45 ∧ byteI u d ≠ 94 ∧ d < u.size := by
  by_cases hl : l = []
  · subst hl
    have := At.head (c := 93) (t := []) h
    exact ⟨by rw [this.1]; decide, by rw [this.1]; decide, this.2⟩
  · rw [ctx_step l hl] at h
    have := toldU_head u d _ (h.left.left.left)
    exact ⟨this.1, this.2.2.1, this.2.2.2⟩
theorem run_all (l : List UInt8) (hr : Rise l) (hl : l ≠ []) (L : List Nat) : (L ++ rng (l.getD 0 0).toNat (l.getD (rl l - 1) 0).toNat) ++ (l.drop (rl l)).map UInt8.toNat = L ++ l.map UInt8.toNat := by
  rw [run_rng l hr hl, List.append_assoc, ← List.map_append, List.take_append_drop]
theorem cls_loop : ∀ (m : Nat) (l : List UInt8), l.length ≤ m → Rise l → ∀ (u : ByteArray) (d : Nat), At u d (ctx l.length l ++ [93]) → ∀ n, u.size - d ≤ n → ∀ L, clsL u n d 0 (.ofL L) = (d + (ctx l.length l).length, 0, .ofL (L ++ l.map UInt8.toNat)) := by
  intro m
  induction m with
  | zero =>
    intro l hl _ u d h n hn L
    obtain rfl : l = [] := List.eq_nil_of_length_eq_zero (by omega)
    have h0 := At.head (c := 93) (t := []) h
    cases n with
    | zero => simp [clsL, ctx]
    | succ n =>
      unfold clsL
      rw [if_neg (by rintro ⟨_, h⟩; exact h (by rw [h0.1]; rfl))]
      simp [ctx]
  | succ m ih =>
    intro l hl hr u d h n hn L
    by_cases hne : l = []
    · subst hne
      have h0 := At.head (c := 93) (t := []) h
      cases n with
      | zero => simp [clsL, ctx]
      | succ n =>
        unfold clsL
        rw [if_neg (by rintro ⟨_, h⟩; exact h (by rw [h0.1]; rfl))]
        simp [ctx]
    · have hp := rl_pos l hne
      have hlen : (l.drop (rl l)).length ≤ m := by rw [List.length_drop]; omega
      have ihl := ih (l.drop (rl l)) hlen (rise_drop hr _)
      rw [ctx_step l hne] at h ⊢
      rw [List.append_assoc] at h
      have htail := h.right
      have hnx := ctx_head u _ _ htail
      have hpc := h.left
      have hall := run_all l hr hne L
      generalize hX : (ctx (l.drop (rl l)).length (l.drop (rl l))) = X at *
      unfold piece at hpc htail hnx ⊢
      have hb := toldU_head u d _ hpc.left
      have hpb := toldU_pos (l.getD 0 0)
      obtain ⟨n, rfl⟩ : ∃ n', n = n' + 1 := ⟨n - 1, by omega⟩
      by_cases h2 : 2 < rl l
      · rw [if_pos h2, if_pos (by omega)] at hpc htail hnx ⊢
        have hle : (l.getD 0 0).toNat ≤ (l.getD (rl l - 1) 0).toNat := by
          have := run_rng l hr hne
          by_cases hc : (l.getD 0 0).toNat ≤ (l.getD (rl l - 1) 0).toNat
          · exact hc
          · have h0 : rng (l.getD 0 0).toNat (l.getD (rl l - 1) 0).toNat = [] := by
              unfold rng
              rw [show (l.getD (rl l - 1) 0).toNat + 1 - (l.getD 0 0).toNat = 0 by omega]; rfl
            rw [h0] at this
            have hz := congrArg List.length this
            rw [List.length_nil, List.length_map, List.length_take] at hz
            omega
        rw [List.singleton_append] at hpc htail hnx ⊢
        rw [clsL_step u n d _ _ _ _ hb.2.2.2 hb.2.1 (pair_two u d _ _ hpc hle), ← ofL_app]
        have e : d + (toldU (l.getD 0 0)).length + 1 + (toldU (l.getD (rl l - 1) 0)).length = d + (toldU (l.getD 0 0) ++ 45 :: toldU (l.getD (rl l - 1) 0)).length := by rw [List.length_append, List.length_cons]; omega
        rw [e, ihl u _ htail n (by omega), hall, List.length_append (bs := X)]
        congr 1
        omega
      · rw [if_neg h2, List.nil_append] at hpc htail hnx ⊢
        by_cases h1 : 1 < rl l
        · rw [if_pos h1] at hpc htail hnx ⊢
          have h2' : rl l = 2 := by omega
          have hc := toldU_head u _ _ hpc.right
          have hpc2 := toldU_pos (l.getD (rl l - 1) 0)
          obtain ⟨n, rfl⟩ : ∃ n', n = n' + 1 := ⟨n - 1, by omega⟩
          have e : d + (toldU (l.getD 0 0)).length + (toldU (l.getD (rl l - 1) 0)).length = d + (toldU (l.getD 0 0) ++ toldU (l.getD (rl l - 1) 0)).length := by rw [List.length_append]; omega
          rw [clsL_step u (n + 1) d _ _ _ _ hb.2.2.2 hb.2.1 (pair_one u d _ hpc.left (fun _ => hc.1)), ← ofL_app,
            clsL_step u n _ _ _ _ _ hc.2.2.2 hc.2.1 (pair_one u _ _ hpc.right (fun _ => by rw [e]; exact hnx.1)), ← ofL_app, e, ihl u _ htail n (by omega)]
          have hrr : (L ++ rng (l.getD 0 0).toNat (l.getD 0 0).toNat) ++ rng (l.getD (rl l - 1) 0).toNat (l.getD (rl l - 1) 0).toNat = L ++ rng (l.getD 0 0).toNat (l.getD (rl l - 1) 0).toNat := by
            have hq := rl_run l hr
            have hq2 := run_rng l hr hne
            rw [hq] at hq2
            rw [hq2, h2']
            have : (l.getD 1 0).toNat = (l.getD 0 0).toNat + 1 := by
              have h3 : ((l.take 2).map UInt8.toNat)[1]? = (List.range' (l.getD 0 0).toNat 2)[1]? := by rw [← h2', hq]
              rw [List.getElem?_map, List.getElem?_take, if_pos (by omega), List.getElem?_eq_getElem (by omega), List.getElem?_range' (by omega)] at h3
              simp only [Option.map_some, Option.some.injEq] at h3
              rw [getD_at l _ (by omega), h3]
            rw [this]
            unfold rng
            rw [show (l.getD 0 0).toNat + 1 - (l.getD 0 0).toNat = 1 by omega, show (l.getD 0 0).toNat + 1 + 1 - ((l.getD 0 0).toNat + 1) = 1 by omega, List.append_assoc]
            rfl
          rw [hrr, hall, List.length_append (bs := X)]
          congr 1
          omega
        · rw [if_neg h1, List.append_nil] at hpc htail hnx ⊢
          have h1' : rl l = 1 := by omega
          have hrr : rng (l.getD 0 0).toNat (l.getD (rl l - 1) 0).toNat = rng (l.getD 0 0).toNat (l.getD 0 0).toNat := by rw [h1']
          rw [clsL_step u n d _ _ _ _ hb.2.2.2 hb.2.1 (pair_one u d _ hpc (fun _ => hnx.1)), ← ofL_app, ihl u _ htail n (by omega), ← hrr, hall, List.length_append (bs := X)]
          congr 1
          omega
/-- The class between brackets. -/
theorem cls_read (l : List UInt8) (hr : Rise l) (u : ByteArray) (d : Nat) (h : At u d (ctx l.length l ++ [93])) : classV u d = (.ofL (l.map UInt8.toNat), d + (ctx l.length l).length + 1, 0) := by
  have h0 := ctx_head u d l h
  have h3 := h.right.head
  have hnt : (moreV u.size d 0 && (byteI u d == 94)) = false := by rw [beq_eq_false_iff_ne.2 h0.2.1, Bool.and_false]
  have hl := cls_loop l.length l (Nat.le_refl _) hr u d h (u.size - d) (Nat.le_refl _) []
  have hz : C4.ofL [] = .zero := rfl
  rw [hz] at hl
  unfold classV
  simp only [hnt, Bool.false_eq_true, if_false, hl, List.nil_append]
  rw [if_pos (more_iff.2 ⟨rfl, h3.2⟩)]
end Go.Proofs.YtpbkgegkjglibaaDoor

namespace Go.Proofs.YtpbkgegkjglibaaDoor
open Go
theorem rise_bytes (a b c d : Nat) : Rise ((bytesB a b c d).map UInt8.ofNat) ∧ ((bytesB a b c d).map UInt8.ofNat).map UInt8.toNat = bytesB a b c d := by
  have hlt : ∀ x ∈ bytesB a b c d, x < 256 := fun x hx => upB_lt hx
  have hp : (bytesB a b c d).Pairwise (· < ·) := List.Pairwise.filter _ (List.pairwise_lt_range)
  constructor
  · unfold Rise
    rw [List.pairwise_map]
    refine hp.imp_of_mem fun {x y} hx hy h => ?_
    have h1 := hlt x hx
    have h2 := hlt y hy
    rw [UInt8.toNat_ofNat', UInt8.toNat_ofNat', Nat.mod_eq_of_lt h1, Nat.mod_eq_of_lt h2]
    exact h
  · rw [List.map_map]
    refine (List.map_congr_left fun x hx => ?_).trans (List.map_id _)
    have h1 := hlt x hx
    show (UInt8.ofNat x).toNat = x
    rw [UInt8.toNat_ofNat', Nat.mod_eq_of_lt h1]
def wNd (x : Nd) : C4 := ⟨x.a, x.b, x.c, x.d⟩
theorem ofL_bytes (x : Nd) (h : ∀ k, wd x.a x.b x.c x.d k < 18446744073709551616) : C4.ofL (((bytesB x.a x.b x.c x.d).map UInt8.ofNat).map UInt8.toNat) = wNd x := by
  rw [(rise_bytes _ _ _ _).2]
  unfold C4.ofL wNd
  rw [cw_bytes _ _ _ _ 0 (by decide) h, cw_bytes _ _ _ _ 1 (by decide) h, cw_bytes _ _ _ _ 2 (by decide) h, cw_bytes _ _ _ _ 3 (by decide) h]
  rfl
/-- One reading state reaches another. -/
abbrev Rc (u : ByteArray) (d : Nat) (B J : List (List Cd)) (g : List (Fr (List Cd))) (d' : Nat) (B' J' : List (List Cd)) (g' : List (Fr (List Cd))) : Prop := Reach mkC u ⟨(), d, 0, B, J, g⟩ ⟨(), d', 0, B', J', g'⟩
theorem cls_step (x : Nd) (h : ∀ k, wd x.a x.b x.c x.d k < 18446744073709551616) (u : ByteArray) (d : Nat) (B J : List (List Cd)) (g : List (Fr (List Cd))) (ht : At u d (clsT x)) : Rc u d B J g (d + (clsT x).length) B (J ++ [[⟨2, wNd x, 0⟩]]) g := by
  obtain ⟨L, hL⟩ : ∃ L, L = (bytesB x.a x.b x.c x.d).map UInt8.ofNat := ⟨_, rfl⟩
  have hof := ofL_bytes x h
  have hri := (rise_bytes x.a x.b x.c x.d).1
  rw [← hL] at hof hri
  unfold clsT at ht ⊢
  rw [← hL] at ht ⊢
  by_cases h1 : L.length = 1 ∧ letterV ((L.getD 0 0).toNat : Int) = true
  · have hc : (ctV L).data.toList = L := by unfold ctV; rw [if_pos h1]
    rw [hc] at ht ⊢
    obtain ⟨b, rfl⟩ : ∃ b, L = [b] := by
      match L, h1.1 with
      | [b], _ => exact ⟨b, rfl⟩
    have hb := letter_facts b h1.2
    have hh := ht.head
    have e : stepG mkC u ⟨(), d, 0, B, J, g⟩ = ⟨(), d + 1, 0, B, J ++ [[⟨2, wNd x, 0⟩]], g⟩ := by
      unfold stepG
      dsimp only
      rw [hh.1, if_neg (by omega), if_neg (by omega), if_neg (by omega), if_neg (by omega), if_neg (by omega), if_neg (by omega), if_neg (by omega)]
      have ht : thingV u (d + 1) (b.toNat : Int) = (wNd x, d + 1, 0) := by
        unfold thingV
        rw [if_neg (by omega), if_neg (by omega), if_neg (by omega), Int.toNat_natCast, ← hof]
        rfl
      rw [ht]
      rfl
    have := reach_one (mk := mkC) (s := u) (x := ⟨(), d, 0, B, J, g⟩) (more_iff.2 ⟨rfl, hh.2⟩)
    rw [e] at this
    exact this
  · have hc : (ctV L).data.toList = 91 :: (ctx L.length L ++ [93]) := by unfold ctV; rw [if_neg h1]
    rw [hc] at ht ⊢
    have hh := ht.head
    have hr := cls_read L hri u (d + 1) ht.tail
    have e : stepG mkC u ⟨(), d, 0, B, J, g⟩ = ⟨(), d + (91 :: (ctx L.length L ++ [93])).length, 0, B, J ++ [[⟨2, wNd x, 0⟩]], g⟩ := by
      unfold stepG
      dsimp only
      have h91 : byteI u d = 91 := hh.1
      rw [h91, if_neg (by decide), if_neg (by decide), if_neg (by decide), if_neg (by decide), if_neg (by decide), if_neg (by decide), if_neg (by decide)]
      have ht : thingV u (d + 1) 91 = (wNd x, d + (91 :: (ctx L.length L ++ [93])).length, 0) := by
        unfold thingV
        rw [if_pos rfl, hr, hof]
        congr 2
        simp
        omega
      rw [ht]
      rfl
    have := reach_one (mk := mkC) (s := u) (x := ⟨(), d, 0, B, J, g⟩) (more_iff.2 ⟨rfl, hh.2⟩)
    rw [e] at this
    exact this
theorem open_step {u : ByteArray} {d : Nat} (h : byteI u d = 40) (hd : d < u.size) (B J : List (List Cd)) (g : List (Fr (List Cd))) : Rc u d B J g (d + 1) [] [] ((B, J) :: g) := by
  have e1 : stepG mkC u ⟨(), d, 0, B, J, g⟩ = ⟨(), d + 1, 0, [], [], (B, J) :: g⟩ := by
    unfold stepG
    dsimp only
    rw [h]
    rfl
  unfold Rc
  rw [← e1]
  exact reach_one (more_iff.2 ⟨rfl, hd⟩)
theorem close_step {u : ByteArray} {d : Nat} (h : byteI u d = 41) (hd : d < u.size) (A I B J : List (List Cd)) (g : List (Fr (List Cd))) : Rc u d A I ((B, J) :: g) (d + 1) B (J ++ [endC A I]) g := by
  have e1 : stepG mkC u ⟨(), d, 0, A, I, (B, J) :: g⟩ = ⟨(), d + 1, 0, B, J ++ [endC A I], g⟩ := by
    unfold stepG
    dsimp only
    rw [h]
    rfl
  unfold Rc
  rw [← e1]
  exact reach_one (more_iff.2 ⟨rfl, hd⟩)
theorem again_step {u : ByteArray} {d : Nat} (k : Int) (hk : k = 5 ∨ k = 6 ∨ k = 7) {c : UInt8} (hc : behV k = [c]) (h : byteI u d = (c.toNat : Int)) (hd : d < u.size) (B J : List (List Cd)) (y : List Cd) (g : List (Fr (List Cd))) :
    Rc u d B (J ++ [y]) g (d + 1) B (J ++ [⟨k, .zero, 1⟩ :: y]) g := by
  have e1 : stepG mkC u ⟨(), d, 0, B, J ++ [y], g⟩ = ⟨(), d + 1, 0, B, J ++ [⟨k, .zero, 1⟩ :: y], g⟩ := by
    have hag : ∀ k, againG mkC (⟨(), d, 0, B, J ++ [y], g⟩ : Ms Unit (List Cd)) k = ⟨(), d + 1, 0, B, J ++ [⟨k, .zero, 1⟩ :: y], g⟩ := fun k => by
      unfold againG
      dsimp only
      rw [List.getLast?_append, List.getLast?_singleton]
      simp [mkC, h5]
    unfold stepG
    dsimp only
    rcases hk with rfl | rfl | rfl
    · obtain rfl : c = 42 := by have : [42] = [c] := hc; simpa using this.symm
      rw [h]
      exact hag 5
    · obtain rfl : c = 43 := by have : [43] = [c] := hc; simpa using this.symm
      rw [h]
      exact hag 6
    · obtain rfl : c = 63 := by have : [63] = [c] := hc; simpa using this.symm
      rw [h]
      exact hag 7
  unfold Rc
  rw [← e1]
  exact reach_one (more_iff.2 ⟨rfl, hd⟩)
end Go.Proofs.YtpbkgegkjglibaaDoor

namespace Go.Proofs.YtpbkgegkjglibaaDoor
open Go
abbrev tx (r : List Nd) (k : Int) : List UInt8 := ((txs r).getD k.toNat (0, [])).2
abbrev kd (r : List Nd) (k : Int) : Int := ((txs r).getD k.toNat (0, [])).1
/-- What a node's text is read as. -/
structure NodeR (r : List Nd) (i : Int) : Prop where
  fresh : ∀ (u : ByteArray) (d : Nat) (g : List (Fr (List Cd))), At u d (tx r i) → ∃ A I, Rc u d [] [] g (d + (tx r i).length) A I g ∧ endC A I = codeAt r i
  item : kd r i ≠ 3 → kd r i ≠ 4 → ∀ (u : ByteArray) (d : Nat) (B J : List (List Cd)) (g : List (Fr (List Cd))), At u d (tx r i) → Rc u d B J g (d + (tx r i).length) B (J ++ [codeAt r i]) g
  cat : kd r i ≠ 4 → ∀ (u : ByteArray) (d : Nat) (B : List (List Cd)) (g : List (Fr (List Cd))), At u d (tx r i) → ∃ I, Rc u d B [] g (d + (tx r i).length) B I g ∧ (manyG mkC () 3 I).2 = codeAt r i
/-- What is read as an item is read so in a row of its own, too. -/
theorem NodeR.of_item {r : List Nd} {i : Int} (h : ∀ (u : ByteArray) (d : Nat) (B J : List (List Cd)) (g : List (Fr (List Cd))), At u d (tx r i) → Rc u d B J g (d + (tx r i).length) B (J ++ [codeAt r i]) g) : NodeR r i :=
  ⟨fun u d g ht => ⟨[], [codeAt r i], h u d [] [] g ht, rfl⟩, fun _ _ => h, fun _ u d B g ht => ⟨[codeAt r i], h u d B [] g ht, rfl⟩⟩
/-- A part's text, in brackets or not, as an item. -/
theorem kid_item {r : List Nd} {k : Int} (hk : NodeR r k) (p : Int) (hp : brkV p (kd r k) = true ∨ (kd r k ≠ 3 ∧ kd r k ≠ 4)) (u : ByteArray) (d : Nat) (B J : List (List Cd)) (g : List (Fr (List Cd))) (ht : At u d (kidT (txs r) p k)) :
    Rc u d B J g (d + (kidT (txs r) p k).length) B (J ++ [codeAt r k]) g := by
  unfold kidT at ht ⊢
  by_cases hb : brkV p (kd r k) = true
  · rw [if_pos hb] at ht ⊢
    have h1 := ht.head
    have h2 := ht.tail
    have h3 := h2.right.head
    obtain ⟨A, I, hr, he⟩ := hk.fresh u (d + 1) ((B, J) :: g) h2.left
    have h40 : byteI u d = 40 := h1.1
    have h41 : byteI u (d + 1 + (tx r k).length) = 41 := h3.1
    have e := close_step h41 h3.2 A I B J g
    rw [he] at e
    have := reach_trans (open_step h40 h1.2 B J g) (reach_trans hr e)
    have hl : d + (40 :: (tx r k ++ [41])).length = d + 1 + (tx r k).length + 1 := by simp; omega
    unfold Rc
    rw [hl]
    exact this
  · rw [if_neg hb] at ht ⊢
    have hp2 := hp.resolve_left hb
    exact hk.item hp2.1 hp2.2 u d B J g ht
/-- Parts one behind the other. -/
theorem cat_read {r : List Nd} (p : Int) : ∀ (ks : List Int), (∀ k ∈ ks, NodeR r k ∧ (brkV p (kd r k) = true ∨ (kd r k ≠ 3 ∧ kd r k ≠ 4))) → ∀ (u : ByteArray) (d : Nat) (B J : List (List Cd)) (g : List (Fr (List Cd))), At u d (ks.map (kidT (txs r) p)).flatten →
    Rc u d B J g (d + (ks.map (kidT (txs r) p)).flatten.length) B (J ++ ks.map (codeAt r)) g
  | [], _, u, d, B, J, g, _ => by simpa using Reach.refl _
  | k :: ks, h, u, d, B, J, g, ht => by
    simp only [List.map_cons, List.flatten_cons] at ht ⊢
    obtain ⟨h1, h2⟩ := h k (List.mem_cons_self ..)
    have r1 := kid_item h1 p h2 u d B J g ht.left
    have r2 := cat_read p ks (fun k hk => h k (List.mem_cons_of_mem _ hk)) u _ B (J ++ [codeAt r k]) g ht.right
    have := reach_trans r1 r2
    rw [List.length_append, ← Nat.add_assoc]
    rw [List.append_assoc] at this
    exact this
/-- One alternative. -/
theorem kid_alt {r : List Nd} {k : Int} (hk : NodeR r k) (u : ByteArray) (d : Nat) (B : List (List Cd)) (g : List (Fr (List Cd))) (ht : At u d (kidT (txs r) 4 k)) :
    ∃ I, Rc u d B [] g (d + (kidT (txs r) 4 k).length) B I g ∧ (manyG mkC () 3 I).2 = codeAt r k := by
  by_cases h4 : kd r k = 4
  · exact ⟨_, kid_item hk 4 (.inl (by unfold brkV; rw [if_neg (by decide), if_pos rfl, h4]; rfl)) u d B [] g ht, rfl⟩
  · have hb : ¬ brkV 4 (kd r k) = true := by unfold brkV; rw [if_neg (by decide), if_pos rfl]; simpa using h4
    unfold kidT at ht ⊢
    rw [if_neg hb] at ht ⊢
    exact hk.cat h4 u d B g ht
/-- Alternatives. -/
theorem alt_read {r : List Nd} : ∀ (ks : List Int) (k : Int), NodeR r k → (∀ k ∈ ks, NodeR r k) → ∀ (u : ByteArray) (d : Nat) (B : List (List Cd)) (g : List (Fr (List Cd))), At u d (kidT (txs r) 4 k ++ Lib.joinTail [124] (ks.map (kidT (txs r) 4))) →
    ∃ A I, Rc u d B [] g (d + (kidT (txs r) 4 k ++ Lib.joinTail [124] (ks.map (kidT (txs r) 4))).length) A I g ∧ A ++ [(manyG mkC () 3 I).2] = B ++ (k :: ks).map (codeAt r) ∧ A.length = B.length + ks.length
  | [], k, hk, _, u, d, B, g, ht => by
    have e : Lib.joinTail [124] (([] : List Int).map (kidT (txs r) 4)) = [] := rfl
    rw [e, List.append_nil] at ht ⊢
    obtain ⟨I, h1, h2⟩ := kid_alt hk u d B g ht
    exact ⟨B, I, h1, by rw [h2]; rfl, rfl⟩
  | k2 :: ks, k, hk, hks, u, d, B, g, ht => by
    have e : Lib.joinTail [124] ((k2 :: ks).map (kidT (txs r) 4)) = 124 :: (kidT (txs r) 4 k2 ++ Lib.joinTail [124] (ks.map (kidT (txs r) 4))) := by
      unfold Lib.joinTail
      simp
    rw [e] at ht ⊢
    obtain ⟨I, h1, h2⟩ := kid_alt hk u d B g ht.left
    have hh := ht.right.head
    have h124 : byteI u (d + (kidT (txs r) 4 k).length) = 124 := hh.1
    have hb := bar h124 hh.2 B I g
    rw [h2] at hb
    obtain ⟨A, I2, r2, e2, l2⟩ := alt_read ks k2 (hks k2 (List.mem_cons_self ..)) (fun k hk => hks k (List.mem_cons_of_mem _ hk)) u _ (B ++ [codeAt r k]) g ht.right.tail
    have := reach_trans h1 (reach_trans hb r2)
    refine ⟨A, I2, ?_, by rw [e2]; simp, by rw [l2]; simp; omega⟩
    rw [List.length_append, List.length_cons]
    rw [show d + (kidT (txs r) 4 k).length + 1 + (kidT (txs r) 4 k2 ++ Lib.joinTail [124] (ks.map (kidT (txs r) 4))).length = d + ((kidT (txs r) 4 k).length + ((kidT (txs r) 4 k2 ++ Lib.joinTail [124] (ks.map (kidT (txs r) 4))).length + 1)) by omega] at this
    exact this
theorem join_flat (l : List (List UInt8)) : Lib.join l [] = l.flatten := by
  cases l with
  | nil => rfl
  | cons x r =>
    rw [Lib.join_cons]
    unfold Lib.joinTail
    simp
theorem many_two (ks : List (List Cd)) (h : 2 ≤ ks.length) : (manyG mkC () 3 ks).2 = ⟨3, .zero, ks.length⟩ :: ks.flatten := by
  match ks, h with
  | _ :: _ :: _, _ => rfl
theorem shut_alt (A I : List (List Cd)) (h : A ≠ []) : endC A I = ⟨4, .zero, (A ++ [(manyG mkC () 3 I).2]).length⟩ :: (A ++ [(manyG mkC () 3 I).2]).flatten := by
  match A, h with
  | a :: A, _ =>
    unfold endC shutG
    cases A with
    | nil => rfl
    | cons b A => rfl
/-- Its kid's texts do not hang on what comes behind. -/
theorem kidT_take (r : List Nd) (i : Nat) (p : Int) (k : Int) (h0 : 0 ≤ k) (h1 : k < (i : Int)) (hi : i ≤ r.length) : kidT (txs (r.take i)) p k = kidT (txs r) p k := by
  obtain ⟨m, rfl⟩ : ∃ m : Nat, k = (m : Int) := ⟨k.toNat, by omega⟩
  obtain ⟨x, hx⟩ : ∃ x, r[m]? = some x := ⟨_, List.getElem?_eq_getElem (by omega)⟩
  have e1 := txs_below r i m (by omega) x hx
  have e2 := txs_at _ r rfl m x hx
  unfold kidT
  rw [Int.toNat_natCast, e1, e2]
theorem tx_eq (r : List Nd) (i : Nat) (x : Nd) (hx : r[i]? = some x) (hk : ∀ k ∈ x.kids, 0 ≤ k ∧ k < (i : Int)) : kd r (i : Int) = x.k ∧ tx r (i : Int) = nodeT (txs r) x := by
  have e := txs_at _ r rfl i x hx
  have hi := (List.getElem?_eq_some_iff.1 hx).1
  unfold kd tx
  rw [Int.toNat_natCast, e]
  refine ⟨rfl, ?_⟩
  have hm : x.kids.map (kidT (txs (r.take i)) x.k) = x.kids.map (kidT (txs r) x.k) := List.map_congr_left fun k hk' => kidT_take r i x.k k (hk k hk').1 (hk k hk').2 (by omega)
  unfold nodeT
  rw [hm]
theorem node_read {r : List Nd} (ok : RxOk r) (wd' : ∀ x ∈ r, x.Wd) : ∀ (n i : Nat), i < n → i < r.length → NodeR r (i : Int)
  | 0, _, h, _ => absurd h (Nat.not_lt_zero _)
  | n + 1, i, hin, hi => by
    obtain ⟨x, hx⟩ : ∃ x, r[i]? = some x := ⟨_, List.getElem?_eq_getElem hi⟩
    have hnd := ok.nd i x hx
    obtain ⟨hkd, htx⟩ := tx_eq r i x hx hnd.kids
    have hcd := code_eq hx hnd.kids
    have ih : ∀ k ∈ x.kids, NodeR r k := fun k hk => by
      have := hnd.kids k hk
      obtain ⟨m, rfl⟩ : ∃ m : Nat, k = (m : Int) := ⟨k.toNat, by omega⟩
      exact node_read ok wd' n m (by omega) (by omega)
    have hw := wd' x (List.mem_of_getElem? hx)
    have hwl : ∀ k, wd x.a x.b x.c x.d k < 18446744073709551616 := fun k => by
      unfold wd
      split
      · exact hw.a
      split
      · exact hw.b
      split
      · exact hw.c
      · exact hw.d
    have hlow := hnd.low
    have hhigh := hnd.high
    have hz : x.k ≠ 2 → wNd x = .zero := fun h => by
      obtain ⟨a, b, c, d⟩ := hnd.cls h
      unfold wNd
      rw [a, b, c, d]
      rfl
    have hhd : hdC x = ⟨x.k, wNd x, x.kids.length⟩ := rfl
    rw [hhd] at hcd
    have hfm : x.kids.flatMap (codeAt r) = (x.kids.map (codeAt r)).flatten := by rw [List.flatMap_def]
    rw [hfm] at hcd
    by_cases h1 : x.k = 1
    · have hk0 : x.kids = [] := List.eq_nil_of_length_eq_zero (by have e : highV 1 = 0 := rfl; rw [h1, e] at hhigh; omega)
      refine NodeR.of_item fun u d B J g ht => ?_
      have e : tx r (i : Int) = [40, 41] := by rw [htx]; unfold nodeT; rw [if_pos h1]
      rw [e] at ht ⊢
      have a1 := ht.head
      have a2 := ht.tail.head
      have b1 : byteI u d = 40 := a1.1
      have b2 : byteI u (d + 1) = 41 := a2.1
      have := reach_trans (open_step b1 a1.2 B J g) (close_step b2 a2.2 [] [] B J g)
      have hc : endC [] [] = codeAt r (i : Int) := by
        rw [hcd, hk0, h1, hz (by omega)]
        rfl
      rw [hc] at this
      exact this
    by_cases h2 : x.k = 2
    · have hk0 : x.kids = [] := List.eq_nil_of_length_eq_zero (by have e : highV 2 = 0 := rfl; rw [h2, e] at hhigh; omega)
      refine NodeR.of_item fun u d B J g ht => ?_
      have e : tx r (i : Int) = clsT x := by rw [htx]; unfold nodeT; rw [if_neg h1, if_pos h2]
      rw [e] at ht ⊢
      have := cls_step x hwl u d B J g ht
      have hc : [⟨2, wNd x, 0⟩] = codeAt r (i : Int) := by
        rw [hcd, hk0, h2]
        rfl
      rw [hc] at this
      exact this
    by_cases h3 : x.k = 3
    · have h2k : 2 ≤ (x.kids.map (codeAt r)).length := by rw [List.length_map]; rw [h3] at hlow; simp [lowV] at hlow; omega
      have e : tx r (i : Int) = (x.kids.map (kidT (txs r) 3)).flatten := by rw [htx]; unfold nodeT; rw [if_neg h1, if_neg h2, if_neg (by omega), join_flat, h3]; exact List.append_nil _
      have hc : (manyG mkC () 3 (x.kids.map (codeAt r))).2 = codeAt r (i : Int) := by rw [many_two _ h2k, hcd, h3, hz (by omega), List.length_map]
      have hks : ∀ k ∈ x.kids, NodeR r k ∧ (brkV 3 (kd r k) = true ∨ (kd r k ≠ 3 ∧ kd r k ≠ 4)) := fun k hk => ⟨ih k hk, by
        unfold brkV
        rw [if_pos rfl]
        by_cases hh : kd r k = 3 ∨ kd r k = 4
        · exact .inl (decide_eq_true hh)
        · exact .inr ⟨fun h => hh (.inl h), fun h => hh (.inr h)⟩⟩
      have hcat : ∀ (u : ByteArray) (d : Nat) (B : List (List Cd)) (g : List (Fr (List Cd))), At u d (tx r (i : Int)) → ∃ I, Rc u d B [] g (d + (tx r (i : Int)).length) B I g ∧ (manyG mkC () 3 I).2 = codeAt r (i : Int) := fun u d B g ht => by
        rw [e] at ht ⊢
        exact ⟨_, cat_read 3 x.kids hks u d B [] g ht, hc⟩
      refine ⟨fun u d g ht => ?_, fun h => absurd (hkd.trans h3) h, fun _ => hcat⟩
      obtain ⟨I, a1, a2⟩ := hcat u d [] g ht
      exact ⟨[], I, a1, a2⟩
    by_cases h4 : x.k = 4
    · have h2k : 2 ≤ x.kids.length := by rw [h4] at hlow; simp [lowV] at hlow; omega
      obtain ⟨k1, k2, ks, hks⟩ : ∃ k1 k2 ks, x.kids = k1 :: k2 :: ks := by
        match x.kids, h2k with
        | k1 :: k2 :: ks, _ => exact ⟨k1, k2, ks, rfl⟩
      have e : tx r (i : Int) = kidT (txs r) 4 k1 ++ Lib.joinTail [124] ((k2 :: ks).map (kidT (txs r) 4)) := by rw [htx]; unfold nodeT; rw [if_neg h1, if_neg h2, if_pos h4, h4, hks, List.map_cons, Lib.join_cons]
      refine ⟨fun u d g ht => ?_, fun _ h => absurd (hkd.trans h4) h, fun h => absurd (hkd.trans h4) h⟩
      rw [e] at ht ⊢
      obtain ⟨A, I, a1, a2, a3⟩ := alt_read (k2 :: ks) k1 (ih k1 (by rw [hks]; simp)) (fun k hk => ih k (by rw [hks]; exact List.mem_cons_of_mem _ hk)) u d [] g ht
      refine ⟨A, I, a1, ?_⟩
      have hA : A ≠ [] := fun h => by rw [h] at a3; simp at a3
      rw [shut_alt A I hA, a2, hcd, h4, hz (by omega), hks]
      simp
    · have h567 : x.k = 5 ∨ x.k = 6 ∨ x.k = 7 := by have := hnd.k; omega
      obtain ⟨k, hks⟩ : ∃ k, x.kids = [k] := by
        have hl : x.kids.length = 1 := by
          rcases h567 with h | h | h <;> rw [h] at hlow hhigh <;> simp [lowV, highV] at hlow hhigh <;> omega
        match x.kids, hl with
        | [k], _ => exact ⟨k, rfl⟩
      obtain ⟨c, hc⟩ : ∃ c, behV x.k = [c] := by rcases h567 with h | h | h <;> rw [h] <;> exact ⟨_, rfl⟩
      have e : tx r (i : Int) = kidT (txs r) x.k k ++ [c] := by rw [htx]; unfold nodeT; rw [if_neg h1, if_neg h2, if_neg h4, hks, List.map_cons, List.map_nil, Lib.join_one, hc]
      have hbk : brkV x.k (kd r k) = true ∨ (kd r k ≠ 3 ∧ kd r k ≠ 4) := by
        unfold brkV
        rw [if_neg h3, if_neg h4]
        by_cases hh : kd r k ≠ 1 ∧ kd r k ≠ 2
        · exact .inl (decide_eq_true hh)
        · exact .inr (by omega)
      refine NodeR.of_item fun u d B J g ht => ?_
      rw [e] at ht ⊢
      have r1 := kid_item (ih k (by rw [hks]; simp)) x.k hbk u d B J g ht.left
      have hh := ht.right.head
      have r2 := again_step x.k h567 hc hh.1 hh.2 B J (codeAt r k) g
      have := reach_trans r1 r2
      rw [List.length_append, hcd, hks, hz (by omega)]
      simp only [List.map_cons, List.map_nil, List.flatten_cons, List.flatten_nil, List.append_nil, List.length_cons, List.length_nil]
      exact this
end Go.Proofs.YtpbkgegkjglibaaDoor
