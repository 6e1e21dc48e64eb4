/- Regex, plain: what RegexReads says. -/
import Derived.Test.YtpbkgegkjglibaaDoorQ3
import Derived.Test.YtpbkgegkjglibaaDoorS10
import Derived.Test.YtpbkgegkjglibaaDoorA8
namespace Go.Proofs.YtpbkgegkjglibaaDoor
open Go
structure Sub (s u : ByteArray) (d : Nat) : Prop where
  le : d + s.size ≤ u.size
  eq : ∀ i, i < s.size → byteI u (d + i) = byteI s i
end Go.Proofs.YtpbkgegkjglibaaDoor

namespace Go.Proofs.YtpbkgegkjglibaaDoor
open Go
theorem reach_trans {σ α : Type} {mk : σ → H5 → List α → σ × α} {s : ByteArray} {x y z : Ms σ α} (h : Reach mk s x y) (g : Reach mk s y z) : Reach mk s x z := by
  induction g with
  | refl => exact h
  | more _ hm ih => exact .more ih hm
theorem reach_one {σ α : Type} {mk : σ → H5 → List α → σ × α} {s : ByteArray} {x : Ms σ α} (hm : moreV s.size x.a x.e = true) : Reach mk s x (stepG mk s x) := .more (.refl x) hm
/-- Steps, told by how many. -/
def runN {σ α : Type} (mk : σ → H5 → List α → σ × α) (s : ByteArray) (b : Ms σ α) : Nat → Ms σ α
  | 0 => b
  | n + 1 => if moreV s.size (runN mk s b n).a (runN mk s b n).e = true then stepG mk s (runN mk s b n) else runN mk s b n
theorem reach_run {σ α : Type} {mk : σ → H5 → List α → σ × α} {s : ByteArray} {b y : Ms σ α} (h : Reach mk s b y) : ∃ n, y = runN mk s b n := by
  induction h with
  | refl => exact ⟨0, rfl⟩
  | @more y _ hm ih =>
    obtain ⟨n, rfl⟩ := ih
    exact ⟨n + 1, by rw [runN, if_pos hm]⟩
theorem run_stop {σ α : Type} {mk : σ → H5 → List α → σ × α} {s : ByteArray} {b : Ms σ α} {n : Nat} (h : ¬ moreV s.size (runN mk s b n).a (runN mk s b n).e = true) : ∀ k, runN mk s b (n + k) = runN mk s b n
  | 0 => rfl
  | k + 1 => by
    have ih := run_stop h k
    show (if moreV s.size (runN mk s b (n + k)).a (runN mk s b (n + k)).e = true then stepG mk s (runN mk s b (n + k)) else runN mk s b (n + k)) = _
    rw [ih, if_neg h]
theorem fin_uniq {σ α : Type} {mk : σ → H5 → List α → σ × α} {s : ByteArray} {b y z : Ms σ α} (h : Reach mk s b y) (g : Reach mk s b z) (hy : ¬ moreV s.size y.a y.e = true) (hz : ¬ moreV s.size z.a z.e = true) : y = z := by
  obtain ⟨n, rfl⟩ := reach_run h
  obtain ⟨m, rfl⟩ := reach_run g
  have h1 := run_stop hy m
  have h2 := run_stop hz n
  rw [← h1, ← h2, Nat.add_comm]
/-- A text that is read to its end: its alternatives, its last one's items. -/
def Fin2 (s : ByteArray) (A I : List (List Cd)) : Prop := Reach mkC s (begG ()) ⟨(), s.size, 0, A, I, []⟩
def endC (A I : List (List Cd)) : List Cd := (shutG mkC () A I).2
theorem bar {u : ByteArray} {d : Nat} (h : byteI u d = 124) (hd : d < u.size) (B J : List (List Cd)) (g : List (Fr (List Cd))) : Reach mkC u ⟨(), d, 0, B, J, g⟩ ⟨(), d + 1, 0, B ++ [(manyG mkC () 3 J).2], [], g⟩ := by
  have e1 : stepG mkC u ⟨(), d, 0, B, J, g⟩ = ⟨(), d + 1, 0, B ++ [(manyG mkC () 3 J).2], [], g⟩ := by
    unfold stepG
    dsimp only
    rw [h]
    rfl
  rw [← e1]
  exact reach_one (more_iff.2 ⟨rfl, hd⟩)
-- what Read makes
theorem reach_ok {s : ByteArray} (hs : s.size ≤ 256) {x : Ms (List Nd) Int} (h : Reach mkI s (begG []) x) : (x.e = 0 → MsOk s x) ∧ Reach mkC s (begG ()) (absM x) := by
  induction h with
  | refl => exact ⟨fun _ => beg_ok s, .refl _⟩
  | @more y _ hm ih =>
    obtain ⟨h1, h2⟩ := more_iff.1 hm
    have hok := ih.1 h1
    refine ⟨fun he => step_ok hok hs h2 h1 he, ?_⟩
    rw [step_abs s y hok.fo.inR]
    exact .more ih.2 hm
def rowOf (x : Ms (List Nd) Int) : List Nd := (shutG mkI x.st x.A x.I).1
/-- A row that may be, and tells its text's tree. -/
structure Good2 (s : ByteArray) (r : List Nd) (A I : List (List Cd)) : Prop where
  fin : Fin2 s A I
  ok : RxOk r
  code : codeOf r = endC A I
  len : r.length ≤ 2 * s.size + 2
theorem root_last {out : List Nd} {k : Int} (h : Forest out [k]) (h1 : 1 ≤ out.length) : k = (out.length : Int) - 1 := by
  have hk := h.roots k (List.mem_cons_self ..)
  by_cases e : k = (out.length : Int) - 1
  · exact e
  · have h2 := h.one (out.length - 1) (by omega)
    have h3 : (kidsOf out).count ((out.length - 1 : Nat) : Int) = 0 := List.count_eq_zero_of_not_mem (fun hm => by
      have := kids_bound (n := 0) (fun i x hx => by simpa using h.nd i x hx) _ hm
      omega)
    have h4 : [k].count ((out.length - 1 : Nat) : Int) = 0 := List.count_eq_zero_of_not_mem (fun hm => e (by
      have := List.mem_singleton.1 hm
      omega))
    omega
theorem forest_ok {out : List Nd} {k : Int} (h : Forest out [k]) (hm : out.length ≤ 512) : RxOk out := by
  have hk := h.roots k (List.mem_cons_self ..)
  have hl := root_last h (by omega)
  refine ⟨by omega, hm, h.nd, fun j hj => ?_⟩
  have h2 := h.one j (by omega)
  have h4 : [k].count (j : Int) = 0 := List.count_eq_zero_of_not_mem (fun hm => by
    have := List.mem_singleton.1 hm
    omega)
  omega
end Go.Proofs.YtpbkgegkjglibaaDoor

namespace Go.Proofs.YtpbkgegkjglibaaDoor
open Go
end Go.Proofs.YtpbkgegkjglibaaDoor
