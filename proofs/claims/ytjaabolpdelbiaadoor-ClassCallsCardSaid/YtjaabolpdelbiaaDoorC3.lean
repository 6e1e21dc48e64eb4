import Derived.Test.YtjaabolpdelbiaaDoorC2
import Derived.Laws.BytesArg
namespace Go.Proofs.YtjaabolpdelbiaaDoor
open Go Go.Proofs Go.RowKit Go.Shelf
attribute [local go_sem] Oper.semAt_some

set_option maxHeartbeats 1000000 in
theorem collect_in (F : Fence) (n : Nat) (h43 : F.fn 43) (h50 : F.fn 50) (h41 : F.fn 41) (h42 : F.fn 42) (hro : F.round = none) (hn : 4 ≤ n) (b a0 a1 a2 a3 : Nat) (hw : wlt a0 a1 a2 a3) (w : World) (hb : b < w.heap.size) (hT : TabAt w) (hC : ClsAt b a0 a1 a2 a3 w) :
    CallsIn F n Tryd.prog 43 #[.func (.func 41) #[] #[.pointer (some ⟨b, 0, none⟩)]] w fun e W' => ∃ (v : Value) (xs : List (Fin 256)), e = .returned v ∧ xs.map Fin.val = bytesB a0 a1 a2 a3 ∧ W'.ownsRow w.heap.size 5 1 v xs.length (xs.map encv) ∧ Below w.heap.size w W' := by
  have h1 : 1 ≤ n := by omega
  refine callsIn_of_wp Tryd.func43 rfl h43 ?_ hro
  simp only [Tryd.ntmps43, List.size_toArray, List.length_cons, List.length_nil, Nat.reduceAdd, Nat.reduceSub, Array.replicate_succ, Array.replicate_zero, List.push_toArray, List.append_toArray, List.nil_append, List.cons_append]
  gi_wp2_with (gi_at_call 50; refine (appendSeq_in F (n - 1) h50 h41 h42 hro (by omega) b a0 a1 a2 a3 hw _ hb hT hC).mono ?_; rintro e w' ⟨v, xs, rfl, hx, hr, hB⟩; have HX := Lib.hid hx; clear hx)
  go_ret
  exact ⟨v, xs, rfl, HX.out, hr, hB⟩

set_option maxHeartbeats 1000000 in
theorem each_calls (a0 a1 a2 a3 : Nat) (w : World) :
    Calls Tryd.prog 19 #[.agg #[.int .u64 a0, .int .u64 a1, .int .u64 a2, .int .u64 a3]] w fun e w' => e = .returned (.func (.func 41) #[] #[.pointer (some ⟨w.heap.size, 0, none⟩)]) ∧ w' = w.alloc (.cells #[.int .u64 a0, .int .u64 a1, .int .u64 a2, .int .u64 a3] 27) := by
  go_enter Tryd.func19, Tryd.ntmps19
  go_wp2
  go_ret
  exact ⟨rfl, rfl⟩

def bstr (l : List Nat) : ByteArray := ⟨(l.map UInt8.ofNat).toArray⟩
theorem bstr_size (l : List Nat) : (bstr l).size = l.length := by simp [bstr, ByteArray.size]
theorem conv_row {W : World} {base : Nat} {v : Value} {xs : List (Fin 256)} (h : W.ownsRow base 5 1 v xs.length (xs.map encv)) :
    (convert 35 9 v).run Tryd.prog W = .ok (.string (bstr (xs.map Fin.val))) W := by
  rcases h.2 with ⟨rfl, hn⟩ | ⟨g, cap, cur, rfl, _⟩
  · obtain rfl : xs = [] := List.eq_nil_of_length_eq_zero hn
    exact run_convert_bytes_nil W 35 5 Tryd.underlying35 Tryd.underlying5 _ _ 9 Tryd.underlying9
  · have := run_convert_bytes_arg (P := Tryd.prog) W 35 5 Tryd.underlying35 Tryd.underlying5 g 0 xs.length cap (xs.map fun x => (x.val : Int)) (by simp) (fun i hi => by
      have := h.cellAt i (by omega)
      rw [Nat.zero_add, this]
      simp [hi]) 9 Tryd.underlying9
    rw [this]
    congr 2
    simp [strOfNums, bstr, Function.comp_def]

set_option maxHeartbeats 1000000 in
/-- class.Bytes. -/
theorem bytes_calls (a0 a1 a2 a3 : Nat) (hw : wlt a0 a1 a2 a3) (w : World) (h0 : 0 < w.heap.size) (hT : TabAt w) :
    Calls Tryd.prog 22 #[.agg #[.int .u64 a0, .int .u64 a1, .int .u64 a2, .int .u64 a3]] w fun e w' => e = .returned (.string (bstr (bytesB a0 a1 a2 a3))) ∧ Below w.heap.size w w' := by
  have hB1 : Below w.heap.size w ((w.alloc (.cells #[.int .u64 a0, .int .u64 a1, .int .u64 a2, .int .u64 a3] 27)).alloc (.cells #[.int .u64 a0, .int .u64 a1, .int .u64 a2, .int .u64 a3] 27)) := ((Below.refl _ w).alloc (Nat.le_refl _) _).alloc (by simp) _
  have hT1 := Lib.hid (hT.below hB1 h0)
  clear hT
  go_enter Tryd.func22, Tryd.ntmps22
  go_wp2_with (first
    | (go_at_call 19; refine (each_calls a0 a1 a2 a3 _).mono ?_; rintro e w' ⟨rfl, rfl⟩)
    | (go_at_call 43; refine (callsIn_wide.1 (collect_in Fence.wide 4 trivial trivial trivial trivial rfl (by omega) _ a0 a1 a2 a3 hw _ (by simp) hT1.out ⟨by simp, by simp, by simp, by simp⟩)).mono ?_; rintro e w' ⟨v, xs, rfl, hx, hr, hB⟩; have HX := Lib.hid hx; clear hx; have hcv := conv_row hr))
  go_ret
  exact ⟨by first | rfl | (rw [HX.out]; rfl), hB1.trans (hB.mono (by simp; omega))⟩
end Go.Proofs.YtjaabolpdelbiaaDoor
