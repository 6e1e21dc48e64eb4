/- AX, part 16: append, copy: all of them; calls' callee. -/
import Derived.Test.YtnlieipdeepemaaGreatDoorAx15
import Derived.Lib.AppendZeros
import Derived.Lib.UnsafeStr
namespace Go.Proofs.YtnlieipdeepemaaGreatDoor.AX
open Go
variable {P : Program} {σ : Sig} {w : World} {pr : Pr} {hp : Hp}

theorem zeroCells_eq (z : Array Value) (n : Nat) : (Builtin.zeroCells z n).toList = (List.range (n * z.toList.length)).map fun i => z.toList[i % z.toList.length]! := by
  simp only [Builtin.zeroCells, Array.toList_map, Array.toList_range, Array.length_toList]
  refine List.map_congr_left fun j _ => ?_
  exact (bang_toList _ _).symm
/-- append(nil, make([]T, n)...). -/
theorem zeros_sound {ts : Array TypeId} {ty t tn e : TypeId} {i : TypeInfo} {kn k : IntKind} {n nx nx' : Nat} {zv : AV} {zs : List AV} {args : Array Value} {v : AV} {hp' : Hp}
    (h0 : ts[0]? = some t) (h1 : ts[1]? = some tn) (hu : P.underlying t = some (.slice e)) (hu' : P.underlying tn = some (.int kn)) (hi : P.info? e = some i) (hz : zeroA P e = some zv) (hzs : cellsA zv = some zs) (hl : zs.length = i.size) (hs : 0 < i.size)
    (a0 : args[0]? = some (.slice none 0 0)) (a1 : args[1]? = some (.int k (Int.ofNat (n + 1)))) (h : growA e i.size i.bytes (n + 1) [] (rep zs (n + 1)) hp nx = .done v hp' nx') (r : R pr σ hp w) (hf : Fresh σ nx nx') :
    AppOk P pr σ nx (Builtin.append_ ts ty args) w v hp' nx' := by
  unfold growA at h
  split at h
  · rename_i hrm
    cases h
    have hrm' := hrm
    unfold roomOk at hrm'
    split at hrm'
    · rename_i hb
      have hb := Nat.le_of_ble_eq_true hb
      have hm := Nat.le_of_ble_eq_true hrm'
      have hm : ((n + 1) * 2 + 1000) * i.bytes ≤ 140737488355328 := hm
      have h48 : (n + 1) * i.bytes ≤ 281474976710656 := Nat.le_trans (Nat.mul_le_mul_right i.bytes (show n + 1 ≤ (n + 1) * 2 + 1000 by omega)) (by omega)
      have hz' := hz
      unfold zeroA at hz'
      rw [hi] at hz'
      simp only at hz'
      split at hz'
      · rename_i z hiz
        cases hz'
        obtain ⟨x, g1, g2⟩ := zeroA_sound (σ := σ) (w := w) hz
        have hxz : x = z := by simp [zeroValue, typeInfo, hi, hiz] at g1; exact g1.symm
        subst hxz
        have hc := cellsA_rel hzs g2
        have hcl : x.cells.toList.length = i.size := by rw [← hc.length]; exact hl
        have hrun : (Builtin.append_ ts ty args).run P w = (Builtin.append_ #[t, tn] ty #[.slice none 0 0, .int k ((n + 1 : Nat) : Int)]).run P w := by
          simp only [Builtin.append_, h0, h1, a0, a1]
          rfl
        rw [Lib.run_append_nil_zeros w t tn ty e i x k kn hu hu' hi hiz (n + 1) (by omega) hs (by omega) h48] at hrun
        have hrep := rep_rels hc (n + 1)
        have hns : VRels σ (rep zs (n + 1)) (Builtin.zeroCells x.cells (n + 1)).toList := by rw [zeroCells_eq]; exact hrep
        have hlen : (rep zs (n + 1)).length = (n + 1) * i.size := by
          have := hns.length
          rw [this]
          simp only [Array.length_toList, zeroCells_toList]
          have : x.cells.size = i.size := by simpa using hcl
          rw [this]
        have hxs : x.cells.size = i.size := by simpa using hcl
        obtain ⟨τ, q1, q2, q3⟩ := grow_new (w := w) (wd := w.drew) (wf := w.drew.alloc (.cells (Builtin.zeroCells x.cells (n + 1) ++ Builtin.zeroCells x.cells (grownCap w (n + 1) 0 e - (n + 1))) e)) (z := i.size) (need := n + 1) (newCap := grownCap w (n + 1) 0 e) (old := []) (os := #[]) (ns := Builtin.zeroCells x.cells (n + 1))
          (rest := Builtin.zeroCells x.cells (grownCap w (n + 1) 0 e - (n + 1))) (e := e) (new := rep zs (n + 1)) r rfl (by simp [World.alloc]) ⟨rfl, rfl⟩ .nil hns (by simpa using hlen) (by rw [zeroCells_toList, hxs]) (cut_ge _ _ _ _) (hf nx (Nat.le_refl _) (Nat.lt_succ_self _)) (.ty e) (fun _ h => by cases h; rfl) (fun _ h => by cases h)
        exact ⟨_, _, τ, hrun, q1, q2, q3⟩
      · cases hz'
    · cases hrm'
  · cases h
theorem appendA_sound {C : Ctx} {ts : Array TypeId} {ty : TypeId} {args : Array Value} {s x v : AV} {sv xv : Value} {nx nx' : Nat} {hp' : Hp}
    (h : appendA C ts s x hp nx = .done v hp' nx') (a0 : args[0]? = some sv) (a1 : args[1]? = some xv) (hs : VRel σ s sv) (hx : VRel σ x xv)
    (r : R pr σ hp w) (hf : Fresh σ nx nx') : AppOk C.P pr σ nx (Builtin.append_ ts ty args) w v hp' nx' := by
  unfold appendA at h
  split at h
  · rename_i t t' h0 h1
    split at h
    · rename_i e kn hu hu'
      split at h
      · rename_i i k n hi
        split at h
        · rename_i zv hz
          split at h
          · rename_i zs hzs
            split at h
            · rename_i m _ hsz hl
              obtain rfl := hs.nils_inv
              have hxi := hx.int_inv
              subst hxi
              exact zeros_sound h0 h1 hu hu' hi hz hzs (Nat.eq_of_beq_eq_true hl) (by omega) a0 a1 h r hf
            · cases h
          · cases h
        · cases h
      · cases h
    · rename_i e d hd hu hu'
      split at h
      · rename_i i n hi hn
        split at h
        · rename_i new hnew
          split at h
          · rename_i k hl hz hsz
            have hl := Nat.eq_of_beq_eq_true hl
            have hl : new.length = n * i.size := hl
            obtain ⟨ns, g1, g2⟩ := elemsA_any (P := C.P) hnew hn (Nat.le_refl _) hx r
            have K : AppCx C.P ts args i e n xv := ⟨t, t', d, h0, h1, hu, hu', fun k hk => hd k hk, hi, a1, hz⟩
            cases n with
            | zero =>
              simp only at h
              -- nothing is appended
              have hne : ns.toList = [] := by
                have := g1.length
                rw [hl, Nat.zero_mul] at this
                exact List.length_eq_zero_iff.1 this.symm
              have key : ∀ (base : Option Addr) (len cap : Nat), sv = .slice base len cap → len ≤ cap → (Builtin.append_ ts ty args).run C.P w = .ok (.slice base len cap) w := by
                intro base len cap hsv hle
                subst hsv
                rw [run_append (P := C.P) (w := w) (ty := ty) K.h0 K.h1 K.hu K.hu' K.hd K.hi a0 K.a1 (g2 w rfl).2, if_pos (by omega)]
                simp only [Sem.run_bind, (g2 w rfl).1, Result.andThen_ok, hne]
                cases base <;> simp [storeCells]
              split at h
              · cases h
                obtain rfl := hs.nils_inv
                exact ⟨_, w, σ, key _ _ _ rfl (Nat.le_refl _), .nils, Ext.refl _ _, r⟩
              · cases h
                obtain ⟨j, o, hj, hle, ho, rfl⟩ := hs.slice_inv
                exact ⟨_, w, σ, key _ _ _ rfl hle, .slice hj hle ho, Ext.refl _ _, r⟩
              · cases h
                obtain ⟨j, o, c, hj, hle, hr, ho, rfl⟩ := hs.opn_inv
                exact ⟨_, w, σ, key _ _ _ rfl hle, .opn hj hle hr ho, Ext.refl _ _, r⟩
              · cases h
            | succ n' =>
              simp only at h
              split at h
              · obtain rfl := hs.nils_inv
                exact growA_sound (len := 0) (os := #[]) K a0 (by rw [Nat.zero_add]; exact h) (by omega) r hf .nil g1 (by simp [hl]) (g2 w rfl).2 (fun _ _ => rfl) (fun w' hw => (g2 w' hw).1)
              · exact sliceAppA_sound K a0 hs h r hf g1 hl g2 (by omega)
              · rename_i id off len z
                split at h
                · rename_i hzs
                  have hzs := Nat.eq_of_beq_eq_true hzs
                  subst hzs
                  unfold opnA at h
                  split at h
                  · rename_i c m cl hb
                    split at h
                    · rename_i hm hrm hat
                      have hm := Nat.le_of_ble_eq_true hm
                      split at h
                      · cases h
                        refine opn_append (.inl ⟨rfl, rfl⟩) K a0 hs hb hm hrm hat r (hf nx (Nat.le_refl _) (Nat.lt_succ_self _)) g1 hl g2 (by omega) fun j v hj hv => ?_
                        rw [writeL_get] at hv
                        have hadd : (len + (n' + 1)) * i.size = len * i.size + (n' + 1) * i.size := Nat.add_mul _ _ _
                        split at hv
                        · rename_i hin
                          exact .inr ⟨hin.1, hv⟩
                        · rename_i hin
                          refine .inl ⟨?_, by simpa using hv⟩
                          have hin : ¬ (len * i.size ≤ j ∧ j < len * i.size + new.length) := hin
                          omega
                      · split at h
                        · rename_i old hold
                          cases h
                          refine opn_append (.inr rfl) K a0 hs hb hm hrm hat r (hf nx (Nat.le_refl _) (Nat.lt_succ_self _)) g1 hl g2 (by omega) fun j v hj hv => ?_
                          rw [ofL_get] at hv
                          have hol : old.length = len * i.size := readN_len hold
                          by_cases hjo : j < len * i.size
                          · rw [List.getElem?_append_left (by omega)] at hv
                            exact .inl ⟨hjo, readN_get hold hv⟩
                          · rw [List.getElem?_append_right (by omega), hol] at hv
                            exact .inr ⟨by omega, hv⟩
                        · cases h
                    · cases h
                  · cases h
                · cases h
              · cases h
          · cases h
        · cases h
      · cases h
    · cases h
  · cases h
/-- clear of a slice. -/
theorem clear_at {ts : Array TypeId} {ty t e : TypeId} {z id off len cap m : Nat} {c : Cells} {cl : Cl} {i : Info} {o : Nat} {args : Array Value} {zv : AV} {zs : List AV}
    (ht : ts[0]? = some t) (hu : P.underlying t = some (.slice e)) (hz : zeroA P e = some zv) (hzs : cellsA zv = some zs) (hzl : zs.length = z) (a0 : args[0]? = some (.slice (some ⟨i.blk, o, none⟩) len cap))
    (hi : σ id = some i) (hb : hp.get id = some (.cells c m cl)) (hle : len ≤ cap) (ho : o = i.base + off ∨ cap = 0)
    (hm : off + len * z ≤ m) (hat : atomsB (rep zs len) = true) (r : R pr σ hp w) :
    ∃ w', (Builtin.clear_ ts ty args).run P w = .ok (.tuple #[]) w' ∧ R pr σ (hp.set id (.cells (writeL c off (rep zs len)) m cl)) w' := by
  obtain ⟨i', hi', hblk⟩ := r.blk _ _ hb
  rw [hi] at hi'
  cases hi'
  obtain ⟨cs, e0, fz, h1, h2, h3, h4, h5, h6⟩ := hblk
  obtain ⟨x, g1, g2⟩ := zeroA_sound (σ := σ) (w := w) hz
  have hc := cellsA_rel hzs g2
  have hrep := rep_rels hc len
  rw [← zeroCells_eq] at hrep
  have hlen : (rep zs len).length = len * z := by
    rw [hrep.length]
    simp only [Array.length_toList, zeroCells_toList]
    have : x.cells.size = z := by have := hc.length; simp at this; omega
    rw [this]
  have hone := atomsB_sound hat hrep
  cases len with
  | zero =>
    refine ⟨w, ?_, ?_⟩
    · simp only [Builtin.clear_, ht, a0, Sem.run_bind, run_underlying_some hu, Result.andThen_ok, Sem.run_pure]
    · have := cells_turn (off := off) r hb hi h1 h2 h3 h4 h5 h6 (l := rep zs 0) (xs := []) .nil (by simpa [rep] using hm) (by simpa [writeC] using h1) (fun _ _ => rfl) (Same.refl w)
      exact this
  | succ n =>
    have ho := ho.resolve_right (by omega)
    subst ho
    have hlen' := hrep.length
    obtain ⟨w', e1, e2, e3, e4⟩ := run_storeCells (P := P) (o := i.base + off) (Builtin.zeroCells x.cells (n + 1)).toList 0 cs w h1 (by omega) h4 hone
    refine ⟨w', ?_, cells_turn r hb hi h1 h2 h3 h4 h5 h6 hrep (by omega) e2 e3 e4⟩
    simp only [Builtin.clear_, ht, a0, Sem.run_bind, run_underlying_some hu, Result.andThen_ok, g1, e1, Sem.run_pure]
theorem clearA_sound {C : Ctx} {ts : Array TypeId} {ty : TypeId} {d v : AV} {x : Value} {args : Array Value} {nx nx' : Nat} {hp' : Hp} (h : clearA C ts d hp nx = .done v hp' nx') (a0 : args[0]? = some x)
    (hd : VRel σ d x) (r : R pr σ hp w) : ∃ v' w', (Builtin.clear_ ts ty args).run C.P w = .ok v' w' ∧ VRel σ v v' ∧ nx' = nx ∧ R pr σ hp' w' := by
  unfold clearA at h
  split at h
  · rename_i t ht
    split at h
    · rename_i e hu
      split at h
      · rename_i z zv hz hzv
        split at h
        · rename_i zs hzs
          split at h
          · cases h
            obtain rfl := hd.nils_inv
            refine ⟨.tuple #[], w, ?_, .tup .nil, rfl, r⟩
            simp only [Builtin.clear_, ht, a0, Sem.run_bind, run_underlying_some hu, Result.andThen_ok, Sem.run_pure]
          · split at h
            · rename_i c m cl hb
              split at h
              · rename_i hc
                simp only [Bool.and_eq_true] at hc
                obtain ⟨⟨hm, hat⟩, hll⟩ := hc
                cases h
                obtain ⟨i, o, hi, hle, ho, rfl⟩ := hd.slice_inv
                obtain ⟨w', e1, e2⟩ := clear_at (ty := ty) ht hu hzv hzs (Nat.eq_of_beq_eq_true hll) a0 hi hb hle ho (Nat.le_of_ble_eq_true hm) hat r
                exact ⟨_, w', e1, .tup .nil, rfl, e2⟩
              · cases h
            · cases h
          · split at h
            · rename_i c m cl hb
              split at h
              · rename_i hc
                simp only [Bool.and_eq_true] at hc
                obtain ⟨⟨hm, hat⟩, hll⟩ := hc
                cases h
                obtain ⟨i, o, cc, hi, hle, _, ho, rfl⟩ := hd.opn_inv
                obtain ⟨w', e1, e2⟩ := clear_at (ty := ty) ht hu hzv hzs (Nat.eq_of_beq_eq_true hll) a0 hi hb hle ho (Nat.le_of_ble_eq_true hm) hat r
                exact ⟨_, w', e1, .tup .nil, rfl, e2⟩
              · cases h
            · cases h
          · cases h
        · cases h
      · cases h
    · cases h
  · cases h
theorem delE_sound {d : TypeDesc} {k : AV} {key : Value} (hk : VRel σ k key) : ∀ {es : List (AV × AV)} {bs : List Nat} {ms : List MapEntry} {es' : List (AV × AV)} {bs' : List Nat} (i : Nat), delE d k es bs = some (es', bs') → EntsRel σ es ms → ms.map (·.born) = bs →
    (Instr.findNow d key ms i = some none ∧ es' = es ∧ bs' = bs) ∨ ∃ j y, Instr.findNow d key ms i = some (some (i + j, y)) ∧ EntsRel σ es' (ms.eraseIdx j) ∧ (ms.eraseIdx j).map (·.born) = bs'
  | [], bs, [], es', bs', i, h, _, _ => by
    unfold delE at h
    cases h
    exact .inl ⟨rfl, rfl, rfl⟩
  | e :: es, bs, m :: ms, es', bs', i, h, ⟨h1, h2, h3⟩, hb => by
    subst hb
    simp only [List.map_cons, delE] at h
    split at h
    · rename_i hq
      cases h
      exact .inr ⟨0, m.val, by simp [Instr.findNow, (keyEq_spec hq hk h1).1], by simpa using h3, by simp⟩
    · rename_i hq
      split at h
      · rename_i es1 bs1 hd
        cases h
        rcases delE_sound hk (i + 1) hd h3 rfl with ⟨q1, q2, q3⟩ | ⟨j, y, q1, q2, q3⟩
        · exact .inl ⟨by simp [Instr.findNow, (keyEq_spec hq hk h1).1, q1], by rw [q2], by rw [q3]; rfl⟩
        · refine .inr ⟨j + 1, y, ?_, ?_, ?_⟩
          · simp only [Instr.findNow, (keyEq_spec hq hk h1).1, q1]
            rw [show i + 1 + j = i + (j + 1) from by omega]
          · simpa using ⟨h1, h2, q2⟩
          · simpa using q3
      · cases h
    · cases h
  | [], _, _ :: _, _, _, _, _, h, _ => h.elim
  | _ :: _, _, [], _, _, _, _, h, _ => h.elim
theorem deleteA_sound {C : Ctx} {ts : Array TypeId} {ty : TypeId} {m k v : AV} {x key : Value} {args : Array Value} {nx nx' : Nat} {hp' : Hp} (h : deleteA C ts m k hp nx = .done v hp' nx') (a0 : args[0]? = some x) (a1 : args[1]? = some key)
    (hm : VRel σ m x) (hk : VRel σ k key) (r : R pr σ hp w) : ∃ v' w', (Builtin.delete_ ts ty args).run C.P w = .ok v' w' ∧ VRel σ v v' ∧ nx' = nx ∧ R pr σ hp' w' := by
  unfold deleteA at h
  split at h
  · rename_i t ht
    split at h
    · rename_i kt e hu
      split at h
      · rename_i d id hkk
        obtain ⟨hd, hkd⟩ := kkind_one hkk
        split at h
        · rename_i es bs clk hb
          split at h
          · rename_i es' bs' hde
            cases h
            obtain ⟨i, hi, rfl⟩ := hm.map_inv
            obtain ⟨i', hi', ms, h1, h2, hbs⟩ := r.blk _ _ hb
            rw [hi] at hi'
            cases hi'
            have hlt := (Array.getElem?_eq_some_iff.1 h1).1
            have put : ∀ o : Obj, ({ w with heap := w.heap.setIfInBounds i.blk o } : World).heap[i.blk]? = some o ∧ ∀ k, k ≠ i.blk → ({ w with heap := w.heap.setIfInBounds i.blk o } : World).heap[k]? = w.heap[k]? := fun o =>
              ⟨by simp [hlt], fun k hk => Array.getElem?_setIfInBounds_ne (Ne.symm hk)⟩
            rcases delE_sound hk 0 hde h2 hbs with ⟨g1, rfl, rfl⟩ | ⟨j, y, g1, g2, g3⟩
            · refine ⟨.tuple #[], _, ?_, .tup .nil, rfl, r.turn (w' := { w with heap := w.heap.setIfInBounds i.blk (.map ms clk) }) hb hi ⟨_, (put _).1, h2, hbs⟩ (put _).2 ⟨rfl, rfl⟩⟩
              simp only [Builtin.delete_, ht, a0, a1, Sem.run_bind, run_underlying_some hu, Result.andThen_ok, MapKept.run_getObj_map h1, run_check hd hkd, Instr.findKey, run_underlying_some hd, g1, Sem.run_pure, MapKept.run_setObj_map _ h1]
            · rw [Nat.zero_add] at g1
              refine ⟨.tuple #[], _, ?_, .tup .nil, rfl, r.turn (w' := { w with heap := w.heap.setIfInBounds i.blk (.map (ms.eraseIdxIfInBounds j) clk) }) hb hi ⟨_, (put _).1, ?_, ?_⟩ (put _).2 ⟨rfl, rfl⟩⟩
              · simp only [Builtin.delete_, ht, a0, a1, Sem.run_bind, run_underlying_some hu, Result.andThen_ok, MapKept.run_getObj_map h1, run_check hd hkd, Instr.findKey, run_underlying_some hd, g1, Sem.run_pure, MapKept.run_setObj_map _ h1]
              · rw [Array.toList_eraseIdxIfInBounds]; exact g2
              · rw [Array.toList_eraseIdxIfInBounds]; exact g3
          · cases h
        · cases h
      · cases h
    · cases h
  · cases h
/-- A live block turns, and is let go. -/
theorem R.gone {w' : World} (r : R pr σ hp w) {id : Nat} {b : Blk} {i : Info} (hg : hp.get id = some b) (hi : σ id = some i) (hk : ∀ k, k ≠ i.blk → w'.heap[k]? = w.heap[k]?) (hs : Same w w') : R pr σ (hp.put id none) w' := by
  have r' := r.drop id
  refine ⟨fun k c hc => ?_, r'.inj, fun k o ho => ?_, r'.free, r'.out hs⟩
  · obtain ⟨j, hj, hb⟩ := r'.blk k c hc
    refine ⟨j, hj, hb.heap (hk _ fun e => ?_)⟩
    rw [T.get_put] at hc
    split at hc
    · cases hc
    · rename_i e1
      exact e1 (r.inj _ _ _ _ _ _ hc hg hj hi e)
  · have hne : k ≠ i.blk := fun e => by have := r.free _ _ _ hg hi; rw [← e, ho] at this; cases this
    rw [hk k hne]; exact r.prot k o ho
theorem bytesA_sound : ∀ {l : List AV} {s : List Nat} {xs : List Value}, bytesA l = some s → VRels σ l xs → ∃ us : List UInt8, us.map UInt8.toNat = s ∧ xs = us.map fun x => Value.int .u8 x.toNat
  | [], s, xs, h, hx => by
    cases h
    cases hx
    exact ⟨[], rfl, rfl⟩
  | v :: l, s, xs, h, hx => by
    cases hx with
    | cons h1 h2 =>
    simp only [bytesA] at h
    split at h
    · rename_i b r hb hr
      cases h
      obtain ⟨us, g1, g2⟩ := bytesA_sound hr h2
      obtain ⟨rfl, hlt⟩ := byteOf_sound hb h1
      have hn : (UInt8.ofNat b).toNat = b := by simp; omega
      exact ⟨UInt8.ofNat b :: us, by rw [List.map_cons, hn, g1], by rw [List.map_cons, hn, g2]⟩
    · cases h
theorem dataA_sound {P : Program} {ts : Array TypeId} {ty : TypeId} {d v : AV} {x : Value} {nx nx' : Nat} {hp' : Hp} (h : dataA d hp nx = .done v hp' nx') (hd : VRel σ d x) (r : R pr σ hp w) :
    ∃ v' w', (Builtin.unsafeSliceData_ ts ty #[x]).run P w = .ok v' w' ∧ VRel σ v v' ∧ nx' = nx ∧ R pr σ hp' w' := by
  unfold dataA at h
  split at h
  · cases h
    obtain rfl := hd.nils_inv
    exact ⟨_, w, rfl, .nilp, rfl, r⟩
  · cases h
    obtain ⟨i, o, hi, hle, ho, rfl⟩ := hd.slice_inv
    have ho := ho.resolve_right (by omega)
    subst ho
    exact ⟨_, w, Lib.run_unsafeSliceData_row _ _ _ _ _ _ (by omega), .ptr hi, rfl, r⟩
  · cases h
    obtain ⟨i, o, cc, hi, hle, _, ho, rfl⟩ := hd.opn_inv
    have ho := ho.resolve_right (by omega)
    subst ho
    exact ⟨_, w, Lib.run_unsafeSliceData_row _ _ _ _ _ _ (by omega), .ptr hi, rfl, r⟩
  · cases h
theorem ustrA_sound {C : Ctx} {ts : Array TypeId} {ty : TypeId} {p n v : AV} {x y : Value} {nx nx' : Nat} {hp' : Hp} (h : ustrA C ts p n hp nx = .done v hp' nx') (hx : VRel σ p x) (hy : VRel σ n y) (r : R pr σ hp w) :
    ∃ v' w', (Builtin.unsafeString_ ts ty #[x, y]).run C.P w = .ok v' w' ∧ VRel σ v v' ∧ nx' = nx ∧ R pr σ hp' w' := by
  have turn : ∀ (pt : TypeId) (q : Option Addr) (m : Int), ts[0]? = some pt → (Builtin.unsafeString_ ts ty #[.pointer q, .int .i64 m]).run C.P w = (Builtin.unsafeString_ #[pt, pt] ty #[.pointer q, .int .i64 m]).run C.P w := by
    intro pt q m h0
    obtain ⟨l⟩ := ts
    cases l with
    | nil => cases h0
    | cons a l =>
      obtain rfl : a = pt := Option.some.inj h0
      rfl
  unfold ustrA at h
  split at h
  · obtain rfl := hy.int_inv
    split at h
    · rename_i pt h0
      cases h
      cases hx
      refine ⟨.string .empty, w, ?_, .str _ rfl, rfl, r⟩
      rw [turn pt none _ h0]
      exact Lib.run_unsafeString_none _ _ _ _ _
    · rename_i pt h0
      cases h
      obtain ⟨i, hi, rfl⟩ := hx.ptr_inv
      refine ⟨.string .empty, w, ?_, .str _ rfl, rfl, r⟩
      rw [turn pt _ _ h0]
      exact Lib.run_unsafeString_none _ _ _ _ _
    · cases h
  · rename_i k
    obtain rfl := hy.int_inv
    split at h
    · rename_i id e hpt
      split at h
      · rename_i c m t hb
        split at h
        · rename_i l hchk hl
          simp only [Bool.and_eq_true] at hchk
          obtain ⟨⟨⟨q1, q2⟩, q3⟩, q4⟩ := hchk
          have q1 := Nat.eq_of_beq_eq_true q1
          have q2 := Nat.eq_of_beq_eq_true q2
          have q3 := Nat.le_of_ble_eq_true q3
          have q4 := Nat.le_of_ble_eq_true q4
          subst q1
          split at h
          · rename_i s hs
            cases h
            obtain ⟨i, hi, rfl⟩ := hx.ptr_inv
            obtain ⟨i', hi', cs, e0, fz, h1, h2, h3, h4, h5, h6⟩ := r.blk _ _ hb
            rw [hi] at hi'
            cases hi'
            obtain ⟨hfz, hbase⟩ := h5.1 rfl
            have het := h5.2.1 t rfl
            subst het
            subst hfz
            obtain ⟨pt, h0, hu⟩ : ∃ pt, ts[0]? = some pt ∧ C.P.underlying pt = some (.pointer e0) := by
              cases h0 : ts[0]? with
              | none => rw [h0] at hpt; cases hpt
              | some pt => rw [h0] at hpt; exact ⟨pt, rfl, hpt⟩
            obtain ⟨xs, e1, e2, e3⟩ := readN_sound h6 hl (by omega)
            obtain ⟨us, hus0, hxs⟩ := bytesA_sound hs e2
            have hus : bytesOf ⟨us.toArray⟩ = s := by simpa [bytesOf] using hus0
            have hlen : us.length = k + 1 := by
              have := congrArg List.length hxs
              simp at this
              omega
            have hrun := Lib.run_unsafeString_row (P := C.P) (w := w) pt pt ty e0 hu q2 i.blk cs.size (by simp [World.shape?, h1]) us (by intro h; rw [h] at hlen; cases hlen) (by omega) (by omega) (fun j x hj => by
              have hcell := cell_at (w := w) rfl h1 (e3 j (.int .u8 x.toNat) (by rw [hxs, List.getElem?_map, hj]; rfl))
              rw [hbase] at hcell
              have e0 : (⟨i.blk, 0, none⟩ : Addr).add j = ⟨i.blk, 0 + 0 + j, none⟩ := by
                unfold Addr.add
                split
                · rename_i h0; subst h0; rfl
                · simp
              rw [e0]; exact hcell)
            refine ⟨_, _, ?_, .str _ hus, rfl, r.gone hb hi (w' := w.freeze ⟨i.blk, 0, none⟩ us.length) (fun q hq => ?_) ?_⟩
            · rw [turn pt _ _ h0, hbase]
              have : (Int.ofNat (k + 1)) = ((us.length : Nat) : Int) := by rw [hlen]; rfl
              rw [this]
              exact hrun
            · unfold World.freeze
              split
              · rfl
              · simp only [Array.getElem?_modify]
                rw [if_neg (Ne.symm hq)]
            · unfold World.freeze
              split
              · exact Same.refl w
              · exact ⟨rfl, rfl⟩
          · cases h
        · cases h
      · cases h
    · cases h
  · cases h
end Go.Proofs.YtnlieipdeepemaaGreatDoor.AX
