/- AX, part 8: operations of class 0, the rest. -/
import Derived.Test.YtaadkdmbhckdeaaDoorAx7
namespace Go.Proofs.YtaadkdmbhckdeaaDoor.AX
open Go
variable {P : Program} {σ : Sig} {w : World}

/-- An optional operand's abstract and true value. -/
def OptRel (σ : Sig) : Option AV → Option Value → Prop
  | none, none => True
  | some a, some x => VRel σ a x
  | _, _ => False
theorem OptRel.map {ρ : Operand → AV} {ρ' : Operand → Value} : ∀ {o : Option Operand}, (∀ x ∈ o, VRel σ (ρ x) (ρ' x)) → OptRel σ (o.map ρ) (o.map ρ')
  | none, _ => trivial
  | some x, h => h x rfl
theorem boundA_some {y d n : Nat} {v : Value} {a : AV} (h : boundA y d (some a) = some n) (hr : VRel σ a v) (c : BoundsCode) :
    (Instr.sliceBound v y c).run P w = .ok n w ∧ n ≤ y := by
  unfold boundA at h
  split at h
  · rename_i he; cases he
  · rename_i k i he
    cases he
    obtain rfl := hr.int_inv
    split at h
    · rename_i h0
      rw [leI_eq] at h0
      have h0 : 0 ≤ i := by simpa using h0
      split at h
      · rename_i h1
        have h1 := Nat.le_of_ble_eq_true h1
        cases h
        rw [natOf_eq] at h1 ⊢
        refine ⟨?_, h1⟩
        have : 0 ≤ i ∧ i ≤ (y : Int) := by omega
        simp [Instr.sliceBound, asIntOf, this]
      · cases h
    · cases h
  · cases h
theorem optRel_cases {a : Option AV} {x : Option Value} (h : OptRel σ a x) : (a = none ∧ x = none) ∨ ∃ b y, a = some b ∧ x = some y ∧ VRel σ b y := by
  cases a <;> cases x
  · exact .inl ⟨rfl, rfl⟩
  · cases h
  · cases h
  · exact .inr ⟨_, _, rfl, rfl, h⟩
theorem boundA_none {y d n : Nat} (h : boundA y d none = some n) : n = d := by simp [boundA] at h; exact h.symm
/-- The three bounds of 'x[lo:hi]'. -/
theorem bounds2 {isS : Bool} {len cap h l : Nat} {hi lo : Option AV} {hi' lo' : Option Value} (hh : boundA cap len hi = some h) (hl : boundA h 0 lo = some l)
    (rh : OptRel σ hi hi') (rl : OptRel σ lo lo') (hle : len ≤ cap) :
    (Instr.sliceBounds isS len cap lo' hi' none).run P w = .ok (l, h, cap) w ∧ l ≤ h ∧ h ≤ cap := by
  rcases optRel_cases rh with ⟨rfl, rfl⟩ | ⟨b, y, rfl, rfl, rb⟩
  · have := boundA_none hh
    subst this
    rcases optRel_cases rl with ⟨rfl, rfl⟩ | ⟨b, y, rfl, rfl, rb⟩
    · have := boundA_none hl
      subst this
      exact ⟨by simp [Instr.sliceBounds], Nat.zero_le _, hle⟩
    · obtain ⟨h1, h2⟩ := boundA_some (P := P) (w := w) hl rb .sliceB
      exact ⟨by simp [Instr.sliceBounds, h1], h2, hle⟩
  · obtain ⟨h3, h4⟩ := boundA_some (P := P) (w := w) hh rb (if isS then .sliceAcap else .sliceAlen)
    rcases optRel_cases rl with ⟨rfl, rfl⟩ | ⟨b', y', rfl, rfl, rb'⟩
    · have := boundA_none hl
      subst this
      exact ⟨by simp [Instr.sliceBounds, h3], Nat.zero_le _, h4⟩
    · obtain ⟨h1, h2⟩ := boundA_some (P := P) (w := w) hl rb' .sliceB
      exact ⟨by simp [Instr.sliceBounds, h3, h1], h2, h4⟩
/-- The three bounds of 'x[lo:hi:max]'. -/
theorem bounds3 {len cap m h l d d' : Nat} {hi mx : AV} {hi' mx' : Value} {lo : Option AV} {lo' : Option Value} (hm : boundA cap d (some mx) = some m) (hh : boundA m d' (some hi) = some h) (hl : boundA h 0 lo = some l)
    (rm : VRel σ mx mx') (rh : VRel σ hi hi') (rl : OptRel σ lo lo') :
    (Instr.sliceBounds true len cap lo' (some hi') (some mx')).run P w = .ok (l, h, m) w ∧ l ≤ h ∧ h ≤ m ∧ m ≤ cap := by
  obtain ⟨h1, h2⟩ := boundA_some (P := P) (w := w) hm rm .slice3Acap
  obtain ⟨h3, h4⟩ := boundA_some (P := P) (w := w) hh rh .slice3B
  rcases optRel_cases rl with ⟨rfl, rfl⟩ | ⟨b', y', rfl, rfl, rb'⟩
  · have := boundA_none hl
    subst this
    exact ⟨by simp [Instr.sliceBounds, h1, h3], Nat.zero_le _, h4, h2⟩
  · obtain ⟨h5, h6⟩ := boundA_some (P := P) (w := w) hl rb' .slice3C
    exact ⟨by simp [Instr.sliceBounds, h1, h3, h5], h6, h4, h2⟩

theorem sliceAt_slice {t : TypeId} {e : TypeId} (hu : P.underlying t = some (.slice e)) (x : Value) (lo hi mx : Option Value) :
    (Instr.sliceAt t x lo hi mx).run P w = (Instr.slice t x lo hi mx).run P w := by
  simp [Instr.sliceAt, run_underlying_some hu]
theorem sliceAt_string {t : TypeId} (hu : P.underlying t = some .string) (x : Value) (lo hi mx : Option Value) :
    (Instr.sliceAt t x lo hi mx).run P w = (Instr.slice t x lo hi mx).run P w := by
  simp [Instr.sliceAt, run_underlying_some hu]
theorem bytesOf_extract (s : ByteArray) (l h : Nat) : bytesOf (s.extract l h) = ((bytesOf s).take h).drop l := by
  simp [bytesOf, ByteArray.data_extract, Array.toList_extract, List.extract_eq_take_drop, List.drop_take, List.map_take, List.map_drop]
/-- Where 'x[l:h:m]' of a slice lies. -/
theorem slice_at {b o n l m base off : Nat} {c : Nat} (hm : m ≤ c) (ho : o = base + off ∨ c = 0) :
    ∃ o', (if m = l then (some (⟨b, o, none⟩ : Addr)) else (some (⟨b, o, none⟩ : Addr)).map (·.add (l * n))) = some ⟨b, o', none⟩ ∧ (o' = base + (off + l * n) ∨ m - l = 0) := by
  by_cases h : m = l
  · exact ⟨o, by rw [if_pos h], .inr (by omega)⟩
  · refine ⟨o + l * n, by rw [if_neg h, Option.map_some, addr_add], ?_⟩
    rcases ho with ho | ho
    · exact .inl (by omega)
    · exact .inr (by omega)

theorem boundA_mono {y y' d n : Nat} {a : AV} (h : boundA y d (some a) = some n) (hy : y ≤ y') : boundA y' d (some a) = some n := by
  unfold boundA at h ⊢
  split at h
  · rename_i he; cases he
  · rename_i k i he
    cases he
    split at h
    · rename_i h0
      split at h
      · rename_i h1
        have h1 := Nat.le_of_ble_eq_true h1
        simp only [Nat.ble_eq_true_of_le (Nat.le_trans h1 hy)]
        exact h
      · cases h
    · cases h
  · cases h
theorem bndA_sound {isS : Bool} {cap len cap' l h m : Nat} {lo hi mx : Option AV} {lo' hi' mx' : Option Value} (hb : bndA cap len lo hi mx = some (l, h, m))
    (rl : OptRel σ lo lo') (rh : OptRel σ hi hi') (rm : OptRel σ mx mx') (hle : len ≤ cap) (hc : cap ≤ cap') (hs : mx = none ∨ isS = true) :
    (Instr.sliceBounds isS len cap' lo' hi' mx').run P w = .ok (l, h, if mx = none then cap' else m) w ∧ l ≤ h ∧ h ≤ m ∧ m ≤ cap ∧ (mx = none → m = cap) := by
  unfold bndA at hb
  split at hb
  · split at hb
    · rename_i h' hh
      split at hb
      · rename_i l' hl
        cases hb
        obtain rfl : mx' = none := by rcases optRel_cases rm with ⟨_, e⟩ | ⟨_, _, e, _, _⟩; exact e; cases e
        obtain ⟨_, h2, h3⟩ := bounds2 (P := P) (w := w) (isS := isS) hh hl rh rl hle
        have hh' : boundA cap' len hi = some h := by
          cases hi with
          | none => exact hh
          | some a => exact boundA_mono hh hc
        obtain ⟨h1, _, _⟩ := bounds2 (P := P) (w := w) (isS := isS) hh' hl rh rl (Nat.le_trans hle hc)
        exact ⟨by simpa using h1, h2, h3, Nat.le_refl _, fun _ => rfl⟩
      · cases hb
    · cases hb
  · rename_i mv
    have hs : isS = true := hs.resolve_left (by simp)
    subst hs
    split at hb
    · rename_i hv
      split at hb
      · rename_i m' hm
        split at hb
        · rename_i h' hh
          split at hb
          · rename_i l' hl
            cases hb
            rcases optRel_cases rm with ⟨e, _⟩ | ⟨b, y, e, rfl, rb⟩
            · cases e
            cases e
            rcases optRel_cases rh with ⟨e, _⟩ | ⟨b', y', e, rfl, rb'⟩
            · cases e
            cases e
            have hm2 := (boundA_some (P := P) (w := w) hm rb .index).2
            obtain ⟨h1, h2, h3, h4⟩ := bounds3 (P := P) (w := w) (len := len) (boundA_mono hm hc) hh hl rb rb' rl
            exact ⟨by simpa using h1, h2, h3, hm2, fun e => by cases e⟩
          · cases hb
        · cases hb
      · cases hb
    · cases hb
theorem sliceA_sound {t : TypeId} {a v : AV} {x : Value} {lo hi mx : Option AV} {lo' hi' mx' : Option Value} (h : sliceA P t a lo hi mx = some v) (hx : VRel σ a x)
    (rl : OptRel σ lo lo') (rh : OptRel σ hi hi') (rm : OptRel σ mx mx') :
    ∃ v', (Instr.sliceAt t x lo' hi' mx').run P w = .ok v' w ∧ VRel σ v v' := by
  unfold sliceA at h
  split at h
  · rename_i hu
    split at h
    · rename_i s
      split at h
      · split at h
        · rename_i l h' m hb
          cases h
          obtain ⟨bs, rfl, hbs⟩ := hx.str_inv
          obtain rfl : mx' = none := by rcases optRel_cases rm with ⟨_, e⟩ | ⟨_, _, e, _, _⟩; exact e; cases e
          have hlen : s.length = bs.size := by rw [← hbs]; simp [bytesOf]
          rw [hlen] at hb
          obtain ⟨h1, _⟩ := bndA_sound (P := P) (w := w) (isS := false) hb rl rh (show OptRel σ none none from trivial) (Nat.le_refl _) (Nat.le_refl _) (.inl rfl)
          refine ⟨.string (bs.extract l h'), ?_, .str _ (by rw [bytesOf_extract, hbs])⟩
          rw [sliceAt_string hu]
          simp [Instr.slice, run_underlying_some hu, h1]
        · cases h
      · cases h
    · cases h
  · rename_i e hu
    split at h
    · rename_i n hn
      rw [sliceAt_slice hu]
      split at h
      · obtain rfl := hx.nils_inv
        split at h
        · rename_i r hb
          obtain ⟨l, h', m⟩ := r
          cases h
          obtain ⟨h1, h2, h3, h4, h5⟩ := bndA_sound (P := P) (w := w) (isS := true) hb rl rh rm (Nat.le_refl _) (Nat.le_refl _) (.inr rfl)
          refine ⟨.slice none 0 0, ?_, .nils⟩
          have : (if mx = none then 0 else m) - l = 0 := by split <;> omega
          have h0 : h' - l = 0 := by omega
          simp [Instr.slice, run_underlying_some hu, h1, run_sizeOf hn, this, h0]
        · cases h
      · rename_i id off len cap
        split at h
        · rename_i l h' m hb
          cases h
          obtain ⟨i, o, hi, hle, ho, rfl⟩ := hx.slice_inv
          obtain ⟨h1, h2, h3, h4, h5⟩ := bndA_sound (P := P) (w := w) (isS := true) hb rl rh rm hle (Nat.le_refl _) (.inr rfl)
          have hm : (if mx = none then cap else m) = m := by split
                                                             · rename_i e; exact (h5 e).symm
                                                             · rfl
          rw [hm] at h1
          obtain ⟨o', e1, e2⟩ := slice_at (b := i.blk) (n := n) (l := l) h4 ho
          refine ⟨.slice (some ⟨i.blk, o', none⟩) (h' - l) (m - l), ?_, .slice hi (by show h' - l ≤ m - l; omega) e2⟩
          simp only [Instr.slice, Sem.run_bind, run_underlying_some hu, h1, run_sizeOf hn, Result.andThen_ok, e1, Sem.run_pure]
        · cases h
      · rename_i id off len sz
        split at h
        · rename_i hz
          have hz := Nat.eq_of_beq_eq_true hz
          split at h
          · rename_i l h' m hb
            obtain ⟨i, o, c, hi, hle, hr, ho, rfl⟩ := hx.opn_inv
            obtain ⟨h1, h2, h3, h4, h5⟩ := bndA_sound (P := P) (w := w) (isS := true) hb rl rh rm (Nat.le_refl _) hle (.inr rfl)
            split at h
            · cases h
              simp only [if_true] at h1
              obtain ⟨o', e1, e2⟩ := slice_at (b := i.blk) (n := n) (l := l) (Nat.le_refl c) ho
              refine ⟨.slice (some ⟨i.blk, o', none⟩) (h' - l) (c - l), ?_, .opn hi (by show h' - l ≤ c - l; omega) ?_ e2⟩
              · simp only [Instr.slice, Sem.run_bind, run_underlying_some hu, h1, run_sizeOf hn, Result.andThen_ok, e1, Sem.run_pure]
              · show off + l * n + (c - l) * sz ≤ i.room
                subst hz
                have : l * sz + (c - l) * sz = c * sz := by rw [← Nat.add_mul]; congr 1; omega
                omega
            · cases h
              simp only [reduceCtorEq, if_false] at h1
              obtain ⟨o', e1, e2⟩ := slice_at (b := i.blk) (n := n) (l := l) (show m ≤ c by omega) ho
              refine ⟨.slice (some ⟨i.blk, o', none⟩) (h' - l) (m - l), ?_, .slice hi (by show h' - l ≤ m - l; omega) e2⟩
              simp only [Instr.slice, Sem.run_bind, run_underlying_some hu, h1, run_sizeOf hn, Result.andThen_ok, e1, Sem.run_pure]
          · cases h
        · cases h
      · cases h
    · cases h
  · rename_i n e hu
    split at h
    · rename_i z hz
      split at h
      · rename_i id off
        split at h
        · split at h
          · rename_i l h' m hb
            cases h
            obtain ⟨i, hi, rfl⟩ := hx.ptr_inv
            obtain rfl : mx' = none := by rcases optRel_cases rm with ⟨_, e⟩ | ⟨_, _, e, _, _⟩; exact e; cases e
            obtain ⟨h1, h2, h3, h4, h5⟩ := bndA_sound (P := P) (w := w) (isS := false) hb rl rh (show OptRel σ none none from trivial) (Nat.le_refl _) (Nat.le_refl _) (.inl rfl)
            simp only [if_true] at h1
            obtain ⟨o', e1, e2⟩ := slice_at (b := i.blk) (n := z) (l := l) (o := i.base + off) (base := i.base) (off := off) (Nat.le_refl n) (.inl rfl)
            refine ⟨.slice (some ⟨i.blk, o', none⟩) (h' - l) (n - l), ?_, .slice hi (by show h' - l ≤ n - l; omega) e2⟩
            have e1' : (some (if n = l then (⟨i.blk, i.base + off, none⟩ : Addr) else (Addr.mk i.blk (i.base + off) none).add (l * z))) = some ⟨i.blk, o', none⟩ := by
              rw [← e1]; split <;> rfl
            simp only [Instr.sliceAt, Sem.run_bind, run_underlying_some hu, Instr.sureAddr, Sem.run_pure, h1, run_sizeOf hz, Result.andThen_ok, e1']
          · cases h
        · cases h
      · cases h
    · cases h
  · cases h
end Go.Proofs.YtaadkdmbhckdeaaDoor.AX
