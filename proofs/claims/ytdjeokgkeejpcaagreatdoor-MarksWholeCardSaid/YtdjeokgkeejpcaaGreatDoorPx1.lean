/- PX: what reads as data ahead of the call reads so behind it, where all that was there is kept. -/
import Derived.Test.YtdjeokgkeejpcaaGreatDoorAx24
import GoSem.ClaimChange
namespace Go.Proofs.YtdjeokgkeejpcaaGreatDoor.AX
open Go
variable {H : Type} {enc : TypeId × Value → H} {P : Program} {w w' : World}

theorem mapM_keep {α β : Type} {f g : α → Option β} : ∀ {l : List α} {xs : List β}, l.mapM f = some xs → (∀ a ∈ l, ∀ y ∈ xs, f a = some y → g a = some y) → l.mapM g = some xs
  | [], xs, h, _ => by simpa using h
  | a :: l, xs, h, hg => by
    rw [List.mapM_cons] at h ⊢
    cases hf : f a with
    | none => rw [hf] at h; cases h
    | some y =>
      rw [hf] at h
      cases hr : l.mapM f with
      | none => simp [hr] at h
      | some ys =>
        simp [hr] at h
        subst h
        rw [hg a (List.mem_cons_self ..) y (List.mem_cons_self ..) hf]
        simp [mapM_keep hr fun b hb z hz => hg b (List.mem_cons_of_mem _ hb) z (List.mem_cons_of_mem _ hz)]
theorem mapM_len {α β : Type} {f : α → Option β} : ∀ {l : List α} {xs : List β}, l.mapM f = some xs → xs.length = l.length
  | [], xs, h => by simp at h; subst h; rfl
  | a :: l, xs, h => by
    rw [List.mapM_cons] at h
    cases hf : f a with
    | none => rw [hf] at h; cases h
    | some y =>
      rw [hf] at h
      cases hr : l.mapM f with
      | none => simp [hr] at h
      | some ys =>
        simp [hr] at h
        subst h
        simp [mapM_len hr]
theorem bind_keep {α β : Type} {o o' : Option α} {f g : α → Option β} {y : β} (h : o.bind f = some y) (ho : ∀ x, o = some x → o' = some x) (hf : ∀ x, f x = some y → g x = some y) : o'.bind g = some y := by
  cases o with
  | none => cases h
  | some x => rw [ho x rfl]; exact hf x h
theorem map_keep {α β : Type} {o o' : Option α} {f : α → β} {y : β} (h : o.map f = some y) (ho : ∀ x, o = some x → f x = y → o' = some x) : o'.map f = some y := by
  cases o with
  | none => cases h
  | some x =>
    have e : f x = y := by simpa using h
    rw [ho x rfl e]; simp [e]
def KeptH (w w' : World) : Prop := ∀ (k : Nat) (o : Obj), w.heap[k]? = some o → w'.heap[k]? = some o
theorem KeptH.cell (h : KeptH w w') {a : Addr} {v : Value} (hc : w.cell? a = some v) : w'.cell? a = some v := by
  unfold World.cell? at hc ⊢
  cases hb : w.heap[a.block]? with
  | none => simp [hb] at hc
  | some o => rw [hb] at hc; rw [h _ _ hb]; exact hc
theorem KeptH.cells (h : KeptH w w') {b : Nat} {a : Addr} {n : Nat} {l : List Value} (hc : w.cells? b a n = some l) : w'.cells? b a n = some l := by
  unfold World.cells? at hc ⊢
  split at hc
  · rename_i h0
    rw [if_pos h0]
    exact mapM_keep hc fun i _ y _ hy => h.cell hy
  · cases hc
/-- Types, closed under their parts; no slice among them has elements without cells. -/
def closedB (P : Program) (l : List Nat) : Bool := l.all fun t => match P.underlying t with
  | some (.pointer e) => l.contains e
  | some (.slice e) => l.contains e && !(Nat.beq (P.cellsOf e) 0)
  | some (.struct fs) => fs.toList.all fun f => l.contains f.type
  | some (.array _ e) => l.contains e
  | some (.map _ e) => l.contains e
  | _ => true
theorem closedB_at {l : List Nat} (h : closedB P l = true) {t : Nat} (ht : t ∈ l) : (match P.underlying t with
  | some (.pointer e) => l.contains e
  | some (.slice e) => l.contains e && !(Nat.beq (P.cellsOf e) 0)
  | some (.struct fs) => fs.toList.all fun f => l.contains f.type
  | some (.array _ e) => l.contains e
  | some (.map _ e) => l.contains e
  | _ => true) = true := List.all_eq_true.1 h t ht
theorem mem_row (a : Addr) (n : Nat) (h : 0 < n) : MemPlace.cell a.block a.off ∈ MemPlace.row a n := by
  unfold MemPlace.row
  exact List.mem_map.2 ⟨0, List.mem_range.2 h, by simp⟩
theorem sub_flat {α β : Type} {l : List (α × List β)} {y : α × List β} (hy : y ∈ l) {p : β} (hp : p ∈ y.2) : p ∈ l.flatMap (·.2) := List.mem_flatMap.2 ⟨y, hy, hp⟩
set_option maxHeartbeats 4000000 in
theorem trod_keep (hk : KeptH w w') {l : List Nat} (hz : closedB P l = true) (sp : Nat → Bool) : ∀ (fuel : Nat) (t : TypeId), t ∈ l → ∀ (cs : List Value) (d : DataW H) (ps : List MemPlace),
    DataW.trod enc P w 0 (fun _ => true) true fuel t cs = some (d, ps) → (∀ p ∈ ps, sp p.block = true) → DataW.trod enc P w' 0 sp true fuel t cs = some (d, ps) := by
  intro fuel
  induction fuel with
  | zero => intro t _ cs d ps h _; cases h
  | succ n ih =>
    intro t ht cs d ps h hp
    have hc := closedB_at hz ht
    unfold DataW.trod at h ⊢
    split at h
    case h_6 =>
      rename_i e a hu
      rw [hu] at hc
      have hc : e ∈ l := by simpa using hc
      refine map_keep h fun x hx he => ?_
      cases he
      exact bind_keep hx (fun l hl => hk.cells hl) fun l hl => ih _ hc _ _ _ hl fun p hpp => hp p (List.mem_append_right _ hpp)
    case h_8 =>
      rename_i e a len cap hu
      rw [hu] at hc
      simp only [Bool.and_eq_true] at hc
      obtain ⟨hc, hz0⟩ := hc
      have hc : e ∈ l := by simpa using hc
      have hz0 : P.cellsOf e ≠ 0 := by intro h0; rw [h0] at hz0; cases hz0
      split at h
      · rename_i h0
        rw [if_pos h0]
        cases hE : (List.range len).mapM fun i => (w.cells? 0 (a.add (i * P.cellsOf e)) (P.cellsOf e)).bind (DataW.trod enc P w 0 (fun _ => true) true n e) with
        | none => simp [hE] at h
        | some elems =>
          cases hR : (List.range (cap - len)).mapM fun j => (w.cells? 0 (a.add ((len + j) * P.cellsOf e)) (P.cellsOf e)).bind (DataW.trod enc P w 0 (fun _ => true) true n e) with
          | none => simp [hE, hR] at h
          | some rest =>
            simp [hE, hR] at h
            obtain ⟨h1, h2⟩ := h
            have hE' : ((List.range len).mapM fun i => (w'.cells? 0 (a.add (i * P.cellsOf e)) (P.cellsOf e)).bind (DataW.trod enc P w' 0 sp true n e)) = some elems :=
              mapM_keep hE fun i _ y hy h => bind_keep h (fun l hl => hk.cells hl) fun l hl => ih _ hc _ _ _ hl fun p hpp => hp p (by
                rw [← h2]
                exact List.mem_append_right _ (List.mem_append_left _ (sub_flat hy hpp)))
            have hR' : ((List.range (cap - len)).mapM fun j => (w'.cells? 0 (a.add ((len + j) * P.cellsOf e)) (P.cellsOf e)).bind (DataW.trod enc P w' 0 sp true n e)) = some rest :=
              mapM_keep hR fun i _ y hy h => bind_keep h (fun l hl => hk.cells hl) fun l hl => ih _ hc _ _ _ hl fun p hpp => hp p (by
                rw [← h2]
                exact List.mem_append_right _ (List.mem_append_right _ (sub_flat hy hpp)))
            have hspr : sp a.block = true ∨ rest = [] := by
              by_cases hr : rest = []
              · exact .inr hr
              · refine .inl (hp (.cell a.block a.off) ?_)
                rw [← h2]
                refine List.mem_append_left _ (mem_row _ _ ?_)
                have : 0 < rest.length := List.length_pos_iff.2 hr
                exact Nat.mul_pos (by omega) (Nat.pos_of_ne_zero hz0)
            rcases hspr with hs | rfl
            · simp [hE', hR', hs, h1, h2]
            · have hl0 : cap - len = 0 := by
                have := mapM_len hR
                simp at this
                omega
              rw [hl0]
              simp [hE']
              exact ⟨h1, by simpa using h2⟩
      · cases h
    case h_9 =>
      rename_i fs hu
      rw [hu] at hc
      have hc : ∀ f ∈ fs.toList, f.type ∈ l := fun f hf => by simpa using List.all_eq_true.1 hc f hf
      split at h
      · rename_i h0
        rw [if_pos h0]
        refine map_keep h fun x hx he => ?_
        cases he
        exact mapM_keep hx fun f hfm y hy hf => ih _ (hc f hfm) _ _ _ hf fun p hpp => hp p (sub_flat hy hpp)
      · cases h
    case h_10 =>
      rename_i m e hu
      rw [hu] at hc
      have hc : e ∈ l := by simpa using hc
      split at h
      · rename_i h0
        rw [if_pos h0]
        refine map_keep h fun x hx he => ?_
        cases he
        exact mapM_keep hx fun f _ y hy hf => ih _ hc _ _ _ hf fun p hpp => hp p (sub_flat hy hpp)
      · cases h
    case h_14 =>
      rename_i k e b hu
      rw [hu] at hc
      have hc : e ∈ l := by simpa using hc
      split at h
      · rename_i es clock hb
        rw [hk _ _ hb]
        simp only
        split at h
        · rename_i h0
          rw [if_pos h0]
          cases hE : es.toList.mapM (fun x => (keyOf P k x.key).bind fun key => if x.val.formed P e then (DataW.trod enc P w 0 (fun _ => true) true n e x.val.cells.toList).map fun y => ((key, y.1), y.2) else none) with
          | none => simp only [hE, Option.bind_none] at h; cases h
          | some entries =>
            simp only [hE, Option.bind_some] at h
            split at h
            · rename_i hr
              cases h
              have hE' : es.toList.mapM (fun x => (keyOf P k x.key).bind fun key => if x.val.formed P e then (DataW.trod enc P w' 0 sp true n e x.val.cells.toList).map fun y => ((key, y.1), y.2) else none) = some entries := by
                refine mapM_keep hE fun x _ y hy hx => bind_keep hx (fun _ h => h) fun key hkk => ?_
                split at hkk
                · rename_i hfm
                  rw [if_pos hfm]
                  refine map_keep hkk fun z hz he => ?_
                  exact ih _ hc _ _ _ hz fun p hpp => hp p (List.mem_cons_of_mem _ (List.mem_flatMap.2 ⟨y, hy, by rw [← he]; exact hpp⟩))
                · cases hkk
              simp only [hE', Option.bind_some]
              rw [if_pos hr]
            · cases h
        · cases h
      · cases h
    all_goals first
      | exact h
      | cases h
theorem Trod_keep (hk : KeptH w w') {l : List Nat} (hz : closedB P l = true) {sp : Nat → Bool} {t : TypeId} (ht : t ∈ l) {v : Value} {d : DataW H} {ps : List MemPlace} (h : DataW.Trod enc P w 0 (fun _ => true) true t v d ps) (hp : ∀ p ∈ ps, sp p.block = true) :
    DataW.Trod enc P w' 0 sp true t v d ps := by
  obtain ⟨n, h⟩ := h
  exact ⟨n, trod_keep hk hz sp n _ ht _ _ _ h hp⟩
theorem trodAll_keep (hk : KeptH w w') {l : List Nat} (hz : closedB P l = true) {sp : Nat → Bool} : ∀ {ts : List TypeId} {vs : List Value} {ds : List (DataW H)} {ps : List MemPlace}, (∀ t ∈ ts, t ∈ l) → DataW.TrodAll enc P w 0 (fun _ => true) true ts vs ds ps →
    (∀ p ∈ ps, sp p.block = true) → DataW.TrodAll enc P w' 0 sp true ts vs ds ps
  | [], [], [], _, _, h, _ => h
  | t :: ts, v :: vs, d :: ds, ps, ht, h, hp => by
    obtain ⟨p, q, h1, h2, rfl⟩ := h
    exact ⟨p, q, Trod_keep hk hz (ht t (List.mem_cons_self ..)) h1 fun x hx => hp x (List.mem_append_left _ hx), trodAll_keep hk hz (fun t h => ht t (List.mem_cons_of_mem _ h)) h2 fun x hx => hp x (List.mem_append_right _ hx), rfl⟩
  | [], [], _ :: _, _, _, h, _ => h.elim
  | [], _ :: _, _, _, _, h, _ => h.elim
  | _ :: _, [], _, _, _, h, _ => h.elim
  | _ :: _, _ :: _, [], _, _, h, _ => h.elim
theorem Kept.keptH (k : Kept w w') : KeptH w w' := k.block
/-- A law that leaves all that was there: its post. -/
theorem post_true {f : Func} {s : ChangeSpec} {apart fresh handsOn again : Bool} {W W' : World} {args : Array Value} {v : Value} {ds : List (DataW H)} {before : List MemPlace} {l : List Nat} (hz : closedB P l = true) (hl : ∀ t ∈ f.params.toList, t ∈ l)
    (hW : DataW.Whole enc P f.params.toList s.vars apart W args.toList ds [] before)
    (hres : ∀ (b : Nat) (sp : Nat → Bool) (hd : Bool), DataW.TrodAll enc P W' b sp hd f.resultTypes.toList (v.resultList f.resultTypes.size) (s.fn H (ds ++ [])).results [])
    (hargs : (s.fn H (ds ++ [])).args = ds) (hv : s.vars = []) (hvars : (s.fn H (ds ++ [])).vars = []) (hk : Kept W W')
    (hok : ∀ (j : Nat) (t : TypeId) (r : Value), f.resultTypes[j]? = some t → (v.resultList f.resultTypes.size)[j]? = some r → Value.okWide P W' .any 0 t r) :
    s.post enc P f apart fresh handsOn again W args v W' := by
  have hW' := hW
  obtain ⟨p, q, hA, hV, rfl, _, _⟩ := hW'
  rw [hv] at hV
  obtain rfl : q = [] := hV
  exact post_of_kept (pa := p) (pv := []) hW hres (fun sp hsp => by rw [hargs]; exact trodAll_keep hk.keptH hz hl hA fun x hx => hsp x (List.mem_append_left _ hx))
    (fun sp _ => by rw [hv, hvars]; exact rfl) rfl hk hok
end Go.Proofs.YtdjeokgkeejpcaaGreatDoor.AX
