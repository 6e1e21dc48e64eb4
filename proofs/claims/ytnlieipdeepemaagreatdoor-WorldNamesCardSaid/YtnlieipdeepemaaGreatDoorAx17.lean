/- AX, part 17: forcing changes nothing; the count of names never falls. -/
import Derived.Test.YtnlieipdeepemaaGreatDoorAx16
namespace Go.Proofs.YtnlieipdeepemaaGreatDoor.AX
open Go

theorem putK_done {sz : Nat} {d : Option Tmp} {v : AV} {fr : Fr} {k : Fr → Res} {r : Res} (h : putK sz d v fr k = r) (hr : ∀ s, r ≠ .fail s) :
    (d = none ∧ k fr = r) ∨ ∃ t, d = some t ∧ t < sz ∧ k (fr.set t v) = r := by
  unfold putK at h
  split at h
  · exact .inl ⟨rfl, h⟩
  · rename_i t
    split at h
    · rename_i hb
      rw [forceV_eq] at h
      exact .inr ⟨t, rfl, Nat.le_of_ble_eq_true hb, h⟩
    · exact absurd h.symm (hr _)

/-- A continuation ends with no fewer names than it is given. -/
def KM (r : Res) (nf : Nat) (k : KN) : Prop := ∀ fr ds hp nx, k fr ds hp nx = r → nx ≤ nf
def ClM (cl : CallF) : Prop := ∀ t args hp nx, ∀ v hp' nx', cl t args hp nx = .done v hp' nx' → nx ≤ nx'

theorem callFn_mono {cl : CallF} (hc : ClM cl) {f : AV} {args : List AV} {hp : Hp} {nx : Nat} :
    ∀ v hp' nx', callFn cl f args hp nx = .done v hp' nx' → nx ≤ nx' := by
  unfold callFn
  split
  · exact hc _ _ _ _
  · exact fun _ _ _ h => (by cases h)
theorem callVal_mono {ext : T Nat} {cl : CallF} (hc : ClM cl) {f : AV} {args : List AV} {hp : Hp} {nx : Nat} :
    ∀ v hp' nx', callVal ext cl f args hp nx = .done v hp' nx' → nx ≤ nx' := by
  unfold callVal
  split
  · split
    · exact hc _ _ _ _
    · split
      · intro v hp' nx' h; cases h; exact Nat.le_refl _
      · exact fun _ _ _ h => (by cases h)
  · exact hc _ _ _ _
  · exact fun _ _ _ h => (by cases h)
theorem storeA_mono {C : Ctx} {t : TypeId} {x v : AV} {hp : Hp} {nx : Nat} :
    ∀ v' hp' nx', storeA C t x v hp nx = .done v' hp' nx' → nx ≤ nx' := by
  unfold storeA
  (repeat' split) <;> exact fun _ _ _ h => (by cases h <;> exact Nat.le_refl _)
theorem updA_mono {d : TypeDesc} {k v : AV} {nx : Nat} {g : Bool → List (AV × AV) → Res} (hg : ∀ n l v' hp' nx', g n l = .done v' hp' nx' → nx ≤ nx') : ∀ {es : List (AV × AV)} v' hp' nx', updA d k v es g = .done v' hp' nx' → nx ≤ nx' := by
  intro es v' hp' nx' h
  obtain ⟨n, l, _, h2⟩ := updA_spec h
  exact hg n l _ _ _ h2
theorem mapUpdateA_mono {P : Program} {t : TypeId} {m k v : AV} {hp : Hp} {nx : Nat} :
    ∀ v' hp' nx', mapUpdateA P t m k v hp nx = .done v' hp' nx' → nx ≤ nx' := by
  unfold mapUpdateA
  (repeat' split) <;> first
    | exact fun _ _ _ h => (by cases h; exact Nat.le_refl _)
    | (intro v' hp' nx' h
       rw [forceV_eq, forceV_eq] at h
       exact updA_mono (fun n l v' hp' nx' h => by cases h; exact Nat.le_refl _) v' hp' nx' h)
    | exact fun _ _ _ h => (by cases h)
theorem rangeA_mono {P : Program} {t : TypeId} {x : AV} {hp : Hp} {nx : Nat} : ∀ v' hp' nx', rangeA P t x hp nx = .done v' hp' nx' → nx ≤ nx' := by
  unfold rangeA
  (repeat' split) <;> exact fun _ _ _ h => (by cases h <;> exact Nat.le_succ _)
theorem nextA_mono {it : AV} {hp : Hp} {nx : Nat} : ∀ v' hp' nx', nextA it hp nx = .done v' hp' nx' → nx ≤ nx' := by
  unfold nextA
  (repeat' split) <;> exact fun _ _ _ h => (by cases h <;> exact Nat.le_refl _)
theorem growA_mono {e z b n : Nat} {o w : List AV} {hp : Hp} {nx : Nat} :
    ∀ v' hp' nx', growA e z b n o w hp nx = .done v' hp' nx' → nx ≤ nx' := by
  unfold growA
  split <;> exact fun _ _ _ h => (by cases h <;> exact Nat.le_succ _)
theorem opnA_mono {e id off len z b n : Nat} {w : List AV} {hp : Hp} {nx : Nat} :
    ∀ v' hp' nx', opnA e id off len z b n w hp nx = .done v' hp' nx' → nx ≤ nx' := by
  unfold opnA
  (repeat' split) <;> exact fun _ _ _ h => (by cases h <;> exact Nat.le_succ _)
theorem sliceAppA_mono {e id off len cap z b n : Nat} {w : List AV} {hp : Hp} {nx : Nat} :
    ∀ v' hp' nx', sliceAppA e id off len cap z b n w hp nx = .done v' hp' nx' → nx ≤ nx' := by
  unfold sliceAppA
  split
  · (repeat' split) <;> exact fun _ _ _ h => (by cases h <;> exact Nat.le_refl _)
  · split
    · exact growA_mono
    · exact fun _ _ _ h => (by cases h)
theorem appendA_mono {C : Ctx} {ts : Array TypeId} {s x : AV} {hp : Hp} {nx : Nat} :
    ∀ v' hp' nx', appendA C ts s x hp nx = .done v' hp' nx' → nx ≤ nx' := by
  unfold appendA
  (repeat' split) <;> first
    | exact growA_mono
    | exact sliceAppA_mono
    | exact opnA_mono
    | exact fun _ _ _ h => (by cases h <;> exact Nat.le_refl _)
theorem copyA_mono {C : Ctx} {ts : Array TypeId} {d s : AV} {hp : Hp} {nx : Nat} : ∀ v' hp' nx', copyA C ts d s hp nx = .done v' hp' nx' → nx ≤ nx' := by
  unfold copyA
  (repeat' split) <;> exact fun _ _ _ h => (by cases h <;> exact Nat.le_refl _)
theorem clearA_mono {C : Ctx} {ts : Array TypeId} {d : AV} {hp : Hp} {nx : Nat} : ∀ v' hp' nx', clearA C ts d hp nx = .done v' hp' nx' → nx ≤ nx' := by
  unfold clearA
  (repeat' split) <;> exact fun _ _ _ h => (by cases h <;> exact Nat.le_refl _)
theorem deleteA_mono {C : Ctx} {ts : Array TypeId} {m k : AV} {hp : Hp} {nx : Nat} : ∀ v' hp' nx', deleteA C ts m k hp nx = .done v' hp' nx' → nx ≤ nx' := by
  unfold deleteA
  (repeat' split) <;> exact fun _ _ _ h => (by cases h <;> exact Nat.le_refl _)
theorem dataA_mono {x : AV} {hp : Hp} {nx : Nat} : ∀ v' hp' nx', dataA x hp nx = .done v' hp' nx' → nx ≤ nx' := by
  unfold dataA
  split <;> exact fun _ _ _ h => (by cases h <;> exact Nat.le_refl _)
theorem ustrA_mono {C : Ctx} {ts : Array TypeId} {p n : AV} {hp : Hp} {nx : Nat} : ∀ v' hp' nx', ustrA C ts p n hp nx = .done v' hp' nx' → nx ≤ nx' := by
  unfold ustrA
  (repeat' split) <;> exact fun _ _ _ h => (by cases h <;> exact Nat.le_refl _)
theorem invokeA_mono {C : Ctx} {cl : CallF} (hc : ClM cl) {x : AV} {name : String} {args : List AV} {hp : Hp} {nx : Nat} : ∀ v' hp' nx', invokeA C cl x name args hp nx = .done v' hp' nx' → nx ≤ nx' := by
  unfold invokeA
  (repeat' split) <;> first
    | exact hc _ _ _ _
    | exact fun _ _ _ h => (by cases h)
theorem wA_mono {C : Ctx} {cl : CallF} (hc : ClM cl) {o : Op} {ρ : Operand → AV} {hp : Hp} {nx : Nat} :
    ∀ v' hp' nx', wA C cl o ρ hp nx = .done v' hp' nx' → nx ≤ nx' := by
  unfold wA
  (repeat' split) <;> first
    | exact storeA_mono
    | exact mapUpdateA_mono
    | exact rangeA_mono
    | exact nextA_mono
    | exact callVal_mono hc
    | exact appendA_mono
    | exact copyA_mono
    | exact clearA_mono
    | exact deleteA_mono
    | exact dataA_mono
    | exact ustrA_mono
    | exact invokeA_mono hc
    | exact fun _ _ _ h => (by cases h)

section
variable {v : AV} {hf : Hp} {nf : Nat}
theorem done_ne_fail : ∀ s, (Res.done v hf nf) ≠ .fail s := fun s h => by cases h
theorem putK_mono {sz : Nat} {d : Option Tmp} {x : AV} {fr : Fr} {k : Fr → Res} {n : Nat} (hk : ∀ fr, k fr = .done v hf nf → n ≤ nf) (h : putK sz d x fr k = .done v hf nf) : n ≤ nf := by
  rcases putK_done h done_ne_fail with ⟨_, h⟩ | ⟨_, _, _, h⟩
  · exact hk _ h
  · exact hk _ h
theorem opK_mono {C : Ctx} {cl : CallF} (hc : ClM cl) {sz : Nat} {all : Array Oper} {o : Oper} {kn : KN} {kp : List APan → KN} (hn : KM (.done v hf nf) nf kn) (hp : ∀ c fr ds hp nx, kp c fr ds hp nx ≠ .done v hf nf) :
    KM (.done v hf nf) nf (fun fr ds hp nx => opK C cl sz all o fr ds hp nx kn kp) := by
  intro fr ds hp' nx h
  simp only [opK] at h
  split at h
  · cases h
  · exact putK_mono (fun fr h => hn _ _ _ _ h) h
  · split at h
    · split at h
      · exact putK_mono (fun fr h => hn _ _ _ _ h) h
      · cases h
    · split at h
      · exact putK_mono (fun fr h => hn _ _ _ _ h) h
      · cases h
    · split at h
      · exact putK_mono (fun fr h => by rw [forceN_eq] at h; have := hn _ _ _ _ h; omega) h
      · cases h
    · split at h
      · exact putK_mono (fun fr h => hn _ _ _ _ h) h
      · cases h
    · split at h
      · rename_i hw
        have h1 := wA_mono hc _ _ _ hw
        exact putK_mono (fun fr h => by have := hn _ _ _ _ h; omega) h
      · rename_i hw
        exact absurd h (hp _ _ _ _ _)
      · cases h
      · cases h
theorem opsK_mono {C : Ctx} {cl : CallF} (hc : ClM cl) {sz : Nat} {all : Array Oper} {kn : KN} {kp : List APan → KN} (hn : KM (.done v hf nf) nf kn) (hp : ∀ c fr ds hp nx, kp c fr ds hp nx ≠ .done v hf nf) :
    ∀ l, KM (.done v hf nf) nf (opsK C cl sz all l kn kp)
  | [] => hn
  | _ :: l => opK_mono hc (opsK_mono hc hn hp l) hp
theorem putR_ok {pos : String} {sz : Nat} {d : Option Tmp} {x : AV} {s t : Dr} {k : Fr → Dr} (h : putR pos sz d x s k = .ok t) : ∃ fr, putD sz d x s.fr = some fr ∧ t = k fr := by
  unfold putR at h
  split at h
  · rename_i fr hfr; cases h; exact ⟨fr, hfr, rfl⟩
  · cases h
theorem drawOp_mono {C : Ctx} {cl : CallF} (hc : ClM cl) {sz : Nat} {all : Array Oper} {o : Oper} {i b : Nat} {s t : Dr} (h : drawOp C cl sz all o i b s = .ok t) : s.nx ≤ t.nx := by
  unfold drawOp at h
  split at h
  · cases h
  · obtain ⟨_, _, rfl⟩ := putR_ok h; exact Nat.le_refl _
  · split at h
    · split at h
      · obtain ⟨_, _, rfl⟩ := putR_ok h; exact Nat.le_refl _
      · cases h
    · split at h
      · split at h
        · obtain ⟨_, _, rfl⟩ := putR_ok h; exact Nat.le_refl _
        · cases h
      · split at h
        · split at h
          · obtain ⟨_, _, rfl⟩ := putR_ok h; exact Nat.le_refl _
          · cases h
        · cases h
    · split at h
      · obtain ⟨_, _, rfl⟩ := putR_ok h; exact Nat.le_succ _
      · cases h
    · split at h
      · rename_i hw
        split at h
        · obtain ⟨_, _, rfl⟩ := putR_ok h; exact wA_mono hc _ _ _ hw
        · cases h
      · cases h
      · cases h
theorem drawOps_mono {C : Ctx} {cl : CallF} (hc : ClM cl) {sz : Nat} {all : Array Oper} {m : T Nat} : ∀ (l : List Oper) (i : Nat) (s t : Dr), drawOps C cl sz all m l i s = .ok t → s.nx ≤ t.nx
  | [], _, s, t, h => by simp only [drawOps] at h; cases h; exact Nat.le_refl _
  | o :: l, i, s, t, h => by
    simp only [drawOps] at h
    split at h
    · split at h
      · rename_i hs
        exact Nat.le_trans (drawOp_mono hc hs) (drawOps_mono hc l _ _ _ h)
      · cases h
    · cases h
theorem regionK_mono {C : Ctx} {cl : CallF} (hc : ClM cl) {sz : Nat} {ops : Array Oper} {draw : Bool} {kn : KN} {kp : List APan → KN} (hn : KM (.done v hf nf) nf kn) (hp : ∀ c fr ds hp nx, kp c fr ds hp nx ≠ .done v hf nf) :
    KM (.done v hf nf) nf (regionK C cl sz ops draw kn kp) := by
  unfold regionK
  split
  · exact opsK_mono hc hn hp _
  · intro fr ds hp' nx h
    simp only at h
    split at h
    · split at h
      · rename_i hs
        have h1 := drawOps_mono hc _ _ _ _ hs
        have h2 := hn _ _ _ _ h
        simp only at h1
        omega
      · cases h
    · split at h
      · split at h
        · rename_i hs
          have h1 := drawOps_mono hc _ _ _ _ hs
          have h2 := hn _ _ _ _ h
          simp only at h1
          omega
        · cases h
      · cases h
theorem endLoopK_mono {l : Nat} {fr : Fr} {ds : List ADef} {hp : Hp} {nx : Nat} {kn : KN} {kx : Nat → KN} {kr : KN} (hn : KM (.done v hf nf) nf kn) (hx : ∀ i, KM (.done v hf nf) nf (kx i)) (hr : KM (.done v hf nf) nf kr)
    (h : endLoopK l fr ds hp nx kn kx kr = .done v hf nf) : nx ≤ nf := by
  unfold endLoopK at h
  (repeat' split at h) <;> first | exact hn _ _ _ _ h | exact hx _ _ _ _ _ h | exact hr _ _ _ _ h | cases h
theorem rangeK_mono {cl : CallF} (hc : ClM cl) {f : FuncId} {sz : Nat} {ro : Option Nat} {g : Operand} {ps : Array Tmp} {as bd : Code} {kn : KN} {kx : Nat → KN} {kr : KN} {kp : List APan → KN}
    (hn : KM (.done v hf nf) nf kn) (hx : ∀ i, KM (.done v hf nf) nf (kx i)) (hr : KM (.done v hf nf) nf kr) (hp : ∀ c fr ds hp nx, kp c fr ds hp nx ≠ .done v hf nf) :
    KM (.done v hf nf) nf (fun fr ds hp nx => rangeK cl f sz ro g ps as bd fr ds hp nx kn kx kr kp) := by
  intro fr ds hp' nx h
  simp only [rangeK] at h
  split at h
  · split at h
    · rename_i hcall
      have h1 := callFn_mono hc _ _ _ hcall
      have h2 := endLoopK_mono hn hx hr h
      simp only [Nat.succ_eq_add_one] at h1
      omega
    · rename_i hcall
      exact absurd h (hp _ _ _ _ _)
    · cases h
  · split at h
    · split at h
      · rename_i hcall
        have h1 := callFn_mono hc _ _ _ hcall
        have h2 := endLoopK_mono hn hx hr h
        simp only [Nat.succ_eq_add_one] at h1
        omega
      · rename_i hcall
        exact absurd h (hp _ _ _ _ _)
      · cases h
    · cases h
theorem condK_mono {c : Operand} {a b : KN} (ha : KM (.done v hf nf) nf a) (hb : KM (.done v hf nf) nf b) : KM (.done v hf nf) nf (condK c a b) := by
  intro fr ds hp nx h
  unfold condK at h
  split at h
  · exact ha _ _ _ _ h
  · exact hb _ _ _ _ h
  · cases h
theorem failK_mono : KM (.done v hf nf) nf failK := fun _ _ _ _ h => by cases h
theorem loopK_mono {body : KN → KN} (hb : ∀ k, KM (.done v hf nf) nf k → KM (.done v hf nf) nf (body k)) : KM (.done v hf nf) nf (loopK body) := by
  unfold loopK
  generalize 1000000000 = n
  induction n with
  | zero => exact fun _ _ _ _ h => by cases h
  | succ n ih => exact hb _ ih
theorem ex_mono {C : Ctx} {cl : CallF} (hc : ClM cl) {f : FuncId} {sz : Nat} {ro : Option Nat} : ∀ (c : Code) {kn : KN} {kx : Nat → KN} {kr : KN} {kp : List APan → KN},
    KM (.done v hf nf) nf kn → (∀ i, KM (.done v hf nf) nf (kx i)) → KM (.done v hf nf) nf kr → (∀ c fr ds hp nx, kp c fr ds hp nx ≠ .done v hf nf) → KM (.done v hf nf) nf (ex C cl f sz ro c kn kx kr kp) := by
  intro c
  induction c with
  | skip => intro kn kx kr kp hn hx hr hp; exact hn
  | region id ops draw => intro kn kx kr kp hn hx hr hp; exact regionK_mono hc hn hp
  | seq a b iha ihb => intro kn kx kr kp hn hx hr hp; exact iha (ihb hn hx hr hp) hx hr hp
  | cond c a b iha ihb => intro kn kx kr kp hn hx hr hp; exact condK_mono (iha hn hx hr hp) (ihb hn hx hr hp)
  | block id a iha =>
    intro kn kx kr kp hn hx hr hp
    refine iha hn (fun i => ?_) hr hp
    show KM _ nf (Bool.rec (kx i) kn (Nat.beq i id))
    cases Nat.beq i id
    · exact hx i
    · exact hn
  | loop a iha => intro kn kx kr kp hn hx hr hp; exact loopK_mono fun k hk => iha hk hx hr hp
  | rangeFunc g ps as bd _ _ => intro kn kx kr kp hn hx hr hp; exact rangeK_mono hc hn hx hr hp
  | exit id => intro kn kx kr kp hn hx hr hp; exact hx id
  | scope a iha => intro kn kx kr kp hn hx hr hp; exact iha hn hx hr hp
  | label l => intro kn kx kr kp hn hx hr hp; exact hn
  | goto l => intro kn kx kr kp hn hx hr hp; exact failK_mono
  | ret => intro kn kx kr kp hn hx hr hp; exact hr
  | refuse w => intro kn kx kr kp hn hx hr hp; exact failK_mono
end
end Go.Proofs.YtnlieipdeepemaaGreatDoor.AX
