/-
  AE, part 22: functions of plain arguments are evaluated in an empty heap; what they leave is put behind the caller's.
-/
import Derived.Test.YtimngnabpolgkaaGreatInG4
namespace Go.AE
noncomputable section
set_option linter.unusedSimpArgs false
set_option linter.unusedVariables false
variable {P : Program} {ρ : Ren} {ov : Over}

/-- Not one only to be read. -/
def AObj.rw : AObj → Bool
  | .cells _ _ _ _ _ _ ro _ => !ro
  | .map _ _ ro => !ro
  | _ => true

theorem ORel.rw {i : Info} {o : AObj} {b : Obj} (k : ORel ρ i o b) (h : o.rw = true) : i.ro = false := by
  cases o with
  | cells c n elem fz esz op ro d =>
    obtain ⟨C, e1, e2, e3, e4, e5, e6, e7, e8, e9, hv⟩ := k
    simpa [AObj.rw, ← e4] using h
  | map es clock ro =>
    obtain ⟨es', e1, e2, e3, e4, hv⟩ := k
    simpa [AObj.rw, ← e3] using h
  | iter s pos => exact (k : _ ∧ _).2.2
  | loop st pend tmps params assign body defers =>
    obtain ⟨fn, tmps', d', j, e1, e2, e3, e4, e5, e6⟩ := k
    exact e3
  | defs => exact (k : _ ∧ _).2.2
  | mapIter m since seen last =>
    obtain ⟨j, e1, e2, e3, e4⟩ := k
    exact e3

/-- h₁ is h and, behind it, by other names, some of what h₂ has. -/
structure HC (π : Nat → Nat) (h h₁ h₂ : AH) : Prop where
  next : h.next ≤ h₁.next
  old : ∀ β, β < h.next → h₁.get β = h.get β ∧ π β = h₂.next
  obj : ∀ β o, h.next ≤ β → h₁.get β = some o → β < h₁.next ∧ o.rw = true ∧ ∃ o', h₂.get (π β) = some o' ∧ OO h₁.next π o o'
  inj : ∀ β γ, h.next ≤ β → h.next ≤ γ → β < h₁.next → γ < h₁.next → π β = π γ → β = γ

theorem closed_sound {h h₁ h₂ : AH} {v₁ v₂ v' : Value} {w w₂ : World} {ρ₂ : Ren} {π : Nat → Nat} (hR : Rel ρ h w.heap) (hst : Step (fun _ => none) w ρ₂ w₂) (hR2 : Rel ρ₂ h₂ w₂.heap) (hv2 : V ρ₂ v₂ v')
    (hH : HC π h h₁ h₂) (hv : VV h₁.next π v₁ v₂) : ∃ ρ₁, Step ρ w ρ₁ w₂ ∧ Rel ρ₁ h₁ w₂.heap ∧ V ρ₁ v₁ v' := by
  have hfr : ∀ b, b < w.heap.size → w₂.heap[b]? = w.heap[b]? := fun b hb => hst.frame b hb fun β i e => by cases e
  have hfresh : ∀ β i, ρ₂ β = some i → w.heap.size ≤ i.b := fun β i e => by
    apply Nat.le_of_not_lt
    intro hb
    obtain ⟨γ, j, e', _⟩ := hst.old β i e hb
    cases e'
  have hD : ρ₂ h₂.next = none := by
    cases e : ρ₂ h₂.next with
    | none => rfl
    | some i => exact absurd (hR2.lt _ i e).2 (Nat.lt_irrefl _)
  let ρ' : Ren := fun β => if β < h.next then ρ β else if β < h₁.next then ρ₂ (π β) else none
  have hold : ∀ β, β < h.next → ρ' β = ρ β := fun β hβ => by simp [ρ', hβ]
  have hnew : ∀ β, h.next ≤ β → β < h₁.next → ρ' β = ρ₂ (π β) := fun β hβ hk => by simp [ρ', Nat.not_lt.2 hβ, hk]
  have hle : Ren.Le ρ ρ' := fun β i e => by rw [hold β (hR.lt β i e).2]; exact e
  have hvia : Ren.Le (via h₁.next π ρ₂) ρ' := fun β i e => by
    unfold via at e
    split at e
    · rename_i hlt
      by_cases hβ : β < h.next
      · rw [(hH.old β hβ).2, hD] at e; cases e
      · rw [hnew β (Nat.le_of_not_lt hβ) hlt]; exact e
    · cases e
  have hnobj : ∀ β o, h.next ≤ β → h₁.get β = some o → ∃ i b, ρ' β = some i ∧ w₂.heap[i.b]? = some b ∧ ORel ρ' i o b ∧ i.ro = false ∧ ∃ o', h₂.get (π β) = some o' ∧ ρ₂ (π β) = some i := by
    intro β o hβ ho
    obtain ⟨hlt, hrw, o', ho', hoo⟩ := hH.obj β o hβ ho
    obtain ⟨i, b, hi, hb, hO⟩ := hR2.obj _ _ ho'
    have hO' := (hoo.trans hO).mono hvia
    exact ⟨i, b, by rw [hnew β hβ hlt]; exact hi, hb, hO', hO'.rw hrw, o', ho', hi⟩
  refine ⟨ρ', ⟨hle, fun β i hi hb => ?_, hst.os, hst.tape, hst.output, hst.size, fun b hb _ => hfr b hb⟩, ⟨fun β i hi => ?_, fun β o ho => ?_, fun β γ o p i j ho hp hi hj e => ?_⟩, (hv.trans hv2).mono hvia⟩
  · by_cases hβ : β < h.next
    · rw [hold β hβ] at hi; exact ⟨β, i, hi, rfl, id⟩
    · by_cases hk : β < h₁.next
      · rw [hnew β (Nat.le_of_not_lt hβ) hk] at hi
        exact absurd hb (Nat.not_lt.2 (hfresh _ i hi))
      · simp [ρ', hβ, hk] at hi
  · by_cases hβ : β < h.next
    · rw [hold β hβ] at hi
      exact ⟨Nat.lt_of_lt_of_le (hR.lt β i hi).1 hst.size, Nat.lt_of_lt_of_le hβ hH.next⟩
    · by_cases hk : β < h₁.next
      · rw [hnew β (Nat.le_of_not_lt hβ) hk] at hi
        exact ⟨(hR2.lt _ i hi).1, hk⟩
      · simp [ρ', hβ, hk] at hi
  · by_cases hβ : β < h.next
    · rw [(hH.old β hβ).1] at ho
      obtain ⟨i, b, hi, hb, hO⟩ := hR.obj β o ho
      refine ⟨i, b, by rw [hold β hβ]; exact hi, ?_, hO.mono hle⟩
      rw [hfr i.b (hR.lt β i hi).1]; exact hb
    · obtain ⟨i, b, h1, h2, h3, _⟩ := hnobj β o (Nat.le_of_not_lt hβ) ho
      exact ⟨i, b, h1, h2, h3⟩
  · by_cases hβ : β < h.next
    · by_cases hγ : γ < h.next
      · rw [(hH.old β hβ).1] at ho
        rw [(hH.old γ hγ).1] at hp
        rw [hold β hβ] at hi
        rw [hold γ hγ] at hj
        exact hR.inj β γ o p i j ho hp hi hj e
      · obtain ⟨j', b, h1, h2, h3, h4, o', h5, h6⟩ := hnobj γ p (Nat.le_of_not_lt hγ) hp
        rw [h1] at hj; cases hj
        rw [hold β hβ] at hi
        have := (hR.lt β i hi).1
        have := hfresh _ j h6
        omega
    · obtain ⟨i', b, h1, h2, h3, h4, o', h5, h6⟩ := hnobj β o (Nat.le_of_not_lt hβ) ho
      rw [h1] at hi; cases hi
      by_cases hγ : γ < h.next
      · rw [hold γ hγ] at hj
        have := (hR.lt γ j hj).1
        have := hfresh _ i h6
        omega
      · obtain ⟨j', b', g1, g2, g3, g4, p', g5, g6⟩ := hnobj γ p (Nat.le_of_not_lt hγ) hp
        rw [g1] at hj; cases hj
        have := hR2.inj _ _ o' p' i j h5 g5 h6 g6 e
        exact hH.inj β γ (Nat.le_of_not_lt hβ) (Nat.le_of_not_lt hγ) (hH.obj β o (Nat.le_of_not_lt hβ) ho).1 (hH.obj γ p (Nat.le_of_not_lt hγ) hp).1 this

theorem VS.plainTo {args args' : Array Value} (hp : args.all AE.plain1 = true) (ha : VS ρ args args') (ρ' : Ren) : VS ρ' args args' := by
  rw [VS.plain1 ha hp]; exact VS.refl1 hp

theorem Rel.beyond {h : AH} {w : Array Obj} (hR : Rel ρ h w) : ∀ β, h.next ≤ β → h.get β = none := fun β hβ => by
  cases e : h.get β with
  | none => rfl
  | some o =>
    obtain ⟨i, b, hi, _⟩ := hR.obj β o e
    exact absurd (hR.lt β i hi).2 (Nat.not_lt.2 hβ)

/-- Of plain arguments, in an empty heap. -/
theorem SumOk.closed (hq : Quiet P) (hmix : P.follows .mixedOrders = true) (hov : OverOk P ov) {f : FuncId} {g : Array Value → AH → Option (Value × AH)}
    (hg : ∀ args h v h₁, g args h = some (v, h₁) → (∀ β, h.next ≤ β → h.get β = none) → args.all plain1 = true ∧ ∃ (n : Nat) (v₂ : Value) (h₂ : AH) (π : Nat → Nat), callFn P (env P ov n) f args ⟨.leaf, 0⟩ = some (v₂, h₂) ∧ HC π h h₁ h₂ ∧ VV h₁.next π v v₂) : SumOk P f g := by
  intro args h v h₁ hgs ρ w args' k hR ha
  obtain ⟨hp, n, v₂, h₂, π, hc, hH, hV⟩ := hg args h v h₁ hgs hR.beyond
  refine (callFn_sound (env_sound hq hmix hov n) hq hmix hc k (Rel.empty w.heap) (VS.plainTo hp ha _)).mono ?_
  rintro e w' ⟨ρ₂, v', rfl, hst, hR2, hv2⟩
  obtain ⟨ρ₁, a, b, c⟩ := closed_sound hR hst hR2 hv2 hH hV
  exact ⟨ρ₁, v', rfl, a, b, c⟩

/-- One new object; the others are told apart from it. -/
def one1 (N b D : Nat) : Nat → Nat := fun β => if β = N then b else D
theorem HC.one {h h₂ : AH} {o o' : AObj} {b : Nat} (hn : ∀ β, h.next ≤ β → h.get β = none) (hr : o.rw = true) (hb : h₂.get b = some o') (ho : OO (h.next + 1) (one1 h.next b h₂.next) o o') :
    HC (one1 h.next b h₂.next) h (h.push o) h₂ := by
  refine ⟨Nat.le_succ _, fun β hβ => ?_, fun β p hβ hp => ?_, fun β γ h1 h2 h3 h4 _ => ?_⟩
  · simp [AH.get_push, one1, Nat.ne_of_lt hβ]
  · rw [AH.get_push] at hp
    split at hp
    · rename_i e; subst e; cases hp
      exact ⟨Nat.lt_succ_self _, hr, o', by simp [one1, hb], ho⟩
    · rw [hn β hβ] at hp; cases hp
  · simp only [AH.next_push] at h3 h4
    omega
theorem OO.plainRow {N : Nat} {π : Nat → Nat} (l : List Value) (hl : l.all plain1 = true) (e : TypeId) (z : Nat) (op : Bool) : OO N π (rowObj l e z op) (rowObj l e z op) := by
  refine ⟨_, _, rfl, fun j hj => ?_⟩
  rw [get_ofRow, if_pos hj]
  simp only [Option.getD_some, List.getD, List.getElem?_eq_getElem hj]
  exact VV.plain1 (by rw [List.all_eq_true] at hl; exact hl _ (List.getElem_mem hj))
theorem VVtuple3 {N : Nat} {π : Nat → Nat} {a b c a' b' c' : Value} (h1 : VV N π a a') (h2 : VV N π b b') (h3 : VV N π c c') : VV N π (.tuple ⟨[a, b, c]⟩) (.tuple ⟨[a', b', c']⟩) := by
  refine .tuple _ _ (by simp) (by simp) fun j hj => ?_
  have : j = 0 ∨ j = 1 ∨ j = 2 := by simp at hj; omega
  rcases this with rfl | rfl | rfl
  · exact h1
  · exact h2
  · exact h3
theorem VVtuple2 {N : Nat} {π : Nat → Nat} {a b a' b' : Value} (h1 : VV N π a a') (h2 : VV N π b b') : VV N π (.tuple ⟨[a, b]⟩) (.tuple ⟨[a', b']⟩) := by
  refine .tuple _ _ (by simp) (by simp) fun j hj => ?_
  have : j = 0 ∨ j = 1 := by simp at hj; omega
  rcases this with rfl | rfl
  · exact h1
  · exact h2

theorem HC.none (h h₂ : AH) (hn : ∀ β, h.next ≤ β → h.get β = none) : HC (fun _ => h₂.next) h h h₂ :=
  ⟨Nat.le_refl _, fun _ _ => ⟨rfl, rfl⟩, fun β o hβ ho => (by rw [hn β hβ] at ho; cases ho), fun β γ h1 _ h2 => absurd h2 (Nat.not_lt.2 h1)⟩

def plainR (v : Value) : Prop := plain1 v = true ∨ ∃ cs, v = .tuple cs ∧ cs.all plain1 = true ∧ cs.size ≠ 1
theorem VV.plainR {N : Nat} {π : Nat → Nat} {v : Value} (h : AE.plainR v) : VV N π v v := by
  rcases h with hp | ⟨cs, rfl, h1, h2⟩
  · exact VV.plain1 hp
  · exact VV.plainT h1 h2

/-- Of plain arguments, a plain result. -/
theorem SumOk.plain (hq : Quiet P) (hmix : P.follows .mixedOrders = true) (hov : OverOk P ov) {f : FuncId} {g : Array Value → AH → Option (Value × AH)}
    (hg : ∀ args h v h₁, g args h = some (v, h₁) → h₁ = h ∧ args.all plain1 = true ∧ plainR v ∧ ∃ n h₂, callFn P (env P ov n) f args ⟨.leaf, 0⟩ = some (v, h₂)) : SumOk P f g := by
  intro args h v h₁ hgs ρ w args' k hR ha
  obtain ⟨rfl, hp, hpl, n, h₂, hc⟩ := hg args h v h₁ hgs
  refine (callFn_sound (env_sound hq hmix hov n) hq hmix hc k (Rel.empty w.heap) (VS.plainTo hp ha _)).mono ?_
  rintro e w' ⟨ρ₂, v', rfl, hst, hR2, hv2⟩
  have hn : ∀ β, h₁.next ≤ β → h₁.get β = none := fun β hβ => by
    cases e : h₁.get β with
    | none => rfl
    | some o =>
      obtain ⟨i, b, hi, _⟩ := hR.obj β o e
      exact absurd (hR.lt β i hi).2 (Nat.not_lt.2 hβ)
  obtain ⟨ρ₁, a, b, c⟩ := closed_sound hR hst hR2 hv2 (HC.none h₁ h₂ hn) (VV.plainR hpl)
  exact ⟨ρ₁, v', rfl, a, b, c⟩
end
end Go.AE
