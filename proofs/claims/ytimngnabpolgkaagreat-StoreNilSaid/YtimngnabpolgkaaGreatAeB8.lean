/-
  AE, part 17: code, functions, the evaluator whole: that all goes as it says.
-/
import Derived.Test.YtimngnabpolgkaaGreatAeB7
namespace Go.AE
noncomputable section
set_option linter.unusedSimpArgs false
set_option linter.unusedVariables false
variable {P : Program} {E : Env} {ρ : Ren}

theorem evalC_sound (hE : ESoundL P E) (hq : Quiet P) (hmix : P.follows .mixedOrders = true) : ∀ (c : Code) (rd : Option Nat) (s : St) (r : Ex × St), evalC P E rd c s = some r → ∀ ρ w a n rr, RdRel ρ rd rr → Rel ρ s.h w.heap →
    VS ρ s.tmps a.tmps → DRel ρ s.defers a.defers → Code.wpIn (Fw rr) n P c (Post ρ w r) a w := by
  intro c
  induction c with
  | skip =>
    intro rd s r hs ρ w a n rr hrd hR hA hD
    simp only [evalC, Option.some.injEq] at hs
    subst hs
    exact wpIn_skip ⟨rfl, ρ, Step.refl ρ w, hR, hA, hD⟩
  | label l =>
    intro rd s r hs ρ w a n rr hrd hR hA hD
    simp only [evalC, Option.some.injEq] at hs
    subst hs
    exact wpIn_label ⟨rfl, ρ, Step.refl ρ w, hR, hA, hD⟩
  | region id ops draw =>
    intro rd s r hs ρ w a n rr hrd hR hA hD
    simp only [evalC] at hs
    obtain ⟨s', hs', rfl⟩ := Option.map_eq_some_iff.1 hs
    exact region_sound hE.toESound hq hmix hs' hR hA hD
  | seq x y ihx ihy =>
    intro rd s r hs ρ w a n rr hrd hR hA hD
    simp only [evalC] at hs
    split at hs
    · rename_i s' hx
      refine wpIn_seq (wpIn_mono (ihx rd s _ hx ρ w a n rr hrd hR hA hD) ?_)
      rintro e a₁ w₁ ⟨rfl, ρ₁, hst, hR1, hA1, hD1⟩
      exact wpIn_mono (ihy rd s' r hs ρ₁ w₁ a₁ n rr (hrd.mono hst.le) hR1 hA1 hD1) fun e a w h => h.trans hst
    · rename_i hne
      refine wpIn_seq (wpIn_mono (ihx rd s _ hs ρ w a n rr hrd hR hA hD) ?_)
      intro e a₁ w₁ hp
      have he := hp.1
      subst he
      obtain ⟨ex, s'⟩ := r
      cases ex with
      | normal => exact absurd hs (hne s')
      | exit id => exact hp
      | ret => exact hp
  | cond c x y ihx ihy =>
    intro rd s r hs ρ w a n rr hrd hR hA hD
    have hc := aeval_sim (ds := a.defers) hA c
    simp only [evalC] at hs
    split at hs
    · rename_i hcv
      rw [hcv] at hc
      generalize hce : a.eval c = cv at hc
      cases hc
      exact wpIn_cond_true hce (ihx rd s r hs ρ w a n rr hrd hR hA hD)
    · rename_i hcv
      rw [hcv] at hc
      generalize hce : a.eval c = cv at hc
      cases hc
      exact wpIn_cond_false hce (ihy rd s r hs ρ w a n rr hrd hR hA hD)
    · cases hs
  | block id c ih =>
    intro rd s r hs ρ w a n rr hrd hR hA hD
    simp only [evalC] at hs
    split at hs
    · rename_i id' s' hc
      refine wpIn_block (wpIn_mono (ih rd s _ hc ρ w a n rr hrd hR hA hD) ?_)
      rintro e a₁ w₁ ⟨rfl, hp⟩
      simp only [exOf, Exit.inBlock]
      split at hs
      · rename_i hid; cases hs; rw [if_pos hid]; exact ⟨rfl, hp⟩
      · rename_i hid; cases hs; rw [if_neg hid]; exact ⟨rfl, hp⟩
    · rename_i hne
      refine wpIn_block (wpIn_mono (ih rd s _ hs ρ w a n rr hrd hR hA hD) ?_)
      intro e a₁ w₁ hp
      have he := hp.1
      subst he
      obtain ⟨ex, s'⟩ := r
      cases ex with
      | normal => exact hp
      | exit id' => exact absurd hs (hne id' s')
      | ret => exact hp
  | loop c ih =>
    intro rd s r hs ρ w a n rr hrd hR hA hD
    exact wpIn_of_loopIn (loop_sound hE (ih rd) hs ρ w a n rr hrd hR hA hD)
  | scope c ih =>
    intro rd s r hs ρ w a n rr hrd hR hA hD
    simp only [evalC] at hs
    exact wpIn_scope' (fun l a w => Post.goto l a w) (ih rd s r hs ρ w a n rr hrd hR hA hD)
  | exit id =>
    intro rd s r hs ρ w a n rr hrd hR hA hD
    simp only [evalC, Option.some.injEq] at hs
    subst hs
    exact wpIn_exit ⟨rfl, ρ, Step.refl ρ w, hR, hA, hD⟩
  | ret =>
    intro rd s r hs ρ w a n rr hrd hR hA hD
    simp only [evalC, Option.some.injEq] at hs
    subst hs
    exact wpIn_ret ⟨rfl, ρ, Step.refl ρ w, hR, hA, hD⟩
  | goto l => intro rd s r hs; simp only [evalC] at hs; cases hs
  | refuse why => intro rd s r hs; simp only [evalC] at hs; cases hs
  | rangeFunc g ps assign body _ _ =>
    intro rd s r hs ρ w a n rr hrd hR hA hD
    exact rangeFunc_sound hE hq hs hrd hR hA hD

/-! ### Functions -/
theorem take_run {b : Nat} {w : World} (h : w.heap[b]? = some (.deferred (some []))) : (Instr.takeDeferred b).run P w = .ok [] { w with heap := w.heap.setIfInBounds b (.deferred none) } := by
  have h1 : (getObj b).run P w = .ok (.deferred (some [])) w := by simp [getObj, Sem.run, h]
  simp only [Instr.takeDeferred, Sem.run_bind, h1, Result.andThen_ok, setObj_run h (by intro c e f he; cases he), Sem.run_pure]

def resOne (B : Array Value) : ResultVar → Sem Value
  | .tmp t => pure (B.getD t undef)
  | .cell a t => do loadVar t (← asAddr (B.getD a undef))

theorem results_eq (fn : Func) (B : Array Value) : results fn B = (do let vs ← fn.results.mapM (resOne B); pure (if h : vs.size = 1 then vs[0] else .tuple vs)) := by
  have : (fun x => match x with | .tmp t => pure (B.getD t undef) | .cell a t => (do loadVar t (← asAddr (B.getD a undef)) : Sem Value)) = resOne B := by
    funext x; cases x <;> rfl
  rw [← this]; rfl

theorem resultA_run {A B : Array Value} {h : AH} {w : World} {x : ResultVar} {v : Value} (hR : Rel ρ h w.heap) (hA : VS ρ A B) (hs : resultA P A h x = some v) :
    ∃ v', (resOne B x).run P w = .ok v' w ∧ V ρ v v' := by
  cases x with
  | tmp t =>
    simp only [resultA, Option.some.injEq] at hs
    subst hs
    exact ⟨_, rfl, hA.getD t⟩
  | cell a t =>
    simp only [resultA] at hs
    have ha := hA.getD a
    split at hs
    · rename_i x hx
      rw [hx] at ha
      obtain ⟨b, hb, hAr⟩ := ha.pointer_inv
      obtain ⟨v', h1, h2⟩ := loadA_sim (P := P) hR hAr hs
      exact ⟨v', by simp only [resOne, hb, asAddr, Sem.run_bind, Sem.run_pure, Result.andThen_ok, h1], h2⟩
    · cases hs

theorem resultsA_run {A B : Array Value} {h : AH} {w : World} (hR : Rel ρ h w.heap) (hA : VS ρ A B) : ∀ (rs : List ResultVar) (vs : List Value), resultsA P A h rs = some vs →
    ∃ vs', (rs.mapM (resOne B)).run P w = .ok vs' w ∧ VS ρ vs.toArray vs'.toArray
  | [], vs, hs => by
    simp only [resultsA, Option.some.injEq] at hs
    subst hs
    exact ⟨[], by simp, rfl, fun j hj => by simp at hj⟩
  | x :: rs, vs, hs => by
    simp only [resultsA] at hs
    split at hs
    · rename_i v hv
      obtain ⟨vs1, h1, rfl⟩ := Option.map_eq_some_iff.1 hs
      obtain ⟨v', e1, e2⟩ := resultA_run (P := P) hR hA hv
      obtain ⟨vs', e3, e4⟩ := resultsA_run hR hA rs vs1 h1
      refine ⟨v' :: vs', ?_, ?_⟩
      · rw [List.mapM_cons]
        simp only [Sem.run_bind, e1, Result.andThen_ok, e3, Sem.run_pure]
      · refine ⟨by have := e4.1; simpa using this, fun j hj => ?_⟩
        cases j with
        | zero => simpa using e2
        | succ j =>
          have := e4.2 j (by simp at hj ⊢; omega)
          simpa [Array.getD_eq_getD_getElem?] using this
    · cases hs

/-- The value that a function hands back. -/
def resVal : List Value → Value
  | [v] => v
  | vs => .tuple vs.toArray

theorem results_sound {fn : Func} {A B : Array Value} {h : AH} {w : World} {vs : List Value} (hR : Rel ρ h w.heap) (hA : VS ρ A B) (hs : resultsA P A h fn.results.toList = some vs) :
    ∃ v', (results fn B).run P w = .ok v' w ∧ V ρ (resVal vs) v' := by
  obtain ⟨vs', e1, e2⟩ := resultsA_run (P := P) hR hA _ _ hs
  have hlen : vs.length = vs'.length := by have := e2.1; simpa using this
  have e1' : (fn.results.mapM (resOne B)).run P w = .ok vs'.toArray w := by
    rw [Array.mapM_eq_mapM_toList, Sem.run_map, e1]; rfl
  have e3 : (results fn B).run P w = .ok (if h : vs'.toArray.size = 1 then vs'.toArray[0] else .tuple vs'.toArray) w := by
    rw [results_eq, Sem.run_bind, e1']; rfl
  refine ⟨_, e3, ?_⟩
  cases vs with
  | nil =>
    cases vs' with
    | nil => exact V.undef
    | cons v' r => simp at hlen
  | cons v r =>
    cases vs' with
    | nil => simp at hlen
    | cons v' r' =>
      cases r with
      | nil =>
        cases r' with
        | nil => have := e2.2 0 (by simp); simpa [resVal] using this
        | cons _ _ => simp at hlen
      | cons u r =>
        cases r' with
        | nil => simp at hlen
        | cons u' r' =>
          have hne : ¬ (v' :: u' :: r').toArray.size = 1 := by simp
          rw [dif_neg hne]
          exact .tuple _ _ (by simp) e2.1 e2.2

theorem leaves_sound {fn : Func} {n : Nat} {v : Value} {h₁ : AH} {A B : Array Value} {vs : List Value} {ρ₀ : Ren} {w₀ : World} (hres : resultsA P A h₁ fn.results.toList = some vs) (hv : resVal vs = v) :
    ∀ (ds : List Nat) (h : AH) (xs : List Deferred) (ρ : Ren) (w : World), shut ds h = some h₁ → DRel ρ ds xs → Step ρ₀ w₀ ρ w → Rel ρ h w.heap → VS ρ A B →
      LeavesInM Fence.wide n P fn B (RetPost ρ₀ w₀ v h₁) xs .returning w
  | [], h, xs, ρ, w, hs, hD, hst, hR, hA => by
    simp only [shut, Option.some.injEq] at hs
    subst hs
    obtain ⟨_, rfl⟩ := hD
    obtain ⟨v', e1, e2⟩ := results_sound hR hA hres
    exact ⟨v', e1, ρ, v', rfl, hst, hR, hv ▸ e2⟩
  | d :: ds, h, xs, ρ, w, hs, hD, hst, hR, hA => by
    obtain ⟨hD1, rfl⟩ := hD
    simp only [shut] at hs
    split at hs
    · rename_i hg
      obtain ⟨i, X, hi, hX, rfl, hs0, hro⟩ := hR.obj _ _ hg
      refine ⟨fun hc => (by cases hc), .inl ⟨i.b, _, by simp [hi], take_run hX, ?_⟩⟩
      refine leaves_sound hres hv ds (h.kill d) _ ρ _ hs ⟨fun x hx => hD1 x (by simp [hx]), rfl⟩ (hst.trans (Step.set hi hro _)) ?_ hA
      refine (hR.kill d).foreign _ _ fun β o j hβ hj hbj => ?_
      rw [AH.get_kill] at hβ
      split at hβ
      · cases hβ
      · rename_i hne; exact hne (hR.inj β d o _ j i hβ hg hj hi hbj)
    · cases hs

theorem callFn_sound (hE : ESoundL P E) (hq : Quiet P) (hmix : P.follows .mixedOrders = true) {f : FuncId} {args args' : Array Value} {h h₁ : AH} {v : Value} (hs : callFn P E f args h = some (v, h₁)) {w : World} (n : Nat) (hR : Rel ρ h w.heap)
    (ha : VS ρ args args') : CallsIn Fence.wide n P f args' w (RetPost ρ w v h₁) := by
  unfold callFn at hs
  split at hs
  · cases hs
  · rename_i fn hfn
    split at hs
    · cases hs
    · rename_i c hbody
      split at hs
      · cases hs
      · rename_i ex s hne hc
        split at hs
        · cases hs
        · rename_i h' hsh
          have hA0 : VS ρ (args ++ Array.replicate (fn.ntmps - args.size) undef) (args' ++ Array.replicate (fn.ntmps - args'.size) undef) := by
            rw [← ha.1]
            refine VS.append2 ha ⟨rfl, fun j hj => ?_⟩
            simp only [Array.size_replicate] at hj
            have : (Array.replicate (fn.ntmps - args.size) undef).getD j undef = undef := by simp [Array.getD]
            rw [this]; exact V.undef
          have hw := evalC_sound hE hq hmix c none _ _ hc ρ w { tmps := args' ++ Array.replicate (fn.ntmps - args'.size) undef, defers := [] } n none trivial hR hA0 ⟨fun d hd => (by cases hd), rfl⟩
          have fin : ∀ vs, resultsA P s.tmps h' fn.results.toList = some vs → resVal vs = v → h' = h₁ → CallsIn Fence.wide n P f args' w (RetPost ρ w v h₁) := by
            intro vs hres hv he
            subst he
            refine callsIn_of_wp_marks hfn hbody trivial (wpIn_mono hw ?_) rfl
            rintro e a' w' ⟨rfl, ρ', hst, hR', hA', hD'⟩
            have hl := leaves_sound (n := n) hres hv s.defers s.h a'.defers ρ' w' hsh hD' hst hR' hA'
            cases ex with
            | normal => exact hl
            | exit id => exact (hne id rfl).elim
            | ret => exact hl
          split at hs
          · rename_i u hres
            simp only [Option.some.injEq, Prod.mk.injEq] at hs
            exact fin _ hres hs.1 hs.2
          · rename_i vs hn1 hres
            simp only [Option.some.injEq, Prod.mk.injEq] at hs
            refine fin _ hres ?_ hs.2
            rw [← hs.1]
            cases vs with
            | nil => rfl
            | cons u r => cases r with
              | nil => exact (hn1 u rfl).elim
              | cons _ _ => rfl
          · cases hs
      · cases hs

/-- What is said of functions in place of their text is so. -/
def OverOk (P : Program) (ov : Over) : Prop :=
  ∀ f g, ov f = some g → ∀ args h v h₁, g args h = some (v, h₁) → ∀ ρ w args' n, Rel ρ h w.heap → VS ρ args args' → CallsIn Fence.wide n P f args' w (RetPost ρ w v h₁)

theorem env_sound (hq : Quiet P) (hmix : P.follows .mixedOrders = true) {ov : Over} (hov : OverOk P ov) : ∀ n, ESoundL P (env P ov n)
  | 0 => { call := fun f args h v h₁ hs => (by cases hs), code := fun rd c s r hs => (by cases hs), loop := fun rd c s r hs => (by cases hs) }
  | n + 1 =>
    { call := fun f args h v h₁ hs ρ w args' k hR ha => by
        simp only [env] at hs
        split at hs
        · rename_i g hg
          exact hov f g hg args h v h₁ hs ρ w args' k hR ha
        · exact callFn_sound (env_sound hq hmix hov n) hq hmix hs k hR ha
      code := fun rd c s r hs => evalC_sound (env_sound hq hmix hov n) hq hmix c rd s r hs
      loop := fun rd c s r hs => loop_sound (env_sound hq hmix hov n) (evalC_sound (env_sound hq hmix hov n) hq hmix c rd) hs }

end
end Go.AE
