/-
  AE, part 14: an operation, a round, operations in an order, regions: that they go as the evaluator says.
-/
import Derived.Test.YtimngnabpolgkaaGreatAeB4
import Derived.RangeFuncLeaves
import Derived.RangeFuncCalls
namespace Go.AE
noncomputable section
set_option linter.unusedSimpArgs false
set_option linter.unusedVariables false
variable {P : Program} {E : Env} {ops : Array Oper} {ρ : Ren}

abbrev Fw (rr : Option Nat) : Fence := { Fence.wide with round := rr }

def exOf : Ex → Exit
  | .normal => .normal
  | .exit id => .exit id
  | .ret => .ret

/-- The marks of the loops over functions. -/
def DRel (ρ : Ren) (ds : List Nat) (xs : List Deferred) : Prop :=
  (∀ d ∈ ds, (ρ d).isSome = true) ∧ xs = ds.map fun d => { target := .collected (((ρ d).map (·.b)).getD 0), args := #[] }

theorem DRel.mono {ρ' : Ren} (h : Ren.Le ρ ρ') {ds : List Nat} {xs : List Deferred} (k : DRel ρ ds xs) : DRel ρ' ds xs := by
  have key : ∀ d ∈ ds, ρ' d = ρ d := by
    intro d hd
    obtain ⟨i, hi⟩ := Option.isSome_iff_exists.1 (k.1 d hd)
    rw [hi]; exact h d i hi
  refine ⟨fun d hd => by rw [key d hd]; exact k.1 d hd, ?_⟩
  rw [k.2]
  exact List.map_congr_left fun d hd => by rw [key d hd]

def RdRel (ρ : Ren) : Option Nat → Option Nat → Prop
  | none, none => True
  | some l, some l' => ∃ i, ρ l = some i ∧ i.b = l'
  | _, _ => False

theorem RdRel.mono {ρ' : Ren} (h : Ren.Le ρ ρ') {rd rr : Option Nat} (k : RdRel ρ rd rr) : RdRel ρ' rd rr := by
  cases rd <;> cases rr <;> first | exact k | (obtain ⟨i, e, r⟩ := k; exact ⟨i, h _ _ e, r⟩)

/-- What a call comes to. -/
def RetPost (ρ : Ren) (w : World) (v : Value) (h₁ : AH) (e : Ending) (w' : World) : Prop :=
  ∃ ρ' v', e = .returned v' ∧ Step ρ w ρ' w' ∧ Rel ρ' h₁ w'.heap ∧ V ρ' v v'

/-- What code comes to. -/
def Post (ρ : Ren) (w : World) (r : Ex × St) (e : Exit) (a' : Act) (w' : World) : Prop :=
  e = exOf r.1 ∧ ∃ ρ', Step ρ w ρ' w' ∧ Rel ρ' r.2.h w'.heap ∧ VS ρ' r.2.tmps a'.tmps ∧ DRel ρ' r.2.defers a'.defers

structure ESound (P : Program) (E : Env) : Prop where
  call : ∀ f args h v h₁, E.call f args h = some (v, h₁) → ∀ ρ w args' n, Rel ρ h w.heap → VS ρ args args' → CallsIn Fence.wide n P f args' w (RetPost ρ w v h₁)
  code : ∀ rd c s r, E.code rd c s = some r → ∀ ρ w a n rr, RdRel ρ rd rr → Rel ρ s.h w.heap → VS ρ s.tmps a.tmps → DRel ρ s.defers a.defers → Code.wpIn (Fw rr) n P c (Post ρ w r) a w

/-! ### A loop's record -/
theorem getLoop_run {b : Nat} {r : Loop} {w : World} (h : w.heap[b]? = some (.loop r)) : (Instr.getLoop b).run P w = .ok r w := by
  simp [Instr.getLoop, getObj, Sem.run, h]

theorem setObj_run {b : Nat} {o o' : Obj} {w : World} (h : w.heap[b]? = some o) (hn : ∀ c e f, o ≠ .cells c e f) : (setObj b o').run P w = .ok () { w with heap := w.heap.setIfInBounds b o' } := by
  cases o with
  | cells c e f => exact absurd rfl (hn c e f)
  | _ => simp only [setObj, Sem.run, h]

/-- The record is written anew. -/
theorem loop_set {h : AH} {w : World} {l : Nat} {i : Info} {st st' : LoopState} {pend pend' : Ex} {tmps : Array Value} {params : Array Tmp} {assign body : Code} {d : Nat} (hR : Rel ρ h w.heap)
    (hi : ρ l = some i) (hg : h.get l = some (.loop st pend tmps params assign body d)) :
    ∃ fn tmps' d', w.heap[i.b]? = some (.loop { state := st, pending := pend.code, fn, tmps := tmps', params, assign, body, defers := d' }) ∧ VS ρ tmps tmps' ∧
      Step ρ w ρ { w with heap := w.heap.setIfInBounds i.b (.loop { state := st', pending := pend'.code, fn, tmps := tmps', params, assign, body, defers := d' }) } ∧
      Rel ρ (h.set l (.loop st' pend' tmps params assign body d)) (w.heap.setIfInBounds i.b (.loop { state := st', pending := pend'.code, fn, tmps := tmps', params, assign, body, defers := d' })) := by
  obtain ⟨i', X, hi', hX, fn, tmps', d', j, rfl, hs, hro, hv, hj, hjb⟩ := hR.obj _ _ hg
  obtain rfl : i = i' := by rw [hi] at hi'; exact Option.some.inj hi'
  refine ⟨fn, tmps', d', hX, hv, Step.set hi hro _, Rel.setCells hR hg hi ⟨fn, tmps', d', j, rfl, hs, hro, hv, hj, hjb⟩⟩

theorem zip_fold_rel : ∀ (ts : List Tmp) (as as' : List Value) (A A' : Array Value), VS ρ as.toArray as'.toArray → VS ρ A A' →
    VS ρ ((ts.zip as).foldl (fun tmps (p : Tmp × Value) => tmps.setIfInBounds p.1 p.2) A) ((ts.zip as').foldl (fun tmps (p : Tmp × Value) => tmps.setIfInBounds p.1 p.2) A')
  | [], _, _, A, A', _, hA => by simpa using hA
  | t :: ts, [], as', A, A', ha, hA => by
    have : as' = [] := by have := ha.1; simp at this; exact List.length_eq_zero_iff.1 this.symm
    subst this; simpa using hA
  | t :: ts, v :: as, as', A, A', ha, hA => by
    cases as' with
    | nil => have := ha.1; simp at this
    | cons v' as' =>
      have h0 := ha.2 0 (by simp)
      simp only [List.zip_cons_cons, List.foldl_cons]
      refine zip_fold_rel ts as as' _ _ ⟨by have := ha.1; simpa using this, fun i hi => ?_⟩ (hA.set _ (by simpa using h0))
      have := ha.2 (i + 1) (by simp at hi ⊢; omega)
      simpa [Array.getD_eq_getD_getElem?] using this

theorem params_rel {params : Array Tmp} {args args' A A' : Array Value} (ha : VS ρ args args') (hA : VS ρ A A') :
    VS ρ ((params.zip args).foldl (fun tmps (t, a) => tmps.setIfInBounds t a) A) ((params.zip args').foldl (fun tmps (t, a) => tmps.setIfInBounds t a) A') := by
  have h1 := zip_fold_rel params.toList args.toList args'.toList A A' ha.tl2 hA
  rw [← Array.foldl_toList, ← Array.foldl_toList, Array.toList_zip, Array.toList_zip]
  exact h1

theorem round_sound (hE : ESound P E) {l : Nat} {args args' : Array Value} {h h₁ : AH} {v : Value} {w : World} {i : Info} (hs : roundA E l args h = some (v, h₁)) (hR : Rel ρ h w.heap) (hi : ρ l = some i)
    (ha : VS ρ args args') : ∃ f tmps assign body, (Instr.yield i.b args').run P w = .ok (.round i.b f tmps assign body) w ∧ ∀ n, RoundIn Fence.wide n P i.b f tmps assign body w (RetPost ρ w v h₁) := by
  unfold roundA at hs
  split at hs
  · rename_i st pend tmps params assign body d hg
    split at hs
    · cases hs
    rename_i hsz
    split at hs
    · rename_i s₁ hc1
      split at hs
      · rename_i pend₁ tmps₁ params₁ assign₁ body₁ d₁ hg1
        split at hs
        · rename_i ex s₂ hc2
          obtain ⟨fn, tmps', d', hX, hv, _, _⟩ := loop_set (st' := st) (pend' := pend) hR hi hg
          refine ⟨fn, (params.zip args').foldl (fun tmps (t, a) => tmps.setIfInBounds t a) tmps', assign, body, ?_, fun n => ?_⟩
          · have hsz' : ¬ args'.size ≠ params.size := by have := ha.1; omega
            simp only [Instr.yield, Sem.run_bind, getLoop_run hX, Result.andThen_ok, hsz', if_false, Sem.run_pure]
          · refine roundIn_of_wpIn (F := Fence.wide) trivial ?_
            have hw1 := hE.code (some l) assign _ _ hc1 ρ w { tmps := (params.zip args').foldl (fun tmps (t, a) => tmps.setIfInBounds t a) tmps', defers := [] } n (some i.b) ⟨i, hi, rfl⟩ hR
              (params_rel ha hv) ⟨fun d hd => (by cases hd), rfl⟩
            refine wpIn_mono hw1 ?_
            rintro e a₁ w₁ ⟨rfl, ρ₁, hst1, hR1, hv1, hd1⟩
            have hi1 := hst1.le _ _ hi
            obtain ⟨fn₁, tmps₁', d₁', hX1, hvv1, hstb, hRb⟩ := loop_set (st' := .busy) (pend' := pend₁) hR1 hi1 hg1
            refine ⟨{ w₁ with heap := w₁.heap.setIfInBounds i.b (.loop { state := .busy, pending := pend₁.code, fn := fn₁, tmps := tmps₁', params := params₁, assign := assign₁, body := body₁, defers := d₁' }) }, ?_, ?_⟩
            · simp only [Instr.beginRound, Sem.run_bind, getLoop_run hX1, Result.andThen_ok, setObj_run hX1 (by intro c e f he; cases he), Sem.run_pure]
            · have hw2 := hE.code (some l) body _ _ hc2 ρ₁ { w₁ with heap := w₁.heap.setIfInBounds i.b (.loop { state := .busy, pending := pend₁.code, fn := fn₁, tmps := tmps₁', params := params₁, assign := assign₁, body := body₁, defers := d₁' }) } a₁ n (some i.b) ⟨i, hi1, rfl⟩ hRb hv1 hd1
              refine wpIn_mono hw2 ?_
              rintro e a₂ w₂ ⟨rfl, ρ₂, hst2, hR2, hv2, hd2⟩
              have hi2 := hst2.le _ _ hi1
              split at hs
              · rename_i st₂ pend₂ tmps₂ params₂ assign₂ body₂ d₂ hg2
                cases ex with
                | normal =>
                  simp only [Option.some.injEq, Prod.mk.injEq] at hs
                  obtain ⟨rfl, rfl⟩ := hs
                  obtain ⟨fn₂, tmps₂', d₂', hX2, hvv2, hste, hRe⟩ := loop_set (st' := .ready) (pend' := .normal) hR2 hi2 hg2
                  refine ⟨.bool true, _, ?_, ρ₂, .bool true, rfl, ((hst1.trans hstb).trans hst2).trans hste, hRe, .bool true⟩
                  simp only [Instr.endRound, Sem.run_bind, getLoop_run hX2, Result.andThen_ok, setObj_run hX2 (by intro c e f he; cases he), Sem.run_pure]; rfl
                | exit id =>
                  simp only [Option.some.injEq, Prod.mk.injEq] at hs
                  obtain ⟨rfl, rfl⟩ := hs
                  obtain ⟨fn₂, tmps₂', d₂', hX2, hvv2, hste, hRe⟩ := loop_set (st' := .done) (pend' := .exit id) hR2 hi2 hg2
                  refine ⟨.bool false, _, ?_, ρ₂, .bool false, rfl, ((hst1.trans hstb).trans hst2).trans hste, hRe, .bool false⟩
                  simp only [Instr.endRound, Sem.run_bind, getLoop_run hX2, Result.andThen_ok, setObj_run hX2 (by intro c e f he; cases he), Sem.run_pure]; rfl
                | ret =>
                  simp only [Option.some.injEq, Prod.mk.injEq] at hs
                  obtain ⟨rfl, rfl⟩ := hs
                  obtain ⟨fn₂, tmps₂', d₂', hX2, hvv2, hste, hRe⟩ := loop_set (st' := .done) (pend' := .ret) hR2 hi2 hg2
                  refine ⟨.bool false, _, ?_, ρ₂, .bool false, rfl, ((hst1.trans hstb).trans hst2).trans hste, hRe, .bool false⟩
                  simp only [Instr.endRound, Sem.run_bind, getLoop_run hX2, Result.andThen_ok, setObj_run hX2 (by intro c e f he; cases he), Sem.run_pure]; rfl
              · cases hs
        · cases hs
      · cases hs
    · cases hs
  · cases hs

/-! ### One operation -/
theorem yieldedA_sim {A B : Array Value} {j : Nat} {r : Option Bool} (hv : VS ρ A B) (h : yieldedA ops A j = some r) : yielded ops B j = r := by
  unfold yieldedA at h
  unfold yielded
  cases hd : (ops[j]?).bind (·.dst) with
  | none => rw [hd] at h; simp only [Option.some.injEq] at h; subst h; rfl
  | some d =>
    rw [hd] at h
    simp only at h
    simp only [Option.bind_some]
    split at h
    · rename_i hA
      cases h
      have hlt : ¬ d < A.size := by simpa using hA
      have hlt' : ¬ d < B.size := by rw [← hv.1]; exact hlt
      simp [Array.getElem?_eq_none (Nat.le_of_not_lt hlt')]
    · rename_i b hA
      cases h
      obtain ⟨v', hB, hV⟩ := getD_some hv hA
      cases hV
      rw [hB]
    · rename_i cs hA
      split at h
      · cases h
      · rename_i hne
        cases h
        obtain ⟨v', hB, hV⟩ := getD_some hv hA
        rw [hB]
        cases hV with
        | any v => exact absurd rfl hne
        | tuple _ cs' _ hc k => rfl
        | over => rfl
    · rename_i v hnb hnt hA
      cases h
      obtain ⟨v', hB, hV⟩ := getD_some hv hA
      rw [hB]
      cases hV <;> first | rfl | (exact (hnb _ rfl).elim) | (exact (hnt _ rfl).elim)

theorem wantedA_sim {A B : Array Value} {o : Oper} {b : Bool} (hv : VS ρ A B) (h : wantedA ops A o = some b) : Region.wanted o (yielded ops B) = b := by
  unfold wantedA at h
  unfold Region.wanted
  split at h
  · cases h; rename_i hg; rw [hg]
  · rename_i j want hg
    rw [hg]
    obtain ⟨r, hr, rfl⟩ := Option.map_eq_some_iff.1 h
    simp only [yieldedA_sim hv hr]

theorem opA_defer {e : Operand → Value} {h : AH} {o : Oper} {r : AR} (hs : opA P e h o = some r) : ∀ c, o.op ≠ .defer c := by
  intro c hc
  simp only [opA, hc] at hs
  cases hs

theorem wpOp_sound (hE : ESound P E) (hq : Quiet P) {i n : Nat} {o : Oper} {A : Array Value} {h h₁ : AH} {v : Value} {a : Act} {w : World} {rr : Option Nat} {Q : Exit → Act → World → Prop} {K : Act → World → Prop}
    (ho : ops[i]? = some o) (hs : stepVal P E ops o A h = some (v, h₁)) (hA : VS ρ A a.tmps) (hR : Rel ρ h w.heap)
    (hK : ∀ ρ₁ v' w₁, Step ρ w ρ₁ w₁ → Rel ρ₁ h₁ w₁.heap → V ρ₁ v v' → K (a.put o.dst v') w₁) : wpOpIn (Fw rr) n P ops Q i K a w := by
  unfold wpOpIn
  simp only [ho]
  unfold stepVal at hs
  split at hs
  · rename_i hw
    rw [wantedA_sim hA hw]
    simp only [if_true]
    refine ⟨fun f _ => trivial, ?_⟩
    have hsim : ∀ r, opA P (aeval A) h o = some r → OpSim P ρ w (execOp a.eval o) r := fun r hr => opA_sim hq (fun x => aeval_sim (ds := a.defers) hA x) hR hr
    have hsem : ∀ r, opA P (aeval A) h o = some r → o.semAt rr a.eval = execOp a.eval o := fun r hr => Oper.semAt_eq _ _ _ (opA_defer hr)
    split at hs
    · rename_i u hh he
      cases hs
      obtain ⟨ρ', v', w', hrun, h2, h3, h4⟩ := hsim _ he
      rw [hsem _ he, hrun]
      exact hK ρ' v' w' h2 h3 h4
    · rename_i hh he
      cases hs
      obtain ⟨ρ', w', hrun, h2, h3⟩ := hsim _ he
      rw [hsem _ he, hrun]
      exact hK ρ' undef w' h2 h3 V.undef
    · rename_i f args he
      obtain ⟨args', hrun, h2⟩ := hsim _ he
      rw [hsem _ he, hrun]
      refine ⟨fun hd => (by cases hd), ?_⟩
      have hc := hE.call f args h v h₁ hs ρ w args' (n - 1) hR h2
      have hc' : CallsIn (Fw rr) (n - 1) P f args' w (RetPost ρ w v h₁) := hc
      refine hc'.mono ?_
      rintro e w' ⟨ρ', v', rfl, h3, h4, h5⟩
      exact hK ρ' v' w' h3 h4 h5
    · rename_i l args he
      obtain ⟨i', args', hi', h2, hrun⟩ := hsim _ he
      obtain ⟨f, tmps, assign, body, hy, hround⟩ := round_sound hE hs hR hi' h2
      rw [hsem _ he, hrun, hy]
      refine ⟨fun hd => (by cases hd), ?_⟩
      have hc' : RoundIn (Fw rr) (n - 1) P i'.b f tmps assign body w (RetPost ρ w v h₁) := hround (n - 1)
      refine hc'.mono ?_
      rintro e w' ⟨ρ', v', rfl, h3, h4, h5⟩
      exact hK ρ' v' w' h3 h4 h5
    · cases hs
  · rename_i hw
    cases hs
    rw [wantedA_sim hA hw]
    simp only [Bool.false_eq_true, if_false]
    exact ⟨fun f _ => trivial, hK ρ undef w (Step.refl ρ w) hR V.undef⟩
  · cases hs

theorem put_rel {A B : Array Value} {v v' : Value} (hA : VS ρ A B) (hv : V ρ v v') (d : Option Tmp) : VS ρ (put A d v) ((Act.mk B []).put d v').tmps := by
  cases d with
  | none => exact hA
  | some d => exact hA.set d hv

theorem put_rel' {A : Array Value} {a : Act} {v v' : Value} (hA : VS ρ A a.tmps) (hv : V ρ v v') (d : Option Tmp) : VS ρ (put A d v) (a.put d v').tmps := by
  cases d with
  | none => exact hA
  | some d => exact hA.set d hv

theorem put_defers (a : Act) (d : Option Tmp) (v : Value) : (a.put d v).defers = a.defers := by cases d <;> rfl

/-! ### In the text's order -/
theorem runList_sound (hE : ESound P E) (hq : Quiet P) {n : Nat} {rr : Option Nat} {Q : Exit → Act → World → Prop} : ∀ (l : List Nat) (s s' : St), runList P E ops l s = some s' → ∀ (ρ : Ren) (w : World) (a : Act), Rel ρ s.h w.heap →
    VS ρ s.tmps a.tmps → DRel ρ s.defers a.defers → (∀ ρ' a' w', Step ρ w ρ' w' → Rel ρ' s'.h w'.heap → VS ρ' s'.tmps a'.tmps → DRel ρ' s'.defers a'.defers → Q .normal a' w') → wpOpsIn (Fw rr) n P ops Q l a w
  | [], s, s', hs, ρ, w, a, hR, hA, hD, hQ => by
    simp only [runList, Option.some.injEq] at hs
    subst hs
    exact hQ ρ a w (Step.refl ρ w) hR hA hD
  | i :: r, s, s', hs, ρ, w, a, hR, hA, hD, hQ => by
    simp only [runList] at hs
    rw [wpOpsIn_cons]
    cases ho : ops[i]? with
    | none =>
      rw [ho] at hs
      simp only at hs
      unfold wpOpIn
      simp only [ho]
      exact runList_sound hE hq r s s' hs ρ w a hR hA hD hQ
    | some o =>
      rw [ho] at hs
      simp only at hs
      split at hs
      · rename_i s₁ hs1
        unfold stepOp at hs1
        split at hs1
        · rename_i v h₁ hv
          cases hs1
          refine wpOp_sound hE hq ho hv hA hR fun ρ₁ v' w₁ hst hR1 hV => ?_
          refine runList_sound hE hq r _ s' hs ρ₁ w₁ _ hR1 (put_rel' (hA.mono hst.le) hV o.dst) (by rw [put_defers]; exact hD.mono hst.le) fun ρ' a' w' h1 h2 h3 h4 => ?_
          exact hQ ρ' a' w' (hst.trans h1) h2 h3 h4
        · cases hs1
      · cases hs

end
end Go.AE
