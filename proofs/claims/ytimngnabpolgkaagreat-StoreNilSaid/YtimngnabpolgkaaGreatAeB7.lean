/-
  AE, part 16: code goes as the evaluator says.
-/
import Derived.Test.YtimngnabpolgkaaGreatAeB6
namespace Go.AE
noncomputable section
set_option linter.unusedSimpArgs false
set_option linter.unusedVariables false
variable {P : Program} {E : Env} {ops : Array Oper} {ρ : Ren}

/-! ### Loops and scopes -/
def LoopIn (F : Fence) (n : Nat) (P : Program) (c : Code) (Q : Exit → Act → World → Prop) (a : Act) (w : World) : Prop :=
  ∀ (b : Frame) (k : List Item) (cs : List Frame), b.roundOf = F.round → F.fn b.fn → F.room (cs.length + 1 + n) →
    ∃ e a' w', Q e a' w' ∧ ArrivesIn (Machine.fenced P F) P (lone (b.atR a (.code c :: .inLoop c :: k)) cs w) b k cs e a' w'

section
variable {F : Fence} {n : Nat} {Q : Exit → Act → World → Prop} {a : Act} {w : World}

theorem loopIn_step {c : Code} (h : c.wpIn F n P (Exit.then (fun a' w' => LoopIn F n P c Q a' w') Q) a w) : LoopIn F n P c Q a w := by
  intro b k cs hro hb hr
  obtain ⟨e, a₁, w₁, hq, harr⟩ := h b (.inLoop c :: k) cs hro hb hr
  cases e with
  | normal =>
    obtain ⟨e₂, a₂, w₂, hq₂, harr₂⟩ := hq b k cs hro hb hr
    exact ⟨e₂, a₂, w₂, hq₂, .of_steps (StepsIn.trans harr (.one (fenced_calm hb hr rfl) stepR_inLoop)) harr₂⟩
  | exit id => exact ⟨_, a₁, w₁, hq, .pass (x := .inLoop c) rfl (fun _ _ => .inl (by simp)) harr⟩
  | goto l => exact ⟨_, a₁, w₁, hq, .pass (x := .inLoop c) rfl (fun _ _ => .inl (by simp)) harr⟩
  | ret => exact ⟨_, a₁, w₁, hq, .pass (x := .inLoop c) rfl (fun _ _ => .inl (by simp)) harr⟩
  | panic ch => exact ⟨_, a₁, w₁, hq, .pass (x := .inLoop c) rfl (fun _ _ => .inl (by simp)) harr⟩
  | outgrown => exact ⟨_, a₁, w₁, hq, .pass (x := .inLoop c) rfl (fun _ _ => .inl (by simp)) harr⟩

theorem wpIn_of_loopIn {c : Code} (h : LoopIn F n P c Q a w) : (Code.loop c).wpIn F n P Q a w := by
  intro b k cs hro hb hr
  obtain ⟨e, a', w', hq, harr⟩ := h b k cs hro hb hr
  exact ⟨e, a', w', hq, .of_steps (.one (fenced_calm hb hr rfl) stepR_loop) harr⟩

theorem LoopIn.mono {c : Code} {Q' : Exit → Act → World → Prop} (h : LoopIn F n P c Q a w) (hq : ∀ e a w, Q e a w → Q' e a w) : LoopIn F n P c Q' a w :=
  fun b k cs hro hb hr => let ⟨e, a', w', q, r⟩ := h b k cs hro hb hr; ⟨e, a', w', hq _ _ _ q, r⟩

theorem stepR_scope' {b : Frame} {c : Code} {k : List Item} {cs : List Frame} : step P (lone (b.atR a (.code (.scope c) :: k)) cs w) = .next (lone (b.atR a (.code c :: .inScope c :: k)) cs w) :=
  step_lone_go (by simp [stepG, stepG.exec, Frame.atR])
theorem stepR_inScope' {b : Frame} {c : Code} {k : List Item} {cs : List Frame} : step P (lone (b.atR a (.inScope c :: k)) cs w) = .next (lone (b.atR a k) cs w) :=
  step_lone_go (by simp [stepG, stepG.exec, Frame.atR])

theorem wpIn_scope' {c : Code} (hg : ∀ l a w, ¬ Q (.goto l) a w) (h : c.wpIn F n P Q a w) : (Code.scope c).wpIn F n P Q a w := by
  intro b k cs hro hb hr
  have h0 : (lone (b.atR a (.code (.scope c) :: k)) cs w).fenced P F := fenced_calm hb hr rfl
  obtain ⟨e, a₁, w₁, hq, harr⟩ := h b (.inScope c :: k) cs hro hb hr
  cases e with
  | normal => exact ⟨.normal, a₁, w₁, hq, .head h0 stepR_scope' (StepsIn.trans harr (.one (fenced_calm hb hr rfl) stepR_inScope'))⟩
  | exit id =>
    have hx : exitTo id (.inScope c :: k) = exitTo id k := by simp [exitTo]
    exact ⟨.exit id, a₁, w₁, hq, fun k' hk => .head h0 stepR_scope' (harr.1 k' (by rw [hx]; exact hk)),
      fun hr' hk => let ⟨k₁, h1, h2⟩ := harr.2 hr' (by rw [hx]; exact hk); ⟨k₁, h1, .head h0 stepR_scope' h2⟩⟩
  | goto l => exact absurd hq (hg l a₁ w₁)
  | ret => exact ⟨_, a₁, w₁, hq, .of_steps (.one h0 stepR_scope') harr⟩
  | panic ch => exact ⟨_, a₁, w₁, hq, .of_steps (.one h0 stepR_scope') harr⟩
  | outgrown => exact ⟨_, a₁, w₁, hq, .of_steps (b := b) (k := k) (cs := cs) (e := .outgrown) (.one h0 stepR_scope') harr⟩
end

/-- All that is asked of what is below. -/
structure ESoundL (P : Program) (E : Env) : Prop extends ESound P E where
  loop : ∀ rd c s r, E.code rd (.loop c) s = some r → ∀ ρ w a n rr, RdRel ρ rd rr → Rel ρ s.h w.heap → VS ρ s.tmps a.tmps → DRel ρ s.defers a.defers → LoopIn (Fw rr) n P c (Post ρ w r) a w

theorem Post.goto {w : World} {r : Ex × St} (l : Nat) (a' : Act) (w' : World) : ¬ Post ρ w r (.goto l) a' w' := by
  rintro ⟨h, _⟩
  cases hr : r.1 <;> rw [hr] at h <;> cases h

theorem Post.trans {w w₁ : World} {ρ₁ : Ren} {r : Ex × St} (hst : Step ρ w ρ₁ w₁) {e : Exit} {a' : Act} {w' : World} (h : Post ρ₁ w₁ r e a' w') : Post ρ w r e a' w' := by
  obtain ⟨h1, ρ', h2, h3⟩ := h
  exact ⟨h1, ρ', hst.trans h2, h3⟩

/-- Code of a loop, and the loop itself. -/
theorem loop_sound (hE : ESoundL P E) {c : Code} {rd : Option Nat} {s : St} {r : Ex × St}
    (ih : ∀ s r, evalC P E rd c s = some r → ∀ ρ w a n rr, RdRel ρ rd rr → Rel ρ s.h w.heap → VS ρ s.tmps a.tmps → DRel ρ s.defers a.defers → Code.wpIn (Fw rr) n P c (Post ρ w r) a w)
    (hs : evalC P E rd (.loop c) s = some r) : ∀ ρ w a n rr, RdRel ρ rd rr → Rel ρ s.h w.heap → VS ρ s.tmps a.tmps → DRel ρ s.defers a.defers → LoopIn (Fw rr) n P c (Post ρ w r) a w := by
  intro ρ w a n rr hrd hR hA hD
  simp only [evalC] at hs
  split at hs
  · rename_i s' hc
    refine loopIn_step (wpIn_mono (ih s _ hc ρ w a n rr hrd hR hA hD) ?_)
    rintro e a₁ w₁ ⟨rfl, ρ₁, hst, hR1, hA1, hD1⟩
    exact (hE.loop rd c s' r hs ρ₁ w₁ a₁ n rr (hrd.mono hst.le) hR1 hA1 hD1).mono fun e a w h => h.trans hst
  · rename_i hne
    refine loopIn_step (wpIn_mono (ih s _ hs ρ w a n rr hrd hR hA hD) ?_)
    intro e a₁ w₁ hp
    have he := hp.1
    subst he
    obtain ⟨ex, s'⟩ := r
    cases ex with
    | normal => exact absurd hs (hne s')
    | exit id => exact hp
    | ret => exact hp

/-! ### A loop over a function -/
theorem Rel.push_real {h : AH} {A : Array Obj} (hR : Rel ρ h A) (o : Obj) : Rel ρ h (A.push o) where
  lt := fun β i hi => by have := hR.lt β i hi; simp; omega
  obj := fun β p hp => by
    obtain ⟨i, b, hi, hb, hO⟩ := hR.obj β p hp
    have hlt := (Array.getElem?_eq_some_iff.1 hb).1
    exact ⟨i, b, hi, by rw [Array.getElem?_push_lt hlt]; simpa using (Array.getElem?_eq_some_iff.1 hb).2, hO⟩
  inj := hR.inj

theorem rangeFunc_sound (hE : ESoundL P E) (hq : Quiet P) {g : Operand} {ps : Array Tmp} {assign body : Code} {rd : Option Nat} {s : St} {r : Ex × St} (hs : evalC P E rd (.rangeFunc g ps assign body) s = some r)
    {w : World} {a : Act} {n : Nat} {rr : Option Nat} (hrd : RdRel ρ rd rr) (hR : Rel ρ s.h w.heap) (hA : VS ρ s.tmps a.tmps) (hD : DRel ρ s.defers a.defers) :
    Code.wpIn (Fw rr) n P (.rangeFunc g ps assign body) (Post ρ w r) a w := by
  simp only [evalC] at hs
  split at hs
  · cases hs
  · rename_i d mark h₁ hent
    split at hs
    · rename_i f first captured hg
      split at hs
      · rename_i hb
        split at hs
        · rename_i vv h₂ hcall
          -- the record is laid
          have entered : ∀ fn, ∃ (l : Nat) (mk : List Deferred) (w₁ : World) (ρ₁ : Ren) (i : Info), (Instr.enterLoop fn a.tmps ps assign body rr).run P w = .ok (l, mk) w₁ ∧ Step ρ w ρ₁ w₁ ∧ ρ₁ h₁.next = some i ∧ i.b = l ∧
              Rel ρ₁ (h₁.push (.loop .ready .normal s.tmps ps assign body d)) w₁.heap ∧ DRel ρ₁ (mark ++ s.defers) (mk ++ a.defers) := by
            intro fn
            cases rd with
            | none =>
              cases rr with
              | some l => exact hrd.elim
              | none =>
                simp only [Option.some.injEq, Prod.mk.injEq] at hent
                obtain ⟨rfl, rfl, rfl⟩ := hent
                have e1 := hR.alloc .defs (.deferred (some [])) (newInfo w.heap.size 0 0 0 false) rfl ⟨rfl, rfl, rfl⟩
                have s1 := Step.alloc hR (.deferred (some [])) (newInfo w.heap.size 0 0 0 false) rfl
                have le1 := s1.le
                have i1 : (ρ.put s.h.next (newInfo w.heap.size 0 0 0 false)) s.h.next = some (newInfo w.heap.size 0 0 0 false) := by simp [Ren.put]
                have e2 := e1.alloc (.loop .ready .normal s.tmps ps assign body s.h.next)
                  (.loop { state := .ready, pending := none, fn, tmps := a.tmps, params := ps, assign, body, defers := w.heap.size }) (newInfo (w.heap.push (.deferred (some []))).size 0 0 0 false) rfl
                  ⟨fn, a.tmps, w.heap.size, newInfo w.heap.size 0 0 0 false, rfl, rfl, rfl, (hA.mono le1).mono (Ren.le_put e1 _), (Ren.le_put e1 _) _ _ i1, rfl⟩
                have s2 := Step.alloc (w := { w with heap := w.heap.push (.deferred (some [])) }) e1 (.loop { state := .ready, pending := none, fn, tmps := a.tmps, params := ps, assign, body, defers := w.heap.size })
                  (newInfo (w.heap.push (.deferred (some []))).size 0 0 0 false) rfl
                refine ⟨(w.heap.push (.deferred (some []))).size, [{ target := .collected w.heap.size, args := #[] }], _, _, newInfo (w.heap.push (.deferred (some []))).size 0 0 0 false, by simp only [Instr.enterLoop, Sem.run_bind, run_newObj, Result.andThen_ok, Sem.run_pure], s1.trans s2, by simp [Ren.put], rfl, e2, ?_⟩
                have hD2 := hD.mono (s1.trans s2).le
                have i2 := (Ren.le_put e1 (newInfo (w.heap.push (.deferred (some []))).size 0 0 0 false)) _ _ i1
                refine ⟨fun x hx => ?_, ?_⟩
                · rcases List.mem_cons.1 hx with rfl | hx
                  · rw [i2]; rfl
                  · exact hD2.1 x hx
                · simp only [List.cons_append, List.nil_append, List.map_cons, i2]
                  rw [hD2.2]; rfl
            | some l =>
              cases rr with
              | none => exact hrd.elim
              | some l' =>
                obtain ⟨j, hj, rfl⟩ := hrd
                simp only at hent
                split at hent
                · rename_i st pend tm pr asg bd dd hgl
                  simp only [Option.some.injEq, Prod.mk.injEq] at hent
                  obtain ⟨rfl, rfl, rfl⟩ := hent
                  obtain ⟨fnl, tmps', d', hX, hv, _, _⟩ := loop_set (st' := st) (pend' := pend) hR hj hgl
                  obtain ⟨j', X, hj', hX', fn2, tm2, d2, jd, rfl, q1, q2, q3, q4, q5⟩ := hR.obj _ _ hgl
                  obtain rfl : j = j' := by rw [hj] at hj'; exact Option.some.inj hj'
                  have e2 := hR.alloc (.loop .ready .normal s.tmps ps assign body dd) (.loop { state := .ready, pending := none, fn, tmps := a.tmps, params := ps, assign, body, defers := d2 }) (newInfo w.heap.size 0 0 0 false) rfl
                    ⟨fn, a.tmps, d2, jd, rfl, rfl, rfl, hA.mono (Ren.le_put hR _), (Ren.le_put hR _) _ _ q4, q5⟩
                  have s2 := Step.alloc hR (.loop { state := .ready, pending := none, fn, tmps := a.tmps, params := ps, assign, body, defers := d2 }) (newInfo w.heap.size 0 0 0 false) rfl
                  refine ⟨w.heap.size, [], _, _, newInfo w.heap.size 0 0 0 false, by simp only [Instr.enterLoop, Sem.run_bind, getLoop_run hX', run_newObj, Result.andThen_ok, Sem.run_pure], s2, by simp [Ren.put], rfl, e2, by simpa using hD.mono s2.le⟩
                · cases hent
          refine wpIn_rangeFunc fun fn _ => ?_
          obtain ⟨l, mk, w₁, ρ₁, i, hel, hst, hi, rfl, hR1, hD1⟩ := entered fn
          have hgv := aeval_sim (ds := a.defers) hA g
          rw [hg] at hgv
          generalize hgr : a.eval g = gv at hgv
          cases hgv with
          | func _ f' as as' cs cs' hf' hsz hcz k1 k2 =>
            cases hf'
            cases hfn : P.funcs[f]? with
            | none => rw [hfn] at hb; simp at hb
            | some fnn =>
              rw [hfn] at hb
              have hbody : fnn.body.isNone = false := by
                cases hbd : fnn.body with
                | none => simp [hbd] at hb
                | some body => rfl
              have hname := hq f fnn hfn
              have hyv : V ρ₁ (.func (.yield h₁.next) #[] #[]) (.func (.yield i.b) #[] #[]) :=
                .func _ _ _ _ _ _ (.yield _ _ i hi rfl) rfl rfl (fun j hj => by simp at hj) (fun j hj => by simp at hj)
              have hargs : VS ρ₁ (first ++ #[.func (.yield h₁.next) #[] #[]] ++ captured) (as' ++ #[.func (.yield i.b) #[] #[]] ++ cs') := by
                refine VS.append2 (VS.append2 (VS.mono hst.le ⟨hsz, k1⟩) ⟨rfl, fun j hj => ?_⟩) (VS.mono hst.le ⟨hcz, k2⟩)
                have : j = 0 := by simpa using hj
                subst this; exact hyv
              refine ⟨i.b, mk, w₁, { target := .fn (.func f) cs', args := as' ++ #[.func (.yield i.b) #[] #[]] }, w₁, f, as' ++ #[.func (.yield i.b) #[] #[]] ++ cs', w₁, hel, ?_, fun _ _ => trivial, ?_, fun hd => (by cases hd), ?_⟩
              · have hm : (#[Operand.const (.func (.yield i.b) #[] #[])]).map a.eval = #[.func (.yield i.b) #[] #[]] := by simp [Act.eval]
                simp only [resolve, hm, hgr, Deferred.ofValue, Sem.run_pure]
              · simp only [invoke, callFunc, Sem.run_bind, Sem.run_pure, Result.andThen_ok, run_program, hfn, hname, hbody, Bool.false_eq_true, if_false]
              · have hc := hE.call f _ _ _ _ hcall ρ₁ w₁ _ (n - 1) hR1 hargs
                have hc' : CallsIn (Fw rr) (n - 1) P f (as' ++ #[.func (.yield i.b) #[] #[]] ++ cs') w₁ (RetPost ρ₁ w₁ vv h₂) := hc
                refine hc'.mono ?_
                rintro e w₃ ⟨ρ₃, v', rfl, hst3, hR3, hv3⟩
                have hi3 := hst3.le _ _ hi
                have hst' := hst.trans hst3
                split at hs
                · cases hs
                · rename_i st pend tm pr asg bd dd hgl hnb
                  cases hs
                  obtain ⟨fn3, tmps3, d3, hX3, hv3', hst4, hR4⟩ := loop_set (st' := .exhausted) (pend' := pend) hR3 hi3 hnb
                  have hsb : (st == .busy) = false := by
                    cases st <;> first | rfl | exact (hgl rfl).elim
                  refine ⟨pend.code, { w₃ with heap := w₃.heap.setIfInBounds i.b (.loop { state := .exhausted, pending := pend.code, fn := fn3, tmps := tmps3, params := pr, assign := asg, body := bd, defers := d3 }) }, ?_, ?_⟩
                  · simp only [Instr.endLoop, Sem.run_bind, getLoop_run hX3, Result.andThen_ok, hsb, Bool.false_eq_true, if_false, setObj_run hX3 (by intro c e f he; cases he), Sem.run_pure]
                  · have hfin : Post ρ w (pend, { tmps := s.tmps, defers := mark ++ s.defers, h := h₂.set h₁.next (.loop .exhausted pend tm pr asg bd dd) }) (exOf pend) { a with defers := mk ++ a.defers }
                        { w₃ with heap := w₃.heap.setIfInBounds i.b (.loop { state := .exhausted, pending := pend.code, fn := fn3, tmps := tmps3, params := pr, assign := asg, body := bd, defers := d3 }) } :=
                      ⟨rfl, ρ₃, hst'.trans hst4, hR4, hA.mono hst'.le, hD1.mono hst3.le⟩
                    cases pend with
                    | normal => exact hfin
                    | exit id => exact wpIn_exit hfin
                    | ret => exact wpIn_ret hfin
                · cases hs
        · cases hs
      · cases hs
    · cases hs

end
end Go.AE
