/-
  AE, part 15: a region whose order is open goes as the evaluator says.
-/
import Derived.Test.YtlabmlaenkdikaaAeB5
namespace Go.AE
set_option linter.unusedSimpArgs false
set_option linter.unusedVariables false
variable {P : Program} {E : Env} {ops : Array Oper} {ρ : Ren}

/-- The run that a trace tells of. -/
def ranVal (P : Program) (E : Env) (ops : Array Oper) (sts : List St) (s : St) (k : Nat) : Value :=
  match ops[k]? with
  | some o => match stepVal P E ops o ((sts[k]?).getD s).tmps ((sts[k]?).getD s).h with
    | some (v, _) => v
    | none => undef
  | none => undef

theorem stepOp_inv {o : Oper} {a b : St} (h : stepOp P E ops o a = some b) : ∃ v h', stepVal P E ops o a.tmps a.h = some (v, h') ∧ b = { a with tmps := put a.tmps o.dst v, h := h' } := by
  unfold stepOp at h
  split at h
  · rename_i v h' hv; cases h; exact ⟨v, h', hv, rfl⟩
  · cases h

def ranOf (s : St) (sts : List St) (ht : trace P E ops ops.toList s = some sts) : Ran P E ops where
  tm := fun k => ((sts[k]?).getD s).tmps
  hp := fun k => ((sts[k]?).getD s).h
  vals := ranVal P E ops sts s
  step := fun k o ho => by
    obtain ⟨a, b, e1, e2, e3⟩ := trace_step ops.toList s sts ht k o (by simpa using ho)
    obtain ⟨v, h', hv, rfl⟩ := stepOp_inv e3
    simp only [e1, e2, Option.getD_some, ranVal, ho, hv]
    exact ⟨trivial, trivial⟩

theorem trace_defers {l : List Oper} : ∀ {s : St} {sts : List St}, trace P E ops l s = some sts → ∀ x ∈ sts, x.defers = s.defers := by
  induction l with
  | nil => intro s sts h x hx; simp only [trace, Option.some.injEq] at h; subst h; simp at hx; rw [hx]
  | cons o r ih =>
    intro s sts h x hx
    simp only [trace] at h
    split at h
    · rename_i s' hs'
      obtain ⟨sts', h1, rfl⟩ := Option.map_eq_some_iff.1 h
      obtain ⟨v, h', hv, rfl⟩ := stepOp_inv hs'
      rcases List.mem_cons.1 hx with rfl | hx
      · rfl
      · exact ih h1 x hx
    · cases h

theorem zipIdx_mem {o : Oper} {i : Nat} (h : ops[i]? = some o) : (o, i) ∈ ops.toList.zipIdx := by
  rw [List.mem_zipIdx_iff_getElem?]
  simpa using h

theorem drawnOf {s : St} {sts : List St} (ht : trace P E ops ops.toList s = some sts) (h1 : drawStatic ops = true) (h2 : (drawPairs ops).all (sameRead P ops sts) = true) : Drawn (ranOf s sts ht) := by
  simp only [drawStatic, Bool.and_eq_true] at h1
  obtain ⟨hb, ha⟩ := h1
  refine ⟨fun i o ho e he hbd => ?_, fun i j p o hij hp ho => ?_, fun i j p o hp ho hr hh hun => ?_⟩
  · have := List.all_eq_true.1 hb _ (zipIdx_mem ho)
    have := List.all_eq_true.1 this e he
    simpa [hbd] using this
  · have := List.all_eq_true.1 ha _ (zipIdx_mem ho)
    have := List.all_eq_true.1 this _ (zipIdx_mem hp)
    simp only [hij, decide_true, Bool.not_true, Bool.false_or, Bool.or_eq_true, Bool.and_eq_true, Bool.not_eq_true', Bool.and_eq_false_iff] at this
    rcases this with h | ⟨h, h'⟩
    · exact .inl h
    · refine .inr ⟨h, fun ⟨x, y⟩ => ?_⟩
      rcases h' with h' | h'
      · rw [x] at h'; cases h'
      · rw [y] at h'; cases h'
  · have hmem : (i, j) ∈ drawPairs ops := by
      simp only [drawPairs, List.mem_flatMap, List.mem_filter, List.mem_map]
      refine ⟨(p, i), ⟨zipIdx_mem hp, hr⟩, (o, j), ⟨zipIdx_mem ho, ?_⟩, rfl⟩
      simp only [hh, Bool.true_and, Bool.not_eq_true']
      simpa using hun
    have hs := List.all_eq_true.1 h2 _ hmem
    obtain ⟨a, b, e1, e2, e3⟩ := trace_step ops.toList s sts ht j o (by simpa using ho)
    obtain ⟨a', b', f1, f2, f3⟩ := trace_step ops.toList s sts ht i p (by simpa using hp)
    simp only [sameRead, hp, f1, e1, e2] at hs
    simp only [ranOf, f1, e1, e2, Option.getD_some]
    cases hw : wantedA ops a'.tmps p with
    | none => rw [hw] at hs; cases hs
    | some t =>
      cases t with
      | false => exact .inl rfl
      | true =>
        rw [hw] at hs
        simp only at hs
        refine .inr ⟨rfl, ?_⟩
        split at hs
        · rename_i v hh1 v' hh2 g1 g2
          have := veq_eq hs
          subst this
          exact ⟨v, hh1, hh2, g1, g2⟩
        · cases hs

/-- How many have not been carried out. -/
def unlisted (n : Nat) (listed : Array Bool) : Nat := ((List.range n).filter fun k => !listed.getD k true).length

theorem unlisted_set {n i : Nat} {listed : Array Bool} (hn : listed.size = n) (hi : i < n) (hu : listed.getD i true = false) : unlisted n (listed.setIfInBounds i true) < unlisted n listed := by
  unfold unlisted
  have h1 : ∀ k, k < n → (listed.setIfInBounds i true).getD k true = if k = i then true else listed.getD k true := by
    intro k hk
    simp only [Array.getD_eq_getD_getElem?, Array.getElem?_setIfInBounds]
    by_cases e : i = k
    · subst e; simp [hn, hi]
    · simp [e, Ne.symm e]
  have h2 : ((List.range n).filter fun k => !(listed.setIfInBounds i true).getD k true) = ((List.range n).filter fun k => !listed.getD k true).filter (fun k => decide (k ≠ i)) := by
    rw [List.filter_filter]
    apply List.filter_congr
    intro k hk
    rw [h1 k (List.mem_range.1 hk)]
    by_cases e : k = i <;> simp [e]
  rw [h2]
  have hmem : i ∈ (List.range n).filter fun k => !listed.getD k true := by
    simp only [List.mem_filter, List.mem_range]; exact ⟨hi, by simp only [hu]; rfl⟩
  have := List.length_filter_lt_length_iff_exists (p := fun k => decide (k ≠ i)) (l := (List.range n).filter fun k => !listed.getD k true)
  exact this.2 ⟨i, hmem, by simp⟩

theorem any_sound (hE : ESound P E) (hq : Quiet P) {n : Nat} {rr : Option Nat} {Q : Exit → Act → World → Prop} (R : Ran P E ops) (W : Drawn R) (ds : List Nat) (ρ₀ : Ren) (w₀ : World)
    (hQ : ∀ ρ' a' w', Step ρ₀ w₀ ρ' w' → Rel ρ' (R.hp ops.size) w'.heap → VS ρ' (R.tm ops.size) a'.tmps → DRel ρ' ds a'.defers → Q .normal a' w') :
    ∀ (fuel : Nat) (listed : Array Bool) (a : Act) (w : World) (ρ : Ren) (A : Array Value) (m : Nat), listed.size = ops.size → unlisted ops.size listed ≤ fuel → Closed ops (fun k => listed.getD k false = true) →
      Slots R (fun k => listed.getD k false = true) A → m ≤ ops.size → (∀ (j : Nat) p, ops[j]? = some p → heavyOp p.op = true → (listed.getD j false = true ↔ j < m)) →
      Step ρ₀ w₀ ρ w → Rel ρ (R.hp m) w.heap → VS ρ A a.tmps → DRel ρ ds a.defers → wpAnyIn (Fw rr) n P .any ops Q fuel listed a w := by
  -- behind all
  have done : ∀ (listed : Array Bool) (a : Act) (w : World) (ρ : Ren) (A : Array Value) (m : Nat), listed.size = ops.size → (∀ k, k < ops.size → listed.getD k false = true) →
      Slots R (fun k => listed.getD k false = true) A → m ≤ ops.size → (∀ (j : Nat) p, ops[j]? = some p → heavyOp p.op = true → (listed.getD j false = true ↔ j < m)) →
      Step ρ₀ w₀ ρ w → Rel ρ (R.hp m) w.heap → VS ρ A a.tmps → DRel ρ ds a.defers → Q .normal a w := by
    intro listed a w ρ A m _ hall hA hm hmD hst hR hV hD
    have h1 := hA.all hall
    subst h1
    have h2 := R.const m (ops.size - m) (by omega) fun j p h1 h2 hp => by
      cases hpv : heavyOp p.op with
      | false => rfl
      | true =>
        have := (hmD j p hp hpv).1 (hall j (by omega)); omega
    rw [show m + (ops.size - m) = ops.size by omega] at h2
    exact hQ ρ a w hst (h2 ▸ hR) hV hD
  have ready_all : ∀ (listed : Array Bool), listed.size = ops.size → Region.ready .any ops listed = [] → ∀ k, k < ops.size → listed.getD k false = true := by
    intro listed hn hr k
    induction k using Nat.strongRecOn with
    | _ k ih =>
      intro hk
      cases hl : listed.getD k false with
      | true => rfl
      | false =>
        exfalso
        have hk' : k < listed.size := by omega
        have hl' : listed.getD k true = false := by simpa [Array.getD, hk'] using hl
        have ho : ops[k]? = some ops[k] := by simp [hk]
        have : k ∈ Region.ready .any ops listed := mem_ready.2 ⟨hl', ops[k], ho, fun e he hb => ih e.on (W.back k _ ho e (by simpa using he) hb) (by have := W.back k _ ho e (by simpa using he) hb; omega)⟩
        rw [hr] at this; cases this
  intro fuel
  induction fuel with
  | zero =>
    intro listed a w ρ A m hn hu hc hA hm hmD hst hR hV hD
    have hz : (List.range ops.size).filter (fun k => !listed.getD k true) = [] := List.length_eq_zero_iff.1 (Nat.le_zero.1 hu)
    have hall : ∀ k, k < ops.size → listed.getD k false = true := by
      intro k hk
      have := List.filter_eq_nil_iff.1 hz k (List.mem_range.2 hk)
      have hk' : k < listed.size := by omega
      simpa [Array.getD, hk'] using this
    refine ⟨?_, done listed a w ρ A m hn hall hA hm hmD hst hR hV hD⟩
    apply List.eq_nil_iff_forall_not_mem.2
    intro j hj
    obtain ⟨h1, o, ho, _⟩ := mem_ready.1 hj
    have hjs : j < ops.size := (Array.getElem?_eq_some_iff.1 ho).1
    have h2 := hall j hjs
    have hj' : j < listed.size := by omega
    simp [Array.getD, hj'] at h1 h2
    rw [h1] at h2; cases h2
  | succ fuel ih =>
    intro listed a w ρ A m hn hu hc hA hm hmD hst hR hV hD
    refine ⟨fun hr => done listed a w ρ A m hn (ready_all listed hn hr) hA hm hmD hst hR hV hD, fun i hi => ?_⟩
    obtain ⟨hun, o, ho, hpre⟩ := mem_ready.1 hi
    have his : i < ops.size := (Array.getElem?_eq_some_iff.1 ho).1
    have hil : i < listed.size := by omega
    have hDi : ¬ (listed.getD i false = true) := by simp [Array.getD, hil] at hun ⊢; exact hun
    have hci : ClosedOn ops (fun k => listed.getD k false = true) i := by
      intro o' ho' e he hb
      rw [ho] at ho'; cases ho'
      exact hpre e (by simpa using he) hb
    obtain ⟨m', hm', hstep, hslots, hheavy⟩ := stepReady R W hc hDi ho hci hA hm hmD
    have hset : ∀ k, (listed.setIfInBounds i true).getD k false = true ↔ (listed.getD k false = true ∨ k = i) := by
      intro k
      simp only [Array.getD_eq_getD_getElem?, Array.getElem?_setIfInBounds]
      by_cases e : i = k
      · subst e; simp [hil]
      · simp [e, Ne.symm e]
    refine wpOp_sound hE hq ho hstep hV hR fun ρ₁ v' w₁ hst1 hR1 hv1 => ?_
    refine ih (listed.setIfInBounds i true) _ w₁ ρ₁ _ m' (by simp [hn]) (by have := unlisted_set hn his hun; omega) ?_ (hslots.congr fun k _ => (hset k).symm) hm' (fun j p hp hpv => by rw [hset]; exact hheavy j p hp hpv)
      (hst.trans hst1) hR1 (put_rel' (hV.mono hst1.le) hv1 o.dst) (by rw [put_defers]; exact hD.mono hst1.le)
    intro k hk o' ho' e he hb
    refine (hset _).2 (.inl ?_)
    rcases (hset k).1 hk with hk | rfl
    · exact hc k hk o' ho' e he hb
    · exact hci o' ho' e he hb

theorem region_sound (hE : ESound P E) (hq : Quiet P) (hmix : P.follows .mixedOrders = true) {n id : Nat} {draw : Bool} {rr : Option Nat} {s s' : St} (hs : evalRegion P E ops draw s = some s') {w : World} {a : Act} (hR : Rel ρ s.h w.heap)
    (hA : VS ρ s.tmps a.tmps) (hD : DRel ρ s.defers a.defers) : Code.wpIn (Fw rr) n P (.region id ops draw) (Post ρ w (.normal, s')) a w := by
  cases draw with
  | false =>
    refine wpIn_region ?_
    exact runList_sound hE hq _ s s' hs ρ w a hR hA hD fun ρ' a' w' h1 h2 h3 h4 => ⟨rfl, ρ', h1, h2, h3, h4⟩
  | true =>
    unfold evalRegion at hs
    simp only [if_true] at hs
    split at hs
    · rename_i hst
      split at hs
      · rename_i sts ht
        split at hs
        · rename_i hp
          have hlen := trace_length ops.toList s sts ht
          have W := drawnOf ht hst hp
          have hlast : sts[ops.size]? = some s' := by
            rw [List.getLast?_eq_getElem?] at hs
            rw [hlen.1] at hs
            simpa using hs
          have hdef : s'.defers = s.defers := trace_defers ht s' (List.mem_of_getElem? hlast)
          refine wpIn_region_any hmix ?_
          have hs1 : Step ρ w ρ { w with drawn := w.drawn + 1 } := Step.same ρ rfl rfl rfl rfl
          refine any_sound hE hq (ranOf s sts ht) W s.defers ρ w ?_ ops.size _ a _ ρ s.tmps 0 (by simp) ?_ ?_ ?_ (Nat.zero_le _) ?_ hs1 ?_ hA hD
          · intro ρ' a' w' h1 h2 h3 h4
            simp only [ranOf, hlast, Option.getD_some] at h2 h3
            exact ⟨rfl, ρ', h1, h2, h3, by rw [hdef]; exact h4⟩
          · unfold unlisted
            exact Nat.le_trans (List.length_filter_le _ _) (by simp)
          · intro i hi
            simp only [Array.getD_eq_getD_getElem?, Array.getElem?_replicate] at hi
            split at hi <;> simp at hi
          · refine ⟨by simp [ranOf, hlen.2], fun t => .inr ⟨fun k _ hk => ?_, by simp [ranOf, hlen.2]⟩⟩
            simp only [Array.getD_eq_getD_getElem?, Array.getElem?_replicate] at hk
            split at hk <;> simp at hk
          · intro j p _ _
            constructor
            · intro hk
              simp only [Array.getD_eq_getD_getElem?, Array.getElem?_replicate] at hk
              split at hk <;> simp at hk
            · intro hk; exact absurd hk (Nat.not_lt_zero _)
          · simpa [ranOf, hlen.2] using hR
        · cases hs
      · cases hs
    · cases hs

end Go.AE
