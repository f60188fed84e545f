/-
  AE, part 13: an operation that may come next yields what it yields in the text's order.
-/
import Derived.Test.YtimngnabpolgkaaGreatAeB3
namespace Go.AE
noncomputable section
set_option linter.unusedSimpArgs false
set_option linter.unusedVariables false
variable {P : Program} {E : Env} {ops : Array Oper}

theorem light_cases {o : Op} (h : heavyOp o = false) : pureOp o = true ∨ readOp o = true := by
  unfold heavyOp at h
  cases h1 : pureOp o <;> cases h2 : readOp o <;> simp_all

theorem stepVal_light {o : Oper} {A : Array Value} {h h' : AH} {v : Value} (hl : heavyOp o.op = false) (hs : stepVal P E ops o A h = some (v, h')) : h' = h := by
  unfold stepVal at hs
  split at hs
  · split at hs
    · rename_i u hu he
      cases hs
      rcases light_cases hl with hp | hp
      · obtain ⟨u', e, _⟩ := pureOp_spec hp he; cases e; rfl
      · obtain ⟨u', e⟩ := readOp_spec hp he; cases e; rfl
    · rename_i he
      rcases light_cases hl with hp | hp
      · obtain ⟨u', e, _⟩ := pureOp_spec hp he; cases e
      · obtain ⟨u', e⟩ := readOp_spec hp he; cases e
    · rename_i he
      rcases light_cases hl with hp | hp
      · obtain ⟨u', e, _⟩ := pureOp_spec hp he; cases e
      · obtain ⟨u', e⟩ := readOp_spec hp he; cases e
    · rename_i he
      rcases light_cases hl with hp | hp
      · obtain ⟨u', e, _⟩ := pureOp_spec hp he; cases e
      · obtain ⟨u', e⟩ := readOp_spec hp he; cases e
    · cases hs
  · cases hs; rfl
  · cases hs

theorem stepVal_pure {o : Oper} {A : Array Value} {h h' h₂ : AH} {v : Value} (hl : pureOp o.op = true) (hs : stepVal P E ops o A h = some (v, h')) : stepVal P E ops o A h₂ = some (v, h₂) := by
  unfold stepVal at hs ⊢
  cases hw : wantedA ops A o with
  | none => rw [hw] at hs; cases hs
  | some b =>
    rw [hw] at hs
    cases b with
    | false => simp only at hs ⊢; cases hs; rfl
    | true =>
      simp only at hs ⊢
      cases he : opA P (aeval A) h o with
      | none => rw [he] at hs; cases hs
      | some r =>
        obtain ⟨u, rfl, hall⟩ := pureOp_spec hl he
        rw [he] at hs
        simp only [Option.some.injEq, Prod.mk.injEq] at hs
        rw [hall h₂]
        simp only [hs.1]

/-- What the checks of a region have shown. -/
structure Drawn (R : Ran P E ops) : Prop where
  back : ∀ (i : Nat) o, ops[i]? = some o → ∀ e ∈ o.after.toList, Region.binds .any e = true → e.on < i
  apart : ∀ (i j : Nat) p o, i < j → ops[i]? = some p → ops[j]? = some o → aheadOf (Region.before ops) i j = true ∨
    (p.apart ops o = true ∧ (¬ (heavyOp p.op = true ∧ heavyOp o.op = true) ∨ (freshAt o = true ∧ ∀ (x : Nat) q, ops[x]? = some q → ∀ e ∈ q.after.toList, Region.binds .any e = true → e.on = j → aheadOf (Region.before ops) i x = true)))
  reads : ∀ (i j : Nat) p o, ops[i]? = some p → ops[j]? = some o → readOp p.op = true → heavyOp o.op = true → ¬ (if i < j then aheadOf (Region.before ops) i j else aheadOf (Region.before ops) j i) = true →
    wantedA ops (R.tm i) p = some false ∨ (wantedA ops (R.tm i) p = some true ∧ ∃ v h₁ h₂, opA P (aeval (R.tm i)) (R.hp j) p = some (.val v h₁) ∧ opA P (aeval (R.tm i)) (R.hp (j + 1)) p = some (.val v h₂))

theorem Ran.light (R : Ran P E ops) {k : Nat} {o : Oper} (ho : ops[k]? = some o) (hl : heavyOp o.op = false) : R.hp (k + 1) = R.hp k := stepVal_light hl (R.step k o ho).1

theorem Ran.const (R : Ran P E ops) (a : Nat) : ∀ (d : Nat), a + d ≤ ops.size → (∀ j o, a ≤ j → j < a + d → ops[j]? = some o → heavyOp o.op = false) → R.hp (a + d) = R.hp a
  | 0, _, _ => rfl
  | d + 1, hd, hl => by
    have ho : ops[a + d]? = some ops[a + d] := by simp [show a + d < ops.size by omega]
    rw [show a + (d + 1) = a + d + 1 by omega, R.light ho (hl _ _ (by omega) (by omega) ho)]
    exact Ran.const R a d (by omega) fun j o h1 h2 h3 => hl j o h1 (by omega) h3

theorem lookReady (R : Ran P E ops) (W : Drawn R) {D : Nat → Prop} {A : Array Value} {i : Nat} {o : Oper} (hc : Closed ops D) (hD : ¬ D i) (ho : ops[i]? = some o) (hci : ClosedOn ops D i)
    (hA : Slots R D A) : ∀ t ∈ o.looksAt ops, A[t]? = (R.tm i)[t]? := by
  have hi : i < ops.size := (Array.getElem?_eq_some_iff.1 ho).1
  have hdk : ∀ k t, dstOf ops k = some t → ∃ p, ops[k]? = some p ∧ p.dst = some t := by
    intro k t h
    unfold dstOf at h
    cases hp : ops[k]? with
    | none => rw [hp] at h; cases h
    | some p => rw [hp] at h; exact ⟨p, rfl, h⟩
  have later : ∀ k, i < k → D k → aheadOf (Region.before ops) i k = true → False := fun k _ hk ha => hD (ahead_closed (hc k hk) hc ha)
  intro t ht
  refine (hA.2 t).same ((R.slots i (Nat.le_of_lt hi)).2 t) fun k hk hkt => ?_
  obtain ⟨p, hp, hpd⟩ := hdk k t hkt
  rcases Nat.lt_trichotomy k i with hlt | rfl | hgt
  · rcases W.apart k i p o hlt hp ho with ha | ⟨ha, _⟩
    · exact ⟨fun _ => hlt, fun _ => ahead_closed hci hc ha⟩
    · exact absurd ht ((Oper.apart_spec ha).1 t hpd)
  · exact ⟨fun h => absurd h hD, fun h => absurd h (Nat.lt_irrefl _)⟩
  · rcases W.apart i k o p hgt ho hp with ha | ⟨ha, _⟩
    · exact ⟨fun h => (later k hgt h ha).elim, fun h => by omega⟩
    · exact absurd ht ((Oper.apart_spec ha).2.2 t hpd)

theorem stepReady (R : Ran P E ops) (W : Drawn R) {D : Nat → Prop} {A : Array Value} {m i : Nat} {o : Oper} (hc : Closed ops D) (hD : ¬ D i) (ho : ops[i]? = some o) (hci : ClosedOn ops D i)
    (hA : Slots R D A) (hm : m ≤ ops.size) (hmD : ∀ j p, ops[j]? = some p → heavyOp p.op = true → (D j ↔ j < m)) (hx : heavyOp o.op = true → i = m) :
    ∃ m', m' ≤ ops.size ∧ stepVal P E ops o A (R.hp m) = some (R.vals i, R.hp m') ∧ Slots R (fun k => D k ∨ k = i) (put A o.dst (R.vals i)) ∧
      (∀ j p, ops[j]? = some p → heavyOp p.op = true → ((D j ∨ j = i) ↔ j < m')) := by
  have hi : i < ops.size := (Array.getElem?_eq_some_iff.1 ho).1
  have hdst : o.dst = dstOf ops i := by simp [dstOf, ho]
  have hat : ∀ k, k < ops.size → ops[k]? = some (ops.getD k default) := by intro k hk; simp [Array.getD, hk]
  have hdk : ∀ k t, dstOf ops k = some t → ∃ p, ops[k]? = some p ∧ p.dst = some t := by
    intro k t h
    unfold dstOf at h
    cases hp : ops[k]? with
    | none => rw [hp] at h; cases h
    | some p => rw [hp] at h; exact ⟨p, rfl, h⟩
  -- one behind i that has been carried out is not behind it by the edges
  have later : ∀ k, i < k → D k → aheadOf (Region.before ops) i k = true → False := fun k _ hk ha => hD (ahead_closed (hc k hk) hc ha)
  -- the slots that it looks at
  have hlook : ∀ t ∈ o.looksAt ops, A[t]? = (R.tm i)[t]? := by
    intro t ht
    refine (hA.2 t).same ((R.slots i (Nat.le_of_lt hi)).2 t) fun k hk hkt => ?_
    obtain ⟨p, hp, hpd⟩ := hdk k t hkt
    rcases Nat.lt_trichotomy k i with hlt | rfl | hgt
    · rcases W.apart k i p o hlt hp ho with ha | ⟨ha, _⟩
      · exact ⟨fun _ => hlt, fun _ => ahead_closed hci hc ha⟩
      · exact absurd ht ((Oper.apart_spec ha).1 t hpd)
    · exact ⟨fun h => absurd h hD, fun h => absurd h (Nat.lt_irrefl _)⟩
    · rcases W.apart i k o p hgt ho hp with ha | ⟨ha, _⟩
      · exact ⟨fun h => (later k hgt h ha).elim, fun h => by omega⟩
      · exact absurd ht ((Oper.apart_spec ha).2.2 t hpd)
  have hput : Slots R (fun k => D k ∨ k = i) (put A o.dst (R.vals i)) := by
    rw [hdst]
    refine hA.put hi fun k hk hDk heq hne => ?_
    rcases Nat.lt_or_ge i k with hgt | hge
    · cases hdi : dstOf ops i with
      | none => exact absurd hdi hne
      | some t =>
        obtain ⟨p, hp, hpd⟩ := hdk k t (heq.trans hdi)
        rcases W.apart i k o p hgt ho hp with ha | ⟨ha, _⟩
        · exact (later k hgt hDk ha).elim
        · exact absurd hpd ((Oper.apart_spec ha).2.1 t (hdst.trans hdi))
    · exact hge
  have hstep := (R.step i o ho).1
  rw [stepVal_agree hlook]
  by_cases hh : heavyOp o.op = true
  · -- it writes: the heap is the one of the text's order
    obtain rfl := hx hh
    refine ⟨i + 1, hi, hstep, hput, fun j p hp hpv => ?_⟩
    rw [hmD j p hp hpv]
    omega
  · have hh' : heavyOp o.op = false := by simpa using hh
    refine ⟨m, hm, ?_, hput, fun j p hp hpv => ?_⟩
    · rcases light_cases hh' with hp | hp
      · exact stepVal_pure hp hstep
      · -- it reads
        have hstep' : stepVal P E ops o (R.tm i) (R.hp i) = some (R.vals i, R.hp i) := by rw [hstep, R.light ho hh']
        have turn : ∀ j q, ops[j]? = some q → (heavyOp q.op = true → ¬ (if i < j then aheadOf (Region.before ops) i j else aheadOf (Region.before ops) j i) = true) →
            (stepVal P E ops o (R.tm i) (R.hp j) = some (R.vals i, R.hp j) ↔ stepVal P E ops o (R.tm i) (R.hp (j + 1)) = some (R.vals i, R.hp (j + 1))) := by
          intro j q hq hun
          cases hqv : heavyOp q.op with
          | false => rw [R.light hq hqv]
          | true =>
            rcases W.reads i j o q ho hq hp hqv (hun hqv) with hw | ⟨hw, v, h₁, h₂, e1, e2⟩
            · simp only [stepVal, hw]; simp
            · obtain ⟨u1, f1⟩ := readOp_spec hp e1
              obtain ⟨u2, f2⟩ := readOp_spec hp e2
              cases f1; cases f2
              simp only [stepVal, hw, e1, e2]
              simp
        rcases Nat.le_total m i with hle | hle
        · have key : ∀ d, m + d ≤ i → stepVal P E ops o (R.tm i) (R.hp (i - d)) = some (R.vals i, R.hp (i - d)) := by
            intro d
            induction d with
            | zero => intro _; exact hstep'
            | succ d ih =>
              intro hd
              have h1 := ih (by omega)
              have hj := hat (i - (d + 1)) (by omega)
              rw [show i - d = i - (d + 1) + 1 by omega] at h1
              refine (turn _ _ hj fun hpv ha => ?_).2 h1
              rw [if_neg (by omega)] at ha
              have := (hmD _ _ hj hpv).1 (ahead_closed hci hc ha)
              omega
          have := key (i - m) (by omega)
          rwa [show i - (i - m) = m by omega] at this
        · have key : ∀ d, i + d ≤ m → stepVal P E ops o (R.tm i) (R.hp (i + d)) = some (R.vals i, R.hp (i + d)) := by
            intro d
            induction d with
            | zero => intro _; exact hstep'
            | succ d ih =>
              intro hd
              have h1 := ih (by omega)
              have hj := hat (i + d) (by omega)
              refine (turn _ _ hj fun hpv ha => ?_).1 h1
              have hDj := (hmD _ _ hj hpv).2 (by omega)
              by_cases hlt : i < i + d
              · rw [if_pos hlt] at ha; exact later _ hlt hDj ha
              · have : d = 0 := by omega
                subst this; exact hD hDj
          have := key (m - i) (by omega)
          rwa [show i + (m - i) = m by omega] at this
    · constructor
      · rintro (hDj | rfl)
        · exact (hmD j p hp hpv).1 hDj
        · rw [ho] at hp; cases hp; rw [hh'] at hpv; cases hpv
      · intro hj; exact .inl ((hmD j p hp hpv).2 hj)

/-! ### Out of the evaluator's checks -/
theorem trace_length {P : Program} {E : Env} {ops : Array Oper} : ∀ (l : List Oper) (s : St) (sts : List St), trace P E ops l s = some sts → sts.length = l.length + 1 ∧ sts[0]? = some s
  | [], s, sts, h => by simp only [trace, Option.some.injEq] at h; subst h; exact ⟨rfl, rfl⟩
  | o :: r, s, sts, h => by
    simp only [trace] at h
    split at h
    · rename_i s' hs'
      obtain ⟨sts', h1, rfl⟩ := Option.map_eq_some_iff.1 h
      obtain ⟨h2, _⟩ := trace_length r s' sts' h1
      exact ⟨by simp [h2], rfl⟩
    · cases h

theorem trace_step {P : Program} {E : Env} {ops : Array Oper} : ∀ (l : List Oper) (s : St) (sts : List St), trace P E ops l s = some sts → ∀ (k : Nat) o, l[k]? = some o →
    ∃ a b, sts[k]? = some a ∧ sts[k + 1]? = some b ∧ stepOp P E ops o a = some b
  | [], s, sts, h, k, o, hk => by simp at hk
  | p :: r, s, sts, h, k, o, hk => by
    simp only [trace] at h
    split at h
    · rename_i s' hs'
      obtain ⟨sts', h1, rfl⟩ := Option.map_eq_some_iff.1 h
      cases k with
      | zero =>
        simp at hk; subst hk
        exact ⟨s, s', rfl, by simpa using (trace_length r s' sts' h1).2, hs'⟩
      | succ k =>
        obtain ⟨a, b, e1, e2, e3⟩ := trace_step r s' sts' h1 k o (by simpa using hk)
        exact ⟨a, b, by simpa using e1, by simpa using e2, e3⟩
    · cases h

end
end Go.AE
