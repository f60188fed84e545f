/-
  AE, part 15: a region whose order is open goes as the evaluator says.
-/
import Derived.Test.YtimngnabpolgkaaGreatAeB5
namespace Go.AE
noncomputable section
set_option linter.unusedSimpArgs false
set_option linter.unusedVariables false
variable {P : Program} {E : Env} {ops : Array Oper} {ρ : Ren}

/-- The run that a trace tells of. -/
def ranVal (P : Program) (E : Env) (ops : Array Oper) (sts : List St) (s : St) (k : Nat) : Value :=
  match ops[k]? with
  | some o => match stepVal P E ops o ((sts[k]?).getD s).tmps ((sts[k]?).getD s).h with
    | some (v, _) => v
    | none => undef
  | none => undef

theorem stepOp_inv {o : Oper} {a b : St} (h : stepOp P E ops o a = some b) : ∃ v h', stepVal P E ops o a.tmps a.h = some (v, h') ∧ b = { a with tmps := put a.tmps o.dst v, h := h' } := by
  unfold stepOp at h
  split at h
  · rename_i v h' hv; cases h; exact ⟨v, h', hv, rfl⟩
  · cases h

def ranOf (s : St) (sts : List St) (ht : trace P E ops ops.toList s = some sts) : Ran P E ops where
  tm := fun k => ((sts[k]?).getD s).tmps
  hp := fun k => ((sts[k]?).getD s).h
  vals := ranVal P E ops sts s
  step := fun k o ho => by
    obtain ⟨a, b, e1, e2, e3⟩ := trace_step ops.toList s sts ht k o (by simpa using ho)
    obtain ⟨v, h', hv, rfl⟩ := stepOp_inv e3
    simp only [e1, e2, Option.getD_some, ranVal, ho, hv]
    exact ⟨trivial, trivial⟩

theorem trace_defers {l : List Oper} : ∀ {s : St} {sts : List St}, trace P E ops l s = some sts → ∀ x ∈ sts, x.defers = s.defers := by
  induction l with
  | nil => intro s sts h x hx; simp only [trace, Option.some.injEq] at h; subst h; simp at hx; rw [hx]
  | cons o r ih =>
    intro s sts h x hx
    simp only [trace] at h
    split at h
    · rename_i s' hs'
      obtain ⟨sts', h1, rfl⟩ := Option.map_eq_some_iff.1 h
      obtain ⟨v, h', hv, rfl⟩ := stepOp_inv hs'
      rcases List.mem_cons.1 hx with rfl | hx
      · rfl
      · exact ih h1 x hx
    · cases h

theorem zipIdx_mem {o : Oper} {i : Nat} (h : ops[i]? = some o) : (o, i) ∈ ops.toList.zipIdx := by
  rw [List.mem_zipIdx_iff_getElem?]
  simpa using h

theorem drawnOf {s : St} {sts : List St} (ht : trace P E ops ops.toList s = some sts) (h1 : drawStatic ops = true) (h2 : (drawPairs ops).all (sameRead P ops sts) = true) : Drawn (ranOf s sts ht) := by
  simp only [drawStatic, Bool.and_eq_true] at h1
  obtain ⟨hb, ha⟩ := h1
  refine ⟨fun i o ho e he hbd => ?_, fun i j p o hij hp ho => ?_, fun i j p o hp ho hr hh hun => ?_⟩
  · have := List.all_eq_true.1 hb _ (zipIdx_mem ho)
    have := List.all_eq_true.1 this e he
    simpa [hbd] using this
  · have := List.all_eq_true.1 ha _ (zipIdx_mem ho)
    have := List.all_eq_true.1 this _ (zipIdx_mem hp)
    simp only [hij, decide_true, Bool.not_true, Bool.false_or, Bool.or_eq_true, Bool.and_eq_true, Bool.not_eq_true', Bool.and_eq_false_iff] at this
    rcases this with h | ⟨h, h'⟩
    · exact .inl h
    · refine .inr ⟨h, ?_⟩
      rcases h' with h' | ⟨h1, h2⟩
      · left
        rintro ⟨x, y⟩
        rcases h' with h' | h'
        · rw [x] at h'; cases h'
        · rw [y] at h'; cases h'
      · right
        refine ⟨h1, fun x q hq e he hb hon => ?_⟩
        have := List.all_eq_true.1 h2 _ (zipIdx_mem hq)
        simp only [Bool.or_eq_true, Bool.not_eq_true'] at this
        rcases this with h | h
        · exfalso
          have h3 := List.any_eq_false.1 h e he
          simp [hb, hon] at h3
        · exact h
  · have hmem : (i, j) ∈ drawPairs ops := by
      simp only [drawPairs, List.mem_flatMap, List.mem_filter, List.mem_map]
      refine ⟨(p, i), ⟨zipIdx_mem hp, hr⟩, (o, j), ⟨zipIdx_mem ho, ?_⟩, rfl⟩
      simp only [hh, Bool.true_and, Bool.not_eq_true']
      simpa using hun
    have hs := List.all_eq_true.1 h2 _ hmem
    obtain ⟨a, b, e1, e2, e3⟩ := trace_step ops.toList s sts ht j o (by simpa using ho)
    obtain ⟨a', b', f1, f2, f3⟩ := trace_step ops.toList s sts ht i p (by simpa using hp)
    simp only [sameRead, hp, f1, e1, e2] at hs
    simp only [ranOf, f1, e1, e2, Option.getD_some]
    cases hw : wantedA ops a'.tmps p with
    | none => rw [hw] at hs; cases hs
    | some t =>
      cases t with
      | false => exact .inl rfl
      | true =>
        rw [hw] at hs
        simp only at hs
        refine .inr ⟨rfl, ?_⟩
        split at hs
        · rename_i v hh1 v' hh2 g1 g2
          have := veq_eq hs
          subst this
          exact ⟨v, hh1, hh2, g1, g2⟩
        · cases hs

/-- How many have not been carried out. -/
def unlisted (n : Nat) (listed : Array Bool) : Nat := ((List.range n).filter fun k => !listed.getD k true).length

theorem unlisted_set {n i : Nat} {listed : Array Bool} (hn : listed.size = n) (hi : i < n) (hu : listed.getD i true = false) : unlisted n (listed.setIfInBounds i true) < unlisted n listed := by
  unfold unlisted
  have h1 : ∀ k, k < n → (listed.setIfInBounds i true).getD k true = if k = i then true else listed.getD k true := by
    intro k hk
    simp only [Array.getD_eq_getD_getElem?, Array.getElem?_setIfInBounds]
    by_cases e : i = k
    · subst e; simp [hn, hi]
    · simp [e, Ne.symm e]
  have h2 : ((List.range n).filter fun k => !(listed.setIfInBounds i true).getD k true) = ((List.range n).filter fun k => !listed.getD k true).filter (fun k => decide (k ≠ i)) := by
    rw [List.filter_filter]
    apply List.filter_congr
    intro k hk
    rw [h1 k (List.mem_range.1 hk)]
    by_cases e : k = i <;> simp [e]
  rw [h2]
  have hmem : i ∈ (List.range n).filter fun k => !listed.getD k true := by
    simp only [List.mem_filter, List.mem_range]; exact ⟨hi, by simp only [hu]; rfl⟩
  have := List.length_filter_lt_length_iff_exists (p := fun k => decide (k ≠ i)) (l := (List.range n).filter fun k => !listed.getD k true)
  exact this.2 ⟨i, hmem, by simp⟩

/-- A block that was made ahead of its time: nobody names it yet; it lies as it was made. -/
def Pend (R : Ran P E ops) (ρ : Ren) (w₀ w : World) (B : Array Value) (k b : Nat) : Prop :=
  ∃ (o : Oper) (f : Nat → Value) (ob : AObj) (g : Nat → Value) (ob' : Obj) (inf : Nat → Info), ops[k]? = some o ∧ freshAt o = true ∧ R.hp (k + 1) = (R.hp k).push ob ∧ R.vals k = f (R.hp k).next ∧
    (inf b).b = b ∧ w₀.heap.size ≤ b ∧ w.heap[b]? = some ob' ∧ (∀ β i, ρ β = some i → i.b ≠ b) ∧ (∀ d, o.dst = some d → d < B.size → B.getD d undef = g b) ∧
    ∀ (ρ' : Ren) (β : Nat), Ren.Le ρ ρ' → ρ' β = some (inf b) → ORel ρ' (inf b) ob ob' ∧ V ρ' (f β) (g b)

theorem Pend.mono {R : Ran P E ops} {ρ ρ₁ : Ren} {w₀ w w₁ : World} {B B₁ : Array Value} {k b : Nat} (h : Pend R ρ w₀ w B k b) (hst : Step ρ w ρ₁ w₁) (hsz : B₁.size = B.size)
    (hB : ∀ o d, ops[k]? = some o → o.dst = some d → B₁.getD d undef = B.getD d undef) : Pend R ρ₁ w₀ w₁ B₁ k b := by
  obtain ⟨o, f, ob, g, ob', inf, h1, h2, h3, h4, h5, h6, h7, h8, h9, h10⟩ := h
  have hlt := (Array.getElem?_eq_some_iff.1 h7).1
  refine ⟨o, f, ob, g, ob', inf, h1, h2, h3, h4, h5, h6, ?_, fun β i hi e => ?_, fun d hd hs => ?_, fun ρ' β hle hβ => h10 ρ' β (hst.le.trans hle) hβ⟩
  · rw [hst.frame b hlt fun β i hi e => absurd e (h8 β i hi)]; exact h7
  · obtain ⟨γ, j, hj, hjb, _⟩ := hst.old β i hi (by rw [e]; exact hlt)
    exact h8 γ j hj (hjb.trans e)
  · rw [hB o d h1 hd]; exact h9 d hd (by rw [← hsz]; exact hs)

theorem Step.push {ρ : Ren} {w : World} (ob : Obj) : Step ρ w ρ { w with heap := w.heap.push ob } where
  le := .refl ρ
  old := fun β i h _ => ⟨β, i, h, rfl, id⟩
  os := rfl
  tape := rfl
  output := rfl
  size := by simp
  frame := fun b hb _ => by simp [Array.getElem?_push_lt hb]

theorem Rel.pushed {ρ : Ren} {h : AH} {A : Array Obj} (hR : Rel ρ h A) (o : Obj) : Rel ρ h (A.push o) where
  lt := fun β i hi => by have := hR.lt β i hi; simp; omega
  obj := fun β o' ho' => by
    obtain ⟨i, b, hi, hb, hO⟩ := hR.obj β o' ho'
    refine ⟨i, b, hi, ?_, hO⟩
    rw [Array.getElem?_push_lt (hR.lt β i hi).1]
    simpa using (Array.getElem?_eq_some_iff.1 hb).2
  inj := hR.inj

/-- A block that lies there gets a name. -/
theorem Rel.named {ρ : Ren} {h : AH} {A : Array Obj} (hR : Rel ρ h A) {i : Info} {ob : AObj} {ob' : Obj} (hb : A[i.b]? = some ob') (hn : ∀ β j, ρ β = some j → j.b ≠ i.b)
    (hO : ORel (ρ.put h.next i) i ob ob') : Rel (ρ.put h.next i) (h.push ob) A where
  lt := fun β j hj => by
    simp only [Ren.put] at hj
    split at hj
    · cases hj; rename_i e; subst e; exact ⟨(Array.getElem?_eq_some_iff.1 hb).1, by simp⟩
    · have := hR.lt β j hj; simp; omega
  obj := fun β p hp => by
    rw [AH.get_push] at hp
    split at hp
    · rename_i e; subst e; cases hp
      exact ⟨i, ob', by simp [Ren.put], hb, hO⟩
    · rename_i e
      obtain ⟨j, b', hj, hb', hO'⟩ := hR.obj β p hp
      exact ⟨j, b', by simp [Ren.put, e, hj], hb', hO'.mono (Ren.le_put hR i)⟩
  inj := fun β γ o' p' k l ho hp hk hl e => by
    rw [AH.get_push] at ho hp
    simp only [Ren.put] at hk hl
    by_cases e1 : β = h.next
    · by_cases e2 : γ = h.next
      · rw [e1, e2]
      · simp only [e1, if_true] at hk; simp only [e2, if_false] at hl
        cases hk
        exact absurd e.symm (hn γ l hl)
    · by_cases e2 : γ = h.next
      · simp only [e2, if_true] at hl; simp only [e1, if_false] at hk
        cases hl
        exact absurd e (hn β k hk)
      · simp only [e1, e2, if_false] at ho hp hk hl
        exact hR.inj β γ o' p' k l ho hp hk hl e

/-- Carried out, as the evaluator sees it: of those that write, what lies ahead of m. -/
def Seen (ops : Array Oper) (D : Nat → Prop) (m k : Nat) : Prop := D k ∧ ∀ p, ops[k]? = some p → heavyOp p.op = true → k < m

structure Inv (R : Ran P E ops) (ds : List Nat) (ρ₀ : Ren) (w₀ : World) (D : Nat → Prop) (m : Nat) (A : Array Value) (ρ : Ren) (w : World) (a : Act) (pb : Nat → Nat) : Prop where
  i1 : m ≤ ops.size
  i2 : ∀ (k : Nat) p, ops[k]? = some p → heavyOp p.op = true → k < m → D k
  i3 : ∀ (k : Nat) p, ops[k]? = some p → heavyOp p.op = true → m ≤ k → D k → Pend R ρ w₀ w a.tmps k (pb k)
  i4 : ∀ (k j : Nat) p q, ops[k]? = some p → heavyOp p.op = true → m ≤ k → D k → ops[j]? = some q → heavyOp q.op = true → m ≤ j → D j → k ≠ j → pb k ≠ pb j
  i5 : Slots R (Seen ops D m) A
  i6 : A.size = a.tmps.size ∧ ∀ t, t < A.size → (∃ (k : Nat) (p : Oper), ops[k]? = some p ∧ heavyOp p.op = true ∧ m ≤ k ∧ D k ∧ p.dst = some t) ∨ V ρ (A.getD t undef) (a.tmps.getD t undef)
  i7 : Step ρ₀ w₀ ρ w
  i8 : Rel ρ (R.hp m) w.heap
  i9 : DRel ρ ds a.defers
  i10 : Closed ops (Seen ops D m)

def NF (ops : Array Oper) (D : Nat → Prop) (m : Nat) : Prop := ∀ p, ops[m]? = some p → heavyOp p.op = true ∧ ¬ D m

theorem getD_put (B : Array Value) (d : Option Tmp) (v : Value) (t : Nat) (ht : t < B.size) : (put B d v).getD t undef = if d = some t then v else B.getD t undef := by
  simp only [Array.getD_eq_getD_getElem?, put_get, ht, if_true]
  split <;> rfl

theorem act_put (a : Act) (d : Option Tmp) (v : Value) : (a.put d v).tmps = put a.tmps d v := by cases d <;> rfl

theorem light_fresh {o : Oper} (h : freshAt o = true) : heavyOp o.op = true := by
  obtain ⟨dst, op, type, pos, after, guard⟩ := o
  unfold freshAt at h
  cases op <;> simp only [freshOp, Bool.false_and] at h <;> first | (cases h; done) | rfl

/-- What can be seen is seen. -/
theorem Inv.saturate {R : Ran P E ops} (W : Drawn R) {ds : List Nat} {ρ₀ : Ren} {w₀ : World} {D : Nat → Prop} (hcD : Closed ops D) {w : World} {a : Act} {pb : Nat → Nat} : ∀ (d m : Nat) (A : Array Value) (ρ : Ren), ops.size - m ≤ d →
    Inv R ds ρ₀ w₀ D m A ρ w a pb → ∃ m' A' ρ', Inv R ds ρ₀ w₀ D m' A' ρ' w a pb ∧ NF ops D m' := by
  intro d
  induction d with
  | zero =>
    intro m A ρ hd I
    refine ⟨m, A, ρ, I, fun p hp => ?_⟩
    have := (Array.getElem?_eq_some_iff.1 hp).1
    omega
  | succ d ih =>
    intro m A ρ hd I
    cases hm : ops[m]? with
    | none => exact ⟨m, A, ρ, I, fun p hp => by rw [hm] at hp; cases hp⟩
    | some o =>
    have hlt := (Array.getElem?_eq_some_iff.1 hm).1
    cases hh : heavyOp o.op with
    | false =>
      have same : ∀ k, Seen ops D m k ↔ Seen ops D (m + 1) k := fun k => by
        constructor
        · rintro ⟨h1, h2⟩; exact ⟨h1, fun p hp hpv => by have := h2 p hp hpv; omega⟩
        · rintro ⟨h1, h2⟩
          refine ⟨h1, fun p hp hpv => ?_⟩
          have := h2 p hp hpv
          rcases Nat.lt_or_ge k m with h | h
          · exact h
          · have : k = m := by omega
            subst this; rw [hm] at hp; cases hp; rw [hh] at hpv; cases hpv
      have ne : ∀ k p, ops[k]? = some p → heavyOp p.op = true → k ≠ m := fun k p hp hpv e => by subst e; rw [hm] at hp; cases hp; rw [hh] at hpv; cases hpv
      refine ih (m + 1) A ρ (by omega) ⟨hlt, fun k p hp hpv hk => I.i2 k p hp hpv (by have := ne k p hp hpv; omega), fun k p hp hpv hk => I.i3 k p hp hpv (by omega), fun k j p q hp hpv hk hD hq hqv hj => I.i4 k j p q hp hpv (by omega) hD hq hqv (by omega),
        I.i5.congr fun k _ => same k, ⟨I.i6.1, fun t ht => ?_⟩, I.i7, by rw [R.light hm hh]; exact I.i8, I.i9, fun i hi o' ho' e he hb => (same _).1 (I.i10 i ((same i).2 hi) o' ho' e he hb)⟩
      rcases I.i6.2 t ht with ⟨k, p, hp, hpv, hk, h⟩ | h
      · exact .inl ⟨k, p, hp, hpv, by have := ne k p hp hpv; omega, h⟩
      · exact .inr h
    | true =>
      by_cases hD : D m
      · obtain ⟨o', f, ob, g, ob', inf, h1, h2, h3, h4, h5, h6, h7, h8, h9, h10⟩ := I.i3 m o hm hh (Nat.le_refl m) hD
        rw [hm] at h1; cases h1
        have hle := Ren.le_put I.i8 (inf (pb m))
        have hput : (ρ.put (R.hp m).next (inf (pb m))) (R.hp m).next = some (inf (pb m)) := by simp [Ren.put]
        obtain ⟨hO, hV⟩ := h10 _ _ hle hput
        have hRn : Rel (ρ.put (R.hp m).next (inf (pb m))) (R.hp (m + 1)) w.heap := by
          rw [h3]
          exact I.i8.named (by rw [h5]; exact h7) (fun β j hj => by rw [h5]; exact h8 β j hj) hO
        have hdst : o.dst = dstOf ops m := by simp [dstOf, hm]
        have seen : ∀ k, (Seen ops D m k ∨ k = m) ↔ Seen ops D (m + 1) k := fun k => by
          constructor
          · rintro (⟨h1, h2⟩ | rfl)
            · exact ⟨h1, fun p hp hpv => by have := h2 p hp hpv; omega⟩
            · exact ⟨hD, fun p hp hpv => by omega⟩
          · rintro ⟨h1, h2⟩
            by_cases e : k = m
            · exact .inr e
            · exact .inl ⟨h1, fun p hp hpv => by have := h2 p hp hpv; omega⟩
        have hsl : Slots R (Seen ops D (m + 1)) (put A o.dst (R.vals m)) := by
          rw [hdst]
          refine (I.i5.put hlt fun k hk hS heq hne => ?_).congr fun k _ => seen k
          rcases Nat.lt_or_ge m k with hgt | hge
          · exfalso
            cases hdi : dstOf ops m with
            | none => exact absurd hdi hne
            | some t =>
              have hp : ops[k]? = some ops[k] := by simp [hk]
              have hpd : ops[k].dst = some t := by have := heq.trans hdi; simpa [dstOf, hp] using this
              rcases W.apart m k o _ hgt hm hp with ha | ⟨ha, _⟩
              · have := (ahead_closed (I.i10 k hS) I.i10 ha).2 o hm hh; omega
              · exact absurd hpd ((Oper.apart_spec ha).2.1 t (hdst.trans hdi))
          · exact hge
        refine ih (m + 1) (put A o.dst (R.vals m)) (ρ.put (R.hp m).next (inf (pb m))) (by omega) ⟨hlt, fun k p hp hpv hk => ?_, fun k p hp hpv hk hDk => ?_, fun k j p q hp hpv hk hDk hq hqv hj => I.i4 k j p q hp hpv (by omega) hDk hq hqv (by omega),
          hsl, ⟨by rw [put_size]; exact I.i6.1, fun t ht => ?_⟩, ?_, hRn, I.i9.mono hle, ?_⟩
        · by_cases e : k = m
          · subst e; exact hD
          · exact I.i2 k p hp hpv (by omega)
        · obtain ⟨o2, f2, ob2, g2, ob2', inf2, a1, a2, a3, a4, a5, a6, a7, a8, a9, a10⟩ := I.i3 k p hp hpv (by omega) hDk
          refine ⟨o2, f2, ob2, g2, ob2', inf2, a1, a2, a3, a4, a5, a6, a7, fun β i hi => ?_, a9, fun ρ' β hle' hβ => a10 ρ' β (hle.trans hle') hβ⟩
          simp only [Ren.put] at hi
          split at hi
          · cases hi; rw [h5]; exact I.i4 m k o p hm hh (Nat.le_refl m) hD hp hpv (by omega) hDk (by omega)
          · exact a8 β i hi
        · rw [put_size] at ht
          rw [getD_put _ _ _ _ ht]
          by_cases e : o.dst = some t
          · right
            rw [if_pos e, h4, h9 t e (by rw [← I.i6.1]; exact ht)]
            exact hV
          · rw [if_neg e]
            rcases I.i6.2 t ht with ⟨k, p, hp, hpv, hk, hDk, hd⟩ | h
            · left
              refine ⟨k, p, hp, hpv, ?_, hDk, hd⟩
              have : k ≠ m := fun e' => by subst e'; rw [hm] at hp; cases hp; exact e hd
              omega
            · exact .inr (h.mono hle)
        · refine ⟨I.i7.le.trans hle, fun β i hi hb => ?_, I.i7.os, I.i7.tape, I.i7.output, I.i7.size, I.i7.frame⟩
          simp only [Ren.put] at hi
          split at hi
          · cases hi; rw [h5] at hb; omega
          · exact I.i7.old β i hi hb
        · intro i hi o' ho' e he hb
          by_cases e' : i = m
          · subst e'
            rw [hm] at ho'; cases ho'
            have hon := W.back i o hm e he hb
            exact ⟨hcD i hD o hm e he hb, fun _ _ _ => by omega⟩
          · exact (seen _).1 (.inl (I.i10 i (((seen i).2 hi).resolve_right e') o' ho' e he hb))
      · exact ⟨m, A, ρ, I, fun p hp => by rw [hm] at hp; cases hp; exact ⟨hh, hD⟩⟩

theorem masked {ρ : Ren} {A B : Array Value} (pend : Nat → Prop) (hs : A.size = B.size) (h : ∀ t, t < A.size → pend t ∨ V ρ (A.getD t undef) (B.getD t undef)) :
    ∃ Am : Array Value, VS ρ Am B ∧ ∀ t, ¬ pend t → Am[t]? = A[t]? := by
  classical
  refine ⟨⟨(List.range A.size).map fun t => if pend t then unk else A.getD t undef⟩, ⟨by simpa using hs, fun t ht => ?_⟩, fun t ht => ?_⟩
  · simp only [List.size_toArray, List.length_map, List.length_range] at ht
    have e : (⟨(List.range A.size).map fun t => if pend t then unk else A.getD t undef⟩ : Array Value).getD t undef = if pend t then unk else A.getD t undef := by
      simp [Array.getD_eq_getD_getElem?, ht]
    rw [e]
    by_cases hp : pend t
    · rw [if_pos hp]; exact V.unk _
    · rw [if_neg hp]; exact (h t ht).resolve_left hp
  · by_cases hlt : t < A.size
    · simp [hlt, ht]
    · simp [hlt]

theorem any_sound (hE : ESound P E) (hq : Quiet P) {n : Nat} {rr : Option Nat} {Q : Exit → Act → World → Prop} (R : Ran P E ops) (W : Drawn R) (ds : List Nat) (ρ₀ : Ren) (w₀ : World)
    (hQ : ∀ ρ' a' w', Step ρ₀ w₀ ρ' w' → Rel ρ' (R.hp ops.size) w'.heap → VS ρ' (R.tm ops.size) a'.tmps → DRel ρ' ds a'.defers → Q .normal a' w') :
    ∀ (fuel : Nat) (listed : Array Bool) (a : Act) (w : World) (ρ : Ren) (A : Array Value) (m : Nat) (pb : Nat → Nat), listed.size = ops.size → unlisted ops.size listed ≤ fuel → Closed ops (fun k => listed.getD k false = true) →
      Inv R ds ρ₀ w₀ (fun k => listed.getD k false = true) m A ρ w a pb → NF ops (fun k => listed.getD k false = true) m → wpAnyIn (Fw rr) n P .any ops Q fuel listed a w := by
  -- behind all
  have done : ∀ (listed : Array Bool) (a : Act) (w : World) (ρ : Ren) (A : Array Value) (m : Nat) (pb : Nat → Nat), listed.size = ops.size → (∀ k, k < ops.size → listed.getD k false = true) →
      Inv R ds ρ₀ w₀ (fun k => listed.getD k false = true) m A ρ w a pb → NF ops (fun k => listed.getD k false = true) m → Q .normal a w := by
    intro listed a w ρ A m pb _ hall I hN
    have hm : m = ops.size := by
      rcases Nat.lt_or_ge m ops.size with h | h
      · exact absurd (hall m h) (hN ops[m] (by simp [h])).2
      · have := I.i1; omega
    subst hm
    have h1 := I.i5.all (fun k hk => ⟨hall k hk, fun _ _ _ => hk⟩)
    refine hQ ρ a w I.i7 I.i8 ?_ I.i9
    rw [← h1]
    refine ⟨I.i6.1, fun t ht => ?_⟩
    rcases I.i6.2 t ht with ⟨k, p, hp, _, hk, _⟩ | h
    · have := (Array.getElem?_eq_some_iff.1 hp).1; omega
    · exact h
  have ready_all : ∀ (listed : Array Bool), listed.size = ops.size → Region.ready .any ops listed = [] → ∀ k, k < ops.size → listed.getD k false = true := by
    intro listed hn hr k
    induction k using Nat.strongRecOn with
    | _ k ih =>
      intro hk
      cases hl : listed.getD k false with
      | true => rfl
      | false =>
        exfalso
        have hk' : k < listed.size := by omega
        have hl' : listed.getD k true = false := by simpa [Array.getD, hk'] using hl
        have ho : ops[k]? = some ops[k] := by simp [hk]
        have : k ∈ Region.ready .any ops listed := mem_ready.2 ⟨hl', ops[k], ho, fun e he hb => ih e.on (W.back k _ ho e (by simpa using he) hb) (by have := W.back k _ ho e (by simpa using he) hb; omega)⟩
        rw [hr] at this; cases this
  intro fuel
  induction fuel with
  | zero =>
    intro listed a w ρ A m pb hn hu hc I hN
    have hz : (List.range ops.size).filter (fun k => !listed.getD k true) = [] := List.length_eq_zero_iff.1 (Nat.le_zero.1 hu)
    have hall : ∀ k, k < ops.size → listed.getD k false = true := by
      intro k hk
      have := List.filter_eq_nil_iff.1 hz k (List.mem_range.2 hk)
      have hk' : k < listed.size := by omega
      simpa [Array.getD, hk'] using this
    refine ⟨?_, done listed a w ρ A m pb hn hall I hN⟩
    apply List.eq_nil_iff_forall_not_mem.2
    intro j hj
    obtain ⟨h1, o, ho, _⟩ := mem_ready.1 hj
    have hjs : j < ops.size := (Array.getElem?_eq_some_iff.1 ho).1
    have h2 := hall j hjs
    have hj' : j < listed.size := by omega
    simp [Array.getD, hj'] at h1 h2
    rw [h1] at h2; cases h2
  | succ fuel ih =>
    intro listed a w ρ A m pb hn hu hc I hN
    refine ⟨fun hr => done listed a w ρ A m pb hn (ready_all listed hn hr) I hN, fun i hi => ?_⟩
    obtain ⟨hun, o, ho, hpre⟩ := mem_ready.1 hi
    have his : i < ops.size := (Array.getElem?_eq_some_iff.1 ho).1
    have hil : i < listed.size := by omega
    have hDi : ¬ (listed.getD i false = true) := by simp [Array.getD, hil] at hun ⊢; exact hun
    have hci : ClosedOn ops (fun k => listed.getD k false = true) i := by
      intro o' ho' e he hb
      rw [ho] at ho'; cases ho'
      exact hpre e (by simpa using he) hb
    -- what it waits for is seen
    have hcs : ClosedOn ops (Seen ops (fun k => listed.getD k false = true) m) i := by
      intro o' ho' e he hb
      rw [ho] at ho'; cases ho'
      have hDe := hpre e (by simpa using he) hb
      refine ⟨hDe, fun p hp hpv => ?_⟩
      rcases Nat.lt_or_ge e.on m with h | h
      · exact h
      exfalso
      have hel : e.on < ops.size := (Array.getElem?_eq_some_iff.1 hp).1
      have hm : ops[m]? = some ops[m] := by simp [show m < ops.size by omega]
      obtain ⟨hmh, hmD⟩ := hN _ hm
      have hne : m ≠ e.on := fun h' => hmD (h' ▸ hDe)
      rcases W.apart m e.on _ p (by omega) hm hp with ha | ⟨_, ha | ⟨_, ha⟩⟩
      · exact hmD (ahead_closed (hc _ hDe) hc ha)
      · exact ha ⟨hmh, hpv⟩
      · exact hmD (ahead_closed hci hc (ha i o ho e he hb rfl))
    have hDs : ¬ Seen ops (fun k => listed.getD k false = true) m i := fun h => hDi h.1
    -- a slot of one that is ahead of its time is not looked at, nor written
    have pendDst : ∀ (k : Nat) p, ops[k]? = some p → heavyOp p.op = true → m ≤ k → listed.getD k false = true → (∀ t, p.dst = some t → t ∉ o.looksAt ops ∧ o.dst ≠ some t) := by
      intro k p hp hpv hk hDk t ht
      have hki : k ≠ i := fun h => hDi (h ▸ hDk)
      rcases Nat.lt_or_gt_of_ne hki with hlt | hgt
      · rcases W.apart k i p o hlt hp ho with ha | ⟨ha, _⟩
        · have := (ahead_closed hcs I.i10 ha).2 p hp hpv; omega
        · exact ⟨(Oper.apart_spec ha).1 t ht, (Oper.apart_spec ha).2.1 t ht⟩
      · rcases W.apart i k o p hgt ho hp with ha | ⟨ha, _⟩
        · exact absurd (ahead_closed (hc k hDk) hc ha) hDi
        · refine ⟨(Oper.apart_spec ha).2.2 t ht, fun hd => ?_⟩
          exact (Oper.apart_spec ha).2.1 t hd ht
    -- the slots, without those
    obtain ⟨Am, hAV, hAe⟩ := masked (fun t => ∃ (k : Nat) (p : Oper), ops[k]? = some p ∧ heavyOp p.op = true ∧ m ≤ k ∧ listed.getD k false = true ∧ p.dst = some t) I.i6.1 I.i6.2
    have lookM : ∀ t ∈ o.looksAt ops, Am[t]? = A[t]? := fun t ht => hAe t fun ⟨k, p, hp, hpv, hk, hDk, hd⟩ => (pendDst k p hp hpv hk hDk t hd).1 ht
    have hset : ∀ k, (listed.setIfInBounds i true).getD k false = true ↔ (listed.getD k false = true ∨ k = i) := by
      intro k
      simp only [Array.getD_eq_getD_getElem?, Array.getElem?_setIfInBounds]
      by_cases e : i = k
      · subst e; simp [hil]
      · simp [e, Ne.symm e]
    have hc' : Closed ops (fun k => (listed.setIfInBounds i true).getD k false = true) := by
      intro k hk o' ho' e he hb
      refine (hset _).2 (.inl ?_)
      rcases (hset k).1 hk with hk | rfl
      · exact hc k hk o' ho' e he hb
      · exact hci o' ho' e he hb
    have hu' : unlisted ops.size (listed.setIfInBounds i true) ≤ fuel := by have := unlisted_set hn his hun; omega
    have dstNe : ∀ (k : Nat) p t, ops[k]? = some p → heavyOp p.op = true → m ≤ k → listed.getD k false = true → p.dst = some t → ∀ v, (put a.tmps o.dst v).getD t undef = a.tmps.getD t undef := by
      intro k p t hp hpv hk hDk ht v
      simp only [Array.getD_eq_getD_getElem?, put_get, (pendDst k p hp hpv hk hDk t ht).2, if_false]
    by_cases hlate : heavyOp o.op = true ∧ i ≠ m
    · -- it only makes something, ahead of its time
      obtain ⟨hh, him⟩ := hlate
      have hmi : m < i := by
        rcases Nat.lt_trichotomy i m with h | h | h
        · exact absurd (I.i2 i o ho hh h) hDi
        · exact absurd h him
        · exact h
      have hm : ops[m]? = some ops[m] := by simp [show m < ops.size by omega]
      obtain ⟨hmh, hmD⟩ := hN _ hm
      have hfr : freshAt o = true := by
        rcases W.apart m i _ o hmi hm ho with ha | ⟨_, ha | ⟨ha, _⟩⟩
        · exact absurd (ahead_closed hci hc ha) hmD
        · exact absurd ⟨hmh, hh⟩ ha
        · exact ha
      have hfo : freshOp o.op = true ∧ o.guard.isNone = true := by simpa [freshAt] using hfr
      have hg : o.guard = none := by simpa using hfo.2
      have hstep := (R.step i o ho).1
      rw [← stepVal_agree (A := Am) (fun t ht => (lookM t ht).trans (lookReady R W I.i10 hDs ho hcs I.i5 t ht))] at hstep
      have hw : wantedA ops Am o = some true := by simp [wantedA, hg]
      simp only [stepVal, hw] at hstep
      obtain ⟨r, hr⟩ : ∃ r, opA P (aeval Am) (R.hp i) o = some r := by
        cases h : opA P (aeval Am) (R.hp i) o with
        | none => rw [h] at hstep; cases hstep
        | some r => exact ⟨r, rfl⟩
      obtain ⟨f, ob, hF, rfl⟩ := freshOk hfo.1 hr
      rw [hr] at hstep
      simp only [Option.some.injEq, Prod.mk.injEq] at hstep
      obtain ⟨g, b, inf, hib, hrun, hV⟩ := hF.real ρ a.tmps hAV
      unfold wpOpIn
      simp only [ho]
      have hwr : Region.wanted o (yielded ops a.tmps) = true := by simp [Region.wanted, hg]
      rw [hwr]
      simp only [if_true]
      refine ⟨fun f _ => trivial, ?_⟩
      have hsem : o.semAt rr a.eval = execOp a.eval o := Oper.semAt_eq _ _ _ (opA_defer hr)
      have hrun' : (execOp a.eval o).run P w = .ok (.value (g w.heap.size)) { w with heap := w.heap.push b } := hrun a.defers w
      have seen : ∀ k, Seen ops (fun k => listed.getD k false = true) m k ↔ Seen ops (fun k => (listed.setIfInBounds i true).getD k false = true) m k := fun k => by
        constructor
        · rintro ⟨h1, h2⟩; exact ⟨(hset k).2 (.inl h1), h2⟩
        · rintro ⟨h1, h2⟩
          rcases (hset k).1 h1 with h1 | rfl
          · exact ⟨h1, h2⟩
          · have := h2 o ho hh; omega
      have key : wpAnyIn (Fw rr) n P .any ops Q fuel (listed.setIfInBounds i true) (a.put o.dst (g w.heap.size)) { w with heap := w.heap.push b } := by
        refine ih _ _ _ ρ A m (fun k => if k = i then w.heap.size else pb k) (by simp [hn]) hu' hc' ⟨I.i1, fun k p hp hpv hk => (hset k).2 (.inl (I.i2 k p hp hpv hk)), fun k p hp hpv hk hDk => ?_, fun k j p q hp hpv hk hDk hq hqv hj hDj hne => ?_,
          I.i5.congr fun k _ => seen k, ⟨?_, fun t ht => ?_⟩, I.i7.trans (Step.push b), I.i8.pushed b, by rw [put_defers]; exact I.i9, fun k hk o' ho' e he hb => (seen _).1 (I.i10 k ((seen k).2 hk) o' ho' e he hb)⟩ (fun p hp => ⟨(hN p hp).1, fun h => ?_⟩)
        · by_cases e : k = i
          · subst e
            simp only [if_true]
            rw [ho] at hp; cases hp
            refine ⟨o, f, ob, g, b, inf, ho, hfr, hstep.2.symm, hstep.1.symm, hib _, I.i7.size, by simp, fun β i hi => ?_, fun d hd hs => ?_, fun ρ' β hle hβ => hV ρ' β _ hle hβ⟩
            · have := (I.i8.lt β i hi).1; omega
            · rw [act_put] at hs ⊢
              rw [put_size] at hs
              rw [getD_put _ _ _ _ hs, if_pos hd]
          · simp only [e, if_false]
            have hDk' := ((hset k).1 hDk).resolve_right e
            refine (I.i3 k p hp hpv hk hDk').mono (Step.push b) (by rw [act_put, put_size]) fun o2 d ho2 hd => ?_
            rw [hp] at ho2; cases ho2
            rw [act_put]
            exact dstNe k p d hp hpv hk hDk' hd _
        · have hlt : ∀ (k : Nat) p, ops[k]? = some p → heavyOp p.op = true → m ≤ k → (listed.setIfInBounds i true).getD k false = true → k ≠ i → pb k < w.heap.size := by
            intro k p hp hpv hk hDk e
            obtain ⟨_, _, _, _, _, _, _, _, _, _, _, _, h7, _⟩ := I.i3 k p hp hpv hk (((hset k).1 hDk).resolve_right e)
            exact (Array.getElem?_eq_some_iff.1 h7).1
          by_cases e1 : k = i
          · by_cases e2 : j = i
            · omega
            · have := hlt j q hq hqv hj hDj e2
              simp only [e1, e2, if_true, if_false]; omega
          · by_cases e2 : j = i
            · have := hlt k p hp hpv hk hDk e1
              simp only [e1, e2, if_true, if_false]; omega
            · simp only [e1, e2, if_false]
              exact I.i4 k j p q hp hpv hk (((hset k).1 hDk).resolve_right e1) hq hqv hj (((hset j).1 hDj).resolve_right e2) hne
        · rw [act_put, put_size]; exact I.i6.1
        · by_cases e : o.dst = some t
          · exact .inl ⟨i, o, ho, hh, by omega, (hset i).2 (.inr rfl), e⟩
          · rcases I.i6.2 t ht with ⟨k, p, hp, hpv, hk, hDk, hd⟩ | h
            · exact .inl ⟨k, p, hp, hpv, hk, (hset k).2 (.inl hDk), hd⟩
            · right
              rw [act_put, getD_put _ _ _ _ (by rw [← I.i6.1]; exact ht), if_neg e]
              exact h
        · rcases (hset m).1 h with h | h
          · exact hmD h
          · exact him h.symm
      rw [hsem, hrun']
      exact key
    · -- in its turn
      have hx : heavyOp o.op = true → i = m := fun h => Classical.byContradiction fun h' => hlate ⟨h, h'⟩
      have hmD : ∀ (j : Nat) p, ops[j]? = some p → heavyOp p.op = true → (Seen ops (fun k => listed.getD k false = true) m j ↔ j < m) := fun j p hp hpv =>
        ⟨fun h => h.2 p hp hpv, fun h => ⟨I.i2 j p hp hpv h, fun _ _ _ => h⟩⟩
      obtain ⟨m', hm', hstep, hslots, hheavy⟩ := stepReady R W I.i10 hDs ho hcs I.i5 I.i1 hmD hx
      rw [← stepVal_agree (A := Am) lookM] at hstep
      refine wpOp_sound hE hq ho hstep hAV I.i8 fun ρ₁ v' w₁ hst1 hR1 hv1 => ?_
      have seen : ∀ k, (Seen ops (fun k => listed.getD k false = true) m k ∨ k = i) ↔ Seen ops (fun k => (listed.setIfInBounds i true).getD k false = true) m' k := fun k => by
        constructor
        · rintro (h | rfl)
          · exact ⟨(hset k).2 (.inl h.1), fun p hp hpv => (hheavy k p hp hpv).1 (.inl h)⟩
          · exact ⟨(hset k).2 (.inr rfl), fun p hp hpv => (hheavy k p hp hpv).1 (.inr rfl)⟩
        · rintro ⟨h1, h2⟩
          rcases (hset k).1 h1 with h1 | rfl
          · by_cases e : k = i
            · exact .inr e
            · refine .inl ⟨h1, fun p hp hpv => ?_⟩
              rcases (hheavy k p hp hpv).2 (h2 p hp hpv) with h | h
              · exact h.2 p hp hpv
              · exact absurd h e
          · exact .inr rfl
      have old : ∀ (k : Nat) p, ops[k]? = some p → heavyOp p.op = true → m' ≤ k → (listed.setIfInBounds i true).getD k false = true → m ≤ k ∧ listed.getD k false = true := by
        intro k p hp hpv hk hDk
        have e : k ≠ i := fun e => by have := (hheavy k p hp hpv).1 (.inr e); omega
        have hDk' := ((hset k).1 hDk).resolve_right e
        refine ⟨?_, hDk'⟩
        apply Nat.le_of_not_lt
        intro h
        have := (hheavy k p hp hpv).1 (.inl ⟨hDk', fun _ _ _ => h⟩); omega
      have I' : Inv R ds ρ₀ w₀ (fun k => (listed.setIfInBounds i true).getD k false = true) m' (put A o.dst (R.vals i)) ρ₁ w₁ (a.put o.dst v') pb := by
        refine ⟨hm', fun k p hp hpv hk => ?_, fun k p hp hpv hk hDk => ?_, fun k j p q hp hpv hk hDk hq hqv hj hDj hne => ?_, hslots.congr fun k _ => seen k, ⟨?_, fun t ht => ?_⟩, I.i7.trans hst1, hR1, by rw [put_defers]; exact I.i9.mono hst1.le, ?_⟩
        · rcases (hheavy k p hp hpv).2 hk with h | h
          · exact (hset k).2 (.inl h.1)
          · exact (hset k).2 (.inr h)
        · obtain ⟨h1, h2⟩ := old k p hp hpv hk hDk
          refine (I.i3 k p hp hpv h1 h2).mono hst1 (by rw [act_put, put_size]) fun o2 d ho2 hd => ?_
          rw [hp] at ho2; cases ho2
          rw [act_put]
          exact dstNe k p d hp hpv h1 h2 hd _
        · obtain ⟨h1, h2⟩ := old k p hp hpv hk hDk
          obtain ⟨h3, h4⟩ := old j q hq hqv hj hDj
          exact I.i4 k j p q hp hpv h1 h2 hq hqv h3 h4 hne
        · rw [put_size, act_put, put_size]; exact I.i6.1
        · rw [put_size] at ht
          have ht' : t < a.tmps.size := by rw [← I.i6.1]; exact ht
          rw [getD_put _ _ _ _ ht, act_put, getD_put _ _ _ _ ht']
          by_cases e : o.dst = some t
          · right; rw [if_pos e, if_pos e]; exact hv1
          · rw [if_neg e, if_neg e]
            rcases I.i6.2 t ht with ⟨k, p, hp, hpv, hk, hDk, hd⟩ | h
            · left
              refine ⟨k, p, hp, hpv, ?_, (hset k).2 (.inl hDk), hd⟩
              apply Nat.le_of_not_lt
              intro h
              rcases (hheavy k p hp hpv).2 h with h | h
              · have := h.2 p hp hpv; omega
              · exact hDi (h ▸ hDk)
            · exact .inr (h.mono hst1.le)
        · intro k hk o' ho' e he hb
          refine (seen _).1 (.inl ?_)
          rcases (seen k).2 hk with h | rfl
          · exact I.i10 k h o' ho' e he hb
          · exact hcs o' ho' e he hb
      obtain ⟨m₂, A₂, ρ₂, I₂, hN₂⟩ := I'.saturate W hc' ops.size m' _ ρ₁ (by omega)
      exact ih _ _ w₁ ρ₂ A₂ m₂ pb (by simp [hn]) hu' hc' I₂ hN₂

theorem region_sound (hE : ESound P E) (hq : Quiet P) (hmix : P.follows .mixedOrders = true) {n id : Nat} {draw : Bool} {rr : Option Nat} {s s' : St} (hs : evalRegion P E ops draw s = some s') {w : World} {a : Act} (hR : Rel ρ s.h w.heap)
    (hA : VS ρ s.tmps a.tmps) (hD : DRel ρ s.defers a.defers) : Code.wpIn (Fw rr) n P (.region id ops draw) (Post ρ w (.normal, s')) a w := by
  cases draw with
  | false =>
    refine wpIn_region ?_
    exact runList_sound hE hq _ s s' hs ρ w a hR hA hD fun ρ' a' w' h1 h2 h3 h4 => ⟨rfl, ρ', h1, h2, h3, h4⟩
  | true =>
    unfold evalRegion at hs
    simp only [if_true] at hs
    have core : ∀ (ops' : Array Oper), drawStatic ops' = true → (match trace P E ops' ops'.toList s with
        | some sts => if (drawPairs ops').all (sameRead P ops' sts) then sts.getLast? else none
        | none => none) = some s' → ∀ (w' : World), Step ρ w ρ w' → w'.heap = w.heap →
        wpAnyIn (Fw rr) n P .any ops' (Post ρ w (.normal, s')) ops'.size (Array.replicate ops'.size false) a w' := by
      intro ops' hst hs w' hs1 hw'
      split at hs
      · rename_i sts ht
        split at hs
        · rename_i hp
          have hlen := trace_length ops'.toList s sts ht
          have W := drawnOf ht hst hp
          have hlast : sts[ops'.size]? = some s' := by
            rw [List.getLast?_eq_getElem?] at hs
            rw [hlen.1] at hs
            simpa using hs
          have hdef : s'.defers = s.defers := trace_defers ht s' (List.mem_of_getElem? hlast)
          have none0 : ∀ k, ¬ ((Array.replicate ops'.size false).getD k false = true) := by
            intro k hk
            simp only [Array.getD_eq_getD_getElem?, Array.getElem?_replicate] at hk
            split at hk <;> simp at hk
          have hc0 : Closed ops' (fun k => (Array.replicate ops'.size false).getD k false = true) := fun i hi => absurd hi (none0 i)
          have I0 : Inv (ranOf s sts ht) s.defers ρ w (fun k => (Array.replicate ops'.size false).getD k false = true) 0 s.tmps ρ w' a (fun _ => 0) :=
            ⟨Nat.zero_le _, fun k p _ _ hk => absurd hk (Nat.not_lt_zero _), fun k p _ _ _ hk => absurd hk (none0 k), fun k j p q _ _ _ hk => absurd hk (none0 k),
              ⟨by simp [ranOf, hlen.2], fun t => .inr ⟨fun k _ hk => absurd hk.1 (none0 k), by simp [ranOf, hlen.2]⟩⟩, ⟨hA.1, fun t ht => .inr (hA.2 t ht)⟩, hs1, by rw [hw']; simpa [ranOf, hlen.2] using hR, hD,
              fun i hi => absurd hi.1 (none0 i)⟩
          obtain ⟨m', A', ρ', I1, hN⟩ := I0.saturate W hc0 ops'.size 0 _ ρ (by omega)
          refine any_sound hE hq (ranOf s sts ht) W s.defers ρ w ?_ ops'.size _ a w' ρ' A' m' _ (by simp) ?_ hc0 I1 hN
          · intro ρ' a' w' h1 h2 h3 h4
            simp only [ranOf, hlast, Option.getD_some] at h2 h3
            exact ⟨rfl, ρ', h1, h2, h3, by rw [hdef]; exact h4⟩
          · unfold unlisted
            exact Nat.le_trans (List.length_filter_le _ _) (by simp)
        · cases hs
      · cases hs
    refine wpIn_region_any hmix ?_
    have hs1 : Step ρ w ρ { w with drawn := w.drawn + 1 } := Step.same ρ rfl rfl rfl rfl
    split at hs
    · rename_i ops' hd
      unfold drawOps at hd
      split at hd
      · rename_i hst
        cases hd
        exact core ops hst hs _ hs1 rfl
      · split at hd
        · rename_i hp
          cases hd
          simp only [Bool.and_eq_true] at hp
          have hspec := permOk_spec hp.1
          have hcore := core _ hp.2 hs _ hs1 rfl
          rw [hspec.size] at hcore
          refine perm_any hspec _ _ _ a _ (by simp) (by simp) (fun i d hi => ?_) hcore
          simp [Array.getD_eq_getD_getElem?, Array.getElem?_replicate, hi, hspec.lt i hi]
        · cases hd
    · cases hs

end
end Go.AE
