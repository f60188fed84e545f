/-
  AE, part 11: a region whose order is open: what is yielded in any order is what is yielded in the text's.
-/
import Derived.Test.YtimngnabpolgkaaGreatAeB1
namespace Go.AE
noncomputable section
set_option linter.unusedSimpArgs false
set_option linter.unusedVariables false
variable {P : Program} {E : Env}

theorem addrEq_eq {a b : Addr} (h : addrEq a b = true) : a = b := by
  obtain ⟨a1, a2, a3⟩ := a
  obtain ⟨b1, b2, b3⟩ := b
  simp only [addrEq, Bool.and_eq_true, beq_iff_eq] at h
  obtain ⟨⟨h1, h2⟩, h3⟩ := h
  subst h1 h2 h3; rfl

theorem veq1_eq {x y : Value} (h : veq1 x y = true) : x = y := by
  unfold veq1 at h
  split at h <;> first | rfl | (cases h; done) | skip
  · simp at h; rw [h]
  · simp at h; rw [h.1, h.2]
  · simp at h; rw [h]
  · rw [addrEq_eq h]
  · simp at h; rw [h.1, h.2]
  · simp at h; rw [addrEq_eq h.1.1, h.1.2, h.2]
  · simp at h; rw [h]

theorem veqL_eq : ∀ {xs ys : List Value}, veqL xs ys = true → xs = ys
  | [], [], _ => rfl
  | [], _ :: _, h => by cases h
  | _ :: _, [], h => by cases h
  | x :: xs, y :: ys, h => by
    simp only [veqL, Bool.and_eq_true] at h
    rw [veq1_eq h.1, veqL_eq h.2]

theorem veq_eq {x y : Value} (h : veq x y = true) : x = y := by
  unfold veq at h
  split at h
  · rename_i xs ys; rw [Array.ext' (veqL_eq h)]
  · exact veq1_eq h

/-! ### What an operation looks at -/
theorem aeval_agree {A B : Array Value} {x : Operand} (h : ∀ t, x = .tmp t → A[t]? = B[t]?) : aeval A x = aeval B x := by
  cases x with
  | tmp t => simp only [aeval, Array.getD_eq_getD_getElem?, h t rfl]
  | _ => rfl

theorem map_agree {e e' : Operand → Value} {xs : Array Operand} (h : ∀ x ∈ xs.toList, e x = e' x) : xs.map e = xs.map e' := by
  apply Array.ext'
  simp only [Array.toList_map]
  exact List.map_congr_left h

theorem opt_agree {e e' : Operand → Value} {x : Option Operand} (h : ∀ y ∈ x.toArray.toList, e y = e' y) : x.map e = x.map e' := by
  cases x with
  | none => rfl
  | some x => simp at h; simp [h]

theorem parts_agree {e e' : Operand → Value} {ps : Array (Nat × Operand)} (h : ∀ x ∈ (ps.toList.map (·.2)).toArray.toList, e x = e' x) : partsA e ps = partsA e' ps := by
  apply Array.ext'
  simp only [partsA, Array.toList_map]
  apply List.map_congr_left
  intro p hp
  have := h p.2 (by simp; exact ⟨p.1, by simpa using hp⟩)
  rw [this]

theorem opA_agree {e e' : Operand → Value} {h : AH} {o : Oper} (ha : ∀ x ∈ o.op.operands.toList, e x = e' x) : opA P e h o = opA P e' h o := by
  obtain ⟨dst, op, type, pos, after, guard⟩ := o
  cases op with
  | move x => simp only [Op.operands] at ha; simp only [opA, ha x (by simp)]
  | assign x => simp only [Op.operands] at ha; simp only [opA, ha x (by simp)]
  | pick c a b => simp only [Op.operands] at ha; simp only [opA, ha a (by simp), ha b (by simp), ha c (by simp)]
  | alloc t => rfl
  | box t x => simp only [Op.operands] at ha; simp only [opA, ha x (by simp)]
  | build t ps => simp only [Op.operands] at ha; simp only [opA, parts_agree ha]
  | buildSlice t n ps => simp only [Op.operands] at ha; simp only [opA, parts_agree ha]
  | load t x => simp only [Op.operands] at ha; simp only [opA, ha x (by simp)]
  | store t a v => simp only [Op.operands] at ha; simp only [opA, ha a (by simp), ha v (by simp)]
  | nilCheck x => simp only [Op.operands] at ha; simp only [opA, ha x (by simp)]
  | binOp o t x y u => simp only [Op.operands] at ha; simp only [opA, ha x (by simp), ha y (by simp)]
  | unOp o t x => simp only [Op.operands] at ha; simp only [opA, ha x (by simp)]
  | convert s d x => simp only [Op.operands] at ha; simp only [opA, ha x (by simp)]
  | makeInterface t x => simp only [Op.operands] at ha; simp only [opA, ha x (by simp)]
  | makeFunc fn as cs =>
    simp only [Op.operands] at ha
    have h1 : as.map e = as.map e' := map_agree fun x hx => ha x (by simp; exact .inl (by simpa using hx))
    have h2 : cs.map e = cs.map e' := map_agree fun x hx => ha x (by simp; exact .inr (by simpa using hx))
    simp only [opA, h1, h2]
  | makeSlice t l c => simp only [Op.operands] at ha; simp only [opA, ha l (by simp), ha c (by simp)]
  | slice t x lo hi mx =>
    simp only [Op.operands] at ha
    have h1 : lo.map e = lo.map e' := opt_agree fun y hy => ha y (by simp at hy ⊢; exact .inr (.inl hy))
    have h2 : hi.map e = hi.map e' := opt_agree fun y hy => ha y (by simp at hy ⊢; exact .inr (.inr (.inl hy)))
    have h3 : mx.map e = mx.map e' := opt_agree fun y hy => ha y (by simp at hy ⊢; exact .inr (.inr (.inr hy)))
    simp only [opA, ha x (by simp), h1, h2, h3]
  | fieldAddr s x f => simp only [Op.operands] at ha; simp only [opA, ha x (by simp)]
  | field s x f => simp only [Op.operands] at ha; simp only [opA, ha x (by simp)]
  | indexAddr s x f => simp only [Op.operands] at ha; simp only [opA, ha x (by simp), ha f (by simp)]
  | index s x f => simp only [Op.operands] at ha; simp only [opA, ha x (by simp), ha f (by simp)]
  | extract x i => simp only [Op.operands] at ha; simp only [opA, ha x (by simp)]
  | call c =>
    simp only [Op.operands, Call.operands] at ha
    have h1 : c.args.map e = c.args.map e' := map_agree fun x hx => ha x (by simp; exact .inr (by simpa using hx))
    simp only [opA, callA]
    cases hc : c.callee with
    | builtin b => simp only [h1]
    | value f =>
      have : e f = e' f := ha f (by simp [hc])
      simp only [h1, this]
    | invoke r m => rfl
  | makeMap t r =>
    simp only [Op.operands] at ha
    have h1 : r.map e = r.map e' := opt_agree fun y hy => ha y (by simpa using hy)
    simp only [opA, h1]
  | lookup t x i ok => simp only [Op.operands] at ha; simp only [opA, ha x (by simp), ha i (by simp)]
  | mapUpdate t m k v => simp only [Op.operands] at ha; simp only [opA, ha m (by simp), ha k (by simp), ha v (by simp)]
  | insert t m k v => simp only [Op.operands] at ha; simp only [opA, ha m (by simp), ha k (by simp), ha v (by simp)]
  | typeAssert x s t ok => simp only [Op.operands] at ha; simp only [opA, ha x (by simp)]
  | range t x => simp only [Op.operands] at ha; simp only [opA, ha x (by simp)]
  | next x s => simp only [Op.operands] at ha; simp only [opA, ha x (by simp)]
  | entry x => simp only [Op.operands] at ha; simp only [opA, ha x (by simp)]
  | _ => rfl

theorem wantedA_agree {ops : Array Oper} {A B : Array Value} {o : Oper} (h : ∀ t ∈ o.looksAt ops, A[t]? = B[t]?) : wantedA ops A o = wantedA ops B o := by
  unfold wantedA
  cases hg : o.guard with
  | none => rfl
  | some g =>
    obtain ⟨j, want⟩ := g
    simp only
    have : yieldedA ops A j = yieldedA ops B j := by
      unfold yieldedA
      cases hd : (ops[j]?).bind (·.dst) with
      | none => rfl
      | some d => simp only; rw [h d (by simp [Oper.looksAt, hg, hd])]
    rw [this]

theorem aeval_looks {ops : Array Oper} {A B : Array Value} {o : Oper} (h : ∀ t ∈ o.looksAt ops, A[t]? = B[t]?) : ∀ x ∈ o.op.operands.toList, aeval A x = aeval B x := by
  intro x hx
  refine aeval_agree fun t e => h t ?_
  subst e
  simp only [Oper.looksAt, List.mem_append, List.mem_filterMap]
  exact .inl ⟨.tmp t, hx, rfl⟩

theorem stepVal_agree {ops : Array Oper} {A B : Array Value} {o : Oper} {h : AH} (ha : ∀ t ∈ o.looksAt ops, A[t]? = B[t]?) : stepVal P E ops o A h = stepVal P E ops o B h := by
  unfold stepVal
  rw [wantedA_agree ha, opA_agree (aeval_looks ha)]

theorem pureOp_spec {e : Operand → Value} {h : AH} {o : Oper} {r : AR} (hp : pureOp o.op = true) (hs : opA P e h o = some r) : ∃ v, r = .val v h ∧ ∀ h', opA P e h' o = some (.val v h') := by
  obtain ⟨dst, op, type, pos, after, guard⟩ := o
  have map1 : ∀ {x : Option Value}, (x.map fun v => AR.val v h) = some r → ∃ v, r = .val v h ∧ ∀ h', (x.map fun v => AR.val v h') = some (.val v h') := by
    intro x hx
    obtain ⟨v, rfl, rfl⟩ := Option.map_eq_some_iff.1 hx
    exact ⟨v, rfl, fun _ => rfl⟩
  cases op <;> simp only [pureOp] at hp <;> (try (cases hp; done)) <;> simp only [opA] at hs ⊢
  case move x => cases hs; exact ⟨_, rfl, fun _ => rfl⟩
  case assign x => cases hs; exact ⟨_, rfl, fun _ => rfl⟩
  case pick c a b => split at hs <;> first | (cases hs; done) | (cases hs; exact ⟨_, rfl, fun _ => rfl⟩)
  case build t ps => exact map1 hs
  case nilCheck x => split at hs <;> first | (cases hs; done) | (cases hs; exact ⟨_, rfl, fun _ => rfl⟩)
  case binOp => exact map1 hs
  case unOp =>
    split at hs
    · rename_i hpl; simp only [hpl, if_true]; exact map1 hs
    · cases hs
  case convert =>
    split at hs
    · rename_i hpl; simp only [hpl, if_true]; exact map1 hs
    · cases hs
  case makeInterface => split at hs <;> first | (cases hs; done) | (cases hs; exact ⟨_, rfl, fun _ => rfl⟩)
  case makeFunc => split at hs <;> first | (cases hs; done) | (cases hs; exact ⟨_, rfl, fun _ => rfl⟩)
  case fieldAddr => exact map1 hs
  case field => exact map1 hs
  case indexAddr => exact map1 hs
  case index => exact map1 hs
  case extract => exact map1 hs
  case call c =>
    split at hp <;> first | (cases hp; done) | skip
    all_goals
      rename_i hc
      simp only [callA, hc, builtinA] at hs ⊢
      split at hs
      · rename_i hpl; simp only [hpl, if_true]; exact map1 hs
      · cases hs

theorem readOp_spec {e : Operand → Value} {h : AH} {o : Oper} {r : AR} (hp : readOp o.op = true) (hs : opA P e h o = some r) : ∃ v, r = .val v h := by
  obtain ⟨dst, op, type, pos, after, guard⟩ := o
  have map1 : ∀ {x : Option Value}, (x.map fun v => AR.val v h) = some r → ∃ v, r = .val v h := by
    intro x hx
    obtain ⟨v, rfl, rfl⟩ := Option.map_eq_some_iff.1 hx
    exact ⟨v, rfl⟩
  cases op <;> simp only [readOp] at hp <;> (try (cases hp; done)) <;> simp only [opA] at hs
  case load t a =>
    split at hs
    · exact map1 hs
    · cases hs
  case slice => exact map1 hs
  case call c =>
    split at hp
    · rename_i hc
      simp only [callA, hc, builtinA] at hs
      exact map1 hs
    · cases hp

end
end Go.AE
