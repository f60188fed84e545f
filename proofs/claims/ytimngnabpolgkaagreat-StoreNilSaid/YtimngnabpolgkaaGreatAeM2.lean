/-
  AE, ranges over maps, as far as their order is not open: at most one entry is left.
-/
import Derived.Test.YtimngnabpolgkaaGreatAeM1
namespace Go.AE
noncomputable section
set_option linter.unusedSimpArgs false
set_option linter.unusedVariables false
variable {P : Program} {ρ : Ren} {h : AH} {w : World}

def rangeA (P : Program) (t : TypeId) (x : Value) (h : AH) : Option (Value × AH) :=
  match P.underlying t, x with
  | some (.map _ _), .map (some m) =>
    match h.get m with
    | some (.map _ clock _) => some (.pointer (some ⟨h.next, 0, none⟩), h.push (.mapIter m clock #[] clock))
    | _ => none
  | _, _ => none

theorem rangeA_sim {t : TypeId} {x x' v : Value} {h' : AH} (hR : Rel ρ h w.heap) (hx : V ρ x x') (hs : rangeA P t x h = some (v, h')) : Makes P ρ w (Instr.range t x') v h' := by
  unfold rangeA at hs
  split at hs
  case h_2 => cases hs
  rename_i kt e m ht
  split at hs
  case h_2 => cases hs
  rename_i es clock ro hg
  cases hs
  obtain ⟨i, es', hi, rfl, hb, his, hro, hsz, hr⟩ := map_inv hR hx hg
  let j : Info := { b := w.heap.size, s := 0, n := 0, N := 0, esz := 0, op := false, ro := false }
  have hle := Ren.le_put (h := h) hR j
  refine ⟨ρ.put h.next j, .pointer (some ⟨w.heap.size, 0, none⟩), { w with heap := w.heap.push (.mapIter (some i.b) clock #[] clock) }, by simp [Instr.range, run_underlying ht, MapKept.run_getObj_map hb], Step.alloc hR _ j rfl,
    hR.alloc _ _ j rfl ⟨i, rfl, rfl, rfl, hle _ _ hi⟩, ?_⟩
  exact .pointer _ _ ⟨j, by simp [Ren.put], rfl, rfl, rfl⟩

def leftA (es : Array MapEntry) (seen : Array Nat) : List MapEntry := es.toList.filter fun e => !seen.contains e.born

def nextA (it : Value) (isStr : Bool) (h : AH) : Option (Value × AH) :=
  match it, isStr with
  | .pointer (some ⟨r, 0, _⟩), false =>
    match h.get r with
    | some (.mapIter m since seen last) =>
      match h.get m with
      | some (.map es clock _) =>
        if !seen.isEmpty && !es.isEmpty && es.all (fun e => decide (e.born ≥ last)) then none else
        if es.all (fun e => decide (e.born < since)) then
          match leftA es seen with
          | [] => some (.tuple #[.bool false], h)
          | [e] => some (.tuple #[.bool true, e.key, e.val], h.set r (.mapIter m since (seen.push e.born) clock))
          | _ => none
        else none
      | _ => none
    | _ => none
  | _, _ => none

theorem EL.filter {p : Nat → Bool} : ∀ {l l' : List MapEntry}, EL ρ l l' → EL ρ (l.filter fun e => p e.born) (l'.filter fun e => p e.born)
  | [], [], h => h
  | [], y :: l', h => by have := h.1; simp at this
  | x :: l, [], h => by have := h.1; simp at this
  | x :: l, y :: l', h => by
    obtain ⟨h1, h2⟩ := h.cons
    have ih := EL.filter (p := p) h2
    have hb : y.born = x.born := h1.2.2.symm
    simp only [List.filter_cons, hb]
    split
    · refine ⟨by simpa using ih.1, fun j a b ha hb => ?_⟩
      cases j with
      | zero => simp at ha hb; subst ha hb; exact h1
      | succ j => exact ih.2 j a b (by simpa using ha) (by simpa using hb)
    · exact ih

theorem EL.all {p : Nat → Bool} : ∀ {l l' : List MapEntry}, EL ρ l l' → (l'.all fun e => p e.born) = (l.all fun e => p e.born)
  | [], [], h => rfl
  | [], y :: l', h => by have := h.1; simp at this
  | x :: l, [], h => by have := h.1; simp at this
  | x :: l, y :: l', h => by
    obtain ⟨h1, h2⟩ := h.cons
    simp only [List.all_cons, EL.all (p := p) h2, h1.2.2]

theorem iter_inv {x a : Addr} {m since last : Nat} {seen : Array Nat} (hR : Rel ρ h w.heap) (hA : ARel ρ x a) (hg : h.get x.block = some (.mapIter m since seen last)) :
    ∃ i j, ρ x.block = some i ∧ ρ m = some j ∧ a = ⟨i.b, x.off, x.spot⟩ ∧ i.ro = false ∧ i.s = 0 ∧ w.heap[i.b]? = some (.mapIter (some j.b) since seen last) := by
  obtain ⟨i, b, hi, hb, j, rfl, e2, e3, e4⟩ := hR.obj _ _ hg
  obtain ⟨i', hi', ab, ao, asp⟩ := hA
  obtain rfl : i = i' := by rw [hi] at hi'; exact Option.some.inj hi'
  refine ⟨i, j, hi, e4, ?_, e3, e2, hb⟩
  obtain ⟨a1, a2, a3⟩ := a
  simp only at ab ao asp
  rw [ab, ao, asp, e2]; rfl

theorem nextA_sim {it it' v : Value} {isStr : Bool} {ty : TypeId} {h' : AH} (hR : Rel ρ h w.heap) (hx : V ρ it it') (hs : nextA it isStr h = some (v, h')) : Makes P ρ w (Instr.next it' isStr ty) v h' := by
  unfold nextA at hs
  split at hs
  case h_2 => cases hs
  rename_i r sp
  split at hs
  case h_2 => cases hs
  rename_i m since seen last hg
  split at hs
  case h_2 => cases hs
  rename_i es clock ro hm
  obtain ⟨a, rfl, hA⟩ : ∃ a, it' = .pointer (some a) ∧ ARel ρ ⟨r, 0, sp⟩ a := by
    cases hx with
    | pointer _ a h => exact ⟨a, rfl, h⟩
  obtain ⟨i, j, hi, hj, rfl, hro, his, hb⟩ := iter_inv hR hA hg
  obtain ⟨j', b, hj', hb', es', rfl, e2, e3, e4, e5⟩ := hR.obj _ _ hm
  obtain rfl : j' = j := by rw [hj'] at hj; exact Option.some.inj hj
  have hEL : EL ρ es.toList es'.toList := EL.of e4 e5
  have hem : es'.isEmpty = es.isEmpty := by simp [Array.isEmpty, e4]
  have hall : ∀ p : Nat → Bool, (es'.all fun e => p e.born) = (es.all fun e => p e.born) := fun p => by
    rw [← Array.all_toList, ← Array.all_toList]; exact hEL.all
  split at hs
  · cases hs
  rename_i hcond
  split at hs
  case isFalse => cases hs
  rename_i hold
  have hL := hEL.filter (p := fun n => !seen.contains n)
  have hcond' : (!seen.isEmpty && !es'.isEmpty && es'.all (fun e => decide (e.born ≥ last))) = false := by
    rw [hem, hall fun n => decide (n ≥ last)]; simpa using hcond
  have hold' : ∀ x ∈ (es'.filter fun e => !seen.contains e.born).toList, x.born < since := by
    have h1 := hall fun n => decide (n < since)
    rw [hold] at h1
    intro x hx
    rw [Array.all_eq_true_iff_forall_mem] at h1
    simp at hx
    simpa using h1 x hx.1
  have hlist : (es'.filter fun e => !seen.contains e.born).toList = es'.toList.filter fun e => !seen.contains e.born := by simp
  have k1 : (es'.filter fun e => !seen.contains e.born).filter (fun x => decide (x.born < since)) = es'.filter fun e => !seen.contains e.born :=
    Array.filter_eq_self.2 (fun x hx => by simpa using hold' x (by simpa using hx))
  have k2 : (es'.filter fun e => !seen.contains e.born).filter (fun x => decide (x.born ≥ since)) = #[] := by
    rw [Array.filter_eq_empty_iff]
    intro x hx
    have := hold' x (by simpa using hx)
    simp; omega
  generalize hLL : (es'.filter fun e => !seen.contains e.born) = L at *
  change EL ρ (leftA es seen) _ at hL
  rw [← hlist] at hL
  split at hs
  · rename_i hl
    cases hs
    rw [hl] at hL
    have h0 : L = #[] := by
      have := hL.1
      apply Array.eq_empty_of_size_eq_zero
      simpa using this.symm
    refine ⟨ρ, .tuple #[.bool false], w, ?_, Step.refl ρ w, hR, .over⟩
    simp only [Instr.next, getObj, Sem.run_bind, Sem.run, hb, hb', Result.andThen, hcond', Bool.false_eq_true, if_false, hLL, k1, k2]
    subst h0
    simp [choose, Sem.run, Question.forced]
  · rename_i e hl
    cases hs
    rw [hl] at hL
    obtain ⟨e', he'⟩ : ∃ e', L = #[e'] := by
      have := hL.1
      obtain ⟨l⟩ := L
      match l, this with
      | [x], _ => exact ⟨x, rfl⟩
    subst he'
    have he := hL.2 0 e e' rfl rfl
    refine ⟨ρ, .tuple #[.bool true, e'.key, e'.val], { w with heap := w.heap.setIfInBounds i.b (.mapIter (some j'.b) since (seen.push e'.born) clock) }, ?_, Step.set hi hro _, hR.setCells hg hi ⟨j', by rw [he.2.2], his, hro, hj'⟩, ?_⟩
    · simp only [Instr.next, getObj, Sem.run_bind, Sem.run, hb, hb', Result.andThen, hcond', Bool.false_eq_true, if_false, hLL, k1, k2]
      simp [choose, Sem.run, Question.forced, setObj, hb]
    · refine .tuple _ _ (by simp) rfl fun n hn => ?_
      simp only [List.size_toArray, List.length_cons, List.length_nil] at hn
      match n, hn with
      | 0, _ => exact .bool true
      | 1, _ => exact he.1
      | 2, _ => exact he.2.1
  · cases hs

def entryA (it : Value) (h : AH) : Option Value :=
  match it with
  | .pointer (some ⟨r, 0, _⟩) =>
    match h.get r with
    | some (.mapIter m _ seen last) =>
      match seen.back? with
      | some stamp =>
        match h.get m with
        | some (.map es clock _) =>
          if clock = last then
            match es.toList.find? (fun e => e.born == stamp) with
            | some e => some (.tuple #[e.key, e.val])
            | none => none
          else none
        | _ => none
      | none => none
    | _ => none
  | _ => none

theorem EL.find {p : Nat → Bool} : ∀ {l l' : List MapEntry} {e : MapEntry}, EL ρ l l' → l.find? (fun e => p e.born) = some e → ∃ e', l'.find? (fun e => p e.born) = some e' ∧ ERel ρ e e'
  | [], _, e, h, hf => by simp at hf
  | x :: l, [], e, h, hf => by have := h.1; simp at this
  | x :: l, y :: l', e, h, hf => by
    obtain ⟨h1, h2⟩ := h.cons
    have hb : y.born = x.born := h1.2.2.symm
    simp only [List.find?_cons, hb] at hf ⊢
    split at hf
    · cases hf; exact ⟨y, rfl, h1⟩
    · exact EL.find h2 hf

theorem entryA_sim {it it' v : Value} (hR : Rel ρ h w.heap) (hx : V ρ it it') (hs : entryA it h = some v) : ∃ v', (Instr.entry it').run P w = .ok v' w ∧ V ρ v v' := by
  unfold entryA at hs
  split at hs
  case h_2 => cases hs
  rename_i r sp
  split at hs
  case h_2 => cases hs
  rename_i m since seen last hg
  split at hs
  case h_2 => cases hs
  rename_i stamp hst
  split at hs
  case h_2 => cases hs
  rename_i es clock ro hm
  split at hs
  case isFalse => cases hs
  rename_i hcl
  subst hcl
  split at hs
  case h_2 => cases hs
  rename_i e hf
  cases hs
  obtain ⟨a, rfl, hA⟩ : ∃ a, it' = .pointer (some a) ∧ ARel ρ ⟨r, 0, sp⟩ a := by
    cases hx with
    | pointer _ a h => exact ⟨a, rfl, h⟩
  obtain ⟨i, j, hi, hj, rfl, hro, his, hb⟩ := iter_inv hR hA hg
  obtain ⟨j', b, hj', hb', es', rfl, e2, e3, e4, e5⟩ := hR.obj _ _ hm
  obtain rfl : j' = j := by rw [hj'] at hj; exact Option.some.inj hj
  obtain ⟨e', hf', he⟩ := (EL.of e4 e5).find (p := fun n => n == stamp) hf
  refine ⟨.tuple #[e'.key, e'.val], ?_, V.pair he.1 he.2.1⟩
  have hf'' : es'.find? (fun e => e.born == stamp) = some e' := by rw [← Array.find?_toList]; exact hf'
  simp [Instr.entry, getObj, Sem.run_bind, Sem.run, hb, hb', Result.andThen, hst, hf'']

end
end Go.AE
