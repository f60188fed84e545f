/-
  AE, part 12: the slots and the heap behind any part of a region's operations.
-/
import Derived.Test.YtimngnabpolgkaaGreatAeB2
namespace Go.AE
noncomputable section
set_option linter.unusedSimpArgs false
set_option linter.unusedVariables false

/-- A region that was run in the text's order: the slots and heaps ahead of each operation, and what each yielded. -/
structure Ran (P : Program) (E : Env) (ops : Array Oper) where
  tm : Nat → Array Value
  hp : Nat → AH
  vals : Nat → Value
  step : ∀ (k : Nat) o, ops[k]? = some o → stepVal P E ops o (tm k) (hp k) = some (vals k, hp (k + 1)) ∧ tm (k + 1) = put (tm k) o.dst (vals k)

variable {P : Program} {E : Env} {ops : Array Oper}

def dstOf (ops : Array Oper) (k : Nat) : Option Tmp := (ops[k]?).bind (·.dst)

/-- What a slot holds when just those of D have been carried out. -/
def Slot (R : Ran P E ops) (D : Nat → Prop) (t : Nat) (x : Option Value) : Prop :=
  (∃ k, k < ops.size ∧ D k ∧ dstOf ops k = some t ∧ (∀ j, j < ops.size → D j → dstOf ops j = some t → j ≤ k) ∧ x = if t < (R.tm 0).size then some (R.vals k) else none) ∨
  ((∀ k, k < ops.size → D k → dstOf ops k ≠ some t) ∧ x = (R.tm 0)[t]?)

def Slots (R : Ran P E ops) (D : Nat → Prop) (A : Array Value) : Prop := A.size = (R.tm 0).size ∧ ∀ t, Slot R D t A[t]?

theorem Slot.same {R : Ran P E ops} {D D' : Nat → Prop} {t : Nat} {x y : Option Value} (h : Slot R D t x) (h' : Slot R D' t y) (hd : ∀ k, k < ops.size → dstOf ops k = some t → (D k ↔ D' k)) : x = y := by
  rcases h with ⟨k, hk, hDk, hdk, hmax, rfl⟩ | ⟨hno, rfl⟩
  · rcases h' with ⟨j, hj, hDj, hdj, hmax', rfl⟩ | ⟨hno', rfl⟩
    · have h1 := hmax j hj ((hd j hj hdj).2 hDj) hdj
      have h2 := hmax' k hk ((hd k hk hdk).1 hDk) hdk
      have : j = k := by omega
      subst this; rfl
    · exact absurd hdk (hno' k hk ((hd k hk hdk).1 hDk))
  · rcases h' with ⟨j, hj, hDj, hdj, hmax', rfl⟩ | ⟨hno', rfl⟩
    · exact absurd hdj (hno j hj ((hd j hj hdj).2 hDj))
    · rfl

theorem put_size (A : Array Value) (d : Option Tmp) (v : Value) : (put A d v).size = A.size := by cases d <;> simp [put]

theorem put_get (A : Array Value) (d : Option Tmp) (v : Value) (t : Nat) : (put A d v)[t]? = if d = some t then (if t < A.size then some v else none) else A[t]? := by
  cases d with
  | none => simp [put]
  | some d =>
    simp only [put, Array.getElem?_setIfInBounds]
    by_cases e : d = t
    · subst e; simp
    · simp [e]

theorem Slots.put {R : Ran P E ops} {D : Nat → Prop} {A : Array Value} (h : Slots R D A) {i : Nat} (hi : i < ops.size) (hlast : ∀ k, k < ops.size → D k → dstOf ops k = dstOf ops i → dstOf ops i ≠ none → k ≤ i) :
    Slots R (fun k => D k ∨ k = i) (put A (dstOf ops i) (R.vals i)) := by
  refine ⟨by rw [put_size]; exact h.1, fun t => ?_⟩
  rw [put_get]
  by_cases e : dstOf ops i = some t
  · rw [if_pos e, h.1]
    refine .inl ⟨i, hi, .inr rfl, e, fun j hj hD hd => ?_, rfl⟩
    rcases hD with hD | rfl
    · exact hlast j hj hD (hd.trans e.symm) (by rw [e]; simp)
    · exact Nat.le_refl _
  · rw [if_neg e]
    rcases h.2 t with ⟨k, hk, hDk, hdk, hmax, hx⟩ | ⟨hno, hx⟩
    · refine .inl ⟨k, hk, .inl hDk, hdk, fun j hj hD hd => ?_, hx⟩
      rcases hD with hD | rfl
      · exact hmax j hj hD hd
      · exact absurd hd e
    · refine .inr ⟨fun k hk hD hd => ?_, hx⟩
      rcases hD with hD | rfl
      · exact hno k hk hD hd
      · exact e hd

theorem Slots.congr {R : Ran P E ops} {D D' : Nat → Prop} {A : Array Value} (h : Slots R D A) (hd : ∀ k, k < ops.size → (D k ↔ D' k)) : Slots R D' A := by
  refine ⟨h.1, fun t => ?_⟩
  rcases h.2 t with ⟨k, hk, hDk, hdk, hmax, hx⟩ | ⟨hno, hx⟩
  · exact .inl ⟨k, hk, (hd k hk).1 hDk, hdk, fun j hj hD h' => hmax j hj ((hd j hj).2 hD) h', hx⟩
  · exact .inr ⟨fun k hk hD => hno k hk ((hd k hk).2 hD), hx⟩

/-- In the text's order. -/
theorem Ran.slots (R : Ran P E ops) : ∀ (i : Nat), i ≤ ops.size → Slots R (fun k => k < i) (R.tm i)
  | 0, _ => ⟨rfl, fun t => .inr ⟨fun k _ hD => absurd hD (Nat.not_lt_zero _), rfl⟩⟩
  | i + 1, hi => by
    have ih := Ran.slots R i (by omega)
    have hlt : i < ops.size := by omega
    have ho : ops[i]? = some ops[i] := by simp [hlt]
    rw [(R.step i _ ho).2]
    have hd : (ops[i]).dst = dstOf ops i := by simp [dstOf, ho]
    rw [hd]
    exact (ih.put hlt (fun k _ hk _ _ => Nat.le_of_lt hk)).congr fun k _ => by constructor <;> omega

/-- Any slots that hold what is held behind all. -/
theorem Slots.all {R : Ran P E ops} {A : Array Value} {D : Nat → Prop} (h : Slots R D A) (hD : ∀ k, k < ops.size → D k) : A = R.tm ops.size := by
  have h2 := R.slots ops.size (Nat.le_refl _)
  apply Array.ext_getElem?
  intro t
  exact (h.2 t).same (h2.2 t) fun k hk _ => ⟨fun _ => hk, fun _ => hD k hk⟩

/-! ### Order by edges -/
/-- All that is ahead by an edge has been carried out. -/
def ClosedOn (ops : Array Oper) (D : Nat → Prop) (i : Nat) : Prop := ∀ o, ops[i]? = some o → ∀ e ∈ o.after.toList, Region.binds .any e = true → D e.on
def Closed (ops : Array Oper) (D : Nat → Prop) : Prop := ∀ i, D i → ClosedOn ops D i

theorem before_size (l : List Oper) : ∀ (acc : Array Nat), (l.foldl (fun acc o => acc.push (o.after.foldl (fun s e => if Region.binds .any e then s ||| 2 ^ e.on ||| acc.getD e.on 0 else s) 0)) acc).size = acc.size + l.length := by
  induction l with
  | nil => intro acc; rfl
  | cons o r ih => intro acc; simp only [List.foldl_cons]; rw [ih]; simp; omega

theorem mask_spec (acc : Array Nat) (j : Nat) : ∀ (es : List Edge) (s : Nat), (es.foldl (fun s e => if Region.binds .any e then s ||| 2 ^ e.on ||| acc.getD e.on 0 else s) s).testBit j = true →
    s.testBit j = true ∨ ∃ e ∈ es, Region.binds .any e = true ∧ (e.on = j ∨ (acc.getD e.on 0).testBit j = true)
  | [], s, h => .inl h
  | e :: es, s, h => by
    simp only [List.foldl_cons] at h
    rcases mask_spec acc j es _ h with h | ⟨e', he', hb, hh⟩
    · split at h
      · rename_i hb
        simp only [Nat.testBit_or, Bool.or_eq_true, Nat.testBit_two_pow, decide_eq_true_eq] at h
        rcases h with (h | h) | h
        · exact .inl h
        · exact .inr ⟨e, by simp, hb, .inl h⟩
        · exact .inr ⟨e, by simp, hb, .inr h⟩
      · exact .inl h
    · exact .inr ⟨e', by simp [he'], hb, hh⟩

/-- What is ahead of one that has been carried out has been carried out. -/
theorem before_closed {D : Nat → Prop} : ∀ (l : List Oper) (acc : Array Nat), (∀ (i : Nat) o, i < l.length → l[i]? = some o → ops[acc.size + i]? = some o) → (∀ i j, i < acc.size → ClosedOn ops D i → Closed ops D → (acc.getD i 0).testBit j = true → D j) →
    ∀ i j, ClosedOn ops D i → Closed ops D →
      ((l.foldl (fun acc o => acc.push (o.after.foldl (fun s e => if Region.binds .any e then s ||| 2 ^ e.on ||| acc.getD e.on 0 else s) 0)) acc).getD i 0).testBit j = true → D j
  | [], acc, _, hacc, i, j, hi, hc, hb => by
    by_cases hlt : i < acc.size
    · exact hacc i j hlt hi hc hb
    · simp [Array.getD, hlt] at hb
  | o :: r, acc, hl, hacc, i, j, hi, hc, hb => by
    simp only [List.foldl_cons] at hb
    refine before_closed r _ ?_ ?_ i j hi hc hb
    · intro k p hk hp
      have := hl (k + 1) p (by simp; omega) (by simpa using hp)
      rw [Array.size_push, show acc.size + 1 + k = acc.size + (k + 1) by omega]; exact this
    · intro k j' hk hck hcc hbk
      by_cases hlt : k < acc.size
      · have e : (acc.push (o.after.foldl (fun s e => if Region.binds .any e then s ||| 2 ^ e.on ||| acc.getD e.on 0 else s) 0)).getD k 0 = acc.getD k 0 := by
          simp only [Array.getD_eq_getD_getElem?, Array.getElem?_push_lt hlt]; simp [hlt]
        rw [e] at hbk
        exact hacc k j' hlt hck hcc hbk
      · have hk' : k = acc.size := by simp at hk; omega
        subst hk'
        have ho := hl 0 o (by simp) rfl
        rw [Nat.add_zero] at ho
        have e : (acc.push (o.after.foldl (fun s e => if Region.binds .any e then s ||| 2 ^ e.on ||| acc.getD e.on 0 else s) 0)).getD acc.size 0 = o.after.foldl (fun s e => if Region.binds .any e then s ||| 2 ^ e.on ||| acc.getD e.on 0 else s) 0 := by
          simp [Array.getD_eq_getD_getElem?]
        rw [e, ← Array.foldl_toList] at hbk
        rcases mask_spec acc j' _ _ hbk with h0 | ⟨e', he', hbe, hh⟩
        · simp at h0
        · have hD := hck o ho e' he' hbe
          rcases hh with rfl | hh
          · exact hD
          · by_cases hlt' : e'.on < acc.size
            · exact hacc e'.on j' hlt' (hcc e'.on hD) hcc hh
            · simp [Array.getD, hlt'] at hh

theorem ahead_closed {D : Nat → Prop} {i j : Nat} (hi : ClosedOn ops D j) (hc : Closed ops D) (h : aheadOf (Region.before ops) i j = true) : D i := by
  unfold aheadOf Region.before at h
  rw [← Array.foldl_toList] at h
  exact before_closed ops.toList #[] (fun k o hk ho => by simpa using ho) (fun k j' hk => absurd hk (Nat.not_lt_zero _)) j i hi hc h

end
end Go.AE
