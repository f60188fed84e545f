/-
  AE, part 25: a row of ints, as it is read.
-/
import Derived.Test.YtimngnabpolgkaaGreatInG7
namespace Go.AE
noncomputable section
set_option linter.unusedSimpArgs false
set_option linter.unusedVariables false
variable {P : Program}

/-- The first loop in a piece of code. -/
def loopsOf : Code → Option Code
  | .seq a b => match loopsOf a with
    | some r => some r
    | none => loopsOf b
  | .cond _ a b => match loopsOf a with
    | some r => some r
    | none => loopsOf b
  | .block _ a => loopsOf a
  | .loop a => some a
  | .scope a => loopsOf a
  | .rangeFunc _ _ a b => match loopsOf a with
    | some r => some r
    | none => loopsOf b
  | _ => none

def intsOf : List Value → Option (List Int)
  | [] => some []
  | .int .i64 x :: r => (intsOf r).map (x :: ·)
  | _ => none

/-- The numbers of a slice. -/
def readInts (h : AH) (v : Value) : Option (List Int) :=
  match v with
  | .slice _ 0 _ => some []
  | .slice (some ⟨b, o, none⟩) n _ => match h.get b with
    | some (.cells c m _ _ _ _ _ d) => if o + n ≤ m then intsOf (rowA c d o n) else none
    | _ => none
  | _ => none

theorem intsOf_get : ∀ (vs : List Value) (l : List Int), intsOf vs = some l → vs = l.map (.int .i64)
  | [], l, h => by cases h; rfl
  | v :: r, l, h => by
    cases v with
    | int k x =>
      cases k with
      | i64 =>
        obtain ⟨l', e, rfl⟩ := Option.map_eq_some_iff.1 (show (intsOf r).map (x :: ·) = some l from h)
        rw [intsOf_get r l' e]; rfl
      | _ => simp [intsOf] at h
    | _ => simp [intsOf] at h
theorem intsOf_map (l : List Int) : intsOf (l.map (.int .i64)) = some l := by
  induction l with
  | nil => rfl
  | cons x l ih => simp [intsOf, ih]

theorem readInts_nil (h : AH) (c : Nat) : readInts h (.slice none 0 c) = some [] := rfl
theorem readInts_row {h : AH} {b : Nat} {l : List Int} {e : TypeId} {z : Nat} {op : Bool} (hb : h.get b = some (rowObj (l.map (.int .i64)) e z op)) (c : Nat) :
    readInts h (.slice (some ⟨b, 0, none⟩) l.length c) = some l := by
  cases l with
  | nil => rfl
  | cons x l =>
  have e : readInts h (.slice (some ⟨b, 0, none⟩) (x :: l).length c) = (match h.get b with
    | some (.cells c m _ _ _ _ _ d) => if 0 + (x :: l).length ≤ m then intsOf (rowA c d 0 (x :: l).length) else none
    | _ => none) := rfl
  rw [e]
  simp only [hb, rowObj]
  rw [if_pos (by simp), rowA_ofRow' _ _ _ (by simp)]
  simp only [List.drop_zero]
  rw [List.take_of_length_le (by simp)]
  exact intsOf_map (x :: l)

/-- A slice whose numbers are told: how long it is, what its places hold. -/
theorem readInts_spec {h : AH} {v : Value} {l : List Int} (hr : readInts h v = some l) (ag : isAggT P 3 = some false) :
    ∃ a n c, v = .slice a n c ∧ n = l.length ∧ (l ≠ [] → ∃ b o, a = some ⟨b, o, none⟩ ∧ ∀ i x, l[i]? = some x → rowK P 3 (o + i) (h.get b) = some (.int .i64 x)) := by
  unfold readInts at hr
  split at hr
  · cases hr; exact ⟨_, 0, _, rfl, rfl, fun h => absurd rfl h⟩
  · rename_i b o n c hn0
    split at hr
    · rename_i cc m e fz esz op ro d hg
      split at hr
      · rename_i hm
        have h1 := intsOf_get _ _ hr
        have hlen : n = l.length := by have := congrArg List.length h1; simpa using this
        refine ⟨_, n, c, rfl, hlen, fun _ => ⟨b, o, rfl, fun i x hx => ?_⟩⟩
        have hi : i < n := by rw [hlen]; exact (List.getElem?_eq_some_iff.1 hx).1
        unfold rowK
        rw [hg]
        simp only [ag]
        rw [if_pos (by omega)]
        have h2 := getElem?_rowA cc d n o i hi
        rw [h1] at h2
        rw [List.getElem?_map, hx] at h2
        exact h2.symm
      · cases hr
    · cases hr
  · cases hr

def notK (v : Value) (h : AH) : Option AR :=
  match v with
  | .bool b => some (.val (.bool !b) h)
  | _ => none
def notG (P : Program) (v : Value) (h : AH) : Option AR := if plain v then (plainOf P (Op.unary .not v)).map fun v => .val v h else none
theorem opA_unOp_not (e : Operand → Value) (h : AH) (d : Option Tmp) (t : TypeId) (pos : String) (after : Array Edge) (g : Option (Nat × Bool)) (x : Operand) (xt : TypeId) :
    opA P e h ⟨d, .unOp .not xt x, t, pos, after, g⟩ = notG P (e x) h := rfl
theorem notG_bool (b : Bool) (h : AH) : notG P (.bool b) h = some (.val (.bool !b) h) := rfl
end
end Go.AE
