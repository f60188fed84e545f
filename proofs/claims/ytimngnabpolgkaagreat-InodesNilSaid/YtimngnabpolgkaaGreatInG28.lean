/-
  AE, rows of numbers that differ in one place.
-/
import Derived.Test.YtimngnabpolgkaaGreatInG1
namespace Go.AE
noncomputable section
set_option linter.unusedSimpArgs false
set_option linter.unusedVariables false
/-- A row of numbers of one kind. -/
def numsOf (k : IntKind) (l : List Int) : List Value := l.map (.int k)
theorem rowEq_nums (k : IntKind) : ∀ (l m : List Int), l.length = m.length → rowEq (numsOf k l) (numsOf k m) = some (decide (l = m))
  | [], [], _ => by simp [numsOf, rowEq]
  | [], _ :: _, h => by simp at h
  | _ :: _, [], h => by simp at h
  | a :: l, b :: m, h => by
    have ih := rowEq_nums k l m (by simpa using h)
    simp only [numsOf, List.map_cons, rowEq, if_true] at ih ⊢
    by_cases e : a = b
    · subst e
      simp only [if_true, ih]
      simp
    · simp [e]
theorem rowEq_set (k : IntKind) (l : List Int) (j : Nat) (x : Int) (hj : j < l.length) : rowEq (numsOf k (l.set j x)) (numsOf k l) = some (decide (x = l[j])) := by
  rw [rowEq_nums k _ _ (by simp)]
  congr 1
  by_cases e : x = l[j]
  · subst e; simp
  · have : l.set j x ≠ l := fun h => e (by
      have := congrArg (fun m => m[j]?) h
      simpa [hj] using this)
    simp [e, this]
end
end Go.AE
