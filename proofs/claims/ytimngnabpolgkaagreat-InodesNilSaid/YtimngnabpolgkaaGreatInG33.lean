/-
  InodesNil: the run that is all there is to it, in which the marks and the sums are told.
-/
import Derived.Test.YtimngnabpolgkaaGreatInG32
namespace Go.Proofs.Leaf
set_option linter.unusedSimpArgs false
set_option linter.unusedVariables false
open Go.AE
set_option maxRecDepth 10000
noncomputable def ovV1 : Over := fun f => Bool.rec (motive := fun _ => Option (Array Value → AH → Option (Value × AH)))
  (Bool.rec (motive := fun _ => Option (Array Value → AH → Option (Value × AH))) none (some gCrc) (Nat.beq f 290)) (some gMarks) (Nat.beq f 301)
theorem ovV1_ok : OverOk Tryz.prog ovV1 := by
  intro f g hg
  unfold ovV1 at hg
  rw [PT.brec] at hg
  split at hg
  · rename_i hf
    have hg' := Option.some.inj hg
    subst hg'
    obtain rfl : f = 301 := Nat.eq_of_beq_eq_true hf
    exact sMarks
  · rw [PT.brec] at hg
    split at hg
    · rename_i hf
      have hg' := Option.some.inj hg
      subst hg'
      obtain rfl : f = 290 := Nat.eq_of_beq_eq_true hf
      exact sCrc
    · cases hg
theorem inodesAwake : kTrue Tryz.prog ovV1 100000 40 [] ⟨.leaf, 0⟩ = true := by kernel_rfl
end Go.Proofs.Leaf
