/-
  BlocksNil: the run that is all there is to it, in which the making of the image and the sums are told.
-/
import Derived.Test.YtimngnabpolgkaaGreatBnG33
namespace Go.Proofs.Leaf
set_option linter.unusedSimpArgs false
set_option linter.unusedVariables false
open Go.AE
set_option maxRecDepth 10000
noncomputable def ovW1 : Over := fun f => Bool.rec (motive := fun _ => Option (Array Value → AH → Option (Value × AH)))
  (Bool.rec (motive := fun _ => Option (Array Value → AH → Option (Value × AH))) (Bool.rec (motive := fun _ => Option (Array Value → AH → Option (Value × AH))) none (some gCrc) (Nat.beq f 290)) (some gRef) (Nat.beq f 333)) (some gMake) (Nat.beq f 179)
theorem ovW1_ok : OverOk Tryz.prog ovW1 := by
  intro f g hg
  unfold ovW1 at hg
  rw [PT.brec] at hg
  split at hg
  · rename_i hf
    have hg' := Option.some.inj hg
    subst hg'
    obtain rfl : f = 179 := Nat.eq_of_beq_eq_true hf
    exact sMake
  · rw [PT.brec] at hg
    split at hg
    · rename_i hf
      have hg' := Option.some.inj hg
      subst hg'
      obtain rfl : f = 333 := Nat.eq_of_beq_eq_true hf
      exact sRef
    · rw [PT.brec] at hg
      split at hg
      · rename_i hf
        have hg' := Option.some.inj hg
        subst hg'
        obtain rfl : f = 290 := Nat.eq_of_beq_eq_true hf
        exact sCrc
      · cases hg
theorem blocksAwake : kTrue Tryz.prog ovW1 100000 35 [] ⟨.leaf, 0⟩ = true := by kernel_rfl
end Go.Proofs.Leaf
