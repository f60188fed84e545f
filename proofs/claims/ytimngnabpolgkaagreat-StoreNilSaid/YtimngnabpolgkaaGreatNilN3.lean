/-
  StoreNil: the run that is all there is to it, in which the two joins are told by a table.
-/
import Derived.Test.YtimngnabpolgkaaGreatNilN1
namespace Go.Proofs.Nil
set_option linter.unusedSimpArgs false
set_option linter.unusedVariables false
open Go.AE
noncomputable def joins : List (List Value × Value) := [([.int .u32 0, .int .u32 1660286794, .int .i64 256], .int .u32 1660286794), ([.int .u32 1660286794, .int .u32 3030565893, .int .i64 256], .int .u32 2372607951)]
noncomputable def ovJ : Over := fun f => Bool.rec (motive := fun _ => Option (Array Value → AH → Option (Value × AH))) none (some (memo joins)) (Nat.beq f 350)
theorem awake : kTrue Tryz.prog ovJ 100000 30 [] ⟨.leaf, 0⟩ = true := by kernel_rfl
end Go.Proofs.Nil
