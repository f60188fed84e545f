/-
  StoreNil: the two joins of sums that its run asks for, the second one.
-/
import Derived.Test.YtimngnabpolgkaaGreatNilN1
namespace Go.Proofs.Nil
set_option linter.unusedSimpArgs false
set_option linter.unusedVariables false
open Go.AE
theorem join2 : kIs Tryz.prog ov0 100000 350 [.int .u32 1660286794, .int .u32 3030565893, .int .i64 256] (.int .u32 2372607951) = true := by kernel_rfl
end Go.Proofs.Nil
