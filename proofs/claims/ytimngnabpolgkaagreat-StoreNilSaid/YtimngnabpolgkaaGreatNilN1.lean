/-
  StoreNil: the two joins of sums that its run asks for, the first one.
-/
import Derived.Test.YtimngnabpolgkaaGreatAeK5
import Derived.Test.YtimngnabpolgkaaGreatProg
import Derived.KernelRfl
namespace Go.Proofs.Nil
set_option linter.unusedSimpArgs false
set_option linter.unusedVariables false
open Go.AE
noncomputable def ov0 : Over := fun _ => none
theorem join1 : kIs Tryz.prog ov0 100000 350 [.int .u32 0, .int .u32 1660286794, .int .i64 256] (.int .u32 1660286794) = true := by kernel_rfl
end Go.Proofs.Nil
