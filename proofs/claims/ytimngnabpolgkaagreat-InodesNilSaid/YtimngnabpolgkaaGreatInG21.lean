/-
  What holds of the program as a whole.
-/
import Derived.Test.YtimngnabpolgkaaGreatProg
import Derived.Test.YtimngnabpolgkaaGreatInG20
import Derived.KernelRfl
namespace Go.Proofs.Leaf
set_option linter.unusedSimpArgs false
set_option linter.unusedVariables false
open Go.AE
theorem quietB : (Tryz.prog.funcs.all fun fn => !(fn.name == "runtime.NumGoroutine")) = true := by kernel_rfl
theorem quiet : Quiet Tryz.prog := by
  intro f fn hf
  have h1 := quietB
  rw [Array.all_eq_true] at h1
  obtain ⟨hlt, rfl⟩ := Array.getElem?_eq_some_iff.1 hf
  simpa using h1 f hlt
theorem mix : Tryz.prog.follows .mixedOrders = true := by kernel_rfl
end Go.Proofs.Leaf
