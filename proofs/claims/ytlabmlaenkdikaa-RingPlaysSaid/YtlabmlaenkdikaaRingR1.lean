/-
  Ring: a ring that nobody made; the chapter's rows.
-/
import Derived.Test.YtlabmlaenkdikaaProg
import Derived.Test.YtlabmlaenkdikaaAeU1
import Derived.KernelRfl
namespace Go.Proofs.Ring
set_option linter.unusedSimpArgs false
set_option linter.unusedVariables false
open Go.AE
set_option maxRecDepth 100000

theorem quietB : (Try.prog.funcs.all fun fn => !(fn.name == "runtime.NumGoroutine")) = true := by kernel_rfl
theorem quiet : Quiet Try.prog := by
  intro f fn h
  have h1 := quietB
  rw [Array.all_eq_true] at h1
  obtain ⟨hlt, rfl⟩ := Array.getElem?_eq_some_iff.1 h
  simpa using h1 f hlt
theorem mix : Try.prog.follows .mixedOrders = true := by kernel_rfl

theorem e8 : (callFn Try.prog (env Try.prog (fun _ => none) 60) 8 ⟨[]⟩ ⟨.leaf, 0⟩).map (·.1) = some (.bool true) := by kernel_rfl
theorem e6 (n : Int) : (callFn Try.prog (env Try.prog (fun _ => none) 60) 6 ⟨[.int .i64 n]⟩ ⟨.leaf, 0⟩).map (·.1) = some (.bool true) := by kernel_rfl
end Go.Proofs.Ring
