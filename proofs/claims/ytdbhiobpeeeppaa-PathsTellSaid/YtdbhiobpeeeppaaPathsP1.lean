/-
  Paths: Level, Span, Next: what they come to, at every number.
-/
import Derived.Test.YtdbhiobpeeeppaaProg
import Derived.Test.YtdbhiobpeeeppaaAeS2
import Derived.KernelRfl
namespace Go.Proofs.Paths
set_option linter.unusedSimpArgs false
set_option linter.unusedVariables false
open Go.AE
set_option maxRecDepth 100000

theorem quietB : (Try.prog.funcs.all fun fn => !(fn.name == "runtime.NumGoroutine")) = true := by kernel_rfl
theorem quiet : Quiet Try.prog := by
  intro f fn h
  have h1 := quietB
  rw [Array.all_eq_true] at h1
  obtain ⟨hlt, rfl⟩ := Array.getElem?_eq_some_iff.1 h
  simpa using h1 f hlt
theorem mix : Try.prog.follows .mixedOrders = true := by kernel_rfl

/-- A pointer's level. -/
def lvl (p : Int) : Int := if p < 0 ∨ 10 < p then -1 else if p ≤ 7 then 0 else p - 7
/-- To how many blocks a level leads. -/
def spn (l : Int) : Int := if l = 0 then 1 else if l = 1 then 64 else if l = 2 then 4096 else if l = 3 then 262144 else 0

def g18 (args : Array Value) (h : AH) : Option (Value × AH) :=
  match args with
  | ⟨[.int .i64 p]⟩ => if -9223372036854775808 ≤ p ∧ p ≤ 9223372036854775807 then some (.int .i64 (lvl p), h) else none
  | _ => none

theorem e18 (p : Int) (h : AH) (E : Env) (hp : -9223372036854775808 ≤ p ∧ p ≤ 9223372036854775807) : callFn Try.prog E 18 ⟨[.int .i64 p]⟩ h = some (.int .i64 (lvl p), h) := by
  rw [callFn_eq Try.func18 rfl]
  by_cases h1 : p < 0
  · have c1 : decide (p < 0) = true := by simpa using h1
    simp only [pad, evalC_seq, evalC_region, evalC_cond, evalC_ret, evalC_skip, evalC_label, evalC_exit, evalC_scope, evalC_block, evalC_loop, evalC_draw, runOps_cons, runOps_nil, stepOp_eq, stepVal_plain, stepVal_guard, yieldedA_lit, opA_assign, opA_move, opA_binOp, opA_pick, opA_call, opA_alloc, opA_box, opA_load, opA_store, opA_extract, opA_buildSlice, opA_indexAddr, opA_fieldAddr, aeval_int, aeval_bool, aeval_tmp, aeval_nilSlice, aeval_nilPointer, aeval_nilFunc, aeval_func, List.getD_cons_zero, List.getD_cons_succ, arK_val, arK_skip, arK_enter, arK_round, valK_some, valK_none, List.set_cons_zero, List.set_cons_succ, opsK_some, Option.map_some, Option.map_none, seqK_normal, seqK_ret, seqK_exit, blockK_normal, blockK_ret, blockK_exit, loopK_normal, loopK_ret, loopK_exit, List.getElem?_cons_zero, List.getElem?_cons_succ, Option.bind_some, reduceCtorEq, if_false, if_true, pickK_bool, condK_true, condK_false, endK_ret, endK_normal, resultsA_tmp, resultsA_nil, resVal, Option.some.injEq, Bool.true_eq_false, Bool.false_eq_true, List.map_cons, List.map_nil, binA_add, binA_sub, binA_mul, binA_lss, binA_leq, binA_gtr, binA_geq, binA_eql, binA_neq, callA_builtin, max_int, min_int, loadK_pointer, storeK_pointer, Try.f18, c1]
    have : lvl p = -1 := by unfold lvl; rw [if_pos (.inl h1)]
    rw [this]
  · have c1 : decide (p < 0) = false := by simpa using h1
    by_cases h2 : 10 < p
    · have c2 : decide (10 < p) = true := by simpa using h2
      simp only [pad, evalC_seq, evalC_region, evalC_cond, evalC_ret, evalC_skip, evalC_label, evalC_exit, evalC_scope, evalC_block, evalC_loop, evalC_draw, runOps_cons, runOps_nil, stepOp_eq, stepVal_plain, stepVal_guard, yieldedA_lit, opA_assign, opA_move, opA_binOp, opA_pick, opA_call, opA_alloc, opA_box, opA_load, opA_store, opA_extract, opA_buildSlice, opA_indexAddr, opA_fieldAddr, aeval_int, aeval_bool, aeval_tmp, aeval_nilSlice, aeval_nilPointer, aeval_nilFunc, aeval_func, List.getD_cons_zero, List.getD_cons_succ, arK_val, arK_skip, arK_enter, arK_round, valK_some, valK_none, List.set_cons_zero, List.set_cons_succ, opsK_some, Option.map_some, Option.map_none, seqK_normal, seqK_ret, seqK_exit, blockK_normal, blockK_ret, blockK_exit, loopK_normal, loopK_ret, loopK_exit, List.getElem?_cons_zero, List.getElem?_cons_succ, Option.bind_some, reduceCtorEq, if_false, if_true, pickK_bool, condK_true, condK_false, endK_ret, endK_normal, resultsA_tmp, resultsA_nil, resVal, Option.some.injEq, Bool.true_eq_false, Bool.false_eq_true, List.map_cons, List.map_nil, binA_add, binA_sub, binA_mul, binA_lss, binA_leq, binA_gtr, binA_geq, binA_eql, binA_neq, callA_builtin, max_int, min_int, loadK_pointer, storeK_pointer, Try.f18, c1, c2]
      have : lvl p = -1 := by unfold lvl; rw [if_pos (.inr h2)]
      rw [this]
    · have c2 : decide (10 < p) = false := by simpa using h2
      simp only [pad, evalC_seq, evalC_region, evalC_cond, evalC_ret, evalC_skip, evalC_label, evalC_exit, evalC_scope, evalC_block, evalC_loop, evalC_draw, runOps_cons, runOps_nil, stepOp_eq, stepVal_plain, stepVal_guard, yieldedA_lit, opA_assign, opA_move, opA_binOp, opA_pick, opA_call, opA_alloc, opA_box, opA_load, opA_store, opA_extract, opA_buildSlice, opA_indexAddr, opA_fieldAddr, aeval_int, aeval_bool, aeval_tmp, aeval_nilSlice, aeval_nilPointer, aeval_nilFunc, aeval_func, List.getD_cons_zero, List.getD_cons_succ, arK_val, arK_skip, arK_enter, arK_round, valK_some, valK_none, List.set_cons_zero, List.set_cons_succ, opsK_some, Option.map_some, Option.map_none, seqK_normal, seqK_ret, seqK_exit, blockK_normal, blockK_ret, blockK_exit, loopK_normal, loopK_ret, loopK_exit, List.getElem?_cons_zero, List.getElem?_cons_succ, Option.bind_some, reduceCtorEq, if_false, if_true, pickK_bool, condK_true, condK_false, endK_ret, endK_normal, resultsA_tmp, resultsA_nil, resVal, Option.some.injEq, Bool.true_eq_false, Bool.false_eq_true, List.map_cons, List.map_nil, binA_add, binA_sub, binA_mul, binA_lss, binA_leq, binA_gtr, binA_geq, binA_eql, binA_neq, callA_builtin, max_int, min_int, loadK_pointer, storeK_pointer, Try.f18, c1, c2]
      rw [IntWalk.i64_in (p - 8) (by omega), IntWalk.i64_in (p - 8 + 1) (by omega)]
      have : (if p - 8 + 1 < 0 then (0 : Int) else p - 8 + 1) = lvl p := by unfold lvl; omega
      rw [this]

theorem s18 : SumOk Try.prog 18 g18 := SumOk.exact quiet mix (OverOk.none _) fun args h v h₁ hg => by
  unfold g18 at hg
  split at hg
  · split at hg
    · rename_i hp; cases hg; exact ⟨0, e18 _ _ _ hp⟩
    · cases hg
  · cases hg
end Go.Proofs.Paths
