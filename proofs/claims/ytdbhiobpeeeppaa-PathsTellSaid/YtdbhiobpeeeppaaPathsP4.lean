/-
  Paths: First.
-/
import Derived.Test.YtdbhiobpeeeppaaPathsP3
import Derived.Test.YtdbhiobpeeeppaaAeS4
namespace Go.Proofs.Paths
set_option linter.unusedSimpArgs false
set_option linter.unusedVariables false
open Go.AE
set_option maxRecDepth 100000
set_option maxHeartbeats 2000000

theorem b29 : ((Try.prog.funcs[29]?).bind (·.body)).isSome = true := rfl
theorem b31 : ((Try.prog.funcs[31]?).bind (·.body)).isSome = true := rfl
theorem o31 : ovA 31 = none := rfl

/-- A pointer's first index, or that there is none. -/
def frs (p : Int) : Int := if p < 0 ∨ 10 < p then -1 else fst p

noncomputable def r22 : Code × Code := (ranges (Try.f22.body.getD .skip)).getD (.skip, .skip)

def T22 (p : Int) : List Value := [.int .i64 p, .pointer (some ⟨0, 0, none⟩), .pointer (some ⟨1, 0, none⟩), undef, undef, .func (.func 31) #[] #[], undef, undef, undef, undef, undef, undef]
def I22 (p : Int) (k : Nat) (h : AH) : Prop :=
  ∃ x, h.next = 4 ∧ h.get 0 = some (cell1 (.int .i64 p) 3) ∧ h.get 1 = some (cell1 (.int .i64 x) 3) ∧ h.get 2 = some .defs ∧ h.get 3 = some (.loop .ready .normal ⟨T22 p⟩ #[6, 7] r22.1 r22.2 2) ∧ ∀ j : Nat, j < k → p ≠ j
def J22 (p : Int) (h : AH) : Prop :=
  ∃ k : Nat, k ≤ 10 ∧ p = k ∧ h.get 1 = some (cell1 (.int .i64 (fst k)) 3) ∧ h.get 2 = some .defs ∧ h.get 3 = some (.loop .done .ret ⟨T22 p⟩ #[6, 7] r22.1 r22.2 2)

theorem k22 (p : Int) (hp : -9223372036854775808 ≤ p ∧ p ≤ 9223372036854775807) : Round 3 (I22 p) (J22 p) := by
  rintro m k hk h ⟨x, hn, h0, h1, h2, h3, hj⟩
  by_cases c : (k : Int) = p
  · have c1 : decide ((k : Int) = p) = true := by simpa using c
    refine ⟨false, ?_⟩
    simp (maxSteps := 1000000) (disch := omega) only [pad, evalC_seq, evalC_region, evalC_cond, evalC_ret, evalC_skip, evalC_label, evalC_exit, evalC_scope, evalC_block, evalC_loop, evalC_draw, runOps_cons, runOps_nil, stepOp_eq, stepVal_plain, stepVal_guard, yieldedA_lit, opA_assign, opA_move, opA_binOp, opA_pick, opA_call, opA_alloc, opA_box, opA_load, opA_store, opA_extract, opA_buildSlice, opA_indexAddr, opA_fieldAddr, aeval_int, aeval_bool, aeval_tmp, aeval_nilSlice, aeval_nilPointer, aeval_nilFunc, aeval_func, List.getD_cons_zero, List.getD_cons_succ, arK_val, arK_skip, arK_enter, arK_round, valK_some, valK_none, List.set_cons_zero, List.set_cons_succ, opsK_some, Option.map_some, Option.map_none, seqK_normal, seqK_ret, seqK_exit, blockK_normal, blockK_ret, blockK_exit, loopK_normal, loopK_ret, loopK_exit, List.getElem?_cons_zero, List.getElem?_cons_succ, Option.bind_some, reduceCtorEq, if_false, if_true, pickK_bool, condK_true, condK_false, endK_ret, endK_normal, resultsA_tmp, resultsA_nil, resVal, Option.some.injEq, Bool.true_eq_false, Bool.false_eq_true, List.map_cons, List.map_nil, binA_add, binA_sub, binA_mul, binA_lss, binA_leq, binA_gtr, binA_geq, binA_eql, binA_neq, callA_builtin, max_int, min_int, loadK_pointer, storeK_pointer, IntWalk.i64_in, IntWalk.i64_quo, binA_quo, binA_rem, Int.tmod_eq_emod_of_nonneg, loadA_rowK, storeA_int hsz3, putK_cell, rowK_cell ag3, rowK_row ag3, boxA_cell, al3, get_empty, next_empty, AH.get_set, AH.get_push, AH.next_set, AH.next_push, resultsA_cell, resK_pointer, roundA_G, roundG_loop, asgK_normal, bodyK_loop, ended_some, endRK_normal, endRK_ret, endRK_exit, rangeK_E, rangeE_ready, rangeE_done, rangeH, setAll, shut_nil, shut_cons, shutK_defs, endK_shut, outK_some, AH.get_kill, AH.next_kill, evalRegion_G, drawG_ok, drawK_all, trace_cons, trace_nil, traceK_some, List.all_cons, List.all_nil, sameRead_K, sameK_plain, sameK_guard, wantK_some, veqK_val, veq_int, veq_bool, veq_pointer, veq_slice, veq_nilSlice, Bool.and_true, Bool.and_self, List.getLast?_cons_cons, List.getLast?_singleton, len_slice one22, indexAddrA_one one22, ixK_slice, append_one one22, apK_nil, apK_some, apB_row, oneOf_row, bs22, Nat.reduceLeDiff, and_self, and_true, true_and, Int.reduceToNat, Int.reduceNe, List.take_succ_cons, List.take_zero, List.take_nil, List.length_cons, List.length_nil, List.cons_append, List.nil_append, Int.reduceLE, Int.reduceLT, Int.reduceEq, Int.reduceNeg, Int.reduceAdd, Int.reduceSub, Int.reduceMul, Int.reduceDiv, Nat.reduceAdd, Nat.reduceEqDiff, decide_true, decide_false, h0, h1, h2, h3, hn, T22, r22, ranges, Try.f22, Option.getD_some, yieldedA_lit, callA_value, env_code, c1]
    refine ⟨_, rfl, k, hk, c.symm, ?_, ?_, ?_⟩
    · simp
    · simp [h2]
    · simp only [AH.get_set, if_true]; rfl
  · have c1 : decide ((k : Int) = p) = false := by simpa using c
    refine ⟨true, ?_⟩
    simp (maxSteps := 1000000) (disch := omega) only [pad, evalC_seq, evalC_region, evalC_cond, evalC_ret, evalC_skip, evalC_label, evalC_exit, evalC_scope, evalC_block, evalC_loop, evalC_draw, runOps_cons, runOps_nil, stepOp_eq, stepVal_plain, stepVal_guard, yieldedA_lit, opA_assign, opA_move, opA_binOp, opA_pick, opA_call, opA_alloc, opA_box, opA_load, opA_store, opA_extract, opA_buildSlice, opA_indexAddr, opA_fieldAddr, aeval_int, aeval_bool, aeval_tmp, aeval_nilSlice, aeval_nilPointer, aeval_nilFunc, aeval_func, List.getD_cons_zero, List.getD_cons_succ, arK_val, arK_skip, arK_enter, arK_round, valK_some, valK_none, List.set_cons_zero, List.set_cons_succ, opsK_some, Option.map_some, Option.map_none, seqK_normal, seqK_ret, seqK_exit, blockK_normal, blockK_ret, blockK_exit, loopK_normal, loopK_ret, loopK_exit, List.getElem?_cons_zero, List.getElem?_cons_succ, Option.bind_some, reduceCtorEq, if_false, if_true, pickK_bool, condK_true, condK_false, endK_ret, endK_normal, resultsA_tmp, resultsA_nil, resVal, Option.some.injEq, Bool.true_eq_false, Bool.false_eq_true, List.map_cons, List.map_nil, binA_add, binA_sub, binA_mul, binA_lss, binA_leq, binA_gtr, binA_geq, binA_eql, binA_neq, callA_builtin, max_int, min_int, loadK_pointer, storeK_pointer, IntWalk.i64_in, IntWalk.i64_quo, binA_quo, binA_rem, Int.tmod_eq_emod_of_nonneg, loadA_rowK, storeA_int hsz3, putK_cell, rowK_cell ag3, rowK_row ag3, boxA_cell, al3, get_empty, next_empty, AH.get_set, AH.get_push, AH.next_set, AH.next_push, resultsA_cell, resK_pointer, roundA_G, roundG_loop, asgK_normal, bodyK_loop, ended_some, endRK_normal, endRK_ret, endRK_exit, rangeK_E, rangeE_ready, rangeE_done, rangeH, setAll, shut_nil, shut_cons, shutK_defs, endK_shut, outK_some, AH.get_kill, AH.next_kill, evalRegion_G, drawG_ok, drawK_all, trace_cons, trace_nil, traceK_some, List.all_cons, List.all_nil, sameRead_K, sameK_plain, sameK_guard, wantK_some, veqK_val, veq_int, veq_bool, veq_pointer, veq_slice, veq_nilSlice, Bool.and_true, Bool.and_self, List.getLast?_cons_cons, List.getLast?_singleton, len_slice one22, indexAddrA_one one22, ixK_slice, append_one one22, apK_nil, apK_some, apB_row, oneOf_row, bs22, Nat.reduceLeDiff, and_self, and_true, true_and, Int.reduceToNat, Int.reduceNe, List.take_succ_cons, List.take_zero, List.take_nil, List.length_cons, List.length_nil, List.cons_append, List.nil_append, Int.reduceLE, Int.reduceLT, Int.reduceEq, Int.reduceNeg, Int.reduceAdd, Int.reduceSub, Int.reduceMul, Int.reduceDiv, Nat.reduceAdd, Nat.reduceEqDiff, decide_true, decide_false, h0, h1, h2, h3, hn, T22, r22, ranges, Try.f22, Option.getD_some, yieldedA_lit, callA_value, env_code, c1]
    refine ⟨_, rfl, x, hn, ?_, ?_, ?_, ?_, ?_⟩
    · simp [h0]
    · simp [h1]
    · simp [h2]
    · simp only [AH.get_set, if_true]; rfl
    · intro j hjk
      by_cases e : j < k
      · exact hj j e
      · have : j = k := by omega
        subst this; exact fun h => c h.symm

theorem e22 (p : Int) (hp : -9223372036854775808 ≤ p ∧ p ≤ 9223372036854775807) : ∃ n, (callFn Try.prog (env Try.prog ovA n) 22 ⟨[.int .i64 p]⟩ ⟨.leaf, 0⟩).map (·.1) = some (.int .i64 (frs p)) := by
  refine ⟨31, ?_⟩
  rw [callFn_eq Try.func22 rfl]
  have hI : I22 p 0 (((((⟨.leaf, 0⟩ : AH).push (cell1 (.int .i64 p) 3)).push (cell1 (.int .i64 0) 3)).push .defs).push (.loop .ready .normal ⟨T22 p⟩ #[6, 7] r22.1 r22.2 2)) :=
    ⟨0, rfl, by simp [next_empty], by simp [next_empty], by simp [next_empty], by simp [next_empty], fun j hj => by omega⟩
  obtain ⟨v, h', e, hij⟩ := e31 (k22 p hp) hI
  simp only [T22, r22, ranges, Try.f22, Option.getD_some] at e
  rcases hij with ⟨x, hn, h0, h1, h2, h3, hj⟩ | ⟨k, hk, rfl, h1, h2, h3⟩
  · simp only [T22, r22, ranges, Try.f22, Option.getD_some] at h3
    simp (maxSteps := 1000000) (disch := omega) only [pad, evalC_seq, evalC_region, evalC_cond, evalC_ret, evalC_skip, evalC_label, evalC_exit, evalC_scope, evalC_block, evalC_loop, evalC_draw, runOps_cons, runOps_nil, stepOp_eq, stepVal_plain, stepVal_guard, yieldedA_lit, opA_assign, opA_move, opA_binOp, opA_pick, opA_call, opA_alloc, opA_box, opA_load, opA_store, opA_extract, opA_buildSlice, opA_indexAddr, opA_fieldAddr, aeval_int, aeval_bool, aeval_tmp, aeval_nilSlice, aeval_nilPointer, aeval_nilFunc, aeval_func, List.getD_cons_zero, List.getD_cons_succ, arK_val, arK_skip, arK_enter, arK_round, valK_some, valK_none, List.set_cons_zero, List.set_cons_succ, opsK_some, Option.map_some, Option.map_none, seqK_normal, seqK_ret, seqK_exit, blockK_normal, blockK_ret, blockK_exit, loopK_normal, loopK_ret, loopK_exit, List.getElem?_cons_zero, List.getElem?_cons_succ, Option.bind_some, reduceCtorEq, if_false, if_true, pickK_bool, condK_true, condK_false, endK_ret, endK_normal, resultsA_tmp, resultsA_nil, resVal, Option.some.injEq, Bool.true_eq_false, Bool.false_eq_true, List.map_cons, List.map_nil, binA_add, binA_sub, binA_mul, binA_lss, binA_leq, binA_gtr, binA_geq, binA_eql, binA_neq, callA_builtin, max_int, min_int, loadK_pointer, storeK_pointer, IntWalk.i64_in, IntWalk.i64_quo, binA_quo, binA_rem, Int.tmod_eq_emod_of_nonneg, loadA_rowK, storeA_int hsz3, putK_cell, rowK_cell ag3, rowK_row ag3, boxA_cell, al3, get_empty, next_empty, AH.get_set, AH.get_push, AH.next_set, AH.next_push, resultsA_cell, resK_pointer, roundA_G, roundG_loop, asgK_normal, bodyK_loop, ended_some, endRK_normal, endRK_ret, endRK_exit, rangeK_E, rangeE_ready, rangeE_done, rangeH, setAll, shut_nil, shut_cons, shutK_defs, endK_shut, outK_some, AH.get_kill, AH.next_kill, evalRegion_G, drawG_ok, drawK_all, trace_cons, trace_nil, traceK_some, List.all_cons, List.all_nil, sameRead_K, sameK_plain, sameK_guard, wantK_some, veqK_val, veq_int, veq_bool, veq_pointer, veq_slice, veq_nilSlice, Bool.and_true, Bool.and_self, List.getLast?_cons_cons, List.getLast?_singleton, len_slice one22, indexAddrA_one one22, ixK_slice, append_one one22, apK_nil, apK_some, apB_row, oneOf_row, bs22, Nat.reduceLeDiff, and_self, and_true, true_and, Int.reduceToNat, Int.reduceNe, List.take_succ_cons, List.take_zero, List.take_nil, List.length_cons, List.length_nil, List.cons_append, List.nil_append, Int.reduceLE, Int.reduceLT, Int.reduceEq, Int.reduceNeg, Int.reduceAdd, Int.reduceSub, Int.reduceMul, Int.reduceDiv, Nat.reduceAdd, Nat.reduceEqDiff, decide_true, decide_false, Try.f22, yieldedA_lit, callA_value, calleeK_yield, env_code, callA_func _ _ _ _ _ _ b18, callA_func _ _ _ _ _ _ b20, callA_func _ _ _ _ _ _ b29, env_call_ov ovA18, env_call_ov ovA20, env_call_ov ovA29, g29_nil, g1_int (f := lvl), g1_int (f := spn), evalC_rangeG, rangeG_func b31, env_call o31, e, h0, h1, h2, h3]
    have : frs p = -1 := by
      unfold frs
      rw [if_pos]
      apply Classical.byContradiction
      intro hc
      exact hj p.toNat (by omega) (by omega)
    rw [this]
  · simp only [T22, r22, ranges, Try.f22, Option.getD_some] at h3
    simp (maxSteps := 1000000) (disch := omega) only [pad, evalC_seq, evalC_region, evalC_cond, evalC_ret, evalC_skip, evalC_label, evalC_exit, evalC_scope, evalC_block, evalC_loop, evalC_draw, runOps_cons, runOps_nil, stepOp_eq, stepVal_plain, stepVal_guard, yieldedA_lit, opA_assign, opA_move, opA_binOp, opA_pick, opA_call, opA_alloc, opA_box, opA_load, opA_store, opA_extract, opA_buildSlice, opA_indexAddr, opA_fieldAddr, aeval_int, aeval_bool, aeval_tmp, aeval_nilSlice, aeval_nilPointer, aeval_nilFunc, aeval_func, List.getD_cons_zero, List.getD_cons_succ, arK_val, arK_skip, arK_enter, arK_round, valK_some, valK_none, List.set_cons_zero, List.set_cons_succ, opsK_some, Option.map_some, Option.map_none, seqK_normal, seqK_ret, seqK_exit, blockK_normal, blockK_ret, blockK_exit, loopK_normal, loopK_ret, loopK_exit, List.getElem?_cons_zero, List.getElem?_cons_succ, Option.bind_some, reduceCtorEq, if_false, if_true, pickK_bool, condK_true, condK_false, endK_ret, endK_normal, resultsA_tmp, resultsA_nil, resVal, Option.some.injEq, Bool.true_eq_false, Bool.false_eq_true, List.map_cons, List.map_nil, binA_add, binA_sub, binA_mul, binA_lss, binA_leq, binA_gtr, binA_geq, binA_eql, binA_neq, callA_builtin, max_int, min_int, loadK_pointer, storeK_pointer, IntWalk.i64_in, IntWalk.i64_quo, binA_quo, binA_rem, Int.tmod_eq_emod_of_nonneg, loadA_rowK, storeA_int hsz3, putK_cell, rowK_cell ag3, rowK_row ag3, boxA_cell, al3, get_empty, next_empty, AH.get_set, AH.get_push, AH.next_set, AH.next_push, resultsA_cell, resK_pointer, roundA_G, roundG_loop, asgK_normal, bodyK_loop, ended_some, endRK_normal, endRK_ret, endRK_exit, rangeK_E, rangeE_ready, rangeE_done, rangeH, setAll, shut_nil, shut_cons, shutK_defs, endK_shut, outK_some, AH.get_kill, AH.next_kill, evalRegion_G, drawG_ok, drawK_all, trace_cons, trace_nil, traceK_some, List.all_cons, List.all_nil, sameRead_K, sameK_plain, sameK_guard, wantK_some, veqK_val, veq_int, veq_bool, veq_pointer, veq_slice, veq_nilSlice, Bool.and_true, Bool.and_self, List.getLast?_cons_cons, List.getLast?_singleton, len_slice one22, indexAddrA_one one22, ixK_slice, append_one one22, apK_nil, apK_some, apB_row, oneOf_row, bs22, Nat.reduceLeDiff, and_self, and_true, true_and, Int.reduceToNat, Int.reduceNe, List.take_succ_cons, List.take_zero, List.take_nil, List.length_cons, List.length_nil, List.cons_append, List.nil_append, Int.reduceLE, Int.reduceLT, Int.reduceEq, Int.reduceNeg, Int.reduceAdd, Int.reduceSub, Int.reduceMul, Int.reduceDiv, Nat.reduceAdd, Nat.reduceEqDiff, decide_true, decide_false, Try.f22, yieldedA_lit, callA_value, calleeK_yield, env_code, callA_func _ _ _ _ _ _ b18, callA_func _ _ _ _ _ _ b20, callA_func _ _ _ _ _ _ b29, env_call_ov ovA18, env_call_ov ovA20, env_call_ov ovA29, g29_nil, g1_int (f := lvl), g1_int (f := spn), evalC_rangeG, rangeG_func b31, env_call o31, e, h1, h2, h3]
    have : frs k = fst k := by
      unfold frs
      rw [if_neg (by omega)]
    rw [this]
theorem s22 : SumOk Try.prog 22 (g1 frs) := s1 ovA_ok e22
end Go.Proofs.Paths
