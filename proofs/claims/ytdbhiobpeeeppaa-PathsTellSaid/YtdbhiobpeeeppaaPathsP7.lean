/-
  Paths: Indirect, whole.
-/
import Derived.Test.YtdbhiobpeeeppaaPathsP6
namespace Go.Proofs.Paths
set_option linter.unusedSimpArgs false
set_option linter.unusedVariables false
open Go.AE
set_option maxRecDepth 100000
set_option maxHeartbeats 2000000

/-- Indirect blocks of so many blocks. -/
def ind (n : Int) : Int :=
  if bl n ≤ 8 then 0 else if bl n ≤ 72 then 1 else if bl n ≤ 4168 then 1 + ((bl n - 72 + 4095) / 4096 + (bl n - 72 + 63) / 64)
  else 1 + 65 + ((bl n - 4168 + 262143) / 262144 + (bl n - 4168 + 4095) / 4096 + (bl n - 4168 + 63) / 64)

theorem con_le {k : Nat} (h : k ≤ 7) (B : Int) : con k B = 0 := by unfold con; rw [if_pos h]
theorem con8 (B : Int) : con 8 B = ((if 64 < B - 8 then 64 else B - 8) + 63) / 64 := by unfold con; rw [if_neg (by decide), if_pos rfl]; rfl
theorem con9 (B : Int) : con 9 B = ((if 4096 < B - 72 then 4096 else B - 72) + 4095) / 4096 + ((if 4096 < B - 72 then 4096 else B - 72) + 63) / 64 := by unfold con; rw [if_neg (by decide), if_neg (by decide), if_pos rfl]; rfl
theorem con10 (B : Int) : con 10 B = ((if 262144 < B - 4168 then 262144 else B - 4168) + 262143) / 262144 + ((if 262144 < B - 4168 then 262144 else B - 4168) + 4095) / 4096 + ((if 262144 < B - 4168 then 262144 else B - 4168) + 63) / 64 := by
  unfold con; rw [if_neg (by decide), if_neg (by decide), if_neg (by decide)]; rfl
theorem acc8 {k : Nat} (h : k ≤ 8) (B : Int) : acc k B = 0 := by
  induction k with
  | zero => rfl
  | succ k ih => rw [acc, ih (by omega), con_le (by omega)]; rfl
theorem acc_ind {k : Nat} (n : Int) (hk : k ≤ 11) (h1 : k ≤ 10 → bl n ≤ fst k) (h2 : ∀ j : Nat, j < k → fst j < bl n) : acc k (bl n) = ind n := by
  have hb := bl_le n
  by_cases k8 : k ≤ 8
  · rw [acc8 k8]
    have : fst k ≤ 8 := by unfold fst; omega
    have := h1 (by omega)
    unfold ind; rw [if_pos (by omega)]
  · have f8 := h2 8 (by omega)
    rw [show fst ((8 : Nat) : Int) = 8 from rfl] at f8
    have : k = 9 ∨ k = 10 ∨ k = 11 := by omega
    rcases this with rfl | rfl | rfl
    · have := h1 (by omega)
      rw [show fst ((9 : Nat) : Int) = 72 from rfl] at this
      rw [acc, acc8 (by omega), con8]
      have hi : ind n = 1 := by unfold ind; rw [if_neg (by omega), if_pos (by omega)]
      rw [hi]; omega
    · have := h1 (by omega)
      rw [show fst ((10 : Nat) : Int) = 4168 from rfl] at this
      have f9 := h2 9 (by omega)
      rw [show fst ((9 : Nat) : Int) = 72 from rfl] at f9
      rw [acc, acc, acc8 (by omega), con8, con9]
      have hi : ind n = 1 + ((bl n - 72 + 4095) / 4096 + (bl n - 72 + 63) / 64) := by unfold ind; rw [if_neg (by omega), if_neg (by omega), if_pos (by omega)]
      rw [hi]; omega
    · have f9 := h2 9 (by omega)
      rw [show fst ((9 : Nat) : Int) = 72 from rfl] at f9
      have f10 := h2 10 (by omega)
      rw [show fst ((10 : Nat) : Int) = 4168 from rfl] at f10
      rw [acc, acc, acc, acc8 (by omega), con8, con9, con10]
      have hi : ind n = 1 + 65 + ((bl n - 4168 + 262143) / 262144 + (bl n - 4168 + 4095) / 4096 + (bl n - 4168 + 63) / 64) := by unfold ind; rw [if_neg (by omega), if_neg (by omega), if_neg (by omega)]
      rw [hi]; omega

theorem e26 (n : Int) (hp : -9223372036854775808 ≤ n ∧ n ≤ 9223372036854775807) : ∃ m, (callFn Try.prog (env Try.prog ovA m) 26 ⟨[.int .i64 n]⟩ ⟨.leaf, 0⟩).map (·.1) = some (.int .i64 (ind n)) := by
  refine ⟨31, ?_⟩
  rw [callFn_eq Try.func26 rfl]
  have hbl : (if 65536 < n then (65536 : Int) else n) = bl n := rfl
  have hI : I26 n 0 (((((((⟨.leaf, 0⟩ : AH).push (cell1 (.int .i64 n) 3)).set 0 (cell1 (.int .i64 (bl n)) 3)).push (cell1 (.int .i64 0) 3)).set 1 (cell1 (.int .i64 0) 3)).push .defs).push (.loop .ready .normal ⟨T26 n⟩ #[11, 12] r26.1 r26.2 2)) :=
    ⟨rfl, by simp [next_empty], by simp [next_empty, acc], by simp [next_empty], by simp [next_empty], by intro j hj; omega, by simp [acc], by simp [acc]⟩
  obtain ⟨v, h', e, hij⟩ := e31 (k26 n hp) hI
  simp only [T26, r26, ranges, Try.f26, Option.getD_some] at e
  rcases hij with ⟨hn, h0, h1, h2, h3, hj, _⟩ | ⟨k, hk, hj', hj, h1, h2, h3⟩
  · rw [acc_ind n (by omega) (by omega) hj] at h1
    simp only [T26, r26, ranges, Try.f26, Option.getD_some] at h3
    simp (maxSteps := 1000000) (disch := omega) only [pad, evalC_seq, evalC_region, evalC_cond, evalC_ret, evalC_skip, evalC_label, evalC_exit, evalC_scope, evalC_block, evalC_loop, evalC_draw, runOps_cons, runOps_nil, stepOp_eq, stepVal_plain, stepVal_guard, yieldedA_lit, opA_assign, opA_move, opA_binOp, opA_pick, opA_call, opA_alloc, opA_box, opA_load, opA_store, opA_extract, opA_buildSlice, opA_indexAddr, opA_fieldAddr, aeval_int, aeval_bool, aeval_tmp, aeval_nilSlice, aeval_nilPointer, aeval_nilFunc, aeval_func, List.getD_cons_zero, List.getD_cons_succ, arK_val, arK_skip, arK_enter, arK_round, valK_some, valK_none, List.set_cons_zero, List.set_cons_succ, opsK_some, Option.map_some, Option.map_none, seqK_normal, seqK_ret, seqK_exit, blockK_normal, blockK_ret, blockK_exit, loopK_normal, loopK_ret, loopK_exit, List.getElem?_cons_zero, List.getElem?_cons_succ, Option.bind_some, reduceCtorEq, if_false, if_true, pickK_bool, condK_true, condK_false, endK_ret, endK_normal, resultsA_tmp, resultsA_nil, resVal, Option.some.injEq, Bool.true_eq_false, Bool.false_eq_true, List.map_cons, List.map_nil, binA_add, binA_sub, binA_mul, binA_lss, binA_leq, binA_gtr, binA_geq, binA_eql, binA_neq, callA_builtin, max_int, min_int, loadK_pointer, storeK_pointer, IntWalk.i64_in, IntWalk.i64_quo, binA_quo, binA_rem, Int.tmod_eq_emod_of_nonneg, loadA_rowK, storeA_int hsz3, putK_cell, rowK_cell ag3, rowK_row ag3, boxA_cell, al3, get_empty, next_empty, AH.get_set, AH.get_push, AH.next_set, AH.next_push, resultsA_cell, resK_pointer, roundA_G, roundG_loop, asgK_normal, bodyK_loop, ended_some, endRK_normal, endRK_ret, endRK_exit, rangeK_E, rangeE_ready, rangeE_done, rangeH, setAll, shut_nil, shut_cons, shutK_defs, endK_shut, outK_some, AH.get_kill, AH.next_kill, evalRegion_G, drawG_ok, drawK_all, trace_cons, trace_nil, traceK_some, List.all_cons, List.all_nil, sameRead_K, sameK_plain, sameK_guard, wantK_some, veqK_val, veq_int, veq_bool, veq_pointer, veq_slice, veq_nilSlice, Bool.and_true, Bool.and_self, List.getLast?_cons_cons, List.getLast?_singleton, len_slice one22, indexAddrA_one one22, ixK_slice, append_one one22, apK_nil, apK_some, apB_row, oneOf_row, bs22, Nat.reduceLeDiff, and_self, and_true, true_and, Int.reduceToNat, Int.reduceNe, List.take_succ_cons, List.take_zero, List.take_nil, List.length_cons, List.length_nil, List.cons_append, List.nil_append, Int.reduceLE, Int.reduceLT, Int.reduceEq, Int.reduceNeg, Int.reduceAdd, Int.reduceSub, Int.reduceMul, Int.reduceDiv, Nat.reduceAdd, Nat.reduceEqDiff, decide_true, decide_false, hbl, e, h1, h2, h3, T26, r26, ranges, Try.f26, Option.getD_some, evalC_draw, yieldedA_lit, callA_value, env_code, callA_func _ _ _ _ _ _ b18, callA_func _ _ _ _ _ _ b20, callA_func _ _ _ _ _ _ b29, env_call_ov ovA18, env_call_ov ovA20, env_call_ov ovA29, g29_nil, g1_int (f := lvl), g1_int (f := spn), evalC_rangeG, rangeG_func b31, env_call o31]
  · rw [acc_ind n (by omega) (fun _ => hj') hj] at h1
    simp only [T26, r26, ranges, Try.f26, Option.getD_some] at h3
    simp (maxSteps := 1000000) (disch := omega) only [pad, evalC_seq, evalC_region, evalC_cond, evalC_ret, evalC_skip, evalC_label, evalC_exit, evalC_scope, evalC_block, evalC_loop, evalC_draw, runOps_cons, runOps_nil, stepOp_eq, stepVal_plain, stepVal_guard, yieldedA_lit, opA_assign, opA_move, opA_binOp, opA_pick, opA_call, opA_alloc, opA_box, opA_load, opA_store, opA_extract, opA_buildSlice, opA_indexAddr, opA_fieldAddr, aeval_int, aeval_bool, aeval_tmp, aeval_nilSlice, aeval_nilPointer, aeval_nilFunc, aeval_func, List.getD_cons_zero, List.getD_cons_succ, arK_val, arK_skip, arK_enter, arK_round, valK_some, valK_none, List.set_cons_zero, List.set_cons_succ, opsK_some, Option.map_some, Option.map_none, seqK_normal, seqK_ret, seqK_exit, blockK_normal, blockK_ret, blockK_exit, loopK_normal, loopK_ret, loopK_exit, List.getElem?_cons_zero, List.getElem?_cons_succ, Option.bind_some, reduceCtorEq, if_false, if_true, pickK_bool, condK_true, condK_false, endK_ret, endK_normal, resultsA_tmp, resultsA_nil, resVal, Option.some.injEq, Bool.true_eq_false, Bool.false_eq_true, List.map_cons, List.map_nil, binA_add, binA_sub, binA_mul, binA_lss, binA_leq, binA_gtr, binA_geq, binA_eql, binA_neq, callA_builtin, max_int, min_int, loadK_pointer, storeK_pointer, IntWalk.i64_in, IntWalk.i64_quo, binA_quo, binA_rem, Int.tmod_eq_emod_of_nonneg, loadA_rowK, storeA_int hsz3, putK_cell, rowK_cell ag3, rowK_row ag3, boxA_cell, al3, get_empty, next_empty, AH.get_set, AH.get_push, AH.next_set, AH.next_push, resultsA_cell, resK_pointer, roundA_G, roundG_loop, asgK_normal, bodyK_loop, ended_some, endRK_normal, endRK_ret, endRK_exit, rangeK_E, rangeE_ready, rangeE_done, rangeH, setAll, shut_nil, shut_cons, shutK_defs, endK_shut, outK_some, AH.get_kill, AH.next_kill, evalRegion_G, drawG_ok, drawK_all, trace_cons, trace_nil, traceK_some, List.all_cons, List.all_nil, sameRead_K, sameK_plain, sameK_guard, wantK_some, veqK_val, veq_int, veq_bool, veq_pointer, veq_slice, veq_nilSlice, Bool.and_true, Bool.and_self, List.getLast?_cons_cons, List.getLast?_singleton, len_slice one22, indexAddrA_one one22, ixK_slice, append_one one22, apK_nil, apK_some, apB_row, oneOf_row, bs22, Nat.reduceLeDiff, and_self, and_true, true_and, Int.reduceToNat, Int.reduceNe, List.take_succ_cons, List.take_zero, List.take_nil, List.length_cons, List.length_nil, List.cons_append, List.nil_append, Int.reduceLE, Int.reduceLT, Int.reduceEq, Int.reduceNeg, Int.reduceAdd, Int.reduceSub, Int.reduceMul, Int.reduceDiv, Nat.reduceAdd, Nat.reduceEqDiff, decide_true, decide_false, hbl, e, h1, h2, h3, T26, r26, ranges, Try.f26, Option.getD_some, evalC_draw, yieldedA_lit, callA_value, env_code, callA_func _ _ _ _ _ _ b18, callA_func _ _ _ _ _ _ b20, callA_func _ _ _ _ _ _ b29, env_call_ov ovA18, env_call_ov ovA20, env_call_ov ovA29, g29_nil, g1_int (f := lvl), g1_int (f := spn), evalC_rangeG, rangeG_func b31, env_call o31]
theorem s26 : SumOk Try.prog 26 (g1 ind) := s1 ovA_ok e26
end Go.Proofs.Paths
