/-
  Paths: Indirect.
-/
import Derived.Test.YtdbhiobpeeeppaaPathsP5
namespace Go.Proofs.Paths
open Go.AE
set_option linter.unusedSimpArgs false
set_option linter.unusedVariables false
set_option maxRecDepth 100000
set_option maxHeartbeats 2000000

theorem n8 : ((8 : Nat) : Int) = 8 := rfl
theorem n9 : ((9 : Nat) : Int) = 9 := rfl
theorem n10 : ((10 : Nat) : Int) = 10 := rfl
noncomputable def r26 : Code × Code := (ranges (Try.f26.body.getD .skip)).getD (.skip, .skip)
theorem st26_7 : drawStatic (regionOf Try.f26 7) = true := by kernel_rfl
theorem st26_11 : drawStatic (regionOf Try.f26 11) = true := by kernel_rfl
theorem pr26_7 : drawPairs (regionOf Try.f26 7) = [(0, 4), (0, 5)] := by kernel_rfl
theorem pr26_11 : drawPairs (regionOf Try.f26 11) = [(0, 3), (0, 7)] := by kernel_rfl

/-- So many blocks as a file can have. -/
def bl (n : Int) : Int := if 65536 < n then 65536 else n
def here (k : Nat) (b : Int) : Int := if spn (lvl k) < b - fst k then spn (lvl k) else b - fst k
/-- Indirect blocks on one pointer. -/
def con (k : Nat) (b : Int) : Int :=
  if k ≤ 7 then 0 else if k = 8 then (here k b + 63) / 64 else if k = 9 then (here k b + 4095) / 4096 + (here k b + 63) / 64
  else (here k b + 262143) / 262144 + (here k b + 4095) / 4096 + (here k b + 63) / 64
def acc : Nat → Int → Int
  | 0, _ => 0
  | k + 1, b => acc k b + con k b

def T26 (n : Int) : List Value := [.int .i64 n, .pointer (some ⟨0, 0, none⟩), .int .i64 0, .pointer (some ⟨1, 0, none⟩), undef, undef, undef, undef, .int .i64 n, .int .i64 (bl n), .func (.func 31) #[] #[], undef, undef, undef, undef, undef, undef, undef, undef, undef, undef, undef, undef, undef, undef, undef, undef, undef, undef, undef, undef, undef, undef, undef, undef, undef, undef, undef, undef, undef]
def I26 (n : Int) (k : Nat) (h : AH) : Prop :=
  h.next = 4 ∧ h.get 0 = some (cell1 (.int .i64 (bl n)) 3) ∧ h.get 1 = some (cell1 (.int .i64 (acc k (bl n))) 3) ∧ h.get 2 = some .defs ∧ h.get 3 = some (.loop .ready .normal ⟨T26 n⟩ #[11, 12] r26.1 r26.2 2) ∧ (∀ j : Nat, j < k → fst j < bl n) ∧ 0 ≤ acc k (bl n) ∧ acc k (bl n) ≤ 1000000 * k
def J26 (n : Int) (h : AH) : Prop :=
  ∃ k : Nat, k ≤ 10 ∧ bl n ≤ fst k ∧ (∀ j : Nat, j < k → fst j < bl n) ∧ h.get 1 = some (cell1 (.int .i64 (acc k (bl n))) 3) ∧ h.get 2 = some .defs ∧ h.get 3 = some (.loop .done (.exit 0) ⟨T26 n⟩ #[11, 12] r26.1 r26.2 2)

theorem bl_le (n : Int) : bl n ≤ 65536 := by unfold bl; omega

theorem k26 (n : Int) (hp : -9223372036854775808 ≤ n ∧ n ≤ 9223372036854775807) : Round 3 (I26 n) (J26 n) := by
  rintro m k hk h ⟨hn, h0, h1, h2, h3, hj, ha, ha'⟩
  have st7 := st26_7
  have st11 := st26_11
  have pr7 := pr26_7
  have pr11 := pr26_11
  simp only [regionOf, regionAt, Try.f26, Option.getD_some, Nat.reduceEqDiff, if_true, if_false] at st7 st11 pr7 pr11
  have hl := lvl_le k hk
  have hs := spn_le (lvl k)
  have hf := fst_le k
  have hb := bl_le n
  have hb' : bl n ≤ n := by unfold bl; omega
  have hb'' : -9223372036854775808 ≤ bl n := by unfold bl; omega
  generalize hB : bl n = B at *
  generalize hA : acc k B = A at *
  by_cases c : B ≤ fst k
  · have c1 : decide (B ≤ fst k) = true := by simpa using c
    refine ⟨false, ?_⟩
    simp (maxSteps := 1000000) (disch := omega) only [pad, evalC_seq, evalC_region, evalC_cond, evalC_ret, evalC_skip, evalC_label, evalC_exit, evalC_scope, evalC_block, evalC_loop, evalC_draw, runOps_cons, runOps_nil, stepOp_eq, stepVal_plain, stepVal_guard, yieldedA_lit, opA_assign, opA_move, opA_binOp, opA_pick, opA_call, opA_alloc, opA_box, opA_load, opA_store, opA_extract, opA_buildSlice, opA_indexAddr, opA_fieldAddr, aeval_int, aeval_bool, aeval_tmp, aeval_nilSlice, aeval_nilPointer, aeval_nilFunc, aeval_func, List.getD_cons_zero, List.getD_cons_succ, arK_val, arK_skip, arK_enter, arK_round, valK_some, valK_none, List.set_cons_zero, List.set_cons_succ, opsK_some, Option.map_some, Option.map_none, seqK_normal, seqK_ret, seqK_exit, blockK_normal, blockK_ret, blockK_exit, loopK_normal, loopK_ret, loopK_exit, List.getElem?_cons_zero, List.getElem?_cons_succ, Option.bind_some, reduceCtorEq, if_false, if_true, pickK_bool, condK_true, condK_false, endK_ret, endK_normal, resultsA_tmp, resultsA_nil, resVal, Option.some.injEq, Bool.true_eq_false, Bool.false_eq_true, List.map_cons, List.map_nil, binA_add, binA_sub, binA_mul, binA_lss, binA_leq, binA_gtr, binA_geq, binA_eql, binA_neq, callA_builtin, max_int, min_int, loadK_pointer, storeK_pointer, IntWalk.i64_in, IntWalk.i64_quo, binA_quo, binA_rem, Int.tmod_eq_emod_of_nonneg, loadA_rowK, storeA_int hsz3, putK_cell, rowK_cell ag3, rowK_row ag3, boxA_cell, al3, get_empty, next_empty, AH.get_set, AH.get_push, AH.next_set, AH.next_push, resultsA_cell, resK_pointer, roundA_G, roundG_loop, asgK_normal, bodyK_loop, ended_some, endRK_normal, endRK_ret, endRK_exit, rangeK_E, rangeE_ready, rangeE_done, rangeH, setAll, shut_nil, shut_cons, shutK_defs, endK_shut, outK_some, AH.get_kill, AH.next_kill, evalRegion_G, drawG_ok, drawK_all, trace_cons, trace_nil, traceK_some, List.all_cons, List.all_nil, sameRead_K, sameK_plain, sameK_guard, wantK_some, veqK_val, veq_int, veq_bool, veq_pointer, veq_slice, veq_nilSlice, Bool.and_true, Bool.and_self, List.getLast?_cons_cons, List.getLast?_singleton, len_slice one22, indexAddrA_one one22, ixK_slice, append_one one22, apK_nil, apK_some, apB_row, oneOf_row, bs22, Nat.reduceLeDiff, List.take_succ_cons, List.take_zero, List.take_nil, List.length_cons, List.length_nil, List.cons_append, List.nil_append, Int.reduceLE, Int.reduceLT, Int.reduceEq, Int.reduceNeg, Int.reduceAdd, Int.reduceSub, Int.reduceMul, Int.reduceDiv, Nat.reduceAdd, Nat.reduceEqDiff, decide_true, decide_false, h0, h1, h2, h3, hn, hB, c1, T26, r26, ranges, Try.f26, Option.getD_some, evalC_draw, st7, st11, pr7, pr11, yieldedA_lit, callA_value, env_code, callA_func _ _ _ _ _ _ b18, callA_func _ _ _ _ _ _ b20, callA_func _ _ _ _ _ _ b29, env_call_ov ovA18, env_call_ov ovA20, env_call_ov ovA29, g29_nil, g1_int (f := lvl), g1_int (f := spn)]
    refine ⟨_, rfl, k, hk, by rw [hB]; exact c, by rw [hB]; exact hj, ?_, ?_, ?_⟩
    · simp [h1, hB, hA]
    · simp [h2]
    · simp only [AH.get_set, if_true]; subst hB; rfl
  · have c1 : decide (B ≤ fst k) = false := by simpa using c
    refine ⟨true, ?_⟩
    have hfin : ∀ h', (h'.next = 4 ∧ h'.get 0 = some (cell1 (.int .i64 B) 3) ∧ h'.get 1 = some (cell1 (.int .i64 (A + con k B)) 3) ∧ h'.get 2 = some .defs ∧ h'.get 3 = some (.loop .ready .normal ⟨T26 n⟩ #[11, 12] r26.1 r26.2 2)) ∧ 0 ≤ con k B ∧ con k B ≤ 1000000 → I26 n (k + 1) h' := by
      rintro h' ⟨⟨q1, q2, q3, q4, q5⟩, q6, q7⟩
      refine ⟨q1, by rw [hB]; exact q2, ?_, q4, q5, ?_, ?_, ?_⟩
      · simp only [acc, hB, hA]; exact q3
      · intro j hjk
        rw [hB]
        by_cases e : j < k
        · exact hj j e
        · have : j = k := by omega
          subst this; omega
      · simp only [acc, hB, hA]; omega
      · simp only [acc, hB, hA]; omega
    by_cases k7 : k ≤ 7
    · have hl0 : lvl k = 0 := by unfold lvl; omega
      simp (maxSteps := 1000000) (disch := omega) only [pad, evalC_seq, evalC_region, evalC_cond, evalC_ret, evalC_skip, evalC_label, evalC_exit, evalC_scope, evalC_block, evalC_loop, evalC_draw, runOps_cons, runOps_nil, stepOp_eq, stepVal_plain, stepVal_guard, yieldedA_lit, opA_assign, opA_move, opA_binOp, opA_pick, opA_call, opA_alloc, opA_box, opA_load, opA_store, opA_extract, opA_buildSlice, opA_indexAddr, opA_fieldAddr, aeval_int, aeval_bool, aeval_tmp, aeval_nilSlice, aeval_nilPointer, aeval_nilFunc, aeval_func, List.getD_cons_zero, List.getD_cons_succ, arK_val, arK_skip, arK_enter, arK_round, valK_some, valK_none, List.set_cons_zero, List.set_cons_succ, opsK_some, Option.map_some, Option.map_none, seqK_normal, seqK_ret, seqK_exit, blockK_normal, blockK_ret, blockK_exit, loopK_normal, loopK_ret, loopK_exit, List.getElem?_cons_zero, List.getElem?_cons_succ, Option.bind_some, reduceCtorEq, if_false, if_true, pickK_bool, condK_true, condK_false, endK_ret, endK_normal, resultsA_tmp, resultsA_nil, resVal, Option.some.injEq, Bool.true_eq_false, Bool.false_eq_true, List.map_cons, List.map_nil, binA_add, binA_sub, binA_mul, binA_lss, binA_leq, binA_gtr, binA_geq, binA_eql, binA_neq, callA_builtin, max_int, min_int, loadK_pointer, storeK_pointer, IntWalk.i64_in, IntWalk.i64_quo, binA_quo, binA_rem, Int.tmod_eq_emod_of_nonneg, loadA_rowK, storeA_int hsz3, putK_cell, rowK_cell ag3, rowK_row ag3, boxA_cell, al3, get_empty, next_empty, AH.get_set, AH.get_push, AH.next_set, AH.next_push, resultsA_cell, resK_pointer, roundA_G, roundG_loop, asgK_normal, bodyK_loop, ended_some, endRK_normal, endRK_ret, endRK_exit, rangeK_E, rangeE_ready, rangeE_done, rangeH, setAll, shut_nil, shut_cons, shutK_defs, endK_shut, outK_some, AH.get_kill, AH.next_kill, evalRegion_G, drawG_ok, drawK_all, trace_cons, trace_nil, traceK_some, List.all_cons, List.all_nil, sameRead_K, sameK_plain, sameK_guard, wantK_some, veqK_val, veq_int, veq_bool, veq_pointer, veq_slice, veq_nilSlice, Bool.and_true, Bool.and_self, List.getLast?_cons_cons, List.getLast?_singleton, len_slice one22, indexAddrA_one one22, ixK_slice, append_one one22, apK_nil, apK_some, apB_row, oneOf_row, bs22, Nat.reduceLeDiff, List.take_succ_cons, List.take_zero, List.take_nil, List.length_cons, List.length_nil, List.cons_append, List.nil_append, Int.reduceLE, Int.reduceLT, Int.reduceEq, Int.reduceNeg, Int.reduceAdd, Int.reduceSub, Int.reduceMul, Int.reduceDiv, Nat.reduceAdd, Nat.reduceEqDiff, decide_true, decide_false, h0, h1, h2, h3, hn, hB, c1, hl0, w0, T26, r26, ranges, Try.f26, Option.getD_some, evalC_draw, st7, st11, pr7, pr11, yieldedA_lit, callA_value, env_code, callA_func _ _ _ _ _ _ b18, callA_func _ _ _ _ _ _ b20, callA_func _ _ _ _ _ _ b29, env_call_ov ovA18, env_call_ov ovA20, env_call_ov ovA29, g29_nil, g1_int (f := lvl), g1_int (f := spn)]
      have hc : con k B = 0 := by unfold con; rw [if_pos k7]
      refine ⟨_, rfl, hfin _ ⟨⟨hn, by simp [h0], ?_, by simp [h2], by simp only [AH.get_set, if_true]; subst hB; rfl⟩, by rw [hc]; omega, by rw [hc]; omega⟩⟩
      simp [h1]
      try exact congrArg (fun z => cell1 (.int .i64 z) 3) (by rw [hc]; omega)
    · have : k = 8 ∨ k = 9 ∨ k = 10 := by omega
      rcases this with rfl | rfl | rfl
      · rw [show fst ((8 : Nat) : Int) = 8 from rfl] at *
        by_cases d : 64 < B - 8
        · simp (maxSteps := 1000000) (disch := omega) only [pad, evalC_seq, evalC_region, evalC_cond, evalC_ret, evalC_skip, evalC_label, evalC_exit, evalC_scope, evalC_block, evalC_loop, evalC_draw, runOps_cons, runOps_nil, stepOp_eq, stepVal_plain, stepVal_guard, yieldedA_lit, opA_assign, opA_move, opA_binOp, opA_pick, opA_call, opA_alloc, opA_box, opA_load, opA_store, opA_extract, opA_buildSlice, opA_indexAddr, opA_fieldAddr, aeval_int, aeval_bool, aeval_tmp, aeval_nilSlice, aeval_nilPointer, aeval_nilFunc, aeval_func, List.getD_cons_zero, List.getD_cons_succ, arK_val, arK_skip, arK_enter, arK_round, valK_some, valK_none, List.set_cons_zero, List.set_cons_succ, opsK_some, Option.map_some, Option.map_none, seqK_normal, seqK_ret, seqK_exit, blockK_normal, blockK_ret, blockK_exit, loopK_normal, loopK_ret, loopK_exit, List.getElem?_cons_zero, List.getElem?_cons_succ, Option.bind_some, reduceCtorEq, if_false, if_true, pickK_bool, condK_true, condK_false, endK_ret, endK_normal, resultsA_tmp, resultsA_nil, resVal, Option.some.injEq, Bool.true_eq_false, Bool.false_eq_true, List.map_cons, List.map_nil, binA_add, binA_sub, binA_mul, binA_lss, binA_leq, binA_gtr, binA_geq, binA_eql, binA_neq, callA_builtin, max_int, min_int, loadK_pointer, storeK_pointer, IntWalk.i64_in, IntWalk.i64_quo, binA_quo, binA_rem, Int.tmod_eq_emod_of_nonneg, loadA_rowK, storeA_int hsz3, putK_cell, rowK_cell ag3, rowK_row ag3, boxA_cell, al3, get_empty, next_empty, AH.get_set, AH.get_push, AH.next_set, AH.next_push, resultsA_cell, resK_pointer, roundA_G, roundG_loop, asgK_normal, bodyK_loop, ended_some, endRK_normal, endRK_ret, endRK_exit, rangeK_E, rangeE_ready, rangeE_done, rangeH, setAll, shut_nil, shut_cons, shutK_defs, endK_shut, outK_some, AH.get_kill, AH.next_kill, evalRegion_G, drawG_ok, drawK_all, trace_cons, trace_nil, traceK_some, List.all_cons, List.all_nil, sameRead_K, sameK_plain, sameK_guard, wantK_some, veqK_val, veq_int, veq_bool, veq_pointer, veq_slice, veq_nilSlice, Bool.and_true, Bool.and_self, List.getLast?_cons_cons, List.getLast?_singleton, len_slice one22, indexAddrA_one one22, ixK_slice, append_one one22, apK_nil, apK_some, apB_row, oneOf_row, bs22, Nat.reduceLeDiff, List.take_succ_cons, List.take_zero, List.take_nil, List.length_cons, List.length_nil, List.cons_append, List.nil_append, Int.reduceLE, Int.reduceLT, Int.reduceEq, Int.reduceNeg, Int.reduceAdd, Int.reduceSub, Int.reduceMul, Int.reduceDiv, Nat.reduceAdd, Nat.reduceEqDiff, decide_true, decide_false, h0, h1, h2, h3, hn, hB, c1, n8, a8, w0, w1, d, T26, r26, ranges, Try.f26, Option.getD_some, evalC_draw, st7, st11, pr7, pr11, yieldedA_lit, callA_value, env_code, callA_func _ _ _ _ _ _ b18, callA_func _ _ _ _ _ _ b20, callA_func _ _ _ _ _ _ b29, env_call_ov ovA18, env_call_ov ovA20, env_call_ov ovA29, g29_nil, g1_int (f := lvl), g1_int (f := spn)]
          have hh : here 8 B = 64 := by
            unfold here
            rw [show fst ((8 : Nat) : Int) = 8 from rfl, show spn (lvl ((8 : Nat) : Int)) = 64 from rfl, if_pos d]
          have hc : con 8 B = (64 + 63) / 64 := by
            unfold con
            rw [if_neg (by decide), if_pos rfl]
            rw [hh]
          refine ⟨_, rfl, hfin _ ⟨⟨hn, by simp [h0], ?_, by simp [h2], by simp only [AH.get_set, if_true]; subst hB; rfl⟩, by rw [hc]; omega, by rw [hc]; omega⟩⟩
          simp [h1]
          try exact congrArg (fun z => cell1 (.int .i64 z) 3) (by rw [hc]; omega)
        · simp (maxSteps := 1000000) (disch := omega) only [pad, evalC_seq, evalC_region, evalC_cond, evalC_ret, evalC_skip, evalC_label, evalC_exit, evalC_scope, evalC_block, evalC_loop, evalC_draw, runOps_cons, runOps_nil, stepOp_eq, stepVal_plain, stepVal_guard, yieldedA_lit, opA_assign, opA_move, opA_binOp, opA_pick, opA_call, opA_alloc, opA_box, opA_load, opA_store, opA_extract, opA_buildSlice, opA_indexAddr, opA_fieldAddr, aeval_int, aeval_bool, aeval_tmp, aeval_nilSlice, aeval_nilPointer, aeval_nilFunc, aeval_func, List.getD_cons_zero, List.getD_cons_succ, arK_val, arK_skip, arK_enter, arK_round, valK_some, valK_none, List.set_cons_zero, List.set_cons_succ, opsK_some, Option.map_some, Option.map_none, seqK_normal, seqK_ret, seqK_exit, blockK_normal, blockK_ret, blockK_exit, loopK_normal, loopK_ret, loopK_exit, List.getElem?_cons_zero, List.getElem?_cons_succ, Option.bind_some, reduceCtorEq, if_false, if_true, pickK_bool, condK_true, condK_false, endK_ret, endK_normal, resultsA_tmp, resultsA_nil, resVal, Option.some.injEq, Bool.true_eq_false, Bool.false_eq_true, List.map_cons, List.map_nil, binA_add, binA_sub, binA_mul, binA_lss, binA_leq, binA_gtr, binA_geq, binA_eql, binA_neq, callA_builtin, max_int, min_int, loadK_pointer, storeK_pointer, IntWalk.i64_in, IntWalk.i64_quo, binA_quo, binA_rem, Int.tmod_eq_emod_of_nonneg, loadA_rowK, storeA_int hsz3, putK_cell, rowK_cell ag3, rowK_row ag3, boxA_cell, al3, get_empty, next_empty, AH.get_set, AH.get_push, AH.next_set, AH.next_push, resultsA_cell, resK_pointer, roundA_G, roundG_loop, asgK_normal, bodyK_loop, ended_some, endRK_normal, endRK_ret, endRK_exit, rangeK_E, rangeE_ready, rangeE_done, rangeH, setAll, shut_nil, shut_cons, shutK_defs, endK_shut, outK_some, AH.get_kill, AH.next_kill, evalRegion_G, drawG_ok, drawK_all, trace_cons, trace_nil, traceK_some, List.all_cons, List.all_nil, sameRead_K, sameK_plain, sameK_guard, wantK_some, veqK_val, veq_int, veq_bool, veq_pointer, veq_slice, veq_nilSlice, Bool.and_true, Bool.and_self, List.getLast?_cons_cons, List.getLast?_singleton, len_slice one22, indexAddrA_one one22, ixK_slice, append_one one22, apK_nil, apK_some, apB_row, oneOf_row, bs22, Nat.reduceLeDiff, List.take_succ_cons, List.take_zero, List.take_nil, List.length_cons, List.length_nil, List.cons_append, List.nil_append, Int.reduceLE, Int.reduceLT, Int.reduceEq, Int.reduceNeg, Int.reduceAdd, Int.reduceSub, Int.reduceMul, Int.reduceDiv, Nat.reduceAdd, Nat.reduceEqDiff, decide_true, decide_false, h0, h1, h2, h3, hn, hB, c1, n8, a8, w0, w1, d, T26, r26, ranges, Try.f26, Option.getD_some, evalC_draw, st7, st11, pr7, pr11, yieldedA_lit, callA_value, env_code, callA_func _ _ _ _ _ _ b18, callA_func _ _ _ _ _ _ b20, callA_func _ _ _ _ _ _ b29, env_call_ov ovA18, env_call_ov ovA20, env_call_ov ovA29, g29_nil, g1_int (f := lvl), g1_int (f := spn)]
          have hh : here 8 B = B - 8 := by
            unfold here
            rw [show fst ((8 : Nat) : Int) = 8 from rfl, show spn (lvl ((8 : Nat) : Int)) = 64 from rfl, if_neg d]
          have hc : con 8 B = (B - 8 + 63) / 64 := by
            unfold con
            rw [if_neg (by decide), if_pos rfl]
            rw [hh]
          refine ⟨_, rfl, hfin _ ⟨⟨hn, by simp [h0], ?_, by simp [h2], by simp only [AH.get_set, if_true]; subst hB; rfl⟩, by rw [hc]; omega, by rw [hc]; omega⟩⟩
          simp [h1]
          try exact congrArg (fun z => cell1 (.int .i64 z) 3) (by rw [hc]; omega)
      · rw [show fst ((9 : Nat) : Int) = 72 from rfl] at *
        by_cases d : 4096 < B - 72
        · simp (maxSteps := 1000000) (disch := omega) only [pad, evalC_seq, evalC_region, evalC_cond, evalC_ret, evalC_skip, evalC_label, evalC_exit, evalC_scope, evalC_block, evalC_loop, evalC_draw, runOps_cons, runOps_nil, stepOp_eq, stepVal_plain, stepVal_guard, yieldedA_lit, opA_assign, opA_move, opA_binOp, opA_pick, opA_call, opA_alloc, opA_box, opA_load, opA_store, opA_extract, opA_buildSlice, opA_indexAddr, opA_fieldAddr, aeval_int, aeval_bool, aeval_tmp, aeval_nilSlice, aeval_nilPointer, aeval_nilFunc, aeval_func, List.getD_cons_zero, List.getD_cons_succ, arK_val, arK_skip, arK_enter, arK_round, valK_some, valK_none, List.set_cons_zero, List.set_cons_succ, opsK_some, Option.map_some, Option.map_none, seqK_normal, seqK_ret, seqK_exit, blockK_normal, blockK_ret, blockK_exit, loopK_normal, loopK_ret, loopK_exit, List.getElem?_cons_zero, List.getElem?_cons_succ, Option.bind_some, reduceCtorEq, if_false, if_true, pickK_bool, condK_true, condK_false, endK_ret, endK_normal, resultsA_tmp, resultsA_nil, resVal, Option.some.injEq, Bool.true_eq_false, Bool.false_eq_true, List.map_cons, List.map_nil, binA_add, binA_sub, binA_mul, binA_lss, binA_leq, binA_gtr, binA_geq, binA_eql, binA_neq, callA_builtin, max_int, min_int, loadK_pointer, storeK_pointer, IntWalk.i64_in, IntWalk.i64_quo, binA_quo, binA_rem, Int.tmod_eq_emod_of_nonneg, loadA_rowK, storeA_int hsz3, putK_cell, rowK_cell ag3, rowK_row ag3, boxA_cell, al3, get_empty, next_empty, AH.get_set, AH.get_push, AH.next_set, AH.next_push, resultsA_cell, resK_pointer, roundA_G, roundG_loop, asgK_normal, bodyK_loop, ended_some, endRK_normal, endRK_ret, endRK_exit, rangeK_E, rangeE_ready, rangeE_done, rangeH, setAll, shut_nil, shut_cons, shutK_defs, endK_shut, outK_some, AH.get_kill, AH.next_kill, evalRegion_G, drawG_ok, drawK_all, trace_cons, trace_nil, traceK_some, List.all_cons, List.all_nil, sameRead_K, sameK_plain, sameK_guard, wantK_some, veqK_val, veq_int, veq_bool, veq_pointer, veq_slice, veq_nilSlice, Bool.and_true, Bool.and_self, List.getLast?_cons_cons, List.getLast?_singleton, len_slice one22, indexAddrA_one one22, ixK_slice, append_one one22, apK_nil, apK_some, apB_row, oneOf_row, bs22, Nat.reduceLeDiff, List.take_succ_cons, List.take_zero, List.take_nil, List.length_cons, List.length_nil, List.cons_append, List.nil_append, Int.reduceLE, Int.reduceLT, Int.reduceEq, Int.reduceNeg, Int.reduceAdd, Int.reduceSub, Int.reduceMul, Int.reduceDiv, Nat.reduceAdd, Nat.reduceEqDiff, decide_true, decide_false, h0, h1, h2, h3, hn, hB, c1, n9, a9, w0, w1, w2, d, T26, r26, ranges, Try.f26, Option.getD_some, evalC_draw, st7, st11, pr7, pr11, yieldedA_lit, callA_value, env_code, callA_func _ _ _ _ _ _ b18, callA_func _ _ _ _ _ _ b20, callA_func _ _ _ _ _ _ b29, env_call_ov ovA18, env_call_ov ovA20, env_call_ov ovA29, g29_nil, g1_int (f := lvl), g1_int (f := spn)]
          have hh : here 9 B = 4096 := by
            unfold here
            rw [show fst ((9 : Nat) : Int) = 72 from rfl, show spn (lvl ((9 : Nat) : Int)) = 4096 from rfl, if_pos d]
          have hc : con 9 B = (4096 + 4095) / 4096 + (4096 + 63) / 64 := by
            unfold con
            rw [if_neg (by decide), if_neg (by decide), if_pos rfl]
            rw [hh]
          refine ⟨_, rfl, hfin _ ⟨⟨hn, by simp [h0], ?_, by simp [h2], by simp only [AH.get_set, if_true]; subst hB; rfl⟩, by rw [hc]; omega, by rw [hc]; omega⟩⟩
          simp [h1]
          try exact congrArg (fun z => cell1 (.int .i64 z) 3) (by rw [hc]; omega)
        · simp (maxSteps := 1000000) (disch := omega) only [pad, evalC_seq, evalC_region, evalC_cond, evalC_ret, evalC_skip, evalC_label, evalC_exit, evalC_scope, evalC_block, evalC_loop, evalC_draw, runOps_cons, runOps_nil, stepOp_eq, stepVal_plain, stepVal_guard, yieldedA_lit, opA_assign, opA_move, opA_binOp, opA_pick, opA_call, opA_alloc, opA_box, opA_load, opA_store, opA_extract, opA_buildSlice, opA_indexAddr, opA_fieldAddr, aeval_int, aeval_bool, aeval_tmp, aeval_nilSlice, aeval_nilPointer, aeval_nilFunc, aeval_func, List.getD_cons_zero, List.getD_cons_succ, arK_val, arK_skip, arK_enter, arK_round, valK_some, valK_none, List.set_cons_zero, List.set_cons_succ, opsK_some, Option.map_some, Option.map_none, seqK_normal, seqK_ret, seqK_exit, blockK_normal, blockK_ret, blockK_exit, loopK_normal, loopK_ret, loopK_exit, List.getElem?_cons_zero, List.getElem?_cons_succ, Option.bind_some, reduceCtorEq, if_false, if_true, pickK_bool, condK_true, condK_false, endK_ret, endK_normal, resultsA_tmp, resultsA_nil, resVal, Option.some.injEq, Bool.true_eq_false, Bool.false_eq_true, List.map_cons, List.map_nil, binA_add, binA_sub, binA_mul, binA_lss, binA_leq, binA_gtr, binA_geq, binA_eql, binA_neq, callA_builtin, max_int, min_int, loadK_pointer, storeK_pointer, IntWalk.i64_in, IntWalk.i64_quo, binA_quo, binA_rem, Int.tmod_eq_emod_of_nonneg, loadA_rowK, storeA_int hsz3, putK_cell, rowK_cell ag3, rowK_row ag3, boxA_cell, al3, get_empty, next_empty, AH.get_set, AH.get_push, AH.next_set, AH.next_push, resultsA_cell, resK_pointer, roundA_G, roundG_loop, asgK_normal, bodyK_loop, ended_some, endRK_normal, endRK_ret, endRK_exit, rangeK_E, rangeE_ready, rangeE_done, rangeH, setAll, shut_nil, shut_cons, shutK_defs, endK_shut, outK_some, AH.get_kill, AH.next_kill, evalRegion_G, drawG_ok, drawK_all, trace_cons, trace_nil, traceK_some, List.all_cons, List.all_nil, sameRead_K, sameK_plain, sameK_guard, wantK_some, veqK_val, veq_int, veq_bool, veq_pointer, veq_slice, veq_nilSlice, Bool.and_true, Bool.and_self, List.getLast?_cons_cons, List.getLast?_singleton, len_slice one22, indexAddrA_one one22, ixK_slice, append_one one22, apK_nil, apK_some, apB_row, oneOf_row, bs22, Nat.reduceLeDiff, List.take_succ_cons, List.take_zero, List.take_nil, List.length_cons, List.length_nil, List.cons_append, List.nil_append, Int.reduceLE, Int.reduceLT, Int.reduceEq, Int.reduceNeg, Int.reduceAdd, Int.reduceSub, Int.reduceMul, Int.reduceDiv, Nat.reduceAdd, Nat.reduceEqDiff, decide_true, decide_false, h0, h1, h2, h3, hn, hB, c1, n9, a9, w0, w1, w2, d, T26, r26, ranges, Try.f26, Option.getD_some, evalC_draw, st7, st11, pr7, pr11, yieldedA_lit, callA_value, env_code, callA_func _ _ _ _ _ _ b18, callA_func _ _ _ _ _ _ b20, callA_func _ _ _ _ _ _ b29, env_call_ov ovA18, env_call_ov ovA20, env_call_ov ovA29, g29_nil, g1_int (f := lvl), g1_int (f := spn)]
          have hh : here 9 B = B - 72 := by
            unfold here
            rw [show fst ((9 : Nat) : Int) = 72 from rfl, show spn (lvl ((9 : Nat) : Int)) = 4096 from rfl, if_neg d]
          have hc : con 9 B = (B - 72 + 4095) / 4096 + (B - 72 + 63) / 64 := by
            unfold con
            rw [if_neg (by decide), if_neg (by decide), if_pos rfl]
            rw [hh]
          refine ⟨_, rfl, hfin _ ⟨⟨hn, by simp [h0], ?_, by simp [h2], by simp only [AH.get_set, if_true]; subst hB; rfl⟩, by rw [hc]; omega, by rw [hc]; omega⟩⟩
          simp [h1]
          try exact congrArg (fun z => cell1 (.int .i64 z) 3) (by rw [hc]; omega)
      · rw [show fst ((10 : Nat) : Int) = 4168 from rfl] at *
        by_cases d : 262144 < B - 4168
        · simp (maxSteps := 1000000) (disch := omega) only [pad, evalC_seq, evalC_region, evalC_cond, evalC_ret, evalC_skip, evalC_label, evalC_exit, evalC_scope, evalC_block, evalC_loop, evalC_draw, runOps_cons, runOps_nil, stepOp_eq, stepVal_plain, stepVal_guard, yieldedA_lit, opA_assign, opA_move, opA_binOp, opA_pick, opA_call, opA_alloc, opA_box, opA_load, opA_store, opA_extract, opA_buildSlice, opA_indexAddr, opA_fieldAddr, aeval_int, aeval_bool, aeval_tmp, aeval_nilSlice, aeval_nilPointer, aeval_nilFunc, aeval_func, List.getD_cons_zero, List.getD_cons_succ, arK_val, arK_skip, arK_enter, arK_round, valK_some, valK_none, List.set_cons_zero, List.set_cons_succ, opsK_some, Option.map_some, Option.map_none, seqK_normal, seqK_ret, seqK_exit, blockK_normal, blockK_ret, blockK_exit, loopK_normal, loopK_ret, loopK_exit, List.getElem?_cons_zero, List.getElem?_cons_succ, Option.bind_some, reduceCtorEq, if_false, if_true, pickK_bool, condK_true, condK_false, endK_ret, endK_normal, resultsA_tmp, resultsA_nil, resVal, Option.some.injEq, Bool.true_eq_false, Bool.false_eq_true, List.map_cons, List.map_nil, binA_add, binA_sub, binA_mul, binA_lss, binA_leq, binA_gtr, binA_geq, binA_eql, binA_neq, callA_builtin, max_int, min_int, loadK_pointer, storeK_pointer, IntWalk.i64_in, IntWalk.i64_quo, binA_quo, binA_rem, Int.tmod_eq_emod_of_nonneg, loadA_rowK, storeA_int hsz3, putK_cell, rowK_cell ag3, rowK_row ag3, boxA_cell, al3, get_empty, next_empty, AH.get_set, AH.get_push, AH.next_set, AH.next_push, resultsA_cell, resK_pointer, roundA_G, roundG_loop, asgK_normal, bodyK_loop, ended_some, endRK_normal, endRK_ret, endRK_exit, rangeK_E, rangeE_ready, rangeE_done, rangeH, setAll, shut_nil, shut_cons, shutK_defs, endK_shut, outK_some, AH.get_kill, AH.next_kill, evalRegion_G, drawG_ok, drawK_all, trace_cons, trace_nil, traceK_some, List.all_cons, List.all_nil, sameRead_K, sameK_plain, sameK_guard, wantK_some, veqK_val, veq_int, veq_bool, veq_pointer, veq_slice, veq_nilSlice, Bool.and_true, Bool.and_self, List.getLast?_cons_cons, List.getLast?_singleton, len_slice one22, indexAddrA_one one22, ixK_slice, append_one one22, apK_nil, apK_some, apB_row, oneOf_row, bs22, Nat.reduceLeDiff, List.take_succ_cons, List.take_zero, List.take_nil, List.length_cons, List.length_nil, List.cons_append, List.nil_append, Int.reduceLE, Int.reduceLT, Int.reduceEq, Int.reduceNeg, Int.reduceAdd, Int.reduceSub, Int.reduceMul, Int.reduceDiv, Nat.reduceAdd, Nat.reduceEqDiff, decide_true, decide_false, h0, h1, h2, h3, hn, hB, c1, n10, a10, w0, w1, w2, w3, d, T26, r26, ranges, Try.f26, Option.getD_some, evalC_draw, st7, st11, pr7, pr11, yieldedA_lit, callA_value, env_code, callA_func _ _ _ _ _ _ b18, callA_func _ _ _ _ _ _ b20, callA_func _ _ _ _ _ _ b29, env_call_ov ovA18, env_call_ov ovA20, env_call_ov ovA29, g29_nil, g1_int (f := lvl), g1_int (f := spn)]
          have hh : here 10 B = 262144 := by
            unfold here
            rw [show fst ((10 : Nat) : Int) = 4168 from rfl, show spn (lvl ((10 : Nat) : Int)) = 262144 from rfl, if_pos d]
          have hc : con 10 B = (262144 + 262143) / 262144 + (262144 + 4095) / 4096 + (262144 + 63) / 64 := by
            unfold con
            rw [if_neg (by decide), if_neg (by decide), if_neg (by decide)]
            rw [hh]
          refine ⟨_, rfl, hfin _ ⟨⟨hn, by simp [h0], ?_, by simp [h2], by simp only [AH.get_set, if_true]; subst hB; rfl⟩, by rw [hc]; omega, by rw [hc]; omega⟩⟩
          simp [h1]
          try exact congrArg (fun z => cell1 (.int .i64 z) 3) (by rw [hc]; omega)
        · simp (maxSteps := 1000000) (disch := omega) only [pad, evalC_seq, evalC_region, evalC_cond, evalC_ret, evalC_skip, evalC_label, evalC_exit, evalC_scope, evalC_block, evalC_loop, evalC_draw, runOps_cons, runOps_nil, stepOp_eq, stepVal_plain, stepVal_guard, yieldedA_lit, opA_assign, opA_move, opA_binOp, opA_pick, opA_call, opA_alloc, opA_box, opA_load, opA_store, opA_extract, opA_buildSlice, opA_indexAddr, opA_fieldAddr, aeval_int, aeval_bool, aeval_tmp, aeval_nilSlice, aeval_nilPointer, aeval_nilFunc, aeval_func, List.getD_cons_zero, List.getD_cons_succ, arK_val, arK_skip, arK_enter, arK_round, valK_some, valK_none, List.set_cons_zero, List.set_cons_succ, opsK_some, Option.map_some, Option.map_none, seqK_normal, seqK_ret, seqK_exit, blockK_normal, blockK_ret, blockK_exit, loopK_normal, loopK_ret, loopK_exit, List.getElem?_cons_zero, List.getElem?_cons_succ, Option.bind_some, reduceCtorEq, if_false, if_true, pickK_bool, condK_true, condK_false, endK_ret, endK_normal, resultsA_tmp, resultsA_nil, resVal, Option.some.injEq, Bool.true_eq_false, Bool.false_eq_true, List.map_cons, List.map_nil, binA_add, binA_sub, binA_mul, binA_lss, binA_leq, binA_gtr, binA_geq, binA_eql, binA_neq, callA_builtin, max_int, min_int, loadK_pointer, storeK_pointer, IntWalk.i64_in, IntWalk.i64_quo, binA_quo, binA_rem, Int.tmod_eq_emod_of_nonneg, loadA_rowK, storeA_int hsz3, putK_cell, rowK_cell ag3, rowK_row ag3, boxA_cell, al3, get_empty, next_empty, AH.get_set, AH.get_push, AH.next_set, AH.next_push, resultsA_cell, resK_pointer, roundA_G, roundG_loop, asgK_normal, bodyK_loop, ended_some, endRK_normal, endRK_ret, endRK_exit, rangeK_E, rangeE_ready, rangeE_done, rangeH, setAll, shut_nil, shut_cons, shutK_defs, endK_shut, outK_some, AH.get_kill, AH.next_kill, evalRegion_G, drawG_ok, drawK_all, trace_cons, trace_nil, traceK_some, List.all_cons, List.all_nil, sameRead_K, sameK_plain, sameK_guard, wantK_some, veqK_val, veq_int, veq_bool, veq_pointer, veq_slice, veq_nilSlice, Bool.and_true, Bool.and_self, List.getLast?_cons_cons, List.getLast?_singleton, len_slice one22, indexAddrA_one one22, ixK_slice, append_one one22, apK_nil, apK_some, apB_row, oneOf_row, bs22, Nat.reduceLeDiff, List.take_succ_cons, List.take_zero, List.take_nil, List.length_cons, List.length_nil, List.cons_append, List.nil_append, Int.reduceLE, Int.reduceLT, Int.reduceEq, Int.reduceNeg, Int.reduceAdd, Int.reduceSub, Int.reduceMul, Int.reduceDiv, Nat.reduceAdd, Nat.reduceEqDiff, decide_true, decide_false, h0, h1, h2, h3, hn, hB, c1, n10, a10, w0, w1, w2, w3, d, T26, r26, ranges, Try.f26, Option.getD_some, evalC_draw, st7, st11, pr7, pr11, yieldedA_lit, callA_value, env_code, callA_func _ _ _ _ _ _ b18, callA_func _ _ _ _ _ _ b20, callA_func _ _ _ _ _ _ b29, env_call_ov ovA18, env_call_ov ovA20, env_call_ov ovA29, g29_nil, g1_int (f := lvl), g1_int (f := spn)]
          have hh : here 10 B = B - 4168 := by
            unfold here
            rw [show fst ((10 : Nat) : Int) = 4168 from rfl, show spn (lvl ((10 : Nat) : Int)) = 262144 from rfl, if_neg d]
          have hc : con 10 B = (B - 4168 + 262143) / 262144 + (B - 4168 + 4095) / 4096 + (B - 4168 + 63) / 64 := by
            unfold con
            rw [if_neg (by decide), if_neg (by decide), if_neg (by decide)]
            rw [hh]
          refine ⟨_, rfl, hfin _ ⟨⟨hn, by simp [h0], ?_, by simp [h2], by simp only [AH.get_set, if_true]; subst hB; rfl⟩, by rw [hc]; omega, by rw [hc]; omega⟩⟩
          simp [h1]
          try exact congrArg (fun z => cell1 (.int .i64 z) 3) (by rw [hc]; omega)
end Go.Proofs.Paths
