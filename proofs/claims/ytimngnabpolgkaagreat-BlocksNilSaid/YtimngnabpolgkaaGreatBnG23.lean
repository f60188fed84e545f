/-
  The document's Make (an empty file system, block by block): the loop over a block's bits, of a block that is no bitmap.
-/
import Derived.Test.YtimngnabpolgkaaGreatBnG22
namespace Go.Proofs.Leaf
set_option linter.unusedSimpArgs false
set_option linter.unusedVariables false
open Go.AE
set_option maxRecDepth 100000
set_option maxHeartbeats 4000000

noncomputable def mkL : Code := (blockAt 4 (Tryz.f179.body.getD .skip)).getD .skip
def loopBody : Code → Code
  | .loop c => c
  | c => c
noncomputable def mkB : Code := loopBody mkL

/-- The slots that each round sets, of a block that is no bitmap. -/
def upsO (v4 v8 pv qv : Value) (k : Int) (i : Int) : List (Nat × Value) :=
  [(10, .int .i64 (i + 1)), (51, .int .i64 i), (52, .int .i64 (i + 1)), (53, v4), (54, v8), (55, pv), (56, qv), (57, .int .u8 k), (58, .bool false), (74, v4), (75, v8), (76, pv), (77, qv), (78, .int .u8 k), (79, .bool false)]

theorem mk_other (E : Env) (i : Nat) (hi : i < 2048) (h : AH) (T : List Value) (v4 v8 pv : Value) (qa : Addr) (k : Int) (hT : T.length = 159) (t4 : T.getD 4 undef = v4) (t8 : T.getD 8 undef = v8) (t10 : T.getD 10 undef = .int .i64 i)
    (p1 : indexAddrA Tryz.prog 323 v4 v8 = some pv) (p2 : fieldAddrA Tryz.prog 327 pv 0 = some (.pointer (some qa))) (p3 : loadA Tryz.prog 5 qa h = some (.int .u8 k)) (k4 : k ≠ 4) (k5 : k ≠ 5) :
    ∃ T', evalC Tryz.prog E none mkB ⟨⟨T⟩, [], h⟩ = some (.normal, ⟨⟨T'⟩, [], h⟩) ∧ T'.length = 159 ∧
      Agree [10, 49, 50, 51, 52, 53, 54, 55, 56, 57, 58, 74, 75, 76, 77, 78, 79] T' T ∧ ∀ p ∈ upsO v4 v8 pv (.pointer (some qa)) k i, T'.getD p.1 undef = p.2 := by
  have c1 : decide ((i : Int) < 2048) = true := by simp; omega
  have c4 : decide (k = 4) = false := by simpa using k4
  have c5 : decide (k = 5) = false := by simpa using k5
  simp only [mkB, mkL, loopBody, blockAt, Tryz.f179, Option.getD_some, Nat.reduceEqDiff, if_true, if_false]
  simp (maxSteps := 1000000) (disch := omega) only [opA_convert, stepVal_guardT, yD_some, yK_bool, yK_undef, getD_set', List.length_set, Nat.reduceLT, evalC_drawT, drawL_eq, trace_cons, trace_nil, traceK_some, pad, evalC_seq, evalC_region, evalC_cond, evalC_ret, evalC_skip, evalC_label, evalC_exit, evalC_scope, evalC_block, evalC_draw, runOps_cons, runOps_nil, stepOp_eq, stepVal_plain, yieldedA_T, opA_assign, opA_move, opA_binOp, opA_pick, opA_call, opA_alloc, opA_box, opA_load, opA_store, opA_extract, opA_buildSlice, opA_indexAddr, opA_fieldAddr, aeval_int, aeval_bool, aeval_tmp, aeval_nilSlice, aeval_nilPointer, aeval_nilFunc, aeval_func, arK_val, arK_skip, arK_enter, arK_round, valK_some, valK_none, opsK_some, Option.map_some, Option.map_none, seqK_normal, seqK_ret, seqK_exit, blockK_normal, blockK_ret, blockK_exit, loopK_normal, loopK_ret, loopK_exit, List.getElem?_cons_zero, List.getElem?_cons_succ, Option.bind_some, reduceCtorEq, if_false, if_true, pickK_bool, condK_true, condK_false, endK_ret, endK_normal, resultsA_tmp, resultsA_nil, resVal, Option.some.injEq, Bool.true_eq_false, Bool.false_eq_true, List.map_cons, List.map_nil, binA_add, binA_sub, binA_mul, binA_lss, binA_leq, binA_gtr, binA_geq, binA_eql, binA_neq, callA_builtin, max_int, min_int, loadK_pointer, storeK_pointer, IntWalk.i64_in, IntWalk.i64_quo, binA_quo, binA_rem, Int.tmod_eq_emod_of_nonneg, loadA_rowK, get_empty, next_empty, AH.get_set, AH.get_push, AH.next_set, AH.next_push, resultsA_cell, resK_pointer, roundA_G, roundG_loop, asgK_normal, bodyK_loop, ended_some, endRK_normal, endRK_ret, endRK_exit, rangeK_E, rangeE_ready, rangeE_done, rangeH, setAll, shut_nil, shut_cons, shutK_defs, endK_shut, outK_some, AH.get_kill, AH.next_kill, evalRegion_G, drawG_ok, drawK_all, trace_cons, trace_nil, traceK_some, List.all_cons, List.all_nil, sameRead_K, sameK_plain, sameK_guard, wantK_some, veqK_val, veq_int, veq_bool, veq_pointer, veq_slice, veq_nilSlice, Bool.and_true, Bool.and_self, List.getLast?_cons_cons, List.getLast?_singleton, ixK_slice, oneOf_row, Nat.reduceLeDiff, and_self, and_true, true_and, Int.reduceToNat, Int.reduceNe, List.take_succ_cons, List.take_zero, List.take_nil, List.length_cons, List.length_nil, List.cons_append, List.nil_append, Int.reduceLE, Int.reduceLT, Int.reduceEq, Int.reduceNeg, Int.reduceAdd, Int.reduceSub, Int.reduceMul, Int.reduceDiv, Nat.reduceAdd, Nat.reduceEqDiff, decide_true, decide_false, hT, t4, t8, t10, c1, p1, p2, p3, c4, c5]
  refine ⟨_, rfl, by simp only [getD_set', List.length_set, Nat.reduceEqDiff, Nat.reduceLT, if_true, if_false, hT], ?_, ?_⟩
  · ((repeat refine Agree.set _ (by rfl) ?_); exact Agree.refl _ _)
  · intro p hp
    simp only [upsO, List.mem_cons, List.not_mem_nil, or_false] at hp
    rcases hp with rfl | rfl | rfl | rfl | rfl | rfl | rfl | rfl | rfl | rfl | rfl | rfl | rfl | rfl | rfl <;> simp only [getD_set', List.length_set, Nat.reduceEqDiff, Nat.reduceLT, if_true, if_false, hT]
end Go.Proofs.Leaf
