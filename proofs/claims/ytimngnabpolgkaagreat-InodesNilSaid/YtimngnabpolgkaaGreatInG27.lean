/-
  The document's sum (quernref02): told.
-/
import Derived.Test.YtimngnabpolgkaaGreatInG26
namespace Go.Proofs.Leaf
set_option linter.unusedSimpArgs false
set_option linter.unusedVariables false
open Go.AE
set_option maxRecDepth 100000
set_option maxHeartbeats 4000000

theorem binA_remN {P : Program} {t : TypeId} {ox oy : Operand} {k : IntKind} {m n : Nat} (hn : n ≠ 0) : binA P .rem t ox oy (.int k (m : Int)) (.int k (n : Int)) = some (.int k ((m % n : Nat) : Int)) := by
  rw [← kbin_rem, kint2_int]
  unfold fRem
  rw [PT.brec, if_neg (by intro e; exact hn (Nat.eq_of_beq_eq_true e)), forceN_eq]; rfl
theorem binA_quoN {P : Program} {t : TypeId} {ox oy : Operand} {k : IntKind} {m n : Nat} (hn : n ≠ 0) (hm : m < lim k) : binA P .quo t ox oy (.int k (m : Int)) (.int k (n : Int)) = some (.int k ((m / n : Nat) : Int)) := by
  rw [← kbin_quo, kint2_int]
  unfold fQuo
  rw [PT.brec, if_neg (by intro e; exact hn (Nat.eq_of_beq_eq_true e)), forceN_eq]
  exact fit_some (Nat.lt_of_le_of_lt (Nat.div_le_self _ _) hm)

noncomputable def sft (v : Nat) : Nat := Bool.rec (motive := fun _ => Nat) (Nat.div v 2) (Nat.xor (Nat.div v 2) 3988292384) (Nat.beq (Nat.mod v 2) 1)
theorem sft_eq (v : Nat) : sft v = if v % 2 = 1 then Nat.xor (v / 2) 3988292384 else v / 2 := by
  unfold sft
  rw [PT.brec]
  have : (Nat.beq (Nat.mod v 2) 1 = true) = (v % 2 = 1) := Nat.beq_eq
  simp only [this]; rfl
theorem sft_lt {v : Nat} (h : v < 2 ^ 32) : sft v < 2 ^ 32 := by
  rw [sft_eq]
  split
  · exact Nat.xor_lt_two_pow (by omega) (by decide)
  · omega

theorem e353 {E : Env} (v : Nat) (hv : v < 2 ^ 32) (h : AH) : callFn Tryz.prog E 353 ⟨[.int .u32 (v : Int)]⟩ h = some (.int .u32 ((sft v : Nat) : Int), h) := by
  have q := fun ox oy => binA_quoN (P := Tryz.prog) (t := 22) (ox := ox) (oy := oy) (k := .u32) (m := v) (n := 2) (by decide) hv
  have m := fun ox oy => binA_remN (P := Tryz.prog) (t := 22) (ox := ox) (oy := oy) (k := .u32) (m := v) (n := 2) (by decide)
  change ∀ ox oy, binA Tryz.prog .quo 22 ox oy (.int .u32 (v : Int)) (.int .u32 2) = _ at q
  change ∀ ox oy, binA Tryz.prog .rem 22 ox oy (.int .u32 (v : Int)) (.int .u32 2) = _ at m
  have x := fun ox oy => xor_i (m := v / 2) (n := 3988292384) (by omega) (by decide) Tryz.prog 22 ox oy
  change ∀ ox oy, binA Tryz.prog .xor 22 ox oy (.int .u32 ((v / 2 : Nat) : Int)) (.int .u32 3988292384) = _ at x
  rw [sft_eq]
  refine callFn_T Tryz.func353 rfl _ _ (by show 1 ≤ 11; decide) fun T hT t => ?_
  have t0 : T.getD 0 undef = .int .u32 (v : Int) := t 0
  have hT' : T.length = 11 := hT
  by_cases hc : v % 2 = 1
  · have c1 : decide (((v % 2 : Nat) : Int) = 1) = true := decide_eq_true (by omega)
    rw [if_pos hc]
    simp only [Tryz.f353]
    simp (maxSteps := 1000000) (disch := omega) only [opA_convert, stepVal_guardT, yD_some, yK_bool, yK_undef, getD_set', List.length_set, Nat.reduceLT, evalC_drawT, drawL_eq, trace_cons, trace_nil, traceK_some, pad, evalC_seq, evalC_region, evalC_cond, evalC_ret, evalC_skip, evalC_label, evalC_exit, evalC_scope, evalC_block, evalC_draw, runOps_cons, runOps_nil, stepOp_eq, stepVal_plain, yieldedA_T, opA_assign, opA_move, opA_binOp, opA_pick, opA_call, opA_alloc, opA_box, opA_load, opA_store, opA_extract, opA_buildSlice, opA_indexAddr, opA_fieldAddr, aeval_int, aeval_bool, aeval_tmp, aeval_nilSlice, aeval_nilPointer, aeval_nilFunc, aeval_func, arK_val, arK_skip, arK_enter, arK_round, valK_some, valK_none, opsK_some, Option.map_some, Option.map_none, seqK_normal, seqK_ret, seqK_exit, blockK_normal, blockK_ret, blockK_exit, loopK_normal, loopK_ret, loopK_exit, List.getElem?_cons_zero, List.getElem?_cons_succ, Option.bind_some, reduceCtorEq, if_false, if_true, pickK_bool, condK_true, condK_false, endK_ret, endK_normal, resultsA_tmp, resultsA_nil, resVal, Option.some.injEq, Bool.true_eq_false, Bool.false_eq_true, List.map_cons, List.map_nil, binA_add, binA_sub, binA_mul, binA_lss, binA_leq, binA_gtr, binA_geq, binA_eql, binA_neq, callA_builtin, max_int, min_int, loadK_pointer, storeK_pointer, IntWalk.i64_in, IntWalk.i64_quo, binA_quo, binA_rem, Int.tmod_eq_emod_of_nonneg, loadA_rowK, get_empty, next_empty, AH.get_set, AH.get_push, AH.next_set, AH.next_push, resultsA_cell, resK_pointer, roundA_G, roundG_loop, asgK_normal, bodyK_loop, ended_some, endRK_normal, endRK_ret, endRK_exit, rangeK_E, rangeE_ready, rangeE_done, rangeH, setAll, shut_nil, shut_cons, shutK_defs, endK_shut, outK_some, AH.get_kill, AH.next_kill, evalRegion_G, drawG_ok, drawK_all, trace_cons, trace_nil, traceK_some, List.all_cons, List.all_nil, sameRead_K, sameK_plain, sameK_guard, wantK_some, veqK_val, veq_int, veq_bool, veq_pointer, veq_slice, veq_nilSlice, Bool.and_true, Bool.and_self, List.getLast?_cons_cons, List.getLast?_singleton, ixK_slice, oneOf_row, Nat.reduceLeDiff, and_self, and_true, true_and, Int.reduceToNat, Int.reduceNe, List.take_succ_cons, List.take_zero, List.take_nil, List.length_cons, List.length_nil, List.cons_append, List.nil_append, Int.reduceLE, Int.reduceLT, Int.reduceEq, Int.reduceNeg, Int.reduceAdd, Int.reduceSub, Int.reduceMul, Int.reduceDiv, Nat.reduceAdd, Nat.reduceEqDiff, decide_true, decide_false, hT', t0, q, m, x, c1]
  · have c1 : decide (((v % 2 : Nat) : Int) = 1) = false := decide_eq_false (by omega)
    rw [if_neg hc]
    simp only [Tryz.f353]
    simp (maxSteps := 1000000) (disch := omega) only [opA_convert, stepVal_guardT, yD_some, yK_bool, yK_undef, getD_set', List.length_set, Nat.reduceLT, evalC_drawT, drawL_eq, trace_cons, trace_nil, traceK_some, pad, evalC_seq, evalC_region, evalC_cond, evalC_ret, evalC_skip, evalC_label, evalC_exit, evalC_scope, evalC_block, evalC_draw, runOps_cons, runOps_nil, stepOp_eq, stepVal_plain, yieldedA_T, opA_assign, opA_move, opA_binOp, opA_pick, opA_call, opA_alloc, opA_box, opA_load, opA_store, opA_extract, opA_buildSlice, opA_indexAddr, opA_fieldAddr, aeval_int, aeval_bool, aeval_tmp, aeval_nilSlice, aeval_nilPointer, aeval_nilFunc, aeval_func, arK_val, arK_skip, arK_enter, arK_round, valK_some, valK_none, opsK_some, Option.map_some, Option.map_none, seqK_normal, seqK_ret, seqK_exit, blockK_normal, blockK_ret, blockK_exit, loopK_normal, loopK_ret, loopK_exit, List.getElem?_cons_zero, List.getElem?_cons_succ, Option.bind_some, reduceCtorEq, if_false, if_true, pickK_bool, condK_true, condK_false, endK_ret, endK_normal, resultsA_tmp, resultsA_nil, resVal, Option.some.injEq, Bool.true_eq_false, Bool.false_eq_true, List.map_cons, List.map_nil, binA_add, binA_sub, binA_mul, binA_lss, binA_leq, binA_gtr, binA_geq, binA_eql, binA_neq, callA_builtin, max_int, min_int, loadK_pointer, storeK_pointer, IntWalk.i64_in, IntWalk.i64_quo, binA_quo, binA_rem, Int.tmod_eq_emod_of_nonneg, loadA_rowK, get_empty, next_empty, AH.get_set, AH.get_push, AH.next_set, AH.next_push, resultsA_cell, resK_pointer, roundA_G, roundG_loop, asgK_normal, bodyK_loop, ended_some, endRK_normal, endRK_ret, endRK_exit, rangeK_E, rangeE_ready, rangeE_done, rangeH, setAll, shut_nil, shut_cons, shutK_defs, endK_shut, outK_some, AH.get_kill, AH.next_kill, evalRegion_G, drawG_ok, drawK_all, trace_cons, trace_nil, traceK_some, List.all_cons, List.all_nil, sameRead_K, sameK_plain, sameK_guard, wantK_some, veqK_val, veq_int, veq_bool, veq_pointer, veq_slice, veq_nilSlice, Bool.and_true, Bool.and_self, List.getLast?_cons_cons, List.getLast?_singleton, ixK_slice, oneOf_row, Nat.reduceLeDiff, and_self, and_true, true_and, Int.reduceToNat, Int.reduceNe, List.take_succ_cons, List.take_zero, List.take_nil, List.length_cons, List.length_nil, List.cons_append, List.nil_append, Int.reduceLE, Int.reduceLT, Int.reduceEq, Int.reduceNeg, Int.reduceAdd, Int.reduceSub, Int.reduceMul, Int.reduceDiv, Nat.reduceAdd, Nat.reduceEqDiff, decide_true, decide_false, hT', t0, q, m, x, c1]

theorem b353 : ((Tryz.prog.funcs[353]?).bind (·.body)).isSome = true := by kernel_rfl
noncomputable def refO : Code := (blockAt 0 (Tryz.f333.body.getD .skip)).getD .skip
noncomputable def refI : Code := (blockAt 2 (Tryz.f333.body.getD .skip)).getD .skip
noncomputable def sfts (v : Nat) : Nat → Nat
  | 0 => v
  | k + 1 => sfts (sft v) k
theorem sfts_lt : ∀ (k v : Nat), v < 2 ^ 32 → sfts v k < 2 ^ 32
  | 0, _, h => h
  | k + 1, v, h => sfts_lt k (sft v) (sft_lt h)

theorem ref_in (h : AH) : ∀ (r k n v : Nat), k + r = 8 → v < 2 ^ 32 → ∀ (T : List Value), T.length = 27 → T.getD 3 undef = .int .u32 (v : Int) → T.getD 5 undef = .int .i64 k →
    ∃ T', evalC Tryz.prog (env Tryz.prog (fun _ => none) (r + n + 1)) none refI ⟨⟨T⟩, [], h⟩ = some (.exit 2, ⟨⟨T'⟩, [], h⟩) ∧ T'.length = 27 ∧ T'.getD 3 undef = .int .u32 ((sfts v r : Nat) : Int) ∧ T'.getD 0 undef = T.getD 0 undef ∧ T'.getD 4 undef = T.getD 4 undef
  | 0, k, n, v, hk, hv, T, hT, t3, t5 => by
    obtain rfl : k = 8 := by omega
    have c1 : decide (((8 : Nat) : Int) < 8) = false := by decide
    simp only [refI, blockAt, Tryz.f333, Option.getD_some, Nat.reduceEqDiff, if_true, if_false]
    rw [evalC_loop]
    simp (maxSteps := 1000000) (disch := omega) only [opA_convert, stepVal_guardT, yD_some, yK_bool, yK_undef, getD_set', List.length_set, Nat.reduceLT, evalC_drawT, drawL_eq, trace_cons, trace_nil, traceK_some, pad, evalC_seq, evalC_region, evalC_cond, evalC_ret, evalC_skip, evalC_label, evalC_exit, evalC_scope, evalC_block, evalC_draw, runOps_cons, runOps_nil, stepOp_eq, stepVal_plain, yieldedA_T, opA_assign, opA_move, opA_binOp, opA_pick, opA_call, opA_alloc, opA_box, opA_load, opA_store, opA_extract, opA_buildSlice, opA_indexAddr, opA_fieldAddr, aeval_int, aeval_bool, aeval_tmp, aeval_nilSlice, aeval_nilPointer, aeval_nilFunc, aeval_func, arK_val, arK_skip, arK_enter, arK_round, valK_some, valK_none, opsK_some, Option.map_some, Option.map_none, seqK_normal, seqK_ret, seqK_exit, blockK_normal, blockK_ret, blockK_exit, loopK_normal, loopK_ret, loopK_exit, List.getElem?_cons_zero, List.getElem?_cons_succ, Option.bind_some, reduceCtorEq, if_false, if_true, pickK_bool, condK_true, condK_false, endK_ret, endK_normal, resultsA_tmp, resultsA_nil, resVal, Option.some.injEq, Bool.true_eq_false, Bool.false_eq_true, List.map_cons, List.map_nil, binA_add, binA_sub, binA_mul, binA_lss, binA_leq, binA_gtr, binA_geq, binA_eql, binA_neq, callA_builtin, max_int, min_int, loadK_pointer, storeK_pointer, IntWalk.i64_in, IntWalk.i64_quo, binA_quo, binA_rem, Int.tmod_eq_emod_of_nonneg, loadA_rowK, get_empty, next_empty, AH.get_set, AH.get_push, AH.next_set, AH.next_push, resultsA_cell, resK_pointer, roundA_G, roundG_loop, asgK_normal, bodyK_loop, ended_some, endRK_normal, endRK_ret, endRK_exit, rangeK_E, rangeE_ready, rangeE_done, rangeH, setAll, shut_nil, shut_cons, shutK_defs, endK_shut, outK_some, AH.get_kill, AH.next_kill, evalRegion_G, drawG_ok, drawK_all, trace_cons, trace_nil, traceK_some, List.all_cons, List.all_nil, sameRead_K, sameK_plain, sameK_guard, wantK_some, veqK_val, veq_int, veq_bool, veq_pointer, veq_slice, veq_nilSlice, Bool.and_true, Bool.and_self, List.getLast?_cons_cons, List.getLast?_singleton, ixK_slice, oneOf_row, Nat.reduceLeDiff, and_self, and_true, true_and, Int.reduceToNat, Int.reduceNe, List.take_succ_cons, List.take_zero, List.take_nil, List.length_cons, List.length_nil, List.cons_append, List.nil_append, Int.reduceLE, Int.reduceLT, Int.reduceEq, Int.reduceNeg, Int.reduceAdd, Int.reduceSub, Int.reduceMul, Int.reduceDiv, Nat.reduceAdd, Nat.reduceEqDiff, decide_true, decide_false, hT, t5, c1]
    exact ⟨_, rfl, by simp only [getD_set', List.length_set, Nat.reduceEqDiff, Nat.reduceLT, if_true, if_false, hT], by simp only [getD_set', List.length_set, Nat.reduceEqDiff, Nat.reduceLT, if_true, if_false, hT, t3]; rfl, by simp only [getD_set', List.length_set, Nat.reduceEqDiff, Nat.reduceLT, if_true, if_false, hT], by simp only [getD_set', List.length_set, Nat.reduceEqDiff, Nat.reduceLT, if_true, if_false, hT]⟩
  | r + 1, k, n, v, hk, hv, T, hT, t3, t5 => by
    have c1 : decide ((k : Int) < 8) = true := decide_eq_true (by omega)
    have ih := ref_in h r (k + 1) n (sft v) (by omega) (sft_lt hv)
    have hc : ∀ n, (env Tryz.prog (fun _ => none) (n + 1)).call 353 ⟨[.int .u32 (v : Int)]⟩ h = some (.int .u32 ((sft v : Nat) : Int), h) := fun n => by rw [env_call (ov := fun _ => none) rfl]; exact e353 v hv h
    rw [show r + 1 + n + 1 = r + n + 1 + 1 by omega]
    simp only [refI, blockAt, Tryz.f333, Option.getD_some, Nat.reduceEqDiff, if_true, if_false] at ih ⊢
    rw [evalC_loop]
    simp (maxSteps := 1000000) (disch := omega) only [opA_convert, stepVal_guardT, yD_some, yK_bool, yK_undef, getD_set', List.length_set, Nat.reduceLT, evalC_drawT, drawL_eq, trace_cons, trace_nil, traceK_some, pad, evalC_seq, evalC_region, evalC_cond, evalC_ret, evalC_skip, evalC_label, evalC_exit, evalC_scope, evalC_block, evalC_draw, runOps_cons, runOps_nil, stepOp_eq, stepVal_plain, yieldedA_T, opA_assign, opA_move, opA_binOp, opA_pick, opA_call, opA_alloc, opA_box, opA_load, opA_store, opA_extract, opA_buildSlice, opA_indexAddr, opA_fieldAddr, aeval_int, aeval_bool, aeval_tmp, aeval_nilSlice, aeval_nilPointer, aeval_nilFunc, aeval_func, arK_val, arK_skip, arK_enter, arK_round, valK_some, valK_none, opsK_some, Option.map_some, Option.map_none, seqK_normal, seqK_ret, seqK_exit, blockK_normal, blockK_ret, blockK_exit, loopK_normal, loopK_ret, loopK_exit, List.getElem?_cons_zero, List.getElem?_cons_succ, Option.bind_some, reduceCtorEq, if_false, if_true, pickK_bool, condK_true, condK_false, endK_ret, endK_normal, resultsA_tmp, resultsA_nil, resVal, Option.some.injEq, Bool.true_eq_false, Bool.false_eq_true, List.map_cons, List.map_nil, binA_add, binA_sub, binA_mul, binA_lss, binA_leq, binA_gtr, binA_geq, binA_eql, binA_neq, callA_builtin, max_int, min_int, loadK_pointer, storeK_pointer, IntWalk.i64_in, IntWalk.i64_quo, binA_quo, binA_rem, Int.tmod_eq_emod_of_nonneg, loadA_rowK, get_empty, next_empty, AH.get_set, AH.get_push, AH.next_set, AH.next_push, resultsA_cell, resK_pointer, roundA_G, roundG_loop, asgK_normal, bodyK_loop, ended_some, endRK_normal, endRK_ret, endRK_exit, rangeK_E, rangeE_ready, rangeE_done, rangeH, setAll, shut_nil, shut_cons, shutK_defs, endK_shut, outK_some, AH.get_kill, AH.next_kill, evalRegion_G, drawG_ok, drawK_all, trace_cons, trace_nil, traceK_some, List.all_cons, List.all_nil, sameRead_K, sameK_plain, sameK_guard, wantK_some, veqK_val, veq_int, veq_bool, veq_pointer, veq_slice, veq_nilSlice, Bool.and_true, Bool.and_self, List.getLast?_cons_cons, List.getLast?_singleton, ixK_slice, oneOf_row, Nat.reduceLeDiff, and_self, and_true, true_and, Int.reduceToNat, Int.reduceNe, List.take_succ_cons, List.take_zero, List.take_nil, List.length_cons, List.length_nil, List.cons_append, List.nil_append, Int.reduceLE, Int.reduceLT, Int.reduceEq, Int.reduceNeg, Int.reduceAdd, Int.reduceSub, Int.reduceMul, Int.reduceDiv, Nat.reduceAdd, Nat.reduceEqDiff, decide_true, decide_false, hT, t3, t5, c1, callA_func _ _ _ _ _ _ b353, hc, env_code]
    generalize hT0 : List.set _ 5 _ = T0
    obtain ⟨T', g1, g2, g3, g4, g5⟩ := ih T0 (by rw [← hT0]; simp only [getD_set', List.length_set, Nat.reduceEqDiff, Nat.reduceLT, if_true, if_false, hT]) (by rw [← hT0]; simp only [getD_set', List.length_set, Nat.reduceEqDiff, Nat.reduceLT, if_true, if_false, hT]) (by rw [← hT0]; simp only [getD_set', List.length_set, Nat.reduceEqDiff, Nat.reduceLT, if_true, if_false, hT]; rfl)
    refine ⟨T', g1, g2, g3, g4.trans ?_, g5.trans ?_⟩
    · rw [← hT0]; simp only [getD_set', List.length_set, Nat.reduceEqDiff, Nat.reduceLT, if_true, if_false, hT]
    · rw [← hT0]; simp only [getD_set', List.length_set, Nat.reduceEqDiff, Nat.reduceLT, if_true, if_false, hT]

noncomputable def rbyt (v x : Nat) : Nat := sfts (Nat.xor v x) 8
theorem rbyt_lt {v x : Nat} (h : v < 2 ^ 32) (hx : x < 256) : rbyt v x < 2 ^ 32 := sfts_lt _ _ (Nat.xor_lt_two_pow h (by omega))
theorem rfold_lt : ∀ (xs : List Nat) (v : Nat), v < 2 ^ 32 → (∀ x ∈ xs, x < 256) → xs.foldl rbyt v < 2 ^ 32
  | [], v, h, _ => h
  | x :: r, v, h, hx => by
    rw [List.foldl_cons]
    exact rfold_lt r _ (rbyt_lt h (hx x (by simp))) fun y hy => hx y (by simp [hy])

theorem ref_out (β o cp : Nat) (xs : List Nat) (h : AH) (hx : ∀ x ∈ xs, x < 256) (hr : ∀ (j x : Nat), xs[j]? = some x → rowK Tryz.prog 5 (o + j) (h.get β) = some (.int .u8 (x : Int))) (hl : xs.length ≤ 1048576) :
    ∀ (r j v : Nat), j + r = xs.length → v < 2 ^ 32 → ∀ (T : List Value), T.length = 27 → T.getD 0 undef = .slice (some ⟨β, o, none⟩) xs.length cp → T.getD 3 undef = .int .u32 (v : Int) → T.getD 4 undef = .int .i64 j →
    ∃ T', evalC Tryz.prog (env Tryz.prog (fun _ => none) (r + 10)) none refO ⟨⟨T⟩, [], h⟩ = some (.exit 0, ⟨⟨T'⟩, [], h⟩) ∧ T'.length = 27 ∧ T'.getD 3 undef = .int .u32 (((xs.drop j).foldl rbyt v : Nat) : Int)
  | 0, j, v, hj, hv, T, hT, t0, t3, t4 => by
    obtain rfl : j = xs.length := by omega
    have c1 : decide ((xs.length : Int) < (xs.length : Int)) = false := by simp
    simp only [refO, blockAt, Tryz.f333, Option.getD_some, Nat.reduceEqDiff, if_true, if_false]
    rw [evalC_loop]
    simp (maxSteps := 1000000) (disch := omega) only [opA_convert, stepVal_guardT, yD_some, yK_bool, yK_undef, getD_set', List.length_set, Nat.reduceLT, evalC_drawT, drawL_eq, trace_cons, trace_nil, traceK_some, pad, evalC_seq, evalC_region, evalC_cond, evalC_ret, evalC_skip, evalC_label, evalC_exit, evalC_scope, evalC_block, evalC_draw, runOps_cons, runOps_nil, stepOp_eq, stepVal_plain, yieldedA_T, opA_assign, opA_move, opA_binOp, opA_pick, opA_call, opA_alloc, opA_box, opA_load, opA_store, opA_extract, opA_buildSlice, opA_indexAddr, opA_fieldAddr, aeval_int, aeval_bool, aeval_tmp, aeval_nilSlice, aeval_nilPointer, aeval_nilFunc, aeval_func, arK_val, arK_skip, arK_enter, arK_round, valK_some, valK_none, opsK_some, Option.map_some, Option.map_none, seqK_normal, seqK_ret, seqK_exit, blockK_normal, blockK_ret, blockK_exit, loopK_normal, loopK_ret, loopK_exit, List.getElem?_cons_zero, List.getElem?_cons_succ, Option.bind_some, reduceCtorEq, if_false, if_true, pickK_bool, condK_true, condK_false, endK_ret, endK_normal, resultsA_tmp, resultsA_nil, resVal, Option.some.injEq, Bool.true_eq_false, Bool.false_eq_true, List.map_cons, List.map_nil, binA_add, binA_sub, binA_mul, binA_lss, binA_leq, binA_gtr, binA_geq, binA_eql, binA_neq, callA_builtin, max_int, min_int, loadK_pointer, storeK_pointer, IntWalk.i64_in, IntWalk.i64_quo, binA_quo, binA_rem, Int.tmod_eq_emod_of_nonneg, loadA_rowK, get_empty, next_empty, AH.get_set, AH.get_push, AH.next_set, AH.next_push, resultsA_cell, resK_pointer, roundA_G, roundG_loop, asgK_normal, bodyK_loop, ended_some, endRK_normal, endRK_ret, endRK_exit, rangeK_E, rangeE_ready, rangeE_done, rangeH, setAll, shut_nil, shut_cons, shutK_defs, endK_shut, outK_some, AH.get_kill, AH.next_kill, evalRegion_G, drawG_ok, drawK_all, trace_cons, trace_nil, traceK_some, List.all_cons, List.all_nil, sameRead_K, sameK_plain, sameK_guard, wantK_some, veqK_val, veq_int, veq_bool, veq_pointer, veq_slice, veq_nilSlice, Bool.and_true, Bool.and_self, List.getLast?_cons_cons, List.getLast?_singleton, ixK_slice, oneOf_row, Nat.reduceLeDiff, and_self, and_true, true_and, Int.reduceToNat, Int.reduceNe, List.take_succ_cons, List.take_zero, List.take_nil, List.length_cons, List.length_nil, List.cons_append, List.nil_append, Int.reduceLE, Int.reduceLT, Int.reduceEq, Int.reduceNeg, Int.reduceAdd, Int.reduceSub, Int.reduceMul, Int.reduceDiv, Nat.reduceAdd, Nat.reduceEqDiff, decide_true, decide_false, hT, t0, t4, c1, len_sl sl254]
    refine ⟨_, rfl, by simp only [getD_set', List.length_set, Nat.reduceEqDiff, Nat.reduceLT, if_true, if_false, hT], ?_⟩
    simp only [getD_set', List.length_set, Nat.reduceEqDiff, Nat.reduceLT, if_true, if_false, hT, t3]
    rw [List.drop_eq_nil_of_le (by omega)]; rfl
  | r + 1, j, v, hj, hv, T, hT, t0, t3, t4 => by
    have hjl : j < xs.length := by omega
    have hxj : xs[j]? = some xs[j] := by simp [hjl]
    have hb := hx xs[j] (List.getElem_mem hjl)
    have hrow := hr j _ hxj
    have hdrop := List.drop_eq_getElem_cons hjl
    generalize xs[j] = x at hb hrow hdrop
    have c1 : decide ((j : Int) < (xs.length : Int)) = true := decide_eq_true (by omega)
    have i1 : 0 ≤ (j : Int) ∧ (j : Int) < (xs.length : Int) := by omega
    have cv : IntKind.u32.wrap (x : Int) = (x : Int) := by simp only [IntKind.wrap, IntKind.signed, IntKind.bits]; simp; omega
    have x1 := fun ox oy => xor_i hv (show x < 2 ^ 32 by omega) Tryz.prog 22 ox oy
    have key := ref_in h 8 0 (r + 2) (Nat.xor v x) (by omega) (Nat.xor_lt_two_pow hv (by omega))
    have ih := ref_out β o cp xs h hx hr hl r (j + 1) (rbyt v x) (by omega) (rbyt_lt hv hb)
    rw [show 8 + (r + 2) + 1 = r + 10 + 1 by omega] at key
    rw [show r + 1 + 10 = r + 10 + 1 by omega]
    simp only [refO, refI, blockAt, Tryz.f333, Option.getD_some, Nat.reduceEqDiff, if_true, if_false] at ih key ⊢
    rw [evalC_loop]
    simp (maxSteps := 1000000) (disch := omega) only [opA_convert, stepVal_guardT, yD_some, yK_bool, yK_undef, getD_set', List.length_set, Nat.reduceLT, evalC_drawT, drawL_eq, trace_cons, trace_nil, traceK_some, pad, evalC_seq, evalC_region, evalC_cond, evalC_ret, evalC_skip, evalC_label, evalC_exit, evalC_scope, evalC_block, evalC_draw, runOps_cons, runOps_nil, stepOp_eq, stepVal_plain, yieldedA_T, opA_assign, opA_move, opA_binOp, opA_pick, opA_call, opA_alloc, opA_box, opA_load, opA_store, opA_extract, opA_buildSlice, opA_indexAddr, opA_fieldAddr, aeval_int, aeval_bool, aeval_tmp, aeval_nilSlice, aeval_nilPointer, aeval_nilFunc, aeval_func, arK_val, arK_skip, arK_enter, arK_round, valK_some, valK_none, opsK_some, Option.map_some, Option.map_none, seqK_normal, seqK_ret, seqK_exit, blockK_normal, blockK_ret, blockK_exit, loopK_normal, loopK_ret, loopK_exit, List.getElem?_cons_zero, List.getElem?_cons_succ, Option.bind_some, reduceCtorEq, if_false, if_true, pickK_bool, condK_true, condK_false, endK_ret, endK_normal, resultsA_tmp, resultsA_nil, resVal, Option.some.injEq, Bool.true_eq_false, Bool.false_eq_true, List.map_cons, List.map_nil, binA_add, binA_sub, binA_mul, binA_lss, binA_leq, binA_gtr, binA_geq, binA_eql, binA_neq, callA_builtin, max_int, min_int, loadK_pointer, storeK_pointer, IntWalk.i64_in, IntWalk.i64_quo, binA_quo, binA_rem, Int.tmod_eq_emod_of_nonneg, loadA_rowK, get_empty, next_empty, AH.get_set, AH.get_push, AH.next_set, AH.next_push, resultsA_cell, resK_pointer, roundA_G, roundG_loop, asgK_normal, bodyK_loop, ended_some, endRK_normal, endRK_ret, endRK_exit, rangeK_E, rangeE_ready, rangeE_done, rangeH, setAll, shut_nil, shut_cons, shutK_defs, endK_shut, outK_some, AH.get_kill, AH.next_kill, evalRegion_G, drawG_ok, drawK_all, trace_cons, trace_nil, traceK_some, List.all_cons, List.all_nil, sameRead_K, sameK_plain, sameK_guard, wantK_some, veqK_val, veq_int, veq_bool, veq_pointer, veq_slice, veq_nilSlice, Bool.and_true, Bool.and_self, List.getLast?_cons_cons, List.getLast?_singleton, ixK_slice, oneOf_row, Nat.reduceLeDiff, and_self, and_true, true_and, Int.reduceToNat, Int.reduceNe, List.take_succ_cons, List.take_zero, List.take_nil, List.length_cons, List.length_nil, List.cons_append, List.nil_append, Int.reduceLE, Int.reduceLT, Int.reduceEq, Int.reduceNeg, Int.reduceAdd, Int.reduceSub, Int.reduceMul, Int.reduceDiv, Nat.reduceAdd, Nat.reduceEqDiff, decide_true, decide_false, hT, t0, t3, t4, c1, len_sl sl254, i1, indexAddrA_one one254, ixK_slice, Int.toNat_natCast, hrow, convK_int u5 u22, cv, x1]
    generalize hT0 : List.set _ 5 _ = T0
    have v0 : T0.getD 0 undef = .slice (some ⟨β, o, none⟩) xs.length cp := by rw [← hT0]; simp only [getD_set', List.length_set, Nat.reduceEqDiff, Nat.reduceLT, if_true, if_false, hT, t0]
    have v4 : T0.getD 4 undef = .int .i64 j := by rw [← hT0]; simp only [getD_set', List.length_set, Nat.reduceEqDiff, Nat.reduceLT, if_true, if_false, hT, t4]
    obtain ⟨T1, g1, g2, g3, g4, g5⟩ := key T0 (by rw [← hT0]; simp only [getD_set', List.length_set, Nat.reduceEqDiff, Nat.reduceLT, if_true, if_false, hT]) (by rw [← hT0]; simp only [getD_set', List.length_set, Nat.reduceEqDiff, Nat.reduceLT, if_true, if_false, hT]) (by rw [← hT0]; simp only [getD_set', List.length_set, Nat.reduceEqDiff, Nat.reduceLT, if_true, if_false, hT]; rfl)
    rw [v0] at g4
    rw [v4] at g5
    simp (maxSteps := 1000000) (disch := omega) only [opA_convert, stepVal_guardT, yD_some, yK_bool, yK_undef, getD_set', List.length_set, Nat.reduceLT, evalC_drawT, drawL_eq, trace_cons, trace_nil, traceK_some, pad, evalC_seq, evalC_region, evalC_cond, evalC_ret, evalC_skip, evalC_label, evalC_exit, evalC_scope, evalC_block, evalC_draw, runOps_cons, runOps_nil, stepOp_eq, stepVal_plain, yieldedA_T, opA_assign, opA_move, opA_binOp, opA_pick, opA_call, opA_alloc, opA_box, opA_load, opA_store, opA_extract, opA_buildSlice, opA_indexAddr, opA_fieldAddr, aeval_int, aeval_bool, aeval_tmp, aeval_nilSlice, aeval_nilPointer, aeval_nilFunc, aeval_func, arK_val, arK_skip, arK_enter, arK_round, valK_some, valK_none, opsK_some, Option.map_some, Option.map_none, seqK_normal, seqK_ret, seqK_exit, blockK_normal, blockK_ret, blockK_exit, loopK_normal, loopK_ret, loopK_exit, List.getElem?_cons_zero, List.getElem?_cons_succ, Option.bind_some, reduceCtorEq, if_false, if_true, pickK_bool, condK_true, condK_false, endK_ret, endK_normal, resultsA_tmp, resultsA_nil, resVal, Option.some.injEq, Bool.true_eq_false, Bool.false_eq_true, List.map_cons, List.map_nil, binA_add, binA_sub, binA_mul, binA_lss, binA_leq, binA_gtr, binA_geq, binA_eql, binA_neq, callA_builtin, max_int, min_int, loadK_pointer, storeK_pointer, IntWalk.i64_in, IntWalk.i64_quo, binA_quo, binA_rem, Int.tmod_eq_emod_of_nonneg, loadA_rowK, get_empty, next_empty, AH.get_set, AH.get_push, AH.next_set, AH.next_push, resultsA_cell, resK_pointer, roundA_G, roundG_loop, asgK_normal, bodyK_loop, ended_some, endRK_normal, endRK_ret, endRK_exit, rangeK_E, rangeE_ready, rangeE_done, rangeH, setAll, shut_nil, shut_cons, shutK_defs, endK_shut, outK_some, AH.get_kill, AH.next_kill, evalRegion_G, drawG_ok, drawK_all, trace_cons, trace_nil, traceK_some, List.all_cons, List.all_nil, sameRead_K, sameK_plain, sameK_guard, wantK_some, veqK_val, veq_int, veq_bool, veq_pointer, veq_slice, veq_nilSlice, Bool.and_true, Bool.and_self, List.getLast?_cons_cons, List.getLast?_singleton, ixK_slice, oneOf_row, Nat.reduceLeDiff, and_self, and_true, true_and, Int.reduceToNat, Int.reduceNe, List.take_succ_cons, List.take_zero, List.take_nil, List.length_cons, List.length_nil, List.cons_append, List.nil_append, Int.reduceLE, Int.reduceLT, Int.reduceEq, Int.reduceNeg, Int.reduceAdd, Int.reduceSub, Int.reduceMul, Int.reduceDiv, Nat.reduceAdd, Nat.reduceEqDiff, decide_true, decide_false, g1, g2, g5, env_code]
    obtain ⟨T', k1, k2, k3⟩ := ih (((T1.set 10 (.int .i64 j)).set 11 (.int .i64 ((j : Int) + 1))).set 4 (.int .i64 ((j : Int) + 1))) (by simp only [getD_set', List.length_set, Nat.reduceEqDiff, Nat.reduceLT, if_true, if_false, g2]) (by simp only [getD_set', List.length_set, Nat.reduceEqDiff, Nat.reduceLT, if_true, if_false, g2, g4]) (by simp only [getD_set', List.length_set, Nat.reduceEqDiff, Nat.reduceLT, if_true, if_false, g3]; rfl) (by simp only [getD_set', List.length_set, Nat.reduceEqDiff, Nat.reduceLT, if_true, if_false, g2]; rfl)
    refine ⟨T', k1, k2, ?_⟩
    rw [k3, hdrop]; rfl

theorem ref_fn (β o cp : Nat) (xs : List Nat) (h : AH) (hx : ∀ x ∈ xs, x < 256) (hr : ∀ (j x : Nat), xs[j]? = some x → rowK Tryz.prog 5 (o + j) (h.get β) = some (.int .u8 (x : Int))) (hl : xs.length ≤ 1048576) :
    callFn Tryz.prog (env Tryz.prog (fun _ => none) (xs.length + 10)) 333 ⟨[.slice (some ⟨β, o, none⟩) xs.length cp]⟩ h = some (.int .u32 ((4294967295 - xs.foldl rbyt 4294967295 : Nat) : Int), h) := by
  refine callFn_T Tryz.func333 rfl _ _ (by show 1 ≤ 27; decide) fun T hT t => ?_
  have t0 : T.getD 0 undef = .slice (some ⟨β, o, none⟩) xs.length cp := t 0
  have hT' : T.length = 27 := hT
  have key := ref_out β o cp xs h hx hr hl xs.length 0 4294967295 (by omega) (by decide)
  have hf := rfold_lt xs 4294967295 (by decide) hx
  simp only [refO, blockAt, Tryz.f333, Option.getD_some, Nat.reduceEqDiff, if_true, if_false] at key ⊢
  simp (maxSteps := 1000000) (disch := omega) only [opA_convert, stepVal_guardT, yD_some, yK_bool, yK_undef, getD_set', List.length_set, Nat.reduceLT, evalC_drawT, drawL_eq, trace_cons, trace_nil, traceK_some, pad, evalC_seq, evalC_region, evalC_cond, evalC_ret, evalC_skip, evalC_label, evalC_exit, evalC_scope, evalC_block, evalC_draw, runOps_cons, runOps_nil, stepOp_eq, stepVal_plain, yieldedA_T, opA_assign, opA_move, opA_binOp, opA_pick, opA_call, opA_alloc, opA_box, opA_load, opA_store, opA_extract, opA_buildSlice, opA_indexAddr, opA_fieldAddr, aeval_int, aeval_bool, aeval_tmp, aeval_nilSlice, aeval_nilPointer, aeval_nilFunc, aeval_func, arK_val, arK_skip, arK_enter, arK_round, valK_some, valK_none, opsK_some, Option.map_some, Option.map_none, seqK_normal, seqK_ret, seqK_exit, blockK_normal, blockK_ret, blockK_exit, loopK_normal, loopK_ret, loopK_exit, List.getElem?_cons_zero, List.getElem?_cons_succ, Option.bind_some, reduceCtorEq, if_false, if_true, pickK_bool, condK_true, condK_false, endK_ret, endK_normal, resultsA_tmp, resultsA_nil, resVal, Option.some.injEq, Bool.true_eq_false, Bool.false_eq_true, List.map_cons, List.map_nil, binA_add, binA_sub, binA_mul, binA_lss, binA_leq, binA_gtr, binA_geq, binA_eql, binA_neq, callA_builtin, max_int, min_int, loadK_pointer, storeK_pointer, IntWalk.i64_in, IntWalk.i64_quo, binA_quo, binA_rem, Int.tmod_eq_emod_of_nonneg, loadA_rowK, get_empty, next_empty, AH.get_set, AH.get_push, AH.next_set, AH.next_push, resultsA_cell, resK_pointer, roundA_G, roundG_loop, asgK_normal, bodyK_loop, ended_some, endRK_normal, endRK_ret, endRK_exit, rangeK_E, rangeE_ready, rangeE_done, rangeH, setAll, shut_nil, shut_cons, shutK_defs, endK_shut, outK_some, AH.get_kill, AH.next_kill, evalRegion_G, drawG_ok, drawK_all, trace_cons, trace_nil, traceK_some, List.all_cons, List.all_nil, sameRead_K, sameK_plain, sameK_guard, wantK_some, veqK_val, veq_int, veq_bool, veq_pointer, veq_slice, veq_nilSlice, Bool.and_true, Bool.and_self, List.getLast?_cons_cons, List.getLast?_singleton, ixK_slice, oneOf_row, Nat.reduceLeDiff, and_self, and_true, true_and, Int.reduceToNat, Int.reduceNe, List.take_succ_cons, List.take_zero, List.take_nil, List.length_cons, List.length_nil, List.cons_append, List.nil_append, Int.reduceLE, Int.reduceLT, Int.reduceEq, Int.reduceNeg, Int.reduceAdd, Int.reduceSub, Int.reduceMul, Int.reduceDiv, Nat.reduceAdd, Nat.reduceEqDiff, decide_true, decide_false, hT', t0]
  generalize hT0 : List.set _ 4 _ = T0
  obtain ⟨T', k1, k2, k3⟩ := key T0 (by rw [← hT0]; simp only [getD_set', List.length_set, Nat.reduceEqDiff, Nat.reduceLT, if_true, if_false, hT']) (by rw [← hT0]; simp only [getD_set', List.length_set, Nat.reduceEqDiff, Nat.reduceLT, if_true, if_false, hT', t0]) (by rw [← hT0]; simp only [getD_set', List.length_set, Nat.reduceEqDiff, Nat.reduceLT, if_true, if_false, hT']; rfl) (by rw [← hT0]; simp only [getD_set', List.length_set, Nat.reduceEqDiff, Nat.reduceLT, if_true, if_false, hT']; rfl)
  rw [List.drop_zero] at k3
  have e : IntKind.u32.wrap (4294967295 - ((xs.foldl rbyt 4294967295 : Nat) : Int)) = ((4294967295 - xs.foldl rbyt 4294967295 : Nat) : Int) := by
    simp only [IntKind.wrap, IntKind.signed, IntKind.bits]; simp; omega
  simp (maxSteps := 1000000) (disch := omega) only [opA_convert, stepVal_guardT, yD_some, yK_bool, yK_undef, getD_set', List.length_set, Nat.reduceLT, evalC_drawT, drawL_eq, trace_cons, trace_nil, traceK_some, pad, evalC_seq, evalC_region, evalC_cond, evalC_ret, evalC_skip, evalC_label, evalC_exit, evalC_scope, evalC_block, evalC_draw, runOps_cons, runOps_nil, stepOp_eq, stepVal_plain, yieldedA_T, opA_assign, opA_move, opA_binOp, opA_pick, opA_call, opA_alloc, opA_box, opA_load, opA_store, opA_extract, opA_buildSlice, opA_indexAddr, opA_fieldAddr, aeval_int, aeval_bool, aeval_tmp, aeval_nilSlice, aeval_nilPointer, aeval_nilFunc, aeval_func, arK_val, arK_skip, arK_enter, arK_round, valK_some, valK_none, opsK_some, Option.map_some, Option.map_none, seqK_normal, seqK_ret, seqK_exit, blockK_normal, blockK_ret, blockK_exit, loopK_normal, loopK_ret, loopK_exit, List.getElem?_cons_zero, List.getElem?_cons_succ, Option.bind_some, reduceCtorEq, if_false, if_true, pickK_bool, condK_true, condK_false, endK_ret, endK_normal, resultsA_tmp, resultsA_nil, resVal, Option.some.injEq, Bool.true_eq_false, Bool.false_eq_true, List.map_cons, List.map_nil, binA_add, binA_sub, binA_mul, binA_lss, binA_leq, binA_gtr, binA_geq, binA_eql, binA_neq, callA_builtin, max_int, min_int, loadK_pointer, storeK_pointer, IntWalk.i64_in, IntWalk.i64_quo, binA_quo, binA_rem, Int.tmod_eq_emod_of_nonneg, loadA_rowK, get_empty, next_empty, AH.get_set, AH.get_push, AH.next_set, AH.next_push, resultsA_cell, resK_pointer, roundA_G, roundG_loop, asgK_normal, bodyK_loop, ended_some, endRK_normal, endRK_ret, endRK_exit, rangeK_E, rangeE_ready, rangeE_done, rangeH, setAll, shut_nil, shut_cons, shutK_defs, endK_shut, outK_some, AH.get_kill, AH.next_kill, evalRegion_G, drawG_ok, drawK_all, trace_cons, trace_nil, traceK_some, List.all_cons, List.all_nil, sameRead_K, sameK_plain, sameK_guard, wantK_some, veqK_val, veq_int, veq_bool, veq_pointer, veq_slice, veq_nilSlice, Bool.and_true, Bool.and_self, List.getLast?_cons_cons, List.getLast?_singleton, ixK_slice, oneOf_row, Nat.reduceLeDiff, and_self, and_true, true_and, Int.reduceToNat, Int.reduceNe, List.take_succ_cons, List.take_zero, List.take_nil, List.length_cons, List.length_nil, List.cons_append, List.nil_append, Int.reduceLE, Int.reduceLT, Int.reduceEq, Int.reduceNeg, Int.reduceAdd, Int.reduceSub, Int.reduceMul, Int.reduceDiv, Nat.reduceAdd, Nat.reduceEqDiff, decide_true, decide_false, k1, k2, k3, e]

noncomputable def sft8 (v : Nat) (k : Nat → Nat) : Nat :=
  forceN (sft v) fun v => forceN (sft v) fun v => forceN (sft v) fun v => forceN (sft v) fun v => forceN (sft v) fun v => forceN (sft v) fun v => forceN (sft v) fun v => forceN (sft v) k
noncomputable def refGo (l : List Nat) : Nat → Nat := List.rec (motive := fun _ => Nat → Nat) (fun v => v) (fun x _ ih v => forceN (Nat.xor v x) fun a => sft8 a ih) l
theorem refGo_eq : ∀ (l : List Nat) (v : Nat), refGo l v = l.foldl rbyt v
  | [], v => rfl
  | x :: r, v => by
    show forceN (Nat.xor v x) (fun a => sft8 a (refGo r)) = _
    unfold sft8
    simp only [forceN_eq]
    rw [refGo_eq r]; rfl

noncomputable def gRef (args : Array Value) (h : AH) : Option (Value × AH) :=
  match args.toList with
  | [v] => match pieceOf h v with
    | some xs => forceN (Nat.sub 4294967295 (refGo xs 4294967295)) fun r => some (.int .u32 (.ofNat r), h)
    | none => none
  | _ => none
theorem sRef : SumOk Tryz.prog 333 gRef := by
  refine SumOk.litterV quiet mix (OverOk.none _) fun args h v h₁ hg => ?_
  unfold gRef at hg
  split at hg
  case h_2 => cases hg
  rename_i a ha
  split at hg
  case h_2 => cases hg
  rename_i xs hxs
  rw [forceN_eq, refGo_eq] at hg
  cases hg
  obtain ⟨⟨β, o, cp, e1, e2, e3, e4⟩, _⟩ := pieceOf_spec hxs
  simp only at e1 e2 e3 e4
  subst e1
  obtain rfl : args = ⟨[.slice (some ⟨β, o, none⟩) xs.length cp]⟩ := by apply Array.ext'; exact ha
  exact ⟨rfl, fun N π => VV.plain1 rfl, _, h, ref_fn β o cp xs h e2 e3 e4, fun _ _ => rfl⟩
end Go.Proofs.Leaf
