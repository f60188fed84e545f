/-
  Paths: Of.
-/
import Derived.Test.YtdbhiobpeeeppaaPathsP4
import Derived.Test.YtdbhiobpeeeppaaAeS5
namespace Go.Proofs.Paths
set_option linter.unusedSimpArgs false
set_option linter.unusedVariables false
open Go.AE
set_option maxRecDepth 100000
set_option maxHeartbeats 2000000


noncomputable def r17 : Code × Code := (ranges (Try.f17.body.getD .skip)).getD (.skip, .skip)
theorem st7 : drawStatic (regionOf Try.f17 7) = true := by kernel_rfl
theorem st8 : drawStatic (regionOf Try.f17 8) = true := by kernel_rfl
theorem st13 : drawStatic (regionOf Try.f17 13) = true := by kernel_rfl
theorem st14 : drawStatic (regionOf Try.f17 14) = true := by kernel_rfl
theorem pr7 : drawPairs (regionOf Try.f17 7) = [(0, 3), (0, 4)] := by kernel_rfl
theorem pr8 : drawPairs (regionOf Try.f17 8) = [(1, 4)] := by kernel_rfl
theorem pr13 : drawPairs (regionOf Try.f17 13) = [(1, 3)] := by kernel_rfl
theorem pr14 : drawPairs (regionOf Try.f17 14) = [(0, 2)] := by kernel_rfl

def T17 (n : Int) : List Value := [.int .i64 n, .pointer (some ⟨0, 0, none⟩), .int .i64 0, .slice none 0 0, .int .i64 0, .pointer (some ⟨1, 0, none⟩), .pointer (some ⟨2, 0, none⟩), undef, undef, undef, undef, .int .i64 n, .bool false, .bool false, .int .i64 n, .bool false, .bool false, .func (.func 31) #[] #[], undef, undef, undef, undef, undef, undef, undef, undef, undef, undef, undef, undef, undef, undef, undef, undef, undef, undef, undef, undef, undef, undef, undef, undef, undef, undef, undef, undef, undef, undef, undef, undef, undef]
def I17 (n : Int) (k : Nat) (h : AH) : Prop :=
  h.next = 5 ∧ h.get 0 = some (cell1 (.int .i64 n) 3) ∧ h.get 1 = some (cell1 (.int .i64 0) 3) ∧ h.get 2 = some (cell1 (.int .i64 0) 3) ∧ h.get 3 = some .defs ∧ h.get 4 = some (.loop .ready .normal ⟨T17 n⟩ #[18, 19] r17.1 r17.2 3) ∧ fst k ≤ n
def J17 (n : Int) (h : AH) : Prop :=
  ∃ k : Nat, k ≤ 10 ∧ fst k ≤ n ∧ n < fst k + spn (lvl k) ∧ h.next = 5 ∧ h.get 0 = some (cell1 (.int .i64 n) 3) ∧ h.get 1 = some (cell1 (.int .i64 k) 3) ∧ h.get 2 = some (cell1 (.int .i64 (n - fst k)) 3) ∧ h.get 3 = some .defs ∧ h.get 4 = some (.loop .done (.exit 0) ⟨T17 n⟩ #[18, 19] r17.1 r17.2 3)

theorem lvl_le (k : Nat) (hk : k ≤ 10) : 0 ≤ lvl k ∧ lvl k ≤ 3 := by unfold lvl; omega
theorem spn_le (l : Int) : 0 ≤ spn l ∧ spn l ≤ 262144 := by unfold spn; omega
theorem fst_le (k : Nat) : 0 ≤ fst k ∧ (k ≤ 10 → fst k ≤ 4168) := by unfold fst; omega
theorem fst_succ (k : Nat) (hk : k ≤ 10) : fst (k + 1 : Nat) = fst k + spn (lvl k) := by
  have : k = 0 ∨ k = 1 ∨ k = 2 ∨ k = 3 ∨ k = 4 ∨ k = 5 ∨ k = 6 ∨ k = 7 ∨ k = 8 ∨ k = 9 ∨ k = 10 := by omega
  rcases this with rfl | rfl | rfl | rfl | rfl | rfl | rfl | rfl | rfl | rfl | rfl <;> rfl

theorem k17 (n : Int) (hn0 : 0 ≤ n) (hn1 : n < 65536) : Round 4 (I17 n) (J17 n) := by
  rintro m k hk h ⟨hn, h0, h1, h2, h3, h4, hj⟩
  have st7 := st7
  have st8 := st8
  have pr7 := pr7
  have pr8 := pr8
  simp only [regionOf, regionAt, Try.f17, Option.getD_some, Nat.reduceEqDiff, if_true, if_false] at st7 st8 pr7 pr8
  have hl := lvl_le k hk
  have hs := spn_le (lvl k)
  have hf := fst_le k
  by_cases c : n < fst k + spn (lvl k)
  · have c1 : decide (n < fst k + spn (lvl k)) = true := by simpa using c
    refine ⟨false, ?_⟩
    simp (maxSteps := 1000000) (disch := omega) only [pad, evalC_seq, evalC_region, evalC_cond, evalC_ret, evalC_skip, evalC_label, evalC_exit, evalC_scope, evalC_block, evalC_loop, evalC_draw, runOps_cons, runOps_nil, stepOp_eq, stepVal_plain, stepVal_guard, yieldedA_lit, opA_assign, opA_move, opA_binOp, opA_pick, opA_call, opA_alloc, opA_box, opA_load, opA_store, opA_extract, opA_buildSlice, opA_indexAddr, opA_fieldAddr, aeval_int, aeval_bool, aeval_tmp, aeval_nilSlice, aeval_nilPointer, aeval_nilFunc, aeval_func, List.getD_cons_zero, List.getD_cons_succ, arK_val, arK_skip, arK_enter, arK_round, valK_some, valK_none, List.set_cons_zero, List.set_cons_succ, opsK_some, Option.map_some, Option.map_none, seqK_normal, seqK_ret, seqK_exit, blockK_normal, blockK_ret, blockK_exit, loopK_normal, loopK_ret, loopK_exit, List.getElem?_cons_zero, List.getElem?_cons_succ, Option.bind_some, reduceCtorEq, if_false, if_true, pickK_bool, condK_true, condK_false, endK_ret, endK_normal, resultsA_tmp, resultsA_nil, resVal, Option.some.injEq, Bool.true_eq_false, Bool.false_eq_true, List.map_cons, List.map_nil, binA_add, binA_sub, binA_mul, binA_lss, binA_leq, binA_gtr, binA_geq, binA_eql, binA_neq, callA_builtin, max_int, min_int, loadK_pointer, storeK_pointer, IntWalk.i64_in, IntWalk.i64_quo, binA_quo, binA_rem, Int.tmod_eq_emod_of_nonneg, loadA_rowK, storeA_int hsz3, putK_cell, rowK_cell ag3, rowK_row ag3, boxA_cell, al3, get_empty, next_empty, AH.get_set, AH.get_push, AH.next_set, AH.next_push, resultsA_cell, resK_pointer, roundA_G, roundG_loop, asgK_normal, bodyK_loop, ended_some, endRK_normal, endRK_ret, endRK_exit, rangeK_E, rangeE_ready, rangeE_done, rangeH, setAll, shut_nil, shut_cons, shutK_defs, endK_shut, outK_some, AH.get_kill, AH.next_kill, evalRegion_G, drawG_ok, drawK_all, trace_cons, trace_nil, traceK_some, List.all_cons, List.all_nil, sameRead_K, sameK_plain, sameK_guard, wantK_some, veqK_val, veq_int, veq_bool, veq_pointer, veq_slice, veq_nilSlice, Bool.and_true, Bool.and_self, List.getLast?_cons_cons, List.getLast?_singleton, len_slice one22, indexAddrA_one one22, ixK_slice, append_one one22, apK_nil, apK_some, apB_row, oneOf_row, bs22, Nat.reduceLeDiff, and_self, and_true, true_and, Int.reduceToNat, Int.reduceNe, List.take_succ_cons, List.take_zero, List.take_nil, List.length_cons, List.length_nil, List.cons_append, List.nil_append, Int.reduceLE, Int.reduceLT, Int.reduceEq, Int.reduceNeg, Int.reduceAdd, Int.reduceSub, Int.reduceMul, Int.reduceDiv, Nat.reduceAdd, Nat.reduceEqDiff, decide_true, decide_false, h0, h1, h2, h3, h4, hn, T17, r17, ranges, Try.f17, Option.getD_some, evalC_draw, st7, st8, pr7, pr8, yieldedA_lit, callA_value, env_code, callA_func _ _ _ _ _ _ b18, callA_func _ _ _ _ _ _ b20, env_call_ov ovA18, env_call_ov ovA20, g1_int (f := lvl), g1_int (f := spn), c1]
    refine ⟨_, rfl, k, hk, hj, c, hn, ?_, ?_, ?_, ?_, ?_⟩
    · simp [h0]
    · simp
    · simp
    · simp [h3]
    · simp only [AH.get_set, if_true]; rfl
  · have c1 : decide (n < fst k + spn (lvl k)) = false := by simpa using c
    refine ⟨true, ?_⟩
    simp (maxSteps := 1000000) (disch := omega) only [pad, evalC_seq, evalC_region, evalC_cond, evalC_ret, evalC_skip, evalC_label, evalC_exit, evalC_scope, evalC_block, evalC_loop, evalC_draw, runOps_cons, runOps_nil, stepOp_eq, stepVal_plain, stepVal_guard, yieldedA_lit, opA_assign, opA_move, opA_binOp, opA_pick, opA_call, opA_alloc, opA_box, opA_load, opA_store, opA_extract, opA_buildSlice, opA_indexAddr, opA_fieldAddr, aeval_int, aeval_bool, aeval_tmp, aeval_nilSlice, aeval_nilPointer, aeval_nilFunc, aeval_func, List.getD_cons_zero, List.getD_cons_succ, arK_val, arK_skip, arK_enter, arK_round, valK_some, valK_none, List.set_cons_zero, List.set_cons_succ, opsK_some, Option.map_some, Option.map_none, seqK_normal, seqK_ret, seqK_exit, blockK_normal, blockK_ret, blockK_exit, loopK_normal, loopK_ret, loopK_exit, List.getElem?_cons_zero, List.getElem?_cons_succ, Option.bind_some, reduceCtorEq, if_false, if_true, pickK_bool, condK_true, condK_false, endK_ret, endK_normal, resultsA_tmp, resultsA_nil, resVal, Option.some.injEq, Bool.true_eq_false, Bool.false_eq_true, List.map_cons, List.map_nil, binA_add, binA_sub, binA_mul, binA_lss, binA_leq, binA_gtr, binA_geq, binA_eql, binA_neq, callA_builtin, max_int, min_int, loadK_pointer, storeK_pointer, IntWalk.i64_in, IntWalk.i64_quo, binA_quo, binA_rem, Int.tmod_eq_emod_of_nonneg, loadA_rowK, storeA_int hsz3, putK_cell, rowK_cell ag3, rowK_row ag3, boxA_cell, al3, get_empty, next_empty, AH.get_set, AH.get_push, AH.next_set, AH.next_push, resultsA_cell, resK_pointer, roundA_G, roundG_loop, asgK_normal, bodyK_loop, ended_some, endRK_normal, endRK_ret, endRK_exit, rangeK_E, rangeE_ready, rangeE_done, rangeH, setAll, shut_nil, shut_cons, shutK_defs, endK_shut, outK_some, AH.get_kill, AH.next_kill, evalRegion_G, drawG_ok, drawK_all, trace_cons, trace_nil, traceK_some, List.all_cons, List.all_nil, sameRead_K, sameK_plain, sameK_guard, wantK_some, veqK_val, veq_int, veq_bool, veq_pointer, veq_slice, veq_nilSlice, Bool.and_true, Bool.and_self, List.getLast?_cons_cons, List.getLast?_singleton, len_slice one22, indexAddrA_one one22, ixK_slice, append_one one22, apK_nil, apK_some, apB_row, oneOf_row, bs22, Nat.reduceLeDiff, and_self, and_true, true_and, Int.reduceToNat, Int.reduceNe, List.take_succ_cons, List.take_zero, List.take_nil, List.length_cons, List.length_nil, List.cons_append, List.nil_append, Int.reduceLE, Int.reduceLT, Int.reduceEq, Int.reduceNeg, Int.reduceAdd, Int.reduceSub, Int.reduceMul, Int.reduceDiv, Nat.reduceAdd, Nat.reduceEqDiff, decide_true, decide_false, h0, h1, h2, h3, h4, hn, T17, r17, ranges, Try.f17, Option.getD_some, evalC_draw, st7, st8, pr7, pr8, yieldedA_lit, callA_value, env_code, callA_func _ _ _ _ _ _ b18, callA_func _ _ _ _ _ _ b20, env_call_ov ovA18, env_call_ov ovA20, g1_int (f := lvl), g1_int (f := spn), c1]
    refine ⟨_, rfl, hn, ?_, ?_, ?_, ?_, ?_, ?_⟩
    · simp [h0]
    · simp [h1]
    · simp [h2]
    · simp [h3]
    · simp only [AH.get_set, if_true]; rfl
    · rw [fst_succ k hk]; omega

/-- A block's pointer. -/
def ptrOf (n : Int) : Int := if n < 8 then n else if n < 72 then 8 else if n < 4168 then 9 else 10
/-- A block's way. -/
def way (n : Int) : List Int := if n < 8 then [] else if n < 72 then [n - 8] else if n < 4168 then [(n - 72) / 64, (n - 72) % 64] else [(n - 4168) / 4096, (n - 4168) / 64 % 64, (n - 4168) % 64]
def ints (l : List Int) : List Value := l.map (.int .i64)
def sl (b : Nat) (l : List Int) : Value := if l = [] then .slice none 0 0 else .slice (some ⟨b, 0, none⟩) l.length l.length
def Post17 (n : Int) (r : Option (Value × AH)) : Prop :=
  ∃ b h, r = some (.tuple ⟨[.int .i64 (ptrOf n), sl b (way n), .int .i64 0]⟩, h) ∧ (way n ≠ [] → h.get b = some (rowObj (ints (way n)) 3 1 true))

theorem e17 (n : Int) (hn0 : 0 ≤ n) (hn1 : n < 65536) : ∃ m, Post17 n (callFn Try.prog (env Try.prog ovA m) 17 ⟨[.int .i64 n]⟩ ⟨.leaf, 0⟩) := by
  refine ⟨31, ?_⟩
  rw [callFn_eq Try.func17 rfl]
  have c1 : decide (n < 0) = false := by simp; omega
  have c2 : decide (65536 ≤ n) = false := by simp; omega
  have hI : I17 n 0 ((((((((⟨.leaf, 0⟩ : AH).push (cell1 (.int .i64 n) 3)).push (cell1 (.int .i64 0) 3)).push (cell1 (.int .i64 0) 3)).set 1 (cell1 (.int .i64 0) 3)).set 2 (cell1 (.int .i64 0) 3)).push .defs).push (.loop .ready .normal ⟨T17 n⟩ #[18, 19] r17.1 r17.2 3)) :=
    ⟨rfl, by simp [next_empty], by simp [next_empty], by simp [next_empty], by simp [next_empty], by simp [next_empty], hn0⟩
  have st7 := st7
  have st8 := st8
  have st13 := st13
  have st14 := st14
  have pr7 := pr7
  have pr8 := pr8
  have pr13 := pr13
  have pr14 := pr14
  simp only [regionOf, regionAt, Try.f17, Option.getD_some, Nat.reduceEqDiff, if_true, if_false] at st7 st8 st13 st14 pr7 pr8 pr13 pr14
  obtain ⟨v, h', e, hij⟩ := e31 (k17 n hn0 hn1) hI
  simp only [T17, r17, ranges, Try.f17, Option.getD_some] at e
  rcases hij with ⟨hn, h0, h1, h2, h3, h4, hj⟩ | ⟨k, hk, hj, hj', hn, h0, h1, h2, h3, h4⟩
  · exfalso
    have : fst (11 : Nat) = 266312 := rfl
    omega
  · simp only [T17, r17, ranges, Try.f17, Option.getD_some] at h4
    by_cases k7 : k ≤ 7
    · have hl : lvl k = 0 := by unfold lvl; omega
      have hf : fst k = k := by unfold fst; omega
      rw [hl] at hj'
      have hs : spn 0 = 1 := rfl
      have : n = k := by omega
      subst this
      simp (maxSteps := 1000000) (disch := omega) only [pad, evalC_seq, evalC_region, evalC_cond, evalC_ret, evalC_skip, evalC_label, evalC_exit, evalC_scope, evalC_block, evalC_loop, evalC_draw, runOps_cons, runOps_nil, stepOp_eq, stepVal_plain, stepVal_guard, yieldedA_lit, opA_assign, opA_move, opA_binOp, opA_pick, opA_call, opA_alloc, opA_box, opA_load, opA_store, opA_extract, opA_buildSlice, opA_indexAddr, opA_fieldAddr, aeval_int, aeval_bool, aeval_tmp, aeval_nilSlice, aeval_nilPointer, aeval_nilFunc, aeval_func, List.getD_cons_zero, List.getD_cons_succ, arK_val, arK_skip, arK_enter, arK_round, valK_some, valK_none, List.set_cons_zero, List.set_cons_succ, opsK_some, Option.map_some, Option.map_none, seqK_normal, seqK_ret, seqK_exit, blockK_normal, blockK_ret, blockK_exit, loopK_normal, loopK_ret, loopK_exit, List.getElem?_cons_zero, List.getElem?_cons_succ, Option.bind_some, reduceCtorEq, if_false, if_true, pickK_bool, condK_true, condK_false, endK_ret, endK_normal, resultsA_tmp, resultsA_nil, resVal, Option.some.injEq, Bool.true_eq_false, Bool.false_eq_true, List.map_cons, List.map_nil, binA_add, binA_sub, binA_mul, binA_lss, binA_leq, binA_gtr, binA_geq, binA_eql, binA_neq, callA_builtin, max_int, min_int, loadK_pointer, storeK_pointer, IntWalk.i64_in, IntWalk.i64_quo, binA_quo, binA_rem, Int.tmod_eq_emod_of_nonneg, loadA_rowK, storeA_int hsz3, putK_cell, rowK_cell ag3, rowK_row ag3, boxA_cell, al3, get_empty, next_empty, AH.get_set, AH.get_push, AH.next_set, AH.next_push, resultsA_cell, resK_pointer, roundA_G, roundG_loop, asgK_normal, bodyK_loop, ended_some, endRK_normal, endRK_ret, endRK_exit, rangeK_E, rangeE_ready, rangeE_done, rangeH, setAll, shut_nil, shut_cons, shutK_defs, endK_shut, outK_some, AH.get_kill, AH.next_kill, evalRegion_G, drawG_ok, drawK_all, trace_cons, trace_nil, traceK_some, List.all_cons, List.all_nil, sameRead_K, sameK_plain, sameK_guard, wantK_some, veqK_val, veq_int, veq_bool, veq_pointer, veq_slice, veq_nilSlice, Bool.and_true, Bool.and_self, List.getLast?_cons_cons, List.getLast?_singleton, len_slice one22, indexAddrA_one one22, ixK_slice, append_one one22, apK_nil, apK_some, apB_row, oneOf_row, bs22, Nat.reduceLeDiff, and_self, and_true, true_and, Int.reduceToNat, Int.reduceNe, List.take_succ_cons, List.take_zero, List.take_nil, List.length_cons, List.length_nil, List.cons_append, List.nil_append, Int.reduceLE, Int.reduceLT, Int.reduceEq, Int.reduceNeg, Int.reduceAdd, Int.reduceSub, Int.reduceMul, Int.reduceDiv, Nat.reduceAdd, Nat.reduceEqDiff, decide_true, decide_false, T17, r17, ranges, Try.f17, Option.getD_some, evalC_draw, st7, st8, pr7, pr8, st13, st14, pr13, pr14, yieldedA_lit, callA_value, env_code, callA_func _ _ _ _ _ _ b18, callA_func _ _ _ _ _ _ b20, callA_func _ _ _ _ _ _ b29, env_call_ov ovA18, env_call_ov ovA20, env_call_ov ovA29, g29_nil, g1_int (f := lvl), g1_int (f := spn), c1, c2, evalC_rangeG, rangeG_func b31, env_call o31, e, h0, h1, h2, h3, h4, hl]
      have e1 : ptrOf k = k := by unfold ptrOf; omega
      have e2 : way k = [] := by unfold way; rw [if_pos (by omega)]
      unfold Post17
      rw [e1, e2]
      exact ⟨0, _, rfl, fun h => absurd rfl h⟩
    · have : k = 8 ∨ k = 9 ∨ k = 10 := by omega
      rcases this with rfl | rfl | rfl
      · have hf : fst (8 : Nat) = 8 := rfl
        have hs : spn (lvl (8 : Nat)) = 64 := rfl
        rw [hf] at h2 hj hj'
        rw [hs] at hj'
        replace h1 : h'.get 1 = some (cell1 (.int .i64 8) 3) := h1
        simp (maxSteps := 1000000) (disch := omega) only [pad, evalC_seq, evalC_region, evalC_cond, evalC_ret, evalC_skip, evalC_label, evalC_exit, evalC_scope, evalC_block, evalC_loop, evalC_draw, runOps_cons, runOps_nil, stepOp_eq, stepVal_plain, stepVal_guard, yieldedA_lit, opA_assign, opA_move, opA_binOp, opA_pick, opA_call, opA_alloc, opA_box, opA_load, opA_store, opA_extract, opA_buildSlice, opA_indexAddr, opA_fieldAddr, aeval_int, aeval_bool, aeval_tmp, aeval_nilSlice, aeval_nilPointer, aeval_nilFunc, aeval_func, List.getD_cons_zero, List.getD_cons_succ, arK_val, arK_skip, arK_enter, arK_round, valK_some, valK_none, List.set_cons_zero, List.set_cons_succ, opsK_some, Option.map_some, Option.map_none, seqK_normal, seqK_ret, seqK_exit, blockK_normal, blockK_ret, blockK_exit, loopK_normal, loopK_ret, loopK_exit, List.getElem?_cons_zero, List.getElem?_cons_succ, Option.bind_some, reduceCtorEq, if_false, if_true, pickK_bool, condK_true, condK_false, endK_ret, endK_normal, resultsA_tmp, resultsA_nil, resVal, Option.some.injEq, Bool.true_eq_false, Bool.false_eq_true, List.map_cons, List.map_nil, binA_add, binA_sub, binA_mul, binA_lss, binA_leq, binA_gtr, binA_geq, binA_eql, binA_neq, callA_builtin, max_int, min_int, loadK_pointer, storeK_pointer, IntWalk.i64_in, IntWalk.i64_quo, binA_quo, binA_rem, Int.tmod_eq_emod_of_nonneg, loadA_rowK, storeA_int hsz3, putK_cell, rowK_cell ag3, rowK_row ag3, boxA_cell, al3, get_empty, next_empty, AH.get_set, AH.get_push, AH.next_set, AH.next_push, resultsA_cell, resK_pointer, roundA_G, roundG_loop, asgK_normal, bodyK_loop, ended_some, endRK_normal, endRK_ret, endRK_exit, rangeK_E, rangeE_ready, rangeE_done, rangeH, setAll, shut_nil, shut_cons, shutK_defs, endK_shut, outK_some, AH.get_kill, AH.next_kill, evalRegion_G, drawG_ok, drawK_all, trace_cons, trace_nil, traceK_some, List.all_cons, List.all_nil, sameRead_K, sameK_plain, sameK_guard, wantK_some, veqK_val, veq_int, veq_bool, veq_pointer, veq_slice, veq_nilSlice, Bool.and_true, Bool.and_self, List.getLast?_cons_cons, List.getLast?_singleton, len_slice one22, indexAddrA_one one22, ixK_slice, append_one one22, apK_nil, apK_some, apB_row, oneOf_row, bs22, Nat.reduceLeDiff, and_self, and_true, true_and, Int.reduceToNat, Int.reduceNe, List.take_succ_cons, List.take_zero, List.take_nil, List.length_cons, List.length_nil, List.cons_append, List.nil_append, Int.reduceLE, Int.reduceLT, Int.reduceEq, Int.reduceNeg, Int.reduceAdd, Int.reduceSub, Int.reduceMul, Int.reduceDiv, Nat.reduceAdd, Nat.reduceEqDiff, decide_true, decide_false, T17, r17, ranges, Try.f17, Option.getD_some, evalC_draw, st7, st8, pr7, pr8, st13, st14, pr13, pr14, yieldedA_lit, callA_value, env_code, callA_func _ _ _ _ _ _ b18, callA_func _ _ _ _ _ _ b20, callA_func _ _ _ _ _ _ b29, env_call_ov ovA18, env_call_ov ovA20, env_call_ov ovA29, g29_nil, g1_int (f := lvl), g1_int (f := spn), c1, c2, evalC_rangeG, rangeG_func b31, env_call o31, e, h0, h1, h2, h3, h4, a8, w0, w1, hn]
        have e1 : ptrOf n = 8 := by unfold ptrOf; omega
        have e2 : way n = [n - 8] := by unfold way; rw [if_neg (by omega), if_pos (by omega)]
        unfold Post17
        rw [e1, e2]
        exact ⟨6, _, rfl, fun h => by simp [hn, ints]⟩
      · have hf : fst (9 : Nat) = 72 := rfl
        have hs : spn (lvl (9 : Nat)) = 4096 := rfl
        rw [hf] at h2 hj hj'
        rw [hs] at hj'
        replace h1 : h'.get 1 = some (cell1 (.int .i64 9) 3) := h1
        simp (maxSteps := 1000000) (disch := omega) only [pad, evalC_seq, evalC_region, evalC_cond, evalC_ret, evalC_skip, evalC_label, evalC_exit, evalC_scope, evalC_block, evalC_loop, evalC_draw, runOps_cons, runOps_nil, stepOp_eq, stepVal_plain, stepVal_guard, yieldedA_lit, opA_assign, opA_move, opA_binOp, opA_pick, opA_call, opA_alloc, opA_box, opA_load, opA_store, opA_extract, opA_buildSlice, opA_indexAddr, opA_fieldAddr, aeval_int, aeval_bool, aeval_tmp, aeval_nilSlice, aeval_nilPointer, aeval_nilFunc, aeval_func, List.getD_cons_zero, List.getD_cons_succ, arK_val, arK_skip, arK_enter, arK_round, valK_some, valK_none, List.set_cons_zero, List.set_cons_succ, opsK_some, Option.map_some, Option.map_none, seqK_normal, seqK_ret, seqK_exit, blockK_normal, blockK_ret, blockK_exit, loopK_normal, loopK_ret, loopK_exit, List.getElem?_cons_zero, List.getElem?_cons_succ, Option.bind_some, reduceCtorEq, if_false, if_true, pickK_bool, condK_true, condK_false, endK_ret, endK_normal, resultsA_tmp, resultsA_nil, resVal, Option.some.injEq, Bool.true_eq_false, Bool.false_eq_true, List.map_cons, List.map_nil, binA_add, binA_sub, binA_mul, binA_lss, binA_leq, binA_gtr, binA_geq, binA_eql, binA_neq, callA_builtin, max_int, min_int, loadK_pointer, storeK_pointer, IntWalk.i64_in, IntWalk.i64_quo, binA_quo, binA_rem, Int.tmod_eq_emod_of_nonneg, loadA_rowK, storeA_int hsz3, putK_cell, rowK_cell ag3, rowK_row ag3, boxA_cell, al3, get_empty, next_empty, AH.get_set, AH.get_push, AH.next_set, AH.next_push, resultsA_cell, resK_pointer, roundA_G, roundG_loop, asgK_normal, bodyK_loop, ended_some, endRK_normal, endRK_ret, endRK_exit, rangeK_E, rangeE_ready, rangeE_done, rangeH, setAll, shut_nil, shut_cons, shutK_defs, endK_shut, outK_some, AH.get_kill, AH.next_kill, evalRegion_G, drawG_ok, drawK_all, trace_cons, trace_nil, traceK_some, List.all_cons, List.all_nil, sameRead_K, sameK_plain, sameK_guard, wantK_some, veqK_val, veq_int, veq_bool, veq_pointer, veq_slice, veq_nilSlice, Bool.and_true, Bool.and_self, List.getLast?_cons_cons, List.getLast?_singleton, len_slice one22, indexAddrA_one one22, ixK_slice, append_one one22, apK_nil, apK_some, apB_row, oneOf_row, bs22, Nat.reduceLeDiff, and_self, and_true, true_and, Int.reduceToNat, Int.reduceNe, List.take_succ_cons, List.take_zero, List.take_nil, List.length_cons, List.length_nil, List.cons_append, List.nil_append, Int.reduceLE, Int.reduceLT, Int.reduceEq, Int.reduceNeg, Int.reduceAdd, Int.reduceSub, Int.reduceMul, Int.reduceDiv, Nat.reduceAdd, Nat.reduceEqDiff, decide_true, decide_false, T17, r17, ranges, Try.f17, Option.getD_some, evalC_draw, st7, st8, pr7, pr8, st13, st14, pr13, pr14, yieldedA_lit, callA_value, env_code, callA_func _ _ _ _ _ _ b18, callA_func _ _ _ _ _ _ b20, callA_func _ _ _ _ _ _ b29, env_call_ov ovA18, env_call_ov ovA20, env_call_ov ovA29, g29_nil, g1_int (f := lvl), g1_int (f := spn), c1, c2, evalC_rangeG, rangeG_func b31, env_call o31, e, h0, h1, h2, h3, h4, a9, w0, w1, w2, hn]
        have e1 : ptrOf n = 9 := by unfold ptrOf; omega
        have e2 : way n = [(n - 72) / 64, (n - 72) % 64] := by unfold way; rw [if_neg (by omega), if_neg (by omega), if_pos (by omega)]
        unfold Post17
        rw [e1, e2]
        exact ⟨8, _, rfl, fun h => by simp [hn, ints]⟩
      · have hf : fst (10 : Nat) = 4168 := rfl
        have hs : spn (lvl (10 : Nat)) = 262144 := rfl
        rw [hf] at h2 hj hj'
        rw [hs] at hj'
        replace h1 : h'.get 1 = some (cell1 (.int .i64 10) 3) := h1
        simp (maxSteps := 1000000) (disch := omega) only [pad, evalC_seq, evalC_region, evalC_cond, evalC_ret, evalC_skip, evalC_label, evalC_exit, evalC_scope, evalC_block, evalC_loop, evalC_draw, runOps_cons, runOps_nil, stepOp_eq, stepVal_plain, stepVal_guard, yieldedA_lit, opA_assign, opA_move, opA_binOp, opA_pick, opA_call, opA_alloc, opA_box, opA_load, opA_store, opA_extract, opA_buildSlice, opA_indexAddr, opA_fieldAddr, aeval_int, aeval_bool, aeval_tmp, aeval_nilSlice, aeval_nilPointer, aeval_nilFunc, aeval_func, List.getD_cons_zero, List.getD_cons_succ, arK_val, arK_skip, arK_enter, arK_round, valK_some, valK_none, List.set_cons_zero, List.set_cons_succ, opsK_some, Option.map_some, Option.map_none, seqK_normal, seqK_ret, seqK_exit, blockK_normal, blockK_ret, blockK_exit, loopK_normal, loopK_ret, loopK_exit, List.getElem?_cons_zero, List.getElem?_cons_succ, Option.bind_some, reduceCtorEq, if_false, if_true, pickK_bool, condK_true, condK_false, endK_ret, endK_normal, resultsA_tmp, resultsA_nil, resVal, Option.some.injEq, Bool.true_eq_false, Bool.false_eq_true, List.map_cons, List.map_nil, binA_add, binA_sub, binA_mul, binA_lss, binA_leq, binA_gtr, binA_geq, binA_eql, binA_neq, callA_builtin, max_int, min_int, loadK_pointer, storeK_pointer, IntWalk.i64_in, IntWalk.i64_quo, binA_quo, binA_rem, Int.tmod_eq_emod_of_nonneg, loadA_rowK, storeA_int hsz3, putK_cell, rowK_cell ag3, rowK_row ag3, boxA_cell, al3, get_empty, next_empty, AH.get_set, AH.get_push, AH.next_set, AH.next_push, resultsA_cell, resK_pointer, roundA_G, roundG_loop, asgK_normal, bodyK_loop, ended_some, endRK_normal, endRK_ret, endRK_exit, rangeK_E, rangeE_ready, rangeE_done, rangeH, setAll, shut_nil, shut_cons, shutK_defs, endK_shut, outK_some, AH.get_kill, AH.next_kill, evalRegion_G, drawG_ok, drawK_all, trace_cons, trace_nil, traceK_some, List.all_cons, List.all_nil, sameRead_K, sameK_plain, sameK_guard, wantK_some, veqK_val, veq_int, veq_bool, veq_pointer, veq_slice, veq_nilSlice, Bool.and_true, Bool.and_self, List.getLast?_cons_cons, List.getLast?_singleton, len_slice one22, indexAddrA_one one22, ixK_slice, append_one one22, apK_nil, apK_some, apB_row, oneOf_row, bs22, Nat.reduceLeDiff, and_self, and_true, true_and, Int.reduceToNat, Int.reduceNe, List.take_succ_cons, List.take_zero, List.take_nil, List.length_cons, List.length_nil, List.cons_append, List.nil_append, Int.reduceLE, Int.reduceLT, Int.reduceEq, Int.reduceNeg, Int.reduceAdd, Int.reduceSub, Int.reduceMul, Int.reduceDiv, Nat.reduceAdd, Nat.reduceEqDiff, decide_true, decide_false, T17, r17, ranges, Try.f17, Option.getD_some, evalC_draw, st7, st8, pr7, pr8, st13, st14, pr13, pr14, yieldedA_lit, callA_value, env_code, callA_func _ _ _ _ _ _ b18, callA_func _ _ _ _ _ _ b20, callA_func _ _ _ _ _ _ b29, env_call_ov ovA18, env_call_ov ovA20, env_call_ov ovA29, g29_nil, g1_int (f := lvl), g1_int (f := spn), c1, c2, evalC_rangeG, rangeG_func b31, env_call o31, e, h0, h1, h2, h3, h4, a10, w0, w1, w2, w3, hn]
        have e1 : ptrOf n = 10 := by unfold ptrOf; omega
        have e2 : way n = [(n - 4168) / 4096, (n - 4168) % 4096 / 64, (n - 4168) % 4096 % 64] := by
          unfold way
          rw [if_neg (by omega), if_neg (by omega), if_neg (by omega)]
          rw [show (n - 4168) % 4096 / 64 = (n - 4168) / 64 % 64 by omega, show (n - 4168) % 4096 % 64 = (n - 4168) % 64 by omega]
        unfold Post17
        rw [e1, e2]
        exact ⟨10, _, rfl, fun h => by simp [hn, ints]⟩

theorem e17l (n : Int) (hn : n < 0) : (callFn Try.prog (env Try.prog ovA 0) 17 ⟨[.int .i64 n]⟩ ⟨.leaf, 0⟩).map (·.1) = some (.tuple ⟨[.int .i64 0, .slice none 0 0, .int .i64 100]⟩) := by
  rw [callFn_eq Try.func17 rfl]
  have c1 : decide (n < 0) = true := by simpa using hn
  simp (maxSteps := 1000000) (disch := omega) only [pad, evalC_seq, evalC_region, evalC_cond, evalC_ret, evalC_skip, evalC_label, evalC_exit, evalC_scope, evalC_block, evalC_loop, evalC_draw, runOps_cons, runOps_nil, stepOp_eq, stepVal_plain, stepVal_guard, yieldedA_lit, opA_assign, opA_move, opA_binOp, opA_pick, opA_call, opA_alloc, opA_box, opA_load, opA_store, opA_extract, opA_buildSlice, opA_indexAddr, opA_fieldAddr, aeval_int, aeval_bool, aeval_tmp, aeval_nilSlice, aeval_nilPointer, aeval_nilFunc, aeval_func, List.getD_cons_zero, List.getD_cons_succ, arK_val, arK_skip, arK_enter, arK_round, valK_some, valK_none, List.set_cons_zero, List.set_cons_succ, opsK_some, Option.map_some, Option.map_none, seqK_normal, seqK_ret, seqK_exit, blockK_normal, blockK_ret, blockK_exit, loopK_normal, loopK_ret, loopK_exit, List.getElem?_cons_zero, List.getElem?_cons_succ, Option.bind_some, reduceCtorEq, if_false, if_true, pickK_bool, condK_true, condK_false, endK_ret, endK_normal, resultsA_tmp, resultsA_nil, resVal, Option.some.injEq, Bool.true_eq_false, Bool.false_eq_true, List.map_cons, List.map_nil, binA_add, binA_sub, binA_mul, binA_lss, binA_leq, binA_gtr, binA_geq, binA_eql, binA_neq, callA_builtin, max_int, min_int, loadK_pointer, storeK_pointer, IntWalk.i64_in, IntWalk.i64_quo, binA_quo, binA_rem, Int.tmod_eq_emod_of_nonneg, loadA_rowK, storeA_int hsz3, putK_cell, rowK_cell ag3, rowK_row ag3, boxA_cell, al3, get_empty, next_empty, AH.get_set, AH.get_push, AH.next_set, AH.next_push, resultsA_cell, resK_pointer, roundA_G, roundG_loop, asgK_normal, bodyK_loop, ended_some, endRK_normal, endRK_ret, endRK_exit, rangeK_E, rangeE_ready, rangeE_done, rangeH, setAll, shut_nil, shut_cons, shutK_defs, endK_shut, outK_some, AH.get_kill, AH.next_kill, evalRegion_G, drawG_ok, drawK_all, trace_cons, trace_nil, traceK_some, List.all_cons, List.all_nil, sameRead_K, sameK_plain, sameK_guard, wantK_some, veqK_val, veq_int, veq_bool, veq_pointer, veq_slice, veq_nilSlice, Bool.and_true, Bool.and_self, List.getLast?_cons_cons, List.getLast?_singleton, len_slice one22, indexAddrA_one one22, ixK_slice, append_one one22, apK_nil, apK_some, apB_row, oneOf_row, bs22, Nat.reduceLeDiff, and_self, and_true, true_and, Int.reduceToNat, Int.reduceNe, List.take_succ_cons, List.take_zero, List.take_nil, List.length_cons, List.length_nil, List.cons_append, List.nil_append, Int.reduceLE, Int.reduceLT, Int.reduceEq, Int.reduceNeg, Int.reduceAdd, Int.reduceSub, Int.reduceMul, Int.reduceDiv, Nat.reduceAdd, Nat.reduceEqDiff, decide_true, decide_false, Try.f17, yieldedA_lit, c1]
theorem e17r (n : Int) (hn : 65536 ≤ n) : (callFn Try.prog (env Try.prog ovA 0) 17 ⟨[.int .i64 n]⟩ ⟨.leaf, 0⟩).map (·.1) = some (.tuple ⟨[.int .i64 0, .slice none 0 0, .int .i64 100]⟩) := by
  rw [callFn_eq Try.func17 rfl]
  have c1 : decide (n < 0) = false := by simp; omega
  have c2 : decide (65536 ≤ n) = true := by simpa using hn
  simp (maxSteps := 1000000) (disch := omega) only [pad, evalC_seq, evalC_region, evalC_cond, evalC_ret, evalC_skip, evalC_label, evalC_exit, evalC_scope, evalC_block, evalC_loop, evalC_draw, runOps_cons, runOps_nil, stepOp_eq, stepVal_plain, stepVal_guard, yieldedA_lit, opA_assign, opA_move, opA_binOp, opA_pick, opA_call, opA_alloc, opA_box, opA_load, opA_store, opA_extract, opA_buildSlice, opA_indexAddr, opA_fieldAddr, aeval_int, aeval_bool, aeval_tmp, aeval_nilSlice, aeval_nilPointer, aeval_nilFunc, aeval_func, List.getD_cons_zero, List.getD_cons_succ, arK_val, arK_skip, arK_enter, arK_round, valK_some, valK_none, List.set_cons_zero, List.set_cons_succ, opsK_some, Option.map_some, Option.map_none, seqK_normal, seqK_ret, seqK_exit, blockK_normal, blockK_ret, blockK_exit, loopK_normal, loopK_ret, loopK_exit, List.getElem?_cons_zero, List.getElem?_cons_succ, Option.bind_some, reduceCtorEq, if_false, if_true, pickK_bool, condK_true, condK_false, endK_ret, endK_normal, resultsA_tmp, resultsA_nil, resVal, Option.some.injEq, Bool.true_eq_false, Bool.false_eq_true, List.map_cons, List.map_nil, binA_add, binA_sub, binA_mul, binA_lss, binA_leq, binA_gtr, binA_geq, binA_eql, binA_neq, callA_builtin, max_int, min_int, loadK_pointer, storeK_pointer, IntWalk.i64_in, IntWalk.i64_quo, binA_quo, binA_rem, Int.tmod_eq_emod_of_nonneg, loadA_rowK, storeA_int hsz3, putK_cell, rowK_cell ag3, rowK_row ag3, boxA_cell, al3, get_empty, next_empty, AH.get_set, AH.get_push, AH.next_set, AH.next_push, resultsA_cell, resK_pointer, roundA_G, roundG_loop, asgK_normal, bodyK_loop, ended_some, endRK_normal, endRK_ret, endRK_exit, rangeK_E, rangeE_ready, rangeE_done, rangeH, setAll, shut_nil, shut_cons, shutK_defs, endK_shut, outK_some, AH.get_kill, AH.next_kill, evalRegion_G, drawG_ok, drawK_all, trace_cons, trace_nil, traceK_some, List.all_cons, List.all_nil, sameRead_K, sameK_plain, sameK_guard, wantK_some, veqK_val, veq_int, veq_bool, veq_pointer, veq_slice, veq_nilSlice, Bool.and_true, Bool.and_self, List.getLast?_cons_cons, List.getLast?_singleton, len_slice one22, indexAddrA_one one22, ixK_slice, append_one one22, apK_nil, apK_some, apB_row, oneOf_row, bs22, Nat.reduceLeDiff, and_self, and_true, true_and, Int.reduceToNat, Int.reduceNe, List.take_succ_cons, List.take_zero, List.take_nil, List.length_cons, List.length_nil, List.cons_append, List.nil_append, Int.reduceLE, Int.reduceLT, Int.reduceEq, Int.reduceNeg, Int.reduceAdd, Int.reduceSub, Int.reduceMul, Int.reduceDiv, Nat.reduceAdd, Nat.reduceEqDiff, decide_true, decide_false, Try.f17, yieldedA_lit, c1, c2]

def g17 (args : Array Value) (h : AH) : Option (Value × AH) :=
  match args with
  | ⟨[.int .i64 n]⟩ =>
    if -9223372036854775808 ≤ n ∧ n ≤ 9223372036854775807 then
      if n < 0 ∨ 65536 ≤ n then some (.tuple ⟨[.int .i64 0, .slice none 0 0, .int .i64 100]⟩, h)
      else if way n = [] then some (.tuple ⟨[.int .i64 (ptrOf n), .slice none 0 0, .int .i64 0]⟩, h)
      else some (.tuple ⟨[.int .i64 (ptrOf n), .slice (some ⟨h.next, 0, none⟩) (way n).length (way n).length, .int .i64 0]⟩, h.push (rowObj (ints (way n)) 3 1 true))
    else none
  | _ => none

theorem ints_plain (l : List Int) : (ints l).all plain1 = true := by
  simp [ints, plain1]

theorem s17 : SumOk Try.prog 17 g17 := SumOk.closed quiet mix ovA_ok fun args h v h₁ hg hn => by
  unfold g17 at hg
  split at hg
  · rename_i n
    split at hg
    · rename_i hp
      split at hg
      · rename_i hr
        cases hg
        have hc := hr.elim (e17l n) (e17r n)
        obtain ⟨r, e1, e2⟩ := Option.map_eq_some_iff.1 hc
        refine ⟨by simp [plain1], 0, r.1, r.2, _, e1, HC.none h _ hn, ?_⟩
        rw [e2]
        exact VVtuple3 (.int _ _) (.nilSlice _ _) (.int _ _)
      · rename_i hr
        obtain ⟨m, b, h₂, e, hb⟩ := e17 n (by omega) (by omega)
        split at hg
        · rename_i hw
          cases hg
          refine ⟨by simp [plain1], m, _, h₂, _, e, HC.none h _ hn, ?_⟩
          rw [hw]
          exact VVtuple3 (.int _ _) (.nilSlice _ _) (.int _ _)
        · rename_i hw
          cases hg
          refine ⟨by simp [plain1], m, _, h₂, _, e, HC.one hn rfl (hb hw) (OO.plainRow _ (ints_plain _) _ _ _), ?_⟩
          refine VVtuple3 (.int _ _) ?_ (.int _ _)
          unfold sl
          rw [if_neg hw]
          have := VV.slice (N := h.next + 1) (π := one1 h.next b h₂.next) ⟨h.next, 0, none⟩ (way n).length (way n).length (Nat.lt_succ_self _)
          simpa [one1] using this
    · cases hg
  · cases hg
end Go.Proofs.Paths
