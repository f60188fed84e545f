/-
  Paths: Same.
-/
import Derived.Test.YtdbhiobpeeeppaaPathsP8
namespace Go.Proofs.Paths
set_option linter.unusedSimpArgs false
set_option linter.unusedVariables false
open Go.AE
set_option maxRecDepth 100000
set_option maxHeartbeats 2000000

theorem st15_6 : drawStatic (regionOf Try.f15 6) = true := by kernel_rfl
theorem pr15_6 : drawPairs (regionOf Try.f15 6) = [] := by kernel_rfl
noncomputable def l15 : Code := (loopsOf (Try.f15.body.getD .skip)).getD .skip

/-- From the place on, the numbers are the same. -/
theorem loop15 (la lb : List Int) (hlen : la.length = lb.length) (hsz : la.length ≤ 1000000) (a b : Option Addr) (ca cb : Nat) (h : AH)
    (ha : la ≠ [] → ∃ β o, a = some ⟨β, o, none⟩ ∧ ∀ i x, la[i]? = some x → rowK Try.prog 3 (o + i) (h.get β) = some (.int .i64 x))
    (hb : lb ≠ [] → ∃ β o, b = some ⟨β, o, none⟩ ∧ ∀ i x, lb[i]? = some x → rowK Try.prog 3 (o + i) (h.get β) = some (.int .i64 x)) :
    ∀ (r k : Nat), k + r = la.length → ∀ y2 y3 x6 x7 x8 x9 x10 x11 x12 x13 x14 x15 x16 x17 x18 x19 x20 x21 x22 x23 x24 x25 : Value, ∃ tmps' ex, evalC Try.prog (env Try.prog ovB (r + 2)) none (.loop l15) ⟨⟨[.slice a la.length ca, .slice b lb.length cb, y2, y3, .bool false, .int .i64 k, x6, x7, x8, x9, x10, x11, x12, x13, x14, x15, x16, x17, x18, x19, x20, x21, x22, x23, x24, x25]⟩, [], h⟩ = some (ex, ⟨⟨tmps'⟩, [], h⟩) ∧ tmps'.length = 26 ∧
      ((ex = .exit 0 ∧ la.drop k = lb.drop k) ∨ (ex = .ret ∧ tmps'.getD 4 undef = .bool false ∧ la.drop k ≠ lb.drop k)) := by
  have st6 := st15_6
  have pr6 := pr15_6
  simp only [regionOf, regionAt, Try.f15, Option.getD_some, Nat.reduceEqDiff, if_true, if_false] at st6 pr6
  intro r
  induction r with
  | zero =>
    intro k hk y2 y3 x6 x7 x8 x9 x10 x11 x12 x13 x14 x15 x16 x17 x18 x19 x20 x21 x22 x23 x24 x25
    have c1 : decide ((k : Int) < (la.length : Int)) = false := by simp; omega
    simp (maxSteps := 1000000) (disch := omega) only [pad, evalC_seq, evalC_region, evalC_cond, evalC_ret, evalC_skip, evalC_label, evalC_exit, evalC_scope, evalC_block, evalC_loop, evalC_draw, runOps_cons, runOps_nil, stepOp_eq, stepVal_plain, stepVal_guard, yieldedA_lit, opA_assign, opA_move, opA_binOp, opA_pick, opA_call, opA_alloc, opA_box, opA_load, opA_store, opA_extract, opA_buildSlice, opA_indexAddr, opA_fieldAddr, aeval_int, aeval_bool, aeval_tmp, aeval_nilSlice, aeval_nilPointer, aeval_nilFunc, aeval_func, List.getD_cons_zero, List.getD_cons_succ, arK_val, arK_skip, arK_enter, arK_round, valK_some, valK_none, List.set_cons_zero, List.set_cons_succ, opsK_some, Option.map_some, Option.map_none, seqK_normal, seqK_ret, seqK_exit, blockK_normal, blockK_ret, blockK_exit, loopK_normal, loopK_ret, loopK_exit, List.getElem?_cons_zero, List.getElem?_cons_succ, Option.bind_some, reduceCtorEq, if_false, if_true, pickK_bool, condK_true, condK_false, endK_ret, endK_normal, resultsA_tmp, resultsA_nil, resVal, Option.some.injEq, Bool.true_eq_false, Bool.false_eq_true, List.map_cons, List.map_nil, binA_add, binA_sub, binA_mul, binA_lss, binA_leq, binA_gtr, binA_geq, binA_eql, binA_neq, callA_builtin, max_int, min_int, loadK_pointer, storeK_pointer, IntWalk.i64_in, IntWalk.i64_quo, binA_quo, binA_rem, Int.tmod_eq_emod_of_nonneg, loadA_rowK, storeA_int hsz3, putK_cell, rowK_cell ag3, rowK_row ag3, boxA_cell, al3, get_empty, next_empty, AH.get_set, AH.get_push, AH.next_set, AH.next_push, resultsA_cell, resK_pointer, roundA_G, roundG_loop, asgK_normal, bodyK_loop, ended_some, endRK_normal, endRK_ret, endRK_exit, rangeK_E, rangeE_ready, rangeE_done, rangeH, setAll, shut_nil, shut_cons, shutK_defs, endK_shut, outK_some, AH.get_kill, AH.next_kill, evalRegion_G, drawG_ok, drawK_all, trace_cons, trace_nil, traceK_some, List.all_cons, List.all_nil, sameRead_K, sameK_plain, sameK_guard, wantK_some, veqK_val, veq_int, veq_bool, veq_pointer, veq_slice, veq_nilSlice, Bool.and_true, Bool.and_self, List.getLast?_cons_cons, List.getLast?_singleton, len_slice one22, indexAddrA_one one22, ixK_slice, append_one one22, apK_nil, apK_some, apB_row, oneOf_row, bs22, Nat.reduceLeDiff, and_self, and_true, true_and, Int.reduceToNat, Int.reduceNe, List.take_succ_cons, List.take_zero, List.take_nil, List.length_cons, List.length_nil, List.cons_append, List.nil_append, Int.reduceLE, Int.reduceLT, Int.reduceEq, Int.reduceNeg, Int.reduceAdd, Int.reduceSub, Int.reduceMul, Int.reduceDiv, Nat.reduceAdd, Nat.reduceEqDiff, decide_true, decide_false, l15, loopsOf, Option.getD_some, c1, Try.f15, yieldedA_lit, env_code, evalC_draw, st6, pr6]
    refine ⟨_, _, rfl, rfl, .inl ⟨rfl, ?_⟩⟩
    rw [List.drop_eq_nil_of_le (by omega), List.drop_eq_nil_of_le (by omega)]
  | succ r ih =>
    intro k hk y2 y3 x6 x7 x8 x9 x10 x11 x12 x13 x14 x15 x16 x17 x18 x19 x20 x21 x22 x23 x24 x25
    have c1 : decide ((k : Int) < (la.length : Int)) = true := by simp; omega
    have hka : la[k]? = some (la[k]'(by omega)) := by simp
    have hkb : lb[k]? = some (lb[k]'(by omega)) := by simp
    obtain ⟨β, o, rfl, hra⟩ := ha (by intro e; subst e; simp at hk)
    obtain ⟨γ, q, rfl, hrb⟩ := hb (by intro e; rw [e] at hlen; simp only [List.length_nil] at hlen; omega)
    have r1 := hra k _ hka
    have r2 := hrb k _ hkb
    generalize hx : la[k]'(by omega) = x at r1 hka
    generalize hy : lb[k]'(by omega) = y at r2 hkb
    have i1 : 0 ≤ (k : Int) ∧ (k : Int) < (la.length : Int) := by omega
    have i2 : 0 ≤ (k : Int) ∧ (k : Int) < (lb.length : Int) := by omega
    by_cases e : x = y
    · have c2 : decide (x ≠ y) = false := by simpa using e
      rw [evalC_loop]
      simp (maxSteps := 1000000) (disch := omega) only [pad, evalC_seq, evalC_region, evalC_cond, evalC_ret, evalC_skip, evalC_label, evalC_exit, evalC_scope, evalC_block, evalC_draw, runOps_cons, runOps_nil, stepOp_eq, stepVal_plain, stepVal_guard, yieldedA_lit, opA_assign, opA_move, opA_binOp, opA_pick, opA_call, opA_alloc, opA_box, opA_load, opA_store, opA_extract, opA_buildSlice, opA_indexAddr, opA_fieldAddr, aeval_int, aeval_bool, aeval_tmp, aeval_nilSlice, aeval_nilPointer, aeval_nilFunc, aeval_func, List.getD_cons_zero, List.getD_cons_succ, arK_val, arK_skip, arK_enter, arK_round, valK_some, valK_none, List.set_cons_zero, List.set_cons_succ, opsK_some, Option.map_some, Option.map_none, seqK_normal, seqK_ret, seqK_exit, blockK_normal, blockK_ret, blockK_exit, loopK_normal, loopK_ret, loopK_exit, List.getElem?_cons_zero, List.getElem?_cons_succ, Option.bind_some, reduceCtorEq, if_false, if_true, pickK_bool, condK_true, condK_false, endK_ret, endK_normal, resultsA_tmp, resultsA_nil, resVal, Option.some.injEq, Bool.true_eq_false, Bool.false_eq_true, List.map_cons, List.map_nil, binA_add, binA_sub, binA_mul, binA_lss, binA_leq, binA_gtr, binA_geq, binA_eql, binA_neq, callA_builtin, max_int, min_int, loadK_pointer, storeK_pointer, IntWalk.i64_in, IntWalk.i64_quo, binA_quo, binA_rem, Int.tmod_eq_emod_of_nonneg, loadA_rowK, storeA_int hsz3, putK_cell, rowK_cell ag3, rowK_row ag3, boxA_cell, al3, get_empty, next_empty, AH.get_set, AH.get_push, AH.next_set, AH.next_push, resultsA_cell, resK_pointer, roundA_G, roundG_loop, asgK_normal, bodyK_loop, ended_some, endRK_normal, endRK_ret, endRK_exit, rangeK_E, rangeE_ready, rangeE_done, rangeH, setAll, shut_nil, shut_cons, shutK_defs, endK_shut, outK_some, AH.get_kill, AH.next_kill, evalRegion_G, drawG_ok, drawK_all, trace_cons, trace_nil, traceK_some, List.all_cons, List.all_nil, sameRead_K, sameK_plain, sameK_guard, wantK_some, veqK_val, veq_int, veq_bool, veq_pointer, veq_slice, veq_nilSlice, Bool.and_true, Bool.and_self, List.getLast?_cons_cons, List.getLast?_singleton, len_slice one22, indexAddrA_one one22, ixK_slice, append_one one22, apK_nil, apK_some, apB_row, oneOf_row, bs22, Nat.reduceLeDiff, and_self, and_true, true_and, Int.reduceToNat, Int.reduceNe, List.take_succ_cons, List.take_zero, List.take_nil, List.length_cons, List.length_nil, List.cons_append, List.nil_append, Int.reduceLE, Int.reduceLT, Int.reduceEq, Int.reduceNeg, Int.reduceAdd, Int.reduceSub, Int.reduceMul, Int.reduceDiv, Nat.reduceAdd, Nat.reduceEqDiff, decide_true, decide_false, l15, loopsOf, Option.getD_some, c1, c2, r1, r2, i1, i2, Int.toNat_natCast, Try.f15, yieldedA_lit, env_code, evalC_draw, st6, pr6]
      have hd : ∀ l : List Int, ∀ z, l[k]? = some z → l.drop k = z :: l.drop (k + 1) := fun l z hz => by
        obtain ⟨hlt, rfl⟩ := List.getElem?_eq_some_iff.1 hz
        exact List.drop_eq_getElem_cons hlt
      have he := ih (k + 1) (by omega) y2 y3 x6 x7 x8 x9 x10 (.int .i64 k) (.slice (some ⟨β, o, none⟩) la.length ca) (.int .i64 la.length) (.bool true) (.int .i64 k) (.int .i64 (k + 1)) (.slice (some ⟨β, o, none⟩) la.length ca) (.int .i64 k) (.pointer (some ⟨β, o + k, none⟩)) (.int .i64 x) (.slice (some ⟨γ, q, none⟩) lb.length cb) (.int .i64 k) (.pointer (some ⟨γ, q + k, none⟩)) (.int .i64 y) (.bool false)
      rw [hd la x hka, hd lb y hkb]
      rw [e] at he
      rw [e]
      obtain ⟨t', ex, he1, hn1, he2⟩ := he
      have hk1 : ((k + 1 : Nat) : Int) = (k : Int) + 1 := rfl
      simp only [l15, loopsOf, Try.f15, Option.getD_some, hk1] at he1
      refine ⟨t', ex, by with_reducible exact he1, hn1, ?_⟩
      rcases he2 with ⟨h1, h2⟩ | ⟨h1, h2, h3⟩
      · exact .inl ⟨h1, by rw [h2]⟩
      · exact .inr ⟨h1, h2, by simpa using h3⟩
    · have c2 : decide (x ≠ y) = true := by simpa using e
      rw [evalC_loop]
      simp (maxSteps := 1000000) (disch := omega) only [pad, evalC_seq, evalC_region, evalC_cond, evalC_ret, evalC_skip, evalC_label, evalC_exit, evalC_scope, evalC_block, evalC_draw, runOps_cons, runOps_nil, stepOp_eq, stepVal_plain, stepVal_guard, yieldedA_lit, opA_assign, opA_move, opA_binOp, opA_pick, opA_call, opA_alloc, opA_box, opA_load, opA_store, opA_extract, opA_buildSlice, opA_indexAddr, opA_fieldAddr, aeval_int, aeval_bool, aeval_tmp, aeval_nilSlice, aeval_nilPointer, aeval_nilFunc, aeval_func, List.getD_cons_zero, List.getD_cons_succ, arK_val, arK_skip, arK_enter, arK_round, valK_some, valK_none, List.set_cons_zero, List.set_cons_succ, opsK_some, Option.map_some, Option.map_none, seqK_normal, seqK_ret, seqK_exit, blockK_normal, blockK_ret, blockK_exit, loopK_normal, loopK_ret, loopK_exit, List.getElem?_cons_zero, List.getElem?_cons_succ, Option.bind_some, reduceCtorEq, if_false, if_true, pickK_bool, condK_true, condK_false, endK_ret, endK_normal, resultsA_tmp, resultsA_nil, resVal, Option.some.injEq, Bool.true_eq_false, Bool.false_eq_true, List.map_cons, List.map_nil, binA_add, binA_sub, binA_mul, binA_lss, binA_leq, binA_gtr, binA_geq, binA_eql, binA_neq, callA_builtin, max_int, min_int, loadK_pointer, storeK_pointer, IntWalk.i64_in, IntWalk.i64_quo, binA_quo, binA_rem, Int.tmod_eq_emod_of_nonneg, loadA_rowK, storeA_int hsz3, putK_cell, rowK_cell ag3, rowK_row ag3, boxA_cell, al3, get_empty, next_empty, AH.get_set, AH.get_push, AH.next_set, AH.next_push, resultsA_cell, resK_pointer, roundA_G, roundG_loop, asgK_normal, bodyK_loop, ended_some, endRK_normal, endRK_ret, endRK_exit, rangeK_E, rangeE_ready, rangeE_done, rangeH, setAll, shut_nil, shut_cons, shutK_defs, endK_shut, outK_some, AH.get_kill, AH.next_kill, evalRegion_G, drawG_ok, drawK_all, trace_cons, trace_nil, traceK_some, List.all_cons, List.all_nil, sameRead_K, sameK_plain, sameK_guard, wantK_some, veqK_val, veq_int, veq_bool, veq_pointer, veq_slice, veq_nilSlice, Bool.and_true, Bool.and_self, List.getLast?_cons_cons, List.getLast?_singleton, len_slice one22, indexAddrA_one one22, ixK_slice, append_one one22, apK_nil, apK_some, apB_row, oneOf_row, bs22, Nat.reduceLeDiff, and_self, and_true, true_and, Int.reduceToNat, Int.reduceNe, List.take_succ_cons, List.take_zero, List.take_nil, List.length_cons, List.length_nil, List.cons_append, List.nil_append, Int.reduceLE, Int.reduceLT, Int.reduceEq, Int.reduceNeg, Int.reduceAdd, Int.reduceSub, Int.reduceMul, Int.reduceDiv, Nat.reduceAdd, Nat.reduceEqDiff, decide_true, decide_false, l15, loopsOf, Option.getD_some, c1, c2, r1, r2, i1, i2, Int.toNat_natCast, Try.f15, yieldedA_lit, env_code, evalC_draw, st6, pr6]
      have hd : ∀ l : List Int, ∀ z, l[k]? = some z → l.drop k = z :: l.drop (k + 1) := fun l z hz => by
        obtain ⟨hlt, rfl⟩ := List.getElem?_eq_some_iff.1 hz
        exact List.drop_eq_getElem_cons hlt
      refine ⟨_, _, rfl, rfl, .inr ⟨rfl, rfl, ?_⟩⟩
      rw [hd la x hka, hd lb y hkb]
      intro h; exact e (List.cons.inj h).1

def same (la lb : List Int) : Bool := decide (la = lb)
theorem e15 (la lb : List Int) (hla : la.length ≤ 1000000) (hlb : lb.length ≤ 1000000) (va vb : Value) (h : AH) (ha : readInts h va = some la) (hb : readInts h vb = some lb) :
    callFn Try.prog (env Try.prog ovB (la.length + 2)) 15 ⟨[va, vb]⟩ h = some (.bool (same la lb), h) := by
  obtain ⟨a, n, c, rfl, hn, hra⟩ := readInts_spec ha ag3
  obtain ⟨b, m, d, rfl, hm, hrb⟩ := readInts_spec hb ag3
  subst hn hm
  rw [callFn_eq Try.func15 rfl]
  by_cases c1 : (la.length : Int) = (lb.length : Int)
  · have c1' : decide ((la.length : Int) ≠ (lb.length : Int)) = false := by simpa using c1
    have hl := loop15 la lb (by omega) hla a b c d h hra hrb la.length 0 (by omega) undef undef (.slice a la.length c) (.int .i64 la.length) (.slice b lb.length d) (.int .i64 lb.length) (.bool false) undef undef undef undef undef undef undef undef undef undef undef undef undef undef undef
    simp only [l15, loopsOf, Try.f15, Option.getD_some, m0, List.drop_zero] at hl
    obtain ⟨t, ex, he, hlen, hp⟩ := hl
    rcases hp with ⟨rfl, h2⟩ | ⟨rfl, h2, h3⟩
    · have hs : (t.set 4 (.bool true)).getD 4 undef = .bool true := by simp [List.getD, hlen]
      simp (maxSteps := 1000000) (disch := omega) only [pad, evalC_seq, evalC_region, evalC_cond, evalC_ret, evalC_skip, evalC_label, evalC_exit, evalC_scope, evalC_block, evalC_draw, runOps_cons, runOps_nil, stepOp_eq, stepVal_plain, stepVal_guard, yieldedA_lit, opA_assign, opA_move, opA_binOp, opA_pick, opA_call, opA_alloc, opA_box, opA_load, opA_store, opA_extract, opA_buildSlice, opA_indexAddr, opA_fieldAddr, aeval_int, aeval_bool, aeval_tmp, aeval_nilSlice, aeval_nilPointer, aeval_nilFunc, aeval_func, List.getD_cons_zero, List.getD_cons_succ, arK_val, arK_skip, arK_enter, arK_round, valK_some, valK_none, List.set_cons_zero, List.set_cons_succ, opsK_some, Option.map_some, Option.map_none, seqK_normal, seqK_ret, seqK_exit, blockK_normal, blockK_ret, blockK_exit, loopK_normal, loopK_ret, loopK_exit, List.getElem?_cons_zero, List.getElem?_cons_succ, Option.bind_some, reduceCtorEq, if_false, if_true, pickK_bool, condK_true, condK_false, endK_ret, endK_normal, resultsA_tmp, resultsA_nil, resVal, Option.some.injEq, Bool.true_eq_false, Bool.false_eq_true, List.map_cons, List.map_nil, binA_add, binA_sub, binA_mul, binA_lss, binA_leq, binA_gtr, binA_geq, binA_eql, binA_neq, callA_builtin, max_int, min_int, loadK_pointer, storeK_pointer, IntWalk.i64_in, IntWalk.i64_quo, binA_quo, binA_rem, Int.tmod_eq_emod_of_nonneg, loadA_rowK, storeA_int hsz3, putK_cell, rowK_cell ag3, rowK_row ag3, boxA_cell, al3, get_empty, next_empty, AH.get_set, AH.get_push, AH.next_set, AH.next_push, resultsA_cell, resK_pointer, roundA_G, roundG_loop, asgK_normal, bodyK_loop, ended_some, endRK_normal, endRK_ret, endRK_exit, rangeK_E, rangeE_ready, rangeE_done, rangeH, setAll, shut_nil, shut_cons, shutK_defs, endK_shut, outK_some, AH.get_kill, AH.next_kill, evalRegion_G, drawG_ok, drawK_all, trace_cons, trace_nil, traceK_some, List.all_cons, List.all_nil, sameRead_K, sameK_plain, sameK_guard, wantK_some, veqK_val, veq_int, veq_bool, veq_pointer, veq_slice, veq_nilSlice, Bool.and_true, Bool.and_self, List.getLast?_cons_cons, List.getLast?_singleton, len_slice one22, indexAddrA_one one22, ixK_slice, append_one one22, apK_nil, apK_some, apB_row, oneOf_row, bs22, Nat.reduceLeDiff, and_self, and_true, true_and, Int.reduceToNat, Int.reduceNe, List.take_succ_cons, List.take_zero, List.take_nil, List.length_cons, List.length_nil, List.cons_append, List.nil_append, Int.reduceLE, Int.reduceLT, Int.reduceEq, Int.reduceNeg, Int.reduceAdd, Int.reduceSub, Int.reduceMul, Int.reduceDiv, Nat.reduceAdd, Nat.reduceEqDiff, decide_true, decide_false, c1', he, hs, Try.f15, yieldedA_lit, env_code, evalC_draw]
      have : same la lb = true := by unfold same; simp [h2]
      rw [this]
    · simp (maxSteps := 1000000) (disch := omega) only [pad, evalC_seq, evalC_region, evalC_cond, evalC_ret, evalC_skip, evalC_label, evalC_exit, evalC_scope, evalC_block, evalC_draw, runOps_cons, runOps_nil, stepOp_eq, stepVal_plain, stepVal_guard, yieldedA_lit, opA_assign, opA_move, opA_binOp, opA_pick, opA_call, opA_alloc, opA_box, opA_load, opA_store, opA_extract, opA_buildSlice, opA_indexAddr, opA_fieldAddr, aeval_int, aeval_bool, aeval_tmp, aeval_nilSlice, aeval_nilPointer, aeval_nilFunc, aeval_func, List.getD_cons_zero, List.getD_cons_succ, arK_val, arK_skip, arK_enter, arK_round, valK_some, valK_none, List.set_cons_zero, List.set_cons_succ, opsK_some, Option.map_some, Option.map_none, seqK_normal, seqK_ret, seqK_exit, blockK_normal, blockK_ret, blockK_exit, loopK_normal, loopK_ret, loopK_exit, List.getElem?_cons_zero, List.getElem?_cons_succ, Option.bind_some, reduceCtorEq, if_false, if_true, pickK_bool, condK_true, condK_false, endK_ret, endK_normal, resultsA_tmp, resultsA_nil, resVal, Option.some.injEq, Bool.true_eq_false, Bool.false_eq_true, List.map_cons, List.map_nil, binA_add, binA_sub, binA_mul, binA_lss, binA_leq, binA_gtr, binA_geq, binA_eql, binA_neq, callA_builtin, max_int, min_int, loadK_pointer, storeK_pointer, IntWalk.i64_in, IntWalk.i64_quo, binA_quo, binA_rem, Int.tmod_eq_emod_of_nonneg, loadA_rowK, storeA_int hsz3, putK_cell, rowK_cell ag3, rowK_row ag3, boxA_cell, al3, get_empty, next_empty, AH.get_set, AH.get_push, AH.next_set, AH.next_push, resultsA_cell, resK_pointer, roundA_G, roundG_loop, asgK_normal, bodyK_loop, ended_some, endRK_normal, endRK_ret, endRK_exit, rangeK_E, rangeE_ready, rangeE_done, rangeH, setAll, shut_nil, shut_cons, shutK_defs, endK_shut, outK_some, AH.get_kill, AH.next_kill, evalRegion_G, drawG_ok, drawK_all, trace_cons, trace_nil, traceK_some, List.all_cons, List.all_nil, sameRead_K, sameK_plain, sameK_guard, wantK_some, veqK_val, veq_int, veq_bool, veq_pointer, veq_slice, veq_nilSlice, Bool.and_true, Bool.and_self, List.getLast?_cons_cons, List.getLast?_singleton, len_slice one22, indexAddrA_one one22, ixK_slice, append_one one22, apK_nil, apK_some, apB_row, oneOf_row, bs22, Nat.reduceLeDiff, and_self, and_true, true_and, Int.reduceToNat, Int.reduceNe, List.take_succ_cons, List.take_zero, List.take_nil, List.length_cons, List.length_nil, List.cons_append, List.nil_append, Int.reduceLE, Int.reduceLT, Int.reduceEq, Int.reduceNeg, Int.reduceAdd, Int.reduceSub, Int.reduceMul, Int.reduceDiv, Nat.reduceAdd, Nat.reduceEqDiff, decide_true, decide_false, c1', he, h2, Try.f15, yieldedA_lit, env_code, evalC_draw]
      have : same la lb = false := by unfold same; simp [h3]
      rw [this]
  · have c1' : decide ((la.length : Int) ≠ (lb.length : Int)) = true := by simpa using c1
    simp (maxSteps := 1000000) (disch := omega) only [pad, evalC_seq, evalC_region, evalC_cond, evalC_ret, evalC_skip, evalC_label, evalC_exit, evalC_scope, evalC_block, evalC_draw, runOps_cons, runOps_nil, stepOp_eq, stepVal_plain, stepVal_guard, yieldedA_lit, opA_assign, opA_move, opA_binOp, opA_pick, opA_call, opA_alloc, opA_box, opA_load, opA_store, opA_extract, opA_buildSlice, opA_indexAddr, opA_fieldAddr, aeval_int, aeval_bool, aeval_tmp, aeval_nilSlice, aeval_nilPointer, aeval_nilFunc, aeval_func, List.getD_cons_zero, List.getD_cons_succ, arK_val, arK_skip, arK_enter, arK_round, valK_some, valK_none, List.set_cons_zero, List.set_cons_succ, opsK_some, Option.map_some, Option.map_none, seqK_normal, seqK_ret, seqK_exit, blockK_normal, blockK_ret, blockK_exit, loopK_normal, loopK_ret, loopK_exit, List.getElem?_cons_zero, List.getElem?_cons_succ, Option.bind_some, reduceCtorEq, if_false, if_true, pickK_bool, condK_true, condK_false, endK_ret, endK_normal, resultsA_tmp, resultsA_nil, resVal, Option.some.injEq, Bool.true_eq_false, Bool.false_eq_true, List.map_cons, List.map_nil, binA_add, binA_sub, binA_mul, binA_lss, binA_leq, binA_gtr, binA_geq, binA_eql, binA_neq, callA_builtin, max_int, min_int, loadK_pointer, storeK_pointer, IntWalk.i64_in, IntWalk.i64_quo, binA_quo, binA_rem, Int.tmod_eq_emod_of_nonneg, loadA_rowK, storeA_int hsz3, putK_cell, rowK_cell ag3, rowK_row ag3, boxA_cell, al3, get_empty, next_empty, AH.get_set, AH.get_push, AH.next_set, AH.next_push, resultsA_cell, resK_pointer, roundA_G, roundG_loop, asgK_normal, bodyK_loop, ended_some, endRK_normal, endRK_ret, endRK_exit, rangeK_E, rangeE_ready, rangeE_done, rangeH, setAll, shut_nil, shut_cons, shutK_defs, endK_shut, outK_some, AH.get_kill, AH.next_kill, evalRegion_G, drawG_ok, drawK_all, trace_cons, trace_nil, traceK_some, List.all_cons, List.all_nil, sameRead_K, sameK_plain, sameK_guard, wantK_some, veqK_val, veq_int, veq_bool, veq_pointer, veq_slice, veq_nilSlice, Bool.and_true, Bool.and_self, List.getLast?_cons_cons, List.getLast?_singleton, len_slice one22, indexAddrA_one one22, ixK_slice, append_one one22, apK_nil, apK_some, apB_row, oneOf_row, bs22, Nat.reduceLeDiff, and_self, and_true, true_and, Int.reduceToNat, Int.reduceNe, List.take_succ_cons, List.take_zero, List.take_nil, List.length_cons, List.length_nil, List.cons_append, List.nil_append, Int.reduceLE, Int.reduceLT, Int.reduceEq, Int.reduceNeg, Int.reduceAdd, Int.reduceSub, Int.reduceMul, Int.reduceDiv, Nat.reduceAdd, Nat.reduceEqDiff, decide_true, decide_false, c1', Try.f15, yieldedA_lit, env_code, evalC_draw]
    have : same la lb = false := by unfold same; simp; intro e; rw [e] at c1; exact c1 rfl
    rw [this]

def g15 (args : Array Value) (h : AH) : Option (Value × AH) :=
  match args with
  | ⟨[va, vb]⟩ =>
    match readInts h va, readInts h vb with
    | some la, some lb => if la.length ≤ 1000000 ∧ lb.length ≤ 1000000 then some (.bool (same la lb), h) else none
    | _, _ => none
  | _ => none
theorem s15 : SumOk Try.prog 15 g15 := SumOk.exact quiet mix ovB_ok fun args h v h₁ hg => by
  unfold g15 at hg
  split at hg
  · split at hg
    · rename_i ha hb
      split at hg
      · rename_i hp; cases hg; exact ⟨_, e15 _ _ hp.1 hp.2 _ _ _ ha hb⟩
      · cases hg
    · cases hg
  · cases hg

/-- What is said of all that the laws call. -/
def ovC : Over := table [(18, g1 lvl), (20, g1 spn), (22, g1 frs), (24, g1 nxt), (26, g1 ind), (17, g17), (13, g13), (15, g15)]
theorem ovC_ok : OverOk Try.prog ovC := OverOk.table fun p hp => by
  simp only [List.mem_cons, List.not_mem_nil, or_false] at hp
  rcases hp with rfl | rfl | rfl | rfl | rfl | rfl | rfl | rfl
  · exact s18
  · exact s20
  · exact s22
  · exact s24
  · exact s26
  · exact s17
  · exact s13
  · exact s15
theorem e28 : (callFn Try.prog (env Try.prog ovC 2) 28 ⟨[]⟩ ⟨.leaf, 0⟩).map (·.1) = some (.bool true) := by kernel_rfl
def g28 (args : Array Value) (h : AH) : Option (Value × AH) :=
  match args with
  | ⟨[]⟩ => some (.bool true, h)
  | _ => none
theorem s28 : SumOk Try.prog 28 g28 := SumOk.plain quiet mix ovC_ok fun args h v h₁ hg => by
  unfold g28 at hg
  split at hg
  · cases hg
    obtain ⟨r, hr, e⟩ := Option.map_eq_some_iff.1 e28
    exact ⟨rfl, by simp, .inl rfl, 2, r.2, by rw [hr, ← e]⟩
  · cases hg
end Go.Proofs.Paths
