/-
  Ring: the law of the row.
-/
import Derived.Test.YtlabmlaenkdikaaRingR5
namespace Go.Proofs.Ring
set_option linter.unusedSimpArgs false
set_option linter.unusedVariables false
open Go.AE
set_option maxRecDepth 100000
set_option maxHeartbeats 2000000

theorem rowK_part {t : TypeId} (ha : isAggT Try.prog t = some false) (off : Nat) (l : List Value) (n : Nat) (hn : l.length = n) (e : TypeId) (d : Value) : rowK Try.prog t off (some (partRow l n e d)) = l[off]? := by
  subst hn
  unfold rowK partRow
  simp only [ha]
  by_cases h : off < l.length
  · simp only [h, if_true, get_ofRow]
    simp [List.getD, h]
  · simp only [h, if_false]
    simp [h]
theorem plc_next {s t n : Int} (hs : 0 < s) : (if plc s t n + 1 = s + 1 then 1 else plc s t n + 1) = plc s t (n + 1) := by
  unfold plc
  have h1 := Int.emod_nonneg (t + n) (show s ≠ 0 by omega)
  have h2 := Int.emod_lt_of_pos (t + n) hs
  have e : (t + (n + 1)) % s = ((t + n) % s + 1) % s := by rw [Int.emod_add_emod]; congr 1; omega
  rw [e]
  by_cases c : (t + n) % s + 1 = s
  · rw [c, if_pos (by omega), Int.emod_self]; rfl
  · have e2 := Int.emod_eq_of_lt (a := (t + n) % s + 1) (b := s) (by omega) (by omega)
    rw [if_neg (by omega), e2]
theorem plc_in {s t n : Int} (hs : 0 < s) : 1 ≤ plc s t n ∧ plc s t n ≤ s := by
  unfold plc
  have h1 := Int.emod_nonneg (t + n) (show s ≠ 0 by omega)
  have h2 := Int.emod_lt_of_pos (t + n) hs
  omega
theorem vals_get (s t u : Int) (m k : Nat) (hk : k < m) : (ints (vals s t u m))[k]? = some (.int .i64 (plc s t (u + k))) := by
  simp [ints, vals, hk]

noncomputable def l4 : Code := (loopsOf (Try.f4.body.getD .skip)).getD .skip
noncomputable def l4i : Code := (loopsOf l4).getD .skip
theorem loop4i {s t u : Int} (hs : 0 < s) (hs2 : s ≤ 255) (m B : Nat) (hm : m ≤ 1000) (h : AH) (hB : h.get B = some (partRow (ints (vals s t u m)) m 3 (.int .i64 0))) : ∀ (r k : Nat), k + r = m → ∀ N, r + 2 ≤ N → ∀ (T : List Value), T.length = 103 → T.getD 0 undef = .int .i64 (s + 1) → T.getD 8 undef = .int .i64 (plc s t (u + k)) →
      T.getD 9 undef = .slice (some ⟨B, 0, none⟩) m m → T.getD 11 undef = .int .i64 k →
      ∃ T', evalC Try.prog (env Try.prog ov0 N) none (.loop l4i) ⟨⟨T⟩, [], h⟩ = some (.exit 2, ⟨⟨T'⟩, [], h⟩) ∧ T'.length = 103 ∧ T'.getD 8 undef = .int .i64 (plc s t (u + m)) ∧ ∀ j, j < 8 → T'.getD j undef = T.getD j undef := by
  intro r
  induction r with
  | zero =>
    intro k hk N hN T hT t0 t8 t9 t11
    obtain ⟨N, rfl⟩ : ∃ M, N = M + 1 := ⟨N - 1, by omega⟩
    have e : k = m := by omega
    subst e
    have c1 : decide ((k : Int) < (k : Int)) = false := by simp
    rw [evalC_loop]
    simp (maxSteps := 1000000) (disch := omega) only [stepVal_guardT, yD_some, yK_bool, yK_undef, getD_set', List.length_set, Nat.reduceLT, evalC_drawT, drawL_eq, trace_cons, trace_nil, traceK_some, pad, evalC_seq, evalC_region, evalC_cond, evalC_ret, evalC_skip, evalC_label, evalC_exit, evalC_scope, evalC_block, evalC_draw, runOps_cons, runOps_nil, stepOp_eq, stepVal_plain, yieldedA_lit, opA_assign, opA_move, opA_binOp, opA_pick, opA_call, opA_alloc, opA_box, opA_load, opA_store, opA_extract, opA_buildSlice, opA_indexAddr, opA_fieldAddr, aeval_int, aeval_bool, aeval_tmp, aeval_nilSlice, aeval_nilPointer, aeval_nilFunc, aeval_func, arK_val, arK_skip, arK_enter, arK_round, valK_some, valK_none, opsK_some, Option.map_some, Option.map_none, seqK_normal, seqK_ret, seqK_exit, blockK_normal, blockK_ret, blockK_exit, loopK_normal, loopK_ret, loopK_exit, List.getElem?_cons_zero, List.getElem?_cons_succ, Option.bind_some, reduceCtorEq, if_false, if_true, pickK_bool, condK_true, condK_false, endK_ret, endK_normal, resultsA_tmp, resultsA_nil, resVal, Option.some.injEq, Bool.true_eq_false, Bool.false_eq_true, List.map_cons, List.map_nil, binA_add, binA_sub, binA_mul, binA_lss, binA_leq, binA_gtr, binA_geq, binA_eql, binA_neq, callA_builtin, max_int, min_int, loadK_pointer, storeK_pointer, IntWalk.i64_in, IntWalk.i64_quo, binA_quo, binA_rem, Int.tmod_eq_emod_of_nonneg, loadA_rowK, storeA_int hsz3, putK_cell, rowK_cell ag3, rowK_row ag3, boxA_cell, al3, get_empty, next_empty, AH.get_set, AH.get_push, AH.next_set, AH.next_push, resultsA_cell, resK_pointer, roundA_G, roundG_loop, asgK_normal, bodyK_loop, ended_some, endRK_normal, endRK_ret, endRK_exit, rangeK_E, rangeE_ready, rangeE_done, rangeH, setAll, shut_nil, shut_cons, shutK_defs, endK_shut, outK_some, AH.get_kill, AH.next_kill, evalRegion_G, drawG_ok, drawK_all, trace_cons, trace_nil, traceK_some, List.all_cons, List.all_nil, sameRead_K, sameK_plain, sameK_guard, wantK_some, veqK_val, veq_int, veq_bool, veq_pointer, veq_slice, veq_nilSlice, Bool.and_true, Bool.and_self, List.getLast?_cons_cons, List.getLast?_singleton, len_slice one22, indexAddrA_one one22, ixK_slice, append_one one22, apK_nil, apK_some, apB_row, oneOf_row, bs22, Nat.reduceLeDiff, and_self, and_true, true_and, Int.reduceToNat, Int.reduceNe, List.take_succ_cons, List.take_zero, List.take_nil, List.length_cons, List.length_nil, List.cons_append, List.nil_append, Int.reduceLE, Int.reduceLT, Int.reduceEq, Int.reduceNeg, Int.reduceAdd, Int.reduceSub, Int.reduceMul, Int.reduceDiv, Nat.reduceAdd, Nat.reduceEqDiff, decide_true, decide_false, l4i, l4, loopsOf, Option.getD_some, c1, Try.f4, hT, t9, t11]
    exact ⟨_, rfl, by simp only [getD_set', List.length_set, Nat.reduceEqDiff, Nat.reduceLT, if_true, if_false, hT], by simp only [getD_set', List.length_set, Nat.reduceEqDiff, Nat.reduceLT, if_true, if_false, t8], fun j hj => by simp (disch := omega) only [setD_ne]⟩
  | succ r ih =>
    simp only [l4i, l4, loopsOf, Try.f4, Option.getD_some] at ih
    intro k hk N hN T hT t0 t8 t9 t11
    obtain ⟨N, rfl⟩ : ∃ M, N = M + 1 := ⟨N - 1, by omega⟩
    have c1 : decide ((k : Int) < (m : Int)) = true := by simp; omega
    have i1 : 0 ≤ (k : Int) ∧ (k : Int) < (m : Int) := by omega
    have r1 : rowK Try.prog 3 (0 + k) (h.get B) = some (.int .i64 (plc s t (u + k))) := by
      rw [hB, rowK_part ag3 _ _ _ (by simp [ints, vals_len]), Nat.zero_add]; exact vals_get s t u m k (by omega)
    have d1 : decide (plc s t (u + k) ≠ plc s t (u + k)) = false := by simp
    have hk1 : ((k + 1 : Nat) : Int) = (k : Int) + 1 := rfl
    have hp := plc_in (t := t) (n := u + k) hs
    have hx := plc_next (t := t) (n := u + k) hs
    have en : u + k + 1 = u + ((k + 1 : Nat) : Int) := by omega
    rw [en] at hx
    rw [evalC_loop]
    by_cases z : plc s t (u + k) + 1 = s + 1
    · have d2 : decide (plc s t (u + k) + 1 = s + 1) = true := by simpa using z
      rw [if_pos z] at hx
      simp (maxSteps := 1000000) (disch := omega) only [stepVal_guardT, yD_some, yK_bool, yK_undef, getD_set', List.length_set, Nat.reduceLT, evalC_drawT, drawL_eq, trace_cons, trace_nil, traceK_some, pad, evalC_seq, evalC_region, evalC_cond, evalC_ret, evalC_skip, evalC_label, evalC_exit, evalC_scope, evalC_block, evalC_draw, runOps_cons, runOps_nil, stepOp_eq, stepVal_plain, yieldedA_lit, opA_assign, opA_move, opA_binOp, opA_pick, opA_call, opA_alloc, opA_box, opA_load, opA_store, opA_extract, opA_buildSlice, opA_indexAddr, opA_fieldAddr, aeval_int, aeval_bool, aeval_tmp, aeval_nilSlice, aeval_nilPointer, aeval_nilFunc, aeval_func, arK_val, arK_skip, arK_enter, arK_round, valK_some, valK_none, opsK_some, Option.map_some, Option.map_none, seqK_normal, seqK_ret, seqK_exit, blockK_normal, blockK_ret, blockK_exit, loopK_normal, loopK_ret, loopK_exit, List.getElem?_cons_zero, List.getElem?_cons_succ, Option.bind_some, reduceCtorEq, if_false, if_true, pickK_bool, condK_true, condK_false, endK_ret, endK_normal, resultsA_tmp, resultsA_nil, resVal, Option.some.injEq, Bool.true_eq_false, Bool.false_eq_true, List.map_cons, List.map_nil, binA_add, binA_sub, binA_mul, binA_lss, binA_leq, binA_gtr, binA_geq, binA_eql, binA_neq, callA_builtin, max_int, min_int, loadK_pointer, storeK_pointer, IntWalk.i64_in, IntWalk.i64_quo, binA_quo, binA_rem, Int.tmod_eq_emod_of_nonneg, loadA_rowK, storeA_int hsz3, putK_cell, rowK_cell ag3, rowK_row ag3, boxA_cell, al3, get_empty, next_empty, AH.get_set, AH.get_push, AH.next_set, AH.next_push, resultsA_cell, resK_pointer, roundA_G, roundG_loop, asgK_normal, bodyK_loop, ended_some, endRK_normal, endRK_ret, endRK_exit, rangeK_E, rangeE_ready, rangeE_done, rangeH, setAll, shut_nil, shut_cons, shutK_defs, endK_shut, outK_some, AH.get_kill, AH.next_kill, evalRegion_G, drawG_ok, drawK_all, trace_cons, trace_nil, traceK_some, List.all_cons, List.all_nil, sameRead_K, sameK_plain, sameK_guard, wantK_some, veqK_val, veq_int, veq_bool, veq_pointer, veq_slice, veq_nilSlice, Bool.and_true, Bool.and_self, List.getLast?_cons_cons, List.getLast?_singleton, len_slice one22, indexAddrA_one one22, ixK_slice, append_one one22, apK_nil, apK_some, apB_row, oneOf_row, bs22, Nat.reduceLeDiff, and_self, and_true, true_and, Int.reduceToNat, Int.reduceNe, List.take_succ_cons, List.take_zero, List.take_nil, List.length_cons, List.length_nil, List.cons_append, List.nil_append, Int.reduceLE, Int.reduceLT, Int.reduceEq, Int.reduceNeg, Int.reduceAdd, Int.reduceSub, Int.reduceMul, Int.reduceDiv, Nat.reduceAdd, Nat.reduceEqDiff, decide_true, decide_false, l4i, l4, loopsOf, Option.getD_some, c1, d1, d2, i1, r1, Try.f4, hT, t0, t8, t9, t11, Int.toNat_natCast, env_code]
      refine Exists.imp (fun T' hh => ⟨hh.1, hh.2.1, hh.2.2.1, fun j hj => (hh.2.2.2 j hj).trans (by simp (disch := omega) only [setD_ne])⟩) (ih (k + 1) (by omega) N (by omega) _ ?_ ?_ ?_ ?_ ?_)
      · simp only [getD_set', List.length_set, Nat.reduceEqDiff, Nat.reduceLT, if_true, if_false, hT]
      · simp only [getD_set', List.length_set, Nat.reduceEqDiff, Nat.reduceLT, if_true, if_false, hT, t0]
      · simp only [getD_set', List.length_set, Nat.reduceEqDiff, Nat.reduceLT, if_true, if_false, hT]; rw [← hx]
      · simp only [getD_set', List.length_set, Nat.reduceEqDiff, Nat.reduceLT, if_true, if_false, hT, t9]
      · simp only [getD_set', List.length_set, Nat.reduceEqDiff, Nat.reduceLT, if_true, if_false, hT, hk1]
    · have d2 : decide (plc s t (u + k) + 1 = s + 1) = false := by simpa using z
      rw [if_neg z] at hx
      simp (maxSteps := 1000000) (disch := omega) only [stepVal_guardT, yD_some, yK_bool, yK_undef, getD_set', List.length_set, Nat.reduceLT, evalC_drawT, drawL_eq, trace_cons, trace_nil, traceK_some, pad, evalC_seq, evalC_region, evalC_cond, evalC_ret, evalC_skip, evalC_label, evalC_exit, evalC_scope, evalC_block, evalC_draw, runOps_cons, runOps_nil, stepOp_eq, stepVal_plain, yieldedA_lit, opA_assign, opA_move, opA_binOp, opA_pick, opA_call, opA_alloc, opA_box, opA_load, opA_store, opA_extract, opA_buildSlice, opA_indexAddr, opA_fieldAddr, aeval_int, aeval_bool, aeval_tmp, aeval_nilSlice, aeval_nilPointer, aeval_nilFunc, aeval_func, arK_val, arK_skip, arK_enter, arK_round, valK_some, valK_none, opsK_some, Option.map_some, Option.map_none, seqK_normal, seqK_ret, seqK_exit, blockK_normal, blockK_ret, blockK_exit, loopK_normal, loopK_ret, loopK_exit, List.getElem?_cons_zero, List.getElem?_cons_succ, Option.bind_some, reduceCtorEq, if_false, if_true, pickK_bool, condK_true, condK_false, endK_ret, endK_normal, resultsA_tmp, resultsA_nil, resVal, Option.some.injEq, Bool.true_eq_false, Bool.false_eq_true, List.map_cons, List.map_nil, binA_add, binA_sub, binA_mul, binA_lss, binA_leq, binA_gtr, binA_geq, binA_eql, binA_neq, callA_builtin, max_int, min_int, loadK_pointer, storeK_pointer, IntWalk.i64_in, IntWalk.i64_quo, binA_quo, binA_rem, Int.tmod_eq_emod_of_nonneg, loadA_rowK, storeA_int hsz3, putK_cell, rowK_cell ag3, rowK_row ag3, boxA_cell, al3, get_empty, next_empty, AH.get_set, AH.get_push, AH.next_set, AH.next_push, resultsA_cell, resK_pointer, roundA_G, roundG_loop, asgK_normal, bodyK_loop, ended_some, endRK_normal, endRK_ret, endRK_exit, rangeK_E, rangeE_ready, rangeE_done, rangeH, setAll, shut_nil, shut_cons, shutK_defs, endK_shut, outK_some, AH.get_kill, AH.next_kill, evalRegion_G, drawG_ok, drawK_all, trace_cons, trace_nil, traceK_some, List.all_cons, List.all_nil, sameRead_K, sameK_plain, sameK_guard, wantK_some, veqK_val, veq_int, veq_bool, veq_pointer, veq_slice, veq_nilSlice, Bool.and_true, Bool.and_self, List.getLast?_cons_cons, List.getLast?_singleton, len_slice one22, indexAddrA_one one22, ixK_slice, append_one one22, apK_nil, apK_some, apB_row, oneOf_row, bs22, Nat.reduceLeDiff, and_self, and_true, true_and, Int.reduceToNat, Int.reduceNe, List.take_succ_cons, List.take_zero, List.take_nil, List.length_cons, List.length_nil, List.cons_append, List.nil_append, Int.reduceLE, Int.reduceLT, Int.reduceEq, Int.reduceNeg, Int.reduceAdd, Int.reduceSub, Int.reduceMul, Int.reduceDiv, Nat.reduceAdd, Nat.reduceEqDiff, decide_true, decide_false, l4i, l4, loopsOf, Option.getD_some, c1, d1, d2, i1, r1, Try.f4, hT, t0, t8, t9, t11, Int.toNat_natCast, env_code]
      refine Exists.imp (fun T' hh => ⟨hh.1, hh.2.1, hh.2.2.1, fun j hj => (hh.2.2.2 j hj).trans (by simp (disch := omega) only [setD_ne])⟩) (ih (k + 1) (by omega) N (by omega) _ ?_ ?_ ?_ ?_ ?_)
      · simp only [getD_set', List.length_set, Nat.reduceEqDiff, Nat.reduceLT, if_true, if_false, hT]
      · simp only [getD_set', List.length_set, Nat.reduceEqDiff, Nat.reduceLT, if_true, if_false, hT, t0]
      · simp only [getD_set', List.length_set, Nat.reduceEqDiff, Nat.reduceLT, if_true, if_false, hT]; rw [← hx]
      · simp only [getD_set', List.length_set, Nat.reduceEqDiff, Nat.reduceLT, if_true, if_false, hT, t9]
      · simp only [getD_set', List.length_set, Nat.reduceEqDiff, Nat.reduceLT, if_true, if_false, hT, hk1]

theorem give_any {b : Nat} {s t u m : Int} {h : AH} {l : List Int} {a : Option Addr} (hb : h.get b = some (ringObj s t u)) (hk : Ok s t u) (hR : Rn l a b h) :
    ∃ t' u', (givH b s t u m h).get b = some (ringObj s t' u') ∧ Ok s t' u' ∧ Rn l a b (givH b s t u m h) ∧ (givH b s t u m h).next = h.next := by
  unfold givH
  by_cases c : m < 0 ∨ u < m
  · rw [if_pos c]; exact ⟨t, u, hb, hk, hR, rfl⟩
  · rw [if_neg c]
    exact ⟨_, _, by rw [AH.get_set, if_pos rfl], ok_give hk (by omega) (by omega), hR.keep (Nat.le_refl _) (fun γ _ h2 => by rw [AH.get_set, if_neg h2]), rfl⟩
theorem step4_g (l : List Int) (hf : fine l) (a : Option Addr) (ca : Nat) (b : Nat) (s : Int) (C : Code) (r k : Nat) (hC : C = l4)
    (ih : ∀ (T : List Value) (h : AH) (t u : Int), T.length = 103 → T.getD 0 undef = .int .i64 (s + 1) → T.getD 1 undef = .slice a l.length ca → T.getD 5 undef = .pointer (some ⟨b, 0, none⟩) → T.getD 7 undef = .int .i64 ((k : Int) + 1) →
      Rn l a b h → h.get b = some (ringObj s t u) → Ok s t u → b < h.next → ∃ T' h', evalC Try.prog (env Try.prog ov0 (r + 400)) none (.loop C) ⟨⟨T⟩, [], h⟩ = some (.exit 0, ⟨⟨T'⟩, [], h'⟩) ∧ T'.length = 103)
    (hkl : k < l.length) (x : Int) (hx : l[k]? = some x) (T : List Value) (h : AH) (t u : Int) (hT : T.length = 103) (t0 : T.getD 0 undef = .int .i64 (s + 1)) (t1 : T.getD 1 undef = .slice a l.length ca) (t5 : T.getD 5 undef = .pointer (some ⟨b, 0, none⟩)) (t7 : T.getD 7 undef = .int .i64 k)
    (hR : Rn l a b h) (hb : h.get b = some (ringObj s t u)) (hk : Ok s t u) (hlb : b < h.next) (hl2 : l.length ≤ 1000) (x1 : x ≤ 0) :
    ∃ T' h', evalC Try.prog (env Try.prog ov0 (r + 1 + 400)) none (.loop C) ⟨⟨T⟩, [], h⟩ = some (.exit 0, ⟨⟨T'⟩, [], h'⟩) ∧ T'.length = 103 := by
  subst hC
  simp only [l4, loopsOf, Try.f4, Option.getD_some] at ih ⊢
  have hR0 := hR
  have hk' := hk
  unfold Ok at hk'
  obtain ⟨β, o, rfl, hβ, hβb, hra⟩ := hR (by intro e; rw [e] at hkl; simp at hkl)
  have r1 := hra k _ hx
  have hxb := hf x (List.mem_of_getElem? hx)
  have c1 : decide ((k : Int) < (l.length : Int)) = true := by simp; omega
  have i1 : 0 ≤ (k : Int) ∧ (k : Int) < (l.length : Int) := by omega
  have hk1 : ((k + 1 : Nat) : Int) = (k : Int) + 1 := rfl
  have ge := e10 (m := 0 - (x + 1)) hb hk (by omega) ov0 (o0 _) (r + 399)
  have d1 : decide (x ≤ 0) = true := by simpa using x1
  obtain ⟨t', u', y1, y2, y3, y4⟩ := give_any (m := 0 - (x + 1)) hb hk hR0
  generalize givH b s t u (0 - (x + 1)) h = H at ge y1 y3 y4
  generalize giv s t u (0 - (x + 1)) = c at ge
  rw [evalC_loop]
  simp (maxSteps := 1000000) (disch := omega) only [stepVal_guardT, yD_some, yK_bool, yK_undef, getD_set', List.length_set, Nat.reduceLT, evalC_drawT, drawL_eq, trace_cons, trace_nil, traceK_some, pad, evalC_seq, evalC_region, evalC_cond, evalC_ret, evalC_skip, evalC_label, evalC_exit, evalC_scope, evalC_block, evalC_draw, runOps_cons, runOps_nil, stepOp_eq, stepVal_plain, yieldedA_lit, opA_assign, opA_move, opA_binOp, opA_pick, opA_call, opA_alloc, opA_box, opA_load, opA_store, opA_extract, opA_buildSlice, opA_indexAddr, opA_fieldAddr, aeval_int, aeval_bool, aeval_tmp, aeval_nilSlice, aeval_nilPointer, aeval_nilFunc, aeval_func, arK_val, arK_skip, arK_enter, arK_round, valK_some, valK_none, opsK_some, Option.map_some, Option.map_none, seqK_normal, seqK_ret, seqK_exit, blockK_normal, blockK_ret, blockK_exit, loopK_normal, loopK_ret, loopK_exit, List.getElem?_cons_zero, List.getElem?_cons_succ, Option.bind_some, reduceCtorEq, if_false, if_true, pickK_bool, condK_true, condK_false, endK_ret, endK_normal, resultsA_tmp, resultsA_nil, resVal, Option.some.injEq, Bool.true_eq_false, Bool.false_eq_true, List.map_cons, List.map_nil, binA_add, binA_sub, binA_mul, binA_lss, binA_leq, binA_gtr, binA_geq, binA_eql, binA_neq, callA_builtin, max_int, min_int, loadK_pointer, storeK_pointer, IntWalk.i64_in, IntWalk.i64_quo, binA_quo, binA_rem, Int.tmod_eq_emod_of_nonneg, loadA_rowK, storeA_int hsz3, putK_cell, rowK_cell ag3, rowK_row ag3, boxA_cell, al3, get_empty, next_empty, AH.get_set, AH.get_push, AH.next_set, AH.next_push, resultsA_cell, resK_pointer, roundA_G, roundG_loop, asgK_normal, bodyK_loop, ended_some, endRK_normal, endRK_ret, endRK_exit, rangeK_E, rangeE_ready, rangeE_done, rangeH, setAll, shut_nil, shut_cons, shutK_defs, endK_shut, outK_some, AH.get_kill, AH.next_kill, evalRegion_G, drawG_ok, drawK_all, trace_cons, trace_nil, traceK_some, List.all_cons, List.all_nil, sameRead_K, sameK_plain, sameK_guard, wantK_some, veqK_val, veq_int, veq_bool, veq_pointer, veq_slice, veq_nilSlice, Bool.and_true, Bool.and_self, List.getLast?_cons_cons, List.getLast?_singleton, len_slice one22, indexAddrA_one one22, ixK_slice, append_one one22, apK_nil, apK_some, apB_row, oneOf_row, bs22, Nat.reduceLeDiff, and_self, and_true, true_and, Int.reduceToNat, Int.reduceNe, List.take_succ_cons, List.take_zero, List.take_nil, List.length_cons, List.length_nil, List.cons_append, List.nil_append, Int.reduceLE, Int.reduceLT, Int.reduceEq, Int.reduceNeg, Int.reduceAdd, Int.reduceSub, Int.reduceMul, Int.reduceDiv, Nat.reduceAdd, Nat.reduceEqDiff, decide_true, decide_false, hT, t0, t1, t5, t7, c1, i1, r1, Int.toNat_natCast, env_code, opA_neg, negK_int, d1, ge, callA_func _ _ _ _ _ _ b9, callA_func _ _ _ _ _ _ b10, callA_func _ _ _ _ _ _ b11, callA_func _ _ _ _ _ _ b12, callA_func _ _ _ _ _ _ b13, callA_func _ _ _ _ _ _ b14, env_call (o0 _), extractA2]
  refine ih _ _ t' u' ?_ ?_ ?_ ?_ ?_ y3 y1 y2 (by rw [y4]; exact hlb)
  · simp only [getD_set', List.length_set, Nat.reduceEqDiff, Nat.reduceLT, if_true, if_false, hT]
  · simp only [getD_set', List.length_set, Nat.reduceEqDiff, Nat.reduceLT, if_true, if_false, hT, t0]
  · simp only [getD_set', List.length_set, Nat.reduceEqDiff, Nat.reduceLT, if_true, if_false, hT, t1]
  · simp only [getD_set', List.length_set, Nat.reduceEqDiff, Nat.reduceLT, if_true, if_false, hT, t5]
  · simp only [getD_set', List.length_set, Nat.reduceEqDiff, Nat.reduceLT, if_true, if_false, hT]

theorem step4_r (l : List Int) (hf : fine l) (a : Option Addr) (ca : Nat) (b : Nat) (s : Int) (C : Code) (r k : Nat) (hC : C = l4)
    (ih : ∀ (T : List Value) (h : AH) (t u : Int), T.length = 103 → T.getD 0 undef = .int .i64 (s + 1) → T.getD 1 undef = .slice a l.length ca → T.getD 5 undef = .pointer (some ⟨b, 0, none⟩) → T.getD 7 undef = .int .i64 ((k : Int) + 1) →
      Rn l a b h → h.get b = some (ringObj s t u) → Ok s t u → b < h.next → ∃ T' h', evalC Try.prog (env Try.prog ov0 (r + 400)) none (.loop C) ⟨⟨T⟩, [], h⟩ = some (.exit 0, ⟨⟨T'⟩, [], h'⟩) ∧ T'.length = 103)
    (hkl : k < l.length) (x : Int) (hx : l[k]? = some x) (T : List Value) (h : AH) (t u : Int) (hT : T.length = 103) (t0 : T.getD 0 undef = .int .i64 (s + 1)) (t1 : T.getD 1 undef = .slice a l.length ca) (t5 : T.getD 5 undef = .pointer (some ⟨b, 0, none⟩)) (t7 : T.getD 7 undef = .int .i64 k)
    (hR : Rn l a b h) (hb : h.get b = some (ringObj s t u)) (hk : Ok s t u) (hlb : b < h.next) (hl2 : l.length ≤ 1000) (x1 : 1 ≤ x) (x2 : s - u < x) :
    ∃ T' h', evalC Try.prog (env Try.prog ov0 (r + 1 + 400)) none (.loop C) ⟨⟨T⟩, [], h⟩ = some (.exit 0, ⟨⟨T'⟩, [], h'⟩) ∧ T'.length = 103 := by
  subst hC
  simp only [l4, loopsOf, Try.f4, Option.getD_some] at ih ⊢
  have hR0 := hR
  have hk' := hk
  unfold Ok at hk'
  obtain ⟨β, o, rfl, hβ, hβb, hra⟩ := hR (by intro e; rw [e] at hkl; simp at hkl)
  have r1 := hra k _ hx
  have hxb := hf x (List.mem_of_getElem? hx)
  have c1 : decide ((k : Int) < (l.length : Int)) = true := by simp; omega
  have i1 : 0 ≤ (k : Int) ∧ (k : Int) < (l.length : Int) := by omega
  have hk1 : ((k + 1 : Nat) : Int) = (k : Int) + 1 := rfl
  obtain ⟨⟨rv, rh⟩, ge, gn, gg, ⟨q0, _⟩ | ⟨q0, q1, q2⟩⟩ := e11 (m := x) hb hk hxb hlb ov0 (o0 _) (o0 _) (o0 _) (o0 _) (r + 400) (by omega)
  · exact absurd q0 (by unfold tak; rw [if_neg (by omega), if_pos (by omega)]; decide)
  simp only at gn gg q1 q2
  subst q2
  have ht : tak s u x = 120 := by unfold tak; rw [if_neg (by omega), if_pos (by omega)]
  rw [ht] at q1
  subst q1
  have d1 : decide (x ≤ 0) = false := by simp; omega
  have g14 := e14 hb hk ov0 (o0 _) (o0 _) (r + 399)
  have d2 : decide (plc s t u ≠ plc s t u) = false := by simp
  have d0 : decide (((0 : Nat) : Int) ≠ 0) = false := by decide
  have d0' : decide ((120 : Int) ≠ 0) = true := by decide
  rw [evalC_loop]
  simp (maxSteps := 1000000) (disch := omega) only [stepVal_guardT, yD_some, yK_bool, yK_undef, getD_set', List.length_set, Nat.reduceLT, evalC_drawT, drawL_eq, trace_cons, trace_nil, traceK_some, pad, evalC_seq, evalC_region, evalC_cond, evalC_ret, evalC_skip, evalC_label, evalC_exit, evalC_scope, evalC_block, evalC_draw, runOps_cons, runOps_nil, stepOp_eq, stepVal_plain, yieldedA_lit, opA_assign, opA_move, opA_binOp, opA_pick, opA_call, opA_alloc, opA_box, opA_load, opA_store, opA_extract, opA_buildSlice, opA_indexAddr, opA_fieldAddr, aeval_int, aeval_bool, aeval_tmp, aeval_nilSlice, aeval_nilPointer, aeval_nilFunc, aeval_func, arK_val, arK_skip, arK_enter, arK_round, valK_some, valK_none, opsK_some, Option.map_some, Option.map_none, seqK_normal, seqK_ret, seqK_exit, blockK_normal, blockK_ret, blockK_exit, loopK_normal, loopK_ret, loopK_exit, List.getElem?_cons_zero, List.getElem?_cons_succ, Option.bind_some, reduceCtorEq, if_false, if_true, pickK_bool, condK_true, condK_false, endK_ret, endK_normal, resultsA_tmp, resultsA_nil, resVal, Option.some.injEq, Bool.true_eq_false, Bool.false_eq_true, List.map_cons, List.map_nil, binA_add, binA_sub, binA_mul, binA_lss, binA_leq, binA_gtr, binA_geq, binA_eql, binA_neq, callA_builtin, max_int, min_int, loadK_pointer, storeK_pointer, IntWalk.i64_in, IntWalk.i64_quo, binA_quo, binA_rem, Int.tmod_eq_emod_of_nonneg, loadA_rowK, storeA_int hsz3, putK_cell, rowK_cell ag3, rowK_row ag3, boxA_cell, al3, get_empty, next_empty, AH.get_set, AH.get_push, AH.next_set, AH.next_push, resultsA_cell, resK_pointer, roundA_G, roundG_loop, asgK_normal, bodyK_loop, ended_some, endRK_normal, endRK_ret, endRK_exit, rangeK_E, rangeE_ready, rangeE_done, rangeH, setAll, shut_nil, shut_cons, shutK_defs, endK_shut, outK_some, AH.get_kill, AH.next_kill, evalRegion_G, drawG_ok, drawK_all, trace_cons, trace_nil, traceK_some, List.all_cons, List.all_nil, sameRead_K, sameK_plain, sameK_guard, wantK_some, veqK_val, veq_int, veq_bool, veq_pointer, veq_slice, veq_nilSlice, Bool.and_true, Bool.and_self, List.getLast?_cons_cons, List.getLast?_singleton, len_slice one22, indexAddrA_one one22, ixK_slice, append_one one22, apK_nil, apK_some, apB_row, oneOf_row, bs22, Nat.reduceLeDiff, and_self, and_true, true_and, Int.reduceToNat, Int.reduceNe, List.take_succ_cons, List.take_zero, List.take_nil, List.length_cons, List.length_nil, List.cons_append, List.nil_append, Int.reduceLE, Int.reduceLT, Int.reduceEq, Int.reduceNeg, Int.reduceAdd, Int.reduceSub, Int.reduceMul, Int.reduceDiv, Nat.reduceAdd, Nat.reduceEqDiff, decide_true, decide_false, hT, t0, t1, t5, t7, c1, i1, r1, Int.toNat_natCast, env_code, opA_neg, negK_int, d0, d0', d1, d2, ge, g14, callA_func _ _ _ _ _ _ b9, callA_func _ _ _ _ _ _ b10, callA_func _ _ _ _ _ _ b11, callA_func _ _ _ _ _ _ b12, callA_func _ _ _ _ _ _ b13, callA_func _ _ _ _ _ _ b14, env_call (o0 _), extractA2]
  refine ih _ _ t u ?_ ?_ ?_ ?_ ?_ hR0 hb hk hlb
  · simp only [getD_set', List.length_set, Nat.reduceEqDiff, Nat.reduceLT, if_true, if_false, hT]
  · simp only [getD_set', List.length_set, Nat.reduceEqDiff, Nat.reduceLT, if_true, if_false, hT, t0]
  · simp only [getD_set', List.length_set, Nat.reduceEqDiff, Nat.reduceLT, if_true, if_false, hT, t1]
  · simp only [getD_set', List.length_set, Nat.reduceEqDiff, Nat.reduceLT, if_true, if_false, hT, t5]
  · simp only [getD_set', List.length_set, Nat.reduceEqDiff, Nat.reduceLT, if_true, if_false, hT]

theorem step4_t (l : List Int) (hf : fine l) (a : Option Addr) (ca : Nat) (b : Nat) (s : Int) (C : Code) (r k : Nat) (hC : C = l4)
    (ih : ∀ (T : List Value) (h : AH) (t u : Int), T.length = 103 → T.getD 0 undef = .int .i64 (s + 1) → T.getD 1 undef = .slice a l.length ca → T.getD 5 undef = .pointer (some ⟨b, 0, none⟩) → T.getD 7 undef = .int .i64 ((k : Int) + 1) →
      Rn l a b h → h.get b = some (ringObj s t u) → Ok s t u → b < h.next → ∃ T' h', evalC Try.prog (env Try.prog ov0 (r + 400)) none (.loop C) ⟨⟨T⟩, [], h⟩ = some (.exit 0, ⟨⟨T'⟩, [], h'⟩) ∧ T'.length = 103)
    (hkl : k < l.length) (x : Int) (hx : l[k]? = some x) (T : List Value) (h : AH) (t u : Int) (hT : T.length = 103) (t0 : T.getD 0 undef = .int .i64 (s + 1)) (t1 : T.getD 1 undef = .slice a l.length ca) (t5 : T.getD 5 undef = .pointer (some ⟨b, 0, none⟩)) (t7 : T.getD 7 undef = .int .i64 k)
    (hR : Rn l a b h) (hb : h.get b = some (ringObj s t u)) (hk : Ok s t u) (hlb : b < h.next) (hl2 : l.length ≤ 1000) (x1 : 1 ≤ x) (x2 : x ≤ s - u) :
    ∃ T' h', evalC Try.prog (env Try.prog ov0 (r + 1 + 400)) none (.loop C) ⟨⟨T⟩, [], h⟩ = some (.exit 0, ⟨⟨T'⟩, [], h'⟩) ∧ T'.length = 103 := by
  subst hC
  simp only [l4, loopsOf, Try.f4, Option.getD_some] at ih ⊢
  have hR0 := hR
  have hk' := hk
  unfold Ok at hk'
  obtain ⟨β, o, rfl, hβ, hβb, hra⟩ := hR (by intro e; rw [e] at hkl; simp at hkl)
  have r1 := hra k _ hx
  have hxb := hf x (List.mem_of_getElem? hx)
  have c1 : decide ((k : Int) < (l.length : Int)) = true := by simp; omega
  have i1 : 0 ≤ (k : Int) ∧ (k : Int) < (l.length : Int) := by omega
  have hk1 : ((k + 1 : Nat) : Int) = (k : Int) + 1 := rfl
  obtain ⟨⟨rv, rh⟩, ge, gn, gg, ⟨q0, q1, q2, q3, q4⟩ | ⟨q0, _⟩⟩ := e11 (m := x) hb hk hxb hlb ov0 (o0 _) (o0 _) (o0 _) (o0 _) (r + 400) (by omega)
  rotate_left
  · exact absurd (show tak s u x = 0 by unfold tak; rw [if_neg (by omega), if_neg (by omega)]) q0
  simp only at gn gg q1 q2 q3 q4
  subst q1
  have em : ((x.toNat : Nat) : Int) = x := by omega
  have r2 : rowK Try.prog 3 (o + k) (rh.get β) = some (.int .i64 x) := by rw [gg β hβ hβb]; exact r1
  have d1 : decide (x ≤ 0) = false := by simp; omega
  have g14 := e14 hb hk ov0 (o0 _) (o0 _) (r + 399)
  have ok2 := ok_take hk x1 x2
  have g14' := e14 q2 ok2 ov0 (o0 _) (o0 _) (r + 399)
  have d2 : decide (x ≠ x) = false := by simp
  have d3 : decide (plc s t (u + x) ≠ plc s t (u + x)) = false := by simp
  rw [evalC_loop]
  simp (maxSteps := 1000000) (disch := omega) only [stepVal_guardT, yD_some, yK_bool, yK_undef, getD_set', List.length_set, Nat.reduceLT, evalC_drawT, drawL_eq, trace_cons, trace_nil, traceK_some, pad, evalC_seq, evalC_region, evalC_cond, evalC_ret, evalC_skip, evalC_label, evalC_exit, evalC_scope, evalC_block, evalC_draw, runOps_cons, runOps_nil, stepOp_eq, stepVal_plain, yieldedA_lit, opA_assign, opA_move, opA_binOp, opA_pick, opA_call, opA_alloc, opA_box, opA_load, opA_store, opA_extract, opA_buildSlice, opA_indexAddr, opA_fieldAddr, aeval_int, aeval_bool, aeval_tmp, aeval_nilSlice, aeval_nilPointer, aeval_nilFunc, aeval_func, arK_val, arK_skip, arK_enter, arK_round, valK_some, valK_none, opsK_some, Option.map_some, Option.map_none, seqK_normal, seqK_ret, seqK_exit, blockK_normal, blockK_ret, blockK_exit, loopK_normal, loopK_ret, loopK_exit, List.getElem?_cons_zero, List.getElem?_cons_succ, Option.bind_some, reduceCtorEq, if_false, if_true, pickK_bool, condK_true, condK_false, endK_ret, endK_normal, resultsA_tmp, resultsA_nil, resVal, Option.some.injEq, Bool.true_eq_false, Bool.false_eq_true, List.map_cons, List.map_nil, binA_add, binA_sub, binA_mul, binA_lss, binA_leq, binA_gtr, binA_geq, binA_eql, binA_neq, callA_builtin, max_int, min_int, loadK_pointer, storeK_pointer, IntWalk.i64_in, IntWalk.i64_quo, binA_quo, binA_rem, Int.tmod_eq_emod_of_nonneg, loadA_rowK, storeA_int hsz3, putK_cell, rowK_cell ag3, rowK_row ag3, boxA_cell, al3, get_empty, next_empty, AH.get_set, AH.get_push, AH.next_set, AH.next_push, resultsA_cell, resK_pointer, roundA_G, roundG_loop, asgK_normal, bodyK_loop, ended_some, endRK_normal, endRK_ret, endRK_exit, rangeK_E, rangeE_ready, rangeE_done, rangeH, setAll, shut_nil, shut_cons, shutK_defs, endK_shut, outK_some, AH.get_kill, AH.next_kill, evalRegion_G, drawG_ok, drawK_all, trace_cons, trace_nil, traceK_some, List.all_cons, List.all_nil, sameRead_K, sameK_plain, sameK_guard, wantK_some, veqK_val, veq_int, veq_bool, veq_pointer, veq_slice, veq_nilSlice, Bool.and_true, Bool.and_self, List.getLast?_cons_cons, List.getLast?_singleton, len_slice one22, indexAddrA_one one22, ixK_slice, append_one one22, apK_nil, apK_some, apB_row, oneOf_row, bs22, Nat.reduceLeDiff, and_self, and_true, true_and, Int.reduceToNat, Int.reduceNe, List.take_succ_cons, List.take_zero, List.take_nil, List.length_cons, List.length_nil, List.cons_append, List.nil_append, Int.reduceLE, Int.reduceLT, Int.reduceEq, Int.reduceNeg, Int.reduceAdd, Int.reduceSub, Int.reduceMul, Int.reduceDiv, Nat.reduceAdd, Nat.reduceEqDiff, decide_true, decide_false, hT, t0, t1, t5, t7, c1, i1, r1, Int.toNat_natCast, env_code, opA_neg, negK_int, r2, d1, d2, em, ge, g14, callA_func _ _ _ _ _ _ b9, callA_func _ _ _ _ _ _ b10, callA_func _ _ _ _ _ _ b11, callA_func _ _ _ _ _ _ b12, callA_func _ _ _ _ _ _ b13, callA_func _ _ _ _ _ _ b14, env_call (o0 _), extractA2]
  generalize hT0 : List.set _ 11 (Value.int IntKind.i64 0) = T0
  have v : T0.length = 103 := by rw [← hT0]; simp only [getD_set', List.length_set, Nat.reduceEqDiff, Nat.reduceLT, if_true, if_false, hT]
  have v0 : T0.getD 0 undef = .int .i64 (s + 1) := by rw [← hT0]; simp only [getD_set', List.length_set, Nat.reduceEqDiff, Nat.reduceLT, if_true, if_false, hT, t0]
  have v1 : T0.getD 1 undef = .slice (some ⟨β, o, none⟩) l.length ca := by rw [← hT0]; simp only [getD_set', List.length_set, Nat.reduceEqDiff, Nat.reduceLT, if_true, if_false, hT, t1]
  have v5 : T0.getD 5 undef = .pointer (some ⟨b, 0, none⟩) := by rw [← hT0]; simp only [getD_set', List.length_set, Nat.reduceEqDiff, Nat.reduceLT, if_true, if_false, hT, t5]
  have v7 : T0.getD 7 undef = .int .i64 k := by rw [← hT0]; simp only [getD_set', List.length_set, Nat.reduceEqDiff, Nat.reduceLT, if_true, if_false, hT, t7]
  have v8 : T0.getD 8 undef = .int .i64 (plc s t (u + ((0 : Nat) : Int))) := by rw [← hT0]; simp only [getD_set', List.length_set, Nat.reduceEqDiff, Nat.reduceLT, if_true, if_false, hT]; rw [show u + ((0 : Nat) : Int) = u by omega]
  have v9 : T0.getD 9 undef = .slice (some ⟨h.next, 0, none⟩) x.toNat x.toNat := by rw [← hT0]; simp only [getD_set', List.length_set, Nat.reduceEqDiff, Nat.reduceLT, if_true, if_false, hT]
  have v11 : T0.getD 11 undef = .int .i64 ((0 : Nat) : Int) := by rw [← hT0]; simp only [getD_set', List.length_set, Nat.reduceEqDiff, Nat.reduceLT, if_true, if_false, hT]; rfl
  obtain ⟨T2, e, w, w8, wj⟩ := loop4i (s := s) (t := t) (u := u) (by omega) (by omega) x.toNat h.next (by omega) rh q3 x.toNat 0 (by omega) (r + 1 + 400) (by omega) T0 v v0 v8 v9 v11
  simp only [l4i, l4, loopsOf, Try.f4, Option.getD_some] at e
  rw [em] at w8
  have w0 := (wj 0 (by decide)).trans v0
  have w1 := (wj 1 (by decide)).trans v1
  have w5 := (wj 5 (by decide)).trans v5
  have w7 := (wj 7 (by decide)).trans v7
  simp (maxSteps := 1000000) (disch := omega) only [stepVal_guardT, yD_some, yK_bool, yK_undef, getD_set', List.length_set, Nat.reduceLT, evalC_drawT, drawL_eq, trace_cons, trace_nil, traceK_some, pad, evalC_seq, evalC_region, evalC_cond, evalC_ret, evalC_skip, evalC_label, evalC_exit, evalC_scope, evalC_block, evalC_draw, runOps_cons, runOps_nil, stepOp_eq, stepVal_plain, yieldedA_lit, opA_assign, opA_move, opA_binOp, opA_pick, opA_call, opA_alloc, opA_box, opA_load, opA_store, opA_extract, opA_buildSlice, opA_indexAddr, opA_fieldAddr, aeval_int, aeval_bool, aeval_tmp, aeval_nilSlice, aeval_nilPointer, aeval_nilFunc, aeval_func, arK_val, arK_skip, arK_enter, arK_round, valK_some, valK_none, opsK_some, Option.map_some, Option.map_none, seqK_normal, seqK_ret, seqK_exit, blockK_normal, blockK_ret, blockK_exit, loopK_normal, loopK_ret, loopK_exit, List.getElem?_cons_zero, List.getElem?_cons_succ, Option.bind_some, reduceCtorEq, if_false, if_true, pickK_bool, condK_true, condK_false, endK_ret, endK_normal, resultsA_tmp, resultsA_nil, resVal, Option.some.injEq, Bool.true_eq_false, Bool.false_eq_true, List.map_cons, List.map_nil, binA_add, binA_sub, binA_mul, binA_lss, binA_leq, binA_gtr, binA_geq, binA_eql, binA_neq, callA_builtin, max_int, min_int, loadK_pointer, storeK_pointer, IntWalk.i64_in, IntWalk.i64_quo, binA_quo, binA_rem, Int.tmod_eq_emod_of_nonneg, loadA_rowK, storeA_int hsz3, putK_cell, rowK_cell ag3, rowK_row ag3, boxA_cell, al3, get_empty, next_empty, AH.get_set, AH.get_push, AH.next_set, AH.next_push, resultsA_cell, resK_pointer, roundA_G, roundG_loop, asgK_normal, bodyK_loop, ended_some, endRK_normal, endRK_ret, endRK_exit, rangeK_E, rangeE_ready, rangeE_done, rangeH, setAll, shut_nil, shut_cons, shutK_defs, endK_shut, outK_some, AH.get_kill, AH.next_kill, evalRegion_G, drawG_ok, drawK_all, trace_cons, trace_nil, traceK_some, List.all_cons, List.all_nil, sameRead_K, sameK_plain, sameK_guard, wantK_some, veqK_val, veq_int, veq_bool, veq_pointer, veq_slice, veq_nilSlice, Bool.and_true, Bool.and_self, List.getLast?_cons_cons, List.getLast?_singleton, len_slice one22, indexAddrA_one one22, ixK_slice, append_one one22, apK_nil, apK_some, apB_row, oneOf_row, bs22, Nat.reduceLeDiff, and_self, and_true, true_and, Int.reduceToNat, Int.reduceNe, List.take_succ_cons, List.take_zero, List.take_nil, List.length_cons, List.length_nil, List.cons_append, List.nil_append, Int.reduceLE, Int.reduceLT, Int.reduceEq, Int.reduceNeg, Int.reduceAdd, Int.reduceSub, Int.reduceMul, Int.reduceDiv, Nat.reduceAdd, Nat.reduceEqDiff, decide_true, decide_false, e, w, w0, w1, w5, w7, w8, g14', d3, env_code, callA_func _ _ _ _ _ _ b9, callA_func _ _ _ _ _ _ b10, callA_func _ _ _ _ _ _ b11, callA_func _ _ _ _ _ _ b12, callA_func _ _ _ _ _ _ b13, callA_func _ _ _ _ _ _ b14, env_call (o0 _), extractA2]
  refine ih _ _ t (u + x) ?_ ?_ ?_ ?_ ?_ (hR0.keep gn gg) q2 ok2 (Nat.lt_of_lt_of_le hlb gn)
  · simp only [getD_set', List.length_set, Nat.reduceEqDiff, Nat.reduceLT, if_true, if_false, w]
  · simp only [getD_set', List.length_set, Nat.reduceEqDiff, Nat.reduceLT, if_true, if_false, w, w0]
  · simp only [getD_set', List.length_set, Nat.reduceEqDiff, Nat.reduceLT, if_true, if_false, w, w1]
  · simp only [getD_set', List.length_set, Nat.reduceEqDiff, Nat.reduceLT, if_true, if_false, w, w5]
  · simp only [getD_set', List.length_set, Nat.reduceEqDiff, Nat.reduceLT, if_true, if_false, w]


theorem loop4 (l : List Int) (hf : fine l) (hl2 : l.length ≤ 1000) (a : Option Addr) (ca : Nat) (b : Nat) (s : Int) : ∀ (r k : Nat), k + r = l.length → ∀ (T : List Value) (h : AH) (t u : Int), T.length = 103 → T.getD 0 undef = .int .i64 (s + 1) → T.getD 1 undef = .slice a l.length ca → T.getD 5 undef = .pointer (some ⟨b, 0, none⟩) →
      T.getD 7 undef = .int .i64 k → Rn l a b h → h.get b = some (ringObj s t u) → Ok s t u → b < h.next →
      ∃ T' h', evalC Try.prog (env Try.prog ov0 (r + 400)) none (.loop l4) ⟨⟨T⟩, [], h⟩ = some (.exit 0, ⟨⟨T'⟩, [], h'⟩) ∧ T'.length = 103 := by
  intro r
  induction r with
  | zero =>
    intro k hk0 T h t u hT t0 t1 t5 t7 hR hb hk hlb
    have c1 : decide ((k : Int) < (l.length : Int)) = false := by simp; omega
    rw [evalC_loop]
    simp (maxSteps := 1000000) (disch := omega) only [stepVal_guardT, yD_some, yK_bool, yK_undef, getD_set', List.length_set, Nat.reduceLT, evalC_drawT, drawL_eq, trace_cons, trace_nil, traceK_some, pad, evalC_seq, evalC_region, evalC_cond, evalC_ret, evalC_skip, evalC_label, evalC_exit, evalC_scope, evalC_block, evalC_draw, runOps_cons, runOps_nil, stepOp_eq, stepVal_plain, yieldedA_lit, opA_assign, opA_move, opA_binOp, opA_pick, opA_call, opA_alloc, opA_box, opA_load, opA_store, opA_extract, opA_buildSlice, opA_indexAddr, opA_fieldAddr, aeval_int, aeval_bool, aeval_tmp, aeval_nilSlice, aeval_nilPointer, aeval_nilFunc, aeval_func, arK_val, arK_skip, arK_enter, arK_round, valK_some, valK_none, opsK_some, Option.map_some, Option.map_none, seqK_normal, seqK_ret, seqK_exit, blockK_normal, blockK_ret, blockK_exit, loopK_normal, loopK_ret, loopK_exit, List.getElem?_cons_zero, List.getElem?_cons_succ, Option.bind_some, reduceCtorEq, if_false, if_true, pickK_bool, condK_true, condK_false, endK_ret, endK_normal, resultsA_tmp, resultsA_nil, resVal, Option.some.injEq, Bool.true_eq_false, Bool.false_eq_true, List.map_cons, List.map_nil, binA_add, binA_sub, binA_mul, binA_lss, binA_leq, binA_gtr, binA_geq, binA_eql, binA_neq, callA_builtin, max_int, min_int, loadK_pointer, storeK_pointer, IntWalk.i64_in, IntWalk.i64_quo, binA_quo, binA_rem, Int.tmod_eq_emod_of_nonneg, loadA_rowK, storeA_int hsz3, putK_cell, rowK_cell ag3, rowK_row ag3, boxA_cell, al3, get_empty, next_empty, AH.get_set, AH.get_push, AH.next_set, AH.next_push, resultsA_cell, resK_pointer, roundA_G, roundG_loop, asgK_normal, bodyK_loop, ended_some, endRK_normal, endRK_ret, endRK_exit, rangeK_E, rangeE_ready, rangeE_done, rangeH, setAll, shut_nil, shut_cons, shutK_defs, endK_shut, outK_some, AH.get_kill, AH.next_kill, evalRegion_G, drawG_ok, drawK_all, trace_cons, trace_nil, traceK_some, List.all_cons, List.all_nil, sameRead_K, sameK_plain, sameK_guard, wantK_some, veqK_val, veq_int, veq_bool, veq_pointer, veq_slice, veq_nilSlice, Bool.and_true, Bool.and_self, List.getLast?_cons_cons, List.getLast?_singleton, len_slice one22, indexAddrA_one one22, ixK_slice, append_one one22, apK_nil, apK_some, apB_row, oneOf_row, bs22, Nat.reduceLeDiff, and_self, and_true, true_and, Int.reduceToNat, Int.reduceNe, List.take_succ_cons, List.take_zero, List.take_nil, List.length_cons, List.length_nil, List.cons_append, List.nil_append, Int.reduceLE, Int.reduceLT, Int.reduceEq, Int.reduceNeg, Int.reduceAdd, Int.reduceSub, Int.reduceMul, Int.reduceDiv, Nat.reduceAdd, Nat.reduceEqDiff, decide_true, decide_false, l4, loopsOf, Option.getD_some, c1, Try.f4, hT, t1, t7]
    exact ⟨_, _, rfl, by simp only [getD_set', List.length_set, Nat.reduceEqDiff, Nat.reduceLT, if_true, if_false, hT]⟩
  | succ r ih =>
    intro k hk0 T h t u hT t0 t1 t5 t7 hR hb hk hlb
    have hx : l[k]? = some (l[k]'(by omega)) := by simp
    generalize l[k]'(by omega) = x at hx
    have ih' := fun T h t u => ih (k + 1) (by omega) T h t u
    by_cases c1 : 1 ≤ x
    · by_cases c2 : x ≤ s - u
      · exact step4_t l hf a ca b s l4 r k rfl ih' (by omega) x hx T h t u hT t0 t1 t5 t7 hR hb hk hlb hl2 c1 c2
      · exact step4_r l hf a ca b s l4 r k rfl ih' (by omega) x hx T h t u hT t0 t1 t5 t7 hR hb hk hlb hl2 c1 (by omega)
    · exact step4_g l hf a ca b s l4 r k rfl ih' (by omega) x hx T h t u hT t0 t1 t5 t7 hR hb hk hlb hl2 (by omega)

theorem e4 (n : Int) (hp : -9223372036854775808 ≤ n ∧ n ≤ 9223372036854775807) (l : List Int) (hf : fine l) (a : Option Addr) (c : Nat) (h : AH)
    (hR : l ≠ [] → ∃ β o, a = some ⟨β, o, none⟩ ∧ β < h.next ∧ ∀ (i : Nat) x, l[i]? = some x → rowK Try.prog 3 (o + i) (h.get β) = some (.int .i64 x)) :
    ∃ m, (callFn Try.prog (env Try.prog ov0 m) 4 ⟨[.int .i64 n, .slice a l.length c]⟩ h).map (·.1) = some (.bool true) := by
  refine ⟨l.length + 400, ?_⟩
  refine callFn_Tm Try.func4 rfl _ _ (by show 2 ≤ 103; decide) fun T hT hq => ?_
  have p0 : T.getD 0 undef = .int .i64 n := hq 0
  have p1 : T.getD 1 undef = .slice a l.length c := hq 1
  replace hT : T.length = 103 := hT
  by_cases hl : 200 < l.length
  · have d0 : decide ((200 : Int) < (l.length : Int)) = true := by simp; omega
    simp (maxSteps := 1000000) (disch := omega) only [stepVal_guardT, yD_some, yK_bool, yK_undef, getD_set', List.length_set, Nat.reduceLT, evalC_drawT, drawL_eq, trace_cons, trace_nil, traceK_some, pad, evalC_seq, evalC_region, evalC_cond, evalC_ret, evalC_skip, evalC_label, evalC_exit, evalC_scope, evalC_block, evalC_draw, runOps_cons, runOps_nil, stepOp_eq, stepVal_plain, yieldedA_lit, opA_assign, opA_move, opA_binOp, opA_pick, opA_call, opA_alloc, opA_box, opA_load, opA_store, opA_extract, opA_buildSlice, opA_indexAddr, opA_fieldAddr, aeval_int, aeval_bool, aeval_tmp, aeval_nilSlice, aeval_nilPointer, aeval_nilFunc, aeval_func, arK_val, arK_skip, arK_enter, arK_round, valK_some, valK_none, opsK_some, Option.map_some, Option.map_none, seqK_normal, seqK_ret, seqK_exit, blockK_normal, blockK_ret, blockK_exit, loopK_normal, loopK_ret, loopK_exit, List.getElem?_cons_zero, List.getElem?_cons_succ, Option.bind_some, reduceCtorEq, if_false, if_true, pickK_bool, condK_true, condK_false, endK_ret, endK_normal, resultsA_tmp, resultsA_nil, resVal, Option.some.injEq, Bool.true_eq_false, Bool.false_eq_true, List.map_cons, List.map_nil, binA_add, binA_sub, binA_mul, binA_lss, binA_leq, binA_gtr, binA_geq, binA_eql, binA_neq, callA_builtin, max_int, min_int, loadK_pointer, storeK_pointer, IntWalk.i64_in, IntWalk.i64_quo, binA_quo, binA_rem, Int.tmod_eq_emod_of_nonneg, loadA_rowK, storeA_int hsz3, putK_cell, rowK_cell ag3, rowK_row ag3, boxA_cell, al3, get_empty, next_empty, AH.get_set, AH.get_push, AH.next_set, AH.next_push, resultsA_cell, resK_pointer, roundA_G, roundG_loop, asgK_normal, bodyK_loop, ended_some, endRK_normal, endRK_ret, endRK_exit, rangeK_E, rangeE_ready, rangeE_done, rangeH, setAll, shut_nil, shut_cons, shutK_defs, endK_shut, outK_some, AH.get_kill, AH.next_kill, evalRegion_G, drawG_ok, drawK_all, trace_cons, trace_nil, traceK_some, List.all_cons, List.all_nil, sameRead_K, sameK_plain, sameK_guard, wantK_some, veqK_val, veq_int, veq_bool, veq_pointer, veq_slice, veq_nilSlice, Bool.and_true, Bool.and_self, List.getLast?_cons_cons, List.getLast?_singleton, len_slice one22, indexAddrA_one one22, ixK_slice, append_one one22, apK_nil, apK_some, apB_row, oneOf_row, bs22, Nat.reduceLeDiff, and_self, and_true, true_and, Int.reduceToNat, Int.reduceNe, List.take_succ_cons, List.take_zero, List.take_nil, List.length_cons, List.length_nil, List.cons_append, List.nil_append, Int.reduceLE, Int.reduceLT, Int.reduceEq, Int.reduceNeg, Int.reduceAdd, Int.reduceSub, Int.reduceMul, Int.reduceDiv, Nat.reduceAdd, Nat.reduceEqDiff, decide_true, decide_false, Try.f4, hT, p0, p1, d0]
  · have d0 : decide ((200 : Int) < (l.length : Int)) = false := by simp; omega
    have hj := jn_in n
    have g13 := e13 n h (env Try.prog ov0 (l.length + 399))
    have g9 := e9 hj h (env Try.prog ov0 (l.length + 399))
    have hb : (h.push (ringObj (jn n - 1) 0 0)).get h.next = some (ringObj (jn n - 1) 0 0) := by rw [AH.get_push, if_pos rfl]
    have hok : Ok (jn n - 1) 0 0 := by unfold Ok; omega
    have g14 := e14 hb hok ov0 (o0 _) (o0 _) (l.length + 398)
    have g12 := e12 hb hok ov0 (o0 _) (o0 _) (l.length + 398)
    have hpl : plc (jn n - 1) 0 0 = 1 := by unfold plc; simp
    rw [hpl] at g14 g12
    simp (maxSteps := 1000000) (disch := omega) only [stepVal_guardT, yD_some, yK_bool, yK_undef, getD_set', List.length_set, Nat.reduceLT, evalC_drawT, drawL_eq, trace_cons, trace_nil, traceK_some, pad, evalC_seq, evalC_region, evalC_cond, evalC_ret, evalC_skip, evalC_label, evalC_exit, evalC_scope, evalC_block, evalC_draw, runOps_cons, runOps_nil, stepOp_eq, stepVal_plain, yieldedA_lit, opA_assign, opA_move, opA_binOp, opA_pick, opA_call, opA_alloc, opA_box, opA_load, opA_store, opA_extract, opA_buildSlice, opA_indexAddr, opA_fieldAddr, aeval_int, aeval_bool, aeval_tmp, aeval_nilSlice, aeval_nilPointer, aeval_nilFunc, aeval_func, arK_val, arK_skip, arK_enter, arK_round, valK_some, valK_none, opsK_some, Option.map_some, Option.map_none, seqK_normal, seqK_ret, seqK_exit, blockK_normal, blockK_ret, blockK_exit, loopK_normal, loopK_ret, loopK_exit, List.getElem?_cons_zero, List.getElem?_cons_succ, Option.bind_some, reduceCtorEq, if_false, if_true, pickK_bool, condK_true, condK_false, endK_ret, endK_normal, resultsA_tmp, resultsA_nil, resVal, Option.some.injEq, Bool.true_eq_false, Bool.false_eq_true, List.map_cons, List.map_nil, binA_add, binA_sub, binA_mul, binA_lss, binA_leq, binA_gtr, binA_geq, binA_eql, binA_neq, callA_builtin, max_int, min_int, loadK_pointer, storeK_pointer, IntWalk.i64_in, IntWalk.i64_quo, binA_quo, binA_rem, Int.tmod_eq_emod_of_nonneg, loadA_rowK, storeA_int hsz3, putK_cell, rowK_cell ag3, rowK_row ag3, boxA_cell, al3, get_empty, next_empty, AH.get_set, AH.get_push, AH.next_set, AH.next_push, resultsA_cell, resK_pointer, roundA_G, roundG_loop, asgK_normal, bodyK_loop, ended_some, endRK_normal, endRK_ret, endRK_exit, rangeK_E, rangeE_ready, rangeE_done, rangeH, setAll, shut_nil, shut_cons, shutK_defs, endK_shut, outK_some, AH.get_kill, AH.next_kill, evalRegion_G, drawG_ok, drawK_all, trace_cons, trace_nil, traceK_some, List.all_cons, List.all_nil, sameRead_K, sameK_plain, sameK_guard, wantK_some, veqK_val, veq_int, veq_bool, veq_pointer, veq_slice, veq_nilSlice, Bool.and_true, Bool.and_self, List.getLast?_cons_cons, List.getLast?_singleton, len_slice one22, indexAddrA_one one22, ixK_slice, append_one one22, apK_nil, apK_some, apB_row, oneOf_row, bs22, Nat.reduceLeDiff, and_self, and_true, true_and, Int.reduceToNat, Int.reduceNe, List.take_succ_cons, List.take_zero, List.take_nil, List.length_cons, List.length_nil, List.cons_append, List.nil_append, Int.reduceLE, Int.reduceLT, Int.reduceEq, Int.reduceNeg, Int.reduceAdd, Int.reduceSub, Int.reduceMul, Int.reduceDiv, Nat.reduceAdd, Nat.reduceEqDiff, decide_true, decide_false, Try.f4, hT, p0, p1, d0, g13, g9, g14, g12, callA_func _ _ _ _ _ _ b9, callA_func _ _ _ _ _ _ b10, callA_func _ _ _ _ _ _ b11, callA_func _ _ _ _ _ _ b12, callA_func _ _ _ _ _ _ b13, callA_func _ _ _ _ _ _ b14, env_call (o0 _), extractA2]
    generalize hT0 : List.set _ 7 (Value.int IntKind.i64 0) = T0
    have v : T0.length = 103 := by rw [← hT0]; simp only [getD_set', List.length_set, Nat.reduceEqDiff, Nat.reduceLT, if_true, if_false, hT]
    have v0 : T0.getD 0 undef = .int .i64 (jn n - 1 + 1) := by rw [← hT0]; simp only [getD_set', List.length_set, Nat.reduceEqDiff, Nat.reduceLT, if_true, if_false, hT]; rw [show jn n - 1 + 1 = jn n by omega]
    have v1 : T0.getD 1 undef = .slice a l.length c := by rw [← hT0]; simp only [getD_set', List.length_set, Nat.reduceEqDiff, Nat.reduceLT, if_true, if_false, hT, p1]
    have v5 : T0.getD 5 undef = .pointer (some ⟨h.next, 0, none⟩) := by rw [← hT0]; simp only [getD_set', List.length_set, Nat.reduceEqDiff, Nat.reduceLT, if_true, if_false, hT]
    have v7 : T0.getD 7 undef = .int .i64 0 := by rw [← hT0]; simp only [getD_set', List.length_set, Nat.reduceEqDiff, Nat.reduceLT, if_true, if_false, hT]
    obtain ⟨T', h', e, w⟩ := loop4 l hf (by omega) a c h.next (jn n - 1) l.length 0 (by omega) T0 (h.push (ringObj (jn n - 1) 0 0)) 0 0 v v0 v1 v5 v7
      (fun hne => by
        obtain ⟨β, o, e1, e2, e3⟩ := hR hne
        exact ⟨β, o, e1, by rw [AH.next_push]; omega, by omega, fun i x hi => by rw [AH.get_push, if_neg (by omega)]; exact e3 i x hi⟩)
      hb hok (by rw [AH.next_push]; omega)
    simp only [l4, loopsOf, Try.f4, Option.getD_some] at e
    simp (maxSteps := 1000000) (disch := omega) only [stepVal_guardT, yD_some, yK_bool, yK_undef, getD_set', List.length_set, Nat.reduceLT, evalC_drawT, drawL_eq, trace_cons, trace_nil, traceK_some, pad, evalC_seq, evalC_region, evalC_cond, evalC_ret, evalC_skip, evalC_label, evalC_exit, evalC_scope, evalC_block, evalC_draw, runOps_cons, runOps_nil, stepOp_eq, stepVal_plain, yieldedA_lit, opA_assign, opA_move, opA_binOp, opA_pick, opA_call, opA_alloc, opA_box, opA_load, opA_store, opA_extract, opA_buildSlice, opA_indexAddr, opA_fieldAddr, aeval_int, aeval_bool, aeval_tmp, aeval_nilSlice, aeval_nilPointer, aeval_nilFunc, aeval_func, arK_val, arK_skip, arK_enter, arK_round, valK_some, valK_none, opsK_some, Option.map_some, Option.map_none, seqK_normal, seqK_ret, seqK_exit, blockK_normal, blockK_ret, blockK_exit, loopK_normal, loopK_ret, loopK_exit, List.getElem?_cons_zero, List.getElem?_cons_succ, Option.bind_some, reduceCtorEq, if_false, if_true, pickK_bool, condK_true, condK_false, endK_ret, endK_normal, resultsA_tmp, resultsA_nil, resVal, Option.some.injEq, Bool.true_eq_false, Bool.false_eq_true, List.map_cons, List.map_nil, binA_add, binA_sub, binA_mul, binA_lss, binA_leq, binA_gtr, binA_geq, binA_eql, binA_neq, callA_builtin, max_int, min_int, loadK_pointer, storeK_pointer, IntWalk.i64_in, IntWalk.i64_quo, binA_quo, binA_rem, Int.tmod_eq_emod_of_nonneg, loadA_rowK, storeA_int hsz3, putK_cell, rowK_cell ag3, rowK_row ag3, boxA_cell, al3, get_empty, next_empty, AH.get_set, AH.get_push, AH.next_set, AH.next_push, resultsA_cell, resK_pointer, roundA_G, roundG_loop, asgK_normal, bodyK_loop, ended_some, endRK_normal, endRK_ret, endRK_exit, rangeK_E, rangeE_ready, rangeE_done, rangeH, setAll, shut_nil, shut_cons, shutK_defs, endK_shut, outK_some, AH.get_kill, AH.next_kill, evalRegion_G, drawG_ok, drawK_all, trace_cons, trace_nil, traceK_some, List.all_cons, List.all_nil, sameRead_K, sameK_plain, sameK_guard, wantK_some, veqK_val, veq_int, veq_bool, veq_pointer, veq_slice, veq_nilSlice, Bool.and_true, Bool.and_self, List.getLast?_cons_cons, List.getLast?_singleton, len_slice one22, indexAddrA_one one22, ixK_slice, append_one one22, apK_nil, apK_some, apB_row, oneOf_row, bs22, Nat.reduceLeDiff, and_self, and_true, true_and, Int.reduceToNat, Int.reduceNe, List.take_succ_cons, List.take_zero, List.take_nil, List.length_cons, List.length_nil, List.cons_append, List.nil_append, Int.reduceLE, Int.reduceLT, Int.reduceEq, Int.reduceNeg, Int.reduceAdd, Int.reduceSub, Int.reduceMul, Int.reduceDiv, Nat.reduceAdd, Nat.reduceEqDiff, decide_true, decide_false, Try.f4, e, w]
end Go.Proofs.Ring
