/-
  Ring: whatever is taken and given back, each call answers what is said.
-/
import Derived.Test.YtlabmlaenkdikaaRingR12
import Derived.Test.YtlabmlaenkdikaaRingR9
namespace Go.Proofs.Ring
set_option linter.unusedSimpArgs false
set_option linter.unusedVariables false
open Go.AE
set_option maxRecDepth 100000
set_option maxHeartbeats 4000000

theorem b15 : ((Try.prog.funcs[15]?).bind (·.body)).isSome = true := rfl
theorem b16 : ((Try.prog.funcs[16]?).bind (·.body)).isSome = true := rfl
theorem b17 : ((Try.prog.funcs[17]?).bind (·.body)).isSome = true := rfl
theorem b18 : ((Try.prog.funcs[18]?).bind (·.body)).isSome = true := rfl
theorem b22 : ((Try.prog.funcs[22]?).bind (·.body)).isSome = true := rfl
theorem st13 : drawStatic (regionOf Try.f5 13) = true := by kernel_rfl
theorem pr13 : drawPairs (regionOf Try.f5 13) = [(12, 6)] := by kernel_rfl
theorem st19' : drawStatic (regionOf Try.f5 19) = true := by kernel_rfl
theorem pr19' : drawPairs (regionOf Try.f5 19) = [(11, 7), (12, 7), (21, 17)] := by kernel_rfl
noncomputable def l5 : Code := (loopsOf (Try.f5.body.getD .skip)).getD .skip

theorem head0 (s t : Int) (u : Nat) : (vals s t 0 u).headD (plc s t u) = plc s t 0 := by
  cases u with
  | zero => rfl
  | succ u => simp [vals, List.range_succ_eq_map]

/-- The look behind each call. -/
theorem reg19 {b1 b2 u : Nat} {s t : Int} {h : AH} {ua : Option Addr} (hb : h.get b1 = some (ringObj s t u)) (hk : Ok s t u) (hr : h.get b2 = some (refObj (s + 1) ua (vals s t 0 u).length (plc s t u))) (hU : Ug (vals s t 0 u) ua b2 h) (N : Nat) (T : List Value) (hT : T.length = 125)
    (t5 : T.getD 5 undef = .pointer (some ⟨b1, 0, none⟩)) (t7 : T.getD 7 undef = .pointer (some ⟨b2, 0, none⟩)) :
    ∃ T', evalC Try.prog (env Try.prog ov0 (N + 2)) none (.region 19 (regionOf Try.f5 19) true) ⟨⟨T⟩, [], h⟩ = some (.normal, ⟨⟨T'⟩, [], h⟩) ∧ T'.length = 125 ∧ T'.getD 124 undef = .bool false ∧ ∀ j, j < 94 → T'.getD j undef = T.getD j undef := by
  have hk' := hk
  unfold Ok at hk'
  have hlen := vals_len s t 0 u
  have g19 := e19 hb hk ov0 (o0 _) N
  have g21 := e21 hb hk ov0 (o0 _) N
  have g14 := e14 hb hk ov0 (o0 _) (o0 _) N
  have g12 := e12 hb hk ov0 (o0 _) (o0 _) N
  have g20 := e20 hr (by omega) (by omega) (env Try.prog ov0 (N + 1))
  have g22 := e22 hr hU (env Try.prog ov0 (N + 1))
  rw [head0] at g22
  rw [hlen] at g20 hr
  rw [show s + 1 - 1 - (u : Int) = s - u by omega] at g20
  unfold refObj at hr
  have st := st19'
  have pr := pr19'
  simp only [regionOf, regionAt, Try.f5, Option.getD_some, Nat.reduceEqDiff, if_true, if_false] at st pr
  have d1 : decide (s - (u : Int) ≠ s - u) = false := by simp
  have d2 : decide ((u : Int) ≠ (u : Int)) = false := by simp
  have d3 : decide (plc s t u ≠ plc s t u) = false := by simp
  have d4 : decide (plc s t 0 ≠ plc s t 0) = false := by simp
  simp (maxSteps := 1000000) (disch := omega) only [stepVal_guardT, yD_some, yK_bool, yK_undef, getD_set', List.length_set, Nat.reduceLT, evalC_drawT, drawL_eq, trace_cons, trace_nil, traceK_some, pad, evalC_seq, evalC_region, evalC_cond, evalC_ret, evalC_skip, evalC_label, evalC_exit, evalC_scope, evalC_block, evalC_draw, runOps_cons, runOps_nil, stepOp_eq, stepVal_plain, yieldedA_T, opA_assign, opA_move, opA_binOp, opA_pick, opA_call, opA_alloc, opA_box, opA_load, opA_store, opA_extract, opA_buildSlice, opA_indexAddr, opA_fieldAddr, aeval_int, aeval_bool, aeval_tmp, aeval_nilSlice, aeval_nilPointer, aeval_nilFunc, aeval_func, arK_val, arK_skip, arK_enter, arK_round, valK_some, valK_none, opsK_some, Option.map_some, Option.map_none, seqK_normal, seqK_ret, seqK_exit, blockK_normal, blockK_ret, blockK_exit, loopK_normal, loopK_ret, loopK_exit, List.getElem?_cons_zero, List.getElem?_cons_succ, Option.bind_some, reduceCtorEq, if_false, if_true, pickK_bool, condK_true, condK_false, endK_ret, endK_normal, resultsA_tmp, resultsA_nil, resVal, Option.some.injEq, Bool.true_eq_false, Bool.false_eq_true, List.map_cons, List.map_nil, binA_add, binA_sub, binA_mul, binA_lss, binA_leq, binA_gtr, binA_geq, binA_eql, binA_neq, callA_builtin, max_int, min_int, loadK_pointer, storeK_pointer, IntWalk.i64_in, IntWalk.i64_quo, binA_quo, binA_rem, Int.tmod_eq_emod_of_nonneg, loadA_rowK, storeA_int hsz3, putK_cell, rowK_cell ag3, rowK_row ag3, boxA_cell, al3, get_empty, next_empty, AH.get_set, AH.get_push, AH.next_set, AH.next_push, resultsA_cell, resK_pointer, roundA_G, roundG_loop, asgK_normal, bodyK_loop, ended_some, endRK_normal, endRK_ret, endRK_exit, rangeK_E, rangeE_ready, rangeE_done, rangeH, setAll, shut_nil, shut_cons, shutK_defs, endK_shut, outK_some, AH.get_kill, AH.next_kill, evalRegion_G, drawG_ok, drawK_all, trace_cons, trace_nil, traceK_some, List.all_cons, List.all_nil, sameRead_K, sameK_plain, sameK_guard, wantK_some, veqK_val, veq_int, veq_bool, veq_pointer, veq_slice, veq_nilSlice, Bool.and_true, Bool.and_self, List.getLast?_cons_cons, List.getLast?_singleton, len_slice one22, indexAddrA_one one22, ixK_slice, append_one one22, apK_nil, apK_some, apB_row, oneOf_row, bs22, Nat.reduceLeDiff, and_self, and_true, true_and, Int.reduceToNat, Int.reduceNe, List.take_succ_cons, List.take_zero, List.take_nil, List.length_cons, List.length_nil, List.cons_append, List.nil_append, Int.reduceLE, Int.reduceLT, Int.reduceEq, Int.reduceNeg, Int.reduceAdd, Int.reduceSub, Int.reduceMul, Int.reduceDiv, Nat.reduceAdd, Nat.reduceEqDiff, decide_true, decide_false, regionOf, regionAt, Option.getD_some, Try.f5, hT, t5, t7, d1, d2, d3, d4, g19, g20, g21, g22, g14, g12, hr, st, pr, veq_sl, opA_nilCheck, nilCk_pointer, fb0, fb1, fb2, rowK_row ag28, callA_func _ _ _ _ _ _ b19, callA_func _ _ _ _ _ _ b20, callA_func _ _ _ _ _ _ b21, callA_func _ _ _ _ _ _ b14, callA_func _ _ _ _ _ _ b12, callA_func _ _ _ _ _ _ b22, env_call (o0 _)]
  exact ⟨_, rfl, by simp only [getD_set', List.length_set, Nat.reduceEqDiff, Nat.reduceLT, if_true, if_false, hT], by simp only [getD_set', List.length_set, Nat.reduceEqDiff, Nat.reduceLT, if_true, if_false, hT], fun j hj => by simp (disch := omega) only [setD_ne]⟩
theorem step5_gx (l : List (Bool × Int)) (hf : fineA l) (a : Option Addr) (ca : Nat) (b1 b2 : Nat) (hbb : b1 < b2) (s : Int) (C : Code) (r k : Nat) (hC : C = l5)
    (ih : ∀ (T : List Value) (h : AH) (ua : Option Addr) (t : Int) (u : Nat), T.length = 125 → T.getD 1 undef = .slice a l.length ca → T.getD 5 undef = .pointer (some ⟨b1, 0, none⟩) → T.getD 7 undef = .pointer (some ⟨b2, 0, none⟩) → T.getD 9 undef = .int .i64 ((k : Int) + 1) →
      Ra l a b1 h → h.get b1 = some (ringObj s t u) → Ok s t u → h.get b2 = some (refObj (s + 1) ua (vals s t 0 u).length (plc s t u)) → Ug (vals s t 0 u) ua b2 h → b2 < h.next → ∃ T' h', evalC Try.prog (env Try.prog ov0 (r + 700)) none (.loop C) ⟨⟨T⟩, [], h⟩ = some (.exit 0, ⟨⟨T'⟩, [], h'⟩) ∧ T'.length = 125)
    (hkl : k < l.length) (x : Int) (hx : l[k]? = some (true, x)) (T : List Value) (h : AH) (ua : Option Addr) (t : Int) (u : Nat) (hT : T.length = 125) (t1 : T.getD 1 undef = .slice a l.length ca) (t5 : T.getD 5 undef = .pointer (some ⟨b1, 0, none⟩)) (t7 : T.getD 7 undef = .pointer (some ⟨b2, 0, none⟩)) (t9 : T.getD 9 undef = .int .i64 k)
    (hR : Ra l a b1 h) (hb : h.get b1 = some (ringObj s t u)) (hk : Ok s t u) (hr : h.get b2 = some (refObj (s + 1) ua (vals s t 0 u).length (plc s t u))) (hU : Ug (vals s t 0 u) ua b2 h) (hlb : b2 < h.next) (hl2 : l.length ≤ 1000) (x1 : x < 0 ∨ (u : Int) < x) :
    ∃ T' h', evalC Try.prog (env Try.prog ov0 (r + 1 + 700)) none (.loop C) ⟨⟨T⟩, [], h⟩ = some (.exit 0, ⟨⟨T'⟩, [], h'⟩) ∧ T'.length = 125 := by
  subst hC
  have st := st13
  have pr := pr13
  simp only [regionOf, regionAt, Try.f5, Option.getD_some, Nat.reduceEqDiff, if_true, if_false] at st pr
  simp only [l5, loopsOf, Try.f5, Option.getD_some] at ih ⊢
  have hR0 := hR
  have hk' := hk
  unfold Ok at hk'
  obtain ⟨β, o, rfl, hβ, hβb, hra⟩ := hR (by intro e; rw [e] at hkl; simp at hkl)
  obtain ⟨r1, r2⟩ := hra k _ hx
  simp only at r1 r2
  have hxb : -9223372036854775808 ≤ x ∧ x ≤ 9223372036854775807 := hf _ (List.mem_of_getElem? hx)
  have c1 : decide ((k : Int) < (l.length : Int)) = true := decide_eq_true (by omega)
  have i1 : 0 ≤ (k : Int) ∧ (k : Int) < (l.length : Int) := by omega
  have hk1 : ((k + 1 : Nat) : Int) = (k : Int) + 1 := rfl
  have hvl := vals_len s t 0 u
  have hlb1 : b1 < h.next := by omega
  have R0 := @reg19 b1 b2
  simp only [regionOf, regionAt, Try.f5, Option.getD_some, Nat.reduceEqDiff, if_true, if_false] at R0
  generalize hB : Code.region 19 _ _ = B at ih R0 ⊢
  have ge := e10 hb hk hxb ov0 (o0 _) (r + 699)
  have hh : givH b1 s t u x h = h := by unfold givH; rw [if_pos x1]
  rw [hh] at ge
  have hc : (if x < 0 then (2 : Int) else if ((vals s t 0 u).length : Int) < x then 120 else 0) = giv s t u x := by unfold giv; rw [hvl]
  obtain ⟨⟨rv, rh⟩, gr, q1, q2, q3, ua', q4, q5⟩ := e16 (m := x) hr hU hlb (by omega) (env Try.prog ov0 (r + 700))
  have hor : x < 0 ∨ ((vals s t 0 u).length : Int) < x := by rw [hvl]; exact x1
  simp only at q1 q2 q3 q4 q5
  rw [if_pos hor] at q4 q5
  rw [hc] at q1
  subst q1
  generalize giv s t u x = c at ge gr
  have r3 := r2
  have d1 : decide (c ≠ c) = false := by simp
  rw [evalC_loop]
  simp (maxSteps := 1000000) (disch := omega) only [stepVal_guardT, yD_some, yK_bool, yK_undef, getD_set', List.length_set, Nat.reduceLT, evalC_drawT, drawL_eq, trace_cons, trace_nil, traceK_some, pad, evalC_seq, evalC_region, evalC_cond, evalC_ret, evalC_skip, evalC_label, evalC_exit, evalC_scope, evalC_block, evalC_draw, runOps_cons, runOps_nil, stepOp_eq, stepVal_plain, yieldedA_T, opA_assign, opA_move, opA_binOp, opA_pick, opA_call, opA_alloc, opA_box, opA_load, opA_store, opA_extract, opA_buildSlice, opA_indexAddr, opA_fieldAddr, aeval_int, aeval_bool, aeval_tmp, aeval_nilSlice, aeval_nilPointer, aeval_nilFunc, aeval_func, arK_val, arK_skip, arK_enter, arK_round, valK_some, valK_none, opsK_some, Option.map_some, Option.map_none, seqK_normal, seqK_ret, seqK_exit, blockK_normal, blockK_ret, blockK_exit, loopK_normal, loopK_ret, loopK_exit, List.getElem?_cons_zero, List.getElem?_cons_succ, Option.bind_some, reduceCtorEq, if_false, if_true, pickK_bool, condK_true, condK_false, endK_ret, endK_normal, resultsA_tmp, resultsA_nil, resVal, Option.some.injEq, Bool.true_eq_false, Bool.false_eq_true, List.map_cons, List.map_nil, binA_add, binA_sub, binA_mul, binA_lss, binA_leq, binA_gtr, binA_geq, binA_eql, binA_neq, callA_builtin, max_int, min_int, loadK_pointer, storeK_pointer, IntWalk.i64_in, IntWalk.i64_quo, binA_quo, binA_rem, Int.tmod_eq_emod_of_nonneg, loadA_rowK, storeA_int hsz3, putK_cell, rowK_cell ag3, rowK_row ag3, boxA_cell, al3, get_empty, next_empty, AH.get_set, AH.get_push, AH.next_set, AH.next_push, resultsA_cell, resK_pointer, roundA_G, roundG_loop, asgK_normal, bodyK_loop, ended_some, endRK_normal, endRK_ret, endRK_exit, rangeK_E, rangeE_ready, rangeE_done, rangeH, setAll, shut_nil, shut_cons, shutK_defs, endK_shut, outK_some, AH.get_kill, AH.next_kill, evalRegion_G, drawG_ok, drawK_all, trace_cons, trace_nil, traceK_some, List.all_cons, List.all_nil, sameRead_K, sameK_plain, sameK_guard, wantK_some, veqK_val, veq_int, veq_bool, veq_pointer, veq_slice, veq_nilSlice, Bool.and_true, Bool.and_self, List.getLast?_cons_cons, List.getLast?_singleton, len_slice one22, indexAddrA_one one22, ixK_slice, append_one one22, apK_nil, apK_some, apB_row, oneOf_row, bs22, Nat.reduceLeDiff, and_self, and_true, true_and, Int.reduceToNat, Int.reduceNe, List.take_succ_cons, List.take_zero, List.take_nil, List.length_cons, List.length_nil, List.cons_append, List.nil_append, Int.reduceLE, Int.reduceLT, Int.reduceEq, Int.reduceNeg, Int.reduceAdd, Int.reduceSub, Int.reduceMul, Int.reduceDiv, Nat.reduceAdd, Nat.reduceEqDiff, decide_true, decide_false, hT, t1, t5, t7, t9, c1, i1, r1, r2, Int.toNat_natCast, env_code, st, pr, r3, veq_sl, d1, ge, gr, callA_func _ _ _ _ _ _ b9, callA_func _ _ _ _ _ _ b10, callA_func _ _ _ _ _ _ b11, callA_func _ _ _ _ _ _ b15, callA_func _ _ _ _ _ _ b16, callA_func _ _ _ _ _ _ b17, callA_func _ _ _ _ _ _ b18, env_call (o0 _), extractA2, ia22, len22, fa30_0, fa30_1, loadA_rowK, opA_unOp_not, notG_bool, Bool.not_true, Bool.not_false]
  generalize hQ0 : List.set _ 64 (Value.bool false) = Q0
  have Qv : Q0.length = 125 := by rw [← hQ0]; simp only [getD_set', List.length_set, Nat.reduceEqDiff, Nat.reduceLT, if_true, if_false, hT]
  have Qa1 : Q0.getD 1 undef = .slice (some ⟨β, o, none⟩) l.length ca := by rw [← hQ0]; simp only [getD_set', List.length_set, Nat.reduceEqDiff, Nat.reduceLT, if_true, if_false, hT, t1]
  have Qa5 : Q0.getD 5 undef = .pointer (some ⟨b1, 0, none⟩) := by rw [← hQ0]; simp only [getD_set', List.length_set, Nat.reduceEqDiff, Nat.reduceLT, if_true, if_false, hT, t5]
  have Qa7 : Q0.getD 7 undef = .pointer (some ⟨b2, 0, none⟩) := by rw [← hQ0]; simp only [getD_set', List.length_set, Nat.reduceEqDiff, Nat.reduceLT, if_true, if_false, hT, t7]
  have Qa9 : Q0.getD 9 undef = .int .i64 k := by rw [← hQ0]; simp only [getD_set', List.length_set, Nat.reduceEqDiff, Nat.reduceLT, if_true, if_false, hT, t9]
  obtain ⟨T2, e, w, w124, wj⟩ := R0 (h := rh) (t := t) (u := u) (ua := ua') ((q3 b1 hlb1 (by omega)).trans hb) hk q4 q5 (r + 699) Q0 Qv Qa5 Qa7
  have w1 := (wj 1 (by decide)).trans Qa1
  have w5 := (wj 5 (by decide)).trans Qa5
  have w7 := (wj 7 (by decide)).trans Qa7
  have w9 := (wj 9 (by decide)).trans Qa9
  simp (maxSteps := 1000000) (disch := omega) only [stepVal_guardT, yD_some, yK_bool, yK_undef, getD_set', List.length_set, Nat.reduceLT, evalC_drawT, drawL_eq, trace_cons, trace_nil, traceK_some, pad, evalC_seq, evalC_region, evalC_cond, evalC_ret, evalC_skip, evalC_label, evalC_exit, evalC_scope, evalC_block, evalC_draw, runOps_cons, runOps_nil, stepOp_eq, stepVal_plain, yieldedA_lit, opA_assign, opA_move, opA_binOp, opA_pick, opA_call, opA_alloc, opA_box, opA_load, opA_store, opA_extract, opA_buildSlice, opA_indexAddr, opA_fieldAddr, aeval_int, aeval_bool, aeval_tmp, aeval_nilSlice, aeval_nilPointer, aeval_nilFunc, aeval_func, arK_val, arK_skip, arK_enter, arK_round, valK_some, valK_none, opsK_some, Option.map_some, Option.map_none, seqK_normal, seqK_ret, seqK_exit, blockK_normal, blockK_ret, blockK_exit, loopK_normal, loopK_ret, loopK_exit, List.getElem?_cons_zero, List.getElem?_cons_succ, Option.bind_some, reduceCtorEq, if_false, if_true, pickK_bool, condK_true, condK_false, endK_ret, endK_normal, resultsA_tmp, resultsA_nil, resVal, Option.some.injEq, Bool.true_eq_false, Bool.false_eq_true, List.map_cons, List.map_nil, binA_add, binA_sub, binA_mul, binA_lss, binA_leq, binA_gtr, binA_geq, binA_eql, binA_neq, callA_builtin, max_int, min_int, loadK_pointer, storeK_pointer, IntWalk.i64_in, IntWalk.i64_quo, binA_quo, binA_rem, Int.tmod_eq_emod_of_nonneg, loadA_rowK, storeA_int hsz3, putK_cell, rowK_cell ag3, rowK_row ag3, boxA_cell, al3, get_empty, next_empty, AH.get_set, AH.get_push, AH.next_set, AH.next_push, resultsA_cell, resK_pointer, roundA_G, roundG_loop, asgK_normal, bodyK_loop, ended_some, endRK_normal, endRK_ret, endRK_exit, rangeK_E, rangeE_ready, rangeE_done, rangeH, setAll, shut_nil, shut_cons, shutK_defs, endK_shut, outK_some, AH.get_kill, AH.next_kill, evalRegion_G, drawG_ok, drawK_all, trace_cons, trace_nil, traceK_some, List.all_cons, List.all_nil, sameRead_K, sameK_plain, sameK_guard, wantK_some, veqK_val, veq_int, veq_bool, veq_pointer, veq_slice, veq_nilSlice, Bool.and_true, Bool.and_self, List.getLast?_cons_cons, List.getLast?_singleton, len_slice one22, indexAddrA_one one22, ixK_slice, append_one one22, apK_nil, apK_some, apB_row, oneOf_row, bs22, Nat.reduceLeDiff, and_self, and_true, true_and, Int.reduceToNat, Int.reduceNe, List.take_succ_cons, List.take_zero, List.take_nil, List.length_cons, List.length_nil, List.cons_append, List.nil_append, Int.reduceLE, Int.reduceLT, Int.reduceEq, Int.reduceNeg, Int.reduceAdd, Int.reduceSub, Int.reduceMul, Int.reduceDiv, Nat.reduceAdd, Nat.reduceEqDiff, decide_true, decide_false, e, w, w1, w5, w7, w9, w124, env_code]
  refine ih _ _ ua' t u ?_ ?_ ?_ ?_ ?_ (hR0.keep q2 (fun γ h1 h2 => q3 γ h2 (by omega))) ((q3 b1 hlb1 (by omega)).trans hb) hk q4 q5 (Nat.lt_of_lt_of_le hlb q2)
  · simp only [getD_set', List.length_set, Nat.reduceEqDiff, Nat.reduceLT, if_true, if_false, w]
  · simp only [getD_set', List.length_set, Nat.reduceEqDiff, Nat.reduceLT, if_true, if_false, w, w1]
  · simp only [getD_set', List.length_set, Nat.reduceEqDiff, Nat.reduceLT, if_true, if_false, w, w5]
  · simp only [getD_set', List.length_set, Nat.reduceEqDiff, Nat.reduceLT, if_true, if_false, w, w7]
  · simp only [getD_set', List.length_set, Nat.reduceEqDiff, Nat.reduceLT, if_true, if_false, w]

theorem step5_gy (l : List (Bool × Int)) (hf : fineA l) (a : Option Addr) (ca : Nat) (b1 b2 : Nat) (hbb : b1 < b2) (s : Int) (C : Code) (r k : Nat) (hC : C = l5)
    (ih : ∀ (T : List Value) (h : AH) (ua : Option Addr) (t : Int) (u : Nat), T.length = 125 → T.getD 1 undef = .slice a l.length ca → T.getD 5 undef = .pointer (some ⟨b1, 0, none⟩) → T.getD 7 undef = .pointer (some ⟨b2, 0, none⟩) → T.getD 9 undef = .int .i64 ((k : Int) + 1) →
      Ra l a b1 h → h.get b1 = some (ringObj s t u) → Ok s t u → h.get b2 = some (refObj (s + 1) ua (vals s t 0 u).length (plc s t u)) → Ug (vals s t 0 u) ua b2 h → b2 < h.next → ∃ T' h', evalC Try.prog (env Try.prog ov0 (r + 700)) none (.loop C) ⟨⟨T⟩, [], h⟩ = some (.exit 0, ⟨⟨T'⟩, [], h'⟩) ∧ T'.length = 125)
    (hkl : k < l.length) (x : Int) (hx : l[k]? = some (true, x)) (T : List Value) (h : AH) (ua : Option Addr) (t : Int) (u : Nat) (hT : T.length = 125) (t1 : T.getD 1 undef = .slice a l.length ca) (t5 : T.getD 5 undef = .pointer (some ⟨b1, 0, none⟩)) (t7 : T.getD 7 undef = .pointer (some ⟨b2, 0, none⟩)) (t9 : T.getD 9 undef = .int .i64 k)
    (hR : Ra l a b1 h) (hb : h.get b1 = some (ringObj s t u)) (hk : Ok s t u) (hr : h.get b2 = some (refObj (s + 1) ua (vals s t 0 u).length (plc s t u))) (hU : Ug (vals s t 0 u) ua b2 h) (hlb : b2 < h.next) (hl2 : l.length ≤ 1000) (x1 : 0 ≤ x) (x2 : x ≤ u) :
    ∃ T' h', evalC Try.prog (env Try.prog ov0 (r + 1 + 700)) none (.loop C) ⟨⟨T⟩, [], h⟩ = some (.exit 0, ⟨⟨T'⟩, [], h'⟩) ∧ T'.length = 125 := by
  subst hC
  have st := st13
  have pr := pr13
  simp only [regionOf, regionAt, Try.f5, Option.getD_some, Nat.reduceEqDiff, if_true, if_false] at st pr
  simp only [l5, loopsOf, Try.f5, Option.getD_some] at ih ⊢
  have hR0 := hR
  have hk' := hk
  unfold Ok at hk'
  obtain ⟨β, o, rfl, hβ, hβb, hra⟩ := hR (by intro e; rw [e] at hkl; simp at hkl)
  obtain ⟨r1, r2⟩ := hra k _ hx
  simp only at r1 r2
  have hxb : -9223372036854775808 ≤ x ∧ x ≤ 9223372036854775807 := hf _ (List.mem_of_getElem? hx)
  have c1 : decide ((k : Int) < (l.length : Int)) = true := decide_eq_true (by omega)
  have i1 : 0 ≤ (k : Int) ∧ (k : Int) < (l.length : Int) := by omega
  have hk1 : ((k + 1 : Nat) : Int) = (k : Int) + 1 := rfl
  have hvl := vals_len s t 0 u
  have hlb1 : b1 < h.next := by omega
  have R0 := @reg19 b1 b2
  simp only [regionOf, regionAt, Try.f5, Option.getD_some, Nat.reduceEqDiff, if_true, if_false] at R0
  generalize hB : Code.region 19 _ _ = B at ih R0 ⊢
  have ge := e10 hb hk hxb ov0 (o0 _) (r + 699)
  have hh : givH b1 s t u x h = h.set b1 (ringObj s ((t + x) % s) ((u - x.toNat : Nat) : Int)) := by
    unfold givH; rw [if_neg (by omega), show (u : Int) - x = ((u - x.toNat : Nat) : Int) by omega]
  rw [hh] at ge
  have ok2 : Ok s ((t + x) % s) ((u - x.toNat : Nat) : Int) := by
    have := ok_give hk x1 x2
    rwa [show (u : Int) - x = ((u - x.toNat : Nat) : Int) by omega] at this
  generalize hH : h.set b1 (ringObj s ((t + x) % s) ((u - x.toNat : Nat) : Int)) = H at ge
  have hHb : H.get b1 = some (ringObj s ((t + x) % s) ((u - x.toNat : Nat) : Int)) := by rw [← hH, AH.get_set, if_pos rfl]
  have hHg : ∀ γ, γ ≠ b1 → H.get γ = h.get γ := fun γ hγ => by rw [← hH, AH.get_set, if_neg hγ]
  have hHn : H.next = h.next := by rw [← hH]; rfl
  have hHr := (hHg b2 (by omega)).trans hr
  have hHU : Ug (vals s t 0 u) ua b2 H := hU.keep (by omega) (fun γ o _ h1 _ => hHg γ (by omega))
  have hc : (if x < 0 then (2 : Int) else if ((vals s t 0 u).length : Int) < x then 120 else 0) = giv s t u x := by unfold giv; rw [hvl]
  obtain ⟨⟨rv, rh⟩, gr, q1, q2, q3, ua', q4, q5⟩ := e16 (m := x) hHr hHU (by omega) (by omega) (env Try.prog ov0 (r + 700))
  have hno : ¬ (x < 0 ∨ ((vals s t 0 u).length : Int) < x) := by rw [hvl]; omega
  simp only at q1 q2 q3 q4 q5
  rw [if_neg hno, vals_drop (by omega) u x.toNat (by omega), Int.toNat_of_nonneg x1] at q4 q5
  have hpl : plc s t u = plc s ((t + x) % s) ((u - x.toNat : Nat) : Int) := by
    have h1 := plc_shift (s := s) (t := t) (n := x) (i := ((u - x.toNat : Nat) : Int)) (by omega)
    rw [show x + ((u - x.toNat : Nat) : Int) = (u : Int) by omega] at h1
    exact h1.symm
  rw [hpl] at q4
  rw [hc] at q1
  subst q1
  generalize giv s t u x = c at ge gr
  have r3 : rowK Try.prog 3 (o + k * 2 + 1) (H.get β) = some (.int .i64 x) := by rw [hHg β (by omega)]; exact r2
  have d1 : decide (c ≠ c) = false := by simp
  rw [evalC_loop]
  simp (maxSteps := 1000000) (disch := omega) only [stepVal_guardT, yD_some, yK_bool, yK_undef, getD_set', List.length_set, Nat.reduceLT, evalC_drawT, drawL_eq, trace_cons, trace_nil, traceK_some, pad, evalC_seq, evalC_region, evalC_cond, evalC_ret, evalC_skip, evalC_label, evalC_exit, evalC_scope, evalC_block, evalC_draw, runOps_cons, runOps_nil, stepOp_eq, stepVal_plain, yieldedA_T, opA_assign, opA_move, opA_binOp, opA_pick, opA_call, opA_alloc, opA_box, opA_load, opA_store, opA_extract, opA_buildSlice, opA_indexAddr, opA_fieldAddr, aeval_int, aeval_bool, aeval_tmp, aeval_nilSlice, aeval_nilPointer, aeval_nilFunc, aeval_func, arK_val, arK_skip, arK_enter, arK_round, valK_some, valK_none, opsK_some, Option.map_some, Option.map_none, seqK_normal, seqK_ret, seqK_exit, blockK_normal, blockK_ret, blockK_exit, loopK_normal, loopK_ret, loopK_exit, List.getElem?_cons_zero, List.getElem?_cons_succ, Option.bind_some, reduceCtorEq, if_false, if_true, pickK_bool, condK_true, condK_false, endK_ret, endK_normal, resultsA_tmp, resultsA_nil, resVal, Option.some.injEq, Bool.true_eq_false, Bool.false_eq_true, List.map_cons, List.map_nil, binA_add, binA_sub, binA_mul, binA_lss, binA_leq, binA_gtr, binA_geq, binA_eql, binA_neq, callA_builtin, max_int, min_int, loadK_pointer, storeK_pointer, IntWalk.i64_in, IntWalk.i64_quo, binA_quo, binA_rem, Int.tmod_eq_emod_of_nonneg, loadA_rowK, storeA_int hsz3, putK_cell, rowK_cell ag3, rowK_row ag3, boxA_cell, al3, get_empty, next_empty, AH.get_set, AH.get_push, AH.next_set, AH.next_push, resultsA_cell, resK_pointer, roundA_G, roundG_loop, asgK_normal, bodyK_loop, ended_some, endRK_normal, endRK_ret, endRK_exit, rangeK_E, rangeE_ready, rangeE_done, rangeH, setAll, shut_nil, shut_cons, shutK_defs, endK_shut, outK_some, AH.get_kill, AH.next_kill, evalRegion_G, drawG_ok, drawK_all, trace_cons, trace_nil, traceK_some, List.all_cons, List.all_nil, sameRead_K, sameK_plain, sameK_guard, wantK_some, veqK_val, veq_int, veq_bool, veq_pointer, veq_slice, veq_nilSlice, Bool.and_true, Bool.and_self, List.getLast?_cons_cons, List.getLast?_singleton, len_slice one22, indexAddrA_one one22, ixK_slice, append_one one22, apK_nil, apK_some, apB_row, oneOf_row, bs22, Nat.reduceLeDiff, and_self, and_true, true_and, Int.reduceToNat, Int.reduceNe, List.take_succ_cons, List.take_zero, List.take_nil, List.length_cons, List.length_nil, List.cons_append, List.nil_append, Int.reduceLE, Int.reduceLT, Int.reduceEq, Int.reduceNeg, Int.reduceAdd, Int.reduceSub, Int.reduceMul, Int.reduceDiv, Nat.reduceAdd, Nat.reduceEqDiff, decide_true, decide_false, hT, t1, t5, t7, t9, c1, i1, r1, r2, Int.toNat_natCast, env_code, st, pr, r3, veq_sl, d1, ge, gr, callA_func _ _ _ _ _ _ b9, callA_func _ _ _ _ _ _ b10, callA_func _ _ _ _ _ _ b11, callA_func _ _ _ _ _ _ b15, callA_func _ _ _ _ _ _ b16, callA_func _ _ _ _ _ _ b17, callA_func _ _ _ _ _ _ b18, env_call (o0 _), extractA2, ia22, len22, fa30_0, fa30_1, loadA_rowK, opA_unOp_not, notG_bool, Bool.not_true, Bool.not_false]
  generalize hQ0 : List.set _ 64 (Value.bool false) = Q0
  have Qv : Q0.length = 125 := by rw [← hQ0]; simp only [getD_set', List.length_set, Nat.reduceEqDiff, Nat.reduceLT, if_true, if_false, hT]
  have Qa1 : Q0.getD 1 undef = .slice (some ⟨β, o, none⟩) l.length ca := by rw [← hQ0]; simp only [getD_set', List.length_set, Nat.reduceEqDiff, Nat.reduceLT, if_true, if_false, hT, t1]
  have Qa5 : Q0.getD 5 undef = .pointer (some ⟨b1, 0, none⟩) := by rw [← hQ0]; simp only [getD_set', List.length_set, Nat.reduceEqDiff, Nat.reduceLT, if_true, if_false, hT, t5]
  have Qa7 : Q0.getD 7 undef = .pointer (some ⟨b2, 0, none⟩) := by rw [← hQ0]; simp only [getD_set', List.length_set, Nat.reduceEqDiff, Nat.reduceLT, if_true, if_false, hT, t7]
  have Qa9 : Q0.getD 9 undef = .int .i64 k := by rw [← hQ0]; simp only [getD_set', List.length_set, Nat.reduceEqDiff, Nat.reduceLT, if_true, if_false, hT, t9]
  obtain ⟨T2, e, w, w124, wj⟩ := R0 (h := rh) (t := ((t + x) % s)) (u := (u - x.toNat)) (ua := ua') ((q3 b1 (by omega) (by omega)).trans hHb) ok2 q4 q5 (r + 699) Q0 Qv Qa5 Qa7
  have w1 := (wj 1 (by decide)).trans Qa1
  have w5 := (wj 5 (by decide)).trans Qa5
  have w7 := (wj 7 (by decide)).trans Qa7
  have w9 := (wj 9 (by decide)).trans Qa9
  simp (maxSteps := 1000000) (disch := omega) only [stepVal_guardT, yD_some, yK_bool, yK_undef, getD_set', List.length_set, Nat.reduceLT, evalC_drawT, drawL_eq, trace_cons, trace_nil, traceK_some, pad, evalC_seq, evalC_region, evalC_cond, evalC_ret, evalC_skip, evalC_label, evalC_exit, evalC_scope, evalC_block, evalC_draw, runOps_cons, runOps_nil, stepOp_eq, stepVal_plain, yieldedA_lit, opA_assign, opA_move, opA_binOp, opA_pick, opA_call, opA_alloc, opA_box, opA_load, opA_store, opA_extract, opA_buildSlice, opA_indexAddr, opA_fieldAddr, aeval_int, aeval_bool, aeval_tmp, aeval_nilSlice, aeval_nilPointer, aeval_nilFunc, aeval_func, arK_val, arK_skip, arK_enter, arK_round, valK_some, valK_none, opsK_some, Option.map_some, Option.map_none, seqK_normal, seqK_ret, seqK_exit, blockK_normal, blockK_ret, blockK_exit, loopK_normal, loopK_ret, loopK_exit, List.getElem?_cons_zero, List.getElem?_cons_succ, Option.bind_some, reduceCtorEq, if_false, if_true, pickK_bool, condK_true, condK_false, endK_ret, endK_normal, resultsA_tmp, resultsA_nil, resVal, Option.some.injEq, Bool.true_eq_false, Bool.false_eq_true, List.map_cons, List.map_nil, binA_add, binA_sub, binA_mul, binA_lss, binA_leq, binA_gtr, binA_geq, binA_eql, binA_neq, callA_builtin, max_int, min_int, loadK_pointer, storeK_pointer, IntWalk.i64_in, IntWalk.i64_quo, binA_quo, binA_rem, Int.tmod_eq_emod_of_nonneg, loadA_rowK, storeA_int hsz3, putK_cell, rowK_cell ag3, rowK_row ag3, boxA_cell, al3, get_empty, next_empty, AH.get_set, AH.get_push, AH.next_set, AH.next_push, resultsA_cell, resK_pointer, roundA_G, roundG_loop, asgK_normal, bodyK_loop, ended_some, endRK_normal, endRK_ret, endRK_exit, rangeK_E, rangeE_ready, rangeE_done, rangeH, setAll, shut_nil, shut_cons, shutK_defs, endK_shut, outK_some, AH.get_kill, AH.next_kill, evalRegion_G, drawG_ok, drawK_all, trace_cons, trace_nil, traceK_some, List.all_cons, List.all_nil, sameRead_K, sameK_plain, sameK_guard, wantK_some, veqK_val, veq_int, veq_bool, veq_pointer, veq_slice, veq_nilSlice, Bool.and_true, Bool.and_self, List.getLast?_cons_cons, List.getLast?_singleton, len_slice one22, indexAddrA_one one22, ixK_slice, append_one one22, apK_nil, apK_some, apB_row, oneOf_row, bs22, Nat.reduceLeDiff, and_self, and_true, true_and, Int.reduceToNat, Int.reduceNe, List.take_succ_cons, List.take_zero, List.take_nil, List.length_cons, List.length_nil, List.cons_append, List.nil_append, Int.reduceLE, Int.reduceLT, Int.reduceEq, Int.reduceNeg, Int.reduceAdd, Int.reduceSub, Int.reduceMul, Int.reduceDiv, Nat.reduceAdd, Nat.reduceEqDiff, decide_true, decide_false, e, w, w1, w5, w7, w9, w124, env_code]
  refine ih _ _ ua' ((t + x) % s) (u - x.toNat) ?_ ?_ ?_ ?_ ?_ (hR0.keep (by omega) (fun γ h1 h2 => (q3 γ (by omega) (by omega)).trans (hHg γ (by omega)))) ((q3 b1 (by omega) (by omega)).trans hHb) ok2 q4 q5 (by omega)
  · simp only [getD_set', List.length_set, Nat.reduceEqDiff, Nat.reduceLT, if_true, if_false, w]
  · simp only [getD_set', List.length_set, Nat.reduceEqDiff, Nat.reduceLT, if_true, if_false, w, w1]
  · simp only [getD_set', List.length_set, Nat.reduceEqDiff, Nat.reduceLT, if_true, if_false, w, w5]
  · simp only [getD_set', List.length_set, Nat.reduceEqDiff, Nat.reduceLT, if_true, if_false, w, w7]
  · simp only [getD_set', List.length_set, Nat.reduceEqDiff, Nat.reduceLT, if_true, if_false, w]

theorem step5_tx (l : List (Bool × Int)) (hf : fineA l) (a : Option Addr) (ca : Nat) (b1 b2 : Nat) (hbb : b1 < b2) (s : Int) (C : Code) (r k : Nat) (hC : C = l5)
    (ih : ∀ (T : List Value) (h : AH) (ua : Option Addr) (t : Int) (u : Nat), T.length = 125 → T.getD 1 undef = .slice a l.length ca → T.getD 5 undef = .pointer (some ⟨b1, 0, none⟩) → T.getD 7 undef = .pointer (some ⟨b2, 0, none⟩) → T.getD 9 undef = .int .i64 ((k : Int) + 1) →
      Ra l a b1 h → h.get b1 = some (ringObj s t u) → Ok s t u → h.get b2 = some (refObj (s + 1) ua (vals s t 0 u).length (plc s t u)) → Ug (vals s t 0 u) ua b2 h → b2 < h.next → ∃ T' h', evalC Try.prog (env Try.prog ov0 (r + 700)) none (.loop C) ⟨⟨T⟩, [], h⟩ = some (.exit 0, ⟨⟨T'⟩, [], h'⟩) ∧ T'.length = 125)
    (hkl : k < l.length) (x : Int) (hx : l[k]? = some (false, x)) (T : List Value) (h : AH) (ua : Option Addr) (t : Int) (u : Nat) (hT : T.length = 125) (t1 : T.getD 1 undef = .slice a l.length ca) (t5 : T.getD 5 undef = .pointer (some ⟨b1, 0, none⟩)) (t7 : T.getD 7 undef = .pointer (some ⟨b2, 0, none⟩)) (t9 : T.getD 9 undef = .int .i64 k)
    (hR : Ra l a b1 h) (hb : h.get b1 = some (ringObj s t u)) (hk : Ok s t u) (hr : h.get b2 = some (refObj (s + 1) ua (vals s t 0 u).length (plc s t u))) (hU : Ug (vals s t 0 u) ua b2 h) (hlb : b2 < h.next) (hl2 : l.length ≤ 1000) (x1 : tak s u x ≠ 0) :
    ∃ T' h', evalC Try.prog (env Try.prog ov0 (r + 1 + 700)) none (.loop C) ⟨⟨T⟩, [], h⟩ = some (.exit 0, ⟨⟨T'⟩, [], h'⟩) ∧ T'.length = 125 := by
  subst hC
  have st := st13
  have pr := pr13
  simp only [regionOf, regionAt, Try.f5, Option.getD_some, Nat.reduceEqDiff, if_true, if_false] at st pr
  simp only [l5, loopsOf, Try.f5, Option.getD_some] at ih ⊢
  have hR0 := hR
  have hk' := hk
  unfold Ok at hk'
  obtain ⟨β, o, rfl, hβ, hβb, hra⟩ := hR (by intro e; rw [e] at hkl; simp at hkl)
  obtain ⟨r1, r2⟩ := hra k _ hx
  simp only at r1 r2
  have hxb : -9223372036854775808 ≤ x ∧ x ≤ 9223372036854775807 := hf _ (List.mem_of_getElem? hx)
  have c1 : decide ((k : Int) < (l.length : Int)) = true := decide_eq_true (by omega)
  have i1 : 0 ≤ (k : Int) ∧ (k : Int) < (l.length : Int) := by omega
  have hk1 : ((k + 1 : Nat) : Int) = (k : Int) + 1 := rfl
  have hvl := vals_len s t 0 u
  have hlb1 : b1 < h.next := by omega
  have R0 := @reg19 b1 b2
  simp only [regionOf, regionAt, Try.f5, Option.getD_some, Nat.reduceEqDiff, if_true, if_false] at R0
  generalize hB : Code.region 19 _ _ = B at ih R0 ⊢
  obtain ⟨⟨rv, rh⟩, ge, _, _, ⟨q0, _⟩ | ⟨_, q1, q2⟩⟩ := e11 (m := x) hb hk hxb hlb1 ov0 (o0 _) (o0 _) (o0 _) (o0 _) (r + 700) (by omega)
  · exact absurd q0 x1
  simp only at q1 q2
  subst q1
  subst q2
  obtain ⟨⟨rv, rh2⟩, gr, _, _, ⟨q0, _⟩ | ⟨_, q1, q2⟩⟩ := e17 (m := x) hk hxb hr hU hlb (r + 700) (by omega)
  · exact absurd q0 x1
  simp only at q1 q2
  subst q1
  subst q2
  generalize tak s u x = c at ge gr
  have d1 : decide (c ≠ c) = false := by simp
  have g18 := e18 [] (by simp) none none 0 0 rh2 (fun i x h => by simp at h) (fun i x h => by simp at h) (r + 700) (by simp only [List.length_nil]; omega)
  simp only [List.length_nil] at g18
  rw [evalC_loop]
  simp (maxSteps := 1000000) (disch := omega) only [stepVal_guardT, yD_some, yK_bool, yK_undef, getD_set', List.length_set, Nat.reduceLT, evalC_drawT, drawL_eq, trace_cons, trace_nil, traceK_some, pad, evalC_seq, evalC_region, evalC_cond, evalC_ret, evalC_skip, evalC_label, evalC_exit, evalC_scope, evalC_block, evalC_draw, runOps_cons, runOps_nil, stepOp_eq, stepVal_plain, yieldedA_lit, opA_assign, opA_move, opA_binOp, opA_pick, opA_call, opA_alloc, opA_box, opA_load, opA_store, opA_extract, opA_buildSlice, opA_indexAddr, opA_fieldAddr, aeval_int, aeval_bool, aeval_tmp, aeval_nilSlice, aeval_nilPointer, aeval_nilFunc, aeval_func, arK_val, arK_skip, arK_enter, arK_round, valK_some, valK_none, opsK_some, Option.map_some, Option.map_none, seqK_normal, seqK_ret, seqK_exit, blockK_normal, blockK_ret, blockK_exit, loopK_normal, loopK_ret, loopK_exit, List.getElem?_cons_zero, List.getElem?_cons_succ, Option.bind_some, reduceCtorEq, if_false, if_true, pickK_bool, condK_true, condK_false, endK_ret, endK_normal, resultsA_tmp, resultsA_nil, resVal, Option.some.injEq, Bool.true_eq_false, Bool.false_eq_true, List.map_cons, List.map_nil, binA_add, binA_sub, binA_mul, binA_lss, binA_leq, binA_gtr, binA_geq, binA_eql, binA_neq, callA_builtin, max_int, min_int, loadK_pointer, storeK_pointer, IntWalk.i64_in, IntWalk.i64_quo, binA_quo, binA_rem, Int.tmod_eq_emod_of_nonneg, loadA_rowK, storeA_int hsz3, putK_cell, rowK_cell ag3, rowK_row ag3, boxA_cell, al3, get_empty, next_empty, AH.get_set, AH.get_push, AH.next_set, AH.next_push, resultsA_cell, resK_pointer, roundA_G, roundG_loop, asgK_normal, bodyK_loop, ended_some, endRK_normal, endRK_ret, endRK_exit, rangeK_E, rangeE_ready, rangeE_done, rangeH, setAll, shut_nil, shut_cons, shutK_defs, endK_shut, outK_some, AH.get_kill, AH.next_kill, evalRegion_G, drawG_ok, drawK_all, trace_cons, trace_nil, traceK_some, List.all_cons, List.all_nil, sameRead_K, sameK_plain, sameK_guard, wantK_some, veqK_val, veq_int, veq_bool, veq_pointer, veq_slice, veq_nilSlice, Bool.and_true, Bool.and_self, List.getLast?_cons_cons, List.getLast?_singleton, len_slice one22, indexAddrA_one one22, ixK_slice, append_one one22, apK_nil, apK_some, apB_row, oneOf_row, bs22, Nat.reduceLeDiff, and_self, and_true, true_and, Int.reduceToNat, Int.reduceNe, List.take_succ_cons, List.take_zero, List.take_nil, List.length_cons, List.length_nil, List.cons_append, List.nil_append, Int.reduceLE, Int.reduceLT, Int.reduceEq, Int.reduceNeg, Int.reduceAdd, Int.reduceSub, Int.reduceMul, Int.reduceDiv, Nat.reduceAdd, Nat.reduceEqDiff, decide_true, decide_false, hT, t1, t5, t7, t9, c1, i1, r1, r2, Int.toNat_natCast, env_code, st, pr, d1, ge, gr, g18, callA_func _ _ _ _ _ _ b9, callA_func _ _ _ _ _ _ b10, callA_func _ _ _ _ _ _ b11, callA_func _ _ _ _ _ _ b15, callA_func _ _ _ _ _ _ b16, callA_func _ _ _ _ _ _ b17, callA_func _ _ _ _ _ _ b18, env_call (o0 _), extractA2, ia22, len22, fa30_0, fa30_1, loadA_rowK, opA_unOp_not, notG_bool, Bool.not_true, Bool.not_false]
  generalize hQ0 : List.set _ 93 (Value.bool false) = Q0
  have Qv : Q0.length = 125 := by rw [← hQ0]; simp only [getD_set', List.length_set, Nat.reduceEqDiff, Nat.reduceLT, if_true, if_false, hT]
  have Qa1 : Q0.getD 1 undef = .slice (some ⟨β, o, none⟩) l.length ca := by rw [← hQ0]; simp only [getD_set', List.length_set, Nat.reduceEqDiff, Nat.reduceLT, if_true, if_false, hT, t1]
  have Qa5 : Q0.getD 5 undef = .pointer (some ⟨b1, 0, none⟩) := by rw [← hQ0]; simp only [getD_set', List.length_set, Nat.reduceEqDiff, Nat.reduceLT, if_true, if_false, hT, t5]
  have Qa7 : Q0.getD 7 undef = .pointer (some ⟨b2, 0, none⟩) := by rw [← hQ0]; simp only [getD_set', List.length_set, Nat.reduceEqDiff, Nat.reduceLT, if_true, if_false, hT, t7]
  have Qa9 : Q0.getD 9 undef = .int .i64 k := by rw [← hQ0]; simp only [getD_set', List.length_set, Nat.reduceEqDiff, Nat.reduceLT, if_true, if_false, hT, t9]
  obtain ⟨T2, e, w, w124, wj⟩ := R0 (h := rh2) (t := t) (u := u) (ua := ua) hb hk hr hU (r + 699) Q0 Qv Qa5 Qa7
  have w1 := (wj 1 (by decide)).trans Qa1
  have w5 := (wj 5 (by decide)).trans Qa5
  have w7 := (wj 7 (by decide)).trans Qa7
  have w9 := (wj 9 (by decide)).trans Qa9
  simp (maxSteps := 1000000) (disch := omega) only [stepVal_guardT, yD_some, yK_bool, yK_undef, getD_set', List.length_set, Nat.reduceLT, evalC_drawT, drawL_eq, trace_cons, trace_nil, traceK_some, pad, evalC_seq, evalC_region, evalC_cond, evalC_ret, evalC_skip, evalC_label, evalC_exit, evalC_scope, evalC_block, evalC_draw, runOps_cons, runOps_nil, stepOp_eq, stepVal_plain, yieldedA_lit, opA_assign, opA_move, opA_binOp, opA_pick, opA_call, opA_alloc, opA_box, opA_load, opA_store, opA_extract, opA_buildSlice, opA_indexAddr, opA_fieldAddr, aeval_int, aeval_bool, aeval_tmp, aeval_nilSlice, aeval_nilPointer, aeval_nilFunc, aeval_func, arK_val, arK_skip, arK_enter, arK_round, valK_some, valK_none, opsK_some, Option.map_some, Option.map_none, seqK_normal, seqK_ret, seqK_exit, blockK_normal, blockK_ret, blockK_exit, loopK_normal, loopK_ret, loopK_exit, List.getElem?_cons_zero, List.getElem?_cons_succ, Option.bind_some, reduceCtorEq, if_false, if_true, pickK_bool, condK_true, condK_false, endK_ret, endK_normal, resultsA_tmp, resultsA_nil, resVal, Option.some.injEq, Bool.true_eq_false, Bool.false_eq_true, List.map_cons, List.map_nil, binA_add, binA_sub, binA_mul, binA_lss, binA_leq, binA_gtr, binA_geq, binA_eql, binA_neq, callA_builtin, max_int, min_int, loadK_pointer, storeK_pointer, IntWalk.i64_in, IntWalk.i64_quo, binA_quo, binA_rem, Int.tmod_eq_emod_of_nonneg, loadA_rowK, storeA_int hsz3, putK_cell, rowK_cell ag3, rowK_row ag3, boxA_cell, al3, get_empty, next_empty, AH.get_set, AH.get_push, AH.next_set, AH.next_push, resultsA_cell, resK_pointer, roundA_G, roundG_loop, asgK_normal, bodyK_loop, ended_some, endRK_normal, endRK_ret, endRK_exit, rangeK_E, rangeE_ready, rangeE_done, rangeH, setAll, shut_nil, shut_cons, shutK_defs, endK_shut, outK_some, AH.get_kill, AH.next_kill, evalRegion_G, drawG_ok, drawK_all, trace_cons, trace_nil, traceK_some, List.all_cons, List.all_nil, sameRead_K, sameK_plain, sameK_guard, wantK_some, veqK_val, veq_int, veq_bool, veq_pointer, veq_slice, veq_nilSlice, Bool.and_true, Bool.and_self, List.getLast?_cons_cons, List.getLast?_singleton, len_slice one22, indexAddrA_one one22, ixK_slice, append_one one22, apK_nil, apK_some, apB_row, oneOf_row, bs22, Nat.reduceLeDiff, and_self, and_true, true_and, Int.reduceToNat, Int.reduceNe, List.take_succ_cons, List.take_zero, List.take_nil, List.length_cons, List.length_nil, List.cons_append, List.nil_append, Int.reduceLE, Int.reduceLT, Int.reduceEq, Int.reduceNeg, Int.reduceAdd, Int.reduceSub, Int.reduceMul, Int.reduceDiv, Nat.reduceAdd, Nat.reduceEqDiff, decide_true, decide_false, e, w, w1, w5, w7, w9, w124, env_code]
  refine ih _ _ ua t u ?_ ?_ ?_ ?_ ?_ hR0 hb hk hr hU hlb
  · simp only [getD_set', List.length_set, Nat.reduceEqDiff, Nat.reduceLT, if_true, if_false, w]
  · simp only [getD_set', List.length_set, Nat.reduceEqDiff, Nat.reduceLT, if_true, if_false, w, w1]
  · simp only [getD_set', List.length_set, Nat.reduceEqDiff, Nat.reduceLT, if_true, if_false, w, w5]
  · simp only [getD_set', List.length_set, Nat.reduceEqDiff, Nat.reduceLT, if_true, if_false, w, w7]
  · simp only [getD_set', List.length_set, Nat.reduceEqDiff, Nat.reduceLT, if_true, if_false, w]

theorem step5_ty (l : List (Bool × Int)) (hf : fineA l) (a : Option Addr) (ca : Nat) (b1 b2 : Nat) (hbb : b1 < b2) (s : Int) (C : Code) (r k : Nat) (hC : C = l5)
    (ih : ∀ (T : List Value) (h : AH) (ua : Option Addr) (t : Int) (u : Nat), T.length = 125 → T.getD 1 undef = .slice a l.length ca → T.getD 5 undef = .pointer (some ⟨b1, 0, none⟩) → T.getD 7 undef = .pointer (some ⟨b2, 0, none⟩) → T.getD 9 undef = .int .i64 ((k : Int) + 1) →
      Ra l a b1 h → h.get b1 = some (ringObj s t u) → Ok s t u → h.get b2 = some (refObj (s + 1) ua (vals s t 0 u).length (plc s t u)) → Ug (vals s t 0 u) ua b2 h → b2 < h.next → ∃ T' h', evalC Try.prog (env Try.prog ov0 (r + 700)) none (.loop C) ⟨⟨T⟩, [], h⟩ = some (.exit 0, ⟨⟨T'⟩, [], h'⟩) ∧ T'.length = 125)
    (hkl : k < l.length) (x : Int) (hx : l[k]? = some (false, x)) (T : List Value) (h : AH) (ua : Option Addr) (t : Int) (u : Nat) (hT : T.length = 125) (t1 : T.getD 1 undef = .slice a l.length ca) (t5 : T.getD 5 undef = .pointer (some ⟨b1, 0, none⟩)) (t7 : T.getD 7 undef = .pointer (some ⟨b2, 0, none⟩)) (t9 : T.getD 9 undef = .int .i64 k)
    (hR : Ra l a b1 h) (hb : h.get b1 = some (ringObj s t u)) (hk : Ok s t u) (hr : h.get b2 = some (refObj (s + 1) ua (vals s t 0 u).length (plc s t u))) (hU : Ug (vals s t 0 u) ua b2 h) (hlb : b2 < h.next) (hl2 : l.length ≤ 1000) (x1 : 1 ≤ x) (x2 : x ≤ s - u) :
    ∃ T' h', evalC Try.prog (env Try.prog ov0 (r + 1 + 700)) none (.loop C) ⟨⟨T⟩, [], h⟩ = some (.exit 0, ⟨⟨T'⟩, [], h'⟩) ∧ T'.length = 125 := by
  subst hC
  have st := st13
  have pr := pr13
  simp only [regionOf, regionAt, Try.f5, Option.getD_some, Nat.reduceEqDiff, if_true, if_false] at st pr
  simp only [l5, loopsOf, Try.f5, Option.getD_some] at ih ⊢
  have hR0 := hR
  have hk' := hk
  unfold Ok at hk'
  obtain ⟨β, o, rfl, hβ, hβb, hra⟩ := hR (by intro e; rw [e] at hkl; simp at hkl)
  obtain ⟨r1, r2⟩ := hra k _ hx
  simp only at r1 r2
  have hxb : -9223372036854775808 ≤ x ∧ x ≤ 9223372036854775807 := hf _ (List.mem_of_getElem? hx)
  have c1 : decide ((k : Int) < (l.length : Int)) = true := decide_eq_true (by omega)
  have i1 : 0 ≤ (k : Int) ∧ (k : Int) < (l.length : Int) := by omega
  have hk1 : ((k + 1 : Nat) : Int) = (k : Int) + 1 := rfl
  have hvl := vals_len s t 0 u
  have hlb1 : b1 < h.next := by omega
  have R0 := @reg19 b1 b2
  simp only [regionOf, regionAt, Try.f5, Option.getD_some, Nat.reduceEqDiff, if_true, if_false] at R0
  generalize hB : Code.region 19 _ _ = B at ih R0 ⊢
  have htk : tak s u x = 0 := by unfold tak; rw [if_neg (by omega), if_neg (by omega)]
  obtain ⟨⟨rv, rh⟩, ge, gn, gg, ⟨_, q1, q2, q3, q4⟩ | ⟨q0, _⟩⟩ := e11 (m := x) hb hk hxb hlb1 ov0 (o0 _) (o0 _) (o0 _) (o0 _) (r + 700) (by omega)
  rotate_left
  · exact absurd htk q0
  simp only at gn gg q1 q2 q3 q4
  subst q1
  have hr1 := (gg b2 hlb (by omega)).trans hr
  have hU1 : Ug (vals s t 0 u) ua b2 rh := hU.keep gn (fun γ o _ h1 h2 => gg γ h2 (by omega))
  obtain ⟨⟨rv, rh2⟩, gr, gn2, gg2, ⟨_, oa', ua', p1, p2, p3, p4⟩ | ⟨q0, _⟩⟩ := e17 (m := x) hk hxb hr1 hU1 (Nat.lt_of_lt_of_le hlb gn) (r + 700) (by omega)
  rotate_left
  · exact absurd htk q0
  simp only at gn2 gg2 p1 p2 p3 p4
  subst p1
  have em : ((x.toNat : Nat) : Int) = x := by omega
  have hvm := vals_len s t u x.toNat
  have hua : ∀ γ, h.next ≤ γ ∨ γ ≤ b2 → ∀ o, ua ≠ some ⟨γ, o, none⟩ := fun γ hγ o e => by
    have := hU.lt γ o e
    omega
  have hB2 : rh2.get h.next = some (partRow (ints (vals s t u x.toNat)) x.toNat 3 (.int .i64 0)) := (gg2 h.next q4 (by omega) (hua _ (.inl (Nat.le_refl _)))).trans q3
  have hb2 : rh2.get b1 = some (ringObj s t ((u + x.toNat : Nat) : Int)) := by
    rw [gg2 b1 (by omega) (by omega) (hua _ (.inr (by omega))), q2, show (u : Int) + x = ((u + x.toNat : Nat) : Int) by omega]
  have ok2 : Ok s t ((u + x.toNat : Nat) : Int) := by
    have := ok_take hk x1 x2
    rwa [show (u : Int) + x = ((u + x.toNat : Nat) : Int) by omega] at this
  have g18 := e18 (vals s t u x.toNat) (by omega) (some ⟨h.next, 0, none⟩) oa' x.toNat x.toNat rh2 (fun i y hi => ⟨h.next, 0, rfl, by
      rw [hB2, rowK_part ag3 _ _ _ (by simp [ints, hvm]), Nat.zero_add]; simp [ints, hi]⟩) (fun i y hi => by
      obtain ⟨β', o', e1, _, _, e2⟩ := p3.get hi
      exact ⟨β', o', e1, e2⟩) (r + 700) (by omega)
  rw [hvm] at gr g18
  have r3 : rowK Try.prog 3 (o + k * 2 + 1) (rh.get β) = some (.int .i64 x) := by rw [gg β hβ (by omega)]; exact r2
  have d1 : decide ((0 : Int) ≠ 0) = false := by decide
  rw [evalC_loop]
  simp (maxSteps := 1000000) (disch := omega) only [stepVal_guardT, yD_some, yK_bool, yK_undef, getD_set', List.length_set, Nat.reduceLT, evalC_drawT, drawL_eq, trace_cons, trace_nil, traceK_some, pad, evalC_seq, evalC_region, evalC_cond, evalC_ret, evalC_skip, evalC_label, evalC_exit, evalC_scope, evalC_block, evalC_draw, runOps_cons, runOps_nil, stepOp_eq, stepVal_plain, yieldedA_lit, opA_assign, opA_move, opA_binOp, opA_pick, opA_call, opA_alloc, opA_box, opA_load, opA_store, opA_extract, opA_buildSlice, opA_indexAddr, opA_fieldAddr, aeval_int, aeval_bool, aeval_tmp, aeval_nilSlice, aeval_nilPointer, aeval_nilFunc, aeval_func, arK_val, arK_skip, arK_enter, arK_round, valK_some, valK_none, opsK_some, Option.map_some, Option.map_none, seqK_normal, seqK_ret, seqK_exit, blockK_normal, blockK_ret, blockK_exit, loopK_normal, loopK_ret, loopK_exit, List.getElem?_cons_zero, List.getElem?_cons_succ, Option.bind_some, reduceCtorEq, if_false, if_true, pickK_bool, condK_true, condK_false, endK_ret, endK_normal, resultsA_tmp, resultsA_nil, resVal, Option.some.injEq, Bool.true_eq_false, Bool.false_eq_true, List.map_cons, List.map_nil, binA_add, binA_sub, binA_mul, binA_lss, binA_leq, binA_gtr, binA_geq, binA_eql, binA_neq, callA_builtin, max_int, min_int, loadK_pointer, storeK_pointer, IntWalk.i64_in, IntWalk.i64_quo, binA_quo, binA_rem, Int.tmod_eq_emod_of_nonneg, loadA_rowK, storeA_int hsz3, putK_cell, rowK_cell ag3, rowK_row ag3, boxA_cell, al3, get_empty, next_empty, AH.get_set, AH.get_push, AH.next_set, AH.next_push, resultsA_cell, resK_pointer, roundA_G, roundG_loop, asgK_normal, bodyK_loop, ended_some, endRK_normal, endRK_ret, endRK_exit, rangeK_E, rangeE_ready, rangeE_done, rangeH, setAll, shut_nil, shut_cons, shutK_defs, endK_shut, outK_some, AH.get_kill, AH.next_kill, evalRegion_G, drawG_ok, drawK_all, trace_cons, trace_nil, traceK_some, List.all_cons, List.all_nil, sameRead_K, sameK_plain, sameK_guard, wantK_some, veqK_val, veq_int, veq_bool, veq_pointer, veq_slice, veq_nilSlice, Bool.and_true, Bool.and_self, List.getLast?_cons_cons, List.getLast?_singleton, len_slice one22, indexAddrA_one one22, ixK_slice, append_one one22, apK_nil, apK_some, apB_row, oneOf_row, bs22, Nat.reduceLeDiff, and_self, and_true, true_and, Int.reduceToNat, Int.reduceNe, List.take_succ_cons, List.take_zero, List.take_nil, List.length_cons, List.length_nil, List.cons_append, List.nil_append, Int.reduceLE, Int.reduceLT, Int.reduceEq, Int.reduceNeg, Int.reduceAdd, Int.reduceSub, Int.reduceMul, Int.reduceDiv, Nat.reduceAdd, Nat.reduceEqDiff, decide_true, decide_false, hT, t1, t5, t7, t9, c1, i1, r1, r2, Int.toNat_natCast, env_code, st, pr, r3, d1, ge, gr, g18, callA_func _ _ _ _ _ _ b9, callA_func _ _ _ _ _ _ b10, callA_func _ _ _ _ _ _ b11, callA_func _ _ _ _ _ _ b15, callA_func _ _ _ _ _ _ b16, callA_func _ _ _ _ _ _ b17, callA_func _ _ _ _ _ _ b18, env_call (o0 _), extractA2, ia22, len22, fa30_0, fa30_1, loadA_rowK, opA_unOp_not, notG_bool, Bool.not_true, Bool.not_false]
  generalize hQ0 : List.set _ 93 (Value.bool false) = Q0
  have Qv : Q0.length = 125 := by rw [← hQ0]; simp only [getD_set', List.length_set, Nat.reduceEqDiff, Nat.reduceLT, if_true, if_false, hT]
  have Qa1 : Q0.getD 1 undef = .slice (some ⟨β, o, none⟩) l.length ca := by rw [← hQ0]; simp only [getD_set', List.length_set, Nat.reduceEqDiff, Nat.reduceLT, if_true, if_false, hT, t1]
  have Qa5 : Q0.getD 5 undef = .pointer (some ⟨b1, 0, none⟩) := by rw [← hQ0]; simp only [getD_set', List.length_set, Nat.reduceEqDiff, Nat.reduceLT, if_true, if_false, hT, t5]
  have Qa7 : Q0.getD 7 undef = .pointer (some ⟨b2, 0, none⟩) := by rw [← hQ0]; simp only [getD_set', List.length_set, Nat.reduceEqDiff, Nat.reduceLT, if_true, if_false, hT, t7]
  have Qa9 : Q0.getD 9 undef = .int .i64 k := by rw [← hQ0]; simp only [getD_set', List.length_set, Nat.reduceEqDiff, Nat.reduceLT, if_true, if_false, hT, t9]
  obtain ⟨T2, e, w, w124, wj⟩ := R0 (h := rh2) (t := t) (u := (u + x.toNat)) (ua := ua') hb2 ok2 p2 p4 (r + 699) Q0 Qv Qa5 Qa7
  have w1 := (wj 1 (by decide)).trans Qa1
  have w5 := (wj 5 (by decide)).trans Qa5
  have w7 := (wj 7 (by decide)).trans Qa7
  have w9 := (wj 9 (by decide)).trans Qa9
  simp (maxSteps := 1000000) (disch := omega) only [stepVal_guardT, yD_some, yK_bool, yK_undef, getD_set', List.length_set, Nat.reduceLT, evalC_drawT, drawL_eq, trace_cons, trace_nil, traceK_some, pad, evalC_seq, evalC_region, evalC_cond, evalC_ret, evalC_skip, evalC_label, evalC_exit, evalC_scope, evalC_block, evalC_draw, runOps_cons, runOps_nil, stepOp_eq, stepVal_plain, yieldedA_lit, opA_assign, opA_move, opA_binOp, opA_pick, opA_call, opA_alloc, opA_box, opA_load, opA_store, opA_extract, opA_buildSlice, opA_indexAddr, opA_fieldAddr, aeval_int, aeval_bool, aeval_tmp, aeval_nilSlice, aeval_nilPointer, aeval_nilFunc, aeval_func, arK_val, arK_skip, arK_enter, arK_round, valK_some, valK_none, opsK_some, Option.map_some, Option.map_none, seqK_normal, seqK_ret, seqK_exit, blockK_normal, blockK_ret, blockK_exit, loopK_normal, loopK_ret, loopK_exit, List.getElem?_cons_zero, List.getElem?_cons_succ, Option.bind_some, reduceCtorEq, if_false, if_true, pickK_bool, condK_true, condK_false, endK_ret, endK_normal, resultsA_tmp, resultsA_nil, resVal, Option.some.injEq, Bool.true_eq_false, Bool.false_eq_true, List.map_cons, List.map_nil, binA_add, binA_sub, binA_mul, binA_lss, binA_leq, binA_gtr, binA_geq, binA_eql, binA_neq, callA_builtin, max_int, min_int, loadK_pointer, storeK_pointer, IntWalk.i64_in, IntWalk.i64_quo, binA_quo, binA_rem, Int.tmod_eq_emod_of_nonneg, loadA_rowK, storeA_int hsz3, putK_cell, rowK_cell ag3, rowK_row ag3, boxA_cell, al3, get_empty, next_empty, AH.get_set, AH.get_push, AH.next_set, AH.next_push, resultsA_cell, resK_pointer, roundA_G, roundG_loop, asgK_normal, bodyK_loop, ended_some, endRK_normal, endRK_ret, endRK_exit, rangeK_E, rangeE_ready, rangeE_done, rangeH, setAll, shut_nil, shut_cons, shutK_defs, endK_shut, outK_some, AH.get_kill, AH.next_kill, evalRegion_G, drawG_ok, drawK_all, trace_cons, trace_nil, traceK_some, List.all_cons, List.all_nil, sameRead_K, sameK_plain, sameK_guard, wantK_some, veqK_val, veq_int, veq_bool, veq_pointer, veq_slice, veq_nilSlice, Bool.and_true, Bool.and_self, List.getLast?_cons_cons, List.getLast?_singleton, len_slice one22, indexAddrA_one one22, ixK_slice, append_one one22, apK_nil, apK_some, apB_row, oneOf_row, bs22, Nat.reduceLeDiff, and_self, and_true, true_and, Int.reduceToNat, Int.reduceNe, List.take_succ_cons, List.take_zero, List.take_nil, List.length_cons, List.length_nil, List.cons_append, List.nil_append, Int.reduceLE, Int.reduceLT, Int.reduceEq, Int.reduceNeg, Int.reduceAdd, Int.reduceSub, Int.reduceMul, Int.reduceDiv, Nat.reduceAdd, Nat.reduceEqDiff, decide_true, decide_false, e, w, w1, w5, w7, w9, w124, env_code]
  refine ih _ _ ua' t (u + x.toNat) ?_ ?_ ?_ ?_ ?_ (hR0.keep (Nat.le_trans gn gn2) (fun γ h1 h2 => (gg2 γ (by omega) (by omega) (hua γ (.inr (by omega)))).trans (gg γ h2 (by omega)))) hb2 ok2 p2 p4 (Nat.lt_of_lt_of_le hlb (Nat.le_trans gn gn2))
  · simp only [getD_set', List.length_set, Nat.reduceEqDiff, Nat.reduceLT, if_true, if_false, w]
  · simp only [getD_set', List.length_set, Nat.reduceEqDiff, Nat.reduceLT, if_true, if_false, w, w1]
  · simp only [getD_set', List.length_set, Nat.reduceEqDiff, Nat.reduceLT, if_true, if_false, w, w5]
  · simp only [getD_set', List.length_set, Nat.reduceEqDiff, Nat.reduceLT, if_true, if_false, w, w7]
  · simp only [getD_set', List.length_set, Nat.reduceEqDiff, Nat.reduceLT, if_true, if_false, w]


theorem loop5 (l : List (Bool × Int)) (hf : fineA l) (hl2 : l.length ≤ 1000) (a : Option Addr) (ca : Nat) (b1 b2 : Nat) (hbb : b1 < b2) (s : Int) : ∀ (r k : Nat), k + r = l.length → ∀ (T : List Value) (h : AH) (ua : Option Addr) (t : Int) (u : Nat), T.length = 125 → T.getD 1 undef = .slice a l.length ca → T.getD 5 undef = .pointer (some ⟨b1, 0, none⟩) → T.getD 7 undef = .pointer (some ⟨b2, 0, none⟩) → 
      T.getD 9 undef = .int .i64 k → Ra l a b1 h → h.get b1 = some (ringObj s t u) → Ok s t u → h.get b2 = some (refObj (s + 1) ua (vals s t 0 u).length (plc s t u)) → Ug (vals s t 0 u) ua b2 h → b2 < h.next → 
      ∃ T' h', evalC Try.prog (env Try.prog ov0 (r + 700)) none (.loop l5) ⟨⟨T⟩, [], h⟩ = some (.exit 0, ⟨⟨T'⟩, [], h'⟩) ∧ T'.length = 125 := by
  intro r
  induction r with
  | zero =>
    intro k hk0 T h ua t u hT t1 t5 t7 t9 hR hb hk hr hU hlb
    have c1 : decide ((k : Int) < (l.length : Int)) = false := decide_eq_false (by omega)
    rw [evalC_loop]
    simp (maxSteps := 1000000) (disch := omega) only [stepVal_guardT, yD_some, yK_bool, yK_undef, getD_set', List.length_set, Nat.reduceLT, evalC_drawT, drawL_eq, trace_cons, trace_nil, traceK_some, pad, evalC_seq, evalC_region, evalC_cond, evalC_ret, evalC_skip, evalC_label, evalC_exit, evalC_scope, evalC_block, evalC_draw, runOps_cons, runOps_nil, stepOp_eq, stepVal_plain, yieldedA_lit, opA_assign, opA_move, opA_binOp, opA_pick, opA_call, opA_alloc, opA_box, opA_load, opA_store, opA_extract, opA_buildSlice, opA_indexAddr, opA_fieldAddr, aeval_int, aeval_bool, aeval_tmp, aeval_nilSlice, aeval_nilPointer, aeval_nilFunc, aeval_func, arK_val, arK_skip, arK_enter, arK_round, valK_some, valK_none, opsK_some, Option.map_some, Option.map_none, seqK_normal, seqK_ret, seqK_exit, blockK_normal, blockK_ret, blockK_exit, loopK_normal, loopK_ret, loopK_exit, List.getElem?_cons_zero, List.getElem?_cons_succ, Option.bind_some, reduceCtorEq, if_false, if_true, pickK_bool, condK_true, condK_false, endK_ret, endK_normal, resultsA_tmp, resultsA_nil, resVal, Option.some.injEq, Bool.true_eq_false, Bool.false_eq_true, List.map_cons, List.map_nil, binA_add, binA_sub, binA_mul, binA_lss, binA_leq, binA_gtr, binA_geq, binA_eql, binA_neq, callA_builtin, max_int, min_int, loadK_pointer, storeK_pointer, IntWalk.i64_in, IntWalk.i64_quo, binA_quo, binA_rem, Int.tmod_eq_emod_of_nonneg, loadA_rowK, storeA_int hsz3, putK_cell, rowK_cell ag3, rowK_row ag3, boxA_cell, al3, get_empty, next_empty, AH.get_set, AH.get_push, AH.next_set, AH.next_push, resultsA_cell, resK_pointer, roundA_G, roundG_loop, asgK_normal, bodyK_loop, ended_some, endRK_normal, endRK_ret, endRK_exit, rangeK_E, rangeE_ready, rangeE_done, rangeH, setAll, shut_nil, shut_cons, shutK_defs, endK_shut, outK_some, AH.get_kill, AH.next_kill, evalRegion_G, drawG_ok, drawK_all, trace_cons, trace_nil, traceK_some, List.all_cons, List.all_nil, sameRead_K, sameK_plain, sameK_guard, wantK_some, veqK_val, veq_int, veq_bool, veq_pointer, veq_slice, veq_nilSlice, Bool.and_true, Bool.and_self, List.getLast?_cons_cons, List.getLast?_singleton, len_slice one22, indexAddrA_one one22, ixK_slice, append_one one22, apK_nil, apK_some, apB_row, oneOf_row, bs22, Nat.reduceLeDiff, and_self, and_true, true_and, Int.reduceToNat, Int.reduceNe, List.take_succ_cons, List.take_zero, List.take_nil, List.length_cons, List.length_nil, List.cons_append, List.nil_append, Int.reduceLE, Int.reduceLT, Int.reduceEq, Int.reduceNeg, Int.reduceAdd, Int.reduceSub, Int.reduceMul, Int.reduceDiv, Nat.reduceAdd, Nat.reduceEqDiff, decide_true, decide_false, l5, loopsOf, Option.getD_some, c1, Try.f5, hT, t1, t9, len22]
    exact ⟨_, _, rfl, by simp only [getD_set', List.length_set, Nat.reduceEqDiff, Nat.reduceLT, if_true, if_false, hT]⟩
  | succ r ih =>
    intro k hk0 T h ua t u hT t1 t5 t7 t9 hR hb hk hr hU hlb
    have hx : l[k]? = some (l[k]'(by omega)) := by simp
    generalize l[k]'(by omega) = y at hx
    obtain ⟨g, x⟩ := y
    have ih' := fun T h ua t u => ih (k + 1) (by omega) T h ua t u
    cases g with
    | true =>
      by_cases c1 : x < 0 ∨ (u : Int) < x
      · exact step5_gx l hf a ca b1 b2 hbb s l5 r k rfl ih' (by omega) x hx T h ua t u hT t1 t5 t7 t9 hR hb hk hr hU hlb hl2 c1
      · exact step5_gy l hf a ca b1 b2 hbb s l5 r k rfl ih' (by omega) x hx T h ua t u hT t1 t5 t7 t9 hR hb hk hr hU hlb hl2 (by omega) (by omega)
    | false =>
      by_cases c1 : 1 ≤ x ∧ x ≤ s - u
      · exact step5_ty l hf a ca b1 b2 hbb s l5 r k rfl ih' (by omega) x hx T h ua t u hT t1 t5 t7 t9 hR hb hk hr hU hlb hl2 c1.1 c1.2
      · refine step5_tx l hf a ca b1 b2 hbb s l5 r k rfl ih' (by omega) x hx T h ua t u hT t1 t5 t7 t9 hR hb hk hr hU hlb hl2 ?_
        unfold tak
        by_cases c2 : x < 1
        · rw [if_pos c2]; decide
        · rw [if_neg c2, if_pos (by omega)]; decide

theorem eqQ_no (ox oy : Operand) (a : Addr) : binA Try.prog .eql 38 ox oy (.pointer (some a)) (.pointer none) = some (.bool false) := by kernel_rfl
theorem eqQ_yes (ox oy : Operand) : binA Try.prog .eql 38 ox oy (.pointer none) (.pointer none) = some (.bool true) := by kernel_rfl
theorem bneB (ox oy : Operand) (a : Bool) : binA Try.prog .neq 4 ox oy (.bool a) (.bool a) = some (.bool false) := by
  cases a <;> (show _ = _; kernel_rfl)

theorem e5 (n : Int) (hp : -9223372036854775808 ≤ n ∧ n ≤ 9223372036854775807) (l : List (Bool × Int)) (hf : fineA l) (a : Option Addr) (c : Nat) (h : AH)
    (hR : l ≠ [] → ∃ β o, a = some ⟨β, o, none⟩ ∧ β < h.next ∧ ∀ (i : Nat) x, l[i]? = some x → rowK Try.prog 4 (o + i * 2) (h.get β) = some (.bool x.1) ∧ rowK Try.prog 3 (o + i * 2 + 1) (h.get β) = some (.int .i64 x.2)) :
    ∃ m, (callFn Try.prog (env Try.prog ov0 m) 5 ⟨[.int .i64 n, .slice a l.length c]⟩ h).map (·.1) = some (.bool true) := by
  refine ⟨l.length + 700, ?_⟩
  refine callFn_Tm Try.func5 rfl _ _ (by show 2 ≤ 125; decide) fun T hT hq => ?_
  have p0 : T.getD 0 undef = .int .i64 n := hq 0
  have p1 : T.getD 1 undef = .slice a l.length c := hq 1
  replace hT : T.length = 125 := hT
  by_cases h3 : (400 : Int) < l.length
  · have d3 : decide ((400 : Int) < (l.length : Int)) = true := decide_eq_true h3
    simp (maxSteps := 1000000) (disch := omega) only [stepVal_guardT, yD_some, yK_bool, yK_undef, getD_set', List.length_set, Nat.reduceLT, evalC_drawT, drawL_eq, trace_cons, trace_nil, traceK_some, pad, evalC_seq, evalC_region, evalC_cond, evalC_ret, evalC_skip, evalC_label, evalC_exit, evalC_scope, evalC_block, evalC_draw, runOps_cons, runOps_nil, stepOp_eq, stepVal_plain, yieldedA_lit, opA_assign, opA_move, opA_binOp, opA_pick, opA_call, opA_alloc, opA_box, opA_load, opA_store, opA_extract, opA_buildSlice, opA_indexAddr, opA_fieldAddr, aeval_int, aeval_bool, aeval_tmp, aeval_nilSlice, aeval_nilPointer, aeval_nilFunc, aeval_func, arK_val, arK_skip, arK_enter, arK_round, valK_some, valK_none, opsK_some, Option.map_some, Option.map_none, seqK_normal, seqK_ret, seqK_exit, blockK_normal, blockK_ret, blockK_exit, loopK_normal, loopK_ret, loopK_exit, List.getElem?_cons_zero, List.getElem?_cons_succ, Option.bind_some, reduceCtorEq, if_false, if_true, pickK_bool, condK_true, condK_false, endK_ret, endK_normal, resultsA_tmp, resultsA_nil, resVal, Option.some.injEq, Bool.true_eq_false, Bool.false_eq_true, List.map_cons, List.map_nil, binA_add, binA_sub, binA_mul, binA_lss, binA_leq, binA_gtr, binA_geq, binA_eql, binA_neq, callA_builtin, max_int, min_int, loadK_pointer, storeK_pointer, IntWalk.i64_in, IntWalk.i64_quo, binA_quo, binA_rem, Int.tmod_eq_emod_of_nonneg, loadA_rowK, storeA_int hsz3, putK_cell, rowK_cell ag3, rowK_row ag3, boxA_cell, al3, get_empty, next_empty, AH.get_set, AH.get_push, AH.next_set, AH.next_push, resultsA_cell, resK_pointer, roundA_G, roundG_loop, asgK_normal, bodyK_loop, ended_some, endRK_normal, endRK_ret, endRK_exit, rangeK_E, rangeE_ready, rangeE_done, rangeH, setAll, shut_nil, shut_cons, shutK_defs, endK_shut, outK_some, AH.get_kill, AH.next_kill, evalRegion_G, drawG_ok, drawK_all, trace_cons, trace_nil, traceK_some, List.all_cons, List.all_nil, sameRead_K, sameK_plain, sameK_guard, wantK_some, veqK_val, veq_int, veq_bool, veq_pointer, veq_slice, veq_nilSlice, Bool.and_true, Bool.and_self, List.getLast?_cons_cons, List.getLast?_singleton, len_slice one22, indexAddrA_one one22, ixK_slice, append_one one22, apK_nil, apK_some, apB_row, oneOf_row, bs22, Nat.reduceLeDiff, and_self, and_true, true_and, Int.reduceToNat, Int.reduceNe, List.take_succ_cons, List.take_zero, List.take_nil, List.length_cons, List.length_nil, List.cons_append, List.nil_append, Int.reduceLE, Int.reduceLT, Int.reduceEq, Int.reduceNeg, Int.reduceAdd, Int.reduceSub, Int.reduceMul, Int.reduceDiv, Nat.reduceAdd, Nat.reduceEqDiff, decide_true, decide_false, Try.f5, hT, p0, p1, d3, len22]
  have d3 : decide ((400 : Int) < (l.length : Int)) = false := decide_eq_false h3
  by_cases hn : n < 40 ∨ 256 < n
  · have g9 := e9n hn h (env Try.prog ov0 (l.length + 699))
    have g15 := e15n hn h (env Try.prog ov0 (l.length + 699))
    have d4 : decide ((2 : Int) ≠ 2) = false := by decide
    simp (maxSteps := 1000000) (disch := omega) only [stepVal_guardT, yD_some, yK_bool, yK_undef, getD_set', List.length_set, Nat.reduceLT, evalC_drawT, drawL_eq, trace_cons, trace_nil, traceK_some, pad, evalC_seq, evalC_region, evalC_cond, evalC_ret, evalC_skip, evalC_label, evalC_exit, evalC_scope, evalC_block, evalC_draw, runOps_cons, runOps_nil, stepOp_eq, stepVal_plain, yieldedA_lit, opA_assign, opA_move, opA_binOp, opA_pick, opA_call, opA_alloc, opA_box, opA_load, opA_store, opA_extract, opA_buildSlice, opA_indexAddr, opA_fieldAddr, aeval_int, aeval_bool, aeval_tmp, aeval_nilSlice, aeval_nilPointer, aeval_nilFunc, aeval_func, arK_val, arK_skip, arK_enter, arK_round, valK_some, valK_none, opsK_some, Option.map_some, Option.map_none, seqK_normal, seqK_ret, seqK_exit, blockK_normal, blockK_ret, blockK_exit, loopK_normal, loopK_ret, loopK_exit, List.getElem?_cons_zero, List.getElem?_cons_succ, Option.bind_some, reduceCtorEq, if_false, if_true, pickK_bool, condK_true, condK_false, endK_ret, endK_normal, resultsA_tmp, resultsA_nil, resVal, Option.some.injEq, Bool.true_eq_false, Bool.false_eq_true, List.map_cons, List.map_nil, binA_add, binA_sub, binA_mul, binA_lss, binA_leq, binA_gtr, binA_geq, binA_eql, binA_neq, callA_builtin, max_int, min_int, loadK_pointer, storeK_pointer, IntWalk.i64_in, IntWalk.i64_quo, binA_quo, binA_rem, Int.tmod_eq_emod_of_nonneg, loadA_rowK, storeA_int hsz3, putK_cell, rowK_cell ag3, rowK_row ag3, boxA_cell, al3, get_empty, next_empty, AH.get_set, AH.get_push, AH.next_set, AH.next_push, resultsA_cell, resK_pointer, roundA_G, roundG_loop, asgK_normal, bodyK_loop, ended_some, endRK_normal, endRK_ret, endRK_exit, rangeK_E, rangeE_ready, rangeE_done, rangeH, setAll, shut_nil, shut_cons, shutK_defs, endK_shut, outK_some, AH.get_kill, AH.next_kill, evalRegion_G, drawG_ok, drawK_all, trace_cons, trace_nil, traceK_some, List.all_cons, List.all_nil, sameRead_K, sameK_plain, sameK_guard, wantK_some, veqK_val, veq_int, veq_bool, veq_pointer, veq_slice, veq_nilSlice, Bool.and_true, Bool.and_self, List.getLast?_cons_cons, List.getLast?_singleton, len_slice one22, indexAddrA_one one22, ixK_slice, append_one one22, apK_nil, apK_some, apB_row, oneOf_row, bs22, Nat.reduceLeDiff, and_self, and_true, true_and, Int.reduceToNat, Int.reduceNe, List.take_succ_cons, List.take_zero, List.take_nil, List.length_cons, List.length_nil, List.cons_append, List.nil_append, Int.reduceLE, Int.reduceLT, Int.reduceEq, Int.reduceNeg, Int.reduceAdd, Int.reduceSub, Int.reduceMul, Int.reduceDiv, Nat.reduceAdd, Nat.reduceEqDiff, decide_true, decide_false, Try.f5, hT, p0, p1, d3, d4, g9, g15, eqQ_yes, eqP_yes, bneB, callA_func _ _ _ _ _ _ b9, callA_func _ _ _ _ _ _ b10, callA_func _ _ _ _ _ _ b11, callA_func _ _ _ _ _ _ b15, callA_func _ _ _ _ _ _ b16, callA_func _ _ _ _ _ _ b17, callA_func _ _ _ _ _ _ b18, env_call (o0 _), extractA2, ia22, len22, fa30_0, fa30_1, loadA_rowK, opA_unOp_not, notG_bool, Bool.not_true, Bool.not_false]
  · have g9 := e9 (j := n) (by omega) h (env Try.prog ov0 (l.length + 699))
    have g15 := e15 (j := n) (by omega) (h.push (ringObj (n - 1) 0 0)) (env Try.prog ov0 (l.length + 699))
    rw [AH.next_push] at g15
    have d4 : decide ((0 : Int) ≠ 0) = false := by decide
    simp (maxSteps := 1000000) (disch := omega) only [stepVal_guardT, yD_some, yK_bool, yK_undef, getD_set', List.length_set, Nat.reduceLT, evalC_drawT, drawL_eq, trace_cons, trace_nil, traceK_some, pad, evalC_seq, evalC_region, evalC_cond, evalC_ret, evalC_skip, evalC_label, evalC_exit, evalC_scope, evalC_block, evalC_draw, runOps_cons, runOps_nil, stepOp_eq, stepVal_plain, yieldedA_lit, opA_assign, opA_move, opA_binOp, opA_pick, opA_call, opA_alloc, opA_box, opA_load, opA_store, opA_extract, opA_buildSlice, opA_indexAddr, opA_fieldAddr, aeval_int, aeval_bool, aeval_tmp, aeval_nilSlice, aeval_nilPointer, aeval_nilFunc, aeval_func, arK_val, arK_skip, arK_enter, arK_round, valK_some, valK_none, opsK_some, Option.map_some, Option.map_none, seqK_normal, seqK_ret, seqK_exit, blockK_normal, blockK_ret, blockK_exit, loopK_normal, loopK_ret, loopK_exit, List.getElem?_cons_zero, List.getElem?_cons_succ, Option.bind_some, reduceCtorEq, if_false, if_true, pickK_bool, condK_true, condK_false, endK_ret, endK_normal, resultsA_tmp, resultsA_nil, resVal, Option.some.injEq, Bool.true_eq_false, Bool.false_eq_true, List.map_cons, List.map_nil, binA_add, binA_sub, binA_mul, binA_lss, binA_leq, binA_gtr, binA_geq, binA_eql, binA_neq, callA_builtin, max_int, min_int, loadK_pointer, storeK_pointer, IntWalk.i64_in, IntWalk.i64_quo, binA_quo, binA_rem, Int.tmod_eq_emod_of_nonneg, loadA_rowK, storeA_int hsz3, putK_cell, rowK_cell ag3, rowK_row ag3, boxA_cell, al3, get_empty, next_empty, AH.get_set, AH.get_push, AH.next_set, AH.next_push, resultsA_cell, resK_pointer, roundA_G, roundG_loop, asgK_normal, bodyK_loop, ended_some, endRK_normal, endRK_ret, endRK_exit, rangeK_E, rangeE_ready, rangeE_done, rangeH, setAll, shut_nil, shut_cons, shutK_defs, endK_shut, outK_some, AH.get_kill, AH.next_kill, evalRegion_G, drawG_ok, drawK_all, trace_cons, trace_nil, traceK_some, List.all_cons, List.all_nil, sameRead_K, sameK_plain, sameK_guard, wantK_some, veqK_val, veq_int, veq_bool, veq_pointer, veq_slice, veq_nilSlice, Bool.and_true, Bool.and_self, List.getLast?_cons_cons, List.getLast?_singleton, len_slice one22, indexAddrA_one one22, ixK_slice, append_one one22, apK_nil, apK_some, apB_row, oneOf_row, bs22, Nat.reduceLeDiff, and_self, and_true, true_and, Int.reduceToNat, Int.reduceNe, List.take_succ_cons, List.take_zero, List.take_nil, List.length_cons, List.length_nil, List.cons_append, List.nil_append, Int.reduceLE, Int.reduceLT, Int.reduceEq, Int.reduceNeg, Int.reduceAdd, Int.reduceSub, Int.reduceMul, Int.reduceDiv, Nat.reduceAdd, Nat.reduceEqDiff, decide_true, decide_false, Try.f5, hT, p0, p1, d3, d4, g9, g15, eqQ_no, eqP_no, bneB, callA_func _ _ _ _ _ _ b9, callA_func _ _ _ _ _ _ b10, callA_func _ _ _ _ _ _ b11, callA_func _ _ _ _ _ _ b15, callA_func _ _ _ _ _ _ b16, callA_func _ _ _ _ _ _ b17, callA_func _ _ _ _ _ _ b18, env_call (o0 _), extractA2, ia22, len22, fa30_0, fa30_1, loadA_rowK, opA_unOp_not, notG_bool, Bool.not_true, Bool.not_false]
    generalize hT0 : List.set _ 9 (Value.int IntKind.i64 0) = T0
    have v : T0.length = 125 := by rw [← hT0]; simp only [getD_set', List.length_set, Nat.reduceEqDiff, Nat.reduceLT, if_true, if_false, hT]
    have v1 : T0.getD 1 undef = .slice a l.length c := by rw [← hT0]; simp only [getD_set', List.length_set, Nat.reduceEqDiff, Nat.reduceLT, if_true, if_false, hT, p1]
    have v5 : T0.getD 5 undef = .pointer (some ⟨h.next, 0, none⟩) := by rw [← hT0]; simp only [getD_set', List.length_set, Nat.reduceEqDiff, Nat.reduceLT, if_true, if_false, hT]
    have v7 : T0.getD 7 undef = .pointer (some ⟨h.next + 1, 0, none⟩) := by rw [← hT0]; simp only [getD_set', List.length_set, Nat.reduceEqDiff, Nat.reduceLT, if_true, if_false, hT]
    have v9 : T0.getD 9 undef = .int .i64 ((0 : Nat) : Int) := by rw [← hT0]; simp only [getD_set', List.length_set, Nat.reduceEqDiff, Nat.reduceLT, if_true, if_false, hT]; rfl
    have hpl : plc (n - 1) 0 ((0 : Nat) : Int) = 1 := by unfold plc; simp
    obtain ⟨T', h', e, w⟩ := loop5 l hf (by omega) a c h.next (h.next + 1) (by omega) (n - 1) l.length 0 (by omega) T0 ((h.push (ringObj (n - 1) 0 0)).push (refObj n none 0 1)) none 0 0 v v1 v5 v7 v9
      (fun hne => by
        obtain ⟨β, o, e1, e2, e3⟩ := hR hne
        exact ⟨β, o, e1, by rw [AH.next_push, AH.next_push]; omega, e2, fun i x hi => by rw [AH.get_push, AH.next_push, if_neg (by omega), AH.get_push, if_neg (by omega)]; exact e3 i x hi⟩)
      (by rw [AH.get_push, AH.next_push, if_neg (by omega), AH.get_push, if_pos rfl]; rfl) (by unfold Ok; omega)
      (by rw [AH.get_push, AH.next_push, if_pos rfl, hpl, show n - 1 + 1 = n by omega]; rfl) (.inl ⟨rfl, rfl⟩) (by rw [AH.next_push, AH.next_push]; omega)
    simp only [l5, loopsOf, Try.f5, Option.getD_some] at e
    simp (maxSteps := 1000000) (disch := omega) only [stepVal_guardT, yD_some, yK_bool, yK_undef, getD_set', List.length_set, Nat.reduceLT, evalC_drawT, drawL_eq, trace_cons, trace_nil, traceK_some, pad, evalC_seq, evalC_region, evalC_cond, evalC_ret, evalC_skip, evalC_label, evalC_exit, evalC_scope, evalC_block, evalC_draw, runOps_cons, runOps_nil, stepOp_eq, stepVal_plain, yieldedA_lit, opA_assign, opA_move, opA_binOp, opA_pick, opA_call, opA_alloc, opA_box, opA_load, opA_store, opA_extract, opA_buildSlice, opA_indexAddr, opA_fieldAddr, aeval_int, aeval_bool, aeval_tmp, aeval_nilSlice, aeval_nilPointer, aeval_nilFunc, aeval_func, arK_val, arK_skip, arK_enter, arK_round, valK_some, valK_none, opsK_some, Option.map_some, Option.map_none, seqK_normal, seqK_ret, seqK_exit, blockK_normal, blockK_ret, blockK_exit, loopK_normal, loopK_ret, loopK_exit, List.getElem?_cons_zero, List.getElem?_cons_succ, Option.bind_some, reduceCtorEq, if_false, if_true, pickK_bool, condK_true, condK_false, endK_ret, endK_normal, resultsA_tmp, resultsA_nil, resVal, Option.some.injEq, Bool.true_eq_false, Bool.false_eq_true, List.map_cons, List.map_nil, binA_add, binA_sub, binA_mul, binA_lss, binA_leq, binA_gtr, binA_geq, binA_eql, binA_neq, callA_builtin, max_int, min_int, loadK_pointer, storeK_pointer, IntWalk.i64_in, IntWalk.i64_quo, binA_quo, binA_rem, Int.tmod_eq_emod_of_nonneg, loadA_rowK, storeA_int hsz3, putK_cell, rowK_cell ag3, rowK_row ag3, boxA_cell, al3, get_empty, next_empty, AH.get_set, AH.get_push, AH.next_set, AH.next_push, resultsA_cell, resK_pointer, roundA_G, roundG_loop, asgK_normal, bodyK_loop, ended_some, endRK_normal, endRK_ret, endRK_exit, rangeK_E, rangeE_ready, rangeE_done, rangeH, setAll, shut_nil, shut_cons, shutK_defs, endK_shut, outK_some, AH.get_kill, AH.next_kill, evalRegion_G, drawG_ok, drawK_all, trace_cons, trace_nil, traceK_some, List.all_cons, List.all_nil, sameRead_K, sameK_plain, sameK_guard, wantK_some, veqK_val, veq_int, veq_bool, veq_pointer, veq_slice, veq_nilSlice, Bool.and_true, Bool.and_self, List.getLast?_cons_cons, List.getLast?_singleton, len_slice one22, indexAddrA_one one22, ixK_slice, append_one one22, apK_nil, apK_some, apB_row, oneOf_row, bs22, Nat.reduceLeDiff, and_self, and_true, true_and, Int.reduceToNat, Int.reduceNe, List.take_succ_cons, List.take_zero, List.take_nil, List.length_cons, List.length_nil, List.cons_append, List.nil_append, Int.reduceLE, Int.reduceLT, Int.reduceEq, Int.reduceNeg, Int.reduceAdd, Int.reduceSub, Int.reduceMul, Int.reduceDiv, Nat.reduceAdd, Nat.reduceEqDiff, decide_true, decide_false, Try.f5, e, w]
end Go.Proofs.Ring
