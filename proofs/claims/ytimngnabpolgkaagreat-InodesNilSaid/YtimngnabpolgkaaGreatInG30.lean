/-
  A bit of a block is set (bits.turn, bits.Set): what it comes to.
-/
import Derived.Test.YtimngnabpolgkaaGreatInG29
namespace Go.Proofs.Leaf
set_option linter.unusedSimpArgs false
set_option linter.unusedVariables false
open Go.AE
set_option maxRecDepth 100000
set_option maxHeartbeats 4000000

theorem eqP136 (ox oy : Operand) (a : Addr) : binA Tryz.prog .eql 136 ox oy (.pointer (some a)) (.pointer none) = some (.bool false) := by kernel_rfl
theorem neqB1 (ox oy : Operand) : binA Tryz.prog .neq 4 ox oy (.bool true) (.bool false) = some (.bool true) := by kernel_rfl
theorem neqB0 (ox oy : Operand) : binA Tryz.prog .neq 4 ox oy (.bool false) (.bool false) = some (.bool false) := by kernel_rfl
theorem b107 : ((Tryz.prog.funcs[107]?).bind (·.body)).isSome = true := by kernel_rfl
theorem b231 : ((Tryz.prog.funcs[231]?).bind (·.body)).isSome = true := by kernel_rfl
theorem st176 : drawStatic (regionOf Tryz.f176 4) = true := by kernel_rfl
theorem pr176 : drawPairs (regionOf Tryz.f176 4) = [] := by kernel_rfl
theorem u45 : Tryz.prog.underlying 45 = some (.array 256 5) := by kernel_rfl

theorem bv_nums (l : List Nat) : bv l = numsOf .u8 (l.map fun (x : Nat) => (x : Int)) := by simp [bv, numsOf, u8v]
theorem eq45 (ox oy : Operand) (l : List Nat) (j x : Nat) (hl : l.length = 256) (hj : j < l.length) (hx : x ≠ l.getD j 0) :
    binA Tryz.prog .eql 45 ox oy (.agg ⟨bv (l.set j x)⟩) (.agg ⟨bv l⟩) = some (.bool false) := by
  obtain ⟨i, hi, hs⟩ := inf5
  have h1 : plain (.agg ⟨bv (l.set j x)⟩) = true := by
    show List.all (bv (l.set j x)) plain1 = true
    rw [List.all_eq_true]; intro v hv; simp only [bv, List.mem_map] at hv; obtain ⟨y, _, rfl⟩ := hv; rfl
  have h2 : plain (.agg ⟨bv l⟩) = true := by
    show List.all (bv l) plain1 = true
    rw [List.all_eq_true]; intro v hv; simp only [bv, List.mem_map] at hv; obtain ⟨y, _, rfl⟩ := hv; rfl
  have h3 : aggEqA Tryz.prog 45 ⟨bv (l.set j x)⟩ ⟨bv l⟩ = some false := by
    simp only [aggEqA, u45, u5, hi]
    rw [if_pos ⟨hs, by simp [length_bv, hl], by simp [length_bv, hl]⟩]
    rw [bv_nums, bv_nums, List.map_set, rowEq_set _ _ _ _ (by simpa using hj)]
    congr 1
    simp only [List.getElem_map]
    refine decide_eq_false fun e => hx ?_
    simp only [List.getD_eq_getElem?_getD, List.getElem?_eq_getElem hj, Option.getD_some]
    exact Int.ofNat.inj e
  simp only [binA, h1, h2, Bool.and_self, if_true, fastEq, h3, Option.map_some]

theorem bt_xor (x k : Nat) (h : bt x k = false) : x ^^^ 1 <<< k ≠ x := by
  intro e
  have h1 : (x ^^^ 1 <<< k).testBit k = x.testBit k := by rw [e]
  rw [Nat.testBit_xor, Nat.one_shiftLeft, Nat.testBit_two_pow_self] at h1
  cases hh : x.testBit k <;> rw [hh] at h1 <;> simp at h1

theorem turn_fn (l : List Nat) (i B off n e z : Nat) (op : Bool) (d : Value) (c : Row) (h : AH) (hl : l.length = 256) (hx : ∀ x ∈ l, x < 256) (hi : i < 2048) (hg : h.get B = some (.cells c n e (0, 0) z op false d)) (hB : B < h.next) (hn : off + 256 ≤ n)
    (hr : rowA c d off 256 = bv l) (m : Nat) :
    ∃ r, callFn Tryz.prog (env Tryz.prog (fun _ => none) (m + 1)) 176 ⟨[.pointer (some ⟨B, off, none⟩), .int .i64 (i : Int), .bool false]⟩ h = some r ∧ h.next ≤ r.2.next ∧ (∀ γ, γ < h.next → γ ≠ B → r.2.get γ = h.get γ) ∧
      if bt (l.getD (i / 8) 0) (i % 8) = true then r.1 = .bool false ∧ r.2.get B = h.get B
      else r.1 = .bool true ∧ r.2.get B = some (.cells (putB c n off (bv (l.set (i / 8) (l.getD (i / 8) 0 ^^^ 1 <<< (i % 8))))) n e (0, 0) z op false d) := by
  have st := st176
  have pr := pr176
  simp only [regionOf, regionAt, Tryz.f176, Option.getD_some, Nat.reduceEqDiff, if_true, if_false] at st pr
  refine callFn_ex Tryz.func176 rfl _ _ (by show 3 ≤ 40; decide) fun T hT t => ?_
  have t0 : T.getD 0 undef = .pointer (some ⟨B, off, none⟩) := t 0
  have t1 : T.getD 1 undef = .int .i64 (i : Int) := t 1
  have t2 : T.getD 2 undef = .bool false := t 2
  have hT' : T.length = 40 := hT
  have hj : i / 8 < l.length := by omega
  have c1 : decide ((i : Int) < 0) = false := decide_eq_false (by omega)
  have c2 : decide (2048 ≤ (i : Int)) = false := decide_eq_false (by omega)
  have r1 : rowK Tryz.prog 45 off (some (.cells c n e (0, 0) z op false d)) = some (.agg ⟨bv l⟩) := by rw [rowK_agg ag45 sz45, if_pos hn, hr]
  have hasC : (env Tryz.prog (fun _ => none) (m + 1)).call 107 ⟨[.agg ⟨bv l⟩, .int .i64 (i : Int)]⟩ h = some (.bool (bt (l.getD (i / 8) 0) (i % 8)), h.push (rowObjB (bv l) 45 0)) := by
    rw [env_call (ov := fun _ => none) rfl]; exact has_fn l i hl hx hi h
  have neB : (B = h.next) = False := by simp; omega
  by_cases hb : bt (l.getD (i / 8) 0) (i % 8) = true
  · rw [hb] at hasC
    simp only [Tryz.f176]
    simp (maxSteps := 1000000) (disch := omega) only [opA_convert, stepVal_guardT, yD_some, yK_bool, yK_undef, getD_set', List.length_set, Nat.reduceLT, evalC_drawT, drawL_eq, trace_cons, trace_nil, traceK_some, pad, evalC_seq, evalC_region, evalC_cond, evalC_ret, evalC_skip, evalC_label, evalC_exit, evalC_scope, evalC_block, evalC_draw, runOps_cons, runOps_nil, stepOp_eq, stepVal_plain, yieldedA_T, opA_assign, opA_move, opA_binOp, opA_pick, opA_call, opA_alloc, opA_box, opA_load, opA_store, opA_extract, opA_buildSlice, opA_indexAddr, opA_fieldAddr, aeval_int, aeval_bool, aeval_tmp, aeval_nilSlice, aeval_nilPointer, aeval_nilFunc, aeval_func, arK_val, arK_skip, arK_enter, arK_round, valK_some, valK_none, opsK_some, Option.map_some, Option.map_none, seqK_normal, seqK_ret, seqK_exit, blockK_normal, blockK_ret, blockK_exit, loopK_normal, loopK_ret, loopK_exit, List.getElem?_cons_zero, List.getElem?_cons_succ, Option.bind_some, reduceCtorEq, if_false, if_true, pickK_bool, condK_true, condK_false, endK_ret, endK_normal, resultsA_tmp, resultsA_nil, resVal, Option.some.injEq, Bool.true_eq_false, Bool.false_eq_true, List.map_cons, List.map_nil, binA_add, binA_sub, binA_mul, binA_lss, binA_leq, binA_gtr, binA_geq, binA_eql, binA_neq, callA_builtin, max_int, min_int, loadK_pointer, storeK_pointer, IntWalk.i64_in, IntWalk.i64_quo, binA_quo, binA_rem, Int.tmod_eq_emod_of_nonneg, loadA_rowK, get_empty, next_empty, AH.get_set, AH.get_push, AH.next_set, AH.next_push, resultsA_cell, resK_pointer, roundA_G, roundG_loop, asgK_normal, bodyK_loop, ended_some, endRK_normal, endRK_ret, endRK_exit, rangeK_E, rangeE_ready, rangeE_done, rangeH, setAll, shut_nil, shut_cons, shutK_defs, endK_shut, outK_some, AH.get_kill, AH.next_kill, evalRegion_G, drawG_ok, drawK_all, trace_cons, trace_nil, traceK_some, List.all_cons, List.all_nil, sameRead_K, sameK_plain, sameK_guard, wantK_some, veqK_val, veq_int, veq_bool, veq_pointer, veq_slice, veq_nilSlice, Bool.and_true, Bool.and_self, List.getLast?_cons_cons, List.getLast?_singleton, ixK_slice, oneOf_row, Nat.reduceLeDiff, and_self, and_true, true_and, Int.reduceToNat, Int.reduceNe, List.take_succ_cons, List.take_zero, List.take_nil, List.length_cons, List.length_nil, List.cons_append, List.nil_append, Int.reduceLE, Int.reduceLT, Int.reduceEq, Int.reduceNeg, Int.reduceAdd, Int.reduceSub, Int.reduceMul, Int.reduceDiv, Nat.reduceAdd, Nat.reduceEqDiff, decide_true, decide_false, hT', t0, t1, t2, eqP136, c1, c2, opA_nilCheck, nilCk_pointer, hg, r1, callA_func _ _ _ _ _ _ b107, hasC, neqB1]
    refine ⟨_, rfl, by simp, fun γ hγ _ => by simp only; rw [AH.get_push, if_neg (by omega)], ?_⟩
    rw [if_pos hb]
    exact ⟨rfl, by simp only; rw [AH.get_push, if_neg (by omega)]; exact hg⟩
  · have hb' : bt (l.getD (i / 8) 0) (i % 8) = false := by simpa using hb
    rw [hb'] at hasC
    obtain ⟨⟨wv, h2⟩, w1, w2, w3, w4⟩ := with_fn (E := env Tryz.prog (fun _ => none) m) l i hl hx hi (h.push (rowObjB (bv l) 45 0))
    simp only at w2 w3 w4
    subst w2
    have withC : (env Tryz.prog (fun _ => none) (m + 1)).call 231 ⟨[.agg ⟨bv l⟩, .int .i64 (i : Int)]⟩ (h.push (rowObjB (bv l) 45 0)) = some (.agg ⟨bv (l.set (i / 8) (l.getD (i / 8) 0 ^^^ 1 <<< (i % 8)))⟩, h2) := by
      rw [env_call (ov := fun _ => none) rfl]; exact w1
    have hne := bt_xor _ _ hb'
    generalize hl' : l.set (i / 8) (l.getD (i / 8) 0 ^^^ 1 <<< (i % 8)) = l' at withC
    have hlen : (bv l').length = 256 := by rw [length_bv, ← hl', List.length_set, hl]
    have hone : (bv l').all (·.oneCell') = true := by rw [List.all_eq_true]; intro v hv; simp only [bv, List.mem_map] at hv; obtain ⟨y, _, rfl⟩ := hv; rfl
    have heq := fun ox oy => eq45 ox oy l (i / 8) _ hl hj hne
    rw [hl'] at heq
    have hBn : (h.push (rowObjB (bv l) 45 0)).next = h.next + 1 := rfl
    have g2 : h2.get B = some (.cells c n e (0, 0) z op false d) := by rw [w4 B (by rw [hBn]; omega), AH.get_push, if_neg (by omega)]; exact hg
    -- the variable that holds what is new
    obtain ⟨h3, e3⟩ : ∃ h3, h3 = (h2.push (blkObj zc45)).set h2.next (.cells (putB zc45 256 0 (bv l')) 256 45 (0, 0) 0 false false undef) := ⟨_, rfl⟩
    have s3 : storeA Tryz.prog 45 ⟨h2.next, 0, none⟩ (.agg ⟨bv l'⟩) (h2.push (blkObj zc45)) = some h3 := by
      rw [e3]
      exact storeA_agg (P := Tryz.prog) (t := 45) (vs := bv l') (by rw [hlen]; exact sz45) hone h2.next 0 (by rw [AH.get_push, if_pos rfl]; rfl) (by rw [hlen]; decide)
    have hlt2 : h.next < h2.next := by rw [hBn] at w3; omega
    have g3 : h3.get B = some (.cells c n e (0, 0) z op false d) := by rw [e3, AH.get_set, if_neg (by omega), AH.get_push, if_neg (by omega)]; exact g2
    have g4 : h3.get h2.next = some (.cells (putB zc45 256 0 (bv l')) 256 45 (0, 0) 0 false false undef) := by rw [e3, AH.get_set, if_pos rfl]
    have r2 : rowK Tryz.prog 45 0 (some (.cells (putB zc45 256 0 (bv l')) 256 45 (0, 0) 0 false false undef)) = some (.agg ⟨bv l'⟩) := by
      rw [rowK_agg ag45 sz45, if_pos (by decide)]
      have := rowA_putB zc45 undef 256 0 (bv l') (by rw [hlen]; decide)
      rw [hlen] at this
      rw [this]
    have s4 : storeA Tryz.prog 45 ⟨B, off, none⟩ (.agg ⟨bv l'⟩) h3 = some (h3.set B (.cells (putB c n off (bv l')) n e (0, 0) z op false d)) :=
      storeA_agg (P := Tryz.prog) (t := 45) (vs := bv l') (by rw [hlen]; exact sz45) hone B off g3 (by rw [hlen]; exact hn)
    simp only [Tryz.f176]
    simp (maxSteps := 1000000) (disch := omega) only [opA_convert, stepVal_guardT, yD_some, yK_bool, yK_undef, getD_set', List.length_set, Nat.reduceLT, evalC_drawT, drawL_eq, trace_cons, trace_nil, traceK_some, pad, evalC_seq, evalC_region, evalC_cond, evalC_ret, evalC_skip, evalC_label, evalC_exit, evalC_scope, evalC_block, evalC_draw, runOps_cons, runOps_nil, stepOp_eq, stepVal_plain, yieldedA_T, opA_assign, opA_move, opA_binOp, opA_pick, opA_call, opA_alloc, opA_box, opA_load, opA_store, opA_extract, opA_buildSlice, opA_indexAddr, opA_fieldAddr, aeval_int, aeval_bool, aeval_tmp, aeval_nilSlice, aeval_nilPointer, aeval_nilFunc, aeval_func, arK_val, arK_skip, arK_enter, arK_round, valK_some, valK_none, opsK_some, Option.map_some, Option.map_none, seqK_normal, seqK_ret, seqK_exit, blockK_normal, blockK_ret, blockK_exit, loopK_normal, loopK_ret, loopK_exit, List.getElem?_cons_zero, List.getElem?_cons_succ, Option.bind_some, reduceCtorEq, if_false, if_true, pickK_bool, condK_true, condK_false, endK_ret, endK_normal, resultsA_tmp, resultsA_nil, resVal, Option.some.injEq, Bool.true_eq_false, Bool.false_eq_true, List.map_cons, List.map_nil, binA_add, binA_sub, binA_mul, binA_lss, binA_leq, binA_gtr, binA_geq, binA_eql, binA_neq, callA_builtin, max_int, min_int, loadK_pointer, storeK_pointer, IntWalk.i64_in, IntWalk.i64_quo, binA_quo, binA_rem, Int.tmod_eq_emod_of_nonneg, loadA_rowK, get_empty, next_empty, AH.get_set, AH.get_push, AH.next_set, AH.next_push, resultsA_cell, resK_pointer, roundA_G, roundG_loop, asgK_normal, bodyK_loop, ended_some, endRK_normal, endRK_ret, endRK_exit, rangeK_E, rangeE_ready, rangeE_done, rangeH, setAll, shut_nil, shut_cons, shutK_defs, endK_shut, outK_some, AH.get_kill, AH.next_kill, evalRegion_G, drawG_ok, drawK_all, trace_cons, trace_nil, traceK_some, List.all_cons, List.all_nil, sameRead_K, sameK_plain, sameK_guard, wantK_some, veqK_val, veq_int, veq_bool, veq_pointer, veq_slice, veq_nilSlice, Bool.and_true, Bool.and_self, List.getLast?_cons_cons, List.getLast?_singleton, ixK_slice, oneOf_row, Nat.reduceLeDiff, and_self, and_true, true_and, Int.reduceToNat, Int.reduceNe, List.take_succ_cons, List.take_zero, List.take_nil, List.length_cons, List.length_nil, List.cons_append, List.nil_append, Int.reduceLE, Int.reduceLT, Int.reduceEq, Int.reduceNeg, Int.reduceAdd, Int.reduceSub, Int.reduceMul, Int.reduceDiv, Nat.reduceAdd, Nat.reduceEqDiff, decide_true, decide_false, hT', t0, t1, t2, eqP136, c1, c2, opA_nilCheck, nilCk_pointer, hg, r1, callA_func _ _ _ _ _ _ b107, hasC, neqB0, neB, callA_func _ _ _ _ _ _ b231, withC, al45, s3, g3, g4, r2, st, pr, heq, s4]
    refine ⟨_, rfl, ?_, fun γ hγ hne => ?_, ?_⟩
    · simp only [AH.next_set, e3, AH.next_push]; omega
    · simp only
      rw [AH.get_set, if_neg hne, e3, AH.get_set, if_neg (by omega), AH.get_push, if_neg (by omega), w4 γ (by rw [hBn]; omega), AH.get_push, if_neg (by omega)]
    · rw [if_neg hb]
      exact ⟨rfl, by simp only; rw [AH.get_set, if_pos rfl]⟩

theorem b176 : ((Tryz.prog.funcs[176]?).bind (·.body)).isSome = true := by kernel_rfl
theorem set_fn (l : List Nat) (i B off n e z : Nat) (op : Bool) (d : Value) (c : Row) (h : AH) (hl : l.length = 256) (hx : ∀ x ∈ l, x < 256) (hi : i < 2048) (hg : h.get B = some (.cells c n e (0, 0) z op false d)) (hB : B < h.next) (hn : off + 256 ≤ n)
    (hr : rowA c d off 256 = bv l) (m : Nat) :
    ∃ v h2, callFn Tryz.prog (env Tryz.prog (fun _ => none) (m + 2)) 103 ⟨[.pointer (some ⟨B, off, none⟩), .int .i64 (i : Int)]⟩ h = some (v, h2) ∧ h.next ≤ h2.next ∧ (∀ γ, γ < h.next → γ ≠ B → h2.get γ = h.get γ) ∧
      if bt (l.getD (i / 8) 0) (i % 8) = true then v = .bool false ∧ h2.get B = h.get B
      else v = .bool true ∧ h2.get B = some (.cells (putB c n off (bv (l.set (i / 8) (l.getD (i / 8) 0 ^^^ 1 <<< (i % 8))))) n e (0, 0) z op false d) := by
  obtain ⟨⟨v, h2⟩, k1, k2, k3, k4⟩ := turn_fn l i B off n e z op d c h hl hx hi hg hB hn hr m
  simp only at k2 k3 k4
  refine ⟨v, h2, ?_, k2, k3, k4⟩
  have tc : (env Tryz.prog (fun _ => none) (m + 2)).call 176 ⟨[.pointer (some ⟨B, off, none⟩), .int .i64 (i : Int), .bool false]⟩ h = some (v, h2) := by
    rw [show m + 2 = (m + 1) + 1 by omega, env_call (ov := fun _ => none) rfl]; exact k1
  refine callFn_T Tryz.func103 rfl _ _ (by show 2 ≤ 8; decide) fun T hT t => ?_
  have t0 : T.getD 0 undef = .pointer (some ⟨B, off, none⟩) := t 0
  have t1 : T.getD 1 undef = .int .i64 (i : Int) := t 1
  have hT' : T.length = 8 := hT
  simp only [Tryz.f103]
  simp (maxSteps := 1000000) (disch := omega) only [opA_convert, stepVal_guardT, yD_some, yK_bool, yK_undef, getD_set', List.length_set, Nat.reduceLT, evalC_drawT, drawL_eq, trace_cons, trace_nil, traceK_some, pad, evalC_seq, evalC_region, evalC_cond, evalC_ret, evalC_skip, evalC_label, evalC_exit, evalC_scope, evalC_block, evalC_draw, runOps_cons, runOps_nil, stepOp_eq, stepVal_plain, yieldedA_T, opA_assign, opA_move, opA_binOp, opA_pick, opA_call, opA_alloc, opA_box, opA_load, opA_store, opA_extract, opA_buildSlice, opA_indexAddr, opA_fieldAddr, aeval_int, aeval_bool, aeval_tmp, aeval_nilSlice, aeval_nilPointer, aeval_nilFunc, aeval_func, arK_val, arK_skip, arK_enter, arK_round, valK_some, valK_none, opsK_some, Option.map_some, Option.map_none, seqK_normal, seqK_ret, seqK_exit, blockK_normal, blockK_ret, blockK_exit, loopK_normal, loopK_ret, loopK_exit, List.getElem?_cons_zero, List.getElem?_cons_succ, Option.bind_some, reduceCtorEq, if_false, if_true, pickK_bool, condK_true, condK_false, endK_ret, endK_normal, resultsA_tmp, resultsA_nil, resVal, Option.some.injEq, Bool.true_eq_false, Bool.false_eq_true, List.map_cons, List.map_nil, binA_add, binA_sub, binA_mul, binA_lss, binA_leq, binA_gtr, binA_geq, binA_eql, binA_neq, callA_builtin, max_int, min_int, loadK_pointer, storeK_pointer, IntWalk.i64_in, IntWalk.i64_quo, binA_quo, binA_rem, Int.tmod_eq_emod_of_nonneg, loadA_rowK, get_empty, next_empty, AH.get_set, AH.get_push, AH.next_set, AH.next_push, resultsA_cell, resK_pointer, roundA_G, roundG_loop, asgK_normal, bodyK_loop, ended_some, endRK_normal, endRK_ret, endRK_exit, rangeK_E, rangeE_ready, rangeE_done, rangeH, setAll, shut_nil, shut_cons, shutK_defs, endK_shut, outK_some, AH.get_kill, AH.next_kill, evalRegion_G, drawG_ok, drawK_all, trace_cons, trace_nil, traceK_some, List.all_cons, List.all_nil, sameRead_K, sameK_plain, sameK_guard, wantK_some, veqK_val, veq_int, veq_bool, veq_pointer, veq_slice, veq_nilSlice, Bool.and_true, Bool.and_self, List.getLast?_cons_cons, List.getLast?_singleton, ixK_slice, oneOf_row, Nat.reduceLeDiff, and_self, and_true, true_and, Int.reduceToNat, Int.reduceNe, List.take_succ_cons, List.take_zero, List.take_nil, List.length_cons, List.length_nil, List.cons_append, List.nil_append, Int.reduceLE, Int.reduceLT, Int.reduceEq, Int.reduceNeg, Int.reduceAdd, Int.reduceSub, Int.reduceMul, Int.reduceDiv, Nat.reduceAdd, Nat.reduceEqDiff, decide_true, decide_false, hT', t0, t1, callA_func _ _ _ _ _ _ b176, tc]
end Go.Proofs.Leaf
