/-
  Bits of a block (bits.Has, bits.with): what they come to.
-/
import Derived.Test.YtimngnabpolgkaaGreatInG27
import Derived.Test.YtimngnabpolgkaaGreatInG28
namespace Go.Proofs.Leaf
set_option linter.unusedSimpArgs false
set_option linter.unusedVariables false
open Go.AE
set_option maxRecDepth 100000
set_option maxHeartbeats 4000000

theorem binA_shlN {P : Program} {t : TypeId} {ox oy : Operand} {k k' : IntKind} {m n : Nat} (hn : n ≤ nb k) (hr : m <<< n < lim k) : binA P .shl t ox oy (.int k (m : Int)) (.int k' (n : Int)) = some (.int k ((m <<< n : Nat) : Int)) := by
  rw [← kbin_shl]
  unfold kint2s
  rw [toIV_int, toIV_int]
  show fShl _ _ _ _ = _
  unfold fShl
  rw [PT.brec, if_pos (Nat.ble_eq_true_of_le hn), forceN_eq]
  exact fit_some hr

noncomputable def u8v (x : Nat) : Value := .int .u8 (x : Int)
noncomputable def bv (l : List Nat) : List Value := l.map u8v
theorem length_bv (l : List Nat) : (bv l).length = l.length := by simp [bv]
theorem bv_get (l : List Nat) (j : Nat) : (bv l)[j]? = l[j]?.map u8v := by simp [bv]
theorem bv_set (l : List Nat) (j x : Nat) : (bv l).set j (u8v x) = bv (l.set j x) := by simp [bv, List.map_set]

theorem rowK_rowB {P : Program} {t : TypeId} (ha : isAggT P t = some false) (off : Nat) (l : List Value) (e z : Nat) : rowK P t off (some (rowObjB l e z)) = l[off]? := by
  unfold rowObjB
  rw [rowK_cells ha]
  by_cases h : off < l.length
  · rw [if_pos h, get_ofRowB _ _ h]; simp [List.getD, h]
  · rw [if_neg h]; simp [h]
theorem boxA_bv (t : TypeId) (l : List Nat) (h : AH) : boxA t (.agg ⟨bv l⟩) h = some (.pointer (some ⟨h.next, 0, none⟩), h.push (rowObjB (bv l) t 0)) := rfl
theorem stK_rowB (h : AH) (b off : Nat) (v : Value) (l : List Value) (e z : Nat) (hl : off < l.length) : stK h b off v (some (rowObjB l e z)) = some (h.set b (.cells ((ofRowB l).set off (some v)) l.length e (0, 0) z false false undef)) := by
  unfold rowObjB; rw [stK_cells, if_pos hl]
theorem rowA_rowB_set (l : List Value) (off : Nat) (v : Value) (d : Value) (hl : off < l.length) : rowA ((ofRowB l).set off (some v)) d 0 l.length = l.set off v := by
  apply List.ext_getElem?
  intro j
  by_cases hj : j < l.length
  · rw [getElem?_rowA _ _ _ _ _ hj, Nat.zero_add, Row.get_set, List.getElem?_set]
    by_cases e : j = off
    · subst e; simp [hj]
    · rw [if_neg e, get_ofRowB _ _ hj, if_neg (fun x => e x.symm)]
      simp [List.getD, hj]
  · rw [List.getElem?_eq_none (by simp; omega), List.getElem?_eq_none (by simp; omega)]

/-- Is a bit of a byte set? -/
def bt (x k : Nat) : Bool := decide ((x >>> k) &&& 1 = 1)

theorem has_fn {E : Env} (l : List Nat) (i : Nat) (hl : l.length = 256) (hx : ∀ x ∈ l, x < 256) (hi : i < 2048) (h : AH) :
    callFn Tryz.prog E 107 ⟨[.agg ⟨bv l⟩, .int .i64 (i : Int)]⟩ h = some (.bool (bt (l.getD (i / 8) 0) (i % 8)), h.push (rowObjB (bv l) 45 0)) := by
  refine callFn_T Tryz.func107 rfl _ _ (by show 2 ≤ 22; decide) fun T hT t => ?_
  have t0 : T.getD 0 undef = .agg ⟨bv l⟩ := t 0
  have t1 : T.getD 1 undef = .int .i64 (i : Int) := t 1
  have hT' : T.length = 22 := hT
  have hj : i / 8 < l.length := by omega
  generalize hxe : l.getD (i / 8) 0 = x
  have hx8 : x < 256 := by rw [← hxe]; simp only [List.getD_eq_getElem?_getD, List.getElem?_eq_getElem hj, Option.getD_some]; exact hx _ (List.getElem_mem hj)
  have c1 : decide (0 ≤ (i : Int)) = true := decide_eq_true (by omega)
  have c2 : decide ((i : Int) < 2048) = true := decide_eq_true (by omega)
  have q := fun ox oy => binA_quoN (P := Tryz.prog) (t := 3) (ox := ox) (oy := oy) (k := .i64) (m := i) (n := 8) (by decide) (by show i < 9223372036854775808; omega)
  have m := fun ox oy => binA_remN (P := Tryz.prog) (t := 3) (ox := ox) (oy := oy) (k := .i64) (m := i) (n := 8) (by decide)
  change ∀ ox oy, binA Tryz.prog .quo 3 ox oy (.int .i64 (i : Int)) (.int .i64 8) = _ at q
  change ∀ ox oy, binA Tryz.prog .rem 3 ox oy (.int .i64 (i : Int)) (.int .i64 8) = _ at m
  have r1 : rowK Tryz.prog 5 (i / 8) (some (rowObjB (bv l) 45 0)) = some (.int .u8 (x : Int)) := by
    rw [rowK_rowB ag5, bv_get, List.getElem?_eq_getElem hj]
    simp only [Option.map_some, u8v]
    rw [← hxe]; simp [List.getD, hj]
  have sh := fun ox oy => binA_shrN (P := Tryz.prog) (t := 5) (ox := ox) (oy := oy) (k := .u8) (k' := .i64) (m := x) (n := i % 8) (by show i % 8 ≤ 8; omega)
  have hle : x >>> (i % 8) < 256 := Nat.lt_of_le_of_lt (Nat.shiftRight_le _ _) hx8
  have an := fun ox oy => binA_andN (P := Tryz.prog) (t := 5) (ox := ox) (oy := oy) (k := .u8) (m := x >>> (i % 8)) (n := 1) hle (by decide) (Nat.lt_of_le_of_lt Nat.and_le_left hle)
  change ∀ ox oy, binA Tryz.prog .and 5 ox oy (.int .u8 ((x >>> (i % 8) : Nat) : Int)) (.int .u8 1) = _ at an
  have i1 : 0 ≤ ((i / 8 : Nat) : Int) ∧ ((i / 8 : Nat) : Int) < ((256 : Nat) : Int) := by omega
  have e : bt x (i % 8) = decide ((((x >>> (i % 8)) &&& 1 : Nat) : Int) = 1) := by unfold bt; congr 1; exact propext ⟨fun h => by omega, fun h => by omega⟩
  rw [e]
  simp only [Tryz.f107]
  simp (maxSteps := 1000000) (disch := omega) only [opA_convert, stepVal_guardT, yD_some, yK_bool, yK_undef, getD_set', List.length_set, Nat.reduceLT, evalC_drawT, drawL_eq, trace_cons, trace_nil, traceK_some, pad, evalC_seq, evalC_region, evalC_cond, evalC_ret, evalC_skip, evalC_label, evalC_exit, evalC_scope, evalC_block, evalC_draw, runOps_cons, runOps_nil, stepOp_eq, stepVal_plain, yieldedA_T, opA_assign, opA_move, opA_binOp, opA_pick, opA_call, opA_alloc, opA_box, opA_load, opA_store, opA_extract, opA_buildSlice, opA_indexAddr, opA_fieldAddr, aeval_int, aeval_bool, aeval_tmp, aeval_nilSlice, aeval_nilPointer, aeval_nilFunc, aeval_func, arK_val, arK_skip, arK_enter, arK_round, valK_some, valK_none, opsK_some, Option.map_some, Option.map_none, seqK_normal, seqK_ret, seqK_exit, blockK_normal, blockK_ret, blockK_exit, loopK_normal, loopK_ret, loopK_exit, List.getElem?_cons_zero, List.getElem?_cons_succ, Option.bind_some, reduceCtorEq, if_false, if_true, pickK_bool, condK_true, condK_false, endK_ret, endK_normal, resultsA_tmp, resultsA_nil, resVal, Option.some.injEq, Bool.true_eq_false, Bool.false_eq_true, List.map_cons, List.map_nil, binA_add, binA_sub, binA_mul, binA_lss, binA_leq, binA_gtr, binA_geq, binA_eql, binA_neq, callA_builtin, max_int, min_int, loadK_pointer, storeK_pointer, IntWalk.i64_in, IntWalk.i64_quo, binA_quo, binA_rem, Int.tmod_eq_emod_of_nonneg, loadA_rowK, get_empty, next_empty, AH.get_set, AH.get_push, AH.next_set, AH.next_push, resultsA_cell, resK_pointer, roundA_G, roundG_loop, asgK_normal, bodyK_loop, ended_some, endRK_normal, endRK_ret, endRK_exit, rangeK_E, rangeE_ready, rangeE_done, rangeH, setAll, shut_nil, shut_cons, shutK_defs, endK_shut, outK_some, AH.get_kill, AH.next_kill, evalRegion_G, drawG_ok, drawK_all, trace_cons, trace_nil, traceK_some, List.all_cons, List.all_nil, sameRead_K, sameK_plain, sameK_guard, wantK_some, veqK_val, veq_int, veq_bool, veq_pointer, veq_slice, veq_nilSlice, Bool.and_true, Bool.and_self, List.getLast?_cons_cons, List.getLast?_singleton, ixK_slice, oneOf_row, Nat.reduceLeDiff, and_self, and_true, true_and, Int.reduceToNat, Int.reduceNe, List.take_succ_cons, List.take_zero, List.take_nil, List.length_cons, List.length_nil, List.cons_append, List.nil_append, Int.reduceLE, Int.reduceLT, Int.reduceEq, Int.reduceNeg, Int.reduceAdd, Int.reduceSub, Int.reduceMul, Int.reduceDiv, Nat.reduceAdd, Nat.reduceEqDiff, decide_true, decide_false, hT', t0, t1, boxA_bv, c1, c2, q, m, r1, sh, an, i1, indexAddrA_arr arr45, Nat.zero_add, Int.toNat_natCast]

theorem st231 : drawStatic (regionOf Tryz.f231 1) = true := by kernel_rfl
theorem pr231 : drawPairs (regionOf Tryz.f231 1) = [] := by kernel_rfl
theorem with_fn {E : Env} (l : List Nat) (i : Nat) (hl : l.length = 256) (hx : ∀ x ∈ l, x < 256) (hi : i < 2048) (h : AH) :
    ∃ r, callFn Tryz.prog E 231 ⟨[.agg ⟨bv l⟩, .int .i64 (i : Int)]⟩ h = some r ∧ r.1 = .agg ⟨bv (l.set (i / 8) (l.getD (i / 8) 0 ^^^ 1 <<< (i % 8)))⟩ ∧ h.next ≤ r.2.next ∧ ∀ γ, γ < h.next → r.2.get γ = h.get γ := by
  have st := st231
  have pr := pr231
  simp only [regionOf, regionAt, Tryz.f231, Option.getD_some, Nat.reduceEqDiff, if_true, if_false] at st pr
  refine callFn_ex Tryz.func231 rfl _ _ (by show 2 ≤ 15; decide) fun T hT t => ?_
  have t0 : T.getD 0 undef = .agg ⟨bv l⟩ := t 0
  have t1 : T.getD 1 undef = .int .i64 (i : Int) := t 1
  have hT' : T.length = 15 := hT
  have hj : i / 8 < l.length := by omega
  generalize hxe : l.getD (i / 8) 0 = x
  have hx8 : x < 256 := by rw [← hxe]; simp only [List.getD_eq_getElem?_getD, List.getElem?_eq_getElem hj, Option.getD_some]; exact hx _ (List.getElem_mem hj)
  have q := fun ox oy => binA_quoN (P := Tryz.prog) (t := 3) (ox := ox) (oy := oy) (k := .i64) (m := i) (n := 8) (by decide) (by show i < 9223372036854775808; omega)
  have m := fun ox oy => binA_remN (P := Tryz.prog) (t := 3) (ox := ox) (oy := oy) (k := .i64) (m := i) (n := 8) (by decide)
  change ∀ ox oy, binA Tryz.prog .quo 3 ox oy (.int .i64 (i : Int)) (.int .i64 8) = _ at q
  change ∀ ox oy, binA Tryz.prog .rem 3 ox oy (.int .i64 (i : Int)) (.int .i64 8) = _ at m
  have r1 : rowK Tryz.prog 5 (i / 8) (some (rowObjB (bv l) 45 0)) = some (.int .u8 (x : Int)) := by
    rw [rowK_rowB ag5, bv_get, List.getElem?_eq_getElem hj]
    simp only [Option.map_some, u8v]
    rw [← hxe]; simp [List.getD, hj]
  have hk : i % 8 < 8 := Nat.mod_lt _ (by decide)
  have hs8 : 1 <<< (i % 8) < 256 := by
    rw [Nat.one_shiftLeft]
    exact Nat.pow_lt_pow_right (by decide) hk
  have sh := fun ox oy => binA_shlN (P := Tryz.prog) (t := 5) (ox := ox) (oy := oy) (k := .u8) (k' := .i64) (m := 1) (n := i % 8) (by show i % 8 ≤ 8; omega) hs8
  change ∀ ox oy, binA Tryz.prog .shl 5 ox oy (.int .u8 1) (.int .i64 ((i % 8 : Nat) : Int)) = _ at sh
  have xo := fun ox oy => binA_xorN (P := Tryz.prog) (t := 5) (ox := ox) (oy := oy) (k := .u8) (m := x) (n := 1 <<< (i % 8)) hx8 hs8 (Nat.xor_lt_two_pow (n := 8) hx8 hs8)
  have i1 : 0 ≤ ((i / 8 : Nat) : Int) ∧ ((i / 8 : Nat) : Int) < ((256 : Nat) : Int) := by omega
  have hlb : i / 8 < (bv l).length := by rw [length_bv]; exact hj
  have sto := fun (h : AH) (b : Nat) => stK_rowB h b (i / 8) (.int .u8 ((x ^^^ 1 <<< (i % 8) : Nat) : Int)) (bv l) 45 0 hlb
  have hrow : rowA ((ofRowB (bv l)).set (i / 8) (some (.int .u8 ((x ^^^ 1 <<< (i % 8) : Nat) : Int)))) undef 0 256 = bv (l.set (i / 8) (x ^^^ 1 <<< (i % 8))) := by
    have := rowA_rowB_set (bv l) (i / 8) (u8v (x ^^^ 1 <<< (i % 8))) undef hlb
    rw [length_bv, hl, bv_set] at this
    exact this
  have hl2 : (bv l).length = 256 := by rw [length_bv, hl]
  have ne1 : (h.next = h.next + 1) = False := by simp
  have ne2 : (h.next + 1 = h.next) = False := by simp
  simp only [Tryz.f231]
  simp (maxSteps := 1000000) (disch := omega) only [opA_convert, stepVal_guardT, yD_some, yK_bool, yK_undef, getD_set', List.length_set, Nat.reduceLT, evalC_drawT, drawL_eq, trace_cons, trace_nil, traceK_some, pad, evalC_seq, evalC_region, evalC_cond, evalC_ret, evalC_skip, evalC_label, evalC_exit, evalC_scope, evalC_block, evalC_draw, runOps_cons, runOps_nil, stepOp_eq, stepVal_plain, yieldedA_T, opA_assign, opA_move, opA_binOp, opA_pick, opA_call, opA_alloc, opA_box, opA_load, opA_store, opA_extract, opA_buildSlice, opA_indexAddr, opA_fieldAddr, aeval_int, aeval_bool, aeval_tmp, aeval_nilSlice, aeval_nilPointer, aeval_nilFunc, aeval_func, arK_val, arK_skip, arK_enter, arK_round, valK_some, valK_none, opsK_some, Option.map_some, Option.map_none, seqK_normal, seqK_ret, seqK_exit, blockK_normal, blockK_ret, blockK_exit, loopK_normal, loopK_ret, loopK_exit, List.getElem?_cons_zero, List.getElem?_cons_succ, Option.bind_some, reduceCtorEq, if_false, if_true, pickK_bool, condK_true, condK_false, endK_ret, endK_normal, resultsA_tmp, resultsA_nil, resVal, Option.some.injEq, Bool.true_eq_false, Bool.false_eq_true, List.map_cons, List.map_nil, binA_add, binA_sub, binA_mul, binA_lss, binA_leq, binA_gtr, binA_geq, binA_eql, binA_neq, callA_builtin, max_int, min_int, loadK_pointer, storeK_pointer, IntWalk.i64_in, IntWalk.i64_quo, binA_quo, binA_rem, Int.tmod_eq_emod_of_nonneg, loadA_rowK, get_empty, next_empty, AH.get_set, AH.get_push, AH.next_set, AH.next_push, resultsA_cell, resK_pointer, roundA_G, roundG_loop, asgK_normal, bodyK_loop, ended_some, endRK_normal, endRK_ret, endRK_exit, rangeK_E, rangeE_ready, rangeE_done, rangeH, setAll, shut_nil, shut_cons, shutK_defs, endK_shut, outK_some, AH.get_kill, AH.next_kill, evalRegion_G, drawG_ok, drawK_all, trace_cons, trace_nil, traceK_some, List.all_cons, List.all_nil, sameRead_K, sameK_plain, sameK_guard, wantK_some, veqK_val, veq_int, veq_bool, veq_pointer, veq_slice, veq_nilSlice, Bool.and_true, Bool.and_self, List.getLast?_cons_cons, List.getLast?_singleton, ixK_slice, oneOf_row, Nat.reduceLeDiff, and_self, and_true, true_and, Int.reduceToNat, Int.reduceNe, List.take_succ_cons, List.take_zero, List.take_nil, List.length_cons, List.length_nil, List.cons_append, List.nil_append, Int.reduceLE, Int.reduceLT, Int.reduceEq, Int.reduceNeg, Int.reduceAdd, Int.reduceSub, Int.reduceMul, Int.reduceDiv, Nat.reduceAdd, Nat.reduceEqDiff, decide_true, decide_false, hT', t0, t1, boxA_bv, al45, st, pr, q, m, r1, sh, xo, i1, indexAddrA_arr arr45, Nat.zero_add, Int.toNat_natCast, storeA_intR sz5, sto, hl2, rowK_agg ag45 sz45, hrow, Nat.le_refl, ne1, ne2, blkObj]
  generalize hH : AH.set _ h.next _ = H
  have hg1 : H.get (h.next + 1) = some (.cells zc45 256 45 (0, 0) 0 false false undef) := by
    rw [← hH, AH.get_set, if_neg (by omega), AH.get_push, if_pos (by simp)]
  have hnx : h.next ≤ H.next := by rw [← hH]; simp; omega
  have hold : ∀ γ, γ < h.next → H.get γ = h.get γ := fun γ hγ => by
    rw [← hH, AH.get_set, if_neg (by omega), AH.get_push, if_neg (by simp; omega), AH.get_push, if_neg (by omega)]
  have hl' : (bv (l.set (i / 8) (x ^^^ 1 <<< (i % 8)))).length = 256 := by rw [length_bv, List.length_set, hl]
  have hst := storeA_agg (P := Tryz.prog) (t := 45) (vs := bv (l.set (i / 8) (x ^^^ 1 <<< (i % 8)))) (by rw [hl']; exact sz45) (by rw [List.all_eq_true]; intro v hv; simp only [bv, List.mem_map] at hv; obtain ⟨y, _, rfl⟩ := hv; rfl) (h.next + 1) 0 hg1 (by rw [hl']; decide)
  have hrow2 := rowA_putB zc45 undef 256 0 (bv (l.set (i / 8) (x ^^^ 1 <<< (i % 8)))) (by rw [hl']; decide)
  rw [hl'] at hrow2
  simp (maxSteps := 1000000) (disch := omega) only [opA_convert, stepVal_guardT, yD_some, yK_bool, yK_undef, getD_set', List.length_set, Nat.reduceLT, evalC_drawT, drawL_eq, trace_cons, trace_nil, traceK_some, pad, evalC_seq, evalC_region, evalC_cond, evalC_ret, evalC_skip, evalC_label, evalC_exit, evalC_scope, evalC_block, evalC_draw, runOps_cons, runOps_nil, stepOp_eq, stepVal_plain, yieldedA_T, opA_assign, opA_move, opA_binOp, opA_pick, opA_call, opA_alloc, opA_box, opA_load, opA_store, opA_extract, opA_buildSlice, opA_indexAddr, opA_fieldAddr, aeval_int, aeval_bool, aeval_tmp, aeval_nilSlice, aeval_nilPointer, aeval_nilFunc, aeval_func, arK_val, arK_skip, arK_enter, arK_round, valK_some, valK_none, opsK_some, Option.map_some, Option.map_none, seqK_normal, seqK_ret, seqK_exit, blockK_normal, blockK_ret, blockK_exit, loopK_normal, loopK_ret, loopK_exit, List.getElem?_cons_zero, List.getElem?_cons_succ, Option.bind_some, reduceCtorEq, if_false, if_true, pickK_bool, condK_true, condK_false, endK_ret, endK_normal, resultsA_tmp, resultsA_nil, resVal, Option.some.injEq, Bool.true_eq_false, Bool.false_eq_true, List.map_cons, List.map_nil, binA_add, binA_sub, binA_mul, binA_lss, binA_leq, binA_gtr, binA_geq, binA_eql, binA_neq, callA_builtin, max_int, min_int, loadK_pointer, storeK_pointer, IntWalk.i64_in, IntWalk.i64_quo, binA_quo, binA_rem, Int.tmod_eq_emod_of_nonneg, loadA_rowK, get_empty, next_empty, AH.get_set, AH.get_push, AH.next_set, AH.next_push, resultsA_cell, resK_pointer, roundA_G, roundG_loop, asgK_normal, bodyK_loop, ended_some, endRK_normal, endRK_ret, endRK_exit, rangeK_E, rangeE_ready, rangeE_done, rangeH, setAll, shut_nil, shut_cons, shutK_defs, endK_shut, outK_some, AH.get_kill, AH.next_kill, evalRegion_G, drawG_ok, drawK_all, trace_cons, trace_nil, traceK_some, List.all_cons, List.all_nil, sameRead_K, sameK_plain, sameK_guard, wantK_some, veqK_val, veq_int, veq_bool, veq_pointer, veq_slice, veq_nilSlice, Bool.and_true, Bool.and_self, List.getLast?_cons_cons, List.getLast?_singleton, ixK_slice, oneOf_row, Nat.reduceLeDiff, and_self, and_true, true_and, Int.reduceToNat, Int.reduceNe, List.take_succ_cons, List.take_zero, List.take_nil, List.length_cons, List.length_nil, List.cons_append, List.nil_append, Int.reduceLE, Int.reduceLT, Int.reduceEq, Int.reduceNeg, Int.reduceAdd, Int.reduceSub, Int.reduceMul, Int.reduceDiv, Nat.reduceAdd, Nat.reduceEqDiff, decide_true, decide_false, hT', hst, rowK_agg ag45 sz45, hrow2, Nat.zero_add, Nat.le_refl]
  exact ⟨_, rfl, rfl, hnx, fun γ hγ => by simp only; rw [AH.get_set, if_neg (by omega)]; exact hold γ hγ⟩
end Go.Proofs.Leaf
