/-
  The document's Make: the loop over a block's bits, of the two kinds of bitmaps.
-/
import Derived.Test.YtimngnabpolgkaaGreatBnG23
namespace Go.Proofs.Leaf
set_option linter.unusedSimpArgs false
set_option linter.unusedVariables false
open Go.AE
set_option maxRecDepth 100000
set_option maxHeartbeats 2000000

theorem szB : (Tryz.prog.info? 4).map (·.size) = some 1 := by kernel_rfl
theorem storeA_boolR {P : Program} {t : TypeId} (hs : (P.info? t).map (·.size) = some 1) (b off : Nat) (x : Bool) (h : AH) : storeA P t ⟨b, off, none⟩ (.bool x) h = stK h b off (.bool x) (h.get b) := storeA_one hs b off rfl rfl h
/-- A row of 2048 bits of which the first ones are written. -/
noncomputable def bitRow (E : TypeId) (l : List Value) : AObj := .cells (ofRow l) 2048 E (0, 0) 0 false false (.bool false)
theorem stK_bitRow (h : AH) (β E : Nat) (l : List Value) (v : Value) (hl : l.length < 2048) : stK h β l.length v (some (bitRow E l)) = some (h.set β (bitRow E (l ++ [v]))) := by
  unfold bitRow
  rw [stK_cells, if_pos hl, ofRow_snoc]

/-- What stays in each round over a bitmap. -/
structure MkIn (h : AH) (v1 v4 v8 pv : Value) (qa ga1 ga2 : Addr) (β : Nat) (k : Int) (ino sz : Nat) : Prop where
  p1 : indexAddrA Tryz.prog 323 v4 v8 = some pv
  p2 : fieldAddrA Tryz.prog 327 pv 0 = some (.pointer (some qa))
  p3 : loadA Tryz.prog 5 qa h = some (.int .u8 k)
  p4 : fieldAddrA Tryz.prog 31 v1 1 = some (.pointer (some ga1))
  p5 : loadA Tryz.prog 3 ga1 h = some (.int .i64 sz)
  p6 : fieldAddrA Tryz.prog 31 v1 2 = some (.pointer (some ga2))
  p7 : loadA Tryz.prog 3 ga2 h = some (.int .i64 ino)
  n1 : qa.block ≠ β
  n2 : ga1.block ≠ β
  n3 : ga2.block ≠ β
  b1 : ino ≤ 2000
  b2 : sz ≤ 2000000

theorem MkIn.set {h : AH} {v1 v4 v8 pv : Value} {qa ga1 ga2 : Addr} {β : Nat} {k : Int} {ino sz : Nat} (m : MkIn h v1 v4 v8 pv qa ga1 ga2 β k ino sz) (o : AObj) : MkIn (h.set β o) v1 v4 v8 pv qa ga1 ga2 β k ino sz where
  p1 := m.p1
  p2 := m.p2
  p3 := by rw [loadA_set_ne m.n1]; exact m.p3
  p4 := m.p4
  p5 := by rw [loadA_set_ne m.n2]; exact m.p5
  p6 := m.p6
  p7 := by rw [loadA_set_ne m.n3]; exact m.p7
  n1 := m.n1
  n2 := m.n2
  n3 := m.n3
  b1 := m.b1
  b2 := m.b2

def D4 : List Nat := [10, 49, 50, 51, 52, 53, 54, 55, 56, 57, 58, 59, 60, 61, 62, 63, 64, 65, 66, 67, 68, 69, 70, 71, 72, 73, 74, 75, 76, 77, 78, 79]
def ups4 (v4 v8 pv : Value) (qa ga1 ga2 : Addr) (β : Nat) (ino sz i : Nat) : List (Nat × Value) :=
  [(10, .int .i64 (i + 1)), (51, .int .i64 i), (52, .int .i64 (i + 1)), (53, v4), (54, v8), (55, pv), (56, .pointer (some qa)), (57, .int .u8 4), (58, .bool true), (59, .slice (some ⟨β, 0, none⟩) 2048 2048), (60, .int .i64 i), (61, .int .i64 i),
    (62, .pointer (some ga2)), (63, .int .i64 ino), (64, .int .i64 ((ino : Int) / 4)), (65, .int .i64 (2 + (ino : Int) / 4)), (66, .bool false), (67, .bool false), (68, .int .i64 i), (69, .pointer (some ga1)), (70, .int .i64 sz), (71, .bool (decide ((sz : Int) ≤ i))), (72, .bool (decide ((sz : Int) ≤ i))),
    (73, .pointer (some ⟨β, i, none⟩)), (74, v4), (75, v8), (76, pv), (77, .pointer (some qa)), (78, .int .u8 4), (79, .bool false)]
def bit4 (ino sz i : Nat) : Bool := decide (i < 2 + ino / 4) || decide (sz ≤ i)

theorem mk_4 (E : Env) (i : Nat) (hi : i < 2048) (h : AH) (T : List Value) {v1 v4 v8 pv : Value} {qa ga1 ga2 : Addr} {β ino sz e : Nat} (m : MkIn h v1 v4 v8 pv qa ga1 ga2 β 4 ino sz) (hT : T.length = 159) (t1 : T.getD 1 undef = v1) (t4 : T.getD 4 undef = v4) (t8 : T.getD 8 undef = v8)
    (t9 : T.getD 9 undef = .slice (some ⟨β, 0, none⟩) 2048 2048) (t10 : T.getD 10 undef = .int .i64 i) (l : List Value) (hl : l.length = i) (hg : h.get β = some (bitRow e l)) :
    ∃ T', evalC Tryz.prog E none mkB ⟨⟨T⟩, [], h⟩ = some (.normal, ⟨⟨T'⟩, [], h.set β (bitRow e (l ++ [.bool (bit4 ino sz i)]))⟩) ∧ T'.length = 159 ∧ Agree D4 T' T ∧ T'.getD 10 undef = .int .i64 (i + 1) ∧
      (2 + ino / 4 ≤ i → ∀ p ∈ ups4 v4 v8 pv qa ga1 ga2 β ino sz i, T'.getD p.1 undef = p.2) := by
  obtain ⟨p1, p2, p3, p4, p5, p6, p7, n1, n2, n3, b1, b2⟩ := m
  subst hl
  have c1 : decide ((l.length : Int) < 2048) = true := by simp; omega
  have i1 : 0 ≤ (l.length : Int) ∧ (l.length : Int) < ((2048 : Nat) : Int) := by omega
  have c4 : decide ((4 : Int) = 4) = true := by decide
  have c5 : decide ((4 : Int) = 5) = false := by decide
  have st := stK_bitRow h β e l (.bool (bit4 ino sz l.length)) hi
  have p3' : ∀ o, loadA Tryz.prog 5 qa (h.set β o) = some (.int .u8 4) := fun o => by rw [loadA_set_ne n1]; exact p3
  have qu : (ino : Int).tdiv 4 = (ino : Int) / 4 := Int.tdiv_eq_ediv_of_nonneg (by omega)
  by_cases hc : l.length < 2 + ino / 4
  · have c6 : decide ((l.length : Int) < 2 + (ino : Int) / 4) = true := by simp; omega
    have hb : bit4 ino sz l.length = true := by unfold bit4; simp [hc]
    rw [hb] at st ⊢
    simp only [mkB, mkL, loopBody, blockAt, Tryz.f179, Option.getD_some, Nat.reduceEqDiff, if_true, if_false]
    simp (maxSteps := 1000000) (disch := omega) only [opA_convert, stepVal_guardT, yD_some, yK_bool, yK_undef, getD_set', List.length_set, Nat.reduceLT, evalC_drawT, drawL_eq, trace_cons, trace_nil, traceK_some, pad, evalC_seq, evalC_region, evalC_cond, evalC_ret, evalC_skip, evalC_label, evalC_exit, evalC_scope, evalC_block, evalC_draw, runOps_cons, runOps_nil, stepOp_eq, stepVal_plain, yieldedA_T, opA_assign, opA_move, opA_binOp, opA_pick, opA_call, opA_alloc, opA_box, opA_load, opA_store, opA_extract, opA_buildSlice, opA_indexAddr, opA_fieldAddr, aeval_int, aeval_bool, aeval_tmp, aeval_nilSlice, aeval_nilPointer, aeval_nilFunc, aeval_func, arK_val, arK_skip, arK_enter, arK_round, valK_some, valK_none, opsK_some, Option.map_some, Option.map_none, seqK_normal, seqK_ret, seqK_exit, blockK_normal, blockK_ret, blockK_exit, loopK_normal, loopK_ret, loopK_exit, List.getElem?_cons_zero, List.getElem?_cons_succ, Option.bind_some, reduceCtorEq, if_false, if_true, pickK_bool, condK_true, condK_false, endK_ret, endK_normal, resultsA_tmp, resultsA_nil, resVal, Option.some.injEq, Bool.true_eq_false, Bool.false_eq_true, List.map_cons, List.map_nil, binA_add, binA_sub, binA_mul, binA_lss, binA_leq, binA_gtr, binA_geq, binA_eql, binA_neq, callA_builtin, max_int, min_int, loadK_pointer, storeK_pointer, IntWalk.i64_in, IntWalk.i64_quo, binA_quo, binA_rem, Int.tmod_eq_emod_of_nonneg, loadA_rowK, get_empty, next_empty, AH.get_set, AH.get_push, AH.next_set, AH.next_push, resultsA_cell, resK_pointer, roundA_G, roundG_loop, asgK_normal, bodyK_loop, ended_some, endRK_normal, endRK_ret, endRK_exit, rangeK_E, rangeE_ready, rangeE_done, rangeH, setAll, shut_nil, shut_cons, shutK_defs, endK_shut, outK_some, AH.get_kill, AH.next_kill, evalRegion_G, drawG_ok, drawK_all, trace_cons, trace_nil, traceK_some, List.all_cons, List.all_nil, sameRead_K, sameK_plain, sameK_guard, wantK_some, veqK_val, veq_int, veq_bool, veq_pointer, veq_slice, veq_nilSlice, Bool.and_true, Bool.and_self, List.getLast?_cons_cons, List.getLast?_singleton, ixK_slice, oneOf_row, Nat.reduceLeDiff, and_self, and_true, true_and, Int.reduceToNat, Int.reduceNe, List.take_succ_cons, List.take_zero, List.take_nil, List.length_cons, List.length_nil, List.cons_append, List.nil_append, Int.reduceLE, Int.reduceLT, Int.reduceEq, Int.reduceNeg, Int.reduceAdd, Int.reduceSub, Int.reduceMul, Int.reduceDiv, Nat.reduceAdd, Nat.reduceEqDiff, decide_true, decide_false, hT, t1, t4, t8, t9, t10, c1, p1, p2, p3, c4, c5, p4, p5, p6, p7, p3', qu, c6, i1, indexAddrA_one one325, ixK_slice, Int.toNat_natCast, Nat.zero_add, storeA_boolR szB, hg, st]
    refine ⟨_, rfl, by simp only [getD_set', List.length_set, Nat.reduceEqDiff, Nat.reduceLT, if_true, if_false, hT], ?_, by simp only [getD_set', List.length_set, Nat.reduceEqDiff, Nat.reduceLT, if_true, if_false, hT], fun h => by omega⟩
    · ((repeat refine Agree.set _ (by rfl) ?_); exact Agree.refl _ _)
  · have c6 : decide ((l.length : Int) < 2 + (ino : Int) / 4) = false := by simp; omega
    have hb : bit4 ino sz l.length = decide ((sz : Int) ≤ (l.length : Int)) := by unfold bit4; simp [hc]
    rw [hb] at st ⊢
    simp only [mkB, mkL, loopBody, blockAt, Tryz.f179, Option.getD_some, Nat.reduceEqDiff, if_true, if_false]
    simp (maxSteps := 1000000) (disch := omega) only [opA_convert, stepVal_guardT, yD_some, yK_bool, yK_undef, getD_set', List.length_set, Nat.reduceLT, evalC_drawT, drawL_eq, trace_cons, trace_nil, traceK_some, pad, evalC_seq, evalC_region, evalC_cond, evalC_ret, evalC_skip, evalC_label, evalC_exit, evalC_scope, evalC_block, evalC_draw, runOps_cons, runOps_nil, stepOp_eq, stepVal_plain, yieldedA_T, opA_assign, opA_move, opA_binOp, opA_pick, opA_call, opA_alloc, opA_box, opA_load, opA_store, opA_extract, opA_buildSlice, opA_indexAddr, opA_fieldAddr, aeval_int, aeval_bool, aeval_tmp, aeval_nilSlice, aeval_nilPointer, aeval_nilFunc, aeval_func, arK_val, arK_skip, arK_enter, arK_round, valK_some, valK_none, opsK_some, Option.map_some, Option.map_none, seqK_normal, seqK_ret, seqK_exit, blockK_normal, blockK_ret, blockK_exit, loopK_normal, loopK_ret, loopK_exit, List.getElem?_cons_zero, List.getElem?_cons_succ, Option.bind_some, reduceCtorEq, if_false, if_true, pickK_bool, condK_true, condK_false, endK_ret, endK_normal, resultsA_tmp, resultsA_nil, resVal, Option.some.injEq, Bool.true_eq_false, Bool.false_eq_true, List.map_cons, List.map_nil, binA_add, binA_sub, binA_mul, binA_lss, binA_leq, binA_gtr, binA_geq, binA_eql, binA_neq, callA_builtin, max_int, min_int, loadK_pointer, storeK_pointer, IntWalk.i64_in, IntWalk.i64_quo, binA_quo, binA_rem, Int.tmod_eq_emod_of_nonneg, loadA_rowK, get_empty, next_empty, AH.get_set, AH.get_push, AH.next_set, AH.next_push, resultsA_cell, resK_pointer, roundA_G, roundG_loop, asgK_normal, bodyK_loop, ended_some, endRK_normal, endRK_ret, endRK_exit, rangeK_E, rangeE_ready, rangeE_done, rangeH, setAll, shut_nil, shut_cons, shutK_defs, endK_shut, outK_some, AH.get_kill, AH.next_kill, evalRegion_G, drawG_ok, drawK_all, trace_cons, trace_nil, traceK_some, List.all_cons, List.all_nil, sameRead_K, sameK_plain, sameK_guard, wantK_some, veqK_val, veq_int, veq_bool, veq_pointer, veq_slice, veq_nilSlice, Bool.and_true, Bool.and_self, List.getLast?_cons_cons, List.getLast?_singleton, ixK_slice, oneOf_row, Nat.reduceLeDiff, and_self, and_true, true_and, Int.reduceToNat, Int.reduceNe, List.take_succ_cons, List.take_zero, List.take_nil, List.length_cons, List.length_nil, List.cons_append, List.nil_append, Int.reduceLE, Int.reduceLT, Int.reduceEq, Int.reduceNeg, Int.reduceAdd, Int.reduceSub, Int.reduceMul, Int.reduceDiv, Nat.reduceAdd, Nat.reduceEqDiff, decide_true, decide_false, hT, t1, t4, t8, t9, t10, c1, p1, p2, p3, c4, c5, p4, p5, p6, p7, p3', qu, c6, i1, indexAddrA_one one325, ixK_slice, Int.toNat_natCast, Nat.zero_add, storeA_boolR szB, hg, st]
    refine ⟨_, rfl, by simp only [getD_set', List.length_set, Nat.reduceEqDiff, Nat.reduceLT, if_true, if_false, hT], ?_, by simp only [getD_set', List.length_set, Nat.reduceEqDiff, Nat.reduceLT, if_true, if_false, hT], fun _ p hp => ?_⟩
    · ((repeat refine Agree.set _ (by rfl) ?_); exact Agree.refl _ _)
    · simp only [ups4, List.mem_cons, List.not_mem_nil, or_false] at hp
      rcases hp with rfl | rfl | rfl | rfl | rfl | rfl | rfl | rfl | rfl | rfl | rfl | rfl | rfl | rfl | rfl | rfl | rfl | rfl | rfl | rfl | rfl | rfl | rfl | rfl | rfl | rfl | rfl | rfl | rfl | rfl <;> simp only [getD_set', List.length_set, Nat.reduceEqDiff, Nat.reduceLT, if_true, if_false, hT]
end Go.Proofs.Leaf
