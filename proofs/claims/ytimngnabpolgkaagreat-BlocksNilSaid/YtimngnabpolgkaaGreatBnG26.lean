/-
  The document's Make: the whole loop over a block's bits.
-/
import Derived.Test.YtimngnabpolgkaaGreatBnG25
namespace Go.Proofs.Leaf
set_option linter.unusedSimpArgs false
set_option linter.unusedVariables false
open Go.AE
set_option maxRecDepth 100000
set_option maxHeartbeats 4000000

theorem mkL_eq : mkL = .loop mkB := by kernel_rfl

/-- At the end. -/
theorem mk_end (E : Env) (h : AH) (T : List Value) (hT : T.length = 159) (t10 : T.getD 10 undef = .int .i64 2048) :
    evalC Tryz.prog E none mkB ⟨⟨T⟩, [], h⟩ = some (.exit 4, ⟨⟨(T.set 49 (.int .i64 2048)).set 50 (.bool false)⟩, [], h⟩) := by
  have c1 : decide ((2048 : Int) < 2048) = false := by decide
  simp only [mkB, mkL, loopBody, blockAt, Tryz.f179, Option.getD_some, Nat.reduceEqDiff, if_true, if_false]
  simp (maxSteps := 1000000) (disch := omega) only [opA_convert, stepVal_guardT, yD_some, yK_bool, yK_undef, getD_set', List.length_set, Nat.reduceLT, evalC_drawT, drawL_eq, trace_cons, trace_nil, traceK_some, pad, evalC_seq, evalC_region, evalC_cond, evalC_ret, evalC_skip, evalC_label, evalC_exit, evalC_scope, evalC_block, evalC_draw, runOps_cons, runOps_nil, stepOp_eq, stepVal_plain, yieldedA_T, opA_assign, opA_move, opA_binOp, opA_pick, opA_call, opA_alloc, opA_box, opA_load, opA_store, opA_extract, opA_buildSlice, opA_indexAddr, opA_fieldAddr, aeval_int, aeval_bool, aeval_tmp, aeval_nilSlice, aeval_nilPointer, aeval_nilFunc, aeval_func, arK_val, arK_skip, arK_enter, arK_round, valK_some, valK_none, opsK_some, Option.map_some, Option.map_none, seqK_normal, seqK_ret, seqK_exit, blockK_normal, blockK_ret, blockK_exit, loopK_normal, loopK_ret, loopK_exit, List.getElem?_cons_zero, List.getElem?_cons_succ, Option.bind_some, reduceCtorEq, if_false, if_true, pickK_bool, condK_true, condK_false, endK_ret, endK_normal, resultsA_tmp, resultsA_nil, resVal, Option.some.injEq, Bool.true_eq_false, Bool.false_eq_true, List.map_cons, List.map_nil, binA_add, binA_sub, binA_mul, binA_lss, binA_leq, binA_gtr, binA_geq, binA_eql, binA_neq, callA_builtin, max_int, min_int, loadK_pointer, storeK_pointer, IntWalk.i64_in, IntWalk.i64_quo, binA_quo, binA_rem, Int.tmod_eq_emod_of_nonneg, loadA_rowK, get_empty, next_empty, AH.get_set, AH.get_push, AH.next_set, AH.next_push, resultsA_cell, resK_pointer, roundA_G, roundG_loop, asgK_normal, bodyK_loop, ended_some, endRK_normal, endRK_ret, endRK_exit, rangeK_E, rangeE_ready, rangeE_done, rangeH, setAll, shut_nil, shut_cons, shutK_defs, endK_shut, outK_some, AH.get_kill, AH.next_kill, evalRegion_G, drawG_ok, drawK_all, trace_cons, trace_nil, traceK_some, List.all_cons, List.all_nil, sameRead_K, sameK_plain, sameK_guard, wantK_some, veqK_val, veq_int, veq_bool, veq_pointer, veq_slice, veq_nilSlice, Bool.and_true, Bool.and_self, List.getLast?_cons_cons, List.getLast?_singleton, ixK_slice, oneOf_row, Nat.reduceLeDiff, and_self, and_true, true_and, Int.reduceToNat, Int.reduceNe, List.take_succ_cons, List.take_zero, List.take_nil, List.length_cons, List.length_nil, List.cons_append, List.nil_append, Int.reduceLE, Int.reduceLT, Int.reduceEq, Int.reduceNeg, Int.reduceAdd, Int.reduceSub, Int.reduceMul, Int.reduceDiv, Nat.reduceAdd, Nat.reduceEqDiff, decide_true, decide_false, hT, t10, c1]

theorem loop_round {ov : Over} {n : Nat} {s s' : St} (h : evalC Tryz.prog (env Tryz.prog ov (n + 1)) none mkB s = some (.normal, s')) :
    evalC Tryz.prog (env Tryz.prog ov (n + 1)) none mkL s = evalC Tryz.prog (env Tryz.prog ov n) none mkL s' := by
  rw [mkL_eq, evalC_loop, h, loopK_normal, env_code]
theorem loop_exit {ov : Over} {n : Nat} {s s' : St} {id : Nat} (h : evalC Tryz.prog (env Tryz.prog ov n) none mkB s = some (.exit id, s')) :
    evalC Tryz.prog (env Tryz.prog ov n) none mkL s = some (.exit id, s') := by
  rw [mkL_eq, evalC_loop, h, loopK_exit]

def endUps (l : List (Nat × Value)) : List (Nat × Value) := [(49, .int .i64 2048), (50, .bool false)] ++ l

theorem end_state {l : List (Nat × Value)} {T T' : List Value} (hT : T.length = 159) (ha : Agree (49 :: 50 :: l.map (·.1)) T' T) (hl : T'.length = 159) (h2 : ∀ p ∈ l, T'.getD p.1 undef = p.2) (h3 : l.all (fun p => decide (p.1 < 159) && decide (p.1 ≠ 49) && decide (p.1 ≠ 50)) = true) :
    (T'.set 49 (.int .i64 2048)).set 50 (.bool false) = setAllL (endUps l) T := by
  rw [List.all_eq_true] at h3
  refine Agree.done (l := endUps l) ?_ fun p hp => ?_
  · refine Agree.set _ (by simp [endUps]) (Agree.set _ (by simp [endUps]) ?_)
    exact ha
  · simp only [endUps, List.cons_append, List.nil_append, List.mem_cons] at hp
    rcases hp with rfl | rfl | hp
    · exact ⟨by simp [hl], by simp only [getD_set', List.length_set, Nat.reduceEqDiff, Nat.reduceLT, if_true, if_false, hl]⟩
    · exact ⟨by simp [hl], by simp only [getD_set', List.length_set, Nat.reduceEqDiff, Nat.reduceLT, if_true, if_false, hl]⟩
    · have := h3 p hp
      simp only [Bool.and_eq_true, decide_eq_true_eq] at this
      obtain ⟨⟨h4, h5⟩, h6⟩ := this
      refine ⟨by simp [hl]; omega, ?_⟩
      rw [getD_set', if_neg (fun e => h6 e.symm), getD_set', if_neg (fun e => h5 e.symm)]
      exact h2 p hp

theorem loop_other (ov : Over) (h : AH) (v4 v8 pv : Value) (qa : Addr) (k : Int)
    (p1 : indexAddrA Tryz.prog 323 v4 v8 = some pv) (p2 : fieldAddrA Tryz.prog 327 pv 0 = some (.pointer (some qa))) (p3 : loadA Tryz.prog 5 qa h = some (.int .u8 k)) (k4 : k ≠ 4) (k5 : k ≠ 5) :
    ∀ (r i : Nat), i + (r + 1) = 2048 → ∀ (T : List Value), T.length = 159 → T.getD 4 undef = v4 → T.getD 8 undef = v8 → T.getD 10 undef = .int .i64 i →
      evalC Tryz.prog (env Tryz.prog ov (r + 1)) none mkL ⟨⟨T⟩, [], h⟩ = some (.exit 4, ⟨⟨setAllL (endUps (upsO v4 v8 pv (.pointer (some qa)) k 2047)) T⟩, [], h⟩)
  | 0, i, hi, T, hT, t4, t8, t10 => by
    obtain rfl : i = 2047 := by omega
    obtain ⟨T', h1, h2, h3, h4⟩ := mk_other (env Tryz.prog ov (0 + 1)) 2047 (by omega) h T v4 v8 pv qa k hT t4 t8 t10 p1 p2 p3 k4 k5
    rw [loop_round h1, loop_exit (mk_end _ h T' h2 (h4 (10, _) (by simp [upsO])))]
    rw [end_state hT (h3.sub (by rfl)) h2 h4 (by rfl)]
    rfl
  | r + 1, i, hi, T, hT, t4, t8, t10 => by
    obtain ⟨T', h1, h2, h3, h4⟩ := mk_other (env Tryz.prog ov (r + 1 + 1)) i (by omega) h T v4 v8 pv qa k hT t4 t8 t10 p1 p2 p3 k4 k5
    rw [loop_round h1, loop_other ov h v4 v8 pv qa k p1 p2 p3 k4 k5 r (i + 1) (by omega) T' h2 ((h3.getD 4 (by rfl) _).trans t4) ((h3.getD 8 (by rfl) _).trans t8) (by have := h4 (10, _) (by simp [upsO]; rfl); simpa using this)]
    rw [Agree.setAll (endUps (upsO v4 v8 pv (.pointer (some qa)) k 2047)) T' T (h3.sub (by rfl))]

/-- Bits of a bitmap from some place on, so many. -/
def bitsFrom (f : Nat → Bool) (i : Nat) : Nat → List Value
  | 0 => []
  | r + 1 => .bool (f i) :: bitsFrom f (i + 1) r

theorem loop_4 (ov : Over) (v1 v4 v8 pv : Value) (qa ga1 ga2 : Addr) (β ino sz e : Nat) :
    ∀ (r i : Nat), i + (r + 1) = 2048 → ∀ (h : AH) (T : List Value) (l : List Value), MkIn h v1 v4 v8 pv qa ga1 ga2 β 4 ino sz → T.length = 159 → T.getD 1 undef = v1 → T.getD 4 undef = v4 → T.getD 8 undef = v8 →
      T.getD 9 undef = .slice (some ⟨β, 0, none⟩) 2048 2048 → T.getD 10 undef = .int .i64 i → l.length = i → h.get β = some (bitRow e l) →
      evalC Tryz.prog (env Tryz.prog ov (r + 1)) none mkL ⟨⟨T⟩, [], h⟩ = some (.exit 4, ⟨⟨setAllL (endUps (ups4 v4 v8 pv qa ga1 ga2 β ino sz 2047)) T⟩, [], h.set β (bitRow e (l ++ bitsFrom (bit4 ino sz) i (r + 1)))⟩)
  | 0, i, hi, h, T, l, m, hT, t1, t4, t8, t9, t10, hl, hg => by
    obtain rfl : i = 2047 := by omega
    have b1 := m.b1
    obtain ⟨T', h1, h2, h3, h4, h5⟩ := mk_4 (env Tryz.prog ov (0 + 1)) 2047 (by omega) h T m hT t1 t4 t8 t9 t10 l hl hg
    rw [loop_round h1, loop_exit (mk_end _ _ T' h2 h4)]
    rw [end_state hT (h3.sub (by rfl)) h2 (h5 (by omega)) (by rfl)]
    rfl
  | r + 1, i, hi, h, T, l, m, hT, t1, t4, t8, t9, t10, hl, hg => by
    obtain ⟨T', h1, h2, h3, h4, h5⟩ := mk_4 (env Tryz.prog ov (r + 1 + 1)) i (by omega) h T m hT t1 t4 t8 t9 t10 l hl hg
    rw [loop_round h1, loop_4 ov v1 v4 v8 pv qa ga1 ga2 β ino sz e r (i + 1) (by omega) _ T' (l ++ [.bool (bit4 ino sz i)]) (m.set _) h2 ((h3.getD 1 (by rfl) _).trans t1) ((h3.getD 4 (by rfl) _).trans t4) ((h3.getD 8 (by rfl) _).trans t8)
      ((h3.getD 9 (by rfl) _).trans t9) (h4.trans rfl) (by simp [hl]) (by rw [AH.get_set, if_pos rfl])]
    rw [Agree.setAll (endUps (ups4 v4 v8 pv qa ga1 ga2 β ino sz 2047)) T' T (h3.sub (by rfl)), AH.set_set, List.append_assoc]
    rfl

theorem loop_5 (ov : Over) (v1 v4 v8 pv : Value) (qa ga1 ga2 gqa : Addr) (β ino sz e : Nat) (grp : Int) (p8 : fieldAddrA Tryz.prog 327 pv 1 = some (.pointer (some gqa))) (n9 : gqa.block ≠ β) :
    ∀ (r i : Nat), i + (r + 1) = 2048 → ∀ (h : AH) (T : List Value) (l : List Value), MkIn h v1 v4 v8 pv qa ga1 ga2 β 5 ino sz → loadA Tryz.prog 3 gqa h = some (.int .i64 grp) → T.length = 159 → T.getD 1 undef = v1 → T.getD 4 undef = v4 → T.getD 8 undef = v8 →
      T.getD 9 undef = .slice (some ⟨β, 0, none⟩) 2048 2048 → T.getD 10 undef = .int .i64 i → l.length = i → h.get β = some (bitRow e l) →
      evalC Tryz.prog (env Tryz.prog ov (r + 1)) none mkL ⟨⟨T⟩, [], h⟩ = some (.exit 4, ⟨⟨setAllL (endUps (ups5 v4 v8 pv qa ga2 β ino 2047)) T⟩, [], h.set β (bitRow e (l ++ bitsFrom (bit5 ino grp) i (r + 1)))⟩)
  | 0, i, hi, h, T, l, m, p9, hT, t1, t4, t8, t9, t10, hl, hg => by
    obtain rfl : i = 2047 := by omega
    have b1 := m.b1
    obtain ⟨T', h1, h2, h3, h4, h5⟩ := mk_5 (env Tryz.prog ov (0 + 1)) 2047 (by omega) h T m p8 p9 hT t1 t4 t8 t9 t10 l hl hg
    rw [loop_round h1, loop_exit (mk_end _ _ T' h2 h4)]
    rw [end_state hT (h3.sub (by rfl)) h2 (h5 (by omega)) (by rfl)]
    rfl
  | r + 1, i, hi, h, T, l, m, p9, hT, t1, t4, t8, t9, t10, hl, hg => by
    obtain ⟨T', h1, h2, h3, h4, h5⟩ := mk_5 (env Tryz.prog ov (r + 1 + 1)) i (by omega) h T m p8 p9 hT t1 t4 t8 t9 t10 l hl hg
    rw [loop_round h1, loop_5 ov v1 v4 v8 pv qa ga1 ga2 gqa β ino sz e grp p8 n9 r (i + 1) (by omega) _ T' (l ++ [.bool (bit5 ino grp i)]) (m.set _) (by rw [loadA_set_ne n9]; exact p9) h2 ((h3.getD 1 (by rfl) _).trans t1) ((h3.getD 4 (by rfl) _).trans t4) ((h3.getD 8 (by rfl) _).trans t8)
      ((h3.getD 9 (by rfl) _).trans t9) (h4.trans rfl) (by simp [hl]) (by rw [AH.get_set, if_pos rfl])]
    rw [Agree.setAll (endUps (ups5 v4 v8 pv qa ga2 β ino 2047)) T' T (h3.sub (by rfl)), AH.set_set, List.append_assoc]
    rfl
end Go.Proofs.Leaf
