/-
  The document's Make: what is said of the loop over a block's bits and of the block that is made of them.
-/
import Derived.Test.YtimngnabpolgkaaGreatBnG26
import Derived.Test.YtimngnabpolgkaaGreatBnG31
namespace Go.Proofs.Leaf
set_option linter.unusedSimpArgs false
set_option linter.unusedVariables false
open Go.AE
set_option maxRecDepth 100000
set_option maxHeartbeats 4000000

noncomputable def ovB : Over := table [(239, gBlock), (333, gRef)]
theorem ovB_ok : OverOk Tryz.prog ovB := OverOk.table fun p hp => by
  simp only [List.mem_cons, List.not_mem_nil, or_false] at hp
  rcases hp with rfl | rfl
  · exact sBlock
  · exact sRef

/-- Bits of a bitmap, so many from some place on. -/
noncomputable def boolsFrom (f : Nat → Bool) (r : Nat) : Nat → List Bool := Nat.rec (motive := fun _ => Nat → List Bool) (fun _ => []) (fun _ ih i => f i :: ih (Nat.succ i)) r
theorem bitsFrom_map (f : Nat → Bool) : ∀ (r i : Nat), bitsFrom f i r = (boolsFrom f r i).map .bool
  | 0, _ => rfl
  | r + 1, i => by
    show Value.bool (f i) :: bitsFrom f (i + 1) r = Value.bool (f i) :: (boolsFrom f r (i + 1)).map .bool
    rw [bitsFrom_map f r (i + 1)]
theorem length_boolsFrom (f : Nat → Bool) : ∀ (r i : Nat), (boolsFrom f r i).length = r
  | 0, _ => rfl
  | r + 1, i => by
    show (boolsFrom f r (i + 1)).length + 1 = r + 1
    rw [length_boolsFrom f r (i + 1)]
theorem boolsOf_of_map : ∀ (l : List Bool), boolsOf (l.map .bool) = some l
  | [] => rfl
  | b :: r => by simp only [List.map_cons, boolsOf, boolsOf_of_map r]; rfl

noncomputable def zeros256 : List Value := List.replicate 256 (.int .u8 (.ofNat 0))
theorem pack_zeros : pack8 (List.replicate 2048 false) = zeros256 := by kernel_rfl

/-- What the block is, once its bits are told. -/
theorem gBlock_row {h : AH} {β E : Nat} {l : List Value} {m : List Bool} (hβ : β < h.next) (hg : h.get β = some (bitRow E l)) (hr : rowA (ofRow l) (.bool false) 0 2048 = m.map .bool) :
    gBlock ⟨[.slice (some ⟨β, 0, none⟩) 2048 2048]⟩ h = some (.agg ⟨pack8 m⟩, h) := by
  unfold gBlock
  simp only [hg, bitRow, hr, boolsOf_of_map]
  rw [if_pos]
  simp only [Bool.and_eq_true]
  exact ⟨⟨Nat.ble_eq_true_of_le hβ, rfl⟩, rfl⟩

/-- The slots behind the block's making. -/
noncomputable def ups23 (v5 v8 v9 ag o : Value) : List (Nat × Value) := [(99, v5), (100, v8), (101, v9), (102, ag), (103, o)]

/-- The two pieces. -/
noncomputable def mkPath : List Dir := [.r, .r, .r, .r, .r, .r, .r, .r, .l, .r, .i, .i, .r, .l, .i, .r]
noncomputable def mkPc : Code := (pc2At mkPath (Tryz.f179.body.getD .skip)).getD .skip
theorem b239 : ((Tryz.prog.funcs[239]?).bind (·.body)).isSome = true := by kernel_rfl
theorem ovB_239 : ovB 239 = some gBlock := by kernel_rfl

/-- Around the loop: what stands ahead of it and behind. -/
theorem mk_piece (n : Nat) (h h' h'' : AH) (T : List Value) (l : List (Nat × Value)) (v5 v8 v9 ag : Value) (oa : Addr) (hT : T.length = 159) (t5 : T.getD 5 undef = v5) (t8 : T.getD 8 undef = v8) (t9 : T.getD 9 undef = v9)
    (hl : evalC Tryz.prog (env Tryz.prog ovB (n + 1)) none mkL ⟨⟨T.set 10 (.int .i64 0)⟩, [], h⟩ = some (.exit 4, ⟨⟨setAllL (endUps l) (T.set 10 (.int .i64 0))⟩, [], h'⟩))
    (hd : l.all (fun p => decide (p.1 ≠ 5) && decide (p.1 ≠ 8) && decide (p.1 ≠ 9)) = true)
    (hb : gBlock ⟨[v9]⟩ h' = some (ag, h')) (ho : indexAddrA Tryz.prog 48 v5 v8 = some (.pointer (some oa))) (hs : storeA Tryz.prog 45 oa ag h' = some h'') :
    evalC Tryz.prog (env Tryz.prog ovB (n + 1)) none mkPc ⟨⟨T⟩, [], h⟩ = some (.normal, ⟨⟨setAllL ([(10, .int .i64 0)] ++ endUps l ++ ups23 v5 v8 v9 ag (.pointer (some oa))) T⟩, [], h''⟩) := by
  generalize hT1 : T.set 10 (.int .i64 0) = T1 at hl
  generalize hT2 : setAllL (endUps l) T1 = T2 at hl
  have keep : ∀ (l : List (Nat × Value)) (T : List Value) (j : Nat), l.all (fun p => decide (p.1 ≠ j)) = true → (setAllL l T).getD j undef = T.getD j undef := by
    intro l
    induction l with
    | nil => intro T j _; rfl
    | cons p r ih =>
      intro T j hj
      simp only [List.all_cons, Bool.and_eq_true, decide_eq_true_eq] at hj
      show (setAllL r (T.set p.1 p.2)).getD j undef = _
      rw [ih _ j hj.2, getD_set', if_neg hj.1]
  have klen : ∀ (l : List (Nat × Value)) (T : List Value), (setAllL l T).length = T.length := by
    intro l
    induction l with
    | nil => intro T; rfl
    | cons p r ih => intro T; show (setAllL r (T.set p.1 p.2)).length = _; rw [ih]; simp
  rw [List.all_eq_true] at hd
  have w : T2.length = 159 := by rw [← hT2, klen, ← hT1]; simp [hT]
  have kk : ∀ j, (j = 5 ∨ j = 8 ∨ j = 9) → T2.getD j undef = T.getD j undef := by
    intro j hj
    rw [← hT2, keep, ← hT1, getD_set', if_neg (by omega)]
    rw [List.all_eq_true]
    intro p hp
    simp only [endUps, List.cons_append, List.nil_append, List.mem_cons] at hp
    rcases hp with rfl | rfl | hp
    · simp only [decide_eq_true_eq]; omega
    · simp only [decide_eq_true_eq]; omega
    · have := hd p hp
      simp only [Bool.and_eq_true, decide_eq_true_eq] at this ⊢
      omega
  have w5 := (kk 5 (by simp)).trans t5
  have w8 := (kk 8 (by simp)).trans t8
  have w9 := (kk 9 (by simp)).trans t9
  have e : setAllL ([(10, .int .i64 0)] ++ endUps l ++ ups23 v5 v8 v9 ag (.pointer (some oa))) T = setAllL (ups23 v5 v8 v9 ag (.pointer (some oa))) T2 := by
    rw [← hT2, ← hT1]
    simp only [setAllL, List.foldl_append, List.foldl_cons, List.foldl_nil]
  rw [e]
  simp only [mkL, blockAt, mkPc, mkPath, pc2At, Tryz.f179, Option.getD_some, Nat.reduceEqDiff, if_true, if_false] at hl ⊢
  simp (maxSteps := 1000000) (disch := omega) only [opA_convert, stepVal_guardT, yD_some, yK_bool, yK_undef, getD_set', List.length_set, Nat.reduceLT, evalC_drawT, drawL_eq, trace_cons, trace_nil, traceK_some, pad, evalC_seq, evalC_region, evalC_cond, evalC_ret, evalC_skip, evalC_label, evalC_exit, evalC_scope, evalC_block, evalC_draw, runOps_cons, runOps_nil, stepOp_eq, stepVal_plain, yieldedA_T, opA_assign, opA_move, opA_binOp, opA_pick, opA_call, opA_alloc, opA_box, opA_load, opA_store, opA_extract, opA_buildSlice, opA_indexAddr, opA_fieldAddr, aeval_int, aeval_bool, aeval_tmp, aeval_nilSlice, aeval_nilPointer, aeval_nilFunc, aeval_func, arK_val, arK_skip, arK_enter, arK_round, valK_some, valK_none, opsK_some, Option.map_some, Option.map_none, seqK_normal, seqK_ret, seqK_exit, blockK_normal, blockK_ret, blockK_exit, loopK_normal, loopK_ret, loopK_exit, List.getElem?_cons_zero, List.getElem?_cons_succ, Option.bind_some, reduceCtorEq, if_false, if_true, pickK_bool, condK_true, condK_false, endK_ret, endK_normal, resultsA_tmp, resultsA_nil, resVal, Option.some.injEq, Bool.true_eq_false, Bool.false_eq_true, List.map_cons, List.map_nil, binA_add, binA_sub, binA_mul, binA_lss, binA_leq, binA_gtr, binA_geq, binA_eql, binA_neq, callA_builtin, max_int, min_int, loadK_pointer, storeK_pointer, IntWalk.i64_in, IntWalk.i64_quo, binA_quo, binA_rem, Int.tmod_eq_emod_of_nonneg, loadA_rowK, get_empty, next_empty, AH.get_set, AH.get_push, AH.next_set, AH.next_push, resultsA_cell, resK_pointer, roundA_G, roundG_loop, asgK_normal, bodyK_loop, ended_some, endRK_normal, endRK_ret, endRK_exit, rangeK_E, rangeE_ready, rangeE_done, rangeH, setAll, shut_nil, shut_cons, shutK_defs, endK_shut, outK_some, AH.get_kill, AH.next_kill, evalRegion_G, drawG_ok, drawK_all, trace_cons, trace_nil, traceK_some, List.all_cons, List.all_nil, sameRead_K, sameK_plain, sameK_guard, wantK_some, veqK_val, veq_int, veq_bool, veq_pointer, veq_slice, veq_nilSlice, Bool.and_true, Bool.and_self, List.getLast?_cons_cons, List.getLast?_singleton, ixK_slice, oneOf_row, Nat.reduceLeDiff, and_self, and_true, true_and, Int.reduceToNat, Int.reduceNe, List.take_succ_cons, List.take_zero, List.take_nil, List.length_cons, List.length_nil, List.cons_append, List.nil_append, Int.reduceLE, Int.reduceLT, Int.reduceEq, Int.reduceNeg, Int.reduceAdd, Int.reduceSub, Int.reduceMul, Int.reduceDiv, Nat.reduceAdd, Nat.reduceEqDiff, decide_true, decide_false, hT, hT1, hl, w, w5, w8, w9, callA_func _ _ _ _ _ _ b239, env_call_ov ovB_239, hb, ho, hs]
  rfl
end Go.Proofs.Leaf
