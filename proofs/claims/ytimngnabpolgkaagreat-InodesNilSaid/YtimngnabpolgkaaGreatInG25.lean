/-
  Sums (crc): the loop over a piece's bytes.
-/
import Derived.Test.YtimngnabpolgkaaGreatInG24
namespace Go.Proofs.Leaf
set_option linter.unusedSimpArgs false
set_option linter.unusedVariables false
open Go.AE
set_option maxRecDepth 100000
set_option maxHeartbeats 4000000

noncomputable def stp (v : Nat) : Nat := Nat.xor (tbl.getD (Nat.land v 15) 0) (Nat.shiftRight v 4)
noncomputable def byt (v x : Nat) : Nat := stp (stp (Nat.xor v x))
theorem tbl_lt : ∀ i, i < 16 → tbl.getD i 0 < 2 ^ 32 := by
  unfold tbl
  decide
theorem and15 (v : Nat) : v &&& 15 < 16 := by
  have := Nat.and_two_pow_sub_one_eq_mod v 4
  have e : v &&& 15 = v % 16 := this
  rw [e]; exact Nat.mod_lt _ (by decide)
theorem stp_lt {v : Nat} (h : v < 2 ^ 32) : stp v < 2 ^ 32 := by
  refine Nat.xor_lt_two_pow (tbl_lt _ (and15 v)) ?_
  show v >>> 4 < 2 ^ 32
  rw [Nat.shiftRight_eq_div_pow]; omega
theorem byt_lt {v x : Nat} (h : v < 2 ^ 32) (hx : x < 256) : byt v x < 2 ^ 32 := stp_lt (stp_lt (Nat.xor_lt_two_pow h (by omega)))

theorem ag22 : isAggT Tryz.prog 22 = some false := by kernel_rfl
theorem arr449 : Arr1 Tryz.prog 449 16 22 := by
  refine ⟨by kernel_rfl, ?_⟩
  have : (Tryz.prog.info? 22).map (·.size) = some 1 := by kernel_rfl
  obtain ⟨i, hi, e⟩ := Option.map_eq_some_iff.1 this
  exact ⟨i, hi, e⟩
theorem one254 : One Tryz.prog 254 5 := by
  refine ⟨((zeroA Tryz.prog 5).get (by kernel_rfl)).1, ((zeroA Tryz.prog 5).get (by kernel_rfl)).2, by kernel_rfl, by kernel_rfl, by kernel_rfl, by kernel_rfl, by kernel_rfl, Nat.le_of_ble_eq_true (by kernel_rfl), by kernel_rfl⟩
theorem sl448 : Sl1 Tryz.prog 448 254 := by
  refine ⟨by kernel_rfl, ?_⟩
  have : (Tryz.prog.info? 254).map (·.size) = some 1 := by kernel_rfl
  obtain ⟨i, hi, e⟩ := Option.map_eq_some_iff.1 this
  exact ⟨i, hi, e⟩
theorem sl254 : Sl1 Tryz.prog 254 5 := ⟨by kernel_rfl, inf5⟩
theorem ag254 : isAggT Tryz.prog 254 = some false := by kernel_rfl

noncomputable def crcO : Code := (blockAt 0 (Tryz.f290.body.getD .skip)).getD .skip
noncomputable def crcI : Code := (blockAt 2 (Tryz.f290.body.getD .skip)).getD .skip
def loopB : Code → Code
  | .loop c => c
  | c => c
noncomputable def crcIB : Code := loopB crcI
theorem crcI_eq : crcI = .loop crcIB := by kernel_rfl

theorem xor_i {m n : Nat} (hm : m < 2 ^ 32) (hn : n < 2 ^ 32) (P : Program) (t : TypeId) (ox oy : Operand) : binA P .xor t ox oy (.int .u32 (m : Int)) (.int .u32 (n : Int)) = some (.int .u32 ((Nat.xor m n : Nat) : Int)) :=
  binA_xorN hm hn (Nat.xor_lt_two_pow hm hn)
theorem and_i {m : Nat} (hm : m < 2 ^ 32) (P : Program) (t : TypeId) (ox oy : Operand) : binA P .and t ox oy (.int .u32 (m : Int)) (.int .u32 15) = some (.int .u32 ((Nat.land m 15 : Nat) : Int)) :=
  binA_andN (n := 15) hm (by decide) (Nat.lt_of_lt_of_le (and15 m) (by decide))
theorem shr_i (m : Nat) (k : IntKind) (P : Program) (t : TypeId) (ox oy : Operand) : binA P .shr t ox oy (.int .u32 (m : Int)) (.int k 4) = some (.int .u32 ((Nat.shiftRight m 4 : Nat) : Int)) :=
  binA_shrN (n := 4) (by decide)

/-- The table lies at b3. -/
def TabAt (h : AH) (b3 : Nat) : Prop := ∀ i, i < 16 → rowK Tryz.prog 22 i (h.get b3) = some (.int .u32 ((tbl.getD i 0 : Nat) : Int))

theorem crc_round (E : Env) (β o m cp b3 j v x : Nat) (h : AH) (hj : j < m) (hv : v < 2 ^ 32) (hx : x < 256) (hr : rowK Tryz.prog 5 (o + j) (h.get β) = some (.int .u8 (x : Int))) (ht : TabAt h b3)
    (T : List Value) (hT : T.length = 44) (t3 : T.getD 3 undef = .pointer (some ⟨b3, 0, none⟩)) (t4 : T.getD 4 undef = .int .u32 (v : Int)) (t16 : T.getD 16 undef = .slice (some ⟨β, o, none⟩) m cp) (t17 : T.getD 17 undef = .int .i64 m) (t18 : T.getD 18 undef = .int .i64 j) (hm : m ≤ 1048576) :
    ∃ T', evalC Tryz.prog E none crcIB ⟨⟨T⟩, [], h⟩ = some (.normal, ⟨⟨T'⟩, [], h⟩) ∧ T'.length = 44 ∧ T'.getD 4 undef = .int .u32 ((byt v x : Nat) : Int) ∧ T'.getD 18 undef = .int .i64 ((j + 1 : Nat) : Int) ∧
      Agree [4, 8, 18, 19, 20, 21, 22, 23, 24, 25, 26, 27, 28, 29, 30, 31, 32, 33, 34, 35, 36, 37, 38, 39, 40] T' T := by
  have c1 : decide ((j : Int) < (m : Int)) = true := by simp; omega
  have i1 : 0 ≤ (j : Int) ∧ (j : Int) < (m : Int) := by omega
  have cv : IntKind.u32.wrap (x : Int) = (x : Int) := by simp only [IntKind.wrap, IntKind.signed, IntKind.bits]; simp; omega
  generalize hw1 : Nat.xor v x = w1
  have hw1l : w1 < 2 ^ 32 := hw1 ▸ Nat.xor_lt_two_pow hv (by omega)
  have x1 := fun ox oy => (xor_i hv (show x < 2 ^ 32 by omega) Tryz.prog 22 ox oy).trans (by rw [hw1])
  have k1 : 0 ≤ ((Nat.land w1 15 : Nat) : Int) ∧ ((Nat.land w1 15 : Nat) : Int) < ((16 : Nat) : Int) := by have := and15 w1; change Nat.land w1 15 < 16 at this; omega
  have r1 := ht (Nat.land w1 15) (and15 w1)
  have l1 := tbl_lt (Nat.land w1 15) (and15 w1)
  have s1 : Nat.shiftRight w1 4 < 2 ^ 32 := by show w1 >>> 4 < 2 ^ 32; rw [Nat.shiftRight_eq_div_pow]; omega
  generalize hw2 : Nat.xor (tbl.getD (Nat.land w1 15) 0) (Nat.shiftRight w1 4) = w2
  have hw2l : w2 < 2 ^ 32 := hw2 ▸ Nat.xor_lt_two_pow l1 s1
  have x2 := fun ox oy => (xor_i l1 s1 Tryz.prog 22 ox oy).trans (by rw [hw2])
  have k2 : 0 ≤ ((Nat.land w2 15 : Nat) : Int) ∧ ((Nat.land w2 15 : Nat) : Int) < ((16 : Nat) : Int) := by have := and15 w2; change Nat.land w2 15 < 16 at this; omega
  have r2 := ht (Nat.land w2 15) (and15 w2)
  have l2 := tbl_lt (Nat.land w2 15) (and15 w2)
  have s2 : Nat.shiftRight w2 4 < 2 ^ 32 := by show w2 >>> 4 < 2 ^ 32; rw [Nat.shiftRight_eq_div_pow]; omega
  have hb : Nat.xor (tbl.getD (Nat.land w2 15) 0) (Nat.shiftRight w2 4) = byt v x := by rw [← hw2, ← hw1]; rfl
  have x3 := fun ox oy => (xor_i l2 s2 Tryz.prog 22 ox oy).trans (by rw [hb])
  simp only [crcIB, crcI, loopB, blockAt, Tryz.f290, Option.getD_some, Nat.reduceEqDiff, if_true, if_false]
  simp (maxSteps := 1000000) (disch := omega) only [opA_convert, stepVal_guardT, yD_some, yK_bool, yK_undef, getD_set', List.length_set, Nat.reduceLT, evalC_drawT, drawL_eq, trace_cons, trace_nil, traceK_some, pad, evalC_seq, evalC_region, evalC_cond, evalC_ret, evalC_skip, evalC_label, evalC_exit, evalC_scope, evalC_block, evalC_draw, runOps_cons, runOps_nil, stepOp_eq, stepVal_plain, yieldedA_T, opA_assign, opA_move, opA_binOp, opA_pick, opA_call, opA_alloc, opA_box, opA_load, opA_store, opA_extract, opA_buildSlice, opA_indexAddr, opA_fieldAddr, aeval_int, aeval_bool, aeval_tmp, aeval_nilSlice, aeval_nilPointer, aeval_nilFunc, aeval_func, arK_val, arK_skip, arK_enter, arK_round, valK_some, valK_none, opsK_some, Option.map_some, Option.map_none, seqK_normal, seqK_ret, seqK_exit, blockK_normal, blockK_ret, blockK_exit, loopK_normal, loopK_ret, loopK_exit, List.getElem?_cons_zero, List.getElem?_cons_succ, Option.bind_some, reduceCtorEq, if_false, if_true, pickK_bool, condK_true, condK_false, endK_ret, endK_normal, resultsA_tmp, resultsA_nil, resVal, Option.some.injEq, Bool.true_eq_false, Bool.false_eq_true, List.map_cons, List.map_nil, binA_add, binA_sub, binA_mul, binA_lss, binA_leq, binA_gtr, binA_geq, binA_eql, binA_neq, callA_builtin, max_int, min_int, loadK_pointer, storeK_pointer, IntWalk.i64_in, IntWalk.i64_quo, binA_quo, binA_rem, Int.tmod_eq_emod_of_nonneg, loadA_rowK, get_empty, next_empty, AH.get_set, AH.get_push, AH.next_set, AH.next_push, resultsA_cell, resK_pointer, roundA_G, roundG_loop, asgK_normal, bodyK_loop, ended_some, endRK_normal, endRK_ret, endRK_exit, rangeK_E, rangeE_ready, rangeE_done, rangeH, setAll, shut_nil, shut_cons, shutK_defs, endK_shut, outK_some, AH.get_kill, AH.next_kill, evalRegion_G, drawG_ok, drawK_all, trace_cons, trace_nil, traceK_some, List.all_cons, List.all_nil, sameRead_K, sameK_plain, sameK_guard, wantK_some, veqK_val, veq_int, veq_bool, veq_pointer, veq_slice, veq_nilSlice, Bool.and_true, Bool.and_self, List.getLast?_cons_cons, List.getLast?_singleton, ixK_slice, oneOf_row, Nat.reduceLeDiff, and_self, and_true, true_and, Int.reduceToNat, Int.reduceNe, List.take_succ_cons, List.take_zero, List.take_nil, List.length_cons, List.length_nil, List.cons_append, List.nil_append, Int.reduceLE, Int.reduceLT, Int.reduceEq, Int.reduceNeg, Int.reduceAdd, Int.reduceSub, Int.reduceMul, Int.reduceDiv, Nat.reduceAdd, Nat.reduceEqDiff, decide_true, decide_false, hT, t3, t4, t16, t17, t18, c1, i1, indexAddrA_one one254, ixK_slice, Int.toNat_natCast, hr, convK_int u5 u22, cv, x1, x2, x3, and_i hw1l, and_i hw2l, shr_i, indexAddrA_arr arr449, k1, k2, r1, r2, Nat.zero_add]
  refine ⟨_, rfl, by simp only [getD_set', List.length_set, Nat.reduceEqDiff, Nat.reduceLT, if_true, if_false, hT], by simp only [getD_set', List.length_set, Nat.reduceEqDiff, Nat.reduceLT, if_true, if_false, hT], ?_, ?_⟩
  · simp only [getD_set', List.length_set, Nat.reduceEqDiff, Nat.reduceLT, if_true, if_false, hT]; rfl
  · ((repeat refine Agree.set _ (by rfl) ?_); exact Agree.refl _ _)

theorem crc_in (ov : Over) (β o m cp b3 : Nat) (xs : List Nat) (h : AH) (hl : xs.length = m) (hx : ∀ x ∈ xs, x < 256) (hr : ∀ (j x : Nat), xs[j]? = some x → rowK Tryz.prog 5 (o + j) (h.get β) = some (.int .u8 (x : Int))) (ht : TabAt h b3) (hm : m ≤ 1048576) :
    ∀ (r j v : Nat), j + r = m → v < 2 ^ 32 → ∀ (T : List Value), T.length = 44 → T.getD 3 undef = .pointer (some ⟨b3, 0, none⟩) → T.getD 4 undef = .int .u32 (v : Int) → T.getD 16 undef = .slice (some ⟨β, o, none⟩) m cp → T.getD 17 undef = .int .i64 m → T.getD 18 undef = .int .i64 j →
    ∃ T', evalC Tryz.prog (env Tryz.prog ov r) none crcI ⟨⟨T⟩, [], h⟩ = some (.exit 2, ⟨⟨T'⟩, [], h⟩) ∧ T'.length = 44 ∧ T'.getD 4 undef = .int .u32 (((xs.drop j).foldl byt v : Nat) : Int) ∧
      Agree [4, 8, 18, 19, 20, 21, 22, 23, 24, 25, 26, 27, 28, 29, 30, 31, 32, 33, 34, 35, 36, 37, 38, 39, 40] T' T
  | 0, j, v, hj, hv, T, hT, t3, t4, t16, t17, t18 => by
    obtain rfl : j = m := by omega
    have c1 : decide ((j : Int) < (j : Int)) = false := by simp
    simp only [crcI, blockAt, Tryz.f290, Option.getD_some, Nat.reduceEqDiff, if_true, if_false]
    rw [evalC_loop]
    simp (maxSteps := 1000000) (disch := omega) only [opA_convert, stepVal_guardT, yD_some, yK_bool, yK_undef, getD_set', List.length_set, Nat.reduceLT, evalC_drawT, drawL_eq, trace_cons, trace_nil, traceK_some, pad, evalC_seq, evalC_region, evalC_cond, evalC_ret, evalC_skip, evalC_label, evalC_exit, evalC_scope, evalC_block, evalC_draw, runOps_cons, runOps_nil, stepOp_eq, stepVal_plain, yieldedA_T, opA_assign, opA_move, opA_binOp, opA_pick, opA_call, opA_alloc, opA_box, opA_load, opA_store, opA_extract, opA_buildSlice, opA_indexAddr, opA_fieldAddr, aeval_int, aeval_bool, aeval_tmp, aeval_nilSlice, aeval_nilPointer, aeval_nilFunc, aeval_func, arK_val, arK_skip, arK_enter, arK_round, valK_some, valK_none, opsK_some, Option.map_some, Option.map_none, seqK_normal, seqK_ret, seqK_exit, blockK_normal, blockK_ret, blockK_exit, loopK_normal, loopK_ret, loopK_exit, List.getElem?_cons_zero, List.getElem?_cons_succ, Option.bind_some, reduceCtorEq, if_false, if_true, pickK_bool, condK_true, condK_false, endK_ret, endK_normal, resultsA_tmp, resultsA_nil, resVal, Option.some.injEq, Bool.true_eq_false, Bool.false_eq_true, List.map_cons, List.map_nil, binA_add, binA_sub, binA_mul, binA_lss, binA_leq, binA_gtr, binA_geq, binA_eql, binA_neq, callA_builtin, max_int, min_int, loadK_pointer, storeK_pointer, IntWalk.i64_in, IntWalk.i64_quo, binA_quo, binA_rem, Int.tmod_eq_emod_of_nonneg, loadA_rowK, get_empty, next_empty, AH.get_set, AH.get_push, AH.next_set, AH.next_push, resultsA_cell, resK_pointer, roundA_G, roundG_loop, asgK_normal, bodyK_loop, ended_some, endRK_normal, endRK_ret, endRK_exit, rangeK_E, rangeE_ready, rangeE_done, rangeH, setAll, shut_nil, shut_cons, shutK_defs, endK_shut, outK_some, AH.get_kill, AH.next_kill, evalRegion_G, drawG_ok, drawK_all, trace_cons, trace_nil, traceK_some, List.all_cons, List.all_nil, sameRead_K, sameK_plain, sameK_guard, wantK_some, veqK_val, veq_int, veq_bool, veq_pointer, veq_slice, veq_nilSlice, Bool.and_true, Bool.and_self, List.getLast?_cons_cons, List.getLast?_singleton, ixK_slice, oneOf_row, Nat.reduceLeDiff, and_self, and_true, true_and, Int.reduceToNat, Int.reduceNe, List.take_succ_cons, List.take_zero, List.take_nil, List.length_cons, List.length_nil, List.cons_append, List.nil_append, Int.reduceLE, Int.reduceLT, Int.reduceEq, Int.reduceNeg, Int.reduceAdd, Int.reduceSub, Int.reduceMul, Int.reduceDiv, Nat.reduceAdd, Nat.reduceEqDiff, decide_true, decide_false, hT, t17, t18, c1]
    refine ⟨_, rfl, by simp only [getD_set', List.length_set, Nat.reduceEqDiff, Nat.reduceLT, if_true, if_false, hT], ?_, ?_⟩
    · simp only [getD_set', List.length_set, Nat.reduceEqDiff, Nat.reduceLT, if_true, if_false, hT, t4]
      rw [List.drop_eq_nil_of_le (by omega)]; rfl
    · ((repeat refine Agree.set _ (by rfl) ?_); exact Agree.refl _ _)
  | r + 1, j, v, hj, hv, T, hT, t3, t4, t16, t17, t18 => by
    have hjl : j < xs.length := by omega
    have hxj : xs[j]? = some xs[j] := by simp [hjl]
    have hb := hx xs[j] (List.getElem_mem hjl)
    obtain ⟨T1, h1, h2, h3, h4, h5⟩ := crc_round (env Tryz.prog ov (r + 1)) β o m cp b3 j v xs[j] h (by omega) hv hb (hr j _ hxj) ht T hT t3 t4 t16 t17 t18 hm
    obtain ⟨T2, k1, k2, k3, k4⟩ := crc_in ov β o m cp b3 xs h hl hx hr ht hm r (j + 1) (byt v xs[j]) (by omega) (byt_lt hv hb) T1 h2 ((h5.getD 3 (by rfl) _).trans t3) h3 ((h5.getD 16 (by rfl) _).trans t16) ((h5.getD 17 (by rfl) _).trans t17) h4
    refine ⟨T2, ?_, k2, ?_, k4.trans h5⟩
    · rw [crcI_eq, evalC_loop, h1, loopK_normal, env_code, ← crcI_eq]; exact k1
    · rw [k3, List.drop_eq_getElem_cons hjl]; rfl
end Go.Proofs.Leaf
