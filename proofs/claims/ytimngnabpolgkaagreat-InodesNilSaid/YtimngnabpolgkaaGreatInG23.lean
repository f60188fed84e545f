/-
  The document's Block, as a whole.
-/
import Derived.Test.YtimngnabpolgkaaGreatInG22
namespace Go.Proofs.Leaf
set_option linter.unusedSimpArgs false
set_option linter.unusedVariables false
open Go.AE
set_option maxRecDepth 100000
set_option maxHeartbeats 4000000

theorem boolsOf_map : ∀ (vs : List Value) (l : List Bool), boolsOf vs = some l → vs = l.map .bool
  | [], l, h => by cases h; rfl
  | v :: r, l, h => by
    cases v with
    | bool b =>
      simp only [boolsOf, Option.map_eq_some_iff] at h
      obtain ⟨m, h1, rfl⟩ := h
      rw [boolsOf_map r m h1]; rfl
    | _ => cases h

noncomputable def bn (b : Bool) : Nat := Bool.rec 0 1 b
/-- Bits by eights as bytes. -/
noncomputable def pack8 : List Bool → List Value
  | b0 :: b1 :: b2 :: b3 :: b4 :: b5 :: b6 :: b7 :: r =>
    .int .u8 (.ofNat (Nat.add (bn b0) (Nat.mul 2 (Nat.add (bn b1) (Nat.mul 2 (Nat.add (bn b2) (Nat.mul 2 (Nat.add (bn b3) (Nat.mul 2 (Nat.add (bn b4) (Nat.mul 2 (Nat.add (bn b5) (Nat.mul 2 (Nat.add (bn b6) (Nat.mul 2 (bn b7))))))))))))))) ) :: pack8 r
  | _ => []

theorem b2i_bn (b : Bool) : b2i b = ((bn b : Nat) : Int) := by cases b <;> rfl
theorem pack8_eq : ∀ (n : Nat) (l : List Bool), l.length = 8 * n → pack8 l = (List.range n).map fun i => Value.int .u8 (byteOf (fun j => l.getD j false) i)
  | 0, l, h => by
    have : l = [] := List.eq_nil_of_length_eq_zero (by omega)
    subst this; rfl
  | n + 1, l, h => by
    match l, h with
    | b0 :: b1 :: b2 :: b3 :: b4 :: b5 :: b6 :: b7 :: r, h =>
      simp only [List.length_cons] at h
      rw [List.range_succ_eq_map, List.map_cons, List.map_map]
      simp only [pack8]
      congr 1
      · congr 1
        simp only [byteOf, bitsv, Nat.mul_zero, Nat.zero_add, List.getD_cons_zero, List.getD_cons_succ, b2i_bn]
        simp only [Int.ofNat_eq_natCast, Nat.add_eq, Nat.mul_eq]
        omega
      · rw [pack8_eq n r (by omega)]
        apply List.map_congr_left
        intro i _
        simp only [Function.comp, byteOf]
        congr 1

theorem rowA_map (c : Row) (d : Value) (g : Nat → Value) : ∀ (n off : Nat), (∀ j, j < n → (c.get (off + j)).getD d = g j) → rowA c d off n = (List.range n).map g := by
  intro n off h
  apply List.ext_getElem?
  intro j
  by_cases hj : j < n
  · rw [getElem?_rowA _ _ _ _ _ hj, h j hj]; simp [hj]
  · rw [List.getElem?_eq_none (by simp; omega), List.getElem?_eq_none (by simp; omega)]
theorem storeA_agg {P : Program} {t : TypeId} {vs : List Value} (hs : (P.info? t).map (·.size) = some vs.length) (hv : vs.all (·.oneCell') = true) (b off : Nat) {h : AH} {c : Row} {n e z : Nat} {op : Bool} {d : Value}
    (hg : h.get b = some (.cells c n e (0, 0) z op false d)) (hl : off + vs.length ≤ n) : storeA P t ⟨b, off, none⟩ (.agg ⟨vs⟩) h = some (h.set b (.cells (putB c n off vs) n e (0, 0) z op false d)) := by
  obtain ⟨i, hi, e1⟩ := Option.map_eq_some_iff.1 hs
  simp only [storeA, hi, e1, Value.cells, List.size_toArray, if_true, putCells, hg]
  refine if_pos ?_
  have h1 : decide (off + vs.length ≤ n) = true := decide_eq_true hl
  have h2 : decide (0 ≤ off) = true := decide_eq_true (Nat.zero_le _)
  simp only [Option.isNone_none, Bool.true_and, hv]
  exact (Bool.and_eq_true _ _).mpr ⟨h1, by rw [Bool.or_eq_true]; exact .inr h2⟩

noncomputable def zc45 : Row := ofRowB (((zeroA Tryz.prog 45).get (by kernel_rfl)).2.cells.toList)
theorem al45 (h : AH) : allocA Tryz.prog 45 h = some (.pointer (some ⟨h.next, 0, none⟩), h.push (blkObj zc45)) := by kernel_rfl

noncomputable def gBlock (args : Array Value) (h : AH) : Option (Value × AH) :=
  match args.toList with
  | [.slice (some ⟨β, o, none⟩) len _] =>
    match h.get β with
    | some (.cells c n _ _ _ _ _ d) =>
      if Nat.ble (β + 1) h.next && Nat.ble 2048 len && Nat.ble (o + 2048) n then
        match boolsOf (rowA c d o 2048) with
        | some l => some (.agg ⟨pack8 l⟩, h)
        | none => none
      else none
    | _ => none
  | _ => none

theorem blk_fn (ov : Over) (f : Nat → Bool) (β o len cp : Nat) (h : AH) (hβ : β < h.next) (hl : 2048 ≤ len) (hr : ∀ j, j < 2048 → rowK Tryz.prog 4 (o + j) (h.get β) = some (.bool (f j))) :
    ∃ r, callFn Tryz.prog (env Tryz.prog ov 276) 239 ⟨[.slice (some ⟨β, o, none⟩) len cp]⟩ h = some r ∧ r.1 = .agg ⟨(List.range 256).map fun i => .int .u8 (byteOf f i)⟩ ∧ ∀ γ, γ < h.next → r.2.get γ = h.get γ := by
  refine callFn_ex Tryz.func239 rfl _ _ (by show 1 ≤ 31; decide) fun T hT t => ?_
  have t0 : T.getD 0 undef = .slice (some ⟨β, o, none⟩) len cp := t 0
  have hT' : T.length = 31 := hT
  have key := blk_out ov f β o len cp h.next (h.next + 1) hl (by omega) 256 0 (by omega)
  simp only [blkO, loopsOf, Tryz.f239, Option.getD_some] at key ⊢
  simp (maxSteps := 1000000) (disch := omega) only [opA_convert, stepVal_guardT, yD_some, yK_bool, yK_undef, getD_set', List.length_set, Nat.reduceLT, evalC_drawT, drawL_eq, trace_cons, trace_nil, traceK_some, pad, evalC_seq, evalC_region, evalC_cond, evalC_ret, evalC_skip, evalC_label, evalC_exit, evalC_scope, evalC_block, evalC_draw, runOps_cons, runOps_nil, stepOp_eq, stepVal_plain, yieldedA_T, opA_assign, opA_move, opA_binOp, opA_pick, opA_call, opA_alloc, opA_box, opA_load, opA_store, opA_extract, opA_buildSlice, opA_indexAddr, opA_fieldAddr, aeval_int, aeval_bool, aeval_tmp, aeval_nilSlice, aeval_nilPointer, aeval_nilFunc, aeval_func, arK_val, arK_skip, arK_enter, arK_round, valK_some, valK_none, opsK_some, Option.map_some, Option.map_none, seqK_normal, seqK_ret, seqK_exit, blockK_normal, blockK_ret, blockK_exit, loopK_normal, loopK_ret, loopK_exit, List.getElem?_cons_zero, List.getElem?_cons_succ, Option.bind_some, reduceCtorEq, if_false, if_true, pickK_bool, condK_true, condK_false, endK_ret, endK_normal, resultsA_tmp, resultsA_nil, resVal, Option.some.injEq, Bool.true_eq_false, Bool.false_eq_true, List.map_cons, List.map_nil, binA_add, binA_sub, binA_mul, binA_lss, binA_leq, binA_gtr, binA_geq, binA_eql, binA_neq, callA_builtin, max_int, min_int, loadK_pointer, storeK_pointer, IntWalk.i64_in, IntWalk.i64_quo, binA_quo, binA_rem, Int.tmod_eq_emod_of_nonneg, loadA_rowK, get_empty, next_empty, AH.get_set, AH.get_push, AH.next_set, AH.next_push, resultsA_cell, resK_pointer, roundA_G, roundG_loop, asgK_normal, bodyK_loop, ended_some, endRK_normal, endRK_ret, endRK_exit, rangeK_E, rangeE_ready, rangeE_done, rangeH, setAll, shut_nil, shut_cons, shutK_defs, endK_shut, outK_some, AH.get_kill, AH.next_kill, evalRegion_G, drawG_ok, drawK_all, trace_cons, trace_nil, traceK_some, List.all_cons, List.all_nil, sameRead_K, sameK_plain, sameK_guard, wantK_some, veqK_val, veq_int, veq_bool, veq_pointer, veq_slice, veq_nilSlice, Bool.and_true, Bool.and_self, List.getLast?_cons_cons, List.getLast?_singleton, ixK_slice, oneOf_row, Nat.reduceLeDiff, and_self, and_true, true_and, Int.reduceToNat, Int.reduceNe, List.take_succ_cons, List.take_zero, List.take_nil, List.length_cons, List.length_nil, List.cons_append, List.nil_append, Int.reduceLE, Int.reduceLT, Int.reduceEq, Int.reduceNeg, Int.reduceAdd, Int.reduceSub, Int.reduceMul, Int.reduceDiv, Nat.reduceAdd, Nat.reduceEqDiff, decide_true, decide_false, hT', t0, al45]
  generalize hT0 : List.set _ 4 _ = T0
  have v : T0.length = 31 := by rw [← hT0]; simp only [getD_set', List.length_set, Nat.reduceEqDiff, Nat.reduceLT, if_true, if_false, hT']
  have v0 : T0.getD 0 undef = .slice (some ⟨β, o, none⟩) len cp := by rw [← hT0]; simp only [getD_set', List.length_set, Nat.reduceEqDiff, Nat.reduceLT, if_true, if_false, hT', t0]
  have v2 : T0.getD 2 undef = .pointer (some ⟨h.next, 0, none⟩) := by rw [← hT0]; simp only [getD_set', List.length_set, Nat.reduceEqDiff, Nat.reduceLT, if_true, if_false, hT']
  have v3 : T0.getD 3 undef = .pointer (some ⟨h.next + 1, 0, none⟩) := by rw [← hT0]; simp only [getD_set', List.length_set, Nat.reduceEqDiff, Nat.reduceLT, if_true, if_false, hT']
  have v4 : T0.getD 4 undef = .int .i64 ((0 : Nat) : Int) := by rw [← hT0]; simp only [getD_set', List.length_set, Nat.reduceEqDiff, Nat.reduceLT, if_true, if_false, hT']; rfl
  obtain ⟨T', h', c', k1, k2, k3, k4, k5, k6, k7, k8⟩ := key T0 ((h.push (blkObj zc45)).push (blkObj zc45)) zc45 (fun j hj => by rw [AH.get_push, if_neg (by simp; omega), AH.get_push, if_neg (by omega)]; exact hr j hj) v v0 v2 v3 v4 (by rw [AH.get_push, if_pos (by simp)])
  replace k1 := (show evalC Tryz.prog (env Tryz.prog ov 276) none _ _ = _ from k1)
  have hz : h'.get h.next = some (blkObj zc45) := by rw [k6 _ (by omega), AH.get_push, if_neg (by simp), AH.get_push, if_pos rfl]
  have hrow : rowA c' undef 0 256 = (List.range 256).map fun i => .int .u8 (byteOf f i) := rowA_map _ _ _ _ _ fun j hj => by rw [Nat.zero_add, k8 j hj, if_pos (Nat.zero_le _)]
  unfold blkObj at k5 hz
  have hst := storeA_agg (P := Tryz.prog) (t := 45) (vs := (List.range 256).map fun i => .int .u8 (byteOf f i)) sz45 (by rw [List.all_eq_true]; intro v hv; simp only [List.mem_map] at hv; obtain ⟨i, _, rfl⟩ := hv; rfl) h.next 0 hz (by simp)
  have hro := rowA_putB zc45 undef 256 0 ((List.range 256).map fun i => Value.int .u8 (byteOf f i)) (by simp)
  rw [show ((List.range 256).map fun i => Value.int .u8 (byteOf f i)).length = 256 by simp] at hro
  simp (maxSteps := 1000000) (disch := omega) only [opA_convert, stepVal_guardT, yD_some, yK_bool, yK_undef, getD_set', List.length_set, Nat.reduceLT, evalC_drawT, drawL_eq, trace_cons, trace_nil, traceK_some, pad, evalC_seq, evalC_region, evalC_cond, evalC_ret, evalC_skip, evalC_label, evalC_exit, evalC_scope, evalC_block, evalC_draw, runOps_cons, runOps_nil, stepOp_eq, stepVal_plain, yieldedA_T, opA_assign, opA_move, opA_binOp, opA_pick, opA_call, opA_alloc, opA_box, opA_load, opA_store, opA_extract, opA_buildSlice, opA_indexAddr, opA_fieldAddr, aeval_int, aeval_bool, aeval_tmp, aeval_nilSlice, aeval_nilPointer, aeval_nilFunc, aeval_func, arK_val, arK_skip, arK_enter, arK_round, valK_some, valK_none, opsK_some, Option.map_some, Option.map_none, seqK_normal, seqK_ret, seqK_exit, blockK_normal, blockK_ret, blockK_exit, loopK_normal, loopK_ret, loopK_exit, List.getElem?_cons_zero, List.getElem?_cons_succ, Option.bind_some, reduceCtorEq, if_false, if_true, pickK_bool, condK_true, condK_false, endK_ret, endK_normal, resultsA_tmp, resultsA_nil, resVal, Option.some.injEq, Bool.true_eq_false, Bool.false_eq_true, List.map_cons, List.map_nil, binA_add, binA_sub, binA_mul, binA_lss, binA_leq, binA_gtr, binA_geq, binA_eql, binA_neq, callA_builtin, max_int, min_int, loadK_pointer, storeK_pointer, IntWalk.i64_in, IntWalk.i64_quo, binA_quo, binA_rem, Int.tmod_eq_emod_of_nonneg, loadA_rowK, get_empty, next_empty, AH.get_set, AH.get_push, AH.next_set, AH.next_push, resultsA_cell, resK_pointer, roundA_G, roundG_loop, asgK_normal, bodyK_loop, ended_some, endRK_normal, endRK_ret, endRK_exit, rangeK_E, rangeE_ready, rangeE_done, rangeH, setAll, shut_nil, shut_cons, shutK_defs, endK_shut, outK_some, AH.get_kill, AH.next_kill, evalRegion_G, drawG_ok, drawK_all, trace_cons, trace_nil, traceK_some, List.all_cons, List.all_nil, sameRead_K, sameK_plain, sameK_guard, wantK_some, veqK_val, veq_int, veq_bool, veq_pointer, veq_slice, veq_nilSlice, Bool.and_true, Bool.and_self, List.getLast?_cons_cons, List.getLast?_singleton, ixK_slice, oneOf_row, Nat.reduceLeDiff, and_self, and_true, true_and, Int.reduceToNat, Int.reduceNe, List.take_succ_cons, List.take_zero, List.take_nil, List.length_cons, List.length_nil, List.cons_append, List.nil_append, Int.reduceLE, Int.reduceLT, Int.reduceEq, Int.reduceNeg, Int.reduceAdd, Int.reduceSub, Int.reduceMul, Int.reduceDiv, Nat.reduceAdd, Nat.reduceEqDiff, decide_true, decide_false, k1, k2, k3, k4, k5, rowK_agg ag45 sz45, hrow, hst, hro, Nat.zero_add, Nat.le_refl]
  refine ⟨_, rfl, rfl, fun γ hγ => ?_⟩
  simp only
  rw [AH.get_set, if_neg (by omega), k6 _ (by omega), AH.get_push, if_neg (by simp; omega), AH.get_push, if_neg (by omega)]

theorem sBlock : SumOk Tryz.prog 239 gBlock := by
  refine SumOk.litterV quiet mix (OverOk.none _) fun args h v h₁ hg => ?_
  unfold gBlock at hg
  split at hg
  case h_2 => cases hg
  rename_i β o len cp ha
  split at hg
  case h_2 => cases hg
  rename_i c n e fz z op ro d hget
  split at hg
  case isFalse => cases hg
  rename_i hc
  simp only [Bool.and_eq_true] at hc
  obtain ⟨⟨h1, h2⟩, h3⟩ := hc
  replace h1 := Nat.le_of_ble_eq_true h1
  replace h2 := Nat.le_of_ble_eq_true h2
  replace h3 := Nat.le_of_ble_eq_true h3
  split at hg
  case h_2 => cases hg
  rename_i l hl
  cases hg
  have hmap := boolsOf_map _ _ hl
  have hlen : l.length = 2048 := by
    have := congrArg List.length hmap
    simpa using this.symm
  obtain rfl : args = ⟨[.slice (some ⟨β, o, none⟩) len cp]⟩ := by apply Array.ext'; exact ha
  have hr : ∀ j, j < 2048 → rowK Tryz.prog 4 (o + j) (h.get β) = some (.bool (l.getD j false)) := by
    intro j hj
    rw [hget, rowK_cells ag4, if_pos (by omega)]
    have := congrArg (fun m : List Value => m[j]?) hmap
    rw [getElem?_rowA _ _ _ _ _ hj] at this
    rw [this]
    simp [show j < l.length by omega]
  obtain ⟨r, hcall, hr1, hr2⟩ := blk_fn (fun _ => none) (fun j => l.getD j false) β o len cp h (by omega) h2 hr
  obtain ⟨v, h₂⟩ := r
  simp only at hr1 hr2
  subst hr1
  rw [← pack8_eq 256 l (by omega)] at hcall
  refine ⟨rfl, fun N π => VV.aggP ?_, _, h₂, hcall, hr2⟩
  rw [pack8_eq 256 l (by omega), Array.all_eq_true]
  intro i hi
  simp only [List.getElem_toArray, List.getElem_map]
  rfl
end Go.Proofs.Leaf
