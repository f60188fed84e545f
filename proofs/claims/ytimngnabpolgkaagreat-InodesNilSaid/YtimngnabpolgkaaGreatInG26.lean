/-
  Sums (crc): all pieces; the function.
-/
import Derived.Test.YtimngnabpolgkaaGreatInG25
namespace Go.Proofs.Leaf
set_option linter.unusedSimpArgs false
set_option linter.unusedVariables false
open Go.AE
set_option maxRecDepth 100000
set_option maxHeartbeats 4000000

/-- A piece: the slice, its bytes. -/
def PieceOk (h : AH) (p : Value × List Nat) : Prop :=
  ∃ β o cp, p.1 = .slice (some ⟨β, o, none⟩) p.2.length cp ∧ (∀ x ∈ p.2, x < 256) ∧ (∀ (j x : Nat), p.2[j]? = some x → rowK Tryz.prog 5 (o + j) (h.get β) = some (.int .u8 (x : Int))) ∧ p.2.length ≤ 1048576

theorem fold_lt : ∀ (xs : List Nat) (v : Nat), v < 2 ^ 32 → (∀ x ∈ xs, x < 256) → xs.foldl byt v < 2 ^ 32
  | [], v, h, _ => h
  | x :: r, v, h, hx => by
    rw [List.foldl_cons]
    exact fold_lt r _ (byt_lt h (hx x (by simp))) fun y hy => hx y (by simp [hy])

noncomputable def piecesFold (v : Nat) (p : Value × List Nat) : Nat := p.2.foldl byt v

theorem crc_out (ov : Over) (M : Nat) (hM : 1048576 ≤ M) (B O n cp b3 : Nat) (ps : List (Value × List Nat)) (h : AH) (hn : ps.length = n) (ht : TabAt h b3) (hp : ∀ p ∈ ps, PieceOk h p) (hr : ∀ (i : Nat) p, ps[i]? = some p → rowK Tryz.prog 254 (O + i) (h.get B) = some p.1) (hnm : n ≤ 1048576) :
    ∀ (r j v : Nat), j + r = n → v < 2 ^ 32 → ∀ (T : List Value), T.length = 44 → T.getD 3 undef = .pointer (some ⟨b3, 0, none⟩) → T.getD 4 undef = .int .u32 (v : Int) → T.getD 10 undef = .slice (some ⟨B, O, none⟩) n cp → T.getD 11 undef = .int .i64 n → T.getD 12 undef = .int .i64 j →
    ∃ T', evalC Tryz.prog (env Tryz.prog ov (r + M)) none crcO ⟨⟨T⟩, [], h⟩ = some (.exit 0, ⟨⟨T'⟩, [], h⟩) ∧ T'.length = 44 ∧ T'.getD 4 undef = .int .u32 (((ps.drop j).foldl piecesFold v : Nat) : Int)
  | 0, j, v, hj, hv, T, hT, t3, t4, t10, t11, t12 => by
    obtain rfl : j = n := by omega
    have c1 : decide ((j : Int) < (j : Int)) = false := by simp
    simp only [crcO, blockAt, Tryz.f290, Option.getD_some, Nat.reduceEqDiff, if_true, if_false]
    rw [evalC_loop]
    simp (maxSteps := 1000000) (disch := omega) only [opA_convert, stepVal_guardT, yD_some, yK_bool, yK_undef, getD_set', List.length_set, Nat.reduceLT, evalC_drawT, drawL_eq, trace_cons, trace_nil, traceK_some, pad, evalC_seq, evalC_region, evalC_cond, evalC_ret, evalC_skip, evalC_label, evalC_exit, evalC_scope, evalC_block, evalC_draw, runOps_cons, runOps_nil, stepOp_eq, stepVal_plain, yieldedA_T, opA_assign, opA_move, opA_binOp, opA_pick, opA_call, opA_alloc, opA_box, opA_load, opA_store, opA_extract, opA_buildSlice, opA_indexAddr, opA_fieldAddr, aeval_int, aeval_bool, aeval_tmp, aeval_nilSlice, aeval_nilPointer, aeval_nilFunc, aeval_func, arK_val, arK_skip, arK_enter, arK_round, valK_some, valK_none, opsK_some, Option.map_some, Option.map_none, seqK_normal, seqK_ret, seqK_exit, blockK_normal, blockK_ret, blockK_exit, loopK_normal, loopK_ret, loopK_exit, List.getElem?_cons_zero, List.getElem?_cons_succ, Option.bind_some, reduceCtorEq, if_false, if_true, pickK_bool, condK_true, condK_false, endK_ret, endK_normal, resultsA_tmp, resultsA_nil, resVal, Option.some.injEq, Bool.true_eq_false, Bool.false_eq_true, List.map_cons, List.map_nil, binA_add, binA_sub, binA_mul, binA_lss, binA_leq, binA_gtr, binA_geq, binA_eql, binA_neq, callA_builtin, max_int, min_int, loadK_pointer, storeK_pointer, IntWalk.i64_in, IntWalk.i64_quo, binA_quo, binA_rem, Int.tmod_eq_emod_of_nonneg, loadA_rowK, get_empty, next_empty, AH.get_set, AH.get_push, AH.next_set, AH.next_push, resultsA_cell, resK_pointer, roundA_G, roundG_loop, asgK_normal, bodyK_loop, ended_some, endRK_normal, endRK_ret, endRK_exit, rangeK_E, rangeE_ready, rangeE_done, rangeH, setAll, shut_nil, shut_cons, shutK_defs, endK_shut, outK_some, AH.get_kill, AH.next_kill, evalRegion_G, drawG_ok, drawK_all, trace_cons, trace_nil, traceK_some, List.all_cons, List.all_nil, sameRead_K, sameK_plain, sameK_guard, wantK_some, veqK_val, veq_int, veq_bool, veq_pointer, veq_slice, veq_nilSlice, Bool.and_true, Bool.and_self, List.getLast?_cons_cons, List.getLast?_singleton, ixK_slice, oneOf_row, Nat.reduceLeDiff, and_self, and_true, true_and, Int.reduceToNat, Int.reduceNe, List.take_succ_cons, List.take_zero, List.take_nil, List.length_cons, List.length_nil, List.cons_append, List.nil_append, Int.reduceLE, Int.reduceLT, Int.reduceEq, Int.reduceNeg, Int.reduceAdd, Int.reduceSub, Int.reduceMul, Int.reduceDiv, Nat.reduceAdd, Nat.reduceEqDiff, decide_true, decide_false, hT, t11, t12, c1]
    refine ⟨_, rfl, by simp only [getD_set', List.length_set, Nat.reduceEqDiff, Nat.reduceLT, if_true, if_false, hT], ?_⟩
    simp only [getD_set', List.length_set, Nat.reduceEqDiff, Nat.reduceLT, if_true, if_false, hT, t4]
    rw [List.drop_eq_nil_of_le (by omega)]; rfl
  | r + 1, j, v, hj, hv, T, hT, t3, t4, t10, t11, t12 => by
    have hjl : j < ps.length := by omega
    have hpj : ps[j]? = some ps[j] := by simp [hjl]
    have hok := hp ps[j] (List.getElem_mem hjl)
    have hrow := hr j _ hpj
    generalize ps[j] = p at hpj hok hrow
    obtain ⟨pv, xs⟩ := p
    obtain ⟨β, o, cq, e1, hx, hb, hl⟩ := hok
    simp only at e1 hx hb hl hrow
    subst e1
    have c1 : decide ((j : Int) < (n : Int)) = true := by simp; omega
    have i1 : 0 ≤ (j : Int) ∧ (j : Int) < (n : Int) := by omega
    have key := crc_in ov β o xs.length cq b3 xs h rfl hx hb ht hl xs.length 0 v (by omega) hv
    have ih := crc_out ov M hM B O n cp b3 ps h hn ht hp hr hnm r (j + 1) (xs.foldl byt v) (by omega) (fold_lt xs v hv hx)
    simp only [crcO, crcI, blockAt, Tryz.f290, Option.getD_some, Nat.reduceEqDiff, if_true, if_false] at ih key ⊢
    rw [show r + 1 + M = r + M + 1 by omega, evalC_loop]
    simp (maxSteps := 1000000) (disch := omega) only [opA_convert, stepVal_guardT, yD_some, yK_bool, yK_undef, getD_set', List.length_set, Nat.reduceLT, evalC_drawT, drawL_eq, trace_cons, trace_nil, traceK_some, pad, evalC_seq, evalC_region, evalC_cond, evalC_ret, evalC_skip, evalC_label, evalC_exit, evalC_scope, evalC_block, evalC_draw, runOps_cons, runOps_nil, stepOp_eq, stepVal_plain, yieldedA_T, opA_assign, opA_move, opA_binOp, opA_pick, opA_call, opA_alloc, opA_box, opA_load, opA_store, opA_extract, opA_buildSlice, opA_indexAddr, opA_fieldAddr, aeval_int, aeval_bool, aeval_tmp, aeval_nilSlice, aeval_nilPointer, aeval_nilFunc, aeval_func, arK_val, arK_skip, arK_enter, arK_round, valK_some, valK_none, opsK_some, Option.map_some, Option.map_none, seqK_normal, seqK_ret, seqK_exit, blockK_normal, blockK_ret, blockK_exit, loopK_normal, loopK_ret, loopK_exit, List.getElem?_cons_zero, List.getElem?_cons_succ, Option.bind_some, reduceCtorEq, if_false, if_true, pickK_bool, condK_true, condK_false, endK_ret, endK_normal, resultsA_tmp, resultsA_nil, resVal, Option.some.injEq, Bool.true_eq_false, Bool.false_eq_true, List.map_cons, List.map_nil, binA_add, binA_sub, binA_mul, binA_lss, binA_leq, binA_gtr, binA_geq, binA_eql, binA_neq, callA_builtin, max_int, min_int, loadK_pointer, storeK_pointer, IntWalk.i64_in, IntWalk.i64_quo, binA_quo, binA_rem, Int.tmod_eq_emod_of_nonneg, loadA_rowK, get_empty, next_empty, AH.get_set, AH.get_push, AH.next_set, AH.next_push, resultsA_cell, resK_pointer, roundA_G, roundG_loop, asgK_normal, bodyK_loop, ended_some, endRK_normal, endRK_ret, endRK_exit, rangeK_E, rangeE_ready, rangeE_done, rangeH, setAll, shut_nil, shut_cons, shutK_defs, endK_shut, outK_some, AH.get_kill, AH.next_kill, evalRegion_G, drawG_ok, drawK_all, trace_cons, trace_nil, traceK_some, List.all_cons, List.all_nil, sameRead_K, sameK_plain, sameK_guard, wantK_some, veqK_val, veq_int, veq_bool, veq_pointer, veq_slice, veq_nilSlice, Bool.and_true, Bool.and_self, List.getLast?_cons_cons, List.getLast?_singleton, ixK_slice, oneOf_row, Nat.reduceLeDiff, and_self, and_true, true_and, Int.reduceToNat, Int.reduceNe, List.take_succ_cons, List.take_zero, List.take_nil, List.length_cons, List.length_nil, List.cons_append, List.nil_append, Int.reduceLE, Int.reduceLT, Int.reduceEq, Int.reduceNeg, Int.reduceAdd, Int.reduceSub, Int.reduceMul, Int.reduceDiv, Nat.reduceAdd, Nat.reduceEqDiff, decide_true, decide_false, hT, t10, t11, t12, c1, i1, indexAddrA_sl sl448, ixK_slice, Int.toNat_natCast, hrow, len_sl sl254]
    generalize hT0 : List.set _ 18 _ = T0
    have v0 : T0.length = 44 := by rw [← hT0]; simp only [getD_set', List.length_set, Nat.reduceEqDiff, Nat.reduceLT, if_true, if_false, hT]
    have v3 : T0.getD 3 undef = .pointer (some ⟨b3, 0, none⟩) := by rw [← hT0]; simp only [getD_set', List.length_set, Nat.reduceEqDiff, Nat.reduceLT, if_true, if_false, hT, t3]
    have v4 : T0.getD 4 undef = .int .u32 (v : Int) := by rw [← hT0]; simp only [getD_set', List.length_set, Nat.reduceEqDiff, Nat.reduceLT, if_true, if_false, hT, t4]
    have v10 : T0.getD 10 undef = .slice (some ⟨B, O, none⟩) n cp := by rw [← hT0]; simp only [getD_set', List.length_set, Nat.reduceEqDiff, Nat.reduceLT, if_true, if_false, hT, t10]
    have v11 : T0.getD 11 undef = .int .i64 n := by rw [← hT0]; simp only [getD_set', List.length_set, Nat.reduceEqDiff, Nat.reduceLT, if_true, if_false, hT, t11]
    have v12 : T0.getD 12 undef = .int .i64 j := by rw [← hT0]; simp only [getD_set', List.length_set, Nat.reduceEqDiff, Nat.reduceLT, if_true, if_false, hT, t12]
    have v16 : T0.getD 16 undef = .slice (some ⟨β, o, none⟩) xs.length cq := by rw [← hT0]; simp only [getD_set', List.length_set, Nat.reduceEqDiff, Nat.reduceLT, if_true, if_false, hT]
    have v17 : T0.getD 17 undef = .int .i64 xs.length := by rw [← hT0]; simp only [getD_set', List.length_set, Nat.reduceEqDiff, Nat.reduceLT, if_true, if_false, hT]
    have v18 : T0.getD 18 undef = .int .i64 ((0 : Nat) : Int) := by rw [← hT0]; simp only [getD_set', List.length_set, Nat.reduceEqDiff, Nat.reduceLT, if_true, if_false, hT]; rfl
    obtain ⟨T1, g1, g2, g3, g4⟩ := key T0 v0 v3 v4 v16 v17 v18
    replace g1 := evalC_up (show xs.length ≤ r + M + 1 by omega) g1
    replace g3 : T1.getD 4 undef = .int .u32 ((xs.foldl byt v : Nat) : Int) := g3
    have w3 := (g4.getD 3 (by rfl) undef).trans v3
    have w10 := (g4.getD 10 (by rfl) undef).trans v10
    have w11 := (g4.getD 11 (by rfl) undef).trans v11
    have w12 := (g4.getD 12 (by rfl) undef).trans v12
    simp (maxSteps := 1000000) (disch := omega) only [opA_convert, stepVal_guardT, yD_some, yK_bool, yK_undef, getD_set', List.length_set, Nat.reduceLT, evalC_drawT, drawL_eq, trace_cons, trace_nil, traceK_some, pad, evalC_seq, evalC_region, evalC_cond, evalC_ret, evalC_skip, evalC_label, evalC_exit, evalC_scope, evalC_block, evalC_draw, runOps_cons, runOps_nil, stepOp_eq, stepVal_plain, yieldedA_T, opA_assign, opA_move, opA_binOp, opA_pick, opA_call, opA_alloc, opA_box, opA_load, opA_store, opA_extract, opA_buildSlice, opA_indexAddr, opA_fieldAddr, aeval_int, aeval_bool, aeval_tmp, aeval_nilSlice, aeval_nilPointer, aeval_nilFunc, aeval_func, arK_val, arK_skip, arK_enter, arK_round, valK_some, valK_none, opsK_some, Option.map_some, Option.map_none, seqK_normal, seqK_ret, seqK_exit, blockK_normal, blockK_ret, blockK_exit, loopK_normal, loopK_ret, loopK_exit, List.getElem?_cons_zero, List.getElem?_cons_succ, Option.bind_some, reduceCtorEq, if_false, if_true, pickK_bool, condK_true, condK_false, endK_ret, endK_normal, resultsA_tmp, resultsA_nil, resVal, Option.some.injEq, Bool.true_eq_false, Bool.false_eq_true, List.map_cons, List.map_nil, binA_add, binA_sub, binA_mul, binA_lss, binA_leq, binA_gtr, binA_geq, binA_eql, binA_neq, callA_builtin, max_int, min_int, loadK_pointer, storeK_pointer, IntWalk.i64_in, IntWalk.i64_quo, binA_quo, binA_rem, Int.tmod_eq_emod_of_nonneg, loadA_rowK, get_empty, next_empty, AH.get_set, AH.get_push, AH.next_set, AH.next_push, resultsA_cell, resK_pointer, roundA_G, roundG_loop, asgK_normal, bodyK_loop, ended_some, endRK_normal, endRK_ret, endRK_exit, rangeK_E, rangeE_ready, rangeE_done, rangeH, setAll, shut_nil, shut_cons, shutK_defs, endK_shut, outK_some, AH.get_kill, AH.next_kill, evalRegion_G, drawG_ok, drawK_all, trace_cons, trace_nil, traceK_some, List.all_cons, List.all_nil, sameRead_K, sameK_plain, sameK_guard, wantK_some, veqK_val, veq_int, veq_bool, veq_pointer, veq_slice, veq_nilSlice, Bool.and_true, Bool.and_self, List.getLast?_cons_cons, List.getLast?_singleton, ixK_slice, oneOf_row, Nat.reduceLeDiff, and_self, and_true, true_and, Int.reduceToNat, Int.reduceNe, List.take_succ_cons, List.take_zero, List.take_nil, List.length_cons, List.length_nil, List.cons_append, List.nil_append, Int.reduceLE, Int.reduceLT, Int.reduceEq, Int.reduceNeg, Int.reduceAdd, Int.reduceSub, Int.reduceMul, Int.reduceDiv, Nat.reduceAdd, Nat.reduceEqDiff, decide_true, decide_false, g1, g2, w12, env_code]
    obtain ⟨T', k1, k2, k3⟩ := ih ((T1.set 41 (.int .i64 ((j : Int) + 1))).set 12 (.int .i64 ((j : Int) + 1))) (by simp only [getD_set', List.length_set, Nat.reduceEqDiff, Nat.reduceLT, if_true, if_false, g2]) (by simp only [getD_set', List.length_set, Nat.reduceEqDiff, Nat.reduceLT, if_true, if_false, w3]) (by simp only [getD_set', List.length_set, Nat.reduceEqDiff, Nat.reduceLT, if_true, if_false, g3]) (by simp only [getD_set', List.length_set, Nat.reduceEqDiff, Nat.reduceLT, if_true, if_false, w10]) (by simp only [getD_set', List.length_set, Nat.reduceEqDiff, Nat.reduceLT, if_true, if_false, w11]) (by simp only [getD_set', List.length_set, Nat.reduceEqDiff, Nat.reduceLT, if_true, if_false, g2]; rfl)
    refine ⟨T', k1, k2, ?_⟩
    rw [k3, List.drop_eq_getElem_cons hjl]
    have : ps[j] = (.slice (some ⟨β, o, none⟩) xs.length cq, xs) := by simpa [hjl] using hpj
    rw [this]; rfl

noncomputable def xorG (v : Value) (h : AH) : Option AR := if plain v then (plainOf Tryz.prog (Op.unary .xor v)).map fun v => .val v h else none
theorem opA_unOp_xor (h : AH) (e : Operand → Value) (d : Option Tmp) (t xt : TypeId) (pos : String) (after : Array Edge) (g : Option (Nat × Bool)) (x : Operand) :
    opA Tryz.prog e h ⟨d, .unOp .xor xt x, t, pos, after, g⟩ = xorG (e x) h := rfl
theorem xorG_int {m : Nat} (hm : m < 2 ^ 32) (h : AH) : xorG (.int .u32 (m : Int)) h = some (.val (.int .u32 ((Nat.xor 4294967295 m : Nat) : Int)) h) := by
  have h2 : plainOf Tryz.prog (Op.unary .xor (.int .u32 (m : Int))) = binA Tryz.prog .xor 0 (.tmp 0) (.tmp 0) (.int .u32 ((4294967295 : Nat) : Int)) (.int .u32 (m : Int)) := rfl
  have h3 : plain (.int .u32 (m : Int)) = true := rfl
  unfold xorG
  rw [if_pos h3, h2, xor_i (by decide) hm]
  rfl

noncomputable def zc449 : Row := ofRowB (((zeroA Tryz.prog 449).get (by kernel_rfl)).2.cells.toList)
noncomputable def tabObj (c : Row) : AObj := .cells c 16 449 (0, 0) 0 false false undef
theorem al449 (h : AH) : allocA Tryz.prog 449 h = some (.pointer (some ⟨h.next, 0, none⟩), h.push (tabObj zc449)) := by kernel_rfl
theorem sz449 : (Tryz.prog.info? 449).map (·.size) = some tblV.length := by kernel_rfl
theorem b330 : ((Tryz.prog.funcs[330]?).bind (·.body)).isSome = true := by kernel_rfl
theorem gTab_nil (h : AH) : gTab ⟨[]⟩ h = some (.agg ⟨tblV⟩, h) := rfl

theorem crc_fn (B O n cp : Nat) (ps : List (Value × List Nat)) (h : AH) (hn : ps.length = n) (hB : B < h.next) (hp : ∀ p ∈ ps, PieceOk h p ∧ ∃ β o k c, p.1 = .slice (some ⟨β, o, none⟩) k c ∧ β < h.next) (hr : ∀ (i : Nat) p, ps[i]? = some p → rowK Tryz.prog 254 (O + i) (h.get B) = some p.1) (hnm : n ≤ 1048576) :
    ∃ k r, callFn Tryz.prog (env Tryz.prog ovT k) 290 ⟨[.slice (some ⟨B, O, none⟩) n cp]⟩ h = some r ∧ r.1 = .int .u32 ((Nat.xor 4294967295 (ps.foldl piecesFold 4294967295) : Nat) : Int) ∧ ∀ γ, γ < h.next → r.2.get γ = h.get γ := by
  obtain ⟨M, hM⟩ : ∃ M, 1048576 ≤ M := ⟨_, Nat.le_refl _⟩
  refine ⟨n + M + 1, callFn_ex Tryz.func290 rfl _ _ (by show 1 ≤ 44; decide) fun T hT t => ?_⟩
  have t0 : T.getD 0 undef = .slice (some ⟨B, O, none⟩) n cp := t 0
  have hT' : T.length = 44 := hT
  obtain ⟨h1, he⟩ : ∃ h1, h1 = (h.push (tabObj zc449)).set h.next (tabObj (putB zc449 16 0 tblV)) := ⟨_, rfl⟩
  have old : ∀ γ, γ < h.next → h1.get γ = h.get γ := fun γ hγ => by rw [he, AH.get_set, if_neg (by omega), AH.get_push, if_neg (by omega)]
  have htab : TabAt h1 h.next := by
    intro i hi
    rw [he, AH.get_set, if_pos rfl]
    unfold tabObj
    rw [rowK_cells ag22, if_pos hi, get_putB _ _ _ _ _ hi, if_pos ⟨Nat.zero_le _, by rw [Nat.zero_add]; exact hi⟩]
    have : i = 0 ∨ i = 1 ∨ i = 2 ∨ i = 3 ∨ i = 4 ∨ i = 5 ∨ i = 6 ∨ i = 7 ∨ i = 8 ∨ i = 9 ∨ i = 10 ∨ i = 11 ∨ i = 12 ∨ i = 13 ∨ i = 14 ∨ i = 15 := by omega
    rcases this with rfl | rfl | rfl | rfl | rfl | rfl | rfl | rfl | rfl | rfl | rfl | rfl | rfl | rfl | rfl | rfl <;> rfl
  have key := crc_out ovT M hM B O n cp h.next ps h1 hn htab
    (fun p hpm => by
      obtain ⟨⟨β, o, cq, e1, e2, e3, e4⟩, β', o', k', c', e5, e6⟩ := hp p hpm
      rw [e1] at e5; cases e5
      exact ⟨β, o, cq, e1, e2, fun j x hj => by rw [old β e6]; exact e3 j x hj, e4⟩)
    (fun i p hi => by rw [old B hB]; exact hr i p hi) hnm n 0 4294967295 (by omega) (by decide)
  have hst := storeA_agg (P := Tryz.prog) (t := 449) (vs := tblV) (h := h.push (tabObj zc449)) (c := zc449) (n := 16) (e := 449) (z := 0) (op := false) (d := undef) sz449 (by rfl) h.next 0 (by rw [AH.get_push, if_pos rfl]; rfl) (by decide)
  change _ = some ((h.push (tabObj zc449)).set h.next (tabObj (putB zc449 16 0 tblV))) at hst
  rw [← he] at hst
  simp only [crcO, blockAt, Tryz.f290, Option.getD_some, Nat.reduceEqDiff, if_true, if_false] at key ⊢
  simp (maxSteps := 1000000) (disch := omega) only [opA_convert, stepVal_guardT, yD_some, yK_bool, yK_undef, getD_set', List.length_set, Nat.reduceLT, evalC_drawT, drawL_eq, trace_cons, trace_nil, traceK_some, pad, evalC_seq, evalC_region, evalC_cond, evalC_ret, evalC_skip, evalC_label, evalC_exit, evalC_scope, evalC_block, evalC_draw, runOps_cons, runOps_nil, stepOp_eq, stepVal_plain, yieldedA_T, opA_assign, opA_move, opA_binOp, opA_pick, opA_call, opA_alloc, opA_box, opA_load, opA_store, opA_extract, opA_buildSlice, opA_indexAddr, opA_fieldAddr, aeval_int, aeval_bool, aeval_tmp, aeval_nilSlice, aeval_nilPointer, aeval_nilFunc, aeval_func, arK_val, arK_skip, arK_enter, arK_round, valK_some, valK_none, opsK_some, Option.map_some, Option.map_none, seqK_normal, seqK_ret, seqK_exit, blockK_normal, blockK_ret, blockK_exit, loopK_normal, loopK_ret, loopK_exit, List.getElem?_cons_zero, List.getElem?_cons_succ, Option.bind_some, reduceCtorEq, if_false, if_true, pickK_bool, condK_true, condK_false, endK_ret, endK_normal, resultsA_tmp, resultsA_nil, resVal, Option.some.injEq, Bool.true_eq_false, Bool.false_eq_true, List.map_cons, List.map_nil, binA_add, binA_sub, binA_mul, binA_lss, binA_leq, binA_gtr, binA_geq, binA_eql, binA_neq, callA_builtin, max_int, min_int, loadK_pointer, storeK_pointer, IntWalk.i64_in, IntWalk.i64_quo, binA_quo, binA_rem, Int.tmod_eq_emod_of_nonneg, loadA_rowK, get_empty, next_empty, AH.get_set, AH.get_push, AH.next_set, AH.next_push, resultsA_cell, resK_pointer, roundA_G, roundG_loop, asgK_normal, bodyK_loop, ended_some, endRK_normal, endRK_ret, endRK_exit, rangeK_E, rangeE_ready, rangeE_done, rangeH, setAll, shut_nil, shut_cons, shutK_defs, endK_shut, outK_some, AH.get_kill, AH.next_kill, evalRegion_G, drawG_ok, drawK_all, trace_cons, trace_nil, traceK_some, List.all_cons, List.all_nil, sameRead_K, sameK_plain, sameK_guard, wantK_some, veqK_val, veq_int, veq_bool, veq_pointer, veq_slice, veq_nilSlice, Bool.and_true, Bool.and_self, List.getLast?_cons_cons, List.getLast?_singleton, ixK_slice, oneOf_row, Nat.reduceLeDiff, and_self, and_true, true_and, Int.reduceToNat, Int.reduceNe, List.take_succ_cons, List.take_zero, List.take_nil, List.length_cons, List.length_nil, List.cons_append, List.nil_append, Int.reduceLE, Int.reduceLT, Int.reduceEq, Int.reduceNeg, Int.reduceAdd, Int.reduceSub, Int.reduceMul, Int.reduceDiv, Nat.reduceAdd, Nat.reduceEqDiff, decide_true, decide_false, hT', t0, callA_func _ _ _ _ _ _ b330, env_call_ov ovT_tab, gTab_nil, al449, hst, len_sl sl448]
  generalize hT0 : List.set _ 12 _ = T0
  obtain ⟨T', k1, k2, k3⟩ := key T0 (by rw [← hT0]; simp only [getD_set', List.length_set, Nat.reduceEqDiff, Nat.reduceLT, if_true, if_false, hT']) (by rw [← hT0]; simp only [getD_set', List.length_set, Nat.reduceEqDiff, Nat.reduceLT, if_true, if_false, hT']) (by rw [← hT0]; simp only [getD_set', List.length_set, Nat.reduceEqDiff, Nat.reduceLT, if_true, if_false, hT']; rfl) (by rw [← hT0]; simp only [getD_set', List.length_set, Nat.reduceEqDiff, Nat.reduceLT, if_true, if_false, hT']) (by rw [← hT0]; simp only [getD_set', List.length_set, Nat.reduceEqDiff, Nat.reduceLT, if_true, if_false, hT']) (by rw [← hT0]; simp only [getD_set', List.length_set, Nat.reduceEqDiff, Nat.reduceLT, if_true, if_false, hT']; rfl)
  replace k1 := evalC_up (show n + M ≤ n + M + 1 by omega) k1
  rw [List.drop_zero] at k3
  have hlt : ps.foldl piecesFold 4294967295 < 2 ^ 32 := by
    have : ∀ (l : List (Value × List Nat)) (v : Nat), v < 2 ^ 32 → (∀ p ∈ l, ∀ x ∈ p.2, x < 256) → l.foldl piecesFold v < 2 ^ 32 := by
      intro l
      induction l with
      | nil => intro v hv _; exact hv
      | cons p r ih => intro v hv hl; exact ih _ (fold_lt _ _ hv (hl p (by simp))) fun q hq => hl q (by simp [hq])
    exact this ps _ (by decide) fun p hpm => by obtain ⟨⟨β, o, cq, e1, e2, _⟩, _⟩ := hp p hpm; exact e2
  simp (maxSteps := 1000000) (disch := omega) only [opA_convert, stepVal_guardT, yD_some, yK_bool, yK_undef, getD_set', List.length_set, Nat.reduceLT, evalC_drawT, drawL_eq, trace_cons, trace_nil, traceK_some, pad, evalC_seq, evalC_region, evalC_cond, evalC_ret, evalC_skip, evalC_label, evalC_exit, evalC_scope, evalC_block, evalC_draw, runOps_cons, runOps_nil, stepOp_eq, stepVal_plain, yieldedA_T, opA_assign, opA_move, opA_binOp, opA_pick, opA_call, opA_alloc, opA_box, opA_load, opA_store, opA_extract, opA_buildSlice, opA_indexAddr, opA_fieldAddr, aeval_int, aeval_bool, aeval_tmp, aeval_nilSlice, aeval_nilPointer, aeval_nilFunc, aeval_func, arK_val, arK_skip, arK_enter, arK_round, valK_some, valK_none, opsK_some, Option.map_some, Option.map_none, seqK_normal, seqK_ret, seqK_exit, blockK_normal, blockK_ret, blockK_exit, loopK_normal, loopK_ret, loopK_exit, List.getElem?_cons_zero, List.getElem?_cons_succ, Option.bind_some, reduceCtorEq, if_false, if_true, pickK_bool, condK_true, condK_false, endK_ret, endK_normal, resultsA_tmp, resultsA_nil, resVal, Option.some.injEq, Bool.true_eq_false, Bool.false_eq_true, List.map_cons, List.map_nil, binA_add, binA_sub, binA_mul, binA_lss, binA_leq, binA_gtr, binA_geq, binA_eql, binA_neq, callA_builtin, max_int, min_int, loadK_pointer, storeK_pointer, IntWalk.i64_in, IntWalk.i64_quo, binA_quo, binA_rem, Int.tmod_eq_emod_of_nonneg, loadA_rowK, get_empty, next_empty, AH.get_set, AH.get_push, AH.next_set, AH.next_push, resultsA_cell, resK_pointer, roundA_G, roundG_loop, asgK_normal, bodyK_loop, ended_some, endRK_normal, endRK_ret, endRK_exit, rangeK_E, rangeE_ready, rangeE_done, rangeH, setAll, shut_nil, shut_cons, shutK_defs, endK_shut, outK_some, AH.get_kill, AH.next_kill, evalRegion_G, drawG_ok, drawK_all, trace_cons, trace_nil, traceK_some, List.all_cons, List.all_nil, sameRead_K, sameK_plain, sameK_guard, wantK_some, veqK_val, veq_int, veq_bool, veq_pointer, veq_slice, veq_nilSlice, Bool.and_true, Bool.and_self, List.getLast?_cons_cons, List.getLast?_singleton, ixK_slice, oneOf_row, Nat.reduceLeDiff, and_self, and_true, true_and, Int.reduceToNat, Int.reduceNe, List.take_succ_cons, List.take_zero, List.take_nil, List.length_cons, List.length_nil, List.cons_append, List.nil_append, Int.reduceLE, Int.reduceLT, Int.reduceEq, Int.reduceNeg, Int.reduceAdd, Int.reduceSub, Int.reduceMul, Int.reduceDiv, Nat.reduceAdd, Nat.reduceEqDiff, decide_true, decide_false, k1, k2, k3, opA_unOp_xor, xorG_int hlt]
  exact ⟨_, rfl, rfl, old⟩

/-! ### As it is met elsewhere -/
/-- The fold, each number made whole in its turn. -/
noncomputable def crcGo (l : List Nat) : Nat → Nat := List.rec (motive := fun _ => Nat → Nat) (fun v => v) (fun x _ ih v => forceN (Nat.xor v x) fun a => forceN (stp a) fun b => forceN (stp b) ih) l
theorem crcGo_eq : ∀ (l : List Nat) (v : Nat), crcGo l v = l.foldl byt v
  | [], v => rfl
  | x :: r, v => by
    show forceN (Nat.xor v x) (fun a => forceN (stp a) fun b => forceN (stp b) (crcGo r)) = _
    rw [forceN_eq, forceN_eq, forceN_eq, crcGo_eq r]; rfl

noncomputable def bytesOf : List Value → Option (List Nat)
  | [] => some []
  | .int .u8 (.ofNat n) :: r => Bool.rec (motive := fun _ => Option (List Nat)) none ((bytesOf r).map (n :: ·)) (Nat.ble n 255)
  | _ :: _ => none
theorem bytesOf_spec : ∀ (vs : List Value) (l : List Nat), bytesOf vs = some l → vs = l.map (fun n => .int .u8 (n : Int)) ∧ ∀ x ∈ l, x < 256
  | [], l, h => by cases h; exact ⟨rfl, by simp⟩
  | v :: r, l, h => by
    unfold bytesOf at h
    split at h
    · cases h; exact ⟨by simp_all, by simp⟩
    · rename_i n r' he
      cases he
      rw [PT.brec] at h
      split at h
      · rename_i hb
        obtain ⟨m, h1, rfl⟩ := Option.map_eq_some_iff.1 h
        obtain ⟨h2, h3⟩ := bytesOf_spec r m h1
        have := Nat.le_of_ble_eq_true hb
        refine ⟨by rw [h2]; rfl, fun x hx => ?_⟩
        simp only [List.mem_cons] at hx
        rcases hx with rfl | hx
        · omega
        · exact h3 x hx
      · cases h
    · cases h

/-- The bytes of a slice. -/
noncomputable def pieceOf (h : AH) (v : Value) : Option (List Nat) :=
  match v with
  | .slice (some ⟨β, o, none⟩) n _ =>
    match h.get β with
    | some (.cells c N _ _ _ _ _ d) => Bool.rec (motive := fun _ => Option (List Nat)) none (bytesOf (rowA c d o n)) (Nat.ble (o + n) N && Nat.ble (β + 1) h.next && Nat.ble n 1048576)
    | _ => none
  | _ => none
theorem pieceOf_spec {h : AH} {v : Value} {xs : List Nat} (hp : pieceOf h v = some xs) : PieceOk h (v, xs) ∧ ∃ β o k c, v = .slice (some ⟨β, o, none⟩) k c ∧ β < h.next := by
  unfold pieceOf at hp
  split at hp
  case h_2 => cases hp
  rename_i β o n cp
  split at hp
  case h_2 => cases hp
  rename_i c N e fz z op ro d hg
  rw [PT.brec] at hp
  split at hp
  case isFalse => cases hp
  rename_i hc
  simp only [Bool.and_eq_true] at hc
  obtain ⟨⟨h1, h2⟩, h3⟩ := hc
  replace h1 := Nat.le_of_ble_eq_true h1
  replace h2 := Nat.le_of_ble_eq_true h2
  replace h3 := Nat.le_of_ble_eq_true h3
  obtain ⟨e1, e2⟩ := bytesOf_spec _ _ hp
  have hl : xs.length = n := by have := congrArg List.length e1; simpa using this.symm
  subst hl
  refine ⟨⟨β, o, cp, rfl, e2, fun j x hj => ?_, h3⟩, β, o, _, cp, rfl, h2⟩
  have hjl : j < xs.length := by
    obtain ⟨a, _⟩ := List.getElem?_eq_some_iff.1 hj
    exact a
  rw [hg, rowK_cells ag5, if_pos (by omega)]
  have := congrArg (fun m : List Value => m[j]?) e1
  rw [getElem?_rowA _ _ _ _ _ hjl] at this
  rw [this]
  simp [hj]

noncomputable def piecesOf (h : AH) : List Value → Option (List (Value × List Nat))
  | [] => some []
  | v :: r => match pieceOf h v with
    | some xs => (piecesOf h r).map ((v, xs) :: ·)
    | none => none
theorem piecesOf_spec {h : AH} : ∀ (vs : List Value) (ps : List (Value × List Nat)), piecesOf h vs = some ps → ps.map (·.1) = vs ∧ ∀ p ∈ ps, PieceOk h p ∧ ∃ β o k c, p.1 = .slice (some ⟨β, o, none⟩) k c ∧ β < h.next
  | [], ps, hp => by cases hp; exact ⟨rfl, by simp⟩
  | v :: r, ps, hp => by
    simp only [piecesOf] at hp
    split at hp
    · rename_i xs hx
      obtain ⟨m, h1, rfl⟩ := Option.map_eq_some_iff.1 hp
      obtain ⟨h2, h3⟩ := piecesOf_spec r m h1
      refine ⟨by simp [h2], fun p hpm => ?_⟩
      simp only [List.mem_cons] at hpm
      rcases hpm with rfl | hpm
      · exact pieceOf_spec hx
      · exact h3 p hpm
    · cases hp

noncomputable def crcAll (ps : List (Value × List Nat)) : Nat → Nat := List.rec (motive := fun _ => Nat → Nat) (fun v => v) (fun p _ ih v => forceN (crcGo p.2 v) ih) ps
theorem crcAll_eq : ∀ (l : List (Value × List Nat)) (v : Nat), crcAll l v = l.foldl piecesFold v
  | [], v => rfl
  | p :: r, v => by
    show forceN (crcGo p.2 v) (crcAll r) = _
    rw [forceN_eq, crcAll_eq r, crcGo_eq]; rfl

noncomputable def gCrc (args : Array Value) (h : AH) : Option (Value × AH) :=
  match args.toList with
  | [.slice (some ⟨B, O, none⟩) n _] =>
    match h.get B with
    | some (.cells c N _ _ _ _ _ d) => Bool.rec (motive := fun _ => Option (Value × AH)) none
      (match piecesOf h (rowA c d O n) with
        | some ps => forceN (Nat.xor 4294967295 (crcAll ps 4294967295)) fun r => some (.int .u32 (.ofNat r), h)
        | none => none) (Nat.ble (O + n) N && Nat.ble (B + 1) h.next && Nat.ble n 1048576)
    | _ => none
  | _ => none

theorem sCrc : SumOk Tryz.prog 290 gCrc := by
  refine SumOk.litterV quiet mix ovT_ok fun args h v h₁ hg => ?_
  unfold gCrc at hg
  split at hg
  case h_2 => cases hg
  rename_i B O n cp ha
  split at hg
  case h_2 => cases hg
  rename_i c N e fz z op ro d hgB
  rw [PT.brec] at hg
  split at hg
  case isFalse => cases hg
  rename_i hc
  simp only [Bool.and_eq_true] at hc
  obtain ⟨⟨h1, h2⟩, h3⟩ := hc
  replace h1 := Nat.le_of_ble_eq_true h1
  replace h2 := Nat.le_of_ble_eq_true h2
  replace h3 := Nat.le_of_ble_eq_true h3
  split at hg
  case h_2 => cases hg
  rename_i ps hps
  rw [forceN_eq, crcAll_eq] at hg
  cases hg
  obtain ⟨e1, e2⟩ := piecesOf_spec _ _ hps
  have hl : ps.length = n := by have := congrArg List.length e1; simpa using this
  obtain rfl : args = ⟨[.slice (some ⟨B, O, none⟩) n cp]⟩ := by apply Array.ext'; exact ha
  obtain ⟨k, r, hcall, hr1, hr2⟩ := crc_fn B O n cp ps h hl h2 e2 (fun i p hi => by
    have hil : i < ps.length := by obtain ⟨a, _⟩ := List.getElem?_eq_some_iff.1 hi; exact a
    rw [hgB, rowK_cells ag254, if_pos (by omega)]
    have := congrArg (fun m : List Value => m[i]?) e1
    rw [getElem?_rowA _ _ _ _ _ (by omega)] at this
    rw [← this]
    simp [hi]) h3
  obtain ⟨v, h₂⟩ := r
  simp only at hr1 hr2
  subst hr1
  exact ⟨rfl, fun N π => VV.plain1 rfl, k, h₂, hcall, hr2⟩
end Go.Proofs.Leaf
