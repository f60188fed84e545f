/-
  Ring: the law of the room, call by call.
-/
import Derived.Test.YtlabmlaenkdikaaRingR4
namespace Go.Proofs.Ring
set_option linter.unusedSimpArgs false
set_option linter.unusedVariables false
open Go.AE
set_option maxRecDepth 100000
set_option maxHeartbeats 2000000

/-- A slice of ints in a block that is no ring reads so. -/
def Rn (l : List Int) (a : Option Addr) (b : Nat) (h : AH) : Prop :=
  l ≠ [] → ∃ β o, a = some ⟨β, o, none⟩ ∧ β < h.next ∧ β ≠ b ∧ ∀ (i : Nat) x, l[i]? = some x → rowK Try.prog 3 (o + i) (h.get β) = some (.int .i64 x)
theorem Rn.keep {l : List Int} {a : Option Addr} {b : Nat} {h h' : AH} (hr : Rn l a b h) (hn : h.next ≤ h'.next) (hg : ∀ γ, γ < h.next → γ ≠ b → h'.get γ = h.get γ) : Rn l a b h' := fun hl => by
  obtain ⟨β, o, e, h1, h2, h3⟩ := hr hl
  exact ⟨β, o, e, Nat.lt_of_lt_of_le h1 hn, h2, fun i x hi => by rw [hg β h1 h2]; exact h3 i x hi⟩
def fine (l : List Int) : Prop := ∀ x ∈ l, -9223372036854775808 ≤ x ∧ x ≤ 9223372036854775807
noncomputable def l7 : Code := (loopsOf (Try.f7.body.getD .skip)).getD .skip
theorem ok_take {s t u x : Int} (hk : Ok s t u) (h1 : 1 ≤ x) (h2 : x ≤ s - u) : Ok s t (u + x) := by unfold Ok at hk ⊢; omega
theorem ok_give {s t u x : Int} (hk : Ok s t u) (h1 : 0 ≤ x) (h2 : x ≤ u) : Ok s ((t + x) % s) (u - x) := by
  unfold Ok at hk ⊢
  have hs : s ≠ 0 := by omega
  have := Int.emod_nonneg (t + x) hs
  have := Int.emod_lt_of_pos (t + x) (show 0 < s by omega)
  omega
theorem step7_t (l : List Int) (hf : fine l) (a : Option Addr) (ca : Nat) (b : Nat) (s : Int) (C : Code) (r k : Nat) (hC : C = l7)
    (ih : ∀ (T : List Value) (h : AH) (t u : Int), T.length = 105 → T.getD 0 undef = .int .i64 (s + 1) → T.getD 1 undef = .slice a l.length ca → T.getD 5 undef = .pointer (some ⟨b, 0, none⟩) → T.getD 7 undef = .int .i64 u → T.getD 8 undef = .int .i64 ((k : Int) + 1) →
      Rn l a b h → h.get b = some (ringObj s t u) → Ok s t u → b < h.next → ∃ T' h', evalC Try.prog (env Try.prog ov0 (r + 400)) none (.loop C) ⟨⟨T⟩, [], h⟩ = some (.exit 0, ⟨⟨T'⟩, [], h'⟩) ∧ T'.length = 105)
    (hkl : k < l.length) (x : Int) (hx : l[k]? = some x) (T : List Value) (h : AH) (t u : Int) (hT : T.length = 105) (t0 : T.getD 0 undef = .int .i64 (s + 1)) (t1 : T.getD 1 undef = .slice a l.length ca) (t5 : T.getD 5 undef = .pointer (some ⟨b, 0, none⟩)) (t7 : T.getD 7 undef = .int .i64 u) (t8 : T.getD 8 undef = .int .i64 k)
    (hR : Rn l a b h) (hb : h.get b = some (ringObj s t u)) (hk : Ok s t u) (hlb : b < h.next) (hl2 : l.length ≤ 1000) (x1 : 1 ≤ x) (x2 : x ≤ s - u) :
    ∃ T' h', evalC Try.prog (env Try.prog ov0 (r + 1 + 400)) none (.loop C) ⟨⟨T⟩, [], h⟩ = some (.exit 0, ⟨⟨T'⟩, [], h'⟩) ∧ T'.length = 105 := by
  subst hC
  simp only [l7, loopsOf, Try.f7, Option.getD_some] at ih ⊢
  have hk' := hk
  unfold Ok at hk'
  obtain ⟨β, o, rfl, hβ, hβb, hra⟩ := hR (by intro e; rw [e] at hkl; simp at hkl)
  have r1 := hra k _ hx
  have hxb := hf x (List.mem_of_getElem? hx)
  have c1 : decide ((k : Int) < (l.length : Int)) = true := by simp; omega
  have i1 : 0 ≤ (k : Int) ∧ (k : Int) < (l.length : Int) := by omega
  have es : s + 1 - 1 = s := by omega
  have R0 := @reg25 b s
  simp only [regionOf, regionAt, Try.f7, Option.getD_some, Nat.reduceEqDiff, if_true, if_false] at R0
  generalize hB : Code.region 25 _ _ = B at ih R0 ⊢
  obtain ⟨⟨rv, rh⟩, ge, gn, gg, ⟨q0, q1, q2, q3, q4⟩ | ⟨q0, _⟩⟩ := e11 (m := x) hb hk hxb hlb ov0 (o0 _) (o0 _) (o0 _) (o0 _) (r + 400) (by omega)
  rotate_left
  · exact absurd (show tak s u x = 0 by unfold tak; rw [if_neg (by omega), if_neg (by omega)]) q0
  simp only at gn gg q1 q2 q3 q4
  subst q1
  have r2 : rowK Try.prog 3 (o + k) (rh.get β) = some (.int .i64 x) := by rw [gg β hβ hβb]; exact r1
  have d1 : decide (0 < x) = true := by simp; omega
  have d2 : decide (s - u < x) = false := by simp; omega
  rw [evalC_loop]
  simp (maxSteps := 1000000) (disch := omega) only [stepVal_guardT, yD_some, yK_bool, yK_undef, getD_set', List.length_set, Nat.reduceLT, evalC_drawT, drawL_eq, trace_cons, trace_nil, traceK_some, pad, evalC_seq, evalC_region, evalC_cond, evalC_ret, evalC_skip, evalC_label, evalC_exit, evalC_scope, evalC_block, evalC_draw, runOps_cons, runOps_nil, stepOp_eq, stepVal_plain, yieldedA_lit, opA_assign, opA_move, opA_binOp, opA_pick, opA_call, opA_alloc, opA_box, opA_load, opA_store, opA_extract, opA_buildSlice, opA_indexAddr, opA_fieldAddr, aeval_int, aeval_bool, aeval_tmp, aeval_nilSlice, aeval_nilPointer, aeval_nilFunc, aeval_func, arK_val, arK_skip, arK_enter, arK_round, valK_some, valK_none, opsK_some, Option.map_some, Option.map_none, seqK_normal, seqK_ret, seqK_exit, blockK_normal, blockK_ret, blockK_exit, loopK_normal, loopK_ret, loopK_exit, List.getElem?_cons_zero, List.getElem?_cons_succ, Option.bind_some, reduceCtorEq, if_false, if_true, pickK_bool, condK_true, condK_false, endK_ret, endK_normal, resultsA_tmp, resultsA_nil, resVal, Option.some.injEq, Bool.true_eq_false, Bool.false_eq_true, List.map_cons, List.map_nil, binA_add, binA_sub, binA_mul, binA_lss, binA_leq, binA_gtr, binA_geq, binA_eql, binA_neq, callA_builtin, max_int, min_int, loadK_pointer, storeK_pointer, IntWalk.i64_in, IntWalk.i64_quo, binA_quo, binA_rem, Int.tmod_eq_emod_of_nonneg, loadA_rowK, storeA_int hsz3, putK_cell, rowK_cell ag3, rowK_row ag3, boxA_cell, al3, get_empty, next_empty, AH.get_set, AH.get_push, AH.next_set, AH.next_push, resultsA_cell, resK_pointer, roundA_G, roundG_loop, asgK_normal, bodyK_loop, ended_some, endRK_normal, endRK_ret, endRK_exit, rangeK_E, rangeE_ready, rangeE_done, rangeH, setAll, shut_nil, shut_cons, shutK_defs, endK_shut, outK_some, AH.get_kill, AH.next_kill, evalRegion_G, drawG_ok, drawK_all, trace_cons, trace_nil, traceK_some, List.all_cons, List.all_nil, sameRead_K, sameK_plain, sameK_guard, wantK_some, veqK_val, veq_int, veq_bool, veq_pointer, veq_slice, veq_nilSlice, Bool.and_true, Bool.and_self, List.getLast?_cons_cons, List.getLast?_singleton, len_slice one22, indexAddrA_one one22, ixK_slice, append_one one22, apK_nil, apK_some, apB_row, oneOf_row, bs22, Nat.reduceLeDiff, and_self, and_true, true_and, Int.reduceToNat, Int.reduceNe, List.take_succ_cons, List.take_zero, List.take_nil, List.length_cons, List.length_nil, List.cons_append, List.nil_append, Int.reduceLE, Int.reduceLT, Int.reduceEq, Int.reduceNeg, Int.reduceAdd, Int.reduceSub, Int.reduceMul, Int.reduceDiv, Nat.reduceAdd, Nat.reduceEqDiff, decide_true, decide_false, hT, t0, t1, t5, t7, t8, c1, i1, es, r1, Int.toNat_natCast, env_code, opA_neg, negK_int, r2, d1, d2, ge, callA_func _ _ _ _ _ _ b9, callA_func _ _ _ _ _ _ b10, callA_func _ _ _ _ _ _ b11, callA_func _ _ _ _ _ _ b13, env_call (o0 _), extractA2]
  generalize hT0 : List.set _ 7 (Value.int IntKind.i64 (u + x)) = T0
  have v : T0.length = 105 := by rw [← hT0]; simp only [getD_set', List.length_set, Nat.reduceEqDiff, Nat.reduceLT, if_true, if_false, hT]
  have v0 : T0.getD 0 undef = .int .i64 (s + 1) := by rw [← hT0]; simp only [getD_set', List.length_set, Nat.reduceEqDiff, Nat.reduceLT, if_true, if_false, hT, t0]
  have v1 : T0.getD 1 undef = .slice (some ⟨β, o, none⟩) l.length ca := by rw [← hT0]; simp only [getD_set', List.length_set, Nat.reduceEqDiff, Nat.reduceLT, if_true, if_false, hT, t1]
  have v5 : T0.getD 5 undef = .pointer (some ⟨b, 0, none⟩) := by rw [← hT0]; simp only [getD_set', List.length_set, Nat.reduceEqDiff, Nat.reduceLT, if_true, if_false, hT, t5]
  have v7 : T0.getD 7 undef = .int .i64 (u + x) := by rw [← hT0]; simp only [getD_set', List.length_set, Nat.reduceEqDiff, Nat.reduceLT, if_true, if_false, hT, t7]
  have v8 : T0.getD 8 undef = .int .i64 k := by rw [← hT0]; simp only [getD_set', List.length_set, Nat.reduceEqDiff, Nat.reduceLT, if_true, if_false, hT, t8]
  have v9 : T0.getD 9 undef = .int .i64 0 := by rw [← hT0]; simp only [getD_set', List.length_set, Nat.reduceEqDiff, Nat.reduceLT, if_true, if_false, hT]
  have v10 : T0.getD 10 undef = .int .i64 0 := by rw [← hT0]; simp only [getD_set', List.length_set, Nat.reduceEqDiff, Nat.reduceLT, if_true, if_false, hT]
  obtain ⟨T2, e, w, w104, wj⟩ := R0 (h := rh) (t := t) (u := (u + x)) q2 (ok_take hk x1 x2) (r + 399) T0 0 v v0 v5 v7 v9 v10
  have w0 := (wj 0 (by decide)).trans v0
  have w1 := (wj 1 (by decide)).trans v1
  have w5 := (wj 5 (by decide)).trans v5
  have w7 := (wj 7 (by decide)).trans v7
  have w8 := (wj 8 (by decide)).trans v8
  simp (maxSteps := 1000000) (disch := omega) only [stepVal_guardT, yD_some, yK_bool, yK_undef, getD_set', List.length_set, Nat.reduceLT, evalC_drawT, drawL_eq, trace_cons, trace_nil, traceK_some, pad, evalC_seq, evalC_region, evalC_cond, evalC_ret, evalC_skip, evalC_label, evalC_exit, evalC_scope, evalC_block, evalC_draw, runOps_cons, runOps_nil, stepOp_eq, stepVal_plain, yieldedA_lit, opA_assign, opA_move, opA_binOp, opA_pick, opA_call, opA_alloc, opA_box, opA_load, opA_store, opA_extract, opA_buildSlice, opA_indexAddr, opA_fieldAddr, aeval_int, aeval_bool, aeval_tmp, aeval_nilSlice, aeval_nilPointer, aeval_nilFunc, aeval_func, arK_val, arK_skip, arK_enter, arK_round, valK_some, valK_none, opsK_some, Option.map_some, Option.map_none, seqK_normal, seqK_ret, seqK_exit, blockK_normal, blockK_ret, blockK_exit, loopK_normal, loopK_ret, loopK_exit, List.getElem?_cons_zero, List.getElem?_cons_succ, Option.bind_some, reduceCtorEq, if_false, if_true, pickK_bool, condK_true, condK_false, endK_ret, endK_normal, resultsA_tmp, resultsA_nil, resVal, Option.some.injEq, Bool.true_eq_false, Bool.false_eq_true, List.map_cons, List.map_nil, binA_add, binA_sub, binA_mul, binA_lss, binA_leq, binA_gtr, binA_geq, binA_eql, binA_neq, callA_builtin, max_int, min_int, loadK_pointer, storeK_pointer, IntWalk.i64_in, IntWalk.i64_quo, binA_quo, binA_rem, Int.tmod_eq_emod_of_nonneg, loadA_rowK, storeA_int hsz3, putK_cell, rowK_cell ag3, rowK_row ag3, boxA_cell, al3, get_empty, next_empty, AH.get_set, AH.get_push, AH.next_set, AH.next_push, resultsA_cell, resK_pointer, roundA_G, roundG_loop, asgK_normal, bodyK_loop, ended_some, endRK_normal, endRK_ret, endRK_exit, rangeK_E, rangeE_ready, rangeE_done, rangeH, setAll, shut_nil, shut_cons, shutK_defs, endK_shut, outK_some, AH.get_kill, AH.next_kill, evalRegion_G, drawG_ok, drawK_all, trace_cons, trace_nil, traceK_some, List.all_cons, List.all_nil, sameRead_K, sameK_plain, sameK_guard, wantK_some, veqK_val, veq_int, veq_bool, veq_pointer, veq_slice, veq_nilSlice, Bool.and_true, Bool.and_self, List.getLast?_cons_cons, List.getLast?_singleton, len_slice one22, indexAddrA_one one22, ixK_slice, append_one one22, apK_nil, apK_some, apB_row, oneOf_row, bs22, Nat.reduceLeDiff, and_self, and_true, true_and, Int.reduceToNat, Int.reduceNe, List.take_succ_cons, List.take_zero, List.take_nil, List.length_cons, List.length_nil, List.cons_append, List.nil_append, Int.reduceLE, Int.reduceLT, Int.reduceEq, Int.reduceNeg, Int.reduceAdd, Int.reduceSub, Int.reduceMul, Int.reduceDiv, Nat.reduceAdd, Nat.reduceEqDiff, decide_true, decide_false, e, w, w0, w1, w5, w7, w8, w104, env_code]
  refine ih _ _ t (u + x) ?_ ?_ ?_ ?_ ?_ ?_ (hR.keep gn gg) q2 (ok_take hk x1 x2) (Nat.lt_of_lt_of_le hlb gn)
  · simp only [getD_set', List.length_set, Nat.reduceEqDiff, Nat.reduceLT, if_true, if_false, w]
  · simp only [getD_set', List.length_set, Nat.reduceEqDiff, Nat.reduceLT, if_true, if_false, w, w0]
  · simp only [getD_set', List.length_set, Nat.reduceEqDiff, Nat.reduceLT, if_true, if_false, w, w1]
  · simp only [getD_set', List.length_set, Nat.reduceEqDiff, Nat.reduceLT, if_true, if_false, w, w5]
  · simp only [getD_set', List.length_set, Nat.reduceEqDiff, Nat.reduceLT, if_true, if_false, w, w7]
  · simp only [getD_set', List.length_set, Nat.reduceEqDiff, Nat.reduceLT, if_true, if_false, w]

theorem step7_r (l : List Int) (hf : fine l) (a : Option Addr) (ca : Nat) (b : Nat) (s : Int) (C : Code) (r k : Nat) (hC : C = l7)
    (ih : ∀ (T : List Value) (h : AH) (t u : Int), T.length = 105 → T.getD 0 undef = .int .i64 (s + 1) → T.getD 1 undef = .slice a l.length ca → T.getD 5 undef = .pointer (some ⟨b, 0, none⟩) → T.getD 7 undef = .int .i64 u → T.getD 8 undef = .int .i64 ((k : Int) + 1) →
      Rn l a b h → h.get b = some (ringObj s t u) → Ok s t u → b < h.next → ∃ T' h', evalC Try.prog (env Try.prog ov0 (r + 400)) none (.loop C) ⟨⟨T⟩, [], h⟩ = some (.exit 0, ⟨⟨T'⟩, [], h'⟩) ∧ T'.length = 105)
    (hkl : k < l.length) (x : Int) (hx : l[k]? = some x) (T : List Value) (h : AH) (t u : Int) (hT : T.length = 105) (t0 : T.getD 0 undef = .int .i64 (s + 1)) (t1 : T.getD 1 undef = .slice a l.length ca) (t5 : T.getD 5 undef = .pointer (some ⟨b, 0, none⟩)) (t7 : T.getD 7 undef = .int .i64 u) (t8 : T.getD 8 undef = .int .i64 k)
    (hR : Rn l a b h) (hb : h.get b = some (ringObj s t u)) (hk : Ok s t u) (hlb : b < h.next) (hl2 : l.length ≤ 1000) (x1 : 1 ≤ x) (x2 : s - u < x) :
    ∃ T' h', evalC Try.prog (env Try.prog ov0 (r + 1 + 400)) none (.loop C) ⟨⟨T⟩, [], h⟩ = some (.exit 0, ⟨⟨T'⟩, [], h'⟩) ∧ T'.length = 105 := by
  subst hC
  simp only [l7, loopsOf, Try.f7, Option.getD_some] at ih ⊢
  have hk' := hk
  unfold Ok at hk'
  obtain ⟨β, o, rfl, hβ, hβb, hra⟩ := hR (by intro e; rw [e] at hkl; simp at hkl)
  have r1 := hra k _ hx
  have hxb := hf x (List.mem_of_getElem? hx)
  have c1 : decide ((k : Int) < (l.length : Int)) = true := by simp; omega
  have i1 : 0 ≤ (k : Int) ∧ (k : Int) < (l.length : Int) := by omega
  have es : s + 1 - 1 = s := by omega
  have R0 := @reg25 b s
  simp only [regionOf, regionAt, Try.f7, Option.getD_some, Nat.reduceEqDiff, if_true, if_false] at R0
  generalize hB : Code.region 25 _ _ = B at ih R0 ⊢
  obtain ⟨⟨rv, rh⟩, ge, gn, gg, ⟨q0, _⟩ | ⟨q0, q1, q2⟩⟩ := e11 (m := x) hb hk hxb hlb ov0 (o0 _) (o0 _) (o0 _) (o0 _) (r + 400) (by omega)
  · exact absurd q0 (by unfold tak; rw [if_neg (by omega), if_pos (by omega)]; decide)
  simp only at gn gg q1 q2
  subst q2
  have ht : tak s u x = 120 := by unfold tak; rw [if_neg (by omega), if_pos (by omega)]
  rw [ht] at q1
  subst q1
  have d1 : decide (0 < x) = true := by simp; omega
  have d2 : decide (s - u < x) = true := by simp; omega
  rw [evalC_loop]
  simp (maxSteps := 1000000) (disch := omega) only [stepVal_guardT, yD_some, yK_bool, yK_undef, getD_set', List.length_set, Nat.reduceLT, evalC_drawT, drawL_eq, trace_cons, trace_nil, traceK_some, pad, evalC_seq, evalC_region, evalC_cond, evalC_ret, evalC_skip, evalC_label, evalC_exit, evalC_scope, evalC_block, evalC_draw, runOps_cons, runOps_nil, stepOp_eq, stepVal_plain, yieldedA_lit, opA_assign, opA_move, opA_binOp, opA_pick, opA_call, opA_alloc, opA_box, opA_load, opA_store, opA_extract, opA_buildSlice, opA_indexAddr, opA_fieldAddr, aeval_int, aeval_bool, aeval_tmp, aeval_nilSlice, aeval_nilPointer, aeval_nilFunc, aeval_func, arK_val, arK_skip, arK_enter, arK_round, valK_some, valK_none, opsK_some, Option.map_some, Option.map_none, seqK_normal, seqK_ret, seqK_exit, blockK_normal, blockK_ret, blockK_exit, loopK_normal, loopK_ret, loopK_exit, List.getElem?_cons_zero, List.getElem?_cons_succ, Option.bind_some, reduceCtorEq, if_false, if_true, pickK_bool, condK_true, condK_false, endK_ret, endK_normal, resultsA_tmp, resultsA_nil, resVal, Option.some.injEq, Bool.true_eq_false, Bool.false_eq_true, List.map_cons, List.map_nil, binA_add, binA_sub, binA_mul, binA_lss, binA_leq, binA_gtr, binA_geq, binA_eql, binA_neq, callA_builtin, max_int, min_int, loadK_pointer, storeK_pointer, IntWalk.i64_in, IntWalk.i64_quo, binA_quo, binA_rem, Int.tmod_eq_emod_of_nonneg, loadA_rowK, storeA_int hsz3, putK_cell, rowK_cell ag3, rowK_row ag3, boxA_cell, al3, get_empty, next_empty, AH.get_set, AH.get_push, AH.next_set, AH.next_push, resultsA_cell, resK_pointer, roundA_G, roundG_loop, asgK_normal, bodyK_loop, ended_some, endRK_normal, endRK_ret, endRK_exit, rangeK_E, rangeE_ready, rangeE_done, rangeH, setAll, shut_nil, shut_cons, shutK_defs, endK_shut, outK_some, AH.get_kill, AH.next_kill, evalRegion_G, drawG_ok, drawK_all, trace_cons, trace_nil, traceK_some, List.all_cons, List.all_nil, sameRead_K, sameK_plain, sameK_guard, wantK_some, veqK_val, veq_int, veq_bool, veq_pointer, veq_slice, veq_nilSlice, Bool.and_true, Bool.and_self, List.getLast?_cons_cons, List.getLast?_singleton, len_slice one22, indexAddrA_one one22, ixK_slice, append_one one22, apK_nil, apK_some, apB_row, oneOf_row, bs22, Nat.reduceLeDiff, and_self, and_true, true_and, Int.reduceToNat, Int.reduceNe, List.take_succ_cons, List.take_zero, List.take_nil, List.length_cons, List.length_nil, List.cons_append, List.nil_append, Int.reduceLE, Int.reduceLT, Int.reduceEq, Int.reduceNeg, Int.reduceAdd, Int.reduceSub, Int.reduceMul, Int.reduceDiv, Nat.reduceAdd, Nat.reduceEqDiff, decide_true, decide_false, hT, t0, t1, t5, t7, t8, c1, i1, es, r1, Int.toNat_natCast, env_code, opA_neg, negK_int, d1, d2, ge, callA_func _ _ _ _ _ _ b9, callA_func _ _ _ _ _ _ b10, callA_func _ _ _ _ _ _ b11, callA_func _ _ _ _ _ _ b13, env_call (o0 _), extractA2]
  generalize hT0 : List.set _ 10 (Value.int IntKind.i64 120) = T0
  have v : T0.length = 105 := by rw [← hT0]; simp only [getD_set', List.length_set, Nat.reduceEqDiff, Nat.reduceLT, if_true, if_false, hT]
  have v0 : T0.getD 0 undef = .int .i64 (s + 1) := by rw [← hT0]; simp only [getD_set', List.length_set, Nat.reduceEqDiff, Nat.reduceLT, if_true, if_false, hT, t0]
  have v1 : T0.getD 1 undef = .slice (some ⟨β, o, none⟩) l.length ca := by rw [← hT0]; simp only [getD_set', List.length_set, Nat.reduceEqDiff, Nat.reduceLT, if_true, if_false, hT, t1]
  have v5 : T0.getD 5 undef = .pointer (some ⟨b, 0, none⟩) := by rw [← hT0]; simp only [getD_set', List.length_set, Nat.reduceEqDiff, Nat.reduceLT, if_true, if_false, hT, t5]
  have v7 : T0.getD 7 undef = .int .i64 u := by rw [← hT0]; simp only [getD_set', List.length_set, Nat.reduceEqDiff, Nat.reduceLT, if_true, if_false, hT, t7]
  have v8 : T0.getD 8 undef = .int .i64 k := by rw [← hT0]; simp only [getD_set', List.length_set, Nat.reduceEqDiff, Nat.reduceLT, if_true, if_false, hT, t8]
  have v9 : T0.getD 9 undef = .int .i64 120 := by rw [← hT0]; simp only [getD_set', List.length_set, Nat.reduceEqDiff, Nat.reduceLT, if_true, if_false, hT]
  have v10 : T0.getD 10 undef = .int .i64 120 := by rw [← hT0]; simp only [getD_set', List.length_set, Nat.reduceEqDiff, Nat.reduceLT, if_true, if_false, hT]
  obtain ⟨T2, e, w, w104, wj⟩ := R0 (h := rh) (t := t) (u := u) hb hk (r + 399) T0 120 v v0 v5 v7 v9 v10
  have w0 := (wj 0 (by decide)).trans v0
  have w1 := (wj 1 (by decide)).trans v1
  have w5 := (wj 5 (by decide)).trans v5
  have w7 := (wj 7 (by decide)).trans v7
  have w8 := (wj 8 (by decide)).trans v8
  simp (maxSteps := 1000000) (disch := omega) only [stepVal_guardT, yD_some, yK_bool, yK_undef, getD_set', List.length_set, Nat.reduceLT, evalC_drawT, drawL_eq, trace_cons, trace_nil, traceK_some, pad, evalC_seq, evalC_region, evalC_cond, evalC_ret, evalC_skip, evalC_label, evalC_exit, evalC_scope, evalC_block, evalC_draw, runOps_cons, runOps_nil, stepOp_eq, stepVal_plain, yieldedA_lit, opA_assign, opA_move, opA_binOp, opA_pick, opA_call, opA_alloc, opA_box, opA_load, opA_store, opA_extract, opA_buildSlice, opA_indexAddr, opA_fieldAddr, aeval_int, aeval_bool, aeval_tmp, aeval_nilSlice, aeval_nilPointer, aeval_nilFunc, aeval_func, arK_val, arK_skip, arK_enter, arK_round, valK_some, valK_none, opsK_some, Option.map_some, Option.map_none, seqK_normal, seqK_ret, seqK_exit, blockK_normal, blockK_ret, blockK_exit, loopK_normal, loopK_ret, loopK_exit, List.getElem?_cons_zero, List.getElem?_cons_succ, Option.bind_some, reduceCtorEq, if_false, if_true, pickK_bool, condK_true, condK_false, endK_ret, endK_normal, resultsA_tmp, resultsA_nil, resVal, Option.some.injEq, Bool.true_eq_false, Bool.false_eq_true, List.map_cons, List.map_nil, binA_add, binA_sub, binA_mul, binA_lss, binA_leq, binA_gtr, binA_geq, binA_eql, binA_neq, callA_builtin, max_int, min_int, loadK_pointer, storeK_pointer, IntWalk.i64_in, IntWalk.i64_quo, binA_quo, binA_rem, Int.tmod_eq_emod_of_nonneg, loadA_rowK, storeA_int hsz3, putK_cell, rowK_cell ag3, rowK_row ag3, boxA_cell, al3, get_empty, next_empty, AH.get_set, AH.get_push, AH.next_set, AH.next_push, resultsA_cell, resK_pointer, roundA_G, roundG_loop, asgK_normal, bodyK_loop, ended_some, endRK_normal, endRK_ret, endRK_exit, rangeK_E, rangeE_ready, rangeE_done, rangeH, setAll, shut_nil, shut_cons, shutK_defs, endK_shut, outK_some, AH.get_kill, AH.next_kill, evalRegion_G, drawG_ok, drawK_all, trace_cons, trace_nil, traceK_some, List.all_cons, List.all_nil, sameRead_K, sameK_plain, sameK_guard, wantK_some, veqK_val, veq_int, veq_bool, veq_pointer, veq_slice, veq_nilSlice, Bool.and_true, Bool.and_self, List.getLast?_cons_cons, List.getLast?_singleton, len_slice one22, indexAddrA_one one22, ixK_slice, append_one one22, apK_nil, apK_some, apB_row, oneOf_row, bs22, Nat.reduceLeDiff, and_self, and_true, true_and, Int.reduceToNat, Int.reduceNe, List.take_succ_cons, List.take_zero, List.take_nil, List.length_cons, List.length_nil, List.cons_append, List.nil_append, Int.reduceLE, Int.reduceLT, Int.reduceEq, Int.reduceNeg, Int.reduceAdd, Int.reduceSub, Int.reduceMul, Int.reduceDiv, Nat.reduceAdd, Nat.reduceEqDiff, decide_true, decide_false, e, w, w0, w1, w5, w7, w8, w104, env_code]
  refine ih _ _ t u ?_ ?_ ?_ ?_ ?_ ?_ hR hb hk hlb
  · simp only [getD_set', List.length_set, Nat.reduceEqDiff, Nat.reduceLT, if_true, if_false, w]
  · simp only [getD_set', List.length_set, Nat.reduceEqDiff, Nat.reduceLT, if_true, if_false, w, w0]
  · simp only [getD_set', List.length_set, Nat.reduceEqDiff, Nat.reduceLT, if_true, if_false, w, w1]
  · simp only [getD_set', List.length_set, Nat.reduceEqDiff, Nat.reduceLT, if_true, if_false, w, w5]
  · simp only [getD_set', List.length_set, Nat.reduceEqDiff, Nat.reduceLT, if_true, if_false, w, w7]
  · simp only [getD_set', List.length_set, Nat.reduceEqDiff, Nat.reduceLT, if_true, if_false, w]

theorem step7_n (l : List Int) (hf : fine l) (a : Option Addr) (ca : Nat) (b : Nat) (s : Int) (C : Code) (r k : Nat) (hC : C = l7)
    (ih : ∀ (T : List Value) (h : AH) (t u : Int), T.length = 105 → T.getD 0 undef = .int .i64 (s + 1) → T.getD 1 undef = .slice a l.length ca → T.getD 5 undef = .pointer (some ⟨b, 0, none⟩) → T.getD 7 undef = .int .i64 u → T.getD 8 undef = .int .i64 ((k : Int) + 1) →
      Rn l a b h → h.get b = some (ringObj s t u) → Ok s t u → b < h.next → ∃ T' h', evalC Try.prog (env Try.prog ov0 (r + 400)) none (.loop C) ⟨⟨T⟩, [], h⟩ = some (.exit 0, ⟨⟨T'⟩, [], h'⟩) ∧ T'.length = 105)
    (hkl : k < l.length) (x : Int) (hx : l[k]? = some x) (T : List Value) (h : AH) (t u : Int) (hT : T.length = 105) (t0 : T.getD 0 undef = .int .i64 (s + 1)) (t1 : T.getD 1 undef = .slice a l.length ca) (t5 : T.getD 5 undef = .pointer (some ⟨b, 0, none⟩)) (t7 : T.getD 7 undef = .int .i64 u) (t8 : T.getD 8 undef = .int .i64 k)
    (hR : Rn l a b h) (hb : h.get b = some (ringObj s t u)) (hk : Ok s t u) (hlb : b < h.next) (hl2 : l.length ≤ 1000) (x1 : x = 0) :
    ∃ T' h', evalC Try.prog (env Try.prog ov0 (r + 1 + 400)) none (.loop C) ⟨⟨T⟩, [], h⟩ = some (.exit 0, ⟨⟨T'⟩, [], h'⟩) ∧ T'.length = 105 := by
  subst hC
  simp only [l7, loopsOf, Try.f7, Option.getD_some] at ih ⊢
  have hk' := hk
  unfold Ok at hk'
  obtain ⟨β, o, rfl, hβ, hβb, hra⟩ := hR (by intro e; rw [e] at hkl; simp at hkl)
  have r1 := hra k _ hx
  have hxb := hf x (List.mem_of_getElem? hx)
  have c1 : decide ((k : Int) < (l.length : Int)) = true := by simp; omega
  have i1 : 0 ≤ (k : Int) ∧ (k : Int) < (l.length : Int) := by omega
  have es : s + 1 - 1 = s := by omega
  have R0 := @reg25 b s
  simp only [regionOf, regionAt, Try.f7, Option.getD_some, Nat.reduceEqDiff, if_true, if_false] at R0
  generalize hB : Code.region 25 _ _ = B at ih R0 ⊢
  have ge := e10 (m := 0 - (x + 1)) hb hk (by omega) ov0 (o0 _) (r + 399)
  have hg : giv s t u (0 - (x + 1)) = 2 := by unfold giv; rw [if_pos (by omega)]
  have hh : givH b s t u (0 - (x + 1)) h = h := by unfold givH; rw [if_pos (.inl (by omega))]
  have d2 : decide (0 - (x + 1) < 0) = true := by simp; omega
  have d1 : decide (0 < x) = false := by simp; omega
  rw [hg, hh] at ge
  rw [evalC_loop]
  simp (maxSteps := 1000000) (disch := omega) only [stepVal_guardT, yD_some, yK_bool, yK_undef, getD_set', List.length_set, Nat.reduceLT, evalC_drawT, drawL_eq, trace_cons, trace_nil, traceK_some, pad, evalC_seq, evalC_region, evalC_cond, evalC_ret, evalC_skip, evalC_label, evalC_exit, evalC_scope, evalC_block, evalC_draw, runOps_cons, runOps_nil, stepOp_eq, stepVal_plain, yieldedA_lit, opA_assign, opA_move, opA_binOp, opA_pick, opA_call, opA_alloc, opA_box, opA_load, opA_store, opA_extract, opA_buildSlice, opA_indexAddr, opA_fieldAddr, aeval_int, aeval_bool, aeval_tmp, aeval_nilSlice, aeval_nilPointer, aeval_nilFunc, aeval_func, arK_val, arK_skip, arK_enter, arK_round, valK_some, valK_none, opsK_some, Option.map_some, Option.map_none, seqK_normal, seqK_ret, seqK_exit, blockK_normal, blockK_ret, blockK_exit, loopK_normal, loopK_ret, loopK_exit, List.getElem?_cons_zero, List.getElem?_cons_succ, Option.bind_some, reduceCtorEq, if_false, if_true, pickK_bool, condK_true, condK_false, endK_ret, endK_normal, resultsA_tmp, resultsA_nil, resVal, Option.some.injEq, Bool.true_eq_false, Bool.false_eq_true, List.map_cons, List.map_nil, binA_add, binA_sub, binA_mul, binA_lss, binA_leq, binA_gtr, binA_geq, binA_eql, binA_neq, callA_builtin, max_int, min_int, loadK_pointer, storeK_pointer, IntWalk.i64_in, IntWalk.i64_quo, binA_quo, binA_rem, Int.tmod_eq_emod_of_nonneg, loadA_rowK, storeA_int hsz3, putK_cell, rowK_cell ag3, rowK_row ag3, boxA_cell, al3, get_empty, next_empty, AH.get_set, AH.get_push, AH.next_set, AH.next_push, resultsA_cell, resK_pointer, roundA_G, roundG_loop, asgK_normal, bodyK_loop, ended_some, endRK_normal, endRK_ret, endRK_exit, rangeK_E, rangeE_ready, rangeE_done, rangeH, setAll, shut_nil, shut_cons, shutK_defs, endK_shut, outK_some, AH.get_kill, AH.next_kill, evalRegion_G, drawG_ok, drawK_all, trace_cons, trace_nil, traceK_some, List.all_cons, List.all_nil, sameRead_K, sameK_plain, sameK_guard, wantK_some, veqK_val, veq_int, veq_bool, veq_pointer, veq_slice, veq_nilSlice, Bool.and_true, Bool.and_self, List.getLast?_cons_cons, List.getLast?_singleton, len_slice one22, indexAddrA_one one22, ixK_slice, append_one one22, apK_nil, apK_some, apB_row, oneOf_row, bs22, Nat.reduceLeDiff, and_self, and_true, true_and, Int.reduceToNat, Int.reduceNe, List.take_succ_cons, List.take_zero, List.take_nil, List.length_cons, List.length_nil, List.cons_append, List.nil_append, Int.reduceLE, Int.reduceLT, Int.reduceEq, Int.reduceNeg, Int.reduceAdd, Int.reduceSub, Int.reduceMul, Int.reduceDiv, Nat.reduceAdd, Nat.reduceEqDiff, decide_true, decide_false, hT, t0, t1, t5, t7, t8, c1, i1, es, r1, Int.toNat_natCast, env_code, opA_neg, negK_int, d1, d2, ge, callA_func _ _ _ _ _ _ b9, callA_func _ _ _ _ _ _ b10, callA_func _ _ _ _ _ _ b11, callA_func _ _ _ _ _ _ b13, env_call (o0 _), extractA2]
  generalize hT0 : List.set _ 10 (Value.int IntKind.i64 2) = T0
  have v : T0.length = 105 := by rw [← hT0]; simp only [getD_set', List.length_set, Nat.reduceEqDiff, Nat.reduceLT, if_true, if_false, hT]
  have v0 : T0.getD 0 undef = .int .i64 (s + 1) := by rw [← hT0]; simp only [getD_set', List.length_set, Nat.reduceEqDiff, Nat.reduceLT, if_true, if_false, hT, t0]
  have v1 : T0.getD 1 undef = .slice (some ⟨β, o, none⟩) l.length ca := by rw [← hT0]; simp only [getD_set', List.length_set, Nat.reduceEqDiff, Nat.reduceLT, if_true, if_false, hT, t1]
  have v5 : T0.getD 5 undef = .pointer (some ⟨b, 0, none⟩) := by rw [← hT0]; simp only [getD_set', List.length_set, Nat.reduceEqDiff, Nat.reduceLT, if_true, if_false, hT, t5]
  have v7 : T0.getD 7 undef = .int .i64 u := by rw [← hT0]; simp only [getD_set', List.length_set, Nat.reduceEqDiff, Nat.reduceLT, if_true, if_false, hT, t7]
  have v8 : T0.getD 8 undef = .int .i64 k := by rw [← hT0]; simp only [getD_set', List.length_set, Nat.reduceEqDiff, Nat.reduceLT, if_true, if_false, hT, t8]
  have v9 : T0.getD 9 undef = .int .i64 2 := by rw [← hT0]; simp only [getD_set', List.length_set, Nat.reduceEqDiff, Nat.reduceLT, if_true, if_false, hT]
  have v10 : T0.getD 10 undef = .int .i64 2 := by rw [← hT0]; simp only [getD_set', List.length_set, Nat.reduceEqDiff, Nat.reduceLT, if_true, if_false, hT]
  obtain ⟨T2, e, w, w104, wj⟩ := R0 (h := h) (t := t) (u := u) hb hk (r + 399) T0 2 v v0 v5 v7 v9 v10
  have w0 := (wj 0 (by decide)).trans v0
  have w1 := (wj 1 (by decide)).trans v1
  have w5 := (wj 5 (by decide)).trans v5
  have w7 := (wj 7 (by decide)).trans v7
  have w8 := (wj 8 (by decide)).trans v8
  simp (maxSteps := 1000000) (disch := omega) only [stepVal_guardT, yD_some, yK_bool, yK_undef, getD_set', List.length_set, Nat.reduceLT, evalC_drawT, drawL_eq, trace_cons, trace_nil, traceK_some, pad, evalC_seq, evalC_region, evalC_cond, evalC_ret, evalC_skip, evalC_label, evalC_exit, evalC_scope, evalC_block, evalC_draw, runOps_cons, runOps_nil, stepOp_eq, stepVal_plain, yieldedA_lit, opA_assign, opA_move, opA_binOp, opA_pick, opA_call, opA_alloc, opA_box, opA_load, opA_store, opA_extract, opA_buildSlice, opA_indexAddr, opA_fieldAddr, aeval_int, aeval_bool, aeval_tmp, aeval_nilSlice, aeval_nilPointer, aeval_nilFunc, aeval_func, arK_val, arK_skip, arK_enter, arK_round, valK_some, valK_none, opsK_some, Option.map_some, Option.map_none, seqK_normal, seqK_ret, seqK_exit, blockK_normal, blockK_ret, blockK_exit, loopK_normal, loopK_ret, loopK_exit, List.getElem?_cons_zero, List.getElem?_cons_succ, Option.bind_some, reduceCtorEq, if_false, if_true, pickK_bool, condK_true, condK_false, endK_ret, endK_normal, resultsA_tmp, resultsA_nil, resVal, Option.some.injEq, Bool.true_eq_false, Bool.false_eq_true, List.map_cons, List.map_nil, binA_add, binA_sub, binA_mul, binA_lss, binA_leq, binA_gtr, binA_geq, binA_eql, binA_neq, callA_builtin, max_int, min_int, loadK_pointer, storeK_pointer, IntWalk.i64_in, IntWalk.i64_quo, binA_quo, binA_rem, Int.tmod_eq_emod_of_nonneg, loadA_rowK, storeA_int hsz3, putK_cell, rowK_cell ag3, rowK_row ag3, boxA_cell, al3, get_empty, next_empty, AH.get_set, AH.get_push, AH.next_set, AH.next_push, resultsA_cell, resK_pointer, roundA_G, roundG_loop, asgK_normal, bodyK_loop, ended_some, endRK_normal, endRK_ret, endRK_exit, rangeK_E, rangeE_ready, rangeE_done, rangeH, setAll, shut_nil, shut_cons, shutK_defs, endK_shut, outK_some, AH.get_kill, AH.next_kill, evalRegion_G, drawG_ok, drawK_all, trace_cons, trace_nil, traceK_some, List.all_cons, List.all_nil, sameRead_K, sameK_plain, sameK_guard, wantK_some, veqK_val, veq_int, veq_bool, veq_pointer, veq_slice, veq_nilSlice, Bool.and_true, Bool.and_self, List.getLast?_cons_cons, List.getLast?_singleton, len_slice one22, indexAddrA_one one22, ixK_slice, append_one one22, apK_nil, apK_some, apB_row, oneOf_row, bs22, Nat.reduceLeDiff, and_self, and_true, true_and, Int.reduceToNat, Int.reduceNe, List.take_succ_cons, List.take_zero, List.take_nil, List.length_cons, List.length_nil, List.cons_append, List.nil_append, Int.reduceLE, Int.reduceLT, Int.reduceEq, Int.reduceNeg, Int.reduceAdd, Int.reduceSub, Int.reduceMul, Int.reduceDiv, Nat.reduceAdd, Nat.reduceEqDiff, decide_true, decide_false, e, w, w0, w1, w5, w7, w8, w104, env_code]
  refine ih _ _ t u ?_ ?_ ?_ ?_ ?_ ?_ hR hb hk hlb
  · simp only [getD_set', List.length_set, Nat.reduceEqDiff, Nat.reduceLT, if_true, if_false, w]
  · simp only [getD_set', List.length_set, Nat.reduceEqDiff, Nat.reduceLT, if_true, if_false, w, w0]
  · simp only [getD_set', List.length_set, Nat.reduceEqDiff, Nat.reduceLT, if_true, if_false, w, w1]
  · simp only [getD_set', List.length_set, Nat.reduceEqDiff, Nat.reduceLT, if_true, if_false, w, w5]
  · simp only [getD_set', List.length_set, Nat.reduceEqDiff, Nat.reduceLT, if_true, if_false, w, w7]
  · simp only [getD_set', List.length_set, Nat.reduceEqDiff, Nat.reduceLT, if_true, if_false, w]

theorem step7_o (l : List Int) (hf : fine l) (a : Option Addr) (ca : Nat) (b : Nat) (s : Int) (C : Code) (r k : Nat) (hC : C = l7)
    (ih : ∀ (T : List Value) (h : AH) (t u : Int), T.length = 105 → T.getD 0 undef = .int .i64 (s + 1) → T.getD 1 undef = .slice a l.length ca → T.getD 5 undef = .pointer (some ⟨b, 0, none⟩) → T.getD 7 undef = .int .i64 u → T.getD 8 undef = .int .i64 ((k : Int) + 1) →
      Rn l a b h → h.get b = some (ringObj s t u) → Ok s t u → b < h.next → ∃ T' h', evalC Try.prog (env Try.prog ov0 (r + 400)) none (.loop C) ⟨⟨T⟩, [], h⟩ = some (.exit 0, ⟨⟨T'⟩, [], h'⟩) ∧ T'.length = 105)
    (hkl : k < l.length) (x : Int) (hx : l[k]? = some x) (T : List Value) (h : AH) (t u : Int) (hT : T.length = 105) (t0 : T.getD 0 undef = .int .i64 (s + 1)) (t1 : T.getD 1 undef = .slice a l.length ca) (t5 : T.getD 5 undef = .pointer (some ⟨b, 0, none⟩)) (t7 : T.getD 7 undef = .int .i64 u) (t8 : T.getD 8 undef = .int .i64 k)
    (hR : Rn l a b h) (hb : h.get b = some (ringObj s t u)) (hk : Ok s t u) (hlb : b < h.next) (hl2 : l.length ≤ 1000) (x1 : x < 0) (x2 : u < 0 - (x + 1)) :
    ∃ T' h', evalC Try.prog (env Try.prog ov0 (r + 1 + 400)) none (.loop C) ⟨⟨T⟩, [], h⟩ = some (.exit 0, ⟨⟨T'⟩, [], h'⟩) ∧ T'.length = 105 := by
  subst hC
  simp only [l7, loopsOf, Try.f7, Option.getD_some] at ih ⊢
  have hk' := hk
  unfold Ok at hk'
  obtain ⟨β, o, rfl, hβ, hβb, hra⟩ := hR (by intro e; rw [e] at hkl; simp at hkl)
  have r1 := hra k _ hx
  have hxb := hf x (List.mem_of_getElem? hx)
  have c1 : decide ((k : Int) < (l.length : Int)) = true := by simp; omega
  have i1 : 0 ≤ (k : Int) ∧ (k : Int) < (l.length : Int) := by omega
  have es : s + 1 - 1 = s := by omega
  have R0 := @reg25 b s
  simp only [regionOf, regionAt, Try.f7, Option.getD_some, Nat.reduceEqDiff, if_true, if_false] at R0
  generalize hB : Code.region 25 _ _ = B at ih R0 ⊢
  have ge := e10 (m := 0 - (x + 1)) hb hk (by omega) ov0 (o0 _) (r + 399)
  have hg : giv s t u (0 - (x + 1)) = 120 := by unfold giv; rw [if_neg (by omega), if_pos (by omega)]
  have hh : givH b s t u (0 - (x + 1)) h = h := by unfold givH; rw [if_pos (.inr (by omega))]
  have d2 : decide (0 - (x + 1) < 0) = false := by simp; omega
  have d3 : decide (u < 0 - (x + 1)) = true := by simp; omega
  have d1 : decide (0 < x) = false := by simp; omega
  rw [hg, hh] at ge
  rw [evalC_loop]
  simp (maxSteps := 1000000) (disch := omega) only [stepVal_guardT, yD_some, yK_bool, yK_undef, getD_set', List.length_set, Nat.reduceLT, evalC_drawT, drawL_eq, trace_cons, trace_nil, traceK_some, pad, evalC_seq, evalC_region, evalC_cond, evalC_ret, evalC_skip, evalC_label, evalC_exit, evalC_scope, evalC_block, evalC_draw, runOps_cons, runOps_nil, stepOp_eq, stepVal_plain, yieldedA_lit, opA_assign, opA_move, opA_binOp, opA_pick, opA_call, opA_alloc, opA_box, opA_load, opA_store, opA_extract, opA_buildSlice, opA_indexAddr, opA_fieldAddr, aeval_int, aeval_bool, aeval_tmp, aeval_nilSlice, aeval_nilPointer, aeval_nilFunc, aeval_func, arK_val, arK_skip, arK_enter, arK_round, valK_some, valK_none, opsK_some, Option.map_some, Option.map_none, seqK_normal, seqK_ret, seqK_exit, blockK_normal, blockK_ret, blockK_exit, loopK_normal, loopK_ret, loopK_exit, List.getElem?_cons_zero, List.getElem?_cons_succ, Option.bind_some, reduceCtorEq, if_false, if_true, pickK_bool, condK_true, condK_false, endK_ret, endK_normal, resultsA_tmp, resultsA_nil, resVal, Option.some.injEq, Bool.true_eq_false, Bool.false_eq_true, List.map_cons, List.map_nil, binA_add, binA_sub, binA_mul, binA_lss, binA_leq, binA_gtr, binA_geq, binA_eql, binA_neq, callA_builtin, max_int, min_int, loadK_pointer, storeK_pointer, IntWalk.i64_in, IntWalk.i64_quo, binA_quo, binA_rem, Int.tmod_eq_emod_of_nonneg, loadA_rowK, storeA_int hsz3, putK_cell, rowK_cell ag3, rowK_row ag3, boxA_cell, al3, get_empty, next_empty, AH.get_set, AH.get_push, AH.next_set, AH.next_push, resultsA_cell, resK_pointer, roundA_G, roundG_loop, asgK_normal, bodyK_loop, ended_some, endRK_normal, endRK_ret, endRK_exit, rangeK_E, rangeE_ready, rangeE_done, rangeH, setAll, shut_nil, shut_cons, shutK_defs, endK_shut, outK_some, AH.get_kill, AH.next_kill, evalRegion_G, drawG_ok, drawK_all, trace_cons, trace_nil, traceK_some, List.all_cons, List.all_nil, sameRead_K, sameK_plain, sameK_guard, wantK_some, veqK_val, veq_int, veq_bool, veq_pointer, veq_slice, veq_nilSlice, Bool.and_true, Bool.and_self, List.getLast?_cons_cons, List.getLast?_singleton, len_slice one22, indexAddrA_one one22, ixK_slice, append_one one22, apK_nil, apK_some, apB_row, oneOf_row, bs22, Nat.reduceLeDiff, and_self, and_true, true_and, Int.reduceToNat, Int.reduceNe, List.take_succ_cons, List.take_zero, List.take_nil, List.length_cons, List.length_nil, List.cons_append, List.nil_append, Int.reduceLE, Int.reduceLT, Int.reduceEq, Int.reduceNeg, Int.reduceAdd, Int.reduceSub, Int.reduceMul, Int.reduceDiv, Nat.reduceAdd, Nat.reduceEqDiff, decide_true, decide_false, hT, t0, t1, t5, t7, t8, c1, i1, es, r1, Int.toNat_natCast, env_code, opA_neg, negK_int, d1, d2, d3, ge, callA_func _ _ _ _ _ _ b9, callA_func _ _ _ _ _ _ b10, callA_func _ _ _ _ _ _ b11, callA_func _ _ _ _ _ _ b13, env_call (o0 _), extractA2]
  generalize hT0 : List.set _ 10 (Value.int IntKind.i64 120) = T0
  have v : T0.length = 105 := by rw [← hT0]; simp only [getD_set', List.length_set, Nat.reduceEqDiff, Nat.reduceLT, if_true, if_false, hT]
  have v0 : T0.getD 0 undef = .int .i64 (s + 1) := by rw [← hT0]; simp only [getD_set', List.length_set, Nat.reduceEqDiff, Nat.reduceLT, if_true, if_false, hT, t0]
  have v1 : T0.getD 1 undef = .slice (some ⟨β, o, none⟩) l.length ca := by rw [← hT0]; simp only [getD_set', List.length_set, Nat.reduceEqDiff, Nat.reduceLT, if_true, if_false, hT, t1]
  have v5 : T0.getD 5 undef = .pointer (some ⟨b, 0, none⟩) := by rw [← hT0]; simp only [getD_set', List.length_set, Nat.reduceEqDiff, Nat.reduceLT, if_true, if_false, hT, t5]
  have v7 : T0.getD 7 undef = .int .i64 u := by rw [← hT0]; simp only [getD_set', List.length_set, Nat.reduceEqDiff, Nat.reduceLT, if_true, if_false, hT, t7]
  have v8 : T0.getD 8 undef = .int .i64 k := by rw [← hT0]; simp only [getD_set', List.length_set, Nat.reduceEqDiff, Nat.reduceLT, if_true, if_false, hT, t8]
  have v9 : T0.getD 9 undef = .int .i64 120 := by rw [← hT0]; simp only [getD_set', List.length_set, Nat.reduceEqDiff, Nat.reduceLT, if_true, if_false, hT]
  have v10 : T0.getD 10 undef = .int .i64 120 := by rw [← hT0]; simp only [getD_set', List.length_set, Nat.reduceEqDiff, Nat.reduceLT, if_true, if_false, hT]
  obtain ⟨T2, e, w, w104, wj⟩ := R0 (h := h) (t := t) (u := u) hb hk (r + 399) T0 120 v v0 v5 v7 v9 v10
  have w0 := (wj 0 (by decide)).trans v0
  have w1 := (wj 1 (by decide)).trans v1
  have w5 := (wj 5 (by decide)).trans v5
  have w7 := (wj 7 (by decide)).trans v7
  have w8 := (wj 8 (by decide)).trans v8
  simp (maxSteps := 1000000) (disch := omega) only [stepVal_guardT, yD_some, yK_bool, yK_undef, getD_set', List.length_set, Nat.reduceLT, evalC_drawT, drawL_eq, trace_cons, trace_nil, traceK_some, pad, evalC_seq, evalC_region, evalC_cond, evalC_ret, evalC_skip, evalC_label, evalC_exit, evalC_scope, evalC_block, evalC_draw, runOps_cons, runOps_nil, stepOp_eq, stepVal_plain, yieldedA_lit, opA_assign, opA_move, opA_binOp, opA_pick, opA_call, opA_alloc, opA_box, opA_load, opA_store, opA_extract, opA_buildSlice, opA_indexAddr, opA_fieldAddr, aeval_int, aeval_bool, aeval_tmp, aeval_nilSlice, aeval_nilPointer, aeval_nilFunc, aeval_func, arK_val, arK_skip, arK_enter, arK_round, valK_some, valK_none, opsK_some, Option.map_some, Option.map_none, seqK_normal, seqK_ret, seqK_exit, blockK_normal, blockK_ret, blockK_exit, loopK_normal, loopK_ret, loopK_exit, List.getElem?_cons_zero, List.getElem?_cons_succ, Option.bind_some, reduceCtorEq, if_false, if_true, pickK_bool, condK_true, condK_false, endK_ret, endK_normal, resultsA_tmp, resultsA_nil, resVal, Option.some.injEq, Bool.true_eq_false, Bool.false_eq_true, List.map_cons, List.map_nil, binA_add, binA_sub, binA_mul, binA_lss, binA_leq, binA_gtr, binA_geq, binA_eql, binA_neq, callA_builtin, max_int, min_int, loadK_pointer, storeK_pointer, IntWalk.i64_in, IntWalk.i64_quo, binA_quo, binA_rem, Int.tmod_eq_emod_of_nonneg, loadA_rowK, storeA_int hsz3, putK_cell, rowK_cell ag3, rowK_row ag3, boxA_cell, al3, get_empty, next_empty, AH.get_set, AH.get_push, AH.next_set, AH.next_push, resultsA_cell, resK_pointer, roundA_G, roundG_loop, asgK_normal, bodyK_loop, ended_some, endRK_normal, endRK_ret, endRK_exit, rangeK_E, rangeE_ready, rangeE_done, rangeH, setAll, shut_nil, shut_cons, shutK_defs, endK_shut, outK_some, AH.get_kill, AH.next_kill, evalRegion_G, drawG_ok, drawK_all, trace_cons, trace_nil, traceK_some, List.all_cons, List.all_nil, sameRead_K, sameK_plain, sameK_guard, wantK_some, veqK_val, veq_int, veq_bool, veq_pointer, veq_slice, veq_nilSlice, Bool.and_true, Bool.and_self, List.getLast?_cons_cons, List.getLast?_singleton, len_slice one22, indexAddrA_one one22, ixK_slice, append_one one22, apK_nil, apK_some, apB_row, oneOf_row, bs22, Nat.reduceLeDiff, and_self, and_true, true_and, Int.reduceToNat, Int.reduceNe, List.take_succ_cons, List.take_zero, List.take_nil, List.length_cons, List.length_nil, List.cons_append, List.nil_append, Int.reduceLE, Int.reduceLT, Int.reduceEq, Int.reduceNeg, Int.reduceAdd, Int.reduceSub, Int.reduceMul, Int.reduceDiv, Nat.reduceAdd, Nat.reduceEqDiff, decide_true, decide_false, e, w, w0, w1, w5, w7, w8, w104, env_code]
  refine ih _ _ t u ?_ ?_ ?_ ?_ ?_ ?_ hR hb hk hlb
  · simp only [getD_set', List.length_set, Nat.reduceEqDiff, Nat.reduceLT, if_true, if_false, w]
  · simp only [getD_set', List.length_set, Nat.reduceEqDiff, Nat.reduceLT, if_true, if_false, w, w0]
  · simp only [getD_set', List.length_set, Nat.reduceEqDiff, Nat.reduceLT, if_true, if_false, w, w1]
  · simp only [getD_set', List.length_set, Nat.reduceEqDiff, Nat.reduceLT, if_true, if_false, w, w5]
  · simp only [getD_set', List.length_set, Nat.reduceEqDiff, Nat.reduceLT, if_true, if_false, w, w7]
  · simp only [getD_set', List.length_set, Nat.reduceEqDiff, Nat.reduceLT, if_true, if_false, w]

theorem step7_g (l : List Int) (hf : fine l) (a : Option Addr) (ca : Nat) (b : Nat) (s : Int) (C : Code) (r k : Nat) (hC : C = l7)
    (ih : ∀ (T : List Value) (h : AH) (t u : Int), T.length = 105 → T.getD 0 undef = .int .i64 (s + 1) → T.getD 1 undef = .slice a l.length ca → T.getD 5 undef = .pointer (some ⟨b, 0, none⟩) → T.getD 7 undef = .int .i64 u → T.getD 8 undef = .int .i64 ((k : Int) + 1) →
      Rn l a b h → h.get b = some (ringObj s t u) → Ok s t u → b < h.next → ∃ T' h', evalC Try.prog (env Try.prog ov0 (r + 400)) none (.loop C) ⟨⟨T⟩, [], h⟩ = some (.exit 0, ⟨⟨T'⟩, [], h'⟩) ∧ T'.length = 105)
    (hkl : k < l.length) (x : Int) (hx : l[k]? = some x) (T : List Value) (h : AH) (t u : Int) (hT : T.length = 105) (t0 : T.getD 0 undef = .int .i64 (s + 1)) (t1 : T.getD 1 undef = .slice a l.length ca) (t5 : T.getD 5 undef = .pointer (some ⟨b, 0, none⟩)) (t7 : T.getD 7 undef = .int .i64 u) (t8 : T.getD 8 undef = .int .i64 k)
    (hR : Rn l a b h) (hb : h.get b = some (ringObj s t u)) (hk : Ok s t u) (hlb : b < h.next) (hl2 : l.length ≤ 1000) (x1 : x < 0) (x2 : 0 - (x + 1) ≤ u) :
    ∃ T' h', evalC Try.prog (env Try.prog ov0 (r + 1 + 400)) none (.loop C) ⟨⟨T⟩, [], h⟩ = some (.exit 0, ⟨⟨T'⟩, [], h'⟩) ∧ T'.length = 105 := by
  subst hC
  simp only [l7, loopsOf, Try.f7, Option.getD_some] at ih ⊢
  have hk' := hk
  unfold Ok at hk'
  obtain ⟨β, o, rfl, hβ, hβb, hra⟩ := hR (by intro e; rw [e] at hkl; simp at hkl)
  have r1 := hra k _ hx
  have hxb := hf x (List.mem_of_getElem? hx)
  have c1 : decide ((k : Int) < (l.length : Int)) = true := by simp; omega
  have i1 : 0 ≤ (k : Int) ∧ (k : Int) < (l.length : Int) := by omega
  have es : s + 1 - 1 = s := by omega
  have R0 := @reg25 b s
  simp only [regionOf, regionAt, Try.f7, Option.getD_some, Nat.reduceEqDiff, if_true, if_false] at R0
  generalize hB : Code.region 25 _ _ = B at ih R0 ⊢
  have ge := e10 (m := 0 - (x + 1)) hb hk (by omega) ov0 (o0 _) (r + 399)
  have hg : giv s t u (0 - (x + 1)) = 0 := by unfold giv; rw [if_neg (by omega), if_neg (by omega)]
  have hh : givH b s t u (0 - (x + 1)) h = h.set b (ringObj s ((t + (0 - (x + 1))) % s) (u - (0 - (x + 1)))) := by unfold givH; rw [if_neg (by omega)]
  have d2 : decide (0 - (x + 1) < 0) = false := by simp; omega
  have d3 : decide (u < 0 - (x + 1)) = false := by simp; omega
  have d1 : decide (0 < x) = false := by simp; omega
  rw [hg, hh] at ge
  rw [evalC_loop]
  simp (maxSteps := 1000000) (disch := omega) only [stepVal_guardT, yD_some, yK_bool, yK_undef, getD_set', List.length_set, Nat.reduceLT, evalC_drawT, drawL_eq, trace_cons, trace_nil, traceK_some, pad, evalC_seq, evalC_region, evalC_cond, evalC_ret, evalC_skip, evalC_label, evalC_exit, evalC_scope, evalC_block, evalC_draw, runOps_cons, runOps_nil, stepOp_eq, stepVal_plain, yieldedA_lit, opA_assign, opA_move, opA_binOp, opA_pick, opA_call, opA_alloc, opA_box, opA_load, opA_store, opA_extract, opA_buildSlice, opA_indexAddr, opA_fieldAddr, aeval_int, aeval_bool, aeval_tmp, aeval_nilSlice, aeval_nilPointer, aeval_nilFunc, aeval_func, arK_val, arK_skip, arK_enter, arK_round, valK_some, valK_none, opsK_some, Option.map_some, Option.map_none, seqK_normal, seqK_ret, seqK_exit, blockK_normal, blockK_ret, blockK_exit, loopK_normal, loopK_ret, loopK_exit, List.getElem?_cons_zero, List.getElem?_cons_succ, Option.bind_some, reduceCtorEq, if_false, if_true, pickK_bool, condK_true, condK_false, endK_ret, endK_normal, resultsA_tmp, resultsA_nil, resVal, Option.some.injEq, Bool.true_eq_false, Bool.false_eq_true, List.map_cons, List.map_nil, binA_add, binA_sub, binA_mul, binA_lss, binA_leq, binA_gtr, binA_geq, binA_eql, binA_neq, callA_builtin, max_int, min_int, loadK_pointer, storeK_pointer, IntWalk.i64_in, IntWalk.i64_quo, binA_quo, binA_rem, Int.tmod_eq_emod_of_nonneg, loadA_rowK, storeA_int hsz3, putK_cell, rowK_cell ag3, rowK_row ag3, boxA_cell, al3, get_empty, next_empty, AH.get_set, AH.get_push, AH.next_set, AH.next_push, resultsA_cell, resK_pointer, roundA_G, roundG_loop, asgK_normal, bodyK_loop, ended_some, endRK_normal, endRK_ret, endRK_exit, rangeK_E, rangeE_ready, rangeE_done, rangeH, setAll, shut_nil, shut_cons, shutK_defs, endK_shut, outK_some, AH.get_kill, AH.next_kill, evalRegion_G, drawG_ok, drawK_all, trace_cons, trace_nil, traceK_some, List.all_cons, List.all_nil, sameRead_K, sameK_plain, sameK_guard, wantK_some, veqK_val, veq_int, veq_bool, veq_pointer, veq_slice, veq_nilSlice, Bool.and_true, Bool.and_self, List.getLast?_cons_cons, List.getLast?_singleton, len_slice one22, indexAddrA_one one22, ixK_slice, append_one one22, apK_nil, apK_some, apB_row, oneOf_row, bs22, Nat.reduceLeDiff, and_self, and_true, true_and, Int.reduceToNat, Int.reduceNe, List.take_succ_cons, List.take_zero, List.take_nil, List.length_cons, List.length_nil, List.cons_append, List.nil_append, Int.reduceLE, Int.reduceLT, Int.reduceEq, Int.reduceNeg, Int.reduceAdd, Int.reduceSub, Int.reduceMul, Int.reduceDiv, Nat.reduceAdd, Nat.reduceEqDiff, decide_true, decide_false, hT, t0, t1, t5, t7, t8, c1, i1, es, r1, Int.toNat_natCast, env_code, opA_neg, negK_int, d1, d2, d3, ge, callA_func _ _ _ _ _ _ b9, callA_func _ _ _ _ _ _ b10, callA_func _ _ _ _ _ _ b11, callA_func _ _ _ _ _ _ b13, env_call (o0 _), extractA2]
  generalize hT0 : List.set _ 7 (Value.int IntKind.i64 (u - (0 - (x + 1)))) = T0
  have v : T0.length = 105 := by rw [← hT0]; simp only [getD_set', List.length_set, Nat.reduceEqDiff, Nat.reduceLT, if_true, if_false, hT]
  have v0 : T0.getD 0 undef = .int .i64 (s + 1) := by rw [← hT0]; simp only [getD_set', List.length_set, Nat.reduceEqDiff, Nat.reduceLT, if_true, if_false, hT, t0]
  have v1 : T0.getD 1 undef = .slice (some ⟨β, o, none⟩) l.length ca := by rw [← hT0]; simp only [getD_set', List.length_set, Nat.reduceEqDiff, Nat.reduceLT, if_true, if_false, hT, t1]
  have v5 : T0.getD 5 undef = .pointer (some ⟨b, 0, none⟩) := by rw [← hT0]; simp only [getD_set', List.length_set, Nat.reduceEqDiff, Nat.reduceLT, if_true, if_false, hT, t5]
  have v7 : T0.getD 7 undef = .int .i64 (u - (0 - (x + 1))) := by rw [← hT0]; simp only [getD_set', List.length_set, Nat.reduceEqDiff, Nat.reduceLT, if_true, if_false, hT, t7]
  have v8 : T0.getD 8 undef = .int .i64 k := by rw [← hT0]; simp only [getD_set', List.length_set, Nat.reduceEqDiff, Nat.reduceLT, if_true, if_false, hT, t8]
  have v9 : T0.getD 9 undef = .int .i64 0 := by rw [← hT0]; simp only [getD_set', List.length_set, Nat.reduceEqDiff, Nat.reduceLT, if_true, if_false, hT]
  have v10 : T0.getD 10 undef = .int .i64 0 := by rw [← hT0]; simp only [getD_set', List.length_set, Nat.reduceEqDiff, Nat.reduceLT, if_true, if_false, hT]
  obtain ⟨T2, e, w, w104, wj⟩ := R0 (h := (h.set b (ringObj s ((t + (0 - (x + 1))) % s) (u - (0 - (x + 1)))))) (t := ((t + (0 - (x + 1))) % s)) (u := (u - (0 - (x + 1)))) (by rw [AH.get_set, if_pos rfl]) (ok_give hk (by omega) x2) (r + 399) T0 0 v v0 v5 v7 v9 v10
  have w0 := (wj 0 (by decide)).trans v0
  have w1 := (wj 1 (by decide)).trans v1
  have w5 := (wj 5 (by decide)).trans v5
  have w7 := (wj 7 (by decide)).trans v7
  have w8 := (wj 8 (by decide)).trans v8
  simp (maxSteps := 1000000) (disch := omega) only [stepVal_guardT, yD_some, yK_bool, yK_undef, getD_set', List.length_set, Nat.reduceLT, evalC_drawT, drawL_eq, trace_cons, trace_nil, traceK_some, pad, evalC_seq, evalC_region, evalC_cond, evalC_ret, evalC_skip, evalC_label, evalC_exit, evalC_scope, evalC_block, evalC_draw, runOps_cons, runOps_nil, stepOp_eq, stepVal_plain, yieldedA_lit, opA_assign, opA_move, opA_binOp, opA_pick, opA_call, opA_alloc, opA_box, opA_load, opA_store, opA_extract, opA_buildSlice, opA_indexAddr, opA_fieldAddr, aeval_int, aeval_bool, aeval_tmp, aeval_nilSlice, aeval_nilPointer, aeval_nilFunc, aeval_func, arK_val, arK_skip, arK_enter, arK_round, valK_some, valK_none, opsK_some, Option.map_some, Option.map_none, seqK_normal, seqK_ret, seqK_exit, blockK_normal, blockK_ret, blockK_exit, loopK_normal, loopK_ret, loopK_exit, List.getElem?_cons_zero, List.getElem?_cons_succ, Option.bind_some, reduceCtorEq, if_false, if_true, pickK_bool, condK_true, condK_false, endK_ret, endK_normal, resultsA_tmp, resultsA_nil, resVal, Option.some.injEq, Bool.true_eq_false, Bool.false_eq_true, List.map_cons, List.map_nil, binA_add, binA_sub, binA_mul, binA_lss, binA_leq, binA_gtr, binA_geq, binA_eql, binA_neq, callA_builtin, max_int, min_int, loadK_pointer, storeK_pointer, IntWalk.i64_in, IntWalk.i64_quo, binA_quo, binA_rem, Int.tmod_eq_emod_of_nonneg, loadA_rowK, storeA_int hsz3, putK_cell, rowK_cell ag3, rowK_row ag3, boxA_cell, al3, get_empty, next_empty, AH.get_set, AH.get_push, AH.next_set, AH.next_push, resultsA_cell, resK_pointer, roundA_G, roundG_loop, asgK_normal, bodyK_loop, ended_some, endRK_normal, endRK_ret, endRK_exit, rangeK_E, rangeE_ready, rangeE_done, rangeH, setAll, shut_nil, shut_cons, shutK_defs, endK_shut, outK_some, AH.get_kill, AH.next_kill, evalRegion_G, drawG_ok, drawK_all, trace_cons, trace_nil, traceK_some, List.all_cons, List.all_nil, sameRead_K, sameK_plain, sameK_guard, wantK_some, veqK_val, veq_int, veq_bool, veq_pointer, veq_slice, veq_nilSlice, Bool.and_true, Bool.and_self, List.getLast?_cons_cons, List.getLast?_singleton, len_slice one22, indexAddrA_one one22, ixK_slice, append_one one22, apK_nil, apK_some, apB_row, oneOf_row, bs22, Nat.reduceLeDiff, and_self, and_true, true_and, Int.reduceToNat, Int.reduceNe, List.take_succ_cons, List.take_zero, List.take_nil, List.length_cons, List.length_nil, List.cons_append, List.nil_append, Int.reduceLE, Int.reduceLT, Int.reduceEq, Int.reduceNeg, Int.reduceAdd, Int.reduceSub, Int.reduceMul, Int.reduceDiv, Nat.reduceAdd, Nat.reduceEqDiff, decide_true, decide_false, e, w, w0, w1, w5, w7, w8, w104, env_code]
  refine ih _ _ ((t + (0 - (x + 1))) % s) (u - (0 - (x + 1))) ?_ ?_ ?_ ?_ ?_ ?_ (hR.keep (Nat.le_refl _) (fun γ _ h2 => by rw [AH.get_set, if_neg h2])) (by rw [AH.get_set, if_pos rfl]) (ok_give hk (by omega) x2) hlb
  · simp only [getD_set', List.length_set, Nat.reduceEqDiff, Nat.reduceLT, if_true, if_false, w]
  · simp only [getD_set', List.length_set, Nat.reduceEqDiff, Nat.reduceLT, if_true, if_false, w, w0]
  · simp only [getD_set', List.length_set, Nat.reduceEqDiff, Nat.reduceLT, if_true, if_false, w, w1]
  · simp only [getD_set', List.length_set, Nat.reduceEqDiff, Nat.reduceLT, if_true, if_false, w, w5]
  · simp only [getD_set', List.length_set, Nat.reduceEqDiff, Nat.reduceLT, if_true, if_false, w, w7]
  · simp only [getD_set', List.length_set, Nat.reduceEqDiff, Nat.reduceLT, if_true, if_false, w]


theorem loop7 (l : List Int) (hf : fine l) (hl2 : l.length ≤ 1000) (a : Option Addr) (ca : Nat) (b : Nat) (s : Int) : ∀ (r k : Nat), k + r = l.length → ∀ (T : List Value) (h : AH) (t u : Int), T.length = 105 → T.getD 0 undef = .int .i64 (s + 1) → T.getD 1 undef = .slice a l.length ca → T.getD 5 undef = .pointer (some ⟨b, 0, none⟩) →
      T.getD 7 undef = .int .i64 u → T.getD 8 undef = .int .i64 k → Rn l a b h → h.get b = some (ringObj s t u) → Ok s t u → b < h.next →
      ∃ T' h', evalC Try.prog (env Try.prog ov0 (r + 400)) none (.loop l7) ⟨⟨T⟩, [], h⟩ = some (.exit 0, ⟨⟨T'⟩, [], h'⟩) ∧ T'.length = 105 := by
  intro r
  induction r with
  | zero =>
    intro k hk0 T h t u hT t0 t1 t5 t7 t8 hR hb hk hlb
    have c1 : decide ((k : Int) < (l.length : Int)) = false := by simp; omega
    rw [evalC_loop]
    simp (maxSteps := 1000000) (disch := omega) only [stepVal_guardT, yD_some, yK_bool, yK_undef, getD_set', List.length_set, Nat.reduceLT, evalC_drawT, drawL_eq, trace_cons, trace_nil, traceK_some, pad, evalC_seq, evalC_region, evalC_cond, evalC_ret, evalC_skip, evalC_label, evalC_exit, evalC_scope, evalC_block, evalC_draw, runOps_cons, runOps_nil, stepOp_eq, stepVal_plain, yieldedA_lit, opA_assign, opA_move, opA_binOp, opA_pick, opA_call, opA_alloc, opA_box, opA_load, opA_store, opA_extract, opA_buildSlice, opA_indexAddr, opA_fieldAddr, aeval_int, aeval_bool, aeval_tmp, aeval_nilSlice, aeval_nilPointer, aeval_nilFunc, aeval_func, arK_val, arK_skip, arK_enter, arK_round, valK_some, valK_none, opsK_some, Option.map_some, Option.map_none, seqK_normal, seqK_ret, seqK_exit, blockK_normal, blockK_ret, blockK_exit, loopK_normal, loopK_ret, loopK_exit, List.getElem?_cons_zero, List.getElem?_cons_succ, Option.bind_some, reduceCtorEq, if_false, if_true, pickK_bool, condK_true, condK_false, endK_ret, endK_normal, resultsA_tmp, resultsA_nil, resVal, Option.some.injEq, Bool.true_eq_false, Bool.false_eq_true, List.map_cons, List.map_nil, binA_add, binA_sub, binA_mul, binA_lss, binA_leq, binA_gtr, binA_geq, binA_eql, binA_neq, callA_builtin, max_int, min_int, loadK_pointer, storeK_pointer, IntWalk.i64_in, IntWalk.i64_quo, binA_quo, binA_rem, Int.tmod_eq_emod_of_nonneg, loadA_rowK, storeA_int hsz3, putK_cell, rowK_cell ag3, rowK_row ag3, boxA_cell, al3, get_empty, next_empty, AH.get_set, AH.get_push, AH.next_set, AH.next_push, resultsA_cell, resK_pointer, roundA_G, roundG_loop, asgK_normal, bodyK_loop, ended_some, endRK_normal, endRK_ret, endRK_exit, rangeK_E, rangeE_ready, rangeE_done, rangeH, setAll, shut_nil, shut_cons, shutK_defs, endK_shut, outK_some, AH.get_kill, AH.next_kill, evalRegion_G, drawG_ok, drawK_all, trace_cons, trace_nil, traceK_some, List.all_cons, List.all_nil, sameRead_K, sameK_plain, sameK_guard, wantK_some, veqK_val, veq_int, veq_bool, veq_pointer, veq_slice, veq_nilSlice, Bool.and_true, Bool.and_self, List.getLast?_cons_cons, List.getLast?_singleton, len_slice one22, indexAddrA_one one22, ixK_slice, append_one one22, apK_nil, apK_some, apB_row, oneOf_row, bs22, Nat.reduceLeDiff, and_self, and_true, true_and, Int.reduceToNat, Int.reduceNe, List.take_succ_cons, List.take_zero, List.take_nil, List.length_cons, List.length_nil, List.cons_append, List.nil_append, Int.reduceLE, Int.reduceLT, Int.reduceEq, Int.reduceNeg, Int.reduceAdd, Int.reduceSub, Int.reduceMul, Int.reduceDiv, Nat.reduceAdd, Nat.reduceEqDiff, decide_true, decide_false, l7, loopsOf, Option.getD_some, c1, Try.f7, hT, t1, t8]
    exact ⟨_, _, rfl, by simp only [getD_set', List.length_set, Nat.reduceEqDiff, Nat.reduceLT, if_true, if_false, hT]⟩
  | succ r ih =>
    intro k hk0 T h t u hT t0 t1 t5 t7 t8 hR hb hk hlb
    have hx : l[k]? = some (l[k]'(by omega)) := by simp
    generalize l[k]'(by omega) = x at hx
    have ih' := fun T h t u => ih (k + 1) (by omega) T h t u
    by_cases c1 : 1 ≤ x
    · by_cases c2 : x ≤ s - u
      · exact step7_t l hf a ca b s l7 r k rfl ih' (by omega) x hx T h t u hT t0 t1 t5 t7 t8 hR hb hk hlb hl2 c1 c2
      · exact step7_r l hf a ca b s l7 r k rfl ih' (by omega) x hx T h t u hT t0 t1 t5 t7 t8 hR hb hk hlb hl2 c1 (by omega)
    · by_cases c2 : x = 0
      · exact step7_n l hf a ca b s l7 r k rfl ih' (by omega) x hx T h t u hT t0 t1 t5 t7 t8 hR hb hk hlb hl2 c2
      · by_cases c3 : u < 0 - (x + 1)
        · exact step7_o l hf a ca b s l7 r k rfl ih' (by omega) x hx T h t u hT t0 t1 t5 t7 t8 hR hb hk hlb hl2 (by omega) c3
        · exact step7_g l hf a ca b s l7 r k rfl ih' (by omega) x hx T h t u hT t0 t1 t5 t7 t8 hR hb hk hlb hl2 (by omega) (by omega)

theorem e7 (n : Int) (hp : -9223372036854775808 ≤ n ∧ n ≤ 9223372036854775807) (l : List Int) (hf : fine l) (a : Option Addr) (c : Nat) (h : AH)
    (hR : l ≠ [] → ∃ β o, a = some ⟨β, o, none⟩ ∧ β < h.next ∧ ∀ (i : Nat) x, l[i]? = some x → rowK Try.prog 3 (o + i) (h.get β) = some (.int .i64 x)) :
    ∃ m, (callFn Try.prog (env Try.prog ov0 m) 7 ⟨[.int .i64 n, .slice a l.length c]⟩ h).map (·.1) = some (.bool true) := by
  refine ⟨l.length + 400, ?_⟩
  refine callFn_Tm Try.func7 rfl _ _ (by show 2 ≤ 105; decide) fun T hT hq => ?_
  have p0 : T.getD 0 undef = .int .i64 n := hq 0
  have p1 : T.getD 1 undef = .slice a l.length c := hq 1
  replace hT : T.length = 105 := hT
  by_cases hl : 200 < l.length
  · have d0 : decide ((200 : Int) < (l.length : Int)) = true := by simp; omega
    simp (maxSteps := 1000000) (disch := omega) only [stepVal_guardT, yD_some, yK_bool, yK_undef, getD_set', List.length_set, Nat.reduceLT, evalC_drawT, drawL_eq, trace_cons, trace_nil, traceK_some, pad, evalC_seq, evalC_region, evalC_cond, evalC_ret, evalC_skip, evalC_label, evalC_exit, evalC_scope, evalC_block, evalC_draw, runOps_cons, runOps_nil, stepOp_eq, stepVal_plain, yieldedA_lit, opA_assign, opA_move, opA_binOp, opA_pick, opA_call, opA_alloc, opA_box, opA_load, opA_store, opA_extract, opA_buildSlice, opA_indexAddr, opA_fieldAddr, aeval_int, aeval_bool, aeval_tmp, aeval_nilSlice, aeval_nilPointer, aeval_nilFunc, aeval_func, arK_val, arK_skip, arK_enter, arK_round, valK_some, valK_none, opsK_some, Option.map_some, Option.map_none, seqK_normal, seqK_ret, seqK_exit, blockK_normal, blockK_ret, blockK_exit, loopK_normal, loopK_ret, loopK_exit, List.getElem?_cons_zero, List.getElem?_cons_succ, Option.bind_some, reduceCtorEq, if_false, if_true, pickK_bool, condK_true, condK_false, endK_ret, endK_normal, resultsA_tmp, resultsA_nil, resVal, Option.some.injEq, Bool.true_eq_false, Bool.false_eq_true, List.map_cons, List.map_nil, binA_add, binA_sub, binA_mul, binA_lss, binA_leq, binA_gtr, binA_geq, binA_eql, binA_neq, callA_builtin, max_int, min_int, loadK_pointer, storeK_pointer, IntWalk.i64_in, IntWalk.i64_quo, binA_quo, binA_rem, Int.tmod_eq_emod_of_nonneg, loadA_rowK, storeA_int hsz3, putK_cell, rowK_cell ag3, rowK_row ag3, boxA_cell, al3, get_empty, next_empty, AH.get_set, AH.get_push, AH.next_set, AH.next_push, resultsA_cell, resK_pointer, roundA_G, roundG_loop, asgK_normal, bodyK_loop, ended_some, endRK_normal, endRK_ret, endRK_exit, rangeK_E, rangeE_ready, rangeE_done, rangeH, setAll, shut_nil, shut_cons, shutK_defs, endK_shut, outK_some, AH.get_kill, AH.next_kill, evalRegion_G, drawG_ok, drawK_all, trace_cons, trace_nil, traceK_some, List.all_cons, List.all_nil, sameRead_K, sameK_plain, sameK_guard, wantK_some, veqK_val, veq_int, veq_bool, veq_pointer, veq_slice, veq_nilSlice, Bool.and_true, Bool.and_self, List.getLast?_cons_cons, List.getLast?_singleton, len_slice one22, indexAddrA_one one22, ixK_slice, append_one one22, apK_nil, apK_some, apB_row, oneOf_row, bs22, Nat.reduceLeDiff, and_self, and_true, true_and, Int.reduceToNat, Int.reduceNe, List.take_succ_cons, List.take_zero, List.take_nil, List.length_cons, List.length_nil, List.cons_append, List.nil_append, Int.reduceLE, Int.reduceLT, Int.reduceEq, Int.reduceNeg, Int.reduceAdd, Int.reduceSub, Int.reduceMul, Int.reduceDiv, Nat.reduceAdd, Nat.reduceEqDiff, decide_true, decide_false, Try.f7, hT, p0, p1, d0]
  · have d0 : decide ((200 : Int) < (l.length : Int)) = false := by simp; omega
    have hj := jn_in n
    have g13 := e13 n h (env Try.prog ov0 (l.length + 399))
    have g9 := e9 hj h (env Try.prog ov0 (l.length + 399))
    simp (maxSteps := 1000000) (disch := omega) only [stepVal_guardT, yD_some, yK_bool, yK_undef, getD_set', List.length_set, Nat.reduceLT, evalC_drawT, drawL_eq, trace_cons, trace_nil, traceK_some, pad, evalC_seq, evalC_region, evalC_cond, evalC_ret, evalC_skip, evalC_label, evalC_exit, evalC_scope, evalC_block, evalC_draw, runOps_cons, runOps_nil, stepOp_eq, stepVal_plain, yieldedA_lit, opA_assign, opA_move, opA_binOp, opA_pick, opA_call, opA_alloc, opA_box, opA_load, opA_store, opA_extract, opA_buildSlice, opA_indexAddr, opA_fieldAddr, aeval_int, aeval_bool, aeval_tmp, aeval_nilSlice, aeval_nilPointer, aeval_nilFunc, aeval_func, arK_val, arK_skip, arK_enter, arK_round, valK_some, valK_none, opsK_some, Option.map_some, Option.map_none, seqK_normal, seqK_ret, seqK_exit, blockK_normal, blockK_ret, blockK_exit, loopK_normal, loopK_ret, loopK_exit, List.getElem?_cons_zero, List.getElem?_cons_succ, Option.bind_some, reduceCtorEq, if_false, if_true, pickK_bool, condK_true, condK_false, endK_ret, endK_normal, resultsA_tmp, resultsA_nil, resVal, Option.some.injEq, Bool.true_eq_false, Bool.false_eq_true, List.map_cons, List.map_nil, binA_add, binA_sub, binA_mul, binA_lss, binA_leq, binA_gtr, binA_geq, binA_eql, binA_neq, callA_builtin, max_int, min_int, loadK_pointer, storeK_pointer, IntWalk.i64_in, IntWalk.i64_quo, binA_quo, binA_rem, Int.tmod_eq_emod_of_nonneg, loadA_rowK, storeA_int hsz3, putK_cell, rowK_cell ag3, rowK_row ag3, boxA_cell, al3, get_empty, next_empty, AH.get_set, AH.get_push, AH.next_set, AH.next_push, resultsA_cell, resK_pointer, roundA_G, roundG_loop, asgK_normal, bodyK_loop, ended_some, endRK_normal, endRK_ret, endRK_exit, rangeK_E, rangeE_ready, rangeE_done, rangeH, setAll, shut_nil, shut_cons, shutK_defs, endK_shut, outK_some, AH.get_kill, AH.next_kill, evalRegion_G, drawG_ok, drawK_all, trace_cons, trace_nil, traceK_some, List.all_cons, List.all_nil, sameRead_K, sameK_plain, sameK_guard, wantK_some, veqK_val, veq_int, veq_bool, veq_pointer, veq_slice, veq_nilSlice, Bool.and_true, Bool.and_self, List.getLast?_cons_cons, List.getLast?_singleton, len_slice one22, indexAddrA_one one22, ixK_slice, append_one one22, apK_nil, apK_some, apB_row, oneOf_row, bs22, Nat.reduceLeDiff, and_self, and_true, true_and, Int.reduceToNat, Int.reduceNe, List.take_succ_cons, List.take_zero, List.take_nil, List.length_cons, List.length_nil, List.cons_append, List.nil_append, Int.reduceLE, Int.reduceLT, Int.reduceEq, Int.reduceNeg, Int.reduceAdd, Int.reduceSub, Int.reduceMul, Int.reduceDiv, Nat.reduceAdd, Nat.reduceEqDiff, decide_true, decide_false, Try.f7, hT, p0, p1, d0, g13, g9, callA_func _ _ _ _ _ _ b9, callA_func _ _ _ _ _ _ b10, callA_func _ _ _ _ _ _ b11, callA_func _ _ _ _ _ _ b13, env_call (o0 _), extractA2]
    generalize hT0 : List.set _ 8 (Value.int IntKind.i64 0) = T0
    have v : T0.length = 105 := by rw [← hT0]; simp only [getD_set', List.length_set, Nat.reduceEqDiff, Nat.reduceLT, if_true, if_false, hT]
    have v0 : T0.getD 0 undef = .int .i64 (jn n - 1 + 1) := by rw [← hT0]; simp only [getD_set', List.length_set, Nat.reduceEqDiff, Nat.reduceLT, if_true, if_false, hT]; rw [show jn n - 1 + 1 = jn n by omega]
    have v1 : T0.getD 1 undef = .slice a l.length c := by rw [← hT0]; simp only [getD_set', List.length_set, Nat.reduceEqDiff, Nat.reduceLT, if_true, if_false, hT, p1]
    have v5 : T0.getD 5 undef = .pointer (some ⟨h.next, 0, none⟩) := by rw [← hT0]; simp only [getD_set', List.length_set, Nat.reduceEqDiff, Nat.reduceLT, if_true, if_false, hT]
    have v7 : T0.getD 7 undef = .int .i64 0 := by rw [← hT0]; simp only [getD_set', List.length_set, Nat.reduceEqDiff, Nat.reduceLT, if_true, if_false, hT]
    have v8 : T0.getD 8 undef = .int .i64 0 := by rw [← hT0]; simp only [getD_set', List.length_set, Nat.reduceEqDiff, Nat.reduceLT, if_true, if_false, hT]
    obtain ⟨T', h', e, w⟩ := loop7 l hf (by omega) a c h.next (jn n - 1) l.length 0 (by omega) T0 (h.push (ringObj (jn n - 1) 0 0)) 0 0 v v0 v1 v5 v7 v8
      (fun hne => by
        obtain ⟨β, o, e1, e2, e3⟩ := hR hne
        exact ⟨β, o, e1, by rw [AH.next_push]; omega, by omega, fun i x hi => by rw [AH.get_push, if_neg (by omega)]; exact e3 i x hi⟩)
      (by rw [AH.get_push, if_pos rfl]) (by unfold Ok; omega) (by rw [AH.next_push]; omega)
    simp only [l7, loopsOf, Try.f7, Option.getD_some] at e
    simp (maxSteps := 1000000) (disch := omega) only [stepVal_guardT, yD_some, yK_bool, yK_undef, getD_set', List.length_set, Nat.reduceLT, evalC_drawT, drawL_eq, trace_cons, trace_nil, traceK_some, pad, evalC_seq, evalC_region, evalC_cond, evalC_ret, evalC_skip, evalC_label, evalC_exit, evalC_scope, evalC_block, evalC_draw, runOps_cons, runOps_nil, stepOp_eq, stepVal_plain, yieldedA_lit, opA_assign, opA_move, opA_binOp, opA_pick, opA_call, opA_alloc, opA_box, opA_load, opA_store, opA_extract, opA_buildSlice, opA_indexAddr, opA_fieldAddr, aeval_int, aeval_bool, aeval_tmp, aeval_nilSlice, aeval_nilPointer, aeval_nilFunc, aeval_func, arK_val, arK_skip, arK_enter, arK_round, valK_some, valK_none, opsK_some, Option.map_some, Option.map_none, seqK_normal, seqK_ret, seqK_exit, blockK_normal, blockK_ret, blockK_exit, loopK_normal, loopK_ret, loopK_exit, List.getElem?_cons_zero, List.getElem?_cons_succ, Option.bind_some, reduceCtorEq, if_false, if_true, pickK_bool, condK_true, condK_false, endK_ret, endK_normal, resultsA_tmp, resultsA_nil, resVal, Option.some.injEq, Bool.true_eq_false, Bool.false_eq_true, List.map_cons, List.map_nil, binA_add, binA_sub, binA_mul, binA_lss, binA_leq, binA_gtr, binA_geq, binA_eql, binA_neq, callA_builtin, max_int, min_int, loadK_pointer, storeK_pointer, IntWalk.i64_in, IntWalk.i64_quo, binA_quo, binA_rem, Int.tmod_eq_emod_of_nonneg, loadA_rowK, storeA_int hsz3, putK_cell, rowK_cell ag3, rowK_row ag3, boxA_cell, al3, get_empty, next_empty, AH.get_set, AH.get_push, AH.next_set, AH.next_push, resultsA_cell, resK_pointer, roundA_G, roundG_loop, asgK_normal, bodyK_loop, ended_some, endRK_normal, endRK_ret, endRK_exit, rangeK_E, rangeE_ready, rangeE_done, rangeH, setAll, shut_nil, shut_cons, shutK_defs, endK_shut, outK_some, AH.get_kill, AH.next_kill, evalRegion_G, drawG_ok, drawK_all, trace_cons, trace_nil, traceK_some, List.all_cons, List.all_nil, sameRead_K, sameK_plain, sameK_guard, wantK_some, veqK_val, veq_int, veq_bool, veq_pointer, veq_slice, veq_nilSlice, Bool.and_true, Bool.and_self, List.getLast?_cons_cons, List.getLast?_singleton, len_slice one22, indexAddrA_one one22, ixK_slice, append_one one22, apK_nil, apK_some, apB_row, oneOf_row, bs22, Nat.reduceLeDiff, and_self, and_true, true_and, Int.reduceToNat, Int.reduceNe, List.take_succ_cons, List.take_zero, List.take_nil, List.length_cons, List.length_nil, List.cons_append, List.nil_append, Int.reduceLE, Int.reduceLT, Int.reduceEq, Int.reduceNeg, Int.reduceAdd, Int.reduceSub, Int.reduceMul, Int.reduceDiv, Nat.reduceAdd, Nat.reduceEqDiff, decide_true, decide_false, Try.f7, e, w]
end Go.Proofs.Ring
