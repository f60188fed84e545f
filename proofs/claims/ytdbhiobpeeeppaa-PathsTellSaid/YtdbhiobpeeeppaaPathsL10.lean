/-
  Paths: Tell.
-/
import Derived.Test.YtdbhiobpeeeppaaPathsL9
import Derived.Test.YtdbhiobpeeeppaaPathsM3
import Derived.Test.YtdbhiobpeeeppaaAeS9
namespace Go.Proofs.Paths
set_option linter.unusedSimpArgs false
set_option linter.unusedVariables false
open Go.AE
set_option maxRecDepth 100000
set_option maxHeartbeats 2000000

theorem Ri.congr {l : List Int} {a : Option Addr} {h h' : AH} (hr : Ri l a h) (he : ∀ x, a = some x → h'.get x.block = h.get x.block) : Ri l a h' := fun c => by
  have := hr c
  cases l with
  | nil => rfl
  | cons x l =>
    cases a with
    | none => cases (show (none : Option (List Int)) = some (x :: l) from this)
    | some a =>
      obtain ⟨β, oo, sp⟩ := a
      have eg : h'.get β = h.get β := he _ rfl
      cases sp with
      | none =>
        rw [← this]
        show (match AH.get _ β with | some (.cells c m _ _ _ _ _ d) => if oo + (x :: l).length ≤ m then intsOf (rowA c d oo (x :: l).length) else none | _ => none) = (match AH.get _ β with | some (.cells c m _ _ _ _ _ d) => if oo + (x :: l).length ≤ m then intsOf (rowA c d oo (x :: l).length) else none | _ => none)
        rw [eg]
      | some _ => cases (show (none : Option (List Int)) = some (x :: l) from this)

def PP (n : Int) : Int := if 0 ≤ n ∧ n < 65536 then ptrOf n else 0
def WW (n : Int) : List Int := if 0 ≤ n ∧ n < 65536 then way n else []
def FF (n : Int) : Int := if 0 ≤ n ∧ n < 65536 then 0 else 100
def baa (n : Int) (h : AH) : Option Addr := if WW n = [] then none else some ⟨h.next, 0, none⟩
def hvv (n : Int) (h : AH) : AH := if WW n = [] then h else h.push (rowObj ((WW n).map (.int .i64)) 3 0 false)
def hww (n : Int) (h : AH) : AH := if WW n = [] then h else h.push (rowObj ((WW n).map (.int .i64)) 3 1 true)
theorem g16_all {n : Int} (hp : -9223372036854775808 ≤ n ∧ n ≤ 9223372036854775807) (h : AH) : g16 ⟨[.int .i64 n]⟩ h = some (.tuple ⟨[.int .i64 (PP n), .slice (baa n h) (WW n).length (WW n).length, .int .i64 (FF n)]⟩, hvv n h) := by
  by_cases c : 0 ≤ n ∧ n < 65536
  · rw [g16_in c.1 c.2]; unfold PP baa hvv WW FF ba hv; simp only [c, and_self, if_true]
  · rw [g16_no hp (by omega)]; unfold PP baa hvv WW FF; simp only [c, if_false, if_true]; rfl
theorem g17_all {n : Int} (hp : -9223372036854775808 ≤ n ∧ n ≤ 9223372036854775807) (h : AH) : g17 ⟨[.int .i64 n]⟩ h = some (.tuple ⟨[.int .i64 (PP n), .slice (baa n h) (WW n).length (WW n).length, .int .i64 (FF n)]⟩, hww n h) := by
  by_cases c : 0 ≤ n ∧ n < 65536
  · rw [g17_in c.1 c.2]; unfold PP baa hww WW FF ba hw; simp only [c, and_self, if_true]
  · rw [g17_no hp (by omega)]; unfold PP baa hww WW FF; simp only [c, if_false, if_true]; rfl
theorem WW_len (n : Int) : (WW n).length ≤ 3 := by
  unfold WW; split
  · exact way_len n
  · simp
theorem Ri.ownA (n : Int) (h : AH) : Ri (WW n) (baa n h) (hww n h) := fun c => by
  unfold baa hww
  by_cases e : WW n = []
  · rw [e]; rfl
  · rw [if_neg e, if_neg e]
    exact readInts_row (by rw [AH.get_push, if_pos rfl]) c
theorem Ri.ownB (n : Int) (h : AH) : Ri (WW n) (baa n h) (hvv n h) := fun c => by
  unfold baa hvv
  by_cases e : WW n = []
  · rw [e]; rfl
  · rw [if_neg e, if_neg e]
    exact readInts_row (by rw [AH.get_push, if_pos rfl]) c
theorem Ri.hww {l : List Int} {a : Option Addr} {h : AH} (hr : Ri l a h) (hlt : ∀ x, a = some x → x.block < h.next) (n : Int) : Ri l a (hww n h) := by
  unfold Paths.hww; split
  · exact hr
  · exact hr.push hlt _
theorem baa_lt (n : Int) (h : AH) : ∀ x, baa n h = some x → x.block < (hvv n h).next := fun x e => by
  unfold baa at e; unfold hvv
  split at e
  · cases e
  · rename_i hne; cases e; rw [if_neg hne, AH.next_push]; exact Nat.lt_succ_self _

def ovT : Over := table [(17, g17), (16, g16), (15, g15), (18, g1 lvl), (19, g1 lvl), (20, g1 spn), (21, g1 spn), (22, g1 frs), (23, g1 frs), (24, g1 nxt), (25, g1 nxt), (26, g1 ind), (27, g1 ind)]
theorem ovT_ok : OverOk Try.prog ovT := OverOk.table fun p hp => by
  simp only [List.mem_cons, List.not_mem_nil, or_false] at hp
  rcases hp with rfl | rfl | rfl | rfl | rfl | rfl | rfl | rfl | rfl | rfl | rfl | rfl | rfl
  · exact s17
  · exact s16
  · exact s15
  · exact s18
  · exact s19
  · exact s20
  · exact s21
  · exact s22
  · exact s23
  · exact s24
  · exact s25
  · exact s26
  · exact s27
theorem ovT17 : ovT 17 = some g17 := rfl
theorem ovT16 : ovT 16 = some g16 := rfl
theorem ovT15 : ovT 15 = some g15 := rfl
theorem ovT18 : ovT 18 = some (g1 lvl) := rfl
theorem ovT19 : ovT 19 = some (g1 lvl) := rfl
theorem ovT20 : ovT 20 = some (g1 spn) := rfl
theorem ovT21 : ovT 21 = some (g1 spn) := rfl
theorem ovT22 : ovT 22 = some (g1 frs) := rfl
theorem ovT23 : ovT 23 = some (g1 frs) := rfl
theorem ovT24 : ovT 24 = some (g1 nxt) := rfl
theorem ovT25 : ovT 25 = some (g1 nxt) := rfl
theorem ovT26 : ovT 26 = some (g1 ind) := rfl
theorem ovT27 : ovT 27 = some (g1 ind) := rfl
theorem b25 : ((Try.prog.funcs[25]?).bind (·.body)).isSome = true := rfl
theorem b27 : ((Try.prog.funcs[27]?).bind (·.body)).isSome = true := rfl

noncomputable def l4 : Code := (loopsOf (Try.f4.body.getD .skip)).getD .skip
noncomputable def l4i : Code := (loopsOf l4).getD .skip

theorem loop4i (L : Nat) (B : Option Addr) (cB : Nat) : ∀ (r k : Nat), k + r = L → ∀ N, r + 2 ≤ N → ∀ (T : List Value) (h : AH), T.length = 83 → T.getD 8 undef = .slice B L cB → T.getD 10 undef = .int .i64 k → L ≤ 3 →
      (L ≠ 0 → ∃ β l', B = some ⟨β, 0, none⟩ ∧ h.get β = some (rowObj l' 3 1 true) ∧ l'.length = L) →
      ∃ T' h', evalC Try.prog (env Try.prog ovT N) none (.loop l4i) ⟨⟨T⟩, [], h⟩ = some (.exit 2, ⟨⟨T'⟩, [], h'⟩) ∧ T'.length = 83 ∧ (∀ j, j < 10 → T'.getD j undef = T.getD j undef) ∧ h'.next = h.next ∧
        ∀ γ, B ≠ some ⟨γ, 0, none⟩ → h'.get γ = h.get γ := by
  intro r
  induction r with
  | zero =>
    intro k hk N hN T h hT t8 t10 hL hB
    obtain ⟨N, rfl⟩ : ∃ M, N = M + 1 := ⟨N - 1, by omega⟩
    have c1 : decide ((k : Int) < (L : Int)) = false := by simp; omega
    rw [evalC_loop]
    simp (maxSteps := 1000000) (disch := omega) only [stepVal_guardT, yD_some, yK_bool, yK_undef, getD_set', List.length_set, Nat.reduceLT, evalC_drawT, drawL_eq, trace_cons, trace_nil, traceK_some, pad, evalC_seq, evalC_region, evalC_cond, evalC_ret, evalC_skip, evalC_label, evalC_exit, evalC_scope, evalC_block, evalC_draw, runOps_cons, runOps_nil, stepOp_eq, stepVal_plain, yieldedA_lit, opA_assign, opA_move, opA_binOp, opA_pick, opA_call, opA_alloc, opA_box, opA_load, opA_store, opA_extract, opA_buildSlice, opA_indexAddr, opA_fieldAddr, aeval_int, aeval_bool, aeval_tmp, aeval_nilSlice, aeval_nilPointer, aeval_nilFunc, aeval_func, arK_val, arK_skip, arK_enter, arK_round, valK_some, valK_none, opsK_some, Option.map_some, Option.map_none, seqK_normal, seqK_ret, seqK_exit, blockK_normal, blockK_ret, blockK_exit, loopK_normal, loopK_ret, loopK_exit, List.getElem?_cons_zero, List.getElem?_cons_succ, Option.bind_some, reduceCtorEq, if_false, if_true, pickK_bool, condK_true, condK_false, endK_ret, endK_normal, resultsA_tmp, resultsA_nil, resVal, Option.some.injEq, Bool.true_eq_false, Bool.false_eq_true, List.map_cons, List.map_nil, binA_add, binA_sub, binA_mul, binA_lss, binA_leq, binA_gtr, binA_geq, binA_eql, binA_neq, callA_builtin, max_int, min_int, loadK_pointer, storeK_pointer, IntWalk.i64_in, IntWalk.i64_quo, binA_quo, binA_rem, Int.tmod_eq_emod_of_nonneg, loadA_rowK, storeA_int hsz3, putK_cell, rowK_cell ag3, rowK_row ag3, boxA_cell, al3, get_empty, next_empty, AH.get_set, AH.get_push, AH.next_set, AH.next_push, resultsA_cell, resK_pointer, roundA_G, roundG_loop, asgK_normal, bodyK_loop, ended_some, endRK_normal, endRK_ret, endRK_exit, rangeK_E, rangeE_ready, rangeE_done, rangeH, setAll, shut_nil, shut_cons, shutK_defs, endK_shut, outK_some, AH.get_kill, AH.next_kill, evalRegion_G, drawG_ok, drawK_all, trace_cons, trace_nil, traceK_some, List.all_cons, List.all_nil, sameRead_K, sameK_plain, sameK_guard, wantK_some, veqK_val, veq_int, veq_bool, veq_pointer, veq_slice, veq_nilSlice, Bool.and_true, Bool.and_self, List.getLast?_cons_cons, List.getLast?_singleton, len_slice one22, indexAddrA_one one22, ixK_slice, append_one one22, apK_nil, apK_some, apB_row, oneOf_row, bs22, Nat.reduceLeDiff, and_self, and_true, true_and, Int.reduceToNat, Int.reduceNe, List.take_succ_cons, List.take_zero, List.take_nil, List.length_cons, List.length_nil, List.cons_append, List.nil_append, Int.reduceLE, Int.reduceLT, Int.reduceEq, Int.reduceNeg, Int.reduceAdd, Int.reduceSub, Int.reduceMul, Int.reduceDiv, Nat.reduceAdd, Nat.reduceEqDiff, decide_true, decide_false, l4i, l4, loopsOf, Option.getD_some, c1, Try.f4, hT, t8, t10]
    exact ⟨_, _, rfl, by simp only [getD_set', List.length_set, Nat.reduceEqDiff, Nat.reduceLT, if_true, if_false, hT], fun j hj => by simp (disch := omega) only [setD_ne], rfl, fun _ _ => rfl⟩
  | succ r ih =>
    simp only [l4i, l4, loopsOf, Try.f4, Option.getD_some] at ih
    intro k hk N hN T h hT t8 t10 hL hB
    obtain ⟨N, rfl⟩ : ∃ M, N = M + 1 := ⟨N - 1, by omega⟩
    obtain ⟨β, l', rfl, hβ, hl'⟩ := hB (by omega)
    have c1 : decide ((k : Int) < (L : Int)) = true := by simp; omega
    have i1 : 0 ≤ (k : Int) ∧ (k : Int) < (L : Int) := by omega
    have i2 : k < l'.length := by omega
    have hk1 : ((k + 1 : Nat) : Int) = (k : Int) + 1 := rfl
    rw [evalC_loop]
    simp (maxSteps := 1000000) (disch := omega) only [stepVal_guardT, yD_some, yK_bool, yK_undef, getD_set', List.length_set, Nat.reduceLT, evalC_drawT, drawL_eq, trace_cons, trace_nil, traceK_some, pad, evalC_seq, evalC_region, evalC_cond, evalC_ret, evalC_skip, evalC_label, evalC_exit, evalC_scope, evalC_block, evalC_draw, runOps_cons, runOps_nil, stepOp_eq, stepVal_plain, yieldedA_lit, opA_assign, opA_move, opA_binOp, opA_pick, opA_call, opA_alloc, opA_box, opA_load, opA_store, opA_extract, opA_buildSlice, opA_indexAddr, opA_fieldAddr, aeval_int, aeval_bool, aeval_tmp, aeval_nilSlice, aeval_nilPointer, aeval_nilFunc, aeval_func, arK_val, arK_skip, arK_enter, arK_round, valK_some, valK_none, opsK_some, Option.map_some, Option.map_none, seqK_normal, seqK_ret, seqK_exit, blockK_normal, blockK_ret, blockK_exit, loopK_normal, loopK_ret, loopK_exit, List.getElem?_cons_zero, List.getElem?_cons_succ, Option.bind_some, reduceCtorEq, if_false, if_true, pickK_bool, condK_true, condK_false, endK_ret, endK_normal, resultsA_tmp, resultsA_nil, resVal, Option.some.injEq, Bool.true_eq_false, Bool.false_eq_true, List.map_cons, List.map_nil, binA_add, binA_sub, binA_mul, binA_lss, binA_leq, binA_gtr, binA_geq, binA_eql, binA_neq, callA_builtin, max_int, min_int, loadK_pointer, storeK_pointer, IntWalk.i64_in, IntWalk.i64_quo, binA_quo, binA_rem, Int.tmod_eq_emod_of_nonneg, loadA_rowK, storeA_int hsz3, putK_cell, rowK_cell ag3, rowK_row ag3, boxA_cell, al3, get_empty, next_empty, AH.get_set, AH.get_push, AH.next_set, AH.next_push, resultsA_cell, resK_pointer, roundA_G, roundG_loop, asgK_normal, bodyK_loop, ended_some, endRK_normal, endRK_ret, endRK_exit, rangeK_E, rangeE_ready, rangeE_done, rangeH, setAll, shut_nil, shut_cons, shutK_defs, endK_shut, outK_some, AH.get_kill, AH.next_kill, evalRegion_G, drawG_ok, drawK_all, trace_cons, trace_nil, traceK_some, List.all_cons, List.all_nil, sameRead_K, sameK_plain, sameK_guard, wantK_some, veqK_val, veq_int, veq_bool, veq_pointer, veq_slice, veq_nilSlice, Bool.and_true, Bool.and_self, List.getLast?_cons_cons, List.getLast?_singleton, len_slice one22, indexAddrA_one one22, ixK_slice, append_one one22, apK_nil, apK_some, apB_row, oneOf_row, bs22, Nat.reduceLeDiff, and_self, and_true, true_and, Int.reduceToNat, Int.reduceNe, List.take_succ_cons, List.take_zero, List.take_nil, List.length_cons, List.length_nil, List.cons_append, List.nil_append, Int.reduceLE, Int.reduceLT, Int.reduceEq, Int.reduceNeg, Int.reduceAdd, Int.reduceSub, Int.reduceMul, Int.reduceDiv, Nat.reduceAdd, Nat.reduceEqDiff, decide_true, decide_false, l4i, l4, loopsOf, Option.getD_some, c1, Try.f4, hT, t8, t10, i1, i2, Int.toNat_natCast, Nat.zero_add, hβ, storeA_intR hsz3, stK_row, env_code]
    refine Exists.imp (fun T' hh => Exists.imp (fun h' hh => ⟨hh.1, hh.2.1, fun j hj => (hh.2.2.1 j hj).trans (by simp (disch := omega) only [setD_ne]), hh.2.2.2.1, fun γ hγ => (hh.2.2.2.2 γ hγ).trans (by rw [AH.get_set, if_neg (fun e => hγ (by rw [e]))])⟩) hh) (ih (k + 1) (by omega) N (by omega) _ _ ?_ ?_ ?_ hL ?_)
    · simp only [getD_set', List.length_set, Nat.reduceEqDiff, Nat.reduceLT, if_true, if_false, hT]
    · simp only [getD_set', List.length_set, Nat.reduceEqDiff, Nat.reduceLT, if_true, if_false, hT, t8]
    · simp only [getD_set', List.length_set, Nat.reduceEqDiff, Nat.reduceLT, if_true, if_false, hT, hk1]
    · exact fun _ => ⟨β, _, rfl, by rw [AH.get_set, if_pos rfl], by rw [List.length_set]; exact hl'⟩

theorem loop4 (n : Int) (hp : -9223372036854775808 ≤ n ∧ n ≤ 9223372036854775807) (A : Option Addr) (cA : Nat) : ∀ (r k : Nat), k + r = 2 → ∀ (T : List Value) (h : AH), T.length = 83 → T.getD 0 undef = .int .i64 n → T.getD 3 undef = .int .i64 (PP n) → T.getD 4 undef = .slice A (WW n).length cA → T.getD 5 undef = .int .i64 (FF n) → T.getD 6 undef = .int .i64 k →
      Ri (WW n) A h → (∀ x, A = some x → x.block < h.next) →
      ∃ T' h', evalC Try.prog (env Try.prog ovT (r + 8)) none (.loop l4) ⟨⟨T⟩, [], h⟩ = some (.exit 0, ⟨⟨T'⟩, [], h'⟩) ∧ T'.length = 83 ∧ T'.getD 0 undef = .int .i64 n := by
  have hL := WW_len n
  have d1 : decide (PP n ≠ PP n) = false := by simp
  have d2 : decide (FF n ≠ FF n) = false := by simp
  intro r
  induction r with
  | zero =>
    intro k hk T h hT t0 t3 t4 t5 t6 hR hlt
    have c1 : decide ((k : Int) < 2) = false := by simp; omega
    rw [evalC_loop]
    simp (maxSteps := 1000000) (disch := omega) only [stepVal_guardT, yD_some, yK_bool, yK_undef, getD_set', List.length_set, Nat.reduceLT, evalC_drawT, drawL_eq, trace_cons, trace_nil, traceK_some, pad, evalC_seq, evalC_region, evalC_cond, evalC_ret, evalC_skip, evalC_label, evalC_exit, evalC_scope, evalC_block, evalC_draw, runOps_cons, runOps_nil, stepOp_eq, stepVal_plain, yieldedA_lit, opA_assign, opA_move, opA_binOp, opA_pick, opA_call, opA_alloc, opA_box, opA_load, opA_store, opA_extract, opA_buildSlice, opA_indexAddr, opA_fieldAddr, aeval_int, aeval_bool, aeval_tmp, aeval_nilSlice, aeval_nilPointer, aeval_nilFunc, aeval_func, arK_val, arK_skip, arK_enter, arK_round, valK_some, valK_none, opsK_some, Option.map_some, Option.map_none, seqK_normal, seqK_ret, seqK_exit, blockK_normal, blockK_ret, blockK_exit, loopK_normal, loopK_ret, loopK_exit, List.getElem?_cons_zero, List.getElem?_cons_succ, Option.bind_some, reduceCtorEq, if_false, if_true, pickK_bool, condK_true, condK_false, endK_ret, endK_normal, resultsA_tmp, resultsA_nil, resVal, Option.some.injEq, Bool.true_eq_false, Bool.false_eq_true, List.map_cons, List.map_nil, binA_add, binA_sub, binA_mul, binA_lss, binA_leq, binA_gtr, binA_geq, binA_eql, binA_neq, callA_builtin, max_int, min_int, loadK_pointer, storeK_pointer, IntWalk.i64_in, IntWalk.i64_quo, binA_quo, binA_rem, Int.tmod_eq_emod_of_nonneg, loadA_rowK, storeA_int hsz3, putK_cell, rowK_cell ag3, rowK_row ag3, boxA_cell, al3, get_empty, next_empty, AH.get_set, AH.get_push, AH.next_set, AH.next_push, resultsA_cell, resK_pointer, roundA_G, roundG_loop, asgK_normal, bodyK_loop, ended_some, endRK_normal, endRK_ret, endRK_exit, rangeK_E, rangeE_ready, rangeE_done, rangeH, setAll, shut_nil, shut_cons, shutK_defs, endK_shut, outK_some, AH.get_kill, AH.next_kill, evalRegion_G, drawG_ok, drawK_all, trace_cons, trace_nil, traceK_some, List.all_cons, List.all_nil, sameRead_K, sameK_plain, sameK_guard, wantK_some, veqK_val, veq_int, veq_bool, veq_pointer, veq_slice, veq_nilSlice, Bool.and_true, Bool.and_self, List.getLast?_cons_cons, List.getLast?_singleton, len_slice one22, indexAddrA_one one22, ixK_slice, append_one one22, apK_nil, apK_some, apB_row, oneOf_row, bs22, Nat.reduceLeDiff, and_self, and_true, true_and, Int.reduceToNat, Int.reduceNe, List.take_succ_cons, List.take_zero, List.take_nil, List.length_cons, List.length_nil, List.cons_append, List.nil_append, Int.reduceLE, Int.reduceLT, Int.reduceEq, Int.reduceNeg, Int.reduceAdd, Int.reduceSub, Int.reduceMul, Int.reduceDiv, Nat.reduceAdd, Nat.reduceEqDiff, decide_true, decide_false, l4, loopsOf, Option.getD_some, c1, Try.f4, hT, t0, t6]
    exact ⟨_, _, rfl, by simp only [getD_set', List.length_set, Nat.reduceEqDiff, Nat.reduceLT, if_true, if_false, hT], by simp only [getD_set', List.length_set, Nat.reduceEqDiff, Nat.reduceLT, if_true, if_false, hT, t0]⟩
  | succ r ih =>
    simp only [l4, loopsOf, Try.f4, Option.getD_some] at ih
    intro k hk T h hT t0 t3 t4 t5 t6 hR hlt
    have c1 : decide ((k : Int) < 2) = true := by simp; omega
    have hk1 : ((k + 1 : Nat) : Int) = (k : Int) + 1 := rfl
    have ga := g17_all hp h
    have gs := g15_of (c := (WW n).length) (d := cA) (Ri.ownA n h) (hR.hww hlt n) (by omega) (by omega)
    rw [same_self] at gs
    rw [evalC_loop]
    simp (maxSteps := 1000000) (disch := omega) only [stepVal_guardT, yD_some, yK_bool, yK_undef, getD_set', List.length_set, Nat.reduceLT, evalC_drawT, drawL_eq, trace_cons, trace_nil, traceK_some, pad, evalC_seq, evalC_region, evalC_cond, evalC_ret, evalC_skip, evalC_label, evalC_exit, evalC_scope, evalC_block, evalC_draw, runOps_cons, runOps_nil, stepOp_eq, stepVal_plain, yieldedA_lit, opA_assign, opA_move, opA_binOp, opA_pick, opA_call, opA_alloc, opA_box, opA_load, opA_store, opA_extract, opA_buildSlice, opA_indexAddr, opA_fieldAddr, aeval_int, aeval_bool, aeval_tmp, aeval_nilSlice, aeval_nilPointer, aeval_nilFunc, aeval_func, arK_val, arK_skip, arK_enter, arK_round, valK_some, valK_none, opsK_some, Option.map_some, Option.map_none, seqK_normal, seqK_ret, seqK_exit, blockK_normal, blockK_ret, blockK_exit, loopK_normal, loopK_ret, loopK_exit, List.getElem?_cons_zero, List.getElem?_cons_succ, Option.bind_some, reduceCtorEq, if_false, if_true, pickK_bool, condK_true, condK_false, endK_ret, endK_normal, resultsA_tmp, resultsA_nil, resVal, Option.some.injEq, Bool.true_eq_false, Bool.false_eq_true, List.map_cons, List.map_nil, binA_add, binA_sub, binA_mul, binA_lss, binA_leq, binA_gtr, binA_geq, binA_eql, binA_neq, callA_builtin, max_int, min_int, loadK_pointer, storeK_pointer, IntWalk.i64_in, IntWalk.i64_quo, binA_quo, binA_rem, Int.tmod_eq_emod_of_nonneg, loadA_rowK, storeA_int hsz3, putK_cell, rowK_cell ag3, rowK_row ag3, boxA_cell, al3, get_empty, next_empty, AH.get_set, AH.get_push, AH.next_set, AH.next_push, resultsA_cell, resK_pointer, roundA_G, roundG_loop, asgK_normal, bodyK_loop, ended_some, endRK_normal, endRK_ret, endRK_exit, rangeK_E, rangeE_ready, rangeE_done, rangeH, setAll, shut_nil, shut_cons, shutK_defs, endK_shut, outK_some, AH.get_kill, AH.next_kill, evalRegion_G, drawG_ok, drawK_all, trace_cons, trace_nil, traceK_some, List.all_cons, List.all_nil, sameRead_K, sameK_plain, sameK_guard, wantK_some, veqK_val, veq_int, veq_bool, veq_pointer, veq_slice, veq_nilSlice, Bool.and_true, Bool.and_self, List.getLast?_cons_cons, List.getLast?_singleton, len_slice one22, indexAddrA_one one22, ixK_slice, append_one one22, apK_nil, apK_some, apB_row, oneOf_row, bs22, Nat.reduceLeDiff, and_self, and_true, true_and, Int.reduceToNat, Int.reduceNe, List.take_succ_cons, List.take_zero, List.take_nil, List.length_cons, List.length_nil, List.cons_append, List.nil_append, Int.reduceLE, Int.reduceLT, Int.reduceEq, Int.reduceNeg, Int.reduceAdd, Int.reduceSub, Int.reduceMul, Int.reduceDiv, Nat.reduceAdd, Nat.reduceEqDiff, decide_true, decide_false, l4, loopsOf, Option.getD_some, c1, Try.f4, hT, t0, t3, t4, t5, t6, ga, gs, d1, d2, extractA3, opA_unOp_not, notG_bool, Bool.not_true, Bool.not_false, callA_func _ _ _ _ _ _ b17, callA_func _ _ _ _ _ _ b15, env_call_ov ovT17, env_call_ov ovT15]
    generalize hT0 : List.set _ 10 (Value.int IntKind.i64 0) = T0
    have u : T0.length = 83 := by rw [← hT0]; simp only [getD_set', List.length_set, Nat.reduceEqDiff, Nat.reduceLT, if_true, if_false, hT]
    have u0 : T0.getD 0 undef = .int .i64 n := by rw [← hT0]; simp only [getD_set', List.length_set, Nat.reduceEqDiff, Nat.reduceLT, if_true, if_false, hT, t0]
    have u3 : T0.getD 3 undef = .int .i64 (PP n) := by rw [← hT0]; simp only [getD_set', List.length_set, Nat.reduceEqDiff, Nat.reduceLT, if_true, if_false, hT, t3]
    have u4 : T0.getD 4 undef = .slice A (WW n).length cA := by rw [← hT0]; simp only [getD_set', List.length_set, Nat.reduceEqDiff, Nat.reduceLT, if_true, if_false, hT, t4]
    have u5 : T0.getD 5 undef = .int .i64 (FF n) := by rw [← hT0]; simp only [getD_set', List.length_set, Nat.reduceEqDiff, Nat.reduceLT, if_true, if_false, hT, t5]
    have u6 : T0.getD 6 undef = .int .i64 k := by rw [← hT0]; simp only [getD_set', List.length_set, Nat.reduceEqDiff, Nat.reduceLT, if_true, if_false, hT, t6]
    have u8 : T0.getD 8 undef = .slice (baa n h) (WW n).length (WW n).length := by rw [← hT0]; simp only [getD_set', List.length_set, Nat.reduceEqDiff, Nat.reduceLT, if_true, if_false, hT]
    have u10 : T0.getD 10 undef = .int .i64 ((0 : Nat) : Int) := by rw [← hT0]; simp only [getD_set', List.length_set, Nat.reduceEqDiff, Nat.reduceLT, if_true, if_false, hT]; rfl
    obtain ⟨T', h', e, v, vj, vn, vg⟩ := loop4i (WW n).length (baa n h) (WW n).length (WW n).length 0 (by omega) (r + 1 + 8) (by omega) T0 (hww n h) u u8 u10 hL (fun hne => by
      have hne' : WW n ≠ [] := fun e => hne (by rw [e]; rfl)
      refine ⟨h.next, (WW n).map (.int .i64), by unfold baa; rw [if_neg hne'], ?_, by simp⟩
      unfold hww; rw [if_neg hne', AH.get_push, if_pos rfl])
    simp only [l4i, l4, loopsOf, Try.f4, Option.getD_some] at e
    have w0 := (vj 0 (by decide)).trans u0
    have w3 := (vj 3 (by decide)).trans u3
    have w4 := (vj 4 (by decide)).trans u4
    have w5 := (vj 5 (by decide)).trans u5
    have w6 := (vj 6 (by decide)).trans u6
    simp (maxSteps := 1000000) (disch := omega) only [stepVal_guardT, yD_some, yK_bool, yK_undef, getD_set', List.length_set, Nat.reduceLT, evalC_drawT, drawL_eq, trace_cons, trace_nil, traceK_some, pad, evalC_seq, evalC_region, evalC_cond, evalC_ret, evalC_skip, evalC_label, evalC_exit, evalC_scope, evalC_block, evalC_draw, runOps_cons, runOps_nil, stepOp_eq, stepVal_plain, yieldedA_lit, opA_assign, opA_move, opA_binOp, opA_pick, opA_call, opA_alloc, opA_box, opA_load, opA_store, opA_extract, opA_buildSlice, opA_indexAddr, opA_fieldAddr, aeval_int, aeval_bool, aeval_tmp, aeval_nilSlice, aeval_nilPointer, aeval_nilFunc, aeval_func, arK_val, arK_skip, arK_enter, arK_round, valK_some, valK_none, opsK_some, Option.map_some, Option.map_none, seqK_normal, seqK_ret, seqK_exit, blockK_normal, blockK_ret, blockK_exit, loopK_normal, loopK_ret, loopK_exit, List.getElem?_cons_zero, List.getElem?_cons_succ, Option.bind_some, reduceCtorEq, if_false, if_true, pickK_bool, condK_true, condK_false, endK_ret, endK_normal, resultsA_tmp, resultsA_nil, resVal, Option.some.injEq, Bool.true_eq_false, Bool.false_eq_true, List.map_cons, List.map_nil, binA_add, binA_sub, binA_mul, binA_lss, binA_leq, binA_gtr, binA_geq, binA_eql, binA_neq, callA_builtin, max_int, min_int, loadK_pointer, storeK_pointer, IntWalk.i64_in, IntWalk.i64_quo, binA_quo, binA_rem, Int.tmod_eq_emod_of_nonneg, loadA_rowK, storeA_int hsz3, putK_cell, rowK_cell ag3, rowK_row ag3, boxA_cell, al3, get_empty, next_empty, AH.get_set, AH.get_push, AH.next_set, AH.next_push, resultsA_cell, resK_pointer, roundA_G, roundG_loop, asgK_normal, bodyK_loop, ended_some, endRK_normal, endRK_ret, endRK_exit, rangeK_E, rangeE_ready, rangeE_done, rangeH, setAll, shut_nil, shut_cons, shutK_defs, endK_shut, outK_some, AH.get_kill, AH.next_kill, evalRegion_G, drawG_ok, drawK_all, trace_cons, trace_nil, traceK_some, List.all_cons, List.all_nil, sameRead_K, sameK_plain, sameK_guard, wantK_some, veqK_val, veq_int, veq_bool, veq_pointer, veq_slice, veq_nilSlice, Bool.and_true, Bool.and_self, List.getLast?_cons_cons, List.getLast?_singleton, len_slice one22, indexAddrA_one one22, ixK_slice, append_one one22, apK_nil, apK_some, apB_row, oneOf_row, bs22, Nat.reduceLeDiff, and_self, and_true, true_and, Int.reduceToNat, Int.reduceNe, List.take_succ_cons, List.take_zero, List.take_nil, List.length_cons, List.length_nil, List.cons_append, List.nil_append, Int.reduceLE, Int.reduceLT, Int.reduceEq, Int.reduceNeg, Int.reduceAdd, Int.reduceSub, Int.reduceMul, Int.reduceDiv, Nat.reduceAdd, Nat.reduceEqDiff, decide_true, decide_false, Try.f4, e, v, w0, w3, w4, w5, w6, env_code]
    have hnx : h.next ≤ (hww n h).next := by
      unfold hww; split
      · exact Nat.le_refl _
      · rw [AH.next_push]; omega
    refine ih (k + 1) (by omega) _ _ ?_ ?_ ?_ ?_ ?_ ?_ ?_ ?_
    · simp only [getD_set', List.length_set, Nat.reduceEqDiff, Nat.reduceLT, if_true, if_false, v]
    · simp only [getD_set', List.length_set, Nat.reduceEqDiff, Nat.reduceLT, if_true, if_false, v, w0]
    · simp only [getD_set', List.length_set, Nat.reduceEqDiff, Nat.reduceLT, if_true, if_false, v, w3]
    · simp only [getD_set', List.length_set, Nat.reduceEqDiff, Nat.reduceLT, if_true, if_false, v, w4]
    · simp only [getD_set', List.length_set, Nat.reduceEqDiff, Nat.reduceLT, if_true, if_false, v, w5]
    · simp only [getD_set', List.length_set, Nat.reduceEqDiff, Nat.reduceLT, if_true, if_false, v, hk1]
    · refine (hR.hww hlt n).congr fun x hx => vg _ fun e => ?_
      have := hlt x hx
      unfold baa at e
      split at e
      · cases e
      · simp only [Option.some.injEq, Addr.mk.injEq] at e; omega
    · intro x hx
      have := hlt x hx
      omega

theorem e4 (n : Int) (hp : -9223372036854775808 ≤ n ∧ n ≤ 9223372036854775807) : ∃ m, (callFn Try.prog (env Try.prog ovT m) 4 ⟨[.int .i64 n]⟩ ⟨.leaf, 0⟩).map (·.1) = some (.bool true) := by
  refine ⟨10, ?_⟩
  refine callFn_Tm Try.func4 rfl _ _ (by show 1 ≤ 83; decide) fun T hT hq => ?_
  have p0 : T.getD 0 undef = .int .i64 n := hq 0
  replace hT : T.length = 83 := hT
  have ga := g16_all hp ⟨.leaf, 0⟩
  simp (maxSteps := 1000000) (disch := omega) only [stepVal_guardT, yD_some, yK_bool, yK_undef, getD_set', List.length_set, Nat.reduceLT, evalC_drawT, drawL_eq, trace_cons, trace_nil, traceK_some, pad, evalC_seq, evalC_region, evalC_cond, evalC_ret, evalC_skip, evalC_label, evalC_exit, evalC_scope, evalC_block, evalC_draw, runOps_cons, runOps_nil, stepOp_eq, stepVal_plain, yieldedA_lit, opA_assign, opA_move, opA_binOp, opA_pick, opA_call, opA_alloc, opA_box, opA_load, opA_store, opA_extract, opA_buildSlice, opA_indexAddr, opA_fieldAddr, aeval_int, aeval_bool, aeval_tmp, aeval_nilSlice, aeval_nilPointer, aeval_nilFunc, aeval_func, arK_val, arK_skip, arK_enter, arK_round, valK_some, valK_none, opsK_some, Option.map_some, Option.map_none, seqK_normal, seqK_ret, seqK_exit, blockK_normal, blockK_ret, blockK_exit, loopK_normal, loopK_ret, loopK_exit, List.getElem?_cons_zero, List.getElem?_cons_succ, Option.bind_some, reduceCtorEq, if_false, if_true, pickK_bool, condK_true, condK_false, endK_ret, endK_normal, resultsA_tmp, resultsA_nil, resVal, Option.some.injEq, Bool.true_eq_false, Bool.false_eq_true, List.map_cons, List.map_nil, binA_add, binA_sub, binA_mul, binA_lss, binA_leq, binA_gtr, binA_geq, binA_eql, binA_neq, callA_builtin, max_int, min_int, loadK_pointer, storeK_pointer, IntWalk.i64_in, IntWalk.i64_quo, binA_quo, binA_rem, Int.tmod_eq_emod_of_nonneg, loadA_rowK, storeA_int hsz3, putK_cell, rowK_cell ag3, rowK_row ag3, boxA_cell, al3, get_empty, next_empty, AH.get_set, AH.get_push, AH.next_set, AH.next_push, resultsA_cell, resK_pointer, roundA_G, roundG_loop, asgK_normal, bodyK_loop, ended_some, endRK_normal, endRK_ret, endRK_exit, rangeK_E, rangeE_ready, rangeE_done, rangeH, setAll, shut_nil, shut_cons, shutK_defs, endK_shut, outK_some, AH.get_kill, AH.next_kill, evalRegion_G, drawG_ok, drawK_all, trace_cons, trace_nil, traceK_some, List.all_cons, List.all_nil, sameRead_K, sameK_plain, sameK_guard, wantK_some, veqK_val, veq_int, veq_bool, veq_pointer, veq_slice, veq_nilSlice, Bool.and_true, Bool.and_self, List.getLast?_cons_cons, List.getLast?_singleton, len_slice one22, indexAddrA_one one22, ixK_slice, append_one one22, apK_nil, apK_some, apB_row, oneOf_row, bs22, Nat.reduceLeDiff, and_self, and_true, true_and, Int.reduceToNat, Int.reduceNe, List.take_succ_cons, List.take_zero, List.take_nil, List.length_cons, List.length_nil, List.cons_append, List.nil_append, Int.reduceLE, Int.reduceLT, Int.reduceEq, Int.reduceNeg, Int.reduceAdd, Int.reduceSub, Int.reduceMul, Int.reduceDiv, Nat.reduceAdd, Nat.reduceEqDiff, decide_true, decide_false, Try.f4, hT, p0, ga, extractA3, callA_func _ _ _ _ _ _ b16, env_call_ov ovT16]
  generalize hT0 : List.set _ 6 (Value.int IntKind.i64 0) = T0
  have u : T0.length = 83 := by rw [← hT0]; simp only [getD_set', List.length_set, Nat.reduceEqDiff, Nat.reduceLT, if_true, if_false, hT]
  have u0 : T0.getD 0 undef = .int .i64 n := by rw [← hT0]; simp only [getD_set', List.length_set, Nat.reduceEqDiff, Nat.reduceLT, if_true, if_false, hT, p0]
  have u3 : T0.getD 3 undef = .int .i64 (PP n) := by rw [← hT0]; simp only [getD_set', List.length_set, Nat.reduceEqDiff, Nat.reduceLT, if_true, if_false, hT]
  have u4 : T0.getD 4 undef = .slice (baa n ⟨.leaf, 0⟩) (WW n).length (WW n).length := by rw [← hT0]; simp only [getD_set', List.length_set, Nat.reduceEqDiff, Nat.reduceLT, if_true, if_false, hT]
  have u5 : T0.getD 5 undef = .int .i64 (FF n) := by rw [← hT0]; simp only [getD_set', List.length_set, Nat.reduceEqDiff, Nat.reduceLT, if_true, if_false, hT]
  have u6 : T0.getD 6 undef = .int .i64 ((0 : Nat) : Int) := by rw [← hT0]; simp only [getD_set', List.length_set, Nat.reduceEqDiff, Nat.reduceLT, if_true, if_false, hT]; rfl
  obtain ⟨T', h', e, v, v0⟩ := loop4 n hp (baa n ⟨.leaf, 0⟩) (WW n).length 2 0 (by decide) T0 (hvv n ⟨.leaf, 0⟩) u u0 u3 u4 u5 u6 (Ri.ownB n _) (baa_lt n _)
  simp only [l4, loopsOf, Try.f4, Option.getD_some] at e
  have d1 : decide (lvl n = lvl n) = true := by simp
  have d2 : decide (spn n = spn n) = true := by simp
  have d3 : decide (frs n = frs n) = true := by simp
  have d4 : decide (nxt n = nxt n) = true := by simp
  have d5 : decide (ind n = ind n) = true := by simp
  simp (maxSteps := 1000000) (disch := omega) only [stepVal_guardT, yD_some, yK_bool, yK_undef, getD_set', List.length_set, Nat.reduceLT, evalC_drawT, drawL_eq, trace_cons, trace_nil, traceK_some, pad, evalC_seq, evalC_region, evalC_cond, evalC_ret, evalC_skip, evalC_label, evalC_exit, evalC_scope, evalC_block, evalC_draw, runOps_cons, runOps_nil, stepOp_eq, stepVal_plain, yieldedA_lit, opA_assign, opA_move, opA_binOp, opA_pick, opA_call, opA_alloc, opA_box, opA_load, opA_store, opA_extract, opA_buildSlice, opA_indexAddr, opA_fieldAddr, aeval_int, aeval_bool, aeval_tmp, aeval_nilSlice, aeval_nilPointer, aeval_nilFunc, aeval_func, arK_val, arK_skip, arK_enter, arK_round, valK_some, valK_none, opsK_some, Option.map_some, Option.map_none, seqK_normal, seqK_ret, seqK_exit, blockK_normal, blockK_ret, blockK_exit, loopK_normal, loopK_ret, loopK_exit, List.getElem?_cons_zero, List.getElem?_cons_succ, Option.bind_some, reduceCtorEq, if_false, if_true, pickK_bool, condK_true, condK_false, endK_ret, endK_normal, resultsA_tmp, resultsA_nil, resVal, Option.some.injEq, Bool.true_eq_false, Bool.false_eq_true, List.map_cons, List.map_nil, binA_add, binA_sub, binA_mul, binA_lss, binA_leq, binA_gtr, binA_geq, binA_eql, binA_neq, callA_builtin, max_int, min_int, loadK_pointer, storeK_pointer, IntWalk.i64_in, IntWalk.i64_quo, binA_quo, binA_rem, Int.tmod_eq_emod_of_nonneg, loadA_rowK, storeA_int hsz3, putK_cell, rowK_cell ag3, rowK_row ag3, boxA_cell, al3, get_empty, next_empty, AH.get_set, AH.get_push, AH.next_set, AH.next_push, resultsA_cell, resK_pointer, roundA_G, roundG_loop, asgK_normal, bodyK_loop, ended_some, endRK_normal, endRK_ret, endRK_exit, rangeK_E, rangeE_ready, rangeE_done, rangeH, setAll, shut_nil, shut_cons, shutK_defs, endK_shut, outK_some, AH.get_kill, AH.next_kill, evalRegion_G, drawG_ok, drawK_all, trace_cons, trace_nil, traceK_some, List.all_cons, List.all_nil, sameRead_K, sameK_plain, sameK_guard, wantK_some, veqK_val, veq_int, veq_bool, veq_pointer, veq_slice, veq_nilSlice, Bool.and_true, Bool.and_self, List.getLast?_cons_cons, List.getLast?_singleton, len_slice one22, indexAddrA_one one22, ixK_slice, append_one one22, apK_nil, apK_some, apB_row, oneOf_row, bs22, Nat.reduceLeDiff, and_self, and_true, true_and, Int.reduceToNat, Int.reduceNe, List.take_succ_cons, List.take_zero, List.take_nil, List.length_cons, List.length_nil, List.cons_append, List.nil_append, Int.reduceLE, Int.reduceLT, Int.reduceEq, Int.reduceNeg, Int.reduceAdd, Int.reduceSub, Int.reduceMul, Int.reduceDiv, Nat.reduceAdd, Nat.reduceEqDiff, decide_true, decide_false, Try.f4, e, v, v0, d1, d2, d3, d4, d5, g1_int (f := lvl), g1_int (f := spn), g1_int (f := frs), g1_int (f := nxt), g1_int (f := ind), callA_func _ _ _ _ _ _ b18, callA_func _ _ _ _ _ _ b19, callA_func _ _ _ _ _ _ b20, callA_func _ _ _ _ _ _ b21, callA_func _ _ _ _ _ _ b22, callA_func _ _ _ _ _ _ b23, callA_func _ _ _ _ _ _ b24, callA_func _ _ _ _ _ _ b25, callA_func _ _ _ _ _ _ b26, callA_func _ _ _ _ _ _ b27, env_call_ov ovT18, env_call_ov ovT19, env_call_ov ovT20, env_call_ov ovT21, env_call_ov ovT22, env_call_ov ovT23, env_call_ov ovT24, env_call_ov ovT25, env_call_ov ovT26, env_call_ov ovT27]
theorem s4 : SumOk Try.prog 4 gT := sT ovT_ok e4
end Go.Proofs.Paths
