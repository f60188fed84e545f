/-
  Ring: the document's ring.
-/
import Derived.Test.YtlabmlaenkdikaaRingR8
namespace Go.Proofs.Ring
set_option linter.unusedSimpArgs false
set_option linter.unusedVariables false
open Go.AE
set_option maxRecDepth 100000
set_option maxHeartbeats 4000000

theorem ag28 : isAggT Try.prog 28 = some false := by kernel_rfl
theorem hsz28 : (Try.prog.info? 28).map (·.size) = some 1 := by kernel_rfl
theorem fb0 (b : Nat) : fieldAddrA Try.prog 45 (.pointer (some ⟨b, 0, none⟩)) 0 = some (.pointer (some ⟨b, 0, none⟩)) := by kernel_rfl
theorem fb1 (b : Nat) : fieldAddrA Try.prog 45 (.pointer (some ⟨b, 0, none⟩)) 1 = some (.pointer (some ⟨b, 1, none⟩)) := by kernel_rfl
theorem fb2 (b : Nat) : fieldAddrA Try.prog 45 (.pointer (some ⟨b, 0, none⟩)) 2 = some (.pointer (some ⟨b, 2, none⟩)) := by kernel_rfl
theorem veq_sl (a : Option Addr) (n c : Nat) : veq (.slice a n c) (.slice a n c) = true := by
  cases a with
  | none => exact veq_nilSlice n c
  | some a => exact veq_slice a n c

/-- The document's ring: the journal, the places in use, the head. -/
def refObj (j : Int) (ua : Option Addr) (n : Nat) (hd : Int) : AObj := rowObj [.int .i64 j, .slice ua n n, .int .i64 hd] 45 0 false

/-- A slice of ints of the caller's own. -/
def Ug (U : List Int) (a : Option Addr) (b : Nat) (h : AH) : Prop :=
  (a = none ∧ U = []) ∨ ∃ β o L z op, a = some ⟨β, o, none⟩ ∧ β < h.next ∧ b < β ∧ h.get β = some (rowObj (ints L) 3 z op) ∧ (op = true → z = 1) ∧ o + U.length ≤ L.length ∧ (L.drop o).take U.length = U
/-- Two slices that lie in no block together. -/
def Dj (a c : Option Addr) : Prop := ∀ γ o o', a = some ⟨γ, o, none⟩ → c ≠ some ⟨γ, o', none⟩
theorem Ug.keep {U : List Int} {a : Option Addr} {b : Nat} {h h' : AH} (hU : Ug U a b h) (hn : h.next ≤ h'.next) (hg : ∀ γ o, a = some ⟨γ, o, none⟩ → b < γ → γ < h.next → h'.get γ = h.get γ) : Ug U a b h' := by
  rcases hU with e | ⟨β, o, L, z, op, e1, e2, e3, e4, e5, e6, e7⟩
  · exact .inl e
  · exact .inr ⟨β, o, L, z, op, e1, Nat.lt_of_lt_of_le e2 hn, e3, by rw [hg β o e1 e3 e2]; exact e4, e5, e6, e7⟩
theorem Ug.lt {U : List Int} {a : Option Addr} {b : Nat} {h : AH} (hU : Ug U a b h) : ∀ γ o, a = some ⟨γ, o, none⟩ → b < γ ∧ γ < h.next := fun γ o e => by
  rcases hU with ⟨e1, _⟩ | ⟨β, o', L, z, op, e1, e2, e3, _⟩
  · rw [e1] at e; cases e
  · rw [e1] at e
    simp only [Option.some.injEq, Addr.mk.injEq] at e
    omega
theorem Ug.get {U : List Int} {a : Option Addr} {b : Nat} {h : AH} (hU : Ug U a b h) {i : Nat} {x : Int} (hx : U[i]? = some x) : ∃ β o, a = some ⟨β, o, none⟩ ∧ β < h.next ∧ b < β ∧ rowK Try.prog 3 (o + i) (h.get β) = some (.int .i64 x) := by
  rcases hU with ⟨_, e⟩ | ⟨β, o, L, z, op, e1, e2, e3, e4, e5, e6, e7⟩
  · subst e; simp at hx
  · refine ⟨β, o, e1, e2, e3, ?_⟩
    rw [e4, rowK_row ag3]
    have hi := (List.getElem?_eq_some_iff.1 hx).1
    rw [← e7, List.getElem?_take, if_pos hi, List.getElem?_drop] at hx
    simp [ints, hx]
theorem apB_rowZ (elem : TypeId) (h : AH) (β o : Nat) (len : Nat) (k : IntKind) (n : Int) (l : List Value) (z : Nat) (hl : o + len ≤ l.length) :
    apB elem h ⟨β, o, none⟩ len (.int k n) (some (rowObj l elem z false)) = some (.slice (some ⟨h.next, 0, none⟩) (len + 1) (len + 1), h.push (rowObj ((l.drop o).take len ++ [.int k n]) elem 1 true)) := by
  unfold apB rowObj
  simp only [Option.isNone_none, List.all_cons, List.all_nil, true_and, and_self, Bool.and_true]
  have : (Value.int k n).oneCell' = true := rfl
  simp only [this, and_true, hl, if_true, Bool.false_eq_true, if_false]
  rw [rowA_ofRow' l len o hl]; rfl
theorem Ug.app {U : List Int} {a : Option Addr} {b : Nat} {h : AH} (hU : Ug U a b h) (hbn : b < h.next) (x : Int) :
    ∃ a' h', apK 3 (h.push (rowObj [.int .i64 x] 3 0 false)) a U.length (some (.int .i64 x)) = some (.slice a' (U ++ [x]).length (U ++ [x]).length, h') ∧
      Ug (U ++ [x]) a' b h' ∧ h.next ≤ h'.next ∧ (∀ γ, γ < h.next → (∀ o, a ≠ some ⟨γ, o, none⟩) → h'.get γ = h.get γ) ∧ ∀ γ o, a' = some ⟨γ, o, none⟩ → h.next ≤ γ := by
  rcases hU with ⟨rfl, rfl⟩ | ⟨β, o, L, z, op, rfl, e2, e3, e4, e5, e6, e7⟩
  · refine ⟨some ⟨h.next + 1, 0, none⟩, _, by rw [List.length_nil, apK_nil]; rfl, .inr ⟨h.next + 1, 0, [x], 1, true, rfl, ?_, by omega, ?_, fun _ => rfl, by simp, by simp⟩, ?_, fun γ h1 _ => ?_, fun γ o e => by cases e; omega⟩
    · rw [AH.next_push, AH.next_push]; omega
    · rw [AH.get_push, AH.next_push, if_pos rfl]; rfl
    · rw [AH.next_push, AH.next_push]; omega
    · rw [AH.get_push, AH.next_push, if_neg (by omega), AH.get_push, if_neg (by omega)]
  · have hg : (h.push (rowObj [.int .i64 x] 3 0 false)).get β = some (rowObj (ints L) 3 z op) := by rw [AH.get_push, if_neg (by omega)]; exact e4
    have hcells : (List.drop o (ints L)).take U.length ++ [.int .i64 x] = ints (U ++ [x]) := by
      unfold ints
      rw [← List.map_drop, ← List.map_take, e7]; simp
    cases op with
    | true =>
      have hz := e5 rfl
      subst hz
      have hap := apB_rowO 3 (h.push (rowObj [.int .i64 x] 3 0 false)) β o U.length .i64 x (ints L) (by simpa [ints] using e6)
      rw [hcells] at hap
      refine ⟨some ⟨h.next + 1, 0, none⟩, ((h.push (rowObj [.int .i64 x] 3 0 false)).kill β).push (rowObj (ints (U ++ [x])) 3 1 true), ?_, .inr ⟨h.next + 1, 0, U ++ [x], 1, true, rfl, ?_, by omega, ?_, fun _ => rfl, by simp, by rw [List.drop_zero, List.take_length]⟩, ?_, fun γ h1 h2 => ?_, fun γ o e => by cases e; omega⟩
      · rw [apK_some, hg, hap, AH.next_push, List.length_append]; rfl
      · rw [AH.next_push, AH.next_kill, AH.next_push]; omega
      · rw [AH.get_push, AH.next_kill, AH.next_push, if_pos rfl]
      · rw [AH.next_push, AH.next_kill, AH.next_push]; omega
      · have hne : γ ≠ β := fun e => h2 o (by rw [e])
        rw [AH.get_push, AH.next_kill, AH.next_push, if_neg (by omega), AH.get_kill, if_neg hne, AH.get_push, if_neg (by omega)]
    | false =>
      have hap := apB_rowZ 3 (h.push (rowObj [.int .i64 x] 3 0 false)) β o U.length .i64 x (ints L) z (by simpa [ints] using e6)
      rw [hcells] at hap
      refine ⟨some ⟨h.next + 1, 0, none⟩, (h.push (rowObj [.int .i64 x] 3 0 false)).push (rowObj (ints (U ++ [x])) 3 1 true), ?_, .inr ⟨h.next + 1, 0, U ++ [x], 1, true, rfl, ?_, by omega, ?_, fun _ => rfl, by simp, by rw [List.drop_zero, List.take_length]⟩, ?_, fun γ h1 h2 => ?_, fun γ o e => by cases e; omega⟩
      · rw [apK_some, hg, hap, AH.next_push, List.length_append]; rfl
      · rw [AH.next_push, AH.next_push]; omega
      · rw [AH.get_push, AH.next_push, if_pos rfl]
      · rw [AH.next_push, AH.next_push]; omega
      · rw [AH.get_push, AH.next_push, if_neg (by omega), AH.get_push, if_neg (by omega)]

/-! ### Are two lists the same? -/
theorem st18 : drawStatic (regionOf Try.f18 6) = true := by kernel_rfl
theorem pr18 : drawPairs (regionOf Try.f18 6) = [] := by kernel_rfl
noncomputable def l18 : Code := (loopsOf (Try.f18.body.getD .skip)).getD .skip
/-- Ints that are read in a row. -/
def Rr (l : List Int) (a : Option Addr) (h : AH) : Prop := ∀ (i : Nat) x, l[i]? = some x → ∃ β o, a = some ⟨β, o, none⟩ ∧ rowK Try.prog 3 (o + i) (h.get β) = some (.int .i64 x)
theorem loop18 (l : List Int) (hsz : l.length ≤ 100000) (a c : Option Addr) (ca cc : Nat) (h : AH) (ha : Rr l a h) (hc : Rr l c h) : ∀ (r k : Nat), k + r = l.length → ∀ N, r + 2 ≤ N → ∀ (T : List Value), T.length = 26 → T.getD 0 undef = .slice a l.length ca → T.getD 1 undef = .slice c l.length cc → T.getD 5 undef = .int .i64 k →
      ∃ T', evalC Try.prog (env Try.prog ov0 N) none (.loop l18) ⟨⟨T⟩, [], h⟩ = some (.exit 0, ⟨⟨T'⟩, [], h⟩) ∧ T'.length = 26 := by
  have st := st18
  have pr := pr18
  simp only [regionOf, regionAt, Try.f18, Option.getD_some, Nat.reduceEqDiff, if_true, if_false] at st pr
  intro r
  induction r with
  | zero =>
    intro k hk N hN T hT t0 t1 t5
    obtain ⟨N, rfl⟩ : ∃ M, N = M + 1 := ⟨N - 1, by omega⟩
    have c1 : decide ((k : Int) < (l.length : Int)) = false := decide_eq_false (by omega)
    rw [evalC_loop]
    simp (maxSteps := 1000000) (disch := omega) only [stepVal_guardT, yD_some, yK_bool, yK_undef, getD_set', List.length_set, Nat.reduceLT, evalC_drawT, drawL_eq, trace_cons, trace_nil, traceK_some, pad, evalC_seq, evalC_region, evalC_cond, evalC_ret, evalC_skip, evalC_label, evalC_exit, evalC_scope, evalC_block, evalC_draw, runOps_cons, runOps_nil, stepOp_eq, stepVal_plain, yieldedA_lit, opA_assign, opA_move, opA_binOp, opA_pick, opA_call, opA_alloc, opA_box, opA_load, opA_store, opA_extract, opA_buildSlice, opA_indexAddr, opA_fieldAddr, aeval_int, aeval_bool, aeval_tmp, aeval_nilSlice, aeval_nilPointer, aeval_nilFunc, aeval_func, arK_val, arK_skip, arK_enter, arK_round, valK_some, valK_none, opsK_some, Option.map_some, Option.map_none, seqK_normal, seqK_ret, seqK_exit, blockK_normal, blockK_ret, blockK_exit, loopK_normal, loopK_ret, loopK_exit, List.getElem?_cons_zero, List.getElem?_cons_succ, Option.bind_some, reduceCtorEq, if_false, if_true, pickK_bool, condK_true, condK_false, endK_ret, endK_normal, resultsA_tmp, resultsA_nil, resVal, Option.some.injEq, Bool.true_eq_false, Bool.false_eq_true, List.map_cons, List.map_nil, binA_add, binA_sub, binA_mul, binA_lss, binA_leq, binA_gtr, binA_geq, binA_eql, binA_neq, callA_builtin, max_int, min_int, loadK_pointer, storeK_pointer, IntWalk.i64_in, IntWalk.i64_quo, binA_quo, binA_rem, Int.tmod_eq_emod_of_nonneg, loadA_rowK, storeA_int hsz3, putK_cell, rowK_cell ag3, rowK_row ag3, boxA_cell, al3, get_empty, next_empty, AH.get_set, AH.get_push, AH.next_set, AH.next_push, resultsA_cell, resK_pointer, roundA_G, roundG_loop, asgK_normal, bodyK_loop, ended_some, endRK_normal, endRK_ret, endRK_exit, rangeK_E, rangeE_ready, rangeE_done, rangeH, setAll, shut_nil, shut_cons, shutK_defs, endK_shut, outK_some, AH.get_kill, AH.next_kill, evalRegion_G, drawG_ok, drawK_all, trace_cons, trace_nil, traceK_some, List.all_cons, List.all_nil, sameRead_K, sameK_plain, sameK_guard, wantK_some, veqK_val, veq_int, veq_bool, veq_pointer, veq_slice, veq_nilSlice, Bool.and_true, Bool.and_self, List.getLast?_cons_cons, List.getLast?_singleton, len_slice one22, indexAddrA_one one22, ixK_slice, append_one one22, apK_nil, apK_some, apB_row, oneOf_row, bs22, Nat.reduceLeDiff, and_self, and_true, true_and, Int.reduceToNat, Int.reduceNe, List.take_succ_cons, List.take_zero, List.take_nil, List.length_cons, List.length_nil, List.cons_append, List.nil_append, Int.reduceLE, Int.reduceLT, Int.reduceEq, Int.reduceNeg, Int.reduceAdd, Int.reduceSub, Int.reduceMul, Int.reduceDiv, Nat.reduceAdd, Nat.reduceEqDiff, decide_true, decide_false, l18, loopsOf, Option.getD_some, c1, Try.f18, hT, t0, t5]
    exact ⟨_, rfl, by simp only [getD_set', List.length_set, Nat.reduceEqDiff, Nat.reduceLT, if_true, if_false, hT]⟩
  | succ r ih =>
    simp only [l18, loopsOf, Try.f18, Option.getD_some] at ih
    intro k hk N hN T hT t0 t1 t5
    obtain ⟨N, rfl⟩ : ∃ M, N = M + 1 := ⟨N - 1, by omega⟩
    have hx : l[k]? = some (l[k]'(by omega)) := by simp
    obtain ⟨β, o, rfl, r1⟩ := ha k _ hx
    obtain ⟨γ, q, rfl, r2⟩ := hc k _ hx
    generalize l[k]'(by omega) = x at hx r1 r2
    have c1 : decide ((k : Int) < (l.length : Int)) = true := decide_eq_true (by omega)
    have c2 : decide (x ≠ x) = false := by simp
    have i1 : 0 ≤ (k : Int) ∧ (k : Int) < (l.length : Int) := by omega
    have hk1 : ((k + 1 : Nat) : Int) = (k : Int) + 1 := rfl
    rw [evalC_loop]
    simp (maxSteps := 1000000) (disch := omega) only [stepVal_guardT, yD_some, yK_bool, yK_undef, getD_set', List.length_set, Nat.reduceLT, evalC_drawT, drawL_eq, trace_cons, trace_nil, traceK_some, pad, evalC_seq, evalC_region, evalC_cond, evalC_ret, evalC_skip, evalC_label, evalC_exit, evalC_scope, evalC_block, evalC_draw, runOps_cons, runOps_nil, stepOp_eq, stepVal_plain, yieldedA_lit, opA_assign, opA_move, opA_binOp, opA_pick, opA_call, opA_alloc, opA_box, opA_load, opA_store, opA_extract, opA_buildSlice, opA_indexAddr, opA_fieldAddr, aeval_int, aeval_bool, aeval_tmp, aeval_nilSlice, aeval_nilPointer, aeval_nilFunc, aeval_func, arK_val, arK_skip, arK_enter, arK_round, valK_some, valK_none, opsK_some, Option.map_some, Option.map_none, seqK_normal, seqK_ret, seqK_exit, blockK_normal, blockK_ret, blockK_exit, loopK_normal, loopK_ret, loopK_exit, List.getElem?_cons_zero, List.getElem?_cons_succ, Option.bind_some, reduceCtorEq, if_false, if_true, pickK_bool, condK_true, condK_false, endK_ret, endK_normal, resultsA_tmp, resultsA_nil, resVal, Option.some.injEq, Bool.true_eq_false, Bool.false_eq_true, List.map_cons, List.map_nil, binA_add, binA_sub, binA_mul, binA_lss, binA_leq, binA_gtr, binA_geq, binA_eql, binA_neq, callA_builtin, max_int, min_int, loadK_pointer, storeK_pointer, IntWalk.i64_in, IntWalk.i64_quo, binA_quo, binA_rem, Int.tmod_eq_emod_of_nonneg, loadA_rowK, storeA_int hsz3, putK_cell, rowK_cell ag3, rowK_row ag3, boxA_cell, al3, get_empty, next_empty, AH.get_set, AH.get_push, AH.next_set, AH.next_push, resultsA_cell, resK_pointer, roundA_G, roundG_loop, asgK_normal, bodyK_loop, ended_some, endRK_normal, endRK_ret, endRK_exit, rangeK_E, rangeE_ready, rangeE_done, rangeH, setAll, shut_nil, shut_cons, shutK_defs, endK_shut, outK_some, AH.get_kill, AH.next_kill, evalRegion_G, drawG_ok, drawK_all, trace_cons, trace_nil, traceK_some, List.all_cons, List.all_nil, sameRead_K, sameK_plain, sameK_guard, wantK_some, veqK_val, veq_int, veq_bool, veq_pointer, veq_slice, veq_nilSlice, Bool.and_true, Bool.and_self, List.getLast?_cons_cons, List.getLast?_singleton, len_slice one22, indexAddrA_one one22, ixK_slice, append_one one22, apK_nil, apK_some, apB_row, oneOf_row, bs22, Nat.reduceLeDiff, and_self, and_true, true_and, Int.reduceToNat, Int.reduceNe, List.take_succ_cons, List.take_zero, List.take_nil, List.length_cons, List.length_nil, List.cons_append, List.nil_append, Int.reduceLE, Int.reduceLT, Int.reduceEq, Int.reduceNeg, Int.reduceAdd, Int.reduceSub, Int.reduceMul, Int.reduceDiv, Nat.reduceAdd, Nat.reduceEqDiff, decide_true, decide_false, l18, loopsOf, Option.getD_some, c1, c2, Try.f18, hT, t0, t1, t5, r1, r2, i1, Int.toNat_natCast, env_code, st, pr]
    refine ih (k + 1) (by omega) N (by omega) _ ?_ ?_ ?_ ?_
    · simp only [getD_set', List.length_set, Nat.reduceEqDiff, Nat.reduceLT, if_true, if_false, hT]
    · simp only [getD_set', List.length_set, Nat.reduceEqDiff, Nat.reduceLT, if_true, if_false, hT, t0]
    · simp only [getD_set', List.length_set, Nat.reduceEqDiff, Nat.reduceLT, if_true, if_false, hT, t1]
    · simp only [getD_set', List.length_set, Nat.reduceEqDiff, Nat.reduceLT, if_true, if_false, hT, hk1]
theorem e18 (l : List Int) (hsz : l.length ≤ 100000) (a c : Option Addr) (ca cc : Nat) (h : AH) (ha : Rr l a h) (hc : Rr l c h) (N : Nat) (hN : l.length + 2 ≤ N) :
    callFn Try.prog (env Try.prog ov0 N) 18 ⟨[.slice a l.length ca, .slice c l.length cc]⟩ h = some (.bool true, h) := by
  refine callFn_T Try.func18 rfl _ _ (by show 2 ≤ 26; decide) fun T hT hq => ?_
  have p0 : T.getD 0 undef = .slice a l.length ca := hq 0
  have p1 : T.getD 1 undef = .slice c l.length cc := hq 1
  replace hT : T.length = 26 := hT
  have c1 : decide ((l.length : Int) ≠ (l.length : Int)) = false := by simp
  simp (maxSteps := 1000000) (disch := omega) only [stepVal_guardT, yD_some, yK_bool, yK_undef, getD_set', List.length_set, Nat.reduceLT, evalC_drawT, drawL_eq, trace_cons, trace_nil, traceK_some, pad, evalC_seq, evalC_region, evalC_cond, evalC_ret, evalC_skip, evalC_label, evalC_exit, evalC_scope, evalC_block, evalC_draw, runOps_cons, runOps_nil, stepOp_eq, stepVal_plain, yieldedA_lit, opA_assign, opA_move, opA_binOp, opA_pick, opA_call, opA_alloc, opA_box, opA_load, opA_store, opA_extract, opA_buildSlice, opA_indexAddr, opA_fieldAddr, aeval_int, aeval_bool, aeval_tmp, aeval_nilSlice, aeval_nilPointer, aeval_nilFunc, aeval_func, arK_val, arK_skip, arK_enter, arK_round, valK_some, valK_none, opsK_some, Option.map_some, Option.map_none, seqK_normal, seqK_ret, seqK_exit, blockK_normal, blockK_ret, blockK_exit, loopK_normal, loopK_ret, loopK_exit, List.getElem?_cons_zero, List.getElem?_cons_succ, Option.bind_some, reduceCtorEq, if_false, if_true, pickK_bool, condK_true, condK_false, endK_ret, endK_normal, resultsA_tmp, resultsA_nil, resVal, Option.some.injEq, Bool.true_eq_false, Bool.false_eq_true, List.map_cons, List.map_nil, binA_add, binA_sub, binA_mul, binA_lss, binA_leq, binA_gtr, binA_geq, binA_eql, binA_neq, callA_builtin, max_int, min_int, loadK_pointer, storeK_pointer, IntWalk.i64_in, IntWalk.i64_quo, binA_quo, binA_rem, Int.tmod_eq_emod_of_nonneg, loadA_rowK, storeA_int hsz3, putK_cell, rowK_cell ag3, rowK_row ag3, boxA_cell, al3, get_empty, next_empty, AH.get_set, AH.get_push, AH.next_set, AH.next_push, resultsA_cell, resK_pointer, roundA_G, roundG_loop, asgK_normal, bodyK_loop, ended_some, endRK_normal, endRK_ret, endRK_exit, rangeK_E, rangeE_ready, rangeE_done, rangeH, setAll, shut_nil, shut_cons, shutK_defs, endK_shut, outK_some, AH.get_kill, AH.next_kill, evalRegion_G, drawG_ok, drawK_all, trace_cons, trace_nil, traceK_some, List.all_cons, List.all_nil, sameRead_K, sameK_plain, sameK_guard, wantK_some, veqK_val, veq_int, veq_bool, veq_pointer, veq_slice, veq_nilSlice, Bool.and_true, Bool.and_self, List.getLast?_cons_cons, List.getLast?_singleton, len_slice one22, indexAddrA_one one22, ixK_slice, append_one one22, apK_nil, apK_some, apB_row, oneOf_row, bs22, Nat.reduceLeDiff, and_self, and_true, true_and, Int.reduceToNat, Int.reduceNe, List.take_succ_cons, List.take_zero, List.take_nil, List.length_cons, List.length_nil, List.cons_append, List.nil_append, Int.reduceLE, Int.reduceLT, Int.reduceEq, Int.reduceNeg, Int.reduceAdd, Int.reduceSub, Int.reduceMul, Int.reduceDiv, Nat.reduceAdd, Nat.reduceEqDiff, decide_true, decide_false, Try.f18, hT, p0, p1, c1]
  generalize hT0 : List.set _ 5 (Value.int IntKind.i64 0) = T0
  have v : T0.length = 26 := by rw [← hT0]; simp only [getD_set', List.length_set, Nat.reduceEqDiff, Nat.reduceLT, if_true, if_false, hT]
  have v0 : T0.getD 0 undef = .slice a l.length ca := by rw [← hT0]; simp only [getD_set', List.length_set, Nat.reduceEqDiff, Nat.reduceLT, if_true, if_false, hT, p0]
  have v1 : T0.getD 1 undef = .slice c l.length cc := by rw [← hT0]; simp only [getD_set', List.length_set, Nat.reduceEqDiff, Nat.reduceLT, if_true, if_false, hT, p1]
  have v5 : T0.getD 5 undef = .int .i64 ((0 : Nat) : Int) := by rw [← hT0]; simp only [getD_set', List.length_set, Nat.reduceEqDiff, Nat.reduceLT, if_true, if_false, hT]; rfl
  obtain ⟨T', e, w⟩ := loop18 l hsz a c ca cc h ha hc l.length 0 (by omega) N hN T0 v v0 v1 v5
  simp only [l18, loopsOf, Try.f18, Option.getD_some] at e
  simp (maxSteps := 1000000) (disch := omega) only [stepVal_guardT, yD_some, yK_bool, yK_undef, getD_set', List.length_set, Nat.reduceLT, evalC_drawT, drawL_eq, trace_cons, trace_nil, traceK_some, pad, evalC_seq, evalC_region, evalC_cond, evalC_ret, evalC_skip, evalC_label, evalC_exit, evalC_scope, evalC_block, evalC_draw, runOps_cons, runOps_nil, stepOp_eq, stepVal_plain, yieldedA_lit, opA_assign, opA_move, opA_binOp, opA_pick, opA_call, opA_alloc, opA_box, opA_load, opA_store, opA_extract, opA_buildSlice, opA_indexAddr, opA_fieldAddr, aeval_int, aeval_bool, aeval_tmp, aeval_nilSlice, aeval_nilPointer, aeval_nilFunc, aeval_func, arK_val, arK_skip, arK_enter, arK_round, valK_some, valK_none, opsK_some, Option.map_some, Option.map_none, seqK_normal, seqK_ret, seqK_exit, blockK_normal, blockK_ret, blockK_exit, loopK_normal, loopK_ret, loopK_exit, List.getElem?_cons_zero, List.getElem?_cons_succ, Option.bind_some, reduceCtorEq, if_false, if_true, pickK_bool, condK_true, condK_false, endK_ret, endK_normal, resultsA_tmp, resultsA_nil, resVal, Option.some.injEq, Bool.true_eq_false, Bool.false_eq_true, List.map_cons, List.map_nil, binA_add, binA_sub, binA_mul, binA_lss, binA_leq, binA_gtr, binA_geq, binA_eql, binA_neq, callA_builtin, max_int, min_int, loadK_pointer, storeK_pointer, IntWalk.i64_in, IntWalk.i64_quo, binA_quo, binA_rem, Int.tmod_eq_emod_of_nonneg, loadA_rowK, storeA_int hsz3, putK_cell, rowK_cell ag3, rowK_row ag3, boxA_cell, al3, get_empty, next_empty, AH.get_set, AH.get_push, AH.next_set, AH.next_push, resultsA_cell, resK_pointer, roundA_G, roundG_loop, asgK_normal, bodyK_loop, ended_some, endRK_normal, endRK_ret, endRK_exit, rangeK_E, rangeE_ready, rangeE_done, rangeH, setAll, shut_nil, shut_cons, shutK_defs, endK_shut, outK_some, AH.get_kill, AH.next_kill, evalRegion_G, drawG_ok, drawK_all, trace_cons, trace_nil, traceK_some, List.all_cons, List.all_nil, sameRead_K, sameK_plain, sameK_guard, wantK_some, veqK_val, veq_int, veq_bool, veq_pointer, veq_slice, veq_nilSlice, Bool.and_true, Bool.and_self, List.getLast?_cons_cons, List.getLast?_singleton, len_slice one22, indexAddrA_one one22, ixK_slice, append_one one22, apK_nil, apK_some, apB_row, oneOf_row, bs22, Nat.reduceLeDiff, and_self, and_true, true_and, Int.reduceToNat, Int.reduceNe, List.take_succ_cons, List.take_zero, List.take_nil, List.length_cons, List.length_nil, List.cons_append, List.nil_append, Int.reduceLE, Int.reduceLT, Int.reduceEq, Int.reduceNeg, Int.reduceAdd, Int.reduceSub, Int.reduceMul, Int.reduceDiv, Nat.reduceAdd, Nat.reduceEqDiff, decide_true, decide_false, Try.f18, e, w]

/-! ### Free, Tail -/
theorem st20 : drawStatic (regionOf Try.f20 1) = true := by kernel_rfl
theorem pr20 : drawPairs (regionOf Try.f20 1) = [] := by kernel_rfl
theorem e20 {b n : Nat} {j hd : Int} {ua : Option Addr} {h : AH} (hb : h.get b = some (refObj j ua n hd)) (hj : 40 ≤ j ∧ j ≤ 256) (hn : n ≤ 1000) (E : Env) : callFn Try.prog E 20 ⟨[.pointer (some ⟨b, 0, none⟩)]⟩ h = some (.int .i64 (j - 1 - n), h) := by
  have st := st20
  have pr := pr20
  simp only [regionOf, regionAt, Try.f20, Option.getD_some, Nat.reduceEqDiff, if_true, if_false] at st pr
  unfold refObj at hb
  refine callFn_T Try.func20 rfl _ _ (by show 1 ≤ 14; decide) fun T hT hq => ?_
  have p0 : T.getD 0 undef = .pointer (some ⟨b, 0, none⟩) := hq 0
  replace hT : T.length = 14 := hT
  simp (maxSteps := 1000000) (disch := omega) only [stepVal_guardT, yD_some, yK_bool, yK_undef, getD_set', List.length_set, Nat.reduceLT, evalC_drawT, drawL_eq, trace_cons, trace_nil, traceK_some, pad, evalC_seq, evalC_region, evalC_cond, evalC_ret, evalC_skip, evalC_label, evalC_exit, evalC_scope, evalC_block, evalC_draw, runOps_cons, runOps_nil, stepOp_eq, stepVal_plain, yieldedA_lit, opA_assign, opA_move, opA_binOp, opA_pick, opA_call, opA_alloc, opA_box, opA_load, opA_store, opA_extract, opA_buildSlice, opA_indexAddr, opA_fieldAddr, aeval_int, aeval_bool, aeval_tmp, aeval_nilSlice, aeval_nilPointer, aeval_nilFunc, aeval_func, arK_val, arK_skip, arK_enter, arK_round, valK_some, valK_none, opsK_some, Option.map_some, Option.map_none, seqK_normal, seqK_ret, seqK_exit, blockK_normal, blockK_ret, blockK_exit, loopK_normal, loopK_ret, loopK_exit, List.getElem?_cons_zero, List.getElem?_cons_succ, Option.bind_some, reduceCtorEq, if_false, if_true, pickK_bool, condK_true, condK_false, endK_ret, endK_normal, resultsA_tmp, resultsA_nil, resVal, Option.some.injEq, Bool.true_eq_false, Bool.false_eq_true, List.map_cons, List.map_nil, binA_add, binA_sub, binA_mul, binA_lss, binA_leq, binA_gtr, binA_geq, binA_eql, binA_neq, callA_builtin, max_int, min_int, loadK_pointer, storeK_pointer, IntWalk.i64_in, IntWalk.i64_quo, binA_quo, binA_rem, Int.tmod_eq_emod_of_nonneg, loadA_rowK, storeA_int hsz3, putK_cell, rowK_cell ag3, rowK_row ag3, boxA_cell, al3, get_empty, next_empty, AH.get_set, AH.get_push, AH.next_set, AH.next_push, resultsA_cell, resK_pointer, roundA_G, roundG_loop, asgK_normal, bodyK_loop, ended_some, endRK_normal, endRK_ret, endRK_exit, rangeK_E, rangeE_ready, rangeE_done, rangeH, setAll, shut_nil, shut_cons, shutK_defs, endK_shut, outK_some, AH.get_kill, AH.next_kill, evalRegion_G, drawG_ok, drawK_all, trace_cons, trace_nil, traceK_some, List.all_cons, List.all_nil, sameRead_K, sameK_plain, sameK_guard, wantK_some, veqK_val, veq_int, veq_bool, veq_pointer, veq_slice, veq_nilSlice, Bool.and_true, Bool.and_self, List.getLast?_cons_cons, List.getLast?_singleton, len_slice one22, indexAddrA_one one22, ixK_slice, append_one one22, apK_nil, apK_some, apB_row, oneOf_row, bs22, Nat.reduceLeDiff, and_self, and_true, true_and, Int.reduceToNat, Int.reduceNe, List.take_succ_cons, List.take_zero, List.take_nil, List.length_cons, List.length_nil, List.cons_append, List.nil_append, Int.reduceLE, Int.reduceLT, Int.reduceEq, Int.reduceNeg, Int.reduceAdd, Int.reduceSub, Int.reduceMul, Int.reduceDiv, Nat.reduceAdd, Nat.reduceEqDiff, decide_true, decide_false, Try.f20, hT, p0, hb, opA_nilCheck, nilCk_pointer, fb0, fb1, fb2, rowK_row ag28, st, pr]
theorem e22 {b : Nat} {U : List Int} {j hd : Int} {ua : Option Addr} {h : AH} (hb : h.get b = some (refObj j ua U.length hd)) (hU : Ug U ua b h) (E : Env) : callFn Try.prog E 22 ⟨[.pointer (some ⟨b, 0, none⟩)]⟩ h = some (.int .i64 (U.headD hd), h) := by
  unfold refObj at hb
  refine callFn_T Try.func22 rfl _ _ (by show 1 ≤ 19; decide) fun T hT hq => ?_
  have p0 : T.getD 0 undef = .pointer (some ⟨b, 0, none⟩) := hq 0
  replace hT : T.length = 19 := hT
  cases U with
  | nil =>
    have d1 : decide (((0 : Nat) : Int) = 0) = true := by decide
    simp (maxSteps := 1000000) (disch := omega) only [stepVal_guardT, yD_some, yK_bool, yK_undef, getD_set', List.length_set, Nat.reduceLT, evalC_drawT, drawL_eq, trace_cons, trace_nil, traceK_some, pad, evalC_seq, evalC_region, evalC_cond, evalC_ret, evalC_skip, evalC_label, evalC_exit, evalC_scope, evalC_block, evalC_draw, runOps_cons, runOps_nil, stepOp_eq, stepVal_plain, yieldedA_lit, opA_assign, opA_move, opA_binOp, opA_pick, opA_call, opA_alloc, opA_box, opA_load, opA_store, opA_extract, opA_buildSlice, opA_indexAddr, opA_fieldAddr, aeval_int, aeval_bool, aeval_tmp, aeval_nilSlice, aeval_nilPointer, aeval_nilFunc, aeval_func, arK_val, arK_skip, arK_enter, arK_round, valK_some, valK_none, opsK_some, Option.map_some, Option.map_none, seqK_normal, seqK_ret, seqK_exit, blockK_normal, blockK_ret, blockK_exit, loopK_normal, loopK_ret, loopK_exit, List.getElem?_cons_zero, List.getElem?_cons_succ, Option.bind_some, reduceCtorEq, if_false, if_true, pickK_bool, condK_true, condK_false, endK_ret, endK_normal, resultsA_tmp, resultsA_nil, resVal, Option.some.injEq, Bool.true_eq_false, Bool.false_eq_true, List.map_cons, List.map_nil, binA_add, binA_sub, binA_mul, binA_lss, binA_leq, binA_gtr, binA_geq, binA_eql, binA_neq, callA_builtin, max_int, min_int, loadK_pointer, storeK_pointer, IntWalk.i64_in, IntWalk.i64_quo, binA_quo, binA_rem, Int.tmod_eq_emod_of_nonneg, loadA_rowK, storeA_int hsz3, putK_cell, rowK_cell ag3, rowK_row ag3, boxA_cell, al3, get_empty, next_empty, AH.get_set, AH.get_push, AH.next_set, AH.next_push, resultsA_cell, resK_pointer, roundA_G, roundG_loop, asgK_normal, bodyK_loop, ended_some, endRK_normal, endRK_ret, endRK_exit, rangeK_E, rangeE_ready, rangeE_done, rangeH, setAll, shut_nil, shut_cons, shutK_defs, endK_shut, outK_some, AH.get_kill, AH.next_kill, evalRegion_G, drawG_ok, drawK_all, trace_cons, trace_nil, traceK_some, List.all_cons, List.all_nil, sameRead_K, sameK_plain, sameK_guard, wantK_some, veqK_val, veq_int, veq_bool, veq_pointer, veq_slice, veq_nilSlice, Bool.and_true, Bool.and_self, List.getLast?_cons_cons, List.getLast?_singleton, len_slice one22, indexAddrA_one one22, ixK_slice, append_one one22, apK_nil, apK_some, apB_row, oneOf_row, bs22, Nat.reduceLeDiff, and_self, and_true, true_and, Int.reduceToNat, Int.reduceNe, List.take_succ_cons, List.take_zero, List.take_nil, List.length_cons, List.length_nil, List.cons_append, List.nil_append, Int.reduceLE, Int.reduceLT, Int.reduceEq, Int.reduceNeg, Int.reduceAdd, Int.reduceSub, Int.reduceMul, Int.reduceDiv, Nat.reduceAdd, Nat.reduceEqDiff, decide_true, decide_false, Try.f22, hT, p0, hb, d1, opA_nilCheck, nilCk_pointer, fb0, fb1, fb2, rowK_row ag28, List.headD_nil]
  | cons x U =>
    have d1 : decide ((((x :: U).length : Nat) : Int) = 0) = false := by simp; omega
    obtain ⟨β, o, rfl, _, _, r1⟩ := hU.get (i := 0) (x := x) rfl
    have i1 : (0 : Int) ≤ 0 ∧ (0 : Int) < (((x :: U).length : Nat) : Int) := by simp
    have e1 : (0 : Int).toNat = 0 := rfl
    rw [Nat.add_zero] at r1
    generalize hl : (x :: U).length = len at hb d1 i1
    simp (maxSteps := 1000000) (disch := omega) only [stepVal_guardT, yD_some, yK_bool, yK_undef, getD_set', List.length_set, Nat.reduceLT, evalC_drawT, drawL_eq, trace_cons, trace_nil, traceK_some, pad, evalC_seq, evalC_region, evalC_cond, evalC_ret, evalC_skip, evalC_label, evalC_exit, evalC_scope, evalC_block, evalC_draw, runOps_cons, runOps_nil, stepOp_eq, stepVal_plain, yieldedA_lit, opA_assign, opA_move, opA_binOp, opA_pick, opA_call, opA_alloc, opA_box, opA_load, opA_store, opA_extract, opA_buildSlice, opA_indexAddr, opA_fieldAddr, aeval_int, aeval_bool, aeval_tmp, aeval_nilSlice, aeval_nilPointer, aeval_nilFunc, aeval_func, arK_val, arK_skip, arK_enter, arK_round, valK_some, valK_none, opsK_some, Option.map_some, Option.map_none, seqK_normal, seqK_ret, seqK_exit, blockK_normal, blockK_ret, blockK_exit, loopK_normal, loopK_ret, loopK_exit, List.getElem?_cons_zero, List.getElem?_cons_succ, Option.bind_some, reduceCtorEq, if_false, if_true, pickK_bool, condK_true, condK_false, endK_ret, endK_normal, resultsA_tmp, resultsA_nil, resVal, Option.some.injEq, Bool.true_eq_false, Bool.false_eq_true, List.map_cons, List.map_nil, binA_add, binA_sub, binA_mul, binA_lss, binA_leq, binA_gtr, binA_geq, binA_eql, binA_neq, callA_builtin, max_int, min_int, loadK_pointer, storeK_pointer, IntWalk.i64_in, IntWalk.i64_quo, binA_quo, binA_rem, Int.tmod_eq_emod_of_nonneg, loadA_rowK, storeA_int hsz3, putK_cell, rowK_cell ag3, rowK_row ag3, boxA_cell, al3, get_empty, next_empty, AH.get_set, AH.get_push, AH.next_set, AH.next_push, resultsA_cell, resK_pointer, roundA_G, roundG_loop, asgK_normal, bodyK_loop, ended_some, endRK_normal, endRK_ret, endRK_exit, rangeK_E, rangeE_ready, rangeE_done, rangeH, setAll, shut_nil, shut_cons, shutK_defs, endK_shut, outK_some, AH.get_kill, AH.next_kill, evalRegion_G, drawG_ok, drawK_all, trace_cons, trace_nil, traceK_some, List.all_cons, List.all_nil, sameRead_K, sameK_plain, sameK_guard, wantK_some, veqK_val, veq_int, veq_bool, veq_pointer, veq_slice, veq_nilSlice, Bool.and_true, Bool.and_self, List.getLast?_cons_cons, List.getLast?_singleton, len_slice one22, indexAddrA_one one22, ixK_slice, append_one one22, apK_nil, apK_some, apB_row, oneOf_row, bs22, Nat.reduceLeDiff, and_self, and_true, true_and, Int.reduceToNat, Int.reduceNe, List.take_succ_cons, List.take_zero, List.take_nil, List.length_cons, List.length_nil, List.cons_append, List.nil_append, Int.reduceLE, Int.reduceLT, Int.reduceEq, Int.reduceNeg, Int.reduceAdd, Int.reduceSub, Int.reduceMul, Int.reduceDiv, Nat.reduceAdd, Nat.reduceEqDiff, decide_true, decide_false, Try.f22, hT, p0, hb, d1, i1, r1, e1, Nat.add_zero, opA_nilCheck, nilCk_pointer, fb0, fb1, fb2, rowK_row ag28, List.headD_cons]
end Go.Proofs.Ring
