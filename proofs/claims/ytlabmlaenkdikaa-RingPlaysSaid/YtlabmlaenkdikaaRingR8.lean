/-
  Ring: no place is taken twice.
-/
import Derived.Test.YtlabmlaenkdikaaRingR7
import Derived.Test.YtlabmlaenkdikaaAeU2
namespace Go.Proofs.Ring
set_option linter.unusedSimpArgs false
set_option linter.unusedVariables false
open Go.AE
set_option maxRecDepth 100000
set_option maxHeartbeats 4000000

theorem ag4 : isAggT Try.prog 4 = some false := by kernel_rfl
theorem und22 : Try.prog.underlying 22 = some (.slice 30) := by kernel_rfl
theorem inf30 : (Try.prog.info? 30).map (·.size) = some 2 := by kernel_rfl
theorem ia22 (b o len c : Nat) (i : Int) : indexAddrA Try.prog 22 (.slice (some ⟨b, o, none⟩) len c) (.int .i64 i) = if 0 ≤ i ∧ i < len then some (.pointer (some ⟨b, o + i.toNat * 2, none⟩)) else none := by
  obtain ⟨inf, hi, hs⟩ := Option.map_eq_some_iff.1 inf30
  simp only [indexAddrA, und22, hi, hs, addr_add]
theorem len22 (ty : TypeId) (a : Option Addr) (n c : Nat) (h : AH) : builtinA Try.prog .len ⟨[22]⟩ ty ⟨[.slice a n c]⟩ h = some (.val (.int .i64 n) h) := by kernel_rfl
theorem fa30_0 (b o : Nat) : fieldAddrA Try.prog 30 (.pointer (some ⟨b, o, none⟩)) 0 = some (.pointer (some ⟨b, o, none⟩)) := by kernel_rfl
theorem fa30_1 (b o : Nat) : fieldAddrA Try.prog 30 (.pointer (some ⟨b, o, none⟩)) 1 = some (.pointer (some ⟨b, o + 1, none⟩)) := by kernel_rfl
theorem b8 : ((Try.prog.funcs[8]?).bind (·.body)).isSome = true := rfl

def g8 (args : Array Value) (h : AH) : Option (Value × AH) :=
  match args with
  | ⟨[]⟩ => some (.bool true, h)
  | _ => none
theorem s8 : SumOk Try.prog 8 g8 := SumOk.plain quiet mix (OverOk.none _) fun args h v h₁ hg => by
  unfold g8 at hg
  split at hg
  · cases hg
    obtain ⟨r, hr, e⟩ := Option.map_eq_some_iff.1 e8
    exact ⟨rfl, by simp, .inl rfl, 60, r.2, by rw [hr, ← e]⟩
  · cases hg
theorem g8_nil {h : AH} : g8 ⟨[]⟩ h = some (.bool true, h) := rfl
def ov1 : Over := table [(8, g8)]
theorem ov1_ok : OverOk Try.prog ov1 := OverOk.table fun p hp => by
  simp only [List.mem_cons, List.not_mem_nil, or_false] at hp
  subst hp; exact s8
theorem ov1_8 : ov1 8 = some g8 := rfl
theorem w9 : ov1 9 = none := rfl
theorem w10 : ov1 10 = none := rfl
theorem w11 : ov1 11 = none := rfl
theorem w12 : ov1 12 = none := rfl
theorem w19 : ov1 19 = none := rfl
theorem w23 : ov1 23 = none := rfl
theorem w24 : ov1 24 = none := rfl
theorem w25 : ov1 25 = none := rfl

/-- A list of acts reads so; it lies ahead of the ring. -/
def Ra (l : List (Bool × Int)) (a : Option Addr) (b : Nat) (h : AH) : Prop :=
  l ≠ [] → ∃ β o, a = some ⟨β, o, none⟩ ∧ β < h.next ∧ β < b ∧ ∀ (i : Nat) x, l[i]? = some x → rowK Try.prog 4 (o + i * 2) (h.get β) = some (.bool x.1) ∧ rowK Try.prog 3 (o + i * 2 + 1) (h.get β) = some (.int .i64 x.2)
theorem Ra.keep {l : List (Bool × Int)} {a : Option Addr} {b : Nat} {h h' : AH} (hr : Ra l a b h) (hn : h.next ≤ h'.next) (hg : ∀ γ, γ < b → γ < h.next → h'.get γ = h.get γ) : Ra l a b h' := fun hl => by
  obtain ⟨β, o, e, h1, h2, h3⟩ := hr hl
  exact ⟨β, o, e, Nat.lt_of_lt_of_le h1 hn, h2, fun i x hi => by rw [hg β h2 h1]; exact h3 i x hi⟩

noncomputable def l3 : Code := (loopsOf (Try.f3.body.getD .skip)).getD .skip
noncomputable def l3m : Code := (loopsOf l3).getD .skip
noncomputable def l3j : Code := (loopsOf l3m).getD .skip
theorem st27 : drawStatic (regionOf Try.f3 27) = true := by kernel_rfl
theorem pr27 : drawPairs (regionOf Try.f3 27) = [] := by kernel_rfl
theorem st30 : drawStatic (regionOf Try.f3 30) = true := by kernel_rfl
theorem pr30 : drawPairs (regionOf Try.f3 30) = [(8, 5)] := by kernel_rfl

theorem loop3j {U X : List Int} {ua : Option Addr} {b B m k : Nat} {h : AH} {y : Int} (hU : Us U ua b h) (hB : h.get B = some (partRow (ints X) m 3 (.int .i64 0))) (hX : X.length = m) (hy : X[k]? = some y) (hlt : U.length ≤ 100000) (hd : ∀ (i : Nat) x, U[i]? = some x → x ≠ y) :
    ∀ (r j : Nat), j + r = U.length → ∀ N, r + 2 ≤ N → ∀ (T : List Value), T.length = 176 → T.getD 7 undef = .slice ua U.length U.length → T.getD 10 undef = .slice (some ⟨B, 0, none⟩) m m → T.getD 12 undef = .int .i64 k → T.getD 13 undef = .int .i64 j →
      ∃ T', evalC Try.prog (env Try.prog ov1 N) none (.loop l3j) ⟨⟨T⟩, [], h⟩ = some (.exit 4, ⟨⟨T'⟩, [], h⟩) ∧ T'.length = 176 ∧ ∀ i, i < 13 → T'.getD i undef = T.getD i undef := by
  have st := st27
  have pr := pr27
  simp only [regionOf, regionAt, Try.f3, Option.getD_some, Nat.reduceEqDiff, if_true, if_false] at st pr
  intro r
  induction r with
  | zero =>
    intro j hj N hN T hT t7 t10 t12 t13
    obtain ⟨N, rfl⟩ : ∃ M, N = M + 1 := ⟨N - 1, by omega⟩
    have c1 : decide ((j : Int) < (U.length : Int)) = false := by simp; omega
    rw [evalC_loop]
    simp (maxSteps := 1000000) (disch := omega) only [stepVal_guardT, yD_some, yK_bool, yK_undef, getD_set', List.length_set, Nat.reduceLT, evalC_drawT, drawL_eq, trace_cons, trace_nil, traceK_some, pad, evalC_seq, evalC_region, evalC_cond, evalC_ret, evalC_skip, evalC_label, evalC_exit, evalC_scope, evalC_block, evalC_draw, runOps_cons, runOps_nil, stepOp_eq, stepVal_plain, yieldedA_lit, opA_assign, opA_move, opA_binOp, opA_pick, opA_call, opA_alloc, opA_box, opA_load, opA_store, opA_extract, opA_buildSlice, opA_indexAddr, opA_fieldAddr, aeval_int, aeval_bool, aeval_tmp, aeval_nilSlice, aeval_nilPointer, aeval_nilFunc, aeval_func, arK_val, arK_skip, arK_enter, arK_round, valK_some, valK_none, opsK_some, Option.map_some, Option.map_none, seqK_normal, seqK_ret, seqK_exit, blockK_normal, blockK_ret, blockK_exit, loopK_normal, loopK_ret, loopK_exit, List.getElem?_cons_zero, List.getElem?_cons_succ, Option.bind_some, reduceCtorEq, if_false, if_true, pickK_bool, condK_true, condK_false, endK_ret, endK_normal, resultsA_tmp, resultsA_nil, resVal, Option.some.injEq, Bool.true_eq_false, Bool.false_eq_true, List.map_cons, List.map_nil, binA_add, binA_sub, binA_mul, binA_lss, binA_leq, binA_gtr, binA_geq, binA_eql, binA_neq, callA_builtin, max_int, min_int, loadK_pointer, storeK_pointer, IntWalk.i64_in, IntWalk.i64_quo, binA_quo, binA_rem, Int.tmod_eq_emod_of_nonneg, loadA_rowK, storeA_int hsz3, putK_cell, rowK_cell ag3, rowK_row ag3, boxA_cell, al3, get_empty, next_empty, AH.get_set, AH.get_push, AH.next_set, AH.next_push, resultsA_cell, resK_pointer, roundA_G, roundG_loop, asgK_normal, bodyK_loop, ended_some, endRK_normal, endRK_ret, endRK_exit, rangeK_E, rangeE_ready, rangeE_done, rangeH, setAll, shut_nil, shut_cons, shutK_defs, endK_shut, outK_some, AH.get_kill, AH.next_kill, evalRegion_G, drawG_ok, drawK_all, trace_cons, trace_nil, traceK_some, List.all_cons, List.all_nil, sameRead_K, sameK_plain, sameK_guard, wantK_some, veqK_val, veq_int, veq_bool, veq_pointer, veq_slice, veq_nilSlice, Bool.and_true, Bool.and_self, List.getLast?_cons_cons, List.getLast?_singleton, len_slice one22, indexAddrA_one one22, ixK_slice, append_one one22, apK_nil, apK_some, apB_row, oneOf_row, bs22, Nat.reduceLeDiff, and_self, and_true, true_and, Int.reduceToNat, Int.reduceNe, List.take_succ_cons, List.take_zero, List.take_nil, List.length_cons, List.length_nil, List.cons_append, List.nil_append, Int.reduceLE, Int.reduceLT, Int.reduceEq, Int.reduceNeg, Int.reduceAdd, Int.reduceSub, Int.reduceMul, Int.reduceDiv, Nat.reduceAdd, Nat.reduceEqDiff, decide_true, decide_false, l3j, l3m, l3, loopsOf, Option.getD_some, c1, Try.f3, hT, t7, t13]
    exact ⟨_, rfl, by simp only [getD_set', List.length_set, Nat.reduceEqDiff, Nat.reduceLT, if_true, if_false, hT], fun i hi => by simp (disch := omega) only [setD_ne]⟩
  | succ r ih =>
    simp only [l3j, l3m, l3, loopsOf, Try.f3, Option.getD_some] at ih
    intro j hj N hN T hT t7 t10 t12 t13
    obtain ⟨N, rfl⟩ : ∃ M, N = M + 1 := ⟨N - 1, by omega⟩
    have hx : U[j]? = some (U[j]'(by omega)) := by simp
    have hne := hd j _ hx
    obtain ⟨β, o, rfl, hβ, hbβ, r1⟩ := hU.get hx
    generalize U[j]'(by omega) = x at hx hne r1
    have hkm : k < m := by have := (List.getElem?_eq_some_iff.1 hy).1; omega
    have r2 : rowK Try.prog 3 (0 + k) (h.get B) = some (.int .i64 y) := by
      rw [hB, rowK_part ag3 _ _ _ (by simp [ints, hX]), Nat.zero_add]; simp [ints, hy]
    have c1 : decide ((j : Int) < (U.length : Int)) = true := by simp; omega
    have c2 : decide (x = y) = false := by simpa using hne
    have i1 : 0 ≤ (j : Int) ∧ (j : Int) < (U.length : Int) := by omega
    have i2 : 0 ≤ (k : Int) ∧ (k : Int) < (m : Int) := by omega
    have hk1 : ((j + 1 : Nat) : Int) = (j : Int) + 1 := rfl
    rw [evalC_loop]
    simp (maxSteps := 1000000) (disch := omega) only [stepVal_guardT, yD_some, yK_bool, yK_undef, getD_set', List.length_set, Nat.reduceLT, evalC_drawT, drawL_eq, trace_cons, trace_nil, traceK_some, pad, evalC_seq, evalC_region, evalC_cond, evalC_ret, evalC_skip, evalC_label, evalC_exit, evalC_scope, evalC_block, evalC_draw, runOps_cons, runOps_nil, stepOp_eq, stepVal_plain, yieldedA_lit, opA_assign, opA_move, opA_binOp, opA_pick, opA_call, opA_alloc, opA_box, opA_load, opA_store, opA_extract, opA_buildSlice, opA_indexAddr, opA_fieldAddr, aeval_int, aeval_bool, aeval_tmp, aeval_nilSlice, aeval_nilPointer, aeval_nilFunc, aeval_func, arK_val, arK_skip, arK_enter, arK_round, valK_some, valK_none, opsK_some, Option.map_some, Option.map_none, seqK_normal, seqK_ret, seqK_exit, blockK_normal, blockK_ret, blockK_exit, loopK_normal, loopK_ret, loopK_exit, List.getElem?_cons_zero, List.getElem?_cons_succ, Option.bind_some, reduceCtorEq, if_false, if_true, pickK_bool, condK_true, condK_false, endK_ret, endK_normal, resultsA_tmp, resultsA_nil, resVal, Option.some.injEq, Bool.true_eq_false, Bool.false_eq_true, List.map_cons, List.map_nil, binA_add, binA_sub, binA_mul, binA_lss, binA_leq, binA_gtr, binA_geq, binA_eql, binA_neq, callA_builtin, max_int, min_int, loadK_pointer, storeK_pointer, IntWalk.i64_in, IntWalk.i64_quo, binA_quo, binA_rem, Int.tmod_eq_emod_of_nonneg, loadA_rowK, storeA_int hsz3, putK_cell, rowK_cell ag3, rowK_row ag3, boxA_cell, al3, get_empty, next_empty, AH.get_set, AH.get_push, AH.next_set, AH.next_push, resultsA_cell, resK_pointer, roundA_G, roundG_loop, asgK_normal, bodyK_loop, ended_some, endRK_normal, endRK_ret, endRK_exit, rangeK_E, rangeE_ready, rangeE_done, rangeH, setAll, shut_nil, shut_cons, shutK_defs, endK_shut, outK_some, AH.get_kill, AH.next_kill, evalRegion_G, drawG_ok, drawK_all, trace_cons, trace_nil, traceK_some, List.all_cons, List.all_nil, sameRead_K, sameK_plain, sameK_guard, wantK_some, veqK_val, veq_int, veq_bool, veq_pointer, veq_slice, veq_nilSlice, Bool.and_true, Bool.and_self, List.getLast?_cons_cons, List.getLast?_singleton, len_slice one22, indexAddrA_one one22, ixK_slice, append_one one22, apK_nil, apK_some, apB_row, oneOf_row, bs22, Nat.reduceLeDiff, and_self, and_true, true_and, Int.reduceToNat, Int.reduceNe, List.take_succ_cons, List.take_zero, List.take_nil, List.length_cons, List.length_nil, List.cons_append, List.nil_append, Int.reduceLE, Int.reduceLT, Int.reduceEq, Int.reduceNeg, Int.reduceAdd, Int.reduceSub, Int.reduceMul, Int.reduceDiv, Nat.reduceAdd, Nat.reduceEqDiff, decide_true, decide_false, l3j, l3m, l3, loopsOf, Option.getD_some, c1, c2, Try.f3, hT, t7, t10, t12, t13, r1, r2, i1, i2, Int.toNat_natCast, env_code, st, pr]
    refine Exists.imp (fun T' hh => ⟨hh.1, hh.2.1, fun i hi => (hh.2.2 i hi).trans (by simp (disch := omega) only [setD_ne])⟩) (ih (j + 1) (by omega) N (by omega) _ ?_ ?_ ?_ ?_ ?_)
    · simp only [getD_set', List.length_set, Nat.reduceEqDiff, Nat.reduceLT, if_true, if_false, hT]
    · simp only [getD_set', List.length_set, Nat.reduceEqDiff, Nat.reduceLT, if_true, if_false, hT, t7]
    · simp only [getD_set', List.length_set, Nat.reduceEqDiff, Nat.reduceLT, if_true, if_false, hT, t10]
    · simp only [getD_set', List.length_set, Nat.reduceEqDiff, Nat.reduceLT, if_true, if_false, hT, t12]
    · simp only [getD_set', List.length_set, Nat.reduceEqDiff, Nat.reduceLT, if_true, if_false, hT, hk1]

theorem vals0 (s t : Int) (u : Nat) : vals s t 0 (u + 1) = vals s t 0 u ++ [plc s t u] := by rw [vals_succ]; congr 3; omega
theorem loop3m {s t : Int} (hs : 0 < s) (hs2 : s ≤ 255) {b B m u : Nat} (hum : ((u + m : Nat) : Int) ≤ s) (hbB : b < B) :
    ∀ (r k : Nat), k + r = m → ∀ N, r + 300 ≤ N → ∀ (T : List Value) (h : AH) (ua : Option Addr), T.length = 176 → T.getD 0 undef = .int .i64 (s + 1) → T.getD 7 undef = .slice ua (vals s t 0 (u + k)).length (vals s t 0 (u + k)).length → T.getD 10 undef = .slice (some ⟨B, 0, none⟩) m m → T.getD 12 undef = .int .i64 k →
      Us (vals s t 0 (u + k)) ua b h → h.get B = some (partRow (ints (vals s t u m)) m 3 (.int .i64 0)) → B < h.next →
      ∃ T' h' ua', evalC Try.prog (env Try.prog ov1 N) none (.loop l3m) ⟨⟨T⟩, [], h⟩ = some (.exit 2, ⟨⟨T'⟩, [], h'⟩) ∧ T'.length = 176 ∧ T'.getD 7 undef = .slice ua' (vals s t 0 (u + m)).length (vals s t 0 (u + m)).length ∧ Us (vals s t 0 (u + m)) ua' b h' ∧ h.next ≤ h'.next ∧
        (∀ γ, γ ≤ b → h'.get γ = h.get γ) ∧ ∀ i, i < 7 → T'.getD i undef = T.getD i undef ∧ T'.getD 8 undef = T.getD 8 undef := by
  intro r
  induction r with
  | zero =>
    intro k hk N hN T h ua hT t0 t7 t10 t12 hU hB hlB
    obtain ⟨N, rfl⟩ : ∃ M, N = M + 1 := ⟨N - 1, by omega⟩
    have e : k = m := by omega
    subst e
    have c1 : decide ((k : Int) < (k : Int)) = false := by simp
    rw [evalC_loop]
    simp (maxSteps := 1000000) (disch := omega) only [stepVal_guardT, yD_some, yK_bool, yK_undef, getD_set', List.length_set, Nat.reduceLT, evalC_drawT, drawL_eq, trace_cons, trace_nil, traceK_some, pad, evalC_seq, evalC_region, evalC_cond, evalC_ret, evalC_skip, evalC_label, evalC_exit, evalC_scope, evalC_block, evalC_draw, runOps_cons, runOps_nil, stepOp_eq, stepVal_plain, yieldedA_lit, opA_assign, opA_move, opA_binOp, opA_pick, opA_call, opA_alloc, opA_box, opA_load, opA_store, opA_extract, opA_buildSlice, opA_indexAddr, opA_fieldAddr, aeval_int, aeval_bool, aeval_tmp, aeval_nilSlice, aeval_nilPointer, aeval_nilFunc, aeval_func, arK_val, arK_skip, arK_enter, arK_round, valK_some, valK_none, opsK_some, Option.map_some, Option.map_none, seqK_normal, seqK_ret, seqK_exit, blockK_normal, blockK_ret, blockK_exit, loopK_normal, loopK_ret, loopK_exit, List.getElem?_cons_zero, List.getElem?_cons_succ, Option.bind_some, reduceCtorEq, if_false, if_true, pickK_bool, condK_true, condK_false, endK_ret, endK_normal, resultsA_tmp, resultsA_nil, resVal, Option.some.injEq, Bool.true_eq_false, Bool.false_eq_true, List.map_cons, List.map_nil, binA_add, binA_sub, binA_mul, binA_lss, binA_leq, binA_gtr, binA_geq, binA_eql, binA_neq, callA_builtin, max_int, min_int, loadK_pointer, storeK_pointer, IntWalk.i64_in, IntWalk.i64_quo, binA_quo, binA_rem, Int.tmod_eq_emod_of_nonneg, loadA_rowK, storeA_int hsz3, putK_cell, rowK_cell ag3, rowK_row ag3, boxA_cell, al3, get_empty, next_empty, AH.get_set, AH.get_push, AH.next_set, AH.next_push, resultsA_cell, resK_pointer, roundA_G, roundG_loop, asgK_normal, bodyK_loop, ended_some, endRK_normal, endRK_ret, endRK_exit, rangeK_E, rangeE_ready, rangeE_done, rangeH, setAll, shut_nil, shut_cons, shutK_defs, endK_shut, outK_some, AH.get_kill, AH.next_kill, evalRegion_G, drawG_ok, drawK_all, trace_cons, trace_nil, traceK_some, List.all_cons, List.all_nil, sameRead_K, sameK_plain, sameK_guard, wantK_some, veqK_val, veq_int, veq_bool, veq_pointer, veq_slice, veq_nilSlice, Bool.and_true, Bool.and_self, List.getLast?_cons_cons, List.getLast?_singleton, len_slice one22, indexAddrA_one one22, ixK_slice, append_one one22, apK_nil, apK_some, apB_row, oneOf_row, bs22, Nat.reduceLeDiff, and_self, and_true, true_and, Int.reduceToNat, Int.reduceNe, List.take_succ_cons, List.take_zero, List.take_nil, List.length_cons, List.length_nil, List.cons_append, List.nil_append, Int.reduceLE, Int.reduceLT, Int.reduceEq, Int.reduceNeg, Int.reduceAdd, Int.reduceSub, Int.reduceMul, Int.reduceDiv, Nat.reduceAdd, Nat.reduceEqDiff, decide_true, decide_false, l3m, l3, loopsOf, Option.getD_some, c1, Try.f3, hT, t10, t12]
    exact ⟨_, _, ua, rfl, by simp only [getD_set', List.length_set, Nat.reduceEqDiff, Nat.reduceLT, if_true, if_false, hT], by simp only [getD_set', List.length_set, Nat.reduceEqDiff, Nat.reduceLT, if_true, if_false, t7], hU, Nat.le_refl _, fun _ _ => rfl, fun i hi => ⟨by simp (disch := omega) only [setD_ne], by simp only [getD_set', List.length_set, Nat.reduceEqDiff, Nat.reduceLT, if_true, if_false, hT]⟩⟩
  | succ r ih =>
    simp only [l3m, l3, loopsOf, Try.f3, Option.getD_some] at ih
    intro k hk N hN T h ua hT t0 t7 t10 t12 hU hB hlB
    obtain ⟨N, rfl⟩ : ∃ M, N = M + 1 := ⟨N - 1, by omega⟩
    have hkm : k < m := by omega
    have hy : (vals s t u m)[k]? = some (plc s t ((u + k : Nat) : Int)) := by
      simp [vals, hkm]
    have r1 : rowK Try.prog 3 (0 + k) (h.get B) = some (.int .i64 (plc s t ((u + k : Nat) : Int))) := by
      rw [hB, rowK_part ag3 _ _ _ (by simp [ints, vals_len]), Nat.zero_add]; simp only [ints, List.getElem?_map, hy, Option.map_some]
    have hp := plc_in (t := t) (n := ((u + k : Nat) : Int)) hs
    have c1 : decide ((k : Int) < (m : Int)) = true := by simp; omega
    have c2 : decide (plc s t ((u + k : Nat) : Int) < 1) = false := decide_eq_false (by omega)
    have c3 : decide (s + 1 ≤ plc s t ((u + k : Nat) : Int)) = false := decide_eq_false (by omega)
    have i1 : 0 ≤ (k : Int) ∧ (k : Int) < (m : Int) := by omega
    have hk1 : ((k + 1 : Nat) : Int) = (k : Int) + 1 := rfl
    have hneB : ∀ o, ua ≠ some ⟨B, o, none⟩ := fun o e => by
      rcases hU with ⟨e1, _⟩ | ⟨β, o', L, e1, e2, e3, e4, _, _⟩
      · rw [e1] at e; cases e
      · rw [e1] at e
        simp only [Option.some.injEq, Addr.mk.injEq] at e
        rw [e.1, hB] at e4
        unfold partRow rowObj at e4
        simp at e4
    have hlen := vals_len s t 0 (u + k)
    obtain ⟨ua2, h2, ga, hU2, hn2, hg2⟩ := hU.app (by omega) (plc s t ((u + k : Nat) : Int))
    rw [← vals0] at hU2 ga
    rw [evalC_loop]
    simp (maxSteps := 1000000) (disch := omega) only [stepVal_guardT, yD_some, yK_bool, yK_undef, getD_set', List.length_set, Nat.reduceLT, evalC_drawT, drawL_eq, trace_cons, trace_nil, traceK_some, pad, evalC_seq, evalC_region, evalC_cond, evalC_ret, evalC_skip, evalC_label, evalC_exit, evalC_scope, evalC_block, evalC_draw, runOps_cons, runOps_nil, stepOp_eq, stepVal_plain, yieldedA_lit, opA_assign, opA_move, opA_binOp, opA_pick, opA_call, opA_alloc, opA_box, opA_load, opA_store, opA_extract, opA_buildSlice, opA_indexAddr, opA_fieldAddr, aeval_int, aeval_bool, aeval_tmp, aeval_nilSlice, aeval_nilPointer, aeval_nilFunc, aeval_func, arK_val, arK_skip, arK_enter, arK_round, valK_some, valK_none, opsK_some, Option.map_some, Option.map_none, seqK_normal, seqK_ret, seqK_exit, blockK_normal, blockK_ret, blockK_exit, loopK_normal, loopK_ret, loopK_exit, List.getElem?_cons_zero, List.getElem?_cons_succ, Option.bind_some, reduceCtorEq, if_false, if_true, pickK_bool, condK_true, condK_false, endK_ret, endK_normal, resultsA_tmp, resultsA_nil, resVal, Option.some.injEq, Bool.true_eq_false, Bool.false_eq_true, List.map_cons, List.map_nil, binA_add, binA_sub, binA_mul, binA_lss, binA_leq, binA_gtr, binA_geq, binA_eql, binA_neq, callA_builtin, max_int, min_int, loadK_pointer, storeK_pointer, IntWalk.i64_in, IntWalk.i64_quo, binA_quo, binA_rem, Int.tmod_eq_emod_of_nonneg, loadA_rowK, storeA_int hsz3, putK_cell, rowK_cell ag3, rowK_row ag3, boxA_cell, al3, get_empty, next_empty, AH.get_set, AH.get_push, AH.next_set, AH.next_push, resultsA_cell, resK_pointer, roundA_G, roundG_loop, asgK_normal, bodyK_loop, ended_some, endRK_normal, endRK_ret, endRK_exit, rangeK_E, rangeE_ready, rangeE_done, rangeH, setAll, shut_nil, shut_cons, shutK_defs, endK_shut, outK_some, AH.get_kill, AH.next_kill, evalRegion_G, drawG_ok, drawK_all, trace_cons, trace_nil, traceK_some, List.all_cons, List.all_nil, sameRead_K, sameK_plain, sameK_guard, wantK_some, veqK_val, veq_int, veq_bool, veq_pointer, veq_slice, veq_nilSlice, Bool.and_true, Bool.and_self, List.getLast?_cons_cons, List.getLast?_singleton, len_slice one22, indexAddrA_one one22, ixK_slice, append_one one22, apK_nil, apK_some, apB_row, oneOf_row, bs22, Nat.reduceLeDiff, and_self, and_true, true_and, Int.reduceToNat, Int.reduceNe, List.take_succ_cons, List.take_zero, List.take_nil, List.length_cons, List.length_nil, List.cons_append, List.nil_append, Int.reduceLE, Int.reduceLT, Int.reduceEq, Int.reduceNeg, Int.reduceAdd, Int.reduceSub, Int.reduceMul, Int.reduceDiv, Nat.reduceAdd, Nat.reduceEqDiff, decide_true, decide_false, l3m, l3, loopsOf, Option.getD_some, c1, c2, c3, Try.f3, hT, t0, t7, t10, t12, r1, i1, Int.toNat_natCast]
    generalize hT0 : List.set _ 13 (Value.int IntKind.i64 0) = T0
    have v : T0.length = 176 := by rw [← hT0]; simp only [getD_set', List.length_set, Nat.reduceEqDiff, Nat.reduceLT, if_true, if_false, hT]
    have v0 : T0.getD 0 undef = .int .i64 (s + 1) := by rw [← hT0]; simp only [getD_set', List.length_set, Nat.reduceEqDiff, Nat.reduceLT, if_true, if_false, hT, t0]
    have v7 : T0.getD 7 undef = .slice ua (vals s t 0 (u + k)).length (vals s t 0 (u + k)).length := by rw [← hT0]; simp only [getD_set', List.length_set, Nat.reduceEqDiff, Nat.reduceLT, if_true, if_false, hT, t7]
    have v10 : T0.getD 10 undef = .slice (some ⟨B, 0, none⟩) m m := by rw [← hT0]; simp only [getD_set', List.length_set, Nat.reduceEqDiff, Nat.reduceLT, if_true, if_false, hT, t10]
    have v12 : T0.getD 12 undef = .int .i64 k := by rw [← hT0]; simp only [getD_set', List.length_set, Nat.reduceEqDiff, Nat.reduceLT, if_true, if_false, hT, t12]
    have v13 : T0.getD 13 undef = .int .i64 ((0 : Nat) : Int) := by rw [← hT0]; simp only [getD_set', List.length_set, Nat.reduceEqDiff, Nat.reduceLT, if_true, if_false, hT]; rfl
    have vj : ∀ i, i < 7 → T0.getD i undef = T.getD i undef := fun i hi => by rw [← hT0]; simp (disch := omega) only [setD_ne]
    have v8 : T0.getD 8 undef = T.getD 8 undef := by rw [← hT0]; simp only [getD_set', List.length_set, Nat.reduceEqDiff, Nat.reduceLT, if_true, if_false, hT]
    obtain ⟨T2, e, w, wj⟩ := loop3j hU hB (vals_len _ _ _ _) hy (by omega) (fun i x hi => by
      have hil : i < u + k := by have := (List.getElem?_eq_some_iff.1 hi).1; rw [hlen] at this; exact this
      rw [vals_get' s t (u + k) i hil] at hi
      cases hi
      exact plc_inj hs (by omega) (by omega) (by omega)) (vals s t 0 (u + k)).length 0 (by omega) (N + 1) (by omega) T0 v v7 v10 v12 v13
    simp only [l3j, l3m, l3, loopsOf, Try.f3, Option.getD_some] at e
    have x0 := (wj 0 (by decide)).trans v0
    have x7 := (wj 7 (by decide)).trans v7
    have x10 := (wj 10 (by decide)).trans v10
    have x12 := (wj 12 (by decide)).trans v12
    simp (maxSteps := 1000000) (disch := omega) only [stepVal_guardT, yD_some, yK_bool, yK_undef, getD_set', List.length_set, Nat.reduceLT, evalC_drawT, drawL_eq, trace_cons, trace_nil, traceK_some, pad, evalC_seq, evalC_region, evalC_cond, evalC_ret, evalC_skip, evalC_label, evalC_exit, evalC_scope, evalC_block, evalC_draw, runOps_cons, runOps_nil, stepOp_eq, stepVal_plain, yieldedA_lit, opA_assign, opA_move, opA_binOp, opA_pick, opA_call, opA_alloc, opA_box, opA_load, opA_store, opA_extract, opA_buildSlice, opA_indexAddr, opA_fieldAddr, aeval_int, aeval_bool, aeval_tmp, aeval_nilSlice, aeval_nilPointer, aeval_nilFunc, aeval_func, arK_val, arK_skip, arK_enter, arK_round, valK_some, valK_none, opsK_some, Option.map_some, Option.map_none, seqK_normal, seqK_ret, seqK_exit, blockK_normal, blockK_ret, blockK_exit, loopK_normal, loopK_ret, loopK_exit, List.getElem?_cons_zero, List.getElem?_cons_succ, Option.bind_some, reduceCtorEq, if_false, if_true, pickK_bool, condK_true, condK_false, endK_ret, endK_normal, resultsA_tmp, resultsA_nil, resVal, Option.some.injEq, Bool.true_eq_false, Bool.false_eq_true, List.map_cons, List.map_nil, binA_add, binA_sub, binA_mul, binA_lss, binA_leq, binA_gtr, binA_geq, binA_eql, binA_neq, callA_builtin, max_int, min_int, loadK_pointer, storeK_pointer, IntWalk.i64_in, IntWalk.i64_quo, binA_quo, binA_rem, Int.tmod_eq_emod_of_nonneg, loadA_rowK, storeA_int hsz3, putK_cell, rowK_cell ag3, rowK_row ag3, boxA_cell, al3, get_empty, next_empty, AH.get_set, AH.get_push, AH.next_set, AH.next_push, resultsA_cell, resK_pointer, roundA_G, roundG_loop, asgK_normal, bodyK_loop, ended_some, endRK_normal, endRK_ret, endRK_exit, rangeK_E, rangeE_ready, rangeE_done, rangeH, setAll, shut_nil, shut_cons, shutK_defs, endK_shut, outK_some, AH.get_kill, AH.next_kill, evalRegion_G, drawG_ok, drawK_all, trace_cons, trace_nil, traceK_some, List.all_cons, List.all_nil, sameRead_K, sameK_plain, sameK_guard, wantK_some, veqK_val, veq_int, veq_bool, veq_pointer, veq_slice, veq_nilSlice, Bool.and_true, Bool.and_self, List.getLast?_cons_cons, List.getLast?_singleton, len_slice one22, indexAddrA_one one22, ixK_slice, append_one one22, apK_nil, apK_some, apB_row, oneOf_row, bs22, Nat.reduceLeDiff, and_self, and_true, true_and, Int.reduceToNat, Int.reduceNe, List.take_succ_cons, List.take_zero, List.take_nil, List.length_cons, List.length_nil, List.cons_append, List.nil_append, Int.reduceLE, Int.reduceLT, Int.reduceEq, Int.reduceNeg, Int.reduceAdd, Int.reduceSub, Int.reduceMul, Int.reduceDiv, Nat.reduceAdd, Nat.reduceEqDiff, decide_true, decide_false, Try.f3, e, w, x0, x7, x10, x12, r1, i1, Int.toNat_natCast, ga, env_code]
    have hua : ∀ γ, γ ≤ b → ∀ o, ua ≠ some ⟨γ, o, none⟩ := fun γ hγ o e => by
      rcases hU with ⟨e1, _⟩ | ⟨β, o', L, e1, e2, e3, _⟩
      · rw [e1] at e; cases e
      · rw [e1] at e
        simp only [Option.some.injEq, Addr.mk.injEq] at e
        omega
    have hf7 : ∀ i, i < 7 → T2.getD i undef = T.getD i undef := fun i hi => (wj i (by omega)).trans (vj i hi)
    have hf8 : T2.getD 8 undef = T.getD 8 undef := (wj 8 (by decide)).trans v8
    refine Exists.imp (fun T' hh => Exists.imp (fun h' hh => Exists.imp (fun ua' hh => ⟨hh.1, hh.2.1, hh.2.2.1, hh.2.2.2.1, Nat.le_trans hn2 hh.2.2.2.2.1, fun γ hγ => (hh.2.2.2.2.2.1 γ hγ).trans (hg2 γ (by omega) (hua γ hγ)), fun i hi =>
      ⟨(hh.2.2.2.2.2.2 i hi).1.trans (by rw [← hf7 i hi]; simp (disch := omega) only [setD_ne]), (hh.2.2.2.2.2.2 i hi).2.trans (by rw [← hf8]; simp only [getD_set', List.length_set, Nat.reduceEqDiff, Nat.reduceLT, if_true, if_false, w])⟩⟩) hh) hh) (ih (k + 1) (by omega) N (by omega) _ h2 ua2 ?_ ?_ ?_ ?_ ?_ hU2 ((hg2 B hlB hneB).trans hB) (Nat.lt_of_lt_of_le hlB hn2))
    · simp only [getD_set', List.length_set, Nat.reduceEqDiff, Nat.reduceLT, if_true, if_false, w]
    · simp only [getD_set', List.length_set, Nat.reduceEqDiff, Nat.reduceLT, if_true, if_false, w, x0]
    · simp only [getD_set', List.length_set, Nat.reduceEqDiff, Nat.reduceLT, if_true, if_false, w]; rfl
    · simp only [getD_set', List.length_set, Nat.reduceEqDiff, Nat.reduceLT, if_true, if_false, w, x10]
    · simp only [getD_set', List.length_set, Nat.reduceEqDiff, Nat.reduceLT, if_true, if_false, w, hk1]

/-- The look behind each call. -/
theorem reg30 {b u : Nat} {s t : Int} {h : AH} {ua : Option Addr} (hb : h.get b = some (ringObj s t u)) (hk : Ok s t u) (hU : Us (vals s t 0 u) ua b h) (N : Nat) (T : List Value) (hT : T.length = 176) (t5 : T.getD 5 undef = .pointer (some ⟨b, 0, none⟩))
    (t7 : T.getD 7 undef = .slice ua (vals s t 0 u).length (vals s t 0 u).length) :
    ∃ T', evalC Try.prog (env Try.prog ov1 (N + 2)) none (.region 30 (regionOf Try.f3 30) true) ⟨⟨T⟩, [], h⟩ = some (.normal, ⟨⟨T'⟩, [], h⟩) ∧ T'.length = 176 ∧ T'.getD 174 undef = .bool false ∧ ∀ j, j < 164 → T'.getD j undef = T.getD j undef := by
  have g12 := e12 hb hk ov1 w23 w25 N
  have st := st30
  have pr := pr30
  simp only [regionOf, regionAt, Try.f3, Option.getD_some, Nat.reduceEqDiff, if_true, if_false] at st pr
  have hlen := vals_len s t 0 u
  by_cases z : u = 0
  · subst z
    have d1 : decide ((0 : Int) < ((vals s t 0 0).length : Int)) = false := by rw [hlen]; decide
    simp (maxSteps := 1000000) (disch := omega) only [stepVal_guardT, yD_some, yK_bool, yK_undef, getD_set', List.length_set, Nat.reduceLT, evalC_drawT, drawL_eq, trace_cons, trace_nil, traceK_some, pad, evalC_seq, evalC_region, evalC_cond, evalC_ret, evalC_skip, evalC_label, evalC_exit, evalC_scope, evalC_block, evalC_draw, runOps_cons, runOps_nil, stepOp_eq, stepVal_plain, yieldedA_T, opA_assign, opA_move, opA_binOp, opA_pick, opA_call, opA_alloc, opA_box, opA_load, opA_store, opA_extract, opA_buildSlice, opA_indexAddr, opA_fieldAddr, aeval_int, aeval_bool, aeval_tmp, aeval_nilSlice, aeval_nilPointer, aeval_nilFunc, aeval_func, arK_val, arK_skip, arK_enter, arK_round, valK_some, valK_none, opsK_some, Option.map_some, Option.map_none, seqK_normal, seqK_ret, seqK_exit, blockK_normal, blockK_ret, blockK_exit, loopK_normal, loopK_ret, loopK_exit, List.getElem?_cons_zero, List.getElem?_cons_succ, Option.bind_some, reduceCtorEq, if_false, if_true, pickK_bool, condK_true, condK_false, endK_ret, endK_normal, resultsA_tmp, resultsA_nil, resVal, Option.some.injEq, Bool.true_eq_false, Bool.false_eq_true, List.map_cons, List.map_nil, binA_add, binA_sub, binA_mul, binA_lss, binA_leq, binA_gtr, binA_geq, binA_eql, binA_neq, callA_builtin, max_int, min_int, loadK_pointer, storeK_pointer, IntWalk.i64_in, IntWalk.i64_quo, binA_quo, binA_rem, Int.tmod_eq_emod_of_nonneg, loadA_rowK, storeA_int hsz3, putK_cell, rowK_cell ag3, rowK_row ag3, boxA_cell, al3, get_empty, next_empty, AH.get_set, AH.get_push, AH.next_set, AH.next_push, resultsA_cell, resK_pointer, roundA_G, roundG_loop, asgK_normal, bodyK_loop, ended_some, endRK_normal, endRK_ret, endRK_exit, rangeK_E, rangeE_ready, rangeE_done, rangeH, setAll, shut_nil, shut_cons, shutK_defs, endK_shut, outK_some, AH.get_kill, AH.next_kill, evalRegion_G, drawG_ok, drawK_all, trace_cons, trace_nil, traceK_some, List.all_cons, List.all_nil, sameRead_K, sameK_plain, sameK_guard, wantK_some, veqK_val, veq_int, veq_bool, veq_pointer, veq_slice, veq_nilSlice, Bool.and_true, Bool.and_self, List.getLast?_cons_cons, List.getLast?_singleton, len_slice one22, indexAddrA_one one22, ixK_slice, append_one one22, apK_nil, apK_some, apB_row, oneOf_row, bs22, Nat.reduceLeDiff, and_self, and_true, true_and, Int.reduceToNat, Int.reduceNe, List.take_succ_cons, List.take_zero, List.take_nil, List.length_cons, List.length_nil, List.cons_append, List.nil_append, Int.reduceLE, Int.reduceLT, Int.reduceEq, Int.reduceNeg, Int.reduceAdd, Int.reduceSub, Int.reduceMul, Int.reduceDiv, Nat.reduceAdd, Nat.reduceEqDiff, decide_true, decide_false, regionOf, regionAt, Option.getD_some, Try.f3, hT, t5, t7, d1, st, pr]
    exact ⟨_, rfl, by simp only [getD_set', List.length_set, Nat.reduceEqDiff, Nat.reduceLT, if_true, if_false, hT], by simp only [getD_set', List.length_set, Nat.reduceEqDiff, Nat.reduceLT, if_true, if_false, hT], fun j hj => by simp (disch := omega) only [setD_ne]⟩
  · have d1 : decide ((0 : Int) < ((vals s t 0 u).length : Int)) = true := by rw [hlen]; simp; omega
    obtain ⟨β, o, rfl, _, _, r1⟩ := hU.get (vals_get' s t u 0 (by omega))
    have i1 : (0 : Int) ≤ 0 ∧ (0 : Int) < ((vals s t 0 u).length : Int) := by rw [hlen]; omega
    have e0 : ((0 : Nat) : Int) = 0 := rfl
    rw [e0, Nat.add_zero] at r1
    have d2 : decide (plc s t 0 ≠ plc s t 0) = false := by simp
    have e1 : (0 : Int).toNat = 0 := rfl
    simp (maxSteps := 1000000) (disch := omega) only [stepVal_guardT, yD_some, yK_bool, yK_undef, getD_set', List.length_set, Nat.reduceLT, evalC_drawT, drawL_eq, trace_cons, trace_nil, traceK_some, pad, evalC_seq, evalC_region, evalC_cond, evalC_ret, evalC_skip, evalC_label, evalC_exit, evalC_scope, evalC_block, evalC_draw, runOps_cons, runOps_nil, stepOp_eq, stepVal_plain, yieldedA_T, opA_assign, opA_move, opA_binOp, opA_pick, opA_call, opA_alloc, opA_box, opA_load, opA_store, opA_extract, opA_buildSlice, opA_indexAddr, opA_fieldAddr, aeval_int, aeval_bool, aeval_tmp, aeval_nilSlice, aeval_nilPointer, aeval_nilFunc, aeval_func, arK_val, arK_skip, arK_enter, arK_round, valK_some, valK_none, opsK_some, Option.map_some, Option.map_none, seqK_normal, seqK_ret, seqK_exit, blockK_normal, blockK_ret, blockK_exit, loopK_normal, loopK_ret, loopK_exit, List.getElem?_cons_zero, List.getElem?_cons_succ, Option.bind_some, reduceCtorEq, if_false, if_true, pickK_bool, condK_true, condK_false, endK_ret, endK_normal, resultsA_tmp, resultsA_nil, resVal, Option.some.injEq, Bool.true_eq_false, Bool.false_eq_true, List.map_cons, List.map_nil, binA_add, binA_sub, binA_mul, binA_lss, binA_leq, binA_gtr, binA_geq, binA_eql, binA_neq, callA_builtin, max_int, min_int, loadK_pointer, storeK_pointer, IntWalk.i64_in, IntWalk.i64_quo, binA_quo, binA_rem, Int.tmod_eq_emod_of_nonneg, loadA_rowK, storeA_int hsz3, putK_cell, rowK_cell ag3, rowK_row ag3, boxA_cell, al3, get_empty, next_empty, AH.get_set, AH.get_push, AH.next_set, AH.next_push, resultsA_cell, resK_pointer, roundA_G, roundG_loop, asgK_normal, bodyK_loop, ended_some, endRK_normal, endRK_ret, endRK_exit, rangeK_E, rangeE_ready, rangeE_done, rangeH, setAll, shut_nil, shut_cons, shutK_defs, endK_shut, outK_some, AH.get_kill, AH.next_kill, evalRegion_G, drawG_ok, drawK_all, trace_cons, trace_nil, traceK_some, List.all_cons, List.all_nil, sameRead_K, sameK_plain, sameK_guard, wantK_some, veqK_val, veq_int, veq_bool, veq_pointer, veq_slice, veq_nilSlice, Bool.and_true, Bool.and_self, List.getLast?_cons_cons, List.getLast?_singleton, len_slice one22, indexAddrA_one one22, ixK_slice, append_one one22, apK_nil, apK_some, apB_row, oneOf_row, bs22, Nat.reduceLeDiff, and_self, and_true, true_and, Int.reduceToNat, Int.reduceNe, List.take_succ_cons, List.take_zero, List.take_nil, List.length_cons, List.length_nil, List.cons_append, List.nil_append, Int.reduceLE, Int.reduceLT, Int.reduceEq, Int.reduceNeg, Int.reduceAdd, Int.reduceSub, Int.reduceMul, Int.reduceDiv, Nat.reduceAdd, Nat.reduceEqDiff, decide_true, decide_false, regionOf, regionAt, Option.getD_some, Try.f3, hT, t5, t7, d1, d2, i1, r1, e1, Nat.add_zero, st, pr, g12, callA_func _ _ _ _ _ _ b12, env_call w12]
    exact ⟨_, rfl, by simp only [getD_set', List.length_set, Nat.reduceEqDiff, Nat.reduceLT, if_true, if_false, hT], by simp only [getD_set', List.length_set, Nat.reduceEqDiff, Nat.reduceLT, if_true, if_false, hT], fun j hj => by simp (disch := omega) only [setD_ne]⟩
end Go.Proofs.Ring
