/-
  Paths: Span, Next, pointers: what they come to, at every number.
-/
import Derived.Test.YtdbhiobpeeeppaaPathsP1
import Derived.Test.YtdbhiobpeeeppaaAeS5
namespace Go.Proofs.Paths
set_option linter.unusedSimpArgs false
set_option linter.unusedVariables false
open Go.AE
set_option maxRecDepth 100000

theorem hsz3 : (Try.prog.info? 3).map (·.size) = some 1 := by kernel_rfl
theorem ag3 : isAggT Try.prog 3 = some false := by kernel_rfl
theorem al3 (h : AH) : allocA Try.prog 3 h = some (.pointer (some ⟨h.next, 0, none⟩), h.push (cell1 (.int .i64 0) 3)) := by kernel_rfl
theorem one22 : One Try.prog 22 3 := by
  refine ⟨((zeroA Try.prog 3).get (by kernel_rfl)).1, ((zeroA Try.prog 3).get (by kernel_rfl)).2, by kernel_rfl, by kernel_rfl, by kernel_rfl, by kernel_rfl, by kernel_rfl, Nat.le_of_ble_eq_true (by kernel_rfl), by kernel_rfl⟩
theorem bs22 (a : Int) (h : AH) : buildSliceA Try.prog 22 1 ⟨[(0, .int .i64 a)]⟩ h = some (.slice (some ⟨h.next, 0, none⟩) 1 1, h.push (rowObj [.int .i64 a] 3 0 false)) := by kernel_rfl

/-- One function of an int. -/
def g1 (f : Int → Int) (args : Array Value) (h : AH) : Option (Value × AH) :=
  match args with
  | ⟨[.int .i64 p]⟩ => if -9223372036854775808 ≤ p ∧ p ≤ 9223372036854775807 then some (.int .i64 (f p), h) else none
  | _ => none

theorem s1 {ov : Over} (hov : OverOk Try.prog ov) {fn : FuncId} {f : Int → Int}
    (hf : ∀ p, -9223372036854775808 ≤ p ∧ p ≤ 9223372036854775807 → ∃ n, (callFn Try.prog (env Try.prog ov n) fn ⟨[.int .i64 p]⟩ ⟨.leaf, 0⟩).map (·.1) = some (.int .i64 (f p))) : SumOk Try.prog fn (g1 f) :=
  SumOk.plain quiet mix hov fun args h v h₁ hg => by
    unfold g1 at hg
    split at hg
    · split at hg
      · rename_i hp; cases hg
        obtain ⟨n, hn⟩ := hf _ hp
        obtain ⟨r, hr, e⟩ := Option.map_eq_some_iff.1 hn
        exact ⟨rfl, by simp [plain1], .inl rfl, n, r.2, by rw [hr, ← e]⟩
      · cases hg
    · cases hg

theorem e20 (l : Int) (hp : -9223372036854775808 ≤ l ∧ l ≤ 9223372036854775807) : ∃ n, (callFn Try.prog (env Try.prog (fun _ => none) n) 20 ⟨[.int .i64 l]⟩ ⟨.leaf, 0⟩).map (·.1) = some (.int .i64 (spn l)) := by
  by_cases h1 : l < 0
  · have c1 : decide (l < 0) = true := by simpa using h1
    refine ⟨0, ?_⟩
    rw [callFn_eq Try.func20 rfl]
    simp only [pad, evalC_seq, evalC_region, evalC_cond, evalC_ret, evalC_skip, evalC_label, evalC_exit, evalC_scope, evalC_block, evalC_loop, evalC_draw, runOps_cons, runOps_nil, stepOp_eq, stepVal_plain, stepVal_guard, yieldedA_lit, opA_assign, opA_move, opA_binOp, opA_pick, opA_call, opA_alloc, opA_box, opA_load, opA_store, opA_extract, opA_buildSlice, opA_indexAddr, opA_fieldAddr, aeval_int, aeval_bool, aeval_tmp, aeval_nilSlice, aeval_nilPointer, aeval_nilFunc, aeval_func, List.getD_cons_zero, List.getD_cons_succ, arK_val, arK_skip, arK_enter, arK_round, valK_some, valK_none, List.set_cons_zero, List.set_cons_succ, opsK_some, Option.map_some, Option.map_none, seqK_normal, seqK_ret, seqK_exit, blockK_normal, blockK_ret, blockK_exit, loopK_normal, loopK_ret, loopK_exit, List.getElem?_cons_zero, List.getElem?_cons_succ, Option.bind_some, reduceCtorEq, if_false, if_true, pickK_bool, condK_true, condK_false, endK_ret, endK_normal, resultsA_tmp, resultsA_nil, resVal, Option.some.injEq, Bool.true_eq_false, Bool.false_eq_true, List.map_cons, List.map_nil, binA_add, binA_sub, binA_mul, binA_lss, binA_leq, binA_gtr, binA_geq, binA_eql, binA_neq, callA_builtin, max_int, min_int, loadK_pointer, storeK_pointer, Try.f20, c1]
    have : spn l = 0 := by unfold spn; (repeat' split) <;> omega
    rw [this]
  · have c1 : decide (l < 0) = false := by simpa using h1
    by_cases h2 : 3 < l
    · have c2 : decide (3 < l) = true := by simpa using h2
      refine ⟨0, ?_⟩
      rw [callFn_eq Try.func20 rfl]
      simp only [pad, evalC_seq, evalC_region, evalC_cond, evalC_ret, evalC_skip, evalC_label, evalC_exit, evalC_scope, evalC_block, evalC_loop, evalC_draw, runOps_cons, runOps_nil, stepOp_eq, stepVal_plain, stepVal_guard, yieldedA_lit, opA_assign, opA_move, opA_binOp, opA_pick, opA_call, opA_alloc, opA_box, opA_load, opA_store, opA_extract, opA_buildSlice, opA_indexAddr, opA_fieldAddr, aeval_int, aeval_bool, aeval_tmp, aeval_nilSlice, aeval_nilPointer, aeval_nilFunc, aeval_func, List.getD_cons_zero, List.getD_cons_succ, arK_val, arK_skip, arK_enter, arK_round, valK_some, valK_none, List.set_cons_zero, List.set_cons_succ, opsK_some, Option.map_some, Option.map_none, seqK_normal, seqK_ret, seqK_exit, blockK_normal, blockK_ret, blockK_exit, loopK_normal, loopK_ret, loopK_exit, List.getElem?_cons_zero, List.getElem?_cons_succ, Option.bind_some, reduceCtorEq, if_false, if_true, pickK_bool, condK_true, condK_false, endK_ret, endK_normal, resultsA_tmp, resultsA_nil, resVal, Option.some.injEq, Bool.true_eq_false, Bool.false_eq_true, List.map_cons, List.map_nil, binA_add, binA_sub, binA_mul, binA_lss, binA_leq, binA_gtr, binA_geq, binA_eql, binA_neq, callA_builtin, max_int, min_int, loadK_pointer, storeK_pointer, Try.f20, c1, c2]
      have : spn l = 0 := by unfold spn; (repeat' split) <;> omega
      rw [this]
    · have : l = 0 ∨ l = 1 ∨ l = 2 ∨ l = 3 := by omega
      rcases this with rfl | rfl | rfl | rfl
      · exact ⟨9, by kernel_rfl⟩
      · exact ⟨9, by kernel_rfl⟩
      · exact ⟨9, by kernel_rfl⟩
      · exact ⟨9, by kernel_rfl⟩
theorem s20 : SumOk Try.prog 20 (g1 spn) := s1 (OverOk.none _) e20

/-- The first index that hangs elsewhere. -/
def nxt (n : Int) : Int := if n < 0 then 0 else if n < 8 then n + 1 else if n ≥ 65536 then 65536 else min (8 + ((n - 8) / 64 + 1) * 64) 65536

theorem e24 (n : Int) (hp : -9223372036854775808 ≤ n ∧ n ≤ 9223372036854775807) : ∃ k, (callFn Try.prog (env Try.prog (fun _ => none) k) 24 ⟨[.int .i64 n]⟩ ⟨.leaf, 0⟩).map (·.1) = some (.int .i64 (nxt n)) := by
  refine ⟨0, ?_⟩
  rw [callFn_eq Try.func24 rfl]
  by_cases h1 : n < 0
  · have c1 : decide (n < 0) = true := by simpa using h1
    simp only [pad, evalC_seq, evalC_region, evalC_cond, evalC_ret, evalC_skip, evalC_label, evalC_exit, evalC_scope, evalC_block, evalC_loop, evalC_draw, runOps_cons, runOps_nil, stepOp_eq, stepVal_plain, stepVal_guard, yieldedA_lit, opA_assign, opA_move, opA_binOp, opA_pick, opA_call, opA_alloc, opA_box, opA_load, opA_store, opA_extract, opA_buildSlice, opA_indexAddr, opA_fieldAddr, aeval_int, aeval_bool, aeval_tmp, aeval_nilSlice, aeval_nilPointer, aeval_nilFunc, aeval_func, List.getD_cons_zero, List.getD_cons_succ, arK_val, arK_skip, arK_enter, arK_round, valK_some, valK_none, List.set_cons_zero, List.set_cons_succ, opsK_some, Option.map_some, Option.map_none, seqK_normal, seqK_ret, seqK_exit, blockK_normal, blockK_ret, blockK_exit, loopK_normal, loopK_ret, loopK_exit, List.getElem?_cons_zero, List.getElem?_cons_succ, Option.bind_some, reduceCtorEq, if_false, if_true, pickK_bool, condK_true, condK_false, endK_ret, endK_normal, resultsA_tmp, resultsA_nil, resVal, Option.some.injEq, Bool.true_eq_false, Bool.false_eq_true, List.map_cons, List.map_nil, binA_add, binA_sub, binA_mul, binA_lss, binA_leq, binA_gtr, binA_geq, binA_eql, binA_neq, callA_builtin, max_int, min_int, loadK_pointer, storeK_pointer, Try.f24, c1]
    have : nxt n = 0 := by unfold nxt; simp; omega
    rw [this]
  · have c1 : decide (n < 0) = false := by simpa using h1
    by_cases h2 : n < 8
    · have c2 : decide (n < 8) = true := by simpa using h2
      simp only [pad, evalC_seq, evalC_region, evalC_cond, evalC_ret, evalC_skip, evalC_label, evalC_exit, evalC_scope, evalC_block, evalC_loop, evalC_draw, runOps_cons, runOps_nil, stepOp_eq, stepVal_plain, stepVal_guard, yieldedA_lit, opA_assign, opA_move, opA_binOp, opA_pick, opA_call, opA_alloc, opA_box, opA_load, opA_store, opA_extract, opA_buildSlice, opA_indexAddr, opA_fieldAddr, aeval_int, aeval_bool, aeval_tmp, aeval_nilSlice, aeval_nilPointer, aeval_nilFunc, aeval_func, List.getD_cons_zero, List.getD_cons_succ, arK_val, arK_skip, arK_enter, arK_round, valK_some, valK_none, List.set_cons_zero, List.set_cons_succ, opsK_some, Option.map_some, Option.map_none, seqK_normal, seqK_ret, seqK_exit, blockK_normal, blockK_ret, blockK_exit, loopK_normal, loopK_ret, loopK_exit, List.getElem?_cons_zero, List.getElem?_cons_succ, Option.bind_some, reduceCtorEq, if_false, if_true, pickK_bool, condK_true, condK_false, endK_ret, endK_normal, resultsA_tmp, resultsA_nil, resVal, Option.some.injEq, Bool.true_eq_false, Bool.false_eq_true, List.map_cons, List.map_nil, binA_add, binA_sub, binA_mul, binA_lss, binA_leq, binA_gtr, binA_geq, binA_eql, binA_neq, callA_builtin, max_int, min_int, loadK_pointer, storeK_pointer, Try.f24, c1, c2]
      rw [IntWalk.i64_in (n + 1) (by omega)]
      have : nxt n = n + 1 := by unfold nxt; simp [h1, h2]
      rw [this]
    · have c2 : decide (n < 8) = false := by simpa using h2
      by_cases h3 : n ≥ 65536
      · have c3 : decide (65536 ≤ n) = true := by simpa using h3
        simp only [pad, evalC_seq, evalC_region, evalC_cond, evalC_ret, evalC_skip, evalC_label, evalC_exit, evalC_scope, evalC_block, evalC_loop, evalC_draw, runOps_cons, runOps_nil, stepOp_eq, stepVal_plain, stepVal_guard, yieldedA_lit, opA_assign, opA_move, opA_binOp, opA_pick, opA_call, opA_alloc, opA_box, opA_load, opA_store, opA_extract, opA_buildSlice, opA_indexAddr, opA_fieldAddr, aeval_int, aeval_bool, aeval_tmp, aeval_nilSlice, aeval_nilPointer, aeval_nilFunc, aeval_func, List.getD_cons_zero, List.getD_cons_succ, arK_val, arK_skip, arK_enter, arK_round, valK_some, valK_none, List.set_cons_zero, List.set_cons_succ, opsK_some, Option.map_some, Option.map_none, seqK_normal, seqK_ret, seqK_exit, blockK_normal, blockK_ret, blockK_exit, loopK_normal, loopK_ret, loopK_exit, List.getElem?_cons_zero, List.getElem?_cons_succ, Option.bind_some, reduceCtorEq, if_false, if_true, pickK_bool, condK_true, condK_false, endK_ret, endK_normal, resultsA_tmp, resultsA_nil, resVal, Option.some.injEq, Bool.true_eq_false, Bool.false_eq_true, List.map_cons, List.map_nil, binA_add, binA_sub, binA_mul, binA_lss, binA_leq, binA_gtr, binA_geq, binA_eql, binA_neq, callA_builtin, max_int, min_int, loadK_pointer, storeK_pointer, Try.f24, c1, c2, c3]
        have : nxt n = 65536 := by unfold nxt; simp [h1, h2]; omega
        rw [this]
      · have c3 : decide (65536 ≤ n) = false := by simpa using h3
        simp only [pad, evalC_seq, evalC_region, evalC_cond, evalC_ret, evalC_skip, evalC_label, evalC_exit, evalC_scope, evalC_block, evalC_loop, evalC_draw, runOps_cons, runOps_nil, stepOp_eq, stepVal_plain, stepVal_guard, yieldedA_lit, opA_assign, opA_move, opA_binOp, opA_pick, opA_call, opA_alloc, opA_box, opA_load, opA_store, opA_extract, opA_buildSlice, opA_indexAddr, opA_fieldAddr, aeval_int, aeval_bool, aeval_tmp, aeval_nilSlice, aeval_nilPointer, aeval_nilFunc, aeval_func, List.getD_cons_zero, List.getD_cons_succ, arK_val, arK_skip, arK_enter, arK_round, valK_some, valK_none, List.set_cons_zero, List.set_cons_succ, opsK_some, Option.map_some, Option.map_none, seqK_normal, seqK_ret, seqK_exit, blockK_normal, blockK_ret, blockK_exit, loopK_normal, loopK_ret, loopK_exit, List.getElem?_cons_zero, List.getElem?_cons_succ, Option.bind_some, reduceCtorEq, if_false, if_true, pickK_bool, condK_true, condK_false, endK_ret, endK_normal, resultsA_tmp, resultsA_nil, resVal, Option.some.injEq, Bool.true_eq_false, Bool.false_eq_true, List.map_cons, List.map_nil, binA_add, binA_sub, binA_mul, binA_lss, binA_leq, binA_gtr, binA_geq, binA_eql, binA_neq, callA_builtin, max_int, min_int, loadK_pointer, storeK_pointer, Try.f24, c1, c2, c3, binA_quo _ _ _ _ _ _ (show (64 : Int) ≠ 0 by decide)]
        simp (disch := omega) only [IntWalk.i64_in, IntWalk.i64_quo]
        have : (if 65536 < 8 + ((n - 8) / 64 + 1) * 64 then (65536 : Int) else 8 + ((n - 8) / 64 + 1) * 64) = nxt n := by
          unfold nxt; simp only [h1, h2, h3, if_false]; omega
        rw [this]
theorem s24 : SumOk Try.prog 24 (g1 nxt) := s1 (OverOk.none _) e24

theorem e29 (h : AH) (E : Env) : callFn Try.prog E 29 ⟨[]⟩ h = some (.func (.func 31) #[] #[], h) := by
  rw [callFn_eq Try.func29 rfl]
  simp only [pad, evalC_seq, evalC_region, evalC_cond, evalC_ret, evalC_skip, evalC_label, evalC_exit, evalC_scope, evalC_block, evalC_loop, evalC_draw, runOps_cons, runOps_nil, stepOp_eq, stepVal_plain, stepVal_guard, yieldedA_lit, opA_assign, opA_move, opA_binOp, opA_pick, opA_call, opA_alloc, opA_box, opA_load, opA_store, opA_extract, opA_buildSlice, opA_indexAddr, opA_fieldAddr, aeval_int, aeval_bool, aeval_tmp, aeval_nilSlice, aeval_nilPointer, aeval_nilFunc, aeval_func, List.getD_cons_zero, List.getD_cons_succ, arK_val, arK_skip, arK_enter, arK_round, valK_some, valK_none, List.set_cons_zero, List.set_cons_succ, opsK_some, Option.map_some, Option.map_none, seqK_normal, seqK_ret, seqK_exit, blockK_normal, blockK_ret, blockK_exit, loopK_normal, loopK_ret, loopK_exit, List.getElem?_cons_zero, List.getElem?_cons_succ, Option.bind_some, reduceCtorEq, if_false, if_true, pickK_bool, condK_true, condK_false, endK_ret, endK_normal, resultsA_tmp, resultsA_nil, resVal, Option.some.injEq, Bool.true_eq_false, Bool.false_eq_true, List.map_cons, List.map_nil, binA_add, binA_sub, binA_mul, binA_lss, binA_leq, binA_gtr, binA_geq, binA_eql, binA_neq, callA_builtin, max_int, min_int, loadK_pointer, storeK_pointer, Try.f29]

def g29 (args : Array Value) (h : AH) : Option (Value × AH) :=
  match args with
  | ⟨[]⟩ => some (.func (.func 31) #[] #[], h)
  | _ => none
theorem s29 : SumOk Try.prog 29 g29 := SumOk.exact quiet mix (OverOk.none _) fun args h v h₁ hg => by
  unfold g29 at hg
  split at hg
  · cases hg; exact ⟨0, e29 _ _⟩
  · cases hg

def g18' := g1 lvl
theorem g18_eq (args : Array Value) (h : AH) : g18 args h = g1 lvl args h := rfl

/-- What is said of the functions that the loops call. -/
def ovA : Over := table [(18, g1 lvl), (20, g1 spn), (29, g29)]
theorem ovA_ok : OverOk Try.prog ovA := OverOk.table fun p hp => by
  simp only [List.mem_cons, List.not_mem_nil, or_false] at hp
  rcases hp with rfl | rfl | rfl
  · exact s18
  · exact s20
  · exact s29
theorem ovA18 : ovA 18 = some (g1 lvl) := rfl
theorem ovA20 : ovA 20 = some (g1 spn) := rfl
theorem ovA29 : ovA 29 = some g29 := rfl
theorem g1_int {f : Int → Int} {p : Int} {h : AH} (hp : -9223372036854775808 ≤ p ∧ p ≤ 9223372036854775807) : g1 f ⟨[.int .i64 p]⟩ h = some (.int .i64 (f p), h) := by
  simp only [g1, hp, and_self, if_true]
theorem g29_nil {h : AH} : g29 ⟨[]⟩ h = some (.func (.func 31) #[] #[], h) := rfl
end Go.Proofs.Paths
