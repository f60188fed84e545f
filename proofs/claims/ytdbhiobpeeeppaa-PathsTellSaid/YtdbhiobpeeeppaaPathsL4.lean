/-
  Paths: two ways, number by number.
-/
import Derived.Test.YtdbhiobpeeeppaaPathsL2
import Derived.Test.YtdbhiobpeeeppaaAeS8
namespace Go.Proofs.Paths
set_option linter.unusedSimpArgs false
set_option linter.unusedVariables false
open Go.AE
set_option maxRecDepth 100000
set_option maxHeartbeats 2000000

theorem beq4 (ox oy : Operand) (a b : Bool) : binA Try.prog .eql 4 ox oy (.bool a) (.bool b) = some (.bool (a == b)) := by
  cases a <;> cases b <;> (show _ = _; kernel_rfl)
theorem bne4 (ox oy : Operand) (a b : Bool) : binA Try.prog .neq 4 ox oy (.bool a) (.bool b) = some (.bool (a != b)) := by
  cases a <;> cases b <;> (show _ = _; kernel_rfl)

/-- A law of two numbers. -/
def gT2 (args : Array Value) (h : AH) : Option (Value × AH) :=
  match args with
  | ⟨[.int .i64 p, .int .i64 q]⟩ => if (-9223372036854775808 ≤ p ∧ p ≤ 9223372036854775807) ∧ -9223372036854775808 ≤ q ∧ q ≤ 9223372036854775807 then some (.bool true, h) else none
  | _ => none
theorem sT2 {ov : Over} (hov : OverOk Try.prog ov) {fn : FuncId}
    (hf : ∀ p q, (-9223372036854775808 ≤ p ∧ p ≤ 9223372036854775807) → (-9223372036854775808 ≤ q ∧ q ≤ 9223372036854775807) → ∃ n, (callFn Try.prog (env Try.prog ov n) fn ⟨[.int .i64 p, .int .i64 q]⟩ ⟨.leaf, 0⟩).map (·.1) = some (.bool true)) : SumOk Try.prog fn gT2 :=
  SumOk.plain quiet mix hov fun args h v h₁ hg => by
    unfold gT2 at hg
    split at hg
    · split at hg
      · rename_i hp; cases hg
        obtain ⟨n, hn⟩ := hf _ _ hp.1 hp.2
        obtain ⟨r, hr, e⟩ := Option.map_eq_some_iff.1 hn
        exact ⟨rfl, by simp [plain1], .inl rfl, n, r.2, by rw [hr, ← e]⟩
      · cases hg
    · cases hg

/-- The slice that Of answers, and the heap behind it. -/
def ba (n : Int) (h : AH) : Option Addr := if way n = [] then none else some ⟨h.next, 0, none⟩
def hw (n : Int) (h : AH) : AH := if way n = [] then h else h.push (rowObj ((way n).map (.int .i64)) 3 1 true)
theorem g17_in {n : Int} {h : AH} (h0 : 0 ≤ n) (h1 : n < 65536) :
    g17 ⟨[.int .i64 n]⟩ h = some (.tuple ⟨[.int .i64 (ptrOf n), .slice (ba n h) (way n).length (way n).length, .int .i64 0]⟩, hw n h) := by
  unfold g17 ba hw; simp only []
  rw [if_pos (by omega), if_neg (by omega)]
  by_cases e : way n = []
  · rw [if_pos e, if_pos e, if_pos e, e]; rfl
  · rw [if_neg e, if_neg e, if_neg e]; rfl
/-- A slice of ints reads so. -/
def Rd (l : List Int) (a : Option Addr) (h : AH) : Prop :=
  l ≠ [] → ∃ β o, a = some ⟨β, o, none⟩ ∧ β < h.next ∧ ∀ (i : Nat) x, l[i]? = some x → rowK Try.prog 3 (o + i) (h.get β) = some (.int .i64 x)
theorem Rd.hw {l : List Int} {a : Option Addr} {h : AH} (hr : Rd l a h) (n : Int) : Rd l a (hw n h) := fun hl => by
  obtain ⟨β, o, e, hlt, hx⟩ := hr hl
  unfold Paths.hw
  split
  · exact ⟨β, o, e, hlt, hx⟩
  · refine ⟨β, o, e, by rw [AH.next_push]; omega, fun i x hi => ?_⟩
    rw [AH.get_push, if_neg (by omega)]
    exact hx i x hi
theorem Rd.own (n : Int) (h : AH) : Rd (way n) (ba n h) (Paths.hw n h) := fun hl => by
  unfold ba Paths.hw
  rw [if_neg hl, if_neg hl]
  refine ⟨h.next, 0, rfl, by rw [AH.next_push]; omega, fun i x hi => ?_⟩
  rw [AH.get_push, if_pos rfl, rowK_row ag3]
  simp [hi]
theorem way_in (n : Int) (h1 : n < 65536) : ∀ x ∈ way n, 0 ≤ x ∧ x ≤ 63 := by
  unfold way
  intro x hx
  split at hx
  · simp at hx
  · split at hx
    · simp at hx; omega
    · split at hx
      · simp at hx; rcases hx with rfl | rfl <;> omega
      · simp at hx; rcases hx with rfl | rfl | rfl <;> omega
theorem way_len (n : Int) : (way n).length ≤ 3 := by
  unfold way
  (repeat' split) <;> simp
theorem way_lvl (n : Int) (h0 : 0 ≤ n) (h1 : n < 65536) : ((way n).length : Int) = lvl (ptrOf n) := by
  unfold way lvl ptrOf
  (repeat' split) <;> simp <;> omega

theorem st11_15 : drawStatic (regionOf Try.f11 15) = true := by kernel_rfl
theorem pr11_15 : drawPairs (regionOf Try.f11 15) = [] := by kernel_rfl
noncomputable def l11 : Code := (loopsOf (Try.f11.body.getD .skip)).getD .skip

theorem loop11 (la lb : List Int) (hla : ∀ x ∈ la, 0 ≤ x ∧ x ≤ 63) (hsz : la.length ≤ 1000000) (a b : Option Addr) (ca cb : Nat) (h : AH) (ha : Rd la a h) (hb : Rd lb b h) :
    ∀ (r k : Nat), k + r = la.length → ∀ (s : Bool) (T : List Value), T.length = 105 → T.getD 6 undef = .slice a la.length ca → T.getD 9 undef = .slice b lb.length cb → T.getD 11 undef = .bool s → T.getD 12 undef = .int .i64 k →
      (s = true → la.length = lb.length) →
      ∃ T', evalC Try.prog (env Try.prog ovL (r + 2)) none (.loop l11) ⟨⟨T⟩, [], h⟩ = some (.exit 0, ⟨⟨T'⟩, [], h⟩) ∧ T'.length = 105 ∧ T'.getD 11 undef = .bool (s && decide (la.drop k = lb.drop k)) ∧
        ∀ j, j < 11 → T'.getD j undef = T.getD j undef := by
  have st := st11_15
  have pr := pr11_15
  simp only [regionOf, regionAt, Try.f11, Option.getD_some, Nat.reduceEqDiff, if_true, if_false] at st pr
  intro r
  induction r with
  | zero =>
    intro k hk s T hT h6 h9 h11 h12 hs
    have c1 : decide ((k : Int) < (la.length : Int)) = false := by simp; omega
    rw [evalC_loop]
    simp (maxSteps := 1000000) (disch := omega) only [stepVal_guardT, yD_some, yK_bool, yK_undef, getD_set', List.length_set, Nat.reduceLT, evalC_drawT, drawL_eq, trace_cons, trace_nil, traceK_some, pad, evalC_seq, evalC_region, evalC_cond, evalC_ret, evalC_skip, evalC_label, evalC_exit, evalC_scope, evalC_block, evalC_draw, runOps_cons, runOps_nil, stepOp_eq, stepVal_plain, yieldedA_lit, opA_assign, opA_move, opA_binOp, opA_pick, opA_call, opA_alloc, opA_box, opA_load, opA_store, opA_extract, opA_buildSlice, opA_indexAddr, opA_fieldAddr, aeval_int, aeval_bool, aeval_tmp, aeval_nilSlice, aeval_nilPointer, aeval_nilFunc, aeval_func, arK_val, arK_skip, arK_enter, arK_round, valK_some, valK_none, opsK_some, Option.map_some, Option.map_none, seqK_normal, seqK_ret, seqK_exit, blockK_normal, blockK_ret, blockK_exit, loopK_normal, loopK_ret, loopK_exit, List.getElem?_cons_zero, List.getElem?_cons_succ, Option.bind_some, reduceCtorEq, if_false, if_true, pickK_bool, condK_true, condK_false, endK_ret, endK_normal, resultsA_tmp, resultsA_nil, resVal, Option.some.injEq, Bool.true_eq_false, Bool.false_eq_true, List.map_cons, List.map_nil, binA_add, binA_sub, binA_mul, binA_lss, binA_leq, binA_gtr, binA_geq, binA_eql, binA_neq, callA_builtin, max_int, min_int, loadK_pointer, storeK_pointer, IntWalk.i64_in, IntWalk.i64_quo, binA_quo, binA_rem, Int.tmod_eq_emod_of_nonneg, loadA_rowK, storeA_int hsz3, putK_cell, rowK_cell ag3, rowK_row ag3, boxA_cell, al3, get_empty, next_empty, AH.get_set, AH.get_push, AH.next_set, AH.next_push, resultsA_cell, resK_pointer, roundA_G, roundG_loop, asgK_normal, bodyK_loop, ended_some, endRK_normal, endRK_ret, endRK_exit, rangeK_E, rangeE_ready, rangeE_done, rangeH, setAll, shut_nil, shut_cons, shutK_defs, endK_shut, outK_some, AH.get_kill, AH.next_kill, evalRegion_G, drawG_ok, drawK_all, trace_cons, trace_nil, traceK_some, List.all_cons, List.all_nil, sameRead_K, sameK_plain, sameK_guard, wantK_some, veqK_val, veq_int, veq_bool, veq_pointer, veq_slice, veq_nilSlice, Bool.and_true, Bool.and_self, List.getLast?_cons_cons, List.getLast?_singleton, len_slice one22, indexAddrA_one one22, ixK_slice, append_one one22, apK_nil, apK_some, apB_row, oneOf_row, bs22, Nat.reduceLeDiff, and_self, and_true, true_and, Int.reduceToNat, Int.reduceNe, List.take_succ_cons, List.take_zero, List.take_nil, List.length_cons, List.length_nil, List.cons_append, List.nil_append, Int.reduceLE, Int.reduceLT, Int.reduceEq, Int.reduceNeg, Int.reduceAdd, Int.reduceSub, Int.reduceMul, Int.reduceDiv, Nat.reduceAdd, Nat.reduceEqDiff, decide_true, decide_false, l11, loopsOf, Option.getD_some, c1, Try.f11, hT, h6, h9, h11, h12]
    refine ⟨_, rfl, by simp only [getD_set', List.length_set, Nat.reduceEqDiff, Nat.reduceLT, if_true, if_false, hT], ?_, fun j hj => by simp (disch := omega) only [setD_ne]⟩
    simp only [getD_set', List.length_set, Nat.reduceEqDiff, Nat.reduceLT, if_true, if_false, h11]
    cases s with
    | false => rfl
    | true =>
      have := hs rfl
      rw [List.drop_eq_nil_of_le (by omega), List.drop_eq_nil_of_le (by omega)]; simp
  | succ r ih =>
    simp only [l11, loopsOf, Try.f11, Option.getD_some] at ih
    intro k hk s T hT h6 h9 h11 h12 hs
    have c1 : decide ((k : Int) < (la.length : Int)) = true := by simp; omega
    have hka : la[k]? = some (la[k]'(by omega)) := by simp
    obtain ⟨β, o, rfl, hβ, hra⟩ := ha (by intro e; subst e; simp at hk)
    have r1 := hra k _ hka
    have hx := hla (la[k]'(by omega)) (by simp)
    generalize la[k]'(by omega) = x at r1 hka hx
    have c2 : decide (x < 0) = false := by simp; omega
    have c3 : decide (63 < x) = false := by simp; omega
    have i1 : 0 ≤ (k : Int) ∧ (k : Int) < (la.length : Int) := by omega
    have hk1 : ((k + 1 : Nat) : Int) = (k : Int) + 1 := rfl
    have hd : ∀ l : List Int, ∀ z, l[k]? = some z → l.drop k = z :: l.drop (k + 1) := fun l z hz => by
      obtain ⟨hlt, rfl⟩ := List.getElem?_eq_some_iff.1 hz
      exact List.drop_eq_getElem_cons hlt
    rw [evalC_loop]
    cases s with
    | false =>
      simp (maxSteps := 1000000) (disch := omega) only [stepVal_guardT, yD_some, yK_bool, yK_undef, getD_set', List.length_set, Nat.reduceLT, evalC_drawT, drawL_eq, trace_cons, trace_nil, traceK_some, pad, evalC_seq, evalC_region, evalC_cond, evalC_ret, evalC_skip, evalC_label, evalC_exit, evalC_scope, evalC_block, evalC_draw, runOps_cons, runOps_nil, stepOp_eq, stepVal_plain, yieldedA_lit, opA_assign, opA_move, opA_binOp, opA_pick, opA_call, opA_alloc, opA_box, opA_load, opA_store, opA_extract, opA_buildSlice, opA_indexAddr, opA_fieldAddr, aeval_int, aeval_bool, aeval_tmp, aeval_nilSlice, aeval_nilPointer, aeval_nilFunc, aeval_func, arK_val, arK_skip, arK_enter, arK_round, valK_some, valK_none, opsK_some, Option.map_some, Option.map_none, seqK_normal, seqK_ret, seqK_exit, blockK_normal, blockK_ret, blockK_exit, loopK_normal, loopK_ret, loopK_exit, List.getElem?_cons_zero, List.getElem?_cons_succ, Option.bind_some, reduceCtorEq, if_false, if_true, pickK_bool, condK_true, condK_false, endK_ret, endK_normal, resultsA_tmp, resultsA_nil, resVal, Option.some.injEq, Bool.true_eq_false, Bool.false_eq_true, List.map_cons, List.map_nil, binA_add, binA_sub, binA_mul, binA_lss, binA_leq, binA_gtr, binA_geq, binA_eql, binA_neq, callA_builtin, max_int, min_int, loadK_pointer, storeK_pointer, IntWalk.i64_in, IntWalk.i64_quo, binA_quo, binA_rem, Int.tmod_eq_emod_of_nonneg, loadA_rowK, storeA_int hsz3, putK_cell, rowK_cell ag3, rowK_row ag3, boxA_cell, al3, get_empty, next_empty, AH.get_set, AH.get_push, AH.next_set, AH.next_push, resultsA_cell, resK_pointer, roundA_G, roundG_loop, asgK_normal, bodyK_loop, ended_some, endRK_normal, endRK_ret, endRK_exit, rangeK_E, rangeE_ready, rangeE_done, rangeH, setAll, shut_nil, shut_cons, shutK_defs, endK_shut, outK_some, AH.get_kill, AH.next_kill, evalRegion_G, drawG_ok, drawK_all, trace_cons, trace_nil, traceK_some, List.all_cons, List.all_nil, sameRead_K, sameK_plain, sameK_guard, wantK_some, veqK_val, veq_int, veq_bool, veq_pointer, veq_slice, veq_nilSlice, Bool.and_true, Bool.and_self, List.getLast?_cons_cons, List.getLast?_singleton, len_slice one22, indexAddrA_one one22, ixK_slice, append_one one22, apK_nil, apK_some, apB_row, oneOf_row, bs22, Nat.reduceLeDiff, and_self, and_true, true_and, Int.reduceToNat, Int.reduceNe, List.take_succ_cons, List.take_zero, List.take_nil, List.length_cons, List.length_nil, List.cons_append, List.nil_append, Int.reduceLE, Int.reduceLT, Int.reduceEq, Int.reduceNeg, Int.reduceAdd, Int.reduceSub, Int.reduceMul, Int.reduceDiv, Nat.reduceAdd, Nat.reduceEqDiff, decide_true, decide_false, l11, loopsOf, Option.getD_some, c1, c2, c3, Try.f11, hT, h6, h9, h11, h12, r1, i1, Int.toNat_natCast, env_code, st, pr]
      refine Exists.imp (fun T' hh => ⟨hh.1, hh.2.1, hh.2.2.1, fun j hj => (hh.2.2.2 j hj).trans (by simp (disch := omega) only [setD_ne])⟩) (ih (k + 1) (by omega) false _ ?_ ?_ ?_ ?_ ?_ (by simp)) <;> simp only [getD_set', List.length_set, Nat.reduceEqDiff, Nat.reduceLT, if_true, if_false, hT, h6, h9, hk1]
    | true =>
      have hlen := hs rfl
      have hkb : lb[k]? = some (lb[k]'(by omega)) := by simp
      obtain ⟨γ, q, rfl, hγ, hrb⟩ := hb (by intro e; rw [e] at hlen; simp only [List.length_nil] at hlen; omega)
      have r2 := hrb k _ hkb
      generalize lb[k]'(by omega) = y at r2 hkb
      have i2 : 0 ≤ (k : Int) ∧ (k : Int) < (lb.length : Int) := by omega
      simp (maxSteps := 1000000) (disch := omega) only [stepVal_guardT, yD_some, yK_bool, yK_undef, getD_set', List.length_set, Nat.reduceLT, evalC_drawT, drawL_eq, trace_cons, trace_nil, traceK_some, pad, evalC_seq, evalC_region, evalC_cond, evalC_ret, evalC_skip, evalC_label, evalC_exit, evalC_scope, evalC_block, evalC_draw, runOps_cons, runOps_nil, stepOp_eq, stepVal_plain, yieldedA_lit, opA_assign, opA_move, opA_binOp, opA_pick, opA_call, opA_alloc, opA_box, opA_load, opA_store, opA_extract, opA_buildSlice, opA_indexAddr, opA_fieldAddr, aeval_int, aeval_bool, aeval_tmp, aeval_nilSlice, aeval_nilPointer, aeval_nilFunc, aeval_func, arK_val, arK_skip, arK_enter, arK_round, valK_some, valK_none, opsK_some, Option.map_some, Option.map_none, seqK_normal, seqK_ret, seqK_exit, blockK_normal, blockK_ret, blockK_exit, loopK_normal, loopK_ret, loopK_exit, List.getElem?_cons_zero, List.getElem?_cons_succ, Option.bind_some, reduceCtorEq, if_false, if_true, pickK_bool, condK_true, condK_false, endK_ret, endK_normal, resultsA_tmp, resultsA_nil, resVal, Option.some.injEq, Bool.true_eq_false, Bool.false_eq_true, List.map_cons, List.map_nil, binA_add, binA_sub, binA_mul, binA_lss, binA_leq, binA_gtr, binA_geq, binA_eql, binA_neq, callA_builtin, max_int, min_int, loadK_pointer, storeK_pointer, IntWalk.i64_in, IntWalk.i64_quo, binA_quo, binA_rem, Int.tmod_eq_emod_of_nonneg, loadA_rowK, storeA_int hsz3, putK_cell, rowK_cell ag3, rowK_row ag3, boxA_cell, al3, get_empty, next_empty, AH.get_set, AH.get_push, AH.next_set, AH.next_push, resultsA_cell, resK_pointer, roundA_G, roundG_loop, asgK_normal, bodyK_loop, ended_some, endRK_normal, endRK_ret, endRK_exit, rangeK_E, rangeE_ready, rangeE_done, rangeH, setAll, shut_nil, shut_cons, shutK_defs, endK_shut, outK_some, AH.get_kill, AH.next_kill, evalRegion_G, drawG_ok, drawK_all, trace_cons, trace_nil, traceK_some, List.all_cons, List.all_nil, sameRead_K, sameK_plain, sameK_guard, wantK_some, veqK_val, veq_int, veq_bool, veq_pointer, veq_slice, veq_nilSlice, Bool.and_true, Bool.and_self, List.getLast?_cons_cons, List.getLast?_singleton, len_slice one22, indexAddrA_one one22, ixK_slice, append_one one22, apK_nil, apK_some, apB_row, oneOf_row, bs22, Nat.reduceLeDiff, and_self, and_true, true_and, Int.reduceToNat, Int.reduceNe, List.take_succ_cons, List.take_zero, List.take_nil, List.length_cons, List.length_nil, List.cons_append, List.nil_append, Int.reduceLE, Int.reduceLT, Int.reduceEq, Int.reduceNeg, Int.reduceAdd, Int.reduceSub, Int.reduceMul, Int.reduceDiv, Nat.reduceAdd, Nat.reduceEqDiff, decide_true, decide_false, l11, loopsOf, Option.getD_some, c1, c2, c3, Try.f11, hT, h6, h9, h11, h12, r1, r2, i1, i2, Int.toNat_natCast, env_code, st, pr]
      have hc : (decide (x = y) && decide (la.drop (k + 1) = lb.drop (k + 1))) = (true && decide (la.drop k = lb.drop k)) := by
        rw [hd la x hka, hd lb y hkb]; simp
      refine Exists.imp (fun T' hh => ⟨hh.1, hh.2.1, hh.2.2.1.trans (by rw [hc]), fun j hj => (hh.2.2.2 j hj).trans (by simp (disch := omega) only [setD_ne])⟩) (ih (k + 1) (by omega) (decide (x = y)) _ ?_ ?_ ?_ ?_ ?_ (fun _ => hlen)) <;> simp only [getD_set', List.length_set, Nat.reduceEqDiff, Nat.reduceLT, if_true, if_false, hT, h6, h9, hk1]

theorem b_tt : ((true : Bool) == true) = true := rfl
theorem b_tf : ((true : Bool) == false) = false := rfl
theorem b_ft : ((false : Bool) == true) = false := rfl
theorem b_ff : ((false : Bool) == false) = true := rfl
theorem n_tt : ((true : Bool) != true) = false := rfl
theorem n_tf : ((true : Bool) != false) = true := rfl
theorem n_ft : ((false : Bool) != true) = true := rfl
theorem n_ff : ((false : Bool) != false) = false := rfl

theorem g17_no {n : Int} {h : AH} (hp : -9223372036854775808 ≤ n ∧ n ≤ 9223372036854775807) (hr : n < 0 ∨ 65536 ≤ n) : g17 ⟨[.int .i64 n]⟩ h = some (.tuple ⟨[.int .i64 0, .slice none 0 0, .int .i64 100]⟩, h) := by
  unfold g17; simp only [hp, and_self, if_true, hr]
theorem b2i {a b : Int} : (ptrOf a = ptrOf b ∧ way a = way b) → 0 ≤ a → 0 ≤ b → a < 65536 → b < 65536 → a = b := by
  unfold ptrOf way
  rintro ⟨h1, h2⟩ ha hb ka kb
  (repeat' split at h2) <;> (try simp at h2) <;> (repeat' split at h1) <;> omega
end Go.Proofs.Paths
