/-
  Bits of a block are set one behind the other (mkfs.marks): told.
-/
import Derived.Test.YtimngnabpolgkaaGreatInG31
namespace Go.Proofs.Leaf
set_option linter.unusedSimpArgs false
set_option linter.unusedVariables false
open Go.AE
set_option maxRecDepth 100000
set_option maxHeartbeats 4000000

noncomputable def gMarks (args : Array Value) (h : AH) : Option (Value × AH) :=
  match args.toList with
  | [bvl, .int .i64 (.ofNat a), .int .i64 (.ofNat b), .pointer (some ca)] =>
    match loadA Tryz.prog 48 ca h with
    | some sv => match indexAddrA Tryz.prog 48 sv bvl with
      | some (.pointer (some ⟨B, off, none⟩)) => match h.get B with
        | some (.cells c n e (0, 0) z op false d) =>
          Bool.rec (motive := fun _ => Option (Value × AH)) none
            (match bytesOf (rowB c d off 256) with
              | some l => some (.tuple #[], h.set B (.cells (putB c n off (bv (maskL a b l 0))) n e (0, 0) z op false d))
              | none => none)
            (Nat.ble a b && Nat.ble b 2048 && Nat.ble (off + 256) n && Nat.ble (B + 1) h.next && Nat.ble (ca.block + 1) h.next && !Nat.beq ca.block B)
        | _ => none
      | _ => none
    | none => none
  | _ => none

theorem marks_fn (a b n e z off B : Nat) (op : Bool) (d sv bvl : Value) (ca : Addr) (hab : a ≤ b) (hto : b ≤ 2048) (hn : off + 256 ≤ n) (hcB : ca.block ≠ B)
    (p1 : indexAddrA Tryz.prog 48 sv bvl = some (.pointer (some ⟨B, off, none⟩))) (h : AH) (c : Row) (L : List Nat) (hL : L.length = 256) (hx : ∀ x ∈ L, x < 256) (hg : h.get B = some (.cells c n e (0, 0) z op false d)) (hB : B < h.next) (hc : ca.block < h.next)
    (hr : rowA c d off 256 = bv L) (hl : loadA Tryz.prog 48 ca h = some sv) :
    ∃ k r, callFn Tryz.prog (env Tryz.prog (fun _ => none) k) 301 ⟨[bvl, .int .i64 (a : Int), .int .i64 (b : Int), .pointer (some ca)]⟩ h = some r ∧ r.1 = .tuple #[] ∧ h.next ≤ r.2.next ∧ (∀ γ, γ < h.next → γ ≠ B → r.2.get γ = h.get γ) ∧
      ∃ c', r.2.get B = some (.cells c' n e (0, 0) z op false d) ∧ rowA c' d off 256 = bv (maskL a b L 0) ∧ (∀ j, j < n → ¬ (off ≤ j ∧ j < off + 256) → (c'.get j).getD d = (c.get j).getD d) := by
  have hm : setBits L a (b - a) = maskL a b L 0 := by
    have := setBits_mask L a (b - a) a (Nat.le_refl _) (by omega)
    rwa [maskL_none, show a + (b - a) = b by omega] at this
  refine ⟨0 + 3 + (b - a), callFn_ex Tryz.func301 rfl _ _ (by show 4 ≤ 19; decide) fun T hT t => ?_⟩
  have t0 : T.getD 0 undef = bvl := t 0
  have t1 : T.getD 1 undef = .int .i64 (a : Int) := t 1
  have t2 : T.getD 2 undef = .int .i64 (b : Int) := t 2
  have t3 : T.getD 3 undef = .pointer (some ca) := t 3
  have hT' : T.length = 19 := hT
  have key := marks_loop 0 b n e z off B op d sv bvl ca hto hn hcB p1 (b - a) a (by omega)
  simp only [mrO, blockAt, Tryz.f301, Option.getD_some, Nat.reduceEqDiff, if_true, if_false] at key ⊢
  simp (maxSteps := 1000000) (disch := omega) only [opA_convert, stepVal_guardT, yD_some, yK_bool, yK_undef, getD_set', List.length_set, Nat.reduceLT, evalC_drawT, drawL_eq, trace_cons, trace_nil, traceK_some, pad, evalC_seq, evalC_region, evalC_cond, evalC_ret, evalC_skip, evalC_label, evalC_exit, evalC_scope, evalC_block, evalC_draw, runOps_cons, runOps_nil, stepOp_eq, stepVal_plain, yieldedA_T, opA_assign, opA_move, opA_binOp, opA_pick, opA_call, opA_alloc, opA_box, opA_load, opA_store, opA_extract, opA_buildSlice, opA_indexAddr, opA_fieldAddr, aeval_int, aeval_bool, aeval_tmp, aeval_nilSlice, aeval_nilPointer, aeval_nilFunc, aeval_func, arK_val, arK_skip, arK_enter, arK_round, valK_some, valK_none, opsK_some, Option.map_some, Option.map_none, seqK_normal, seqK_ret, seqK_exit, blockK_normal, blockK_ret, blockK_exit, loopK_normal, loopK_ret, loopK_exit, List.getElem?_cons_zero, List.getElem?_cons_succ, Option.bind_some, reduceCtorEq, if_false, if_true, pickK_bool, condK_true, condK_false, endK_ret, endK_normal, resultsA_tmp, resultsA_nil, resVal, Option.some.injEq, Bool.true_eq_false, Bool.false_eq_true, List.map_cons, List.map_nil, binA_add, binA_sub, binA_mul, binA_lss, binA_leq, binA_gtr, binA_geq, binA_eql, binA_neq, callA_builtin, max_int, min_int, loadK_pointer, storeK_pointer, IntWalk.i64_in, IntWalk.i64_quo, binA_quo, binA_rem, Int.tmod_eq_emod_of_nonneg, loadA_rowK, get_empty, next_empty, AH.get_set, AH.get_push, AH.next_set, AH.next_push, resultsA_cell, resK_pointer, roundA_G, roundG_loop, asgK_normal, bodyK_loop, ended_some, endRK_normal, endRK_ret, endRK_exit, rangeK_E, rangeE_ready, rangeE_done, rangeH, setAll, shut_nil, shut_cons, shutK_defs, endK_shut, outK_some, AH.get_kill, AH.next_kill, evalRegion_G, drawG_ok, drawK_all, trace_cons, trace_nil, traceK_some, List.all_cons, List.all_nil, sameRead_K, sameK_plain, sameK_guard, wantK_some, veqK_val, veq_int, veq_bool, veq_pointer, veq_slice, veq_nilSlice, Bool.and_true, Bool.and_self, List.getLast?_cons_cons, List.getLast?_singleton, ixK_slice, oneOf_row, Nat.reduceLeDiff, and_self, and_true, true_and, Int.reduceToNat, Int.reduceNe, List.take_succ_cons, List.take_zero, List.take_nil, List.length_cons, List.length_nil, List.cons_append, List.nil_append, Int.reduceLE, Int.reduceLT, Int.reduceEq, Int.reduceNeg, Int.reduceAdd, Int.reduceSub, Int.reduceMul, Int.reduceDiv, Nat.reduceAdd, Nat.reduceEqDiff, decide_true, decide_false, hT', t0, t1, t2, t3]
  generalize hT0 : List.set _ 7 _ = T0
  obtain ⟨T', h', c', q1, q2, q3, q4, q5, q6⟩ := key T0 h c L hL hx hg hB hc hr hl (by rw [← hT0]; simp only [getD_set', List.length_set, Nat.reduceEqDiff, Nat.reduceLT, if_true, if_false, hT']) (by rw [← hT0]; simp only [getD_set', List.length_set, Nat.reduceEqDiff, Nat.reduceLT, if_true, if_false, hT', t0]) (by rw [← hT0]; simp only [getD_set', List.length_set, Nat.reduceEqDiff, Nat.reduceLT, if_true, if_false, hT', t2]) (by rw [← hT0]; simp only [getD_set', List.length_set, Nat.reduceEqDiff, Nat.reduceLT, if_true, if_false, hT', t3]) (by rw [← hT0]; simp only [getD_set', List.length_set, Nat.reduceEqDiff, Nat.reduceLT, if_true, if_false, hT'])
  simp (maxSteps := 1000000) (disch := omega) only [opA_convert, stepVal_guardT, yD_some, yK_bool, yK_undef, getD_set', List.length_set, Nat.reduceLT, evalC_drawT, drawL_eq, trace_cons, trace_nil, traceK_some, pad, evalC_seq, evalC_region, evalC_cond, evalC_ret, evalC_skip, evalC_label, evalC_exit, evalC_scope, evalC_block, evalC_draw, runOps_cons, runOps_nil, stepOp_eq, stepVal_plain, yieldedA_T, opA_assign, opA_move, opA_binOp, opA_pick, opA_call, opA_alloc, opA_box, opA_load, opA_store, opA_extract, opA_buildSlice, opA_indexAddr, opA_fieldAddr, aeval_int, aeval_bool, aeval_tmp, aeval_nilSlice, aeval_nilPointer, aeval_nilFunc, aeval_func, arK_val, arK_skip, arK_enter, arK_round, valK_some, valK_none, opsK_some, Option.map_some, Option.map_none, seqK_normal, seqK_ret, seqK_exit, blockK_normal, blockK_ret, blockK_exit, loopK_normal, loopK_ret, loopK_exit, List.getElem?_cons_zero, List.getElem?_cons_succ, Option.bind_some, reduceCtorEq, if_false, if_true, pickK_bool, condK_true, condK_false, endK_ret, endK_normal, resultsA_tmp, resultsA_nil, resVal, Option.some.injEq, Bool.true_eq_false, Bool.false_eq_true, List.map_cons, List.map_nil, binA_add, binA_sub, binA_mul, binA_lss, binA_leq, binA_gtr, binA_geq, binA_eql, binA_neq, callA_builtin, max_int, min_int, loadK_pointer, storeK_pointer, IntWalk.i64_in, IntWalk.i64_quo, binA_quo, binA_rem, Int.tmod_eq_emod_of_nonneg, loadA_rowK, get_empty, next_empty, AH.get_set, AH.get_push, AH.next_set, AH.next_push, resultsA_cell, resK_pointer, roundA_G, roundG_loop, asgK_normal, bodyK_loop, ended_some, endRK_normal, endRK_ret, endRK_exit, rangeK_E, rangeE_ready, rangeE_done, rangeH, setAll, shut_nil, shut_cons, shutK_defs, endK_shut, outK_some, AH.get_kill, AH.next_kill, evalRegion_G, drawG_ok, drawK_all, trace_cons, trace_nil, traceK_some, List.all_cons, List.all_nil, sameRead_K, sameK_plain, sameK_guard, wantK_some, veqK_val, veq_int, veq_bool, veq_pointer, veq_slice, veq_nilSlice, Bool.and_true, Bool.and_self, List.getLast?_cons_cons, List.getLast?_singleton, ixK_slice, oneOf_row, Nat.reduceLeDiff, and_self, and_true, true_and, Int.reduceToNat, Int.reduceNe, List.take_succ_cons, List.take_zero, List.take_nil, List.length_cons, List.length_nil, List.cons_append, List.nil_append, Int.reduceLE, Int.reduceLT, Int.reduceEq, Int.reduceNeg, Int.reduceAdd, Int.reduceSub, Int.reduceMul, Int.reduceDiv, Nat.reduceAdd, Nat.reduceEqDiff, decide_true, decide_false, q1]
  exact ⟨_, rfl, rfl, q2, q3, c', q4, by rw [q5, hm], q6⟩

theorem sMarks : SumOk Tryz.prog 301 gMarks := by
  refine SumOk.of_eval quiet mix (OverOk.none _) fun args h v h₁ hgs => ?_
  unfold gMarks at hgs
  split at hgs
  case h_2 => cases hgs
  rename_i bvl a b ca ha
  split at hgs
  case h_2 => cases hgs
  rename_i sv hl
  split at hgs
  case h_2 => cases hgs
  rename_i B off p1
  split at hgs
  case h_2 => cases hgs
  rename_i c n e z op d hg
  rw [PT.brec] at hgs
  split at hgs
  case isFalse => cases hgs
  rename_i hc
  simp only [Bool.and_eq_true, Bool.not_eq_true'] at hc
  obtain ⟨⟨⟨⟨⟨c1, c2⟩, c3⟩, c4⟩, c5⟩, c6⟩ := hc
  replace c1 := Nat.le_of_ble_eq_true c1
  replace c2 := Nat.le_of_ble_eq_true c2
  replace c3 := Nat.le_of_ble_eq_true c3
  replace c4 := Nat.le_of_ble_eq_true c4
  replace c5 := Nat.le_of_ble_eq_true c5
  replace c6 := Nat.ne_of_beq_eq_false c6
  split at hgs
  case h_2 => cases hgs
  rename_i L hL
  cases hgs
  rw [rowB_eq] at hL
  obtain ⟨e1, e2⟩ := bytesOf_spec _ _ hL
  have hlen : L.length = 256 := by have := congrArg List.length e1; simpa using this.symm
  obtain rfl : args = ⟨[bvl, .int .i64 (.ofNat a), .int .i64 (.ofNat b), .pointer (some ca)]⟩ := by apply Array.ext'; exact ha
  obtain ⟨k, ⟨v₂, h₂⟩, hcall, r1, r2, r3, c', r4, r5, r6⟩ := marks_fn a b n e z off B op d sv bvl ca c1 c2 c3 c6 p1 h c L hlen e2 hg c4 c5 e1 hl
  simp only at r1 r2 r3 r4
  subst r1
  refine ⟨k, .tuple #[], h₂, hcall, fun ρ w hR => ⟨fun β => β, ⟨Nat.le_refl _, fun _ _ => rfl, fun β o ho => ?_, fun _ _ _ _ _ _ e => e⟩, .tuple #[] #[] (by decide) rfl fun j hj => by simp at hj⟩⟩
  have hid : ∀ β i, ρ β = some i → β < (h.set B (.cells (putB c n off (bv (maskL a b L 0))) n e (0, 0) z op false d)).next ∧ β = β := fun β i hi => ⟨(hR.lt β i hi).2, rfl⟩
  rw [AH.get_set] at ho
  by_cases hβ : β = B
  · subst hβ
    rw [if_pos rfl] at ho
    cases ho
    refine ⟨c4, _, r4, c', d, rfl, fun j hj => ?_⟩
    have hml : (bv (maskL a b L 0)).length = 256 := by
      rw [← r5, length_rowA]
    by_cases hin : off ≤ j ∧ j < off + 256
    · have h1 : ((putB c n off (bv (maskL a b L 0))).get j).getD d = (bv (maskL a b L 0)).getD (j - off) undef := by
        rw [get_putB _ _ _ _ _ hj, if_pos (by rw [hml]; exact hin)]; rfl
      have h2 : (c'.get j).getD d = (bv (maskL a b L 0)).getD (j - off) undef := by
        have := getElem?_rowA c' d 256 off (j - off) (by omega)
        rw [r5, show off + (j - off) = j by omega] at this
        rw [List.getD_eq_getElem?_getD, this]; rfl
      rw [h1, h2]
      have hjl : j - off < (bv (maskL a b L 0)).length := by rw [hml]; omega
      have : (bv (maskL a b L 0)).getD (j - off) undef = u8v ((maskL a b L 0).getD (j - off) 0) := by
        rw [length_bv] at hjl
        simp [bv, List.getD, hjl]
      rw [this]
      exact VV.plain1 rfl
    · have h1 : ((putB c n off (bv (maskL a b L 0))).get j).getD d = (c.get j).getD d := by
        rw [get_putB _ _ _ _ _ hj, if_neg (by rw [hml]; exact hin)]
      rw [h1, r6 j hj hin]
      obtain ⟨i, bb, hi, _, C, _, _, _, _, _, _, _, _, _, hv⟩ := hR.obj _ _ hg
      exact VV.self (hv j hj) hid
  · rw [if_neg hβ] at ho
    obtain ⟨i, bb, hi, _, hO⟩ := hR.obj β o ho
    have hlt := (hR.lt β i hi).2
    exact ⟨hlt, o, by rw [r3 β hlt hβ]; exact ho, OO.self hO hid⟩
end Go.Proofs.Leaf
