/-
  Paths: Back.
-/
import Derived.Test.YtdbhiobpeeeppaaPathsL4
import Derived.Test.YtdbhiobpeeeppaaAeS8
namespace Go.Proofs.Paths
set_option linter.unusedSimpArgs false
set_option linter.unusedVariables false
open Go.AE
set_option maxRecDepth 100000
set_option maxHeartbeats 2000000

/-- A slice of ints is read so, of whatever room. -/
def Ri (l : List Int) (a : Option Addr) (h : AH) : Prop := ∀ c, readInts h (.slice a l.length c) = some l
theorem Ri.of {l : List Int} {a : Option Addr} {h : AH} (hr : Rd l a h) (hz : ∀ β o, a = some ⟨β, o, none⟩ → ∀ c m e fz esz op ro d, h.get β = some (.cells c m e fz esz op ro d) → True) (hb : l ≠ [] → ∃ β o c m e fz esz op ro d, a = some ⟨β, o, none⟩ ∧ h.get β = some (.cells c m e fz esz op ro d)) : Ri l a h := fun c => by
  cases l with
  | nil => rfl
  | cons x l =>
    obtain ⟨β, o, cc, m, e, fz, esz, op, ro, d, ea, hg⟩ := hb (by simp)
    obtain ⟨β', o', ea', hlt, hx⟩ := hr (by simp)
    rw [ea] at ea'; cases ea'
    subst ea
    have hrow : ∀ (i : Nat) y, (x :: l)[i]? = some y → o + i < m ∧ (cc.get (o + i)).getD d = .int .i64 y := fun i y hy => by
      have := hx i y hy
      unfold rowK at this
      rw [hg] at this
      simp only [ag3] at this
      split at this
      · rename_i hlt; exact ⟨hlt, by simpa using this⟩
      · cases this
    have e : readInts h (.slice (some ⟨β, o, none⟩) (x :: l).length c) = (match h.get β with
      | some (.cells c m _ _ _ _ _ d) => if o + (x :: l).length ≤ m then intsOf (rowA c d o (x :: l).length) else none
      | _ => none) := rfl
    rw [e]
    simp only [hg]
    have hl := hrow l.length ((x :: l)[l.length]'(by simp)) (by simp)
    rw [if_pos (by simp; omega)]
    have : rowA cc d o (x :: l).length = (x :: l).map (.int .i64) := by
      apply List.ext_getElem?
      intro i
      by_cases hi : i < (x :: l).length
      · rw [getElem?_rowA cc d _ o i hi, List.getElem?_map, List.getElem?_eq_getElem hi]
        have := (hrow i _ (List.getElem?_eq_getElem hi)).2
        rw [this]; rfl
      · rw [List.getElem?_eq_none (by simpa using hi), List.getElem?_eq_none (by simpa using hi)]
    rw [this]; exact intsOf_map _
theorem Ri.own (n : Int) (h : AH) : Ri (way n) (ba n h) (hw n h) := fun c => by
  unfold ba hw
  by_cases e : way n = []
  · rw [e]; rfl
  · rw [if_neg e, if_neg e]
    exact readInts_row (by rw [AH.get_push, if_pos rfl]) c
theorem Ri.hw {l : List Int} {a : Option Addr} {h : AH} (hr : Ri l a h) (hlt : ∀ x, a = some x → x.block < h.next) (n : Int) : Ri l a (hw n h) := fun c => by
  have := hr c
  unfold Paths.hw
  split
  · exact this
  · cases l with
    | nil => rfl
    | cons x l =>
      cases a with
      | none => cases (show (none : Option (List Int)) = some (x :: l) from this)
      | some a =>
        obtain ⟨β, o, sp⟩ := a
        have hne : β ≠ h.next := Nat.ne_of_lt (hlt _ rfl)
        have eg : (h.push (rowObj ((way n).map (.int .i64)) 3 1 true)).get β = h.get β := by rw [AH.get_push, if_neg hne]
        cases sp with
        | none =>
          rw [← this]
          show (match AH.get _ β with | some (.cells c m _ _ _ _ _ d) => if o + (x :: l).length ≤ m then intsOf (rowA c d o (x :: l).length) else none | _ => none) = (match AH.get _ β with | some (.cells c m _ _ _ _ _ d) => if o + (x :: l).length ≤ m then intsOf (rowA c d o (x :: l).length) else none | _ => none)
          rw [eg]
        | some _ => cases (show (none : Option (List Int)) = some (x :: l) from this)
theorem hw_next (n : Int) (h : AH) : h.next ≤ (Paths.hw n h).next := by
  unfold Paths.hw; split
  · exact Nat.le_refl _
  · rw [AH.next_push]; omega
theorem ba_lt (n : Int) (h : AH) : ∀ x, ba n h = some x → x.block < (Paths.hw n h).next := fun x e => by
  unfold ba at e; unfold Paths.hw
  split at e
  · cases e
  · rename_i hne; cases e; rw [if_neg hne, AH.next_push]; exact Nat.lt_succ_self _

theorem g13_of {p : Int} {l : List Int} {a : Option Addr} {c : Nat} {h : AH} (hr : Ri l a h) (hp : -9223372036854775808 ≤ p ∧ p ≤ 9223372036854775807) (hf : fine l = true) (hl : l.length ≤ 1000000) :
    g13 ⟨[.int .i64 p, .slice a l.length c]⟩ h = some (.tuple ⟨[.int .i64 (idx p l).1, .int .i64 (idx p l).2]⟩, h) := by
  unfold g13
  simp only [hr c]
  rw [if_pos ⟨hp, hf, hl⟩]
theorem g15_of {la lb : List Int} {a b : Option Addr} {c d : Nat} {h : AH} (ha : Ri la a h) (hb : Ri lb b h) (h1 : la.length ≤ 1000000) (h2 : lb.length ≤ 1000000) :
    g15 ⟨[.slice a la.length c, .slice b lb.length d]⟩ h = some (.bool (same la lb), h) := by
  unfold g15
  simp only [ha c, hb d]
  rw [if_pos ⟨h1, h2⟩]
theorem fine_way (n : Int) (h1 : n < 65536) : fine (way n) = true := by
  unfold fine
  rw [List.all_eq_true]
  intro x hx
  have := way_in n h1 x hx
  simp; omega
theorem idx_way (n : Int) (h0 : 0 ≤ n) (h1 : n < 65536) : idx (ptrOf n) (way n) = (n, 0) := by
  have hl := way_lvl n h0 h1
  refine idx_ok (fun x hx => ?_) ?_ hl ?_ h1
  · have := way_in n h1 x hx; omega
  · unfold ptrOf frs fst; (repeat' split) <;> omega
  · unfold ptrOf way frs fst; (repeat' split) <;> simp [num] <;> omega
theorem idx_cases (p : Int) (l : List Int) : idx p l = (0, 100) ∨ ∃ i, idx p l = (i, 0) ∧ 0 ≤ i ∧ i < 65536 ∧ ptrOf i = p ∧ way i = l := by
  unfold idx
  by_cases c : frs p < 0 ∨ (l.length : Int) ≠ lvl p ∨ l.any bad = true ∨ 65536 ≤ frs p + num 0 l
  · rw [if_pos c]; exact .inl rfl
  · rw [if_neg c]
    refine .inr ⟨_, rfl, ?_⟩
    have c1 : 0 ≤ frs p := by omega
    have c2 : (l.length : Int) = lvl p := by
      apply Classical.byContradiction; intro h; exact c (.inr (.inl h))
    have c3 : l.any bad = false := by
      cases h : l.any bad with
      | false => rfl
      | true => exact absurd (.inr (.inr (.inl h))) c
    have c4 : frs p + num 0 l < 65536 := by
      apply Classical.byContradiction; intro h; exact c (.inr (.inr (.inr (by omega))))
    have hb : ∀ x ∈ l, 0 ≤ x ∧ x < 64 := fun x hx => by
      have := List.any_eq_false.1 c3 x hx
      simp [bad] at this; omega
    have hp : 0 ≤ p ∧ p ≤ 10 := by
      unfold frs at c1; split at c1
      · omega
      · omega
    have hf : frs p = fst p := by unfold frs; rw [if_neg (by omega)]
    rw [hf] at c4 ⊢
    have hcase : p ≤ 7 ∨ p = 8 ∨ p = 9 ∨ p = 10 := by omega
    rcases hcase with h | rfl | rfl | rfl
    · have hl0 : lvl p = 0 := by unfold lvl; rw [if_neg (by omega), if_pos h]
      have : l = [] := List.length_eq_zero_iff.1 (by omega)
      subst this
      have e : fst p = p := by unfold fst; rw [if_pos (by omega)]
      rw [e]
      simp only [num, Int.add_zero]
      refine ⟨hp.1, by omega, ?_, ?_⟩
      · unfold ptrOf; rw [if_pos (by omega)]
      · unfold way; rw [if_pos (by omega)]
    · have hl0 : lvl 8 = 1 := rfl
      match l, (show l.length = 1 by omega) with
      | [x], _ =>
        have := hb x (by simp)
        have e : fst 8 + num 0 [x] = 8 + x := by simp [fst, num]
        rw [e] at c4 ⊢
        refine ⟨by omega, by omega, ?_, ?_⟩
        · unfold ptrOf; rw [if_neg (by omega), if_pos (by omega)]
        · unfold way; rw [if_neg (by omega), if_pos (by omega)]; congr 1; omega
    · have hl0 : lvl 9 = 2 := rfl
      match l, (show l.length = 2 by omega) with
      | [x, y], _ =>
        have := hb x (by simp)
        have := hb y (by simp)
        have e : fst 9 + num 0 [x, y] = 72 + (64 * x + y) := by simp [fst, num]
        rw [e] at c4 ⊢
        refine ⟨by omega, by omega, ?_, ?_⟩
        · unfold ptrOf; rw [if_neg (by omega), if_neg (by omega), if_pos (by omega)]
        · unfold way; rw [if_neg (by omega), if_neg (by omega), if_pos (by omega)]; congr 1
          · omega
          · congr 1; omega
    · have hl0 : lvl 10 = 3 := rfl
      match l, (show l.length = 3 by omega) with
      | [x, y, z], _ =>
        have := hb x (by simp)
        have := hb y (by simp)
        have := hb z (by simp)
        have e : fst 10 + num 0 [x, y, z] = 4168 + (64 * (64 * x + y) + z) := by simp [fst, num]
        rw [e] at c4 ⊢
        refine ⟨by omega, by omega, ?_, ?_⟩
        · unfold ptrOf; rw [if_neg (by omega), if_neg (by omega), if_neg (by omega)]
        · unfold way; rw [if_neg (by omega), if_neg (by omega), if_neg (by omega)]; congr 1
          · omega
          · congr 1
            · omega
            · congr 1; omega
theorem same_self (l : List Int) : same l l = true := by unfold same; simp

theorem e5_big (n p : Int) (hn : -9223372036854775808 ≤ n ∧ n ≤ 9223372036854775807) (hp : -9223372036854775808 ≤ p ∧ p ≤ 9223372036854775807) (l : List Int) (hf : fine l = true) (a : Option Addr) (c : Nat) (h : AH) (hr : Ri l a h) (hlt : ∀ x, a = some x → x.block < h.next) (hl : 1000 < l.length) : ∃ m, (callFn Try.prog (env Try.prog ovL m) 5 ⟨[.int .i64 n, .int .i64 p, .slice a l.length c]⟩ h).map (·.1) = some (.bool true) := by
  refine ⟨3, ?_⟩
  refine callFn_Tm Try.func5 rfl _ _ (by show 3 ≤ 97; decide) fun T hT hq => ?_
  have p0 : T.getD 0 undef = .int .i64 n := hq 0
  have p1 : T.getD 1 undef = .int .i64 p := hq 1
  have p2 : T.getD 2 undef = .slice a l.length c := hq 2
  replace hT : T.length = 97 := hT
  have d0 : decide ((1000 : Int) < (l.length : Int)) = true := by simp; omega
  simp (maxSteps := 1000000) (disch := omega) only [stepVal_guardT, yD_some, yK_bool, yK_undef, getD_set', List.length_set, Nat.reduceLT, evalC_drawT, drawL_eq, trace_cons, trace_nil, traceK_some, pad, evalC_seq, evalC_region, evalC_cond, evalC_ret, evalC_skip, evalC_label, evalC_exit, evalC_scope, evalC_block, evalC_draw, runOps_cons, runOps_nil, stepOp_eq, stepVal_plain, yieldedA_lit, opA_assign, opA_move, opA_binOp, opA_pick, opA_call, opA_alloc, opA_box, opA_load, opA_store, opA_extract, opA_buildSlice, opA_indexAddr, opA_fieldAddr, aeval_int, aeval_bool, aeval_tmp, aeval_nilSlice, aeval_nilPointer, aeval_nilFunc, aeval_func, arK_val, arK_skip, arK_enter, arK_round, valK_some, valK_none, opsK_some, Option.map_some, Option.map_none, seqK_normal, seqK_ret, seqK_exit, blockK_normal, blockK_ret, blockK_exit, loopK_normal, loopK_ret, loopK_exit, List.getElem?_cons_zero, List.getElem?_cons_succ, Option.bind_some, reduceCtorEq, if_false, if_true, pickK_bool, condK_true, condK_false, endK_ret, endK_normal, resultsA_tmp, resultsA_nil, resVal, Option.some.injEq, Bool.true_eq_false, Bool.false_eq_true, List.map_cons, List.map_nil, binA_add, binA_sub, binA_mul, binA_lss, binA_leq, binA_gtr, binA_geq, binA_eql, binA_neq, callA_builtin, max_int, min_int, loadK_pointer, storeK_pointer, IntWalk.i64_in, IntWalk.i64_quo, binA_quo, binA_rem, Int.tmod_eq_emod_of_nonneg, loadA_rowK, storeA_int hsz3, putK_cell, rowK_cell ag3, rowK_row ag3, boxA_cell, al3, get_empty, next_empty, AH.get_set, AH.get_push, AH.next_set, AH.next_push, resultsA_cell, resK_pointer, roundA_G, roundG_loop, asgK_normal, bodyK_loop, ended_some, endRK_normal, endRK_ret, endRK_exit, rangeK_E, rangeE_ready, rangeE_done, rangeH, setAll, shut_nil, shut_cons, shutK_defs, endK_shut, outK_some, AH.get_kill, AH.next_kill, evalRegion_G, drawG_ok, drawK_all, trace_cons, trace_nil, traceK_some, List.all_cons, List.all_nil, sameRead_K, sameK_plain, sameK_guard, wantK_some, veqK_val, veq_int, veq_bool, veq_pointer, veq_slice, veq_nilSlice, Bool.and_true, Bool.and_self, List.getLast?_cons_cons, List.getLast?_singleton, len_slice one22, indexAddrA_one one22, ixK_slice, append_one one22, apK_nil, apK_some, apB_row, oneOf_row, bs22, Nat.reduceLeDiff, and_self, and_true, true_and, Int.reduceToNat, Int.reduceNe, List.take_succ_cons, List.take_zero, List.take_nil, List.length_cons, List.length_nil, List.cons_append, List.nil_append, Int.reduceLE, Int.reduceLT, Int.reduceEq, Int.reduceNeg, Int.reduceAdd, Int.reduceSub, Int.reduceMul, Int.reduceDiv, Nat.reduceAdd, Nat.reduceEqDiff, decide_true, decide_false, Try.f5, hT, p0, p1, p2, d0, callA_func _ _ _ _ _ _ b18, callA_func _ _ _ _ _ _ b20, callA_func _ _ _ _ _ _ b22, callA_func _ _ _ _ _ _ b24, callA_func _ _ _ _ _ _ b26, callA_func _ _ _ _ _ _ b17, callA_func _ _ _ _ _ _ b13, callA_func _ _ _ _ _ _ b15, callA_func _ _ _ _ _ _ b28, env_call_ov ovL18, env_call_ov ovL20, env_call_ov ovL22, env_call_ov ovL24, env_call_ov ovL26, env_call_ov ovL17, env_call_ov ovL13, env_call_ov ovL15, env_call_ov ovL28, g28_nil, g1_int (f := lvl), g1_int (f := spn), g1_int (f := frs), g1_int (f := nxt), g1_int (f := ind), opA_unOp_not, notG_bool, Bool.not_true, Bool.not_false, callA_value, env_code, m0, m1, m2, m3, extractA2, extractA3, beq4, bne4, b_tt, b_tf, b_ft, b_ff, n_tt, n_tf, n_ft, n_ff]

theorem e5_n0 (n p : Int) (hn : -9223372036854775808 ≤ n ∧ n ≤ 9223372036854775807) (hp : -9223372036854775808 ≤ p ∧ p ≤ 9223372036854775807) (l : List Int) (hf : fine l = true) (a : Option Addr) (c : Nat) (h : AH) (hr : Ri l a h) (hlt : ∀ x, a = some x → x.block < h.next) (hl : l.length ≤ 1000) (kn : n < 0) (hi : idx p l = (0, 100)) : ∃ m, (callFn Try.prog (env Try.prog ovL m) 5 ⟨[.int .i64 n, .int .i64 p, .slice a l.length c]⟩ h).map (·.1) = some (.bool true) := by
  refine ⟨3, ?_⟩
  refine callFn_Tm Try.func5 rfl _ _ (by show 3 ≤ 97; decide) fun T hT hq => ?_
  have p0 : T.getD 0 undef = .int .i64 n := hq 0
  have p1 : T.getD 1 undef = .int .i64 p := hq 1
  have p2 : T.getD 2 undef = .slice a l.length c := hq 2
  replace hT : T.length = 97 := hT
  have d0 : decide ((1000 : Int) < (l.length : Int)) = false := by simp; omega
  have d1 : decide (0 ≤ n) = false := by simp; omega
  have ga := fun h => g17_no (n := n) (h := h) hn (by omega)
  have gj := g13_of (c := c) hr hp hf (by omega)
  rw [hi] at gj
  simp (maxSteps := 1000000) (disch := omega) only [stepVal_guardT, yD_some, yK_bool, yK_undef, getD_set', List.length_set, Nat.reduceLT, evalC_drawT, drawL_eq, trace_cons, trace_nil, traceK_some, pad, evalC_seq, evalC_region, evalC_cond, evalC_ret, evalC_skip, evalC_label, evalC_exit, evalC_scope, evalC_block, evalC_draw, runOps_cons, runOps_nil, stepOp_eq, stepVal_plain, yieldedA_lit, opA_assign, opA_move, opA_binOp, opA_pick, opA_call, opA_alloc, opA_box, opA_load, opA_store, opA_extract, opA_buildSlice, opA_indexAddr, opA_fieldAddr, aeval_int, aeval_bool, aeval_tmp, aeval_nilSlice, aeval_nilPointer, aeval_nilFunc, aeval_func, arK_val, arK_skip, arK_enter, arK_round, valK_some, valK_none, opsK_some, Option.map_some, Option.map_none, seqK_normal, seqK_ret, seqK_exit, blockK_normal, blockK_ret, blockK_exit, loopK_normal, loopK_ret, loopK_exit, List.getElem?_cons_zero, List.getElem?_cons_succ, Option.bind_some, reduceCtorEq, if_false, if_true, pickK_bool, condK_true, condK_false, endK_ret, endK_normal, resultsA_tmp, resultsA_nil, resVal, Option.some.injEq, Bool.true_eq_false, Bool.false_eq_true, List.map_cons, List.map_nil, binA_add, binA_sub, binA_mul, binA_lss, binA_leq, binA_gtr, binA_geq, binA_eql, binA_neq, callA_builtin, max_int, min_int, loadK_pointer, storeK_pointer, IntWalk.i64_in, IntWalk.i64_quo, binA_quo, binA_rem, Int.tmod_eq_emod_of_nonneg, loadA_rowK, storeA_int hsz3, putK_cell, rowK_cell ag3, rowK_row ag3, boxA_cell, al3, get_empty, next_empty, AH.get_set, AH.get_push, AH.next_set, AH.next_push, resultsA_cell, resK_pointer, roundA_G, roundG_loop, asgK_normal, bodyK_loop, ended_some, endRK_normal, endRK_ret, endRK_exit, rangeK_E, rangeE_ready, rangeE_done, rangeH, setAll, shut_nil, shut_cons, shutK_defs, endK_shut, outK_some, AH.get_kill, AH.next_kill, evalRegion_G, drawG_ok, drawK_all, trace_cons, trace_nil, traceK_some, List.all_cons, List.all_nil, sameRead_K, sameK_plain, sameK_guard, wantK_some, veqK_val, veq_int, veq_bool, veq_pointer, veq_slice, veq_nilSlice, Bool.and_true, Bool.and_self, List.getLast?_cons_cons, List.getLast?_singleton, len_slice one22, indexAddrA_one one22, ixK_slice, append_one one22, apK_nil, apK_some, apB_row, oneOf_row, bs22, Nat.reduceLeDiff, and_self, and_true, true_and, Int.reduceToNat, Int.reduceNe, List.take_succ_cons, List.take_zero, List.take_nil, List.length_cons, List.length_nil, List.cons_append, List.nil_append, Int.reduceLE, Int.reduceLT, Int.reduceEq, Int.reduceNeg, Int.reduceAdd, Int.reduceSub, Int.reduceMul, Int.reduceDiv, Nat.reduceAdd, Nat.reduceEqDiff, decide_true, decide_false, Try.f5, hT, p0, p1, p2, d0, gj, d1, ga, callA_func _ _ _ _ _ _ b18, callA_func _ _ _ _ _ _ b20, callA_func _ _ _ _ _ _ b22, callA_func _ _ _ _ _ _ b24, callA_func _ _ _ _ _ _ b26, callA_func _ _ _ _ _ _ b17, callA_func _ _ _ _ _ _ b13, callA_func _ _ _ _ _ _ b15, callA_func _ _ _ _ _ _ b28, env_call_ov ovL18, env_call_ov ovL20, env_call_ov ovL22, env_call_ov ovL24, env_call_ov ovL26, env_call_ov ovL17, env_call_ov ovL13, env_call_ov ovL15, env_call_ov ovL28, g28_nil, g1_int (f := lvl), g1_int (f := spn), g1_int (f := frs), g1_int (f := nxt), g1_int (f := ind), opA_unOp_not, notG_bool, Bool.not_true, Bool.not_false, callA_value, env_code, m0, m1, m2, m3, extractA2, extractA3, beq4, bne4, b_tt, b_tf, b_ft, b_ff, n_tt, n_tf, n_ft, n_ff]

theorem e5_n1 (n p : Int) (hn : -9223372036854775808 ≤ n ∧ n ≤ 9223372036854775807) (hp : -9223372036854775808 ≤ p ∧ p ≤ 9223372036854775807) (l : List Int) (hf : fine l = true) (a : Option Addr) (c : Nat) (h : AH) (hr : Ri l a h) (hlt : ∀ x, a = some x → x.block < h.next) (hl : l.length ≤ 1000) (kn : n < 0) (i : Int) (hi : idx p l = (i, 0)) (h0 : 0 ≤ i) (h1 : i < 65536) (hpi : ptrOf i = p) (hwi : way i = l) : ∃ m, (callFn Try.prog (env Try.prog ovL m) 5 ⟨[.int .i64 n, .int .i64 p, .slice a l.length c]⟩ h).map (·.1) = some (.bool true) := by
  refine ⟨3, ?_⟩
  refine callFn_Tm Try.func5 rfl _ _ (by show 3 ≤ 97; decide) fun T hT hq => ?_
  have p0 : T.getD 0 undef = .int .i64 n := hq 0
  have p1 : T.getD 1 undef = .int .i64 p := hq 1
  have p2 : T.getD 2 undef = .slice a l.length c := hq 2
  replace hT : T.length = 97 := hT
  have d0 : decide ((1000 : Int) < (l.length : Int)) = false := by simp; omega
  have d1 : decide (0 ≤ n) = false := by simp; omega
  have ga := fun h => g17_no (n := n) (h := h) hn (by omega)
  have gj := g13_of (c := c) hr hp hf (by omega)
  rw [hi] at gj
  have gk := g17_in (n := i) (h := h) h0 h1
  have hs := hr.hw hlt i
  have gs := g15_of (c := (way i).length) (d := c) (Ri.own i h) hs (by have := way_len i; omega) (by omega)
  have d9 : decide (ptrOf i = p) = true := by simpa using hpi
  have d10 : decide (p = p) = true := by simp
  have hss := same_self l
  rw [hwi] at gs gk
  rw [hpi] at gk
  rw [hss] at gs
  simp (maxSteps := 20000000) (disch := omega) only [stepVal_guardT, yD_some, yK_bool, yK_undef, getD_set', List.length_set, Nat.reduceLT, evalC_drawT, drawL_eq, trace_cons, trace_nil, traceK_some, pad, evalC_seq, evalC_region, evalC_cond, evalC_ret, evalC_skip, evalC_label, evalC_exit, evalC_scope, evalC_block, evalC_draw, runOps_cons, runOps_nil, stepOp_eq, stepVal_plain, yieldedA_lit, opA_assign, opA_move, opA_binOp, opA_pick, opA_call, opA_alloc, opA_box, opA_load, opA_store, opA_extract, opA_buildSlice, opA_indexAddr, opA_fieldAddr, aeval_int, aeval_bool, aeval_tmp, aeval_nilSlice, aeval_nilPointer, aeval_nilFunc, aeval_func, arK_val, arK_skip, arK_enter, arK_round, valK_some, valK_none, opsK_some, Option.map_some, Option.map_none, seqK_normal, seqK_ret, seqK_exit, blockK_normal, blockK_ret, blockK_exit, loopK_normal, loopK_ret, loopK_exit, List.getElem?_cons_zero, List.getElem?_cons_succ, Option.bind_some, reduceCtorEq, if_false, if_true, pickK_bool, condK_true, condK_false, endK_ret, endK_normal, resultsA_tmp, resultsA_nil, resVal, Option.some.injEq, Bool.true_eq_false, Bool.false_eq_true, List.map_cons, List.map_nil, binA_add, binA_sub, binA_mul, binA_lss, binA_leq, binA_gtr, binA_geq, binA_eql, binA_neq, callA_builtin, max_int, min_int, loadK_pointer, storeK_pointer, IntWalk.i64_in, IntWalk.i64_quo, binA_quo, binA_rem, Int.tmod_eq_emod_of_nonneg, loadA_rowK, storeA_int hsz3, putK_cell, rowK_cell ag3, rowK_row ag3, boxA_cell, al3, get_empty, next_empty, AH.get_set, AH.get_push, AH.next_set, AH.next_push, resultsA_cell, resK_pointer, roundA_G, roundG_loop, asgK_normal, bodyK_loop, ended_some, endRK_normal, endRK_ret, endRK_exit, rangeK_E, rangeE_ready, rangeE_done, rangeH, setAll, shut_nil, shut_cons, shutK_defs, endK_shut, outK_some, AH.get_kill, AH.next_kill, evalRegion_G, drawG_ok, drawK_all, trace_cons, trace_nil, traceK_some, List.all_cons, List.all_nil, sameRead_K, sameK_plain, sameK_guard, wantK_some, veqK_val, veq_int, veq_bool, veq_pointer, veq_slice, veq_nilSlice, Bool.and_true, Bool.and_self, List.getLast?_cons_cons, List.getLast?_singleton, len_slice one22, indexAddrA_one one22, ixK_slice, append_one one22, apK_nil, apK_some, apB_row, oneOf_row, bs22, Nat.reduceLeDiff, and_self, and_true, true_and, Int.reduceToNat, Int.reduceNe, List.take_succ_cons, List.take_zero, List.take_nil, List.length_cons, List.length_nil, List.cons_append, List.nil_append, Int.reduceLE, Int.reduceLT, Int.reduceEq, Int.reduceNeg, Int.reduceAdd, Int.reduceSub, Int.reduceMul, Int.reduceDiv, Nat.reduceAdd, Nat.reduceEqDiff, decide_true, decide_false, Try.f5, hT, p0, p1, p2, d0, gj, gk, gs, d9, d10, d1, ga, callA_func _ _ _ _ _ _ b18, callA_func _ _ _ _ _ _ b20, callA_func _ _ _ _ _ _ b22, callA_func _ _ _ _ _ _ b24, callA_func _ _ _ _ _ _ b26, callA_func _ _ _ _ _ _ b17, callA_func _ _ _ _ _ _ b13, callA_func _ _ _ _ _ _ b15, callA_func _ _ _ _ _ _ b28, env_call_ov ovL18, env_call_ov ovL20, env_call_ov ovL22, env_call_ov ovL24, env_call_ov ovL26, env_call_ov ovL17, env_call_ov ovL13, env_call_ov ovL15, env_call_ov ovL28, g28_nil, g1_int (f := lvl), g1_int (f := spn), g1_int (f := frs), g1_int (f := nxt), g1_int (f := ind), opA_unOp_not, notG_bool, Bool.not_true, Bool.not_false, callA_value, env_code, m0, m1, m2, m3, extractA2, extractA3, beq4, bne4, b_tt, b_tf, b_ft, b_ff, n_tt, n_tf, n_ft, n_ff]

theorem e5_g0 (n p : Int) (hn : -9223372036854775808 ≤ n ∧ n ≤ 9223372036854775807) (hp : -9223372036854775808 ≤ p ∧ p ≤ 9223372036854775807) (l : List Int) (hf : fine l = true) (a : Option Addr) (c : Nat) (h : AH) (hr : Ri l a h) (hlt : ∀ x, a = some x → x.block < h.next) (hl : l.length ≤ 1000) (kn : 65536 ≤ n) (hi : idx p l = (0, 100)) : ∃ m, (callFn Try.prog (env Try.prog ovL m) 5 ⟨[.int .i64 n, .int .i64 p, .slice a l.length c]⟩ h).map (·.1) = some (.bool true) := by
  refine ⟨3, ?_⟩
  refine callFn_Tm Try.func5 rfl _ _ (by show 3 ≤ 97; decide) fun T hT hq => ?_
  have p0 : T.getD 0 undef = .int .i64 n := hq 0
  have p1 : T.getD 1 undef = .int .i64 p := hq 1
  have p2 : T.getD 2 undef = .slice a l.length c := hq 2
  replace hT : T.length = 97 := hT
  have d0 : decide ((1000 : Int) < (l.length : Int)) = false := by simp; omega
  have d1 : decide (0 ≤ n) = true := by simp; omega
  have d2 : decide (n < 65536) = false := by simp; omega
  have ga := fun h => g17_no (n := n) (h := h) hn (by omega)
  have gj := g13_of (c := c) hr hp hf (by omega)
  rw [hi] at gj
  simp (maxSteps := 1000000) (disch := omega) only [stepVal_guardT, yD_some, yK_bool, yK_undef, getD_set', List.length_set, Nat.reduceLT, evalC_drawT, drawL_eq, trace_cons, trace_nil, traceK_some, pad, evalC_seq, evalC_region, evalC_cond, evalC_ret, evalC_skip, evalC_label, evalC_exit, evalC_scope, evalC_block, evalC_draw, runOps_cons, runOps_nil, stepOp_eq, stepVal_plain, yieldedA_lit, opA_assign, opA_move, opA_binOp, opA_pick, opA_call, opA_alloc, opA_box, opA_load, opA_store, opA_extract, opA_buildSlice, opA_indexAddr, opA_fieldAddr, aeval_int, aeval_bool, aeval_tmp, aeval_nilSlice, aeval_nilPointer, aeval_nilFunc, aeval_func, arK_val, arK_skip, arK_enter, arK_round, valK_some, valK_none, opsK_some, Option.map_some, Option.map_none, seqK_normal, seqK_ret, seqK_exit, blockK_normal, blockK_ret, blockK_exit, loopK_normal, loopK_ret, loopK_exit, List.getElem?_cons_zero, List.getElem?_cons_succ, Option.bind_some, reduceCtorEq, if_false, if_true, pickK_bool, condK_true, condK_false, endK_ret, endK_normal, resultsA_tmp, resultsA_nil, resVal, Option.some.injEq, Bool.true_eq_false, Bool.false_eq_true, List.map_cons, List.map_nil, binA_add, binA_sub, binA_mul, binA_lss, binA_leq, binA_gtr, binA_geq, binA_eql, binA_neq, callA_builtin, max_int, min_int, loadK_pointer, storeK_pointer, IntWalk.i64_in, IntWalk.i64_quo, binA_quo, binA_rem, Int.tmod_eq_emod_of_nonneg, loadA_rowK, storeA_int hsz3, putK_cell, rowK_cell ag3, rowK_row ag3, boxA_cell, al3, get_empty, next_empty, AH.get_set, AH.get_push, AH.next_set, AH.next_push, resultsA_cell, resK_pointer, roundA_G, roundG_loop, asgK_normal, bodyK_loop, ended_some, endRK_normal, endRK_ret, endRK_exit, rangeK_E, rangeE_ready, rangeE_done, rangeH, setAll, shut_nil, shut_cons, shutK_defs, endK_shut, outK_some, AH.get_kill, AH.next_kill, evalRegion_G, drawG_ok, drawK_all, trace_cons, trace_nil, traceK_some, List.all_cons, List.all_nil, sameRead_K, sameK_plain, sameK_guard, wantK_some, veqK_val, veq_int, veq_bool, veq_pointer, veq_slice, veq_nilSlice, Bool.and_true, Bool.and_self, List.getLast?_cons_cons, List.getLast?_singleton, len_slice one22, indexAddrA_one one22, ixK_slice, append_one one22, apK_nil, apK_some, apB_row, oneOf_row, bs22, Nat.reduceLeDiff, and_self, and_true, true_and, Int.reduceToNat, Int.reduceNe, List.take_succ_cons, List.take_zero, List.take_nil, List.length_cons, List.length_nil, List.cons_append, List.nil_append, Int.reduceLE, Int.reduceLT, Int.reduceEq, Int.reduceNeg, Int.reduceAdd, Int.reduceSub, Int.reduceMul, Int.reduceDiv, Nat.reduceAdd, Nat.reduceEqDiff, decide_true, decide_false, Try.f5, hT, p0, p1, p2, d0, gj, d1, d2, ga, callA_func _ _ _ _ _ _ b18, callA_func _ _ _ _ _ _ b20, callA_func _ _ _ _ _ _ b22, callA_func _ _ _ _ _ _ b24, callA_func _ _ _ _ _ _ b26, callA_func _ _ _ _ _ _ b17, callA_func _ _ _ _ _ _ b13, callA_func _ _ _ _ _ _ b15, callA_func _ _ _ _ _ _ b28, env_call_ov ovL18, env_call_ov ovL20, env_call_ov ovL22, env_call_ov ovL24, env_call_ov ovL26, env_call_ov ovL17, env_call_ov ovL13, env_call_ov ovL15, env_call_ov ovL28, g28_nil, g1_int (f := lvl), g1_int (f := spn), g1_int (f := frs), g1_int (f := nxt), g1_int (f := ind), opA_unOp_not, notG_bool, Bool.not_true, Bool.not_false, callA_value, env_code, m0, m1, m2, m3, extractA2, extractA3, beq4, bne4, b_tt, b_tf, b_ft, b_ff, n_tt, n_tf, n_ft, n_ff]

theorem e5_g1 (n p : Int) (hn : -9223372036854775808 ≤ n ∧ n ≤ 9223372036854775807) (hp : -9223372036854775808 ≤ p ∧ p ≤ 9223372036854775807) (l : List Int) (hf : fine l = true) (a : Option Addr) (c : Nat) (h : AH) (hr : Ri l a h) (hlt : ∀ x, a = some x → x.block < h.next) (hl : l.length ≤ 1000) (kn : 65536 ≤ n) (i : Int) (hi : idx p l = (i, 0)) (h0 : 0 ≤ i) (h1 : i < 65536) (hpi : ptrOf i = p) (hwi : way i = l) : ∃ m, (callFn Try.prog (env Try.prog ovL m) 5 ⟨[.int .i64 n, .int .i64 p, .slice a l.length c]⟩ h).map (·.1) = some (.bool true) := by
  refine ⟨3, ?_⟩
  refine callFn_Tm Try.func5 rfl _ _ (by show 3 ≤ 97; decide) fun T hT hq => ?_
  have p0 : T.getD 0 undef = .int .i64 n := hq 0
  have p1 : T.getD 1 undef = .int .i64 p := hq 1
  have p2 : T.getD 2 undef = .slice a l.length c := hq 2
  replace hT : T.length = 97 := hT
  have d0 : decide ((1000 : Int) < (l.length : Int)) = false := by simp; omega
  have d1 : decide (0 ≤ n) = true := by simp; omega
  have d2 : decide (n < 65536) = false := by simp; omega
  have ga := fun h => g17_no (n := n) (h := h) hn (by omega)
  have gj := g13_of (c := c) hr hp hf (by omega)
  rw [hi] at gj
  have gk := g17_in (n := i) (h := h) h0 h1
  have hs := hr.hw hlt i
  have gs := g15_of (c := (way i).length) (d := c) (Ri.own i h) hs (by have := way_len i; omega) (by omega)
  have d9 : decide (ptrOf i = p) = true := by simpa using hpi
  have d10 : decide (p = p) = true := by simp
  have hss := same_self l
  rw [hwi] at gs gk
  rw [hpi] at gk
  rw [hss] at gs
  simp (maxSteps := 20000000) (disch := omega) only [stepVal_guardT, yD_some, yK_bool, yK_undef, getD_set', List.length_set, Nat.reduceLT, evalC_drawT, drawL_eq, trace_cons, trace_nil, traceK_some, pad, evalC_seq, evalC_region, evalC_cond, evalC_ret, evalC_skip, evalC_label, evalC_exit, evalC_scope, evalC_block, evalC_draw, runOps_cons, runOps_nil, stepOp_eq, stepVal_plain, yieldedA_lit, opA_assign, opA_move, opA_binOp, opA_pick, opA_call, opA_alloc, opA_box, opA_load, opA_store, opA_extract, opA_buildSlice, opA_indexAddr, opA_fieldAddr, aeval_int, aeval_bool, aeval_tmp, aeval_nilSlice, aeval_nilPointer, aeval_nilFunc, aeval_func, arK_val, arK_skip, arK_enter, arK_round, valK_some, valK_none, opsK_some, Option.map_some, Option.map_none, seqK_normal, seqK_ret, seqK_exit, blockK_normal, blockK_ret, blockK_exit, loopK_normal, loopK_ret, loopK_exit, List.getElem?_cons_zero, List.getElem?_cons_succ, Option.bind_some, reduceCtorEq, if_false, if_true, pickK_bool, condK_true, condK_false, endK_ret, endK_normal, resultsA_tmp, resultsA_nil, resVal, Option.some.injEq, Bool.true_eq_false, Bool.false_eq_true, List.map_cons, List.map_nil, binA_add, binA_sub, binA_mul, binA_lss, binA_leq, binA_gtr, binA_geq, binA_eql, binA_neq, callA_builtin, max_int, min_int, loadK_pointer, storeK_pointer, IntWalk.i64_in, IntWalk.i64_quo, binA_quo, binA_rem, Int.tmod_eq_emod_of_nonneg, loadA_rowK, storeA_int hsz3, putK_cell, rowK_cell ag3, rowK_row ag3, boxA_cell, al3, get_empty, next_empty, AH.get_set, AH.get_push, AH.next_set, AH.next_push, resultsA_cell, resK_pointer, roundA_G, roundG_loop, asgK_normal, bodyK_loop, ended_some, endRK_normal, endRK_ret, endRK_exit, rangeK_E, rangeE_ready, rangeE_done, rangeH, setAll, shut_nil, shut_cons, shutK_defs, endK_shut, outK_some, AH.get_kill, AH.next_kill, evalRegion_G, drawG_ok, drawK_all, trace_cons, trace_nil, traceK_some, List.all_cons, List.all_nil, sameRead_K, sameK_plain, sameK_guard, wantK_some, veqK_val, veq_int, veq_bool, veq_pointer, veq_slice, veq_nilSlice, Bool.and_true, Bool.and_self, List.getLast?_cons_cons, List.getLast?_singleton, len_slice one22, indexAddrA_one one22, ixK_slice, append_one one22, apK_nil, apK_some, apB_row, oneOf_row, bs22, Nat.reduceLeDiff, and_self, and_true, true_and, Int.reduceToNat, Int.reduceNe, List.take_succ_cons, List.take_zero, List.take_nil, List.length_cons, List.length_nil, List.cons_append, List.nil_append, Int.reduceLE, Int.reduceLT, Int.reduceEq, Int.reduceNeg, Int.reduceAdd, Int.reduceSub, Int.reduceMul, Int.reduceDiv, Nat.reduceAdd, Nat.reduceEqDiff, decide_true, decide_false, Try.f5, hT, p0, p1, p2, d0, gj, gk, gs, d9, d10, d1, d2, ga, callA_func _ _ _ _ _ _ b18, callA_func _ _ _ _ _ _ b20, callA_func _ _ _ _ _ _ b22, callA_func _ _ _ _ _ _ b24, callA_func _ _ _ _ _ _ b26, callA_func _ _ _ _ _ _ b17, callA_func _ _ _ _ _ _ b13, callA_func _ _ _ _ _ _ b15, callA_func _ _ _ _ _ _ b28, env_call_ov ovL18, env_call_ov ovL20, env_call_ov ovL22, env_call_ov ovL24, env_call_ov ovL26, env_call_ov ovL17, env_call_ov ovL13, env_call_ov ovL15, env_call_ov ovL28, g28_nil, g1_int (f := lvl), g1_int (f := spn), g1_int (f := frs), g1_int (f := nxt), g1_int (f := ind), opA_unOp_not, notG_bool, Bool.not_true, Bool.not_false, callA_value, env_code, m0, m1, m2, m3, extractA2, extractA3, beq4, bne4, b_tt, b_tf, b_ft, b_ff, n_tt, n_tf, n_ft, n_ff]

theorem e5_i0 (n p : Int) (hn : -9223372036854775808 ≤ n ∧ n ≤ 9223372036854775807) (hp : -9223372036854775808 ≤ p ∧ p ≤ 9223372036854775807) (l : List Int) (hf : fine l = true) (a : Option Addr) (c : Nat) (h : AH) (hr : Ri l a h) (hlt : ∀ x, a = some x → x.block < h.next) (hl : l.length ≤ 1000) (kn : 0 ≤ n ∧ n < 65536) (hi : idx p l = (0, 100)) : ∃ m, (callFn Try.prog (env Try.prog ovL m) 5 ⟨[.int .i64 n, .int .i64 p, .slice a l.length c]⟩ h).map (·.1) = some (.bool true) := by
  refine ⟨3, ?_⟩
  refine callFn_Tm Try.func5 rfl _ _ (by show 3 ≤ 97; decide) fun T hT hq => ?_
  have p0 : T.getD 0 undef = .int .i64 n := hq 0
  have p1 : T.getD 1 undef = .int .i64 p := hq 1
  have p2 : T.getD 2 undef = .slice a l.length c := hq 2
  replace hT : T.length = 97 := hT
  have d0 : decide ((1000 : Int) < (l.length : Int)) = false := by simp; omega
  have ga := fun h => g17_in (n := n) (h := h) (by omega) (by omega)
  have hpt : -9223372036854775808 ≤ ptrOf n ∧ ptrOf n ≤ 9223372036854775807 := by unfold ptrOf; omega
  have gi := g13_of (c := (way n).length) (Ri.own n h) hpt (fine_way n (by omega)) (by have := way_len n; omega)
  rw [idx_way n (by omega) (by omega)] at gi
  have d3 : decide (n ≠ n) = false := by simp
  have d4 : decide (((way n).length : Int) ≠ lvl (ptrOf n)) = false := by have := way_lvl n (by omega) (by omega); simpa using this
  have hr2 := hr.hw hlt n
  have gj := g13_of (c := c) hr2 hp hf (by omega)
  rw [hi] at gj
  simp (maxSteps := 1000000) (disch := omega) only [stepVal_guardT, yD_some, yK_bool, yK_undef, getD_set', List.length_set, Nat.reduceLT, evalC_drawT, drawL_eq, trace_cons, trace_nil, traceK_some, pad, evalC_seq, evalC_region, evalC_cond, evalC_ret, evalC_skip, evalC_label, evalC_exit, evalC_scope, evalC_block, evalC_draw, runOps_cons, runOps_nil, stepOp_eq, stepVal_plain, yieldedA_lit, opA_assign, opA_move, opA_binOp, opA_pick, opA_call, opA_alloc, opA_box, opA_load, opA_store, opA_extract, opA_buildSlice, opA_indexAddr, opA_fieldAddr, aeval_int, aeval_bool, aeval_tmp, aeval_nilSlice, aeval_nilPointer, aeval_nilFunc, aeval_func, arK_val, arK_skip, arK_enter, arK_round, valK_some, valK_none, opsK_some, Option.map_some, Option.map_none, seqK_normal, seqK_ret, seqK_exit, blockK_normal, blockK_ret, blockK_exit, loopK_normal, loopK_ret, loopK_exit, List.getElem?_cons_zero, List.getElem?_cons_succ, Option.bind_some, reduceCtorEq, if_false, if_true, pickK_bool, condK_true, condK_false, endK_ret, endK_normal, resultsA_tmp, resultsA_nil, resVal, Option.some.injEq, Bool.true_eq_false, Bool.false_eq_true, List.map_cons, List.map_nil, binA_add, binA_sub, binA_mul, binA_lss, binA_leq, binA_gtr, binA_geq, binA_eql, binA_neq, callA_builtin, max_int, min_int, loadK_pointer, storeK_pointer, IntWalk.i64_in, IntWalk.i64_quo, binA_quo, binA_rem, Int.tmod_eq_emod_of_nonneg, loadA_rowK, storeA_int hsz3, putK_cell, rowK_cell ag3, rowK_row ag3, boxA_cell, al3, get_empty, next_empty, AH.get_set, AH.get_push, AH.next_set, AH.next_push, resultsA_cell, resK_pointer, roundA_G, roundG_loop, asgK_normal, bodyK_loop, ended_some, endRK_normal, endRK_ret, endRK_exit, rangeK_E, rangeE_ready, rangeE_done, rangeH, setAll, shut_nil, shut_cons, shutK_defs, endK_shut, outK_some, AH.get_kill, AH.next_kill, evalRegion_G, drawG_ok, drawK_all, trace_cons, trace_nil, traceK_some, List.all_cons, List.all_nil, sameRead_K, sameK_plain, sameK_guard, wantK_some, veqK_val, veq_int, veq_bool, veq_pointer, veq_slice, veq_nilSlice, Bool.and_true, Bool.and_self, List.getLast?_cons_cons, List.getLast?_singleton, len_slice one22, indexAddrA_one one22, ixK_slice, append_one one22, apK_nil, apK_some, apB_row, oneOf_row, bs22, Nat.reduceLeDiff, and_self, and_true, true_and, Int.reduceToNat, Int.reduceNe, List.take_succ_cons, List.take_zero, List.take_nil, List.length_cons, List.length_nil, List.cons_append, List.nil_append, Int.reduceLE, Int.reduceLT, Int.reduceEq, Int.reduceNeg, Int.reduceAdd, Int.reduceSub, Int.reduceMul, Int.reduceDiv, Nat.reduceAdd, Nat.reduceEqDiff, decide_true, decide_false, Try.f5, hT, p0, p1, p2, d0, gj, ga, gi, hpt, d3, d4, callA_func _ _ _ _ _ _ b18, callA_func _ _ _ _ _ _ b20, callA_func _ _ _ _ _ _ b22, callA_func _ _ _ _ _ _ b24, callA_func _ _ _ _ _ _ b26, callA_func _ _ _ _ _ _ b17, callA_func _ _ _ _ _ _ b13, callA_func _ _ _ _ _ _ b15, callA_func _ _ _ _ _ _ b28, env_call_ov ovL18, env_call_ov ovL20, env_call_ov ovL22, env_call_ov ovL24, env_call_ov ovL26, env_call_ov ovL17, env_call_ov ovL13, env_call_ov ovL15, env_call_ov ovL28, g28_nil, g1_int (f := lvl), g1_int (f := spn), g1_int (f := frs), g1_int (f := nxt), g1_int (f := ind), opA_unOp_not, notG_bool, Bool.not_true, Bool.not_false, callA_value, env_code, m0, m1, m2, m3, extractA2, extractA3, beq4, bne4, b_tt, b_tf, b_ft, b_ff, n_tt, n_tf, n_ft, n_ff]

theorem e5_i1 (n p : Int) (hn : -9223372036854775808 ≤ n ∧ n ≤ 9223372036854775807) (hp : -9223372036854775808 ≤ p ∧ p ≤ 9223372036854775807) (l : List Int) (hf : fine l = true) (a : Option Addr) (c : Nat) (h : AH) (hr : Ri l a h) (hlt : ∀ x, a = some x → x.block < h.next) (hl : l.length ≤ 1000) (kn : 0 ≤ n ∧ n < 65536) (i : Int) (hi : idx p l = (i, 0)) (h0 : 0 ≤ i) (h1 : i < 65536) (hpi : ptrOf i = p) (hwi : way i = l) : ∃ m, (callFn Try.prog (env Try.prog ovL m) 5 ⟨[.int .i64 n, .int .i64 p, .slice a l.length c]⟩ h).map (·.1) = some (.bool true) := by
  refine ⟨3, ?_⟩
  refine callFn_Tm Try.func5 rfl _ _ (by show 3 ≤ 97; decide) fun T hT hq => ?_
  have p0 : T.getD 0 undef = .int .i64 n := hq 0
  have p1 : T.getD 1 undef = .int .i64 p := hq 1
  have p2 : T.getD 2 undef = .slice a l.length c := hq 2
  replace hT : T.length = 97 := hT
  have d0 : decide ((1000 : Int) < (l.length : Int)) = false := by simp; omega
  have ga := fun h => g17_in (n := n) (h := h) (by omega) (by omega)
  have hpt : -9223372036854775808 ≤ ptrOf n ∧ ptrOf n ≤ 9223372036854775807 := by unfold ptrOf; omega
  have gi := g13_of (c := (way n).length) (Ri.own n h) hpt (fine_way n (by omega)) (by have := way_len n; omega)
  rw [idx_way n (by omega) (by omega)] at gi
  have d3 : decide (n ≠ n) = false := by simp
  have d4 : decide (((way n).length : Int) ≠ lvl (ptrOf n)) = false := by have := way_lvl n (by omega) (by omega); simpa using this
  have hr2 := hr.hw hlt n
  have gj := g13_of (c := c) hr2 hp hf (by omega)
  rw [hi] at gj
  have gk := g17_in (n := i) (h := (hw n h)) h0 h1
  have hs := hr2.hw (fun x e => Nat.lt_of_lt_of_le (hlt x e) (hw_next n h)) i
  have gs := g15_of (c := (way i).length) (d := c) (Ri.own i (hw n h)) hs (by have := way_len i; omega) (by omega)
  have d9 : decide (ptrOf i = p) = true := by simpa using hpi
  have d10 : decide (p = p) = true := by simp
  have hss := same_self l
  rw [hwi] at gs gk
  rw [hpi] at gk
  rw [hss] at gs
  simp (maxSteps := 20000000) (disch := omega) only [stepVal_guardT, yD_some, yK_bool, yK_undef, getD_set', List.length_set, Nat.reduceLT, evalC_drawT, drawL_eq, trace_cons, trace_nil, traceK_some, pad, evalC_seq, evalC_region, evalC_cond, evalC_ret, evalC_skip, evalC_label, evalC_exit, evalC_scope, evalC_block, evalC_draw, runOps_cons, runOps_nil, stepOp_eq, stepVal_plain, yieldedA_lit, opA_assign, opA_move, opA_binOp, opA_pick, opA_call, opA_alloc, opA_box, opA_load, opA_store, opA_extract, opA_buildSlice, opA_indexAddr, opA_fieldAddr, aeval_int, aeval_bool, aeval_tmp, aeval_nilSlice, aeval_nilPointer, aeval_nilFunc, aeval_func, arK_val, arK_skip, arK_enter, arK_round, valK_some, valK_none, opsK_some, Option.map_some, Option.map_none, seqK_normal, seqK_ret, seqK_exit, blockK_normal, blockK_ret, blockK_exit, loopK_normal, loopK_ret, loopK_exit, List.getElem?_cons_zero, List.getElem?_cons_succ, Option.bind_some, reduceCtorEq, if_false, if_true, pickK_bool, condK_true, condK_false, endK_ret, endK_normal, resultsA_tmp, resultsA_nil, resVal, Option.some.injEq, Bool.true_eq_false, Bool.false_eq_true, List.map_cons, List.map_nil, binA_add, binA_sub, binA_mul, binA_lss, binA_leq, binA_gtr, binA_geq, binA_eql, binA_neq, callA_builtin, max_int, min_int, loadK_pointer, storeK_pointer, IntWalk.i64_in, IntWalk.i64_quo, binA_quo, binA_rem, Int.tmod_eq_emod_of_nonneg, loadA_rowK, storeA_int hsz3, putK_cell, rowK_cell ag3, rowK_row ag3, boxA_cell, al3, get_empty, next_empty, AH.get_set, AH.get_push, AH.next_set, AH.next_push, resultsA_cell, resK_pointer, roundA_G, roundG_loop, asgK_normal, bodyK_loop, ended_some, endRK_normal, endRK_ret, endRK_exit, rangeK_E, rangeE_ready, rangeE_done, rangeH, setAll, shut_nil, shut_cons, shutK_defs, endK_shut, outK_some, AH.get_kill, AH.next_kill, evalRegion_G, drawG_ok, drawK_all, trace_cons, trace_nil, traceK_some, List.all_cons, List.all_nil, sameRead_K, sameK_plain, sameK_guard, wantK_some, veqK_val, veq_int, veq_bool, veq_pointer, veq_slice, veq_nilSlice, Bool.and_true, Bool.and_self, List.getLast?_cons_cons, List.getLast?_singleton, len_slice one22, indexAddrA_one one22, ixK_slice, append_one one22, apK_nil, apK_some, apB_row, oneOf_row, bs22, Nat.reduceLeDiff, and_self, and_true, true_and, Int.reduceToNat, Int.reduceNe, List.take_succ_cons, List.take_zero, List.take_nil, List.length_cons, List.length_nil, List.cons_append, List.nil_append, Int.reduceLE, Int.reduceLT, Int.reduceEq, Int.reduceNeg, Int.reduceAdd, Int.reduceSub, Int.reduceMul, Int.reduceDiv, Nat.reduceAdd, Nat.reduceEqDiff, decide_true, decide_false, Try.f5, hT, p0, p1, p2, d0, gj, gk, gs, d9, d10, ga, gi, hpt, d3, d4, callA_func _ _ _ _ _ _ b18, callA_func _ _ _ _ _ _ b20, callA_func _ _ _ _ _ _ b22, callA_func _ _ _ _ _ _ b24, callA_func _ _ _ _ _ _ b26, callA_func _ _ _ _ _ _ b17, callA_func _ _ _ _ _ _ b13, callA_func _ _ _ _ _ _ b15, callA_func _ _ _ _ _ _ b28, env_call_ov ovL18, env_call_ov ovL20, env_call_ov ovL22, env_call_ov ovL24, env_call_ov ovL26, env_call_ov ovL17, env_call_ov ovL13, env_call_ov ovL15, env_call_ov ovL28, g28_nil, g1_int (f := lvl), g1_int (f := spn), g1_int (f := frs), g1_int (f := nxt), g1_int (f := ind), opA_unOp_not, notG_bool, Bool.not_true, Bool.not_false, callA_value, env_code, m0, m1, m2, m3, extractA2, extractA3, beq4, bne4, b_tt, b_tf, b_ft, b_ff, n_tt, n_tf, n_ft, n_ff]

theorem e5 (n p : Int) (hn : -9223372036854775808 ≤ n ∧ n ≤ 9223372036854775807) (hp : -9223372036854775808 ≤ p ∧ p ≤ 9223372036854775807) (l : List Int) (hf : fine l = true) (a : Option Addr) (c : Nat) (h : AH) (hr : Ri l a h) (hlt : ∀ x, a = some x → x.block < h.next) : ∃ m, (callFn Try.prog (env Try.prog ovL m) 5 ⟨[.int .i64 n, .int .i64 p, .slice a l.length c]⟩ h).map (·.1) = some (.bool true) := by
  by_cases hl : 1000 < l.length
  · exact e5_big n p hn hp l hf a c h hr hlt hl
  have kn : n < 0 ∨ 65536 ≤ n ∨ (0 ≤ n ∧ n < 65536) := by omega
  rcases idx_cases p l with hi | ⟨i, hi, h0, h1, h2, h3⟩ <;> rcases kn with kn | kn | kn
  · exact e5_n0 n p hn hp l hf a c h hr hlt (by omega) kn hi
  · exact e5_g0 n p hn hp l hf a c h hr hlt (by omega) kn hi
  · exact e5_i0 n p hn hp l hf a c h hr hlt (by omega) kn hi
  · exact e5_n1 n p hn hp l hf a c h hr hlt (by omega) kn i hi h0 h1 h2 h3
  · exact e5_g1 n p hn hp l hf a c h hr hlt (by omega) kn i hi h0 h1 h2 h3
  · exact e5_i1 n p hn hp l hf a c h hr hlt (by omega) kn i hi h0 h1 h2 h3
end Go.Proofs.Paths
