/-
  Paths: Index, as the document says it.
-/
import Derived.Test.YtdbhiobpeeeppaaPathsL8
import Derived.Test.YtdbhiobpeeeppaaPathsM4
namespace Go.Proofs.Paths
set_option linter.unusedSimpArgs false
set_option linter.unusedVariables false
open Go.AE
set_option maxRecDepth 100000
set_option maxHeartbeats 2000000

theorem bs22_0 (h : AH) : buildSliceA Try.prog 22 0 ⟨[]⟩ h = some (.slice (some ⟨h.next, 0, none⟩) 0 0, h.push (rowObj [] 3 0 false)) := by kernel_rfl
def apA (l : List Int) (β : Nat) (h : AH) : Option Addr := if l = [] then some ⟨β, 0, none⟩ else some ⟨h.next, 0, none⟩
def apH (l : List Int) (h : AH) : AH := if l = [] then h else h.push (rowObj (l.map (.int .i64)) 3 1 true)

theorem app_all {l : List Int} {a : Option Addr} {c β : Nat} {h : AH} (ty : TypeId) (hr : Ri l a h) (hl : l.length ≤ 1000) (hβ : h.get β = some (rowObj [] 3 0 false)) (hsp : l = [] → a = none ∨ ∃ b o cc m e fz esz op ro d, a = some ⟨b, o, none⟩ ∧ o ≤ m ∧ h.get b = some (.cells cc m e fz esz op ro d)) :
    builtinA Try.prog .append ⟨[22, 22]⟩ ty ⟨[.slice (some ⟨β, 0, none⟩) 0 0, .slice a l.length c]⟩ h = some (.val (.slice (apA l β h) l.length l.length) (apH l h)) := by
  obtain ⟨inf, z, hu, hn, hz, hi, h1, h8, hc⟩ := one22
  simp only [builtinA, appendA, List.getElem?_toArray, List.getElem?_cons_zero, List.getElem?_cons_succ, hu, hn, hz, lenA, h1]
  by_cases e : l = []
  · subst e
    rcases hsp rfl with rfl | ⟨b, o, cc, m, ee, fz, esz, op, ro, d, rfl, hom, hg⟩
    · simp only [srcA]; rfl
    · simp only [srcA, hg]
      simp [apA, apH, hom, rowA]
  · have h2 := hr c
    match l, e with
    | x :: l, _ =>
      match a with
      | none => cases (show (none : Option (List Int)) = some (x :: l) from h2)
      | some ⟨b, o, some s⟩ => cases (show (none : Option (List Int)) = some (x :: l) from h2)
      | some ⟨b, o, none⟩ =>
        have h3 : (match h.get b with
          | some (.cells cc m _ _ _ _ _ d) => if o + (x :: l).length ≤ m then intsOf (rowA cc d o (x :: l).length) else none
          | _ => none) = some (x :: l) := h2
        split at h3
        · rename_i cc m ee fz esz op ro d hg
          split at h3
          · rename_i hm
            have hv := intsOf_get _ _ h3
            simp only [srcA, hg, Nat.mul_one, Option.isSome_none, Bool.false_eq_true, if_false, hm, if_true, hv]
            simp only [List.length_cons] at hl
            have hb8 : (2 * (0 + (x :: l).length) + 768) * inf.bytes ≤ 2 ^ 47 := by
              have : (2 * (0 + (x :: l).length) + 768) * inf.bytes ≤ 3000 * 8 := Nat.mul_le_mul (by simp; omega) h8
              omega
            have hall : ((x :: l).map (Value.int .i64)).all (fun v => v.oneCell') = true := by simp [Value.oneCell']
            rw [if_pos ⟨rfl, trivial⟩]
            simp only []
            rw [if_neg (by simp), if_pos ⟨hb8, by simp; omega, hc, by simp⟩]
            simp only [hβ, rowObj]
            rw [if_pos ⟨rfl, by simp, hall⟩]
            rw [if_neg (by simp)]
            have n1 : ¬ (x :: l = []) := by simp
            unfold apA apH
            rw [if_neg n1, if_neg n1]
            simp [rowA, openRow]
          · cases h3
        · cases h3
theorem Ri.nil (a : Option Addr) (h : AH) : Ri [] a h := fun _ => rfl
theorem Ri.push {l : List Int} {a : Option Addr} {h : AH} (hr : Ri l a h) (hlt : ∀ x, a = some x → x.block < h.next) (o : AObj) : Ri l a (h.push o) := fun c => by
  have := hr c
  cases l with
  | nil => rfl
  | cons x l =>
    cases a with
    | none => cases (show (none : Option (List Int)) = some (x :: l) from this)
    | some a =>
      obtain ⟨β, oo, sp⟩ := a
      have eg : (h.push o).get β = h.get β := by rw [AH.get_push, if_neg (Nat.ne_of_lt (hlt _ rfl))]
      cases sp with
      | none =>
        rw [← this]
        show (match AH.get _ β with | some (.cells c m _ _ _ _ _ d) => if oo + (x :: l).length ≤ m then intsOf (rowA c d oo (x :: l).length) else none | _ => none) = (match AH.get _ β with | some (.cells c m _ _ _ _ _ d) => if oo + (x :: l).length ≤ m then intsOf (rowA c d oo (x :: l).length) else none | _ => none)
        rw [eg]
      | some _ => cases (show (none : Option (List Int)) = some (x :: l) from this)
theorem Ri.apOwn {l : List Int} (β : Nat) (h : AH) : Ri l (apA l β h) (apH l h) := fun c => by
  unfold apA apH
  by_cases e : l = []
  · subst e; rfl
  · rw [if_neg e, if_neg e]
    exact readInts_row (by rw [AH.get_push, if_pos rfl]) c
theorem Ri.apOld {l m : List Int} {a : Option Addr} {h : AH} (hr : Ri m a h) (hlt : ∀ x, a = some x → x.block < h.next) : Ri m a (apH l h) := by
  unfold apH; split
  · exact hr
  · exact hr.push hlt _

def ovP : Over := table [(13, g13), (14, g13), (15, g15)]
theorem ovP_ok : OverOk Try.prog ovP := OverOk.table fun p hp => by
  simp only [List.mem_cons, List.not_mem_nil, or_false] at hp
  rcases hp with rfl | rfl | rfl
  · exact s13
  · exact s14
  · exact s15
theorem ovP13 : ovP 13 = some g13 := rfl
theorem ovP14 : ovP 14 = some g13 := rfl
theorem ovP15 : ovP 15 = some g15 := rfl
theorem b14 : ((Try.prog.funcs[14]?).bind (·.body)).isSome = true := rfl

theorem e3 (p : Int) (hp : -9223372036854775808 ≤ p ∧ p ≤ 9223372036854775807) (l : List Int) (hf : fine l = true) (a : Option Addr) (c : Nat) (h : AH) (hr : Ri l a h) (hlt : ∀ x, a = some x → x.block < h.next)
    (hsp : l = [] → a = none ∨ ∃ b o cc m e fz esz op ro d, a = some ⟨b, o, none⟩ ∧ o ≤ m ∧ h.get b = some (.cells cc m e fz esz op ro d)) :
    ∃ m, (callFn Try.prog (env Try.prog ovP m) 3 ⟨[.int .i64 p, .slice a l.length c]⟩ h).map (·.1) = some (.bool true) := by
  refine ⟨3, ?_⟩
  refine callFn_Tm Try.func3 rfl _ _ (by show 2 ≤ 41; decide) fun T hT hq => ?_
  have p0 : T.getD 0 undef = .int .i64 p := hq 0
  have p1 : T.getD 1 undef = .slice a l.length c := hq 1
  replace hT : T.length = 41 := hT
  by_cases hl : 1000 < l.length
  · have d0 : decide ((1000 : Int) < (l.length : Int)) = true := by simp; omega
    simp (maxSteps := 1000000) (disch := omega) only [stepVal_guardT, yD_some, yK_bool, yK_undef, getD_set', List.length_set, Nat.reduceLT, evalC_drawT, drawL_eq, trace_cons, trace_nil, traceK_some, pad, evalC_seq, evalC_region, evalC_cond, evalC_ret, evalC_skip, evalC_label, evalC_exit, evalC_scope, evalC_block, evalC_draw, runOps_cons, runOps_nil, stepOp_eq, stepVal_plain, yieldedA_lit, opA_assign, opA_move, opA_binOp, opA_pick, opA_call, opA_alloc, opA_box, opA_load, opA_store, opA_extract, opA_buildSlice, opA_indexAddr, opA_fieldAddr, aeval_int, aeval_bool, aeval_tmp, aeval_nilSlice, aeval_nilPointer, aeval_nilFunc, aeval_func, arK_val, arK_skip, arK_enter, arK_round, valK_some, valK_none, opsK_some, Option.map_some, Option.map_none, seqK_normal, seqK_ret, seqK_exit, blockK_normal, blockK_ret, blockK_exit, loopK_normal, loopK_ret, loopK_exit, List.getElem?_cons_zero, List.getElem?_cons_succ, Option.bind_some, reduceCtorEq, if_false, if_true, pickK_bool, condK_true, condK_false, endK_ret, endK_normal, resultsA_tmp, resultsA_nil, resVal, Option.some.injEq, Bool.true_eq_false, Bool.false_eq_true, List.map_cons, List.map_nil, binA_add, binA_sub, binA_mul, binA_lss, binA_leq, binA_gtr, binA_geq, binA_eql, binA_neq, callA_builtin, max_int, min_int, loadK_pointer, storeK_pointer, IntWalk.i64_in, IntWalk.i64_quo, binA_quo, binA_rem, Int.tmod_eq_emod_of_nonneg, loadA_rowK, storeA_int hsz3, putK_cell, rowK_cell ag3, rowK_row ag3, boxA_cell, al3, get_empty, next_empty, AH.get_set, AH.get_push, AH.next_set, AH.next_push, resultsA_cell, resK_pointer, roundA_G, roundG_loop, asgK_normal, bodyK_loop, ended_some, endRK_normal, endRK_ret, endRK_exit, rangeK_E, rangeE_ready, rangeE_done, rangeH, setAll, shut_nil, shut_cons, shutK_defs, endK_shut, outK_some, AH.get_kill, AH.next_kill, evalRegion_G, drawG_ok, drawK_all, trace_cons, trace_nil, traceK_some, List.all_cons, List.all_nil, sameRead_K, sameK_plain, sameK_guard, wantK_some, veqK_val, veq_int, veq_bool, veq_pointer, veq_slice, veq_nilSlice, Bool.and_true, Bool.and_self, List.getLast?_cons_cons, List.getLast?_singleton, len_slice one22, indexAddrA_one one22, ixK_slice, append_one one22, apK_nil, apK_some, apB_row, oneOf_row, bs22, Nat.reduceLeDiff, and_self, and_true, true_and, Int.reduceToNat, Int.reduceNe, List.take_succ_cons, List.take_zero, List.take_nil, List.length_cons, List.length_nil, List.cons_append, List.nil_append, Int.reduceLE, Int.reduceLT, Int.reduceEq, Int.reduceNeg, Int.reduceAdd, Int.reduceSub, Int.reduceMul, Int.reduceDiv, Nat.reduceAdd, Nat.reduceEqDiff, decide_true, decide_false, Try.f3, hT, p0, p1, d0]
  · have d0 : decide ((1000 : Int) < (l.length : Int)) = false := by simp; omega
    have hlt' : ∀ o, ∀ x, a = some x → x.block < (h.push o).next := fun o x e => by rw [AH.next_push]; exact Nat.lt_succ_of_lt (hlt x e)
    have hr1 := hr.push hlt (rowObj [] 3 0 false)
    have ga := app_all (a := a) (c := c) (β := h.next) (h := h.push (rowObj [] 3 0 false)) 22 hr1 (by omega) (by rw [AH.get_push, if_pos rfl]) (fun hn => by
      rcases hsp hn with e | ⟨b, o, cc, m, e, fz, esz, op, ro, d, e1, e2, e3⟩
      · exact .inl e
      · refine .inr ⟨b, o, cc, m, e, fz, esz, op, ro, d, e1, e2, ?_⟩
        rw [AH.get_push, if_neg (Nat.ne_of_lt (hlt _ e1))]; exact e3)
    have g1 := g13_of (c := l.length) (Ri.apOwn (l := l) h.next (h.push (rowObj [] 3 0 false))) hp hf (by omega)
    have g2 := g13_of (c := c) (hr1.apOld (l := l) (hlt' _)) hp hf (by omega)
    have g3 := g15_of (c := l.length) (d := c) (Ri.apOwn (l := l) h.next (h.push (rowObj [] 3 0 false))) (hr1.apOld (l := l) (hlt' _)) (by omega) (by omega)
    have hss := same_self l
    rw [hss] at g3
    have d1 : decide ((idx p l).1 = (idx p l).1) = true := by simp
    have d2 : decide ((idx p l).2 = (idx p l).2) = true := by simp
    simp (maxSteps := 1000000) (disch := omega) only [stepVal_guardT, yD_some, yK_bool, yK_undef, getD_set', List.length_set, Nat.reduceLT, evalC_drawT, drawL_eq, trace_cons, trace_nil, traceK_some, pad, evalC_seq, evalC_region, evalC_cond, evalC_ret, evalC_skip, evalC_label, evalC_exit, evalC_scope, evalC_block, evalC_draw, runOps_cons, runOps_nil, stepOp_eq, stepVal_plain, yieldedA_lit, opA_assign, opA_move, opA_binOp, opA_pick, opA_call, opA_alloc, opA_box, opA_load, opA_store, opA_extract, opA_buildSlice, opA_indexAddr, opA_fieldAddr, aeval_int, aeval_bool, aeval_tmp, aeval_nilSlice, aeval_nilPointer, aeval_nilFunc, aeval_func, arK_val, arK_skip, arK_enter, arK_round, valK_some, valK_none, opsK_some, Option.map_some, Option.map_none, seqK_normal, seqK_ret, seqK_exit, blockK_normal, blockK_ret, blockK_exit, loopK_normal, loopK_ret, loopK_exit, List.getElem?_cons_zero, List.getElem?_cons_succ, Option.bind_some, reduceCtorEq, if_false, if_true, pickK_bool, condK_true, condK_false, endK_ret, endK_normal, resultsA_tmp, resultsA_nil, resVal, Option.some.injEq, Bool.true_eq_false, Bool.false_eq_true, List.map_cons, List.map_nil, binA_add, binA_sub, binA_mul, binA_lss, binA_leq, binA_gtr, binA_geq, binA_eql, binA_neq, callA_builtin, max_int, min_int, loadK_pointer, storeK_pointer, IntWalk.i64_in, IntWalk.i64_quo, binA_quo, binA_rem, Int.tmod_eq_emod_of_nonneg, loadA_rowK, storeA_int hsz3, putK_cell, rowK_cell ag3, rowK_row ag3, boxA_cell, al3, get_empty, next_empty, AH.get_set, AH.get_push, AH.next_set, AH.next_push, resultsA_cell, resK_pointer, roundA_G, roundG_loop, asgK_normal, bodyK_loop, ended_some, endRK_normal, endRK_ret, endRK_exit, rangeK_E, rangeE_ready, rangeE_done, rangeH, setAll, shut_nil, shut_cons, shutK_defs, endK_shut, outK_some, AH.get_kill, AH.next_kill, evalRegion_G, drawG_ok, drawK_all, trace_cons, trace_nil, traceK_some, List.all_cons, List.all_nil, sameRead_K, sameK_plain, sameK_guard, wantK_some, veqK_val, veq_int, veq_bool, veq_pointer, veq_slice, veq_nilSlice, Bool.and_true, Bool.and_self, List.getLast?_cons_cons, List.getLast?_singleton, len_slice one22, indexAddrA_one one22, ixK_slice, append_one one22, apK_nil, apK_some, apB_row, oneOf_row, bs22, Nat.reduceLeDiff, and_self, and_true, true_and, Int.reduceToNat, Int.reduceNe, List.take_succ_cons, List.take_zero, List.take_nil, List.length_cons, List.length_nil, List.cons_append, List.nil_append, Int.reduceLE, Int.reduceLT, Int.reduceEq, Int.reduceNeg, Int.reduceAdd, Int.reduceSub, Int.reduceMul, Int.reduceDiv, Nat.reduceAdd, Nat.reduceEqDiff, decide_true, decide_false, Try.f3, hT, p0, p1, d0, ga, g1, g2, g3, d1, d2, bs22_0, extractA2, callA_func _ _ _ _ _ _ b13, callA_func _ _ _ _ _ _ b14, callA_func _ _ _ _ _ _ b15, env_call_ov ovP13, env_call_ov ovP14, env_call_ov ovP15]
end Go.Proofs.Paths
