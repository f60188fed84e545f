/-
  Bits of a block are set one behind the other (mkfs.marks): the loop.
-/
import Derived.Test.YtimngnabpolgkaaGreatInG30
namespace Go.Proofs.Leaf
set_option linter.unusedSimpArgs false
set_option linter.unusedVariables false
open Go.AE
set_option maxRecDepth 100000
set_option maxHeartbeats 4000000

def setBit (l : List Nat) (i : Nat) : List Nat := if bt (l.getD (i / 8) 0) (i % 8) = true then l else l.set (i / 8) (l.getD (i / 8) 0 ^^^ 1 <<< (i % 8))
def setBits (l : List Nat) (i : Nat) : Nat → List Nat
  | 0 => l
  | r + 1 => setBits (setBit l i) (i + 1) r
theorem length_setBit (l : List Nat) (i : Nat) : (setBit l i).length = l.length := by unfold setBit; split <;> simp
theorem setBit_lt {l : List Nat} (h : ∀ x ∈ l, x < 256) (i : Nat) (hi : i / 8 < l.length) : ∀ x ∈ setBit l i, x < 256 := by
  unfold setBit
  split
  · exact h
  · intro x hx
    rcases List.mem_or_eq_of_mem_set hx with hx | rfl
    · exact h x hx
    · have h1 : l.getD (i / 8) 0 < 256 := by
        simp only [List.getD_eq_getElem?_getD, List.getElem?_eq_getElem hi, Option.getD_some]; exact h _ (List.getElem_mem hi)
      have h2 : 1 <<< (i % 8) < 256 := by
        rw [Nat.one_shiftLeft]; exact Nat.pow_lt_pow_right (n := 8) (by decide) (Nat.mod_lt _ (by decide))
      exact Nat.xor_lt_two_pow (n := 8) h1 h2

noncomputable def mrO : Code := (blockAt 0 (Tryz.f301.body.getD .skip)).getD .skip
theorem b103 : ((Tryz.prog.funcs[103]?).bind (·.body)).isSome = true := by kernel_rfl

theorem marks_loop (M to n e z off B : Nat) (op : Bool) (d sv bvl : Value) (ca : Addr) (hto : to ≤ 2048) (hn : off + 256 ≤ n) (hcB : ca.block ≠ B)
    (p1 : indexAddrA Tryz.prog 48 sv bvl = some (.pointer (some ⟨B, off, none⟩))) :
    ∀ (r i : Nat), i + r = to → ∀ (T : List Value) (h : AH) (c : Row) (L : List Nat), L.length = 256 → (∀ x ∈ L, x < 256) → h.get B = some (.cells c n e (0, 0) z op false d) → B < h.next → ca.block < h.next → rowA c d off 256 = bv L →
      loadA Tryz.prog 48 ca h = some sv → T.length = 19 → T.getD 0 undef = bvl → T.getD 2 undef = .int .i64 to → T.getD 3 undef = .pointer (some ca) → T.getD 7 undef = .int .i64 i →
      ∃ T' h' c', evalC Tryz.prog (env Tryz.prog (fun _ => none) (M + 3 + r)) none mrO ⟨⟨T⟩, [], h⟩ = some (.exit 0, ⟨⟨T'⟩, [], h'⟩) ∧ h.next ≤ h'.next ∧ (∀ γ, γ < h.next → γ ≠ B → h'.get γ = h.get γ) ∧ h'.get B = some (.cells c' n e (0, 0) z op false d) ∧
        rowA c' d off 256 = bv (setBits L i r) ∧ (∀ j, j < n → ¬ (off ≤ j ∧ j < off + 256) → (c'.get j).getD d = (c.get j).getD d)
  | 0, i, hi, T, h, c, L, hL, hx, hg, hB, hc, hr, hl, hT, t0, t2, t3, t7 => by
    obtain rfl : i = to := by omega
    have c1 : decide ((i : Int) < (i : Int)) = false := by simp
    simp only [mrO, blockAt, Tryz.f301, Option.getD_some, Nat.reduceEqDiff, if_true, if_false]
    rw [evalC_loop]
    simp (maxSteps := 1000000) (disch := omega) only [opA_convert, stepVal_guardT, yD_some, yK_bool, yK_undef, getD_set', List.length_set, Nat.reduceLT, evalC_drawT, drawL_eq, trace_cons, trace_nil, traceK_some, pad, evalC_seq, evalC_region, evalC_cond, evalC_ret, evalC_skip, evalC_label, evalC_exit, evalC_scope, evalC_block, evalC_draw, runOps_cons, runOps_nil, stepOp_eq, stepVal_plain, yieldedA_T, opA_assign, opA_move, opA_binOp, opA_pick, opA_call, opA_alloc, opA_box, opA_load, opA_store, opA_extract, opA_buildSlice, opA_indexAddr, opA_fieldAddr, aeval_int, aeval_bool, aeval_tmp, aeval_nilSlice, aeval_nilPointer, aeval_nilFunc, aeval_func, arK_val, arK_skip, arK_enter, arK_round, valK_some, valK_none, opsK_some, Option.map_some, Option.map_none, seqK_normal, seqK_ret, seqK_exit, blockK_normal, blockK_ret, blockK_exit, loopK_normal, loopK_ret, loopK_exit, List.getElem?_cons_zero, List.getElem?_cons_succ, Option.bind_some, reduceCtorEq, if_false, if_true, pickK_bool, condK_true, condK_false, endK_ret, endK_normal, resultsA_tmp, resultsA_nil, resVal, Option.some.injEq, Bool.true_eq_false, Bool.false_eq_true, List.map_cons, List.map_nil, binA_add, binA_sub, binA_mul, binA_lss, binA_leq, binA_gtr, binA_geq, binA_eql, binA_neq, callA_builtin, max_int, min_int, loadK_pointer, storeK_pointer, IntWalk.i64_in, IntWalk.i64_quo, binA_quo, binA_rem, Int.tmod_eq_emod_of_nonneg, loadA_rowK, get_empty, next_empty, AH.get_set, AH.get_push, AH.next_set, AH.next_push, resultsA_cell, resK_pointer, roundA_G, roundG_loop, asgK_normal, bodyK_loop, ended_some, endRK_normal, endRK_ret, endRK_exit, rangeK_E, rangeE_ready, rangeE_done, rangeH, setAll, shut_nil, shut_cons, shutK_defs, endK_shut, outK_some, AH.get_kill, AH.next_kill, evalRegion_G, drawG_ok, drawK_all, trace_cons, trace_nil, traceK_some, List.all_cons, List.all_nil, sameRead_K, sameK_plain, sameK_guard, wantK_some, veqK_val, veq_int, veq_bool, veq_pointer, veq_slice, veq_nilSlice, Bool.and_true, Bool.and_self, List.getLast?_cons_cons, List.getLast?_singleton, ixK_slice, oneOf_row, Nat.reduceLeDiff, and_self, and_true, true_and, Int.reduceToNat, Int.reduceNe, List.take_succ_cons, List.take_zero, List.take_nil, List.length_cons, List.length_nil, List.cons_append, List.nil_append, Int.reduceLE, Int.reduceLT, Int.reduceEq, Int.reduceNeg, Int.reduceAdd, Int.reduceSub, Int.reduceMul, Int.reduceDiv, Nat.reduceAdd, Nat.reduceEqDiff, decide_true, decide_false, hT, t2, t7, c1]
    exact ⟨_, h, c, rfl, Nat.le_refl _, fun _ _ _ => rfl, hg, hr, fun _ _ _ => rfl⟩
  | r + 1, i, hi, T, h, c, L, hL, hx, hg, hB, hc, hr, hl, hT, t0, t2, t3, t7 => by
    have c1 : decide ((i : Int) < (to : Int)) = true := decide_eq_true (by omega)
    obtain ⟨v, h2, k1, k2, k3, k4⟩ := set_fn L i B off n e z op d c h hL hx (by omega) hg hB hn hr (M + 1 + r)
    have sc : (env Tryz.prog (fun _ => none) (M + 3 + r + 1)).call 103 ⟨[.pointer (some ⟨B, off, none⟩), .int .i64 (i : Int)]⟩ h = some (v, h2) := by
      rw [env_call (ov := fun _ => none) rfl, show M + 3 + r = M + 1 + r + 2 by omega]; exact k1
    have hi8 : i / 8 < L.length := by omega
    have ih := marks_loop M to n e z off B op d sv bvl ca hto hn hcB p1 r (i + 1) (by omega)
    -- the row behind it
    obtain ⟨c2, g2, r2, o2⟩ : ∃ c2, h2.get B = some (.cells c2 n e (0, 0) z op false d) ∧ rowA c2 d off 256 = bv (setBit L i) ∧ (∀ j, j < n → ¬ (off ≤ j ∧ j < off + 256) → (c2.get j).getD d = (c.get j).getD d) := by
      unfold setBit
      by_cases hb : bt (L.getD (i / 8) 0) (i % 8) = true
      · rw [if_pos hb] at k4 ⊢
        exact ⟨c, k4.2.trans hg, hr, fun _ _ _ => rfl⟩
      · rw [if_neg hb] at k4 ⊢
        have hlen : (bv (L.set (i / 8) (L.getD (i / 8) 0 ^^^ 1 <<< (i % 8)))).length = 256 := by rw [length_bv, List.length_set, hL]
        refine ⟨_, k4.2, ?_, fun j hj hne => ?_⟩
        · have := rowA_putB c d n off (bv (L.set (i / 8) (L.getD (i / 8) 0 ^^^ 1 <<< (i % 8)))) (by rw [hlen]; exact hn)
          rw [hlen] at this
          exact this
        · rw [get_putB _ _ _ _ _ hj, if_neg (by rw [hlen]; exact hne)]
    have l2 : loadA Tryz.prog 48 ca h2 = some sv := by
      rw [← hl]; unfold loadA; rw [k3 ca.block hc hcB]
    simp only [mrO, blockAt, Tryz.f301, Option.getD_some, Nat.reduceEqDiff, if_true, if_false] at ih ⊢
    rw [show M + 3 + (r + 1) = M + 3 + r + 1 by omega, evalC_loop]
    simp (maxSteps := 1000000) (disch := omega) only [opA_convert, stepVal_guardT, yD_some, yK_bool, yK_undef, getD_set', List.length_set, Nat.reduceLT, evalC_drawT, drawL_eq, trace_cons, trace_nil, traceK_some, pad, evalC_seq, evalC_region, evalC_cond, evalC_ret, evalC_skip, evalC_label, evalC_exit, evalC_scope, evalC_block, evalC_draw, runOps_cons, runOps_nil, stepOp_eq, stepVal_plain, yieldedA_T, opA_assign, opA_move, opA_binOp, opA_pick, opA_call, opA_alloc, opA_box, opA_load, opA_store, opA_extract, opA_buildSlice, opA_indexAddr, opA_fieldAddr, aeval_int, aeval_bool, aeval_tmp, aeval_nilSlice, aeval_nilPointer, aeval_nilFunc, aeval_func, arK_val, arK_skip, arK_enter, arK_round, valK_some, valK_none, opsK_some, Option.map_some, Option.map_none, seqK_normal, seqK_ret, seqK_exit, blockK_normal, blockK_ret, blockK_exit, loopK_normal, loopK_ret, loopK_exit, List.getElem?_cons_zero, List.getElem?_cons_succ, Option.bind_some, reduceCtorEq, if_false, if_true, pickK_bool, condK_true, condK_false, endK_ret, endK_normal, resultsA_tmp, resultsA_nil, resVal, Option.some.injEq, Bool.true_eq_false, Bool.false_eq_true, List.map_cons, List.map_nil, binA_add, binA_sub, binA_mul, binA_lss, binA_leq, binA_gtr, binA_geq, binA_eql, binA_neq, callA_builtin, max_int, min_int, loadK_pointer, storeK_pointer, IntWalk.i64_in, IntWalk.i64_quo, binA_quo, binA_rem, Int.tmod_eq_emod_of_nonneg, loadA_rowK, get_empty, next_empty, AH.get_set, AH.get_push, AH.next_set, AH.next_push, resultsA_cell, resK_pointer, roundA_G, roundG_loop, asgK_normal, bodyK_loop, ended_some, endRK_normal, endRK_ret, endRK_exit, rangeK_E, rangeE_ready, rangeE_done, rangeH, setAll, shut_nil, shut_cons, shutK_defs, endK_shut, outK_some, AH.get_kill, AH.next_kill, evalRegion_G, drawG_ok, drawK_all, trace_cons, trace_nil, traceK_some, List.all_cons, List.all_nil, sameRead_K, sameK_plain, sameK_guard, wantK_some, veqK_val, veq_int, veq_bool, veq_pointer, veq_slice, veq_nilSlice, Bool.and_true, Bool.and_self, List.getLast?_cons_cons, List.getLast?_singleton, ixK_slice, oneOf_row, Nat.reduceLeDiff, and_self, and_true, true_and, Int.reduceToNat, Int.reduceNe, List.take_succ_cons, List.take_zero, List.take_nil, List.length_cons, List.length_nil, List.cons_append, List.nil_append, Int.reduceLE, Int.reduceLT, Int.reduceEq, Int.reduceNeg, Int.reduceAdd, Int.reduceSub, Int.reduceMul, Int.reduceDiv, Nat.reduceAdd, Nat.reduceEqDiff, decide_true, decide_false, hT, t0, t2, t3, t7, c1, hl, p1, callA_func _ _ _ _ _ _ b103, sc, env_code]
    generalize hT0 : List.set _ 7 _ = T0
    obtain ⟨T', h', c', q1, q2, q3, q4, q5, q6⟩ := ih T0 h2 c2 (setBit L i) (by rw [length_setBit, hL]) (setBit_lt hx i hi8) g2 (by omega) (by omega) r2 l2 (by rw [← hT0]; simp only [getD_set', List.length_set, Nat.reduceEqDiff, Nat.reduceLT, if_true, if_false, hT]) (by rw [← hT0]; simp only [getD_set', List.length_set, Nat.reduceEqDiff, Nat.reduceLT, if_true, if_false, hT, t0]) (by rw [← hT0]; simp only [getD_set', List.length_set, Nat.reduceEqDiff, Nat.reduceLT, if_true, if_false, hT, t2]) (by rw [← hT0]; simp only [getD_set', List.length_set, Nat.reduceEqDiff, Nat.reduceLT, if_true, if_false, hT, t3]) (by rw [← hT0]; simp only [getD_set', List.length_set, Nat.reduceEqDiff, Nat.reduceLT, if_true, if_false, hT]; rfl)
    refine ⟨T', h', c', q1, by omega, fun γ hγ hne => ?_, q4, q5, fun j hj hne => ?_⟩
    · rw [q3 γ (by omega) hne, k3 γ hγ hne]
    · rw [q6 j hj hne, o2 j hj hne]

/-! ### Byte by byte -/
theorem bt_testBit (x k : Nat) : bt x k = x.testBit k := by
  unfold bt
  rw [Nat.testBit_eq_decide_div_mod_eq, Nat.and_one_is_mod, Nat.shiftRight_eq_div_pow]
/-- The bits from one on, up to another one, of the byte that begins at b. -/
noncomputable def orMask (a z : Nat) (b : Nat) (x : Nat) : Nat → Nat :=
  Nat.rec (motive := fun _ => Nat) x fun k y => Bool.rec (motive := fun _ => Nat) y (Nat.lor y (Nat.shiftLeft 1 k)) (Nat.ble a (Nat.add b k) && Nat.ble (Nat.succ (Nat.add b k)) z)
theorem orMask_testBit (a z b x : Nat) : ∀ (n k : Nat), (orMask a z b x n).testBit k = (x.testBit k || (decide (k < n) && decide (a ≤ b + k) && decide (b + k < z)))
  | 0, k => by show x.testBit k = _; simp
  | n + 1, k => by
    have ih := orMask_testBit a z b x n k
    show (Bool.rec (motive := fun _ => Nat) (orMask a z b x n) (Nat.lor (orMask a z b x n) (Nat.shiftLeft 1 n)) (Nat.ble a (b + n) && Nat.ble (Nat.succ (b + n)) z)).testBit k = _
    rw [PT.brec]
    by_cases hc : (Nat.ble a (b + n) && Nat.ble (Nat.succ (b + n)) z) = true
    · rw [if_pos hc]
      simp only [Bool.and_eq_true] at hc
      have h1 := Nat.le_of_ble_eq_true hc.1
      have h2 : b + n < z := Nat.le_of_ble_eq_true hc.2
      have : (Nat.lor (orMask a z b x n) (Nat.shiftLeft 1 n)).testBit k = ((orMask a z b x n) ||| 1 <<< n).testBit k := rfl
      rw [this, Nat.testBit_or, ih, Nat.one_shiftLeft, Nat.testBit_two_pow]
      by_cases e : n = k
      · subst e; simp [h1, h2]
      · simp only [e, decide_false, Bool.or_false]
        congr 1
        by_cases hk : k < n
        · simp [hk, show k < n + 1 by omega]
        · simp [hk, show ¬ k < n + 1 by omega]
    · rw [if_neg hc, ih]
      congr 1
      by_cases e : k = n
      · subst e
        have : ¬ (a ≤ b + k ∧ b + k < z) := fun hh => hc (by rw [Nat.ble_eq_true_of_le hh.1, Nat.ble_eq_true_of_le hh.2]; rfl)
        by_cases h1 : a ≤ b + k
        · simp [h1, show ¬ b + k < z from fun h => this ⟨h1, h⟩]
        · simp [h1]
      · by_cases hk : k < n
        · simp [hk, show k < n + 1 by omega]
        · simp [hk, show ¬ k < n + 1 by omega]
noncomputable def maskL (a z : Nat) (l : List Nat) : Nat → List Nat := List.rec (motive := fun _ => Nat → List Nat) (fun _ => []) (fun x _ ih b => orMask a z b x 8 :: ih (Nat.add b 8)) l
theorem maskL_get (a z : Nat) : ∀ (l : List Nat) (b j : Nat), (maskL a z l b)[j]? = l[j]?.map fun x => orMask a z (b + 8 * j) x 8
  | [], b, j => by simp [maskL]
  | x :: r, b, 0 => by simp [maskL]
  | x :: r, b, j + 1 => by
    show (orMask a z b x 8 :: maskL a z r (b + 8))[j + 1]? = _
    rw [List.getElem?_cons_succ, maskL_get a z r (b + 8) j, List.getElem?_cons_succ, show b + 8 + 8 * j = b + 8 * (j + 1) by omega]

theorem bit_ext {x y : Nat} (h : ∀ k, x.testBit k = y.testBit k) : x = y := Nat.eq_of_testBit_eq h
theorem mask_step (l : List Nat) (a i : Nat) (hl : i / 8 < l.length) (ha : a ≤ i) : setBit (maskL a i l 0) i = maskL a (i + 1) l 0 := by
  have hlen : ∀ z, (maskL a z l 0).length = l.length := fun z => by
    have : ∀ (m : List Nat) (b : Nat), (maskL a z m b).length = m.length := by
      intro m
      induction m with
      | nil => intro b; rfl
      | cons x r ih => intro b; show (maskL a z r (b + 8)).length + 1 = r.length + 1; rw [ih]
    exact this l 0
  have hget : ∀ z, (maskL a z l 0).getD (i / 8) 0 = orMask a z (8 * (i / 8)) l[i / 8] 8 := fun z => by
    rw [List.getD_eq_getElem?_getD, maskL_get, List.getElem?_eq_getElem hl]; simp
  -- one byte
  have key : (if bt ((maskL a i l 0).getD (i / 8) 0) (i % 8) = true then (maskL a i l 0).getD (i / 8) 0 else (maskL a i l 0).getD (i / 8) 0 ^^^ 1 <<< (i % 8)) = orMask a (i + 1) (8 * (i / 8)) l[i / 8] 8 := by
    rw [hget, bt_testBit]
    apply bit_ext
    intro k
    have hi : 8 * (i / 8) + i % 8 = i := Nat.div_add_mod i 8
    have hm : i % 8 < 8 := Nat.mod_lt _ (by decide)
    have hother : k ≠ i % 8 → (decide (8 * (i / 8) + k < i + 1)) = decide (8 * (i / 8) + k < i) := fun hne => by
      congr 1; exact propext ⟨fun h => by omega, fun h => by omega⟩
    split
    · rename_i hb
      by_cases e : k = i % 8
      · subst e
        rw [hb, orMask_testBit, hi]
        simp [hm, ha]
      · rw [orMask_testBit, orMask_testBit, hother e]
    · rename_i hb
      have hb' : (orMask a i (8 * (i / 8)) l[i / 8] 8).testBit (i % 8) = false := by simpa using hb
      rw [Nat.testBit_xor, Nat.one_shiftLeft, Nat.testBit_two_pow]
      by_cases e : k = i % 8
      · subst e
        rw [hb', orMask_testBit, hi]
        simp [hm, ha]
      · rw [orMask_testBit, orMask_testBit, hother e]
        simp [show ¬ i % 8 = k from fun h => e h.symm]
  unfold setBit
  apply List.ext_getElem?
  intro j
  rw [maskL_get]
  by_cases hj : j = i / 8
  · subst hj
    rw [List.getElem?_eq_getElem hl, Option.map_some, Nat.zero_add, ← key]
    split
    · rw [maskL_get, List.getElem?_eq_getElem hl, Option.map_some, Nat.zero_add, hget]
    · rw [List.getElem?_set, if_pos rfl, if_pos (by rw [hlen]; exact hl)]
  · have hsame : (maskL a i l 0)[j]? = l[j]?.map fun x => orMask a (i + 1) (0 + 8 * j) x 8 := by
      rw [maskL_get]
      congr 1
      funext x
      apply bit_ext
      intro k
      rw [orMask_testBit, orMask_testBit]
      congr 1
      by_cases hk : k < 8
      · congr 1
        congr 1
        exact propext ⟨fun h => by omega, fun h => by omega⟩
      · simp [hk]
    split
    · exact hsame
    · rw [List.getElem?_set, if_neg (fun e => hj e.symm)]; exact hsame
theorem maskL_none (a : Nat) : ∀ (l : List Nat) (b : Nat), maskL a a l b = l
  | [], b => rfl
  | x :: r, b => by
    show orMask a a b x 8 :: maskL a a r (b + 8) = _
    rw [maskL_none a r (b + 8)]
    congr 1
    apply bit_ext
    intro k
    rw [orMask_testBit]
    by_cases h1 : a ≤ b + k
    · simp [show ¬ b + k < a by omega]
    · simp [h1]
theorem setBits_mask (l : List Nat) (a : Nat) : ∀ (r i : Nat), a ≤ i → (i + r) ≤ 8 * l.length → setBits (maskL a i l 0) i r = maskL a (i + r) l 0
  | 0, i, _, _ => rfl
  | r + 1, i, ha, hl => by
    simp only [setBits]
    rw [mask_step l a i (by omega) ha, setBits_mask l a r (i + 1) (by omega) (by omega), show i + 1 + r = i + (r + 1) by omega]
end Go.Proofs.Leaf
