/-
  AE, rows of numbers are compared one by one.
-/
import Derived.Test.YtimngnabpolgkaaGreatAeM4
import Derived.ChangeKeysEq
import Derived.Laws.StructEq
namespace Go.AE
noncomputable section
set_option linter.unusedSimpArgs false
set_option linter.unusedVariables false
variable {P : Program} {w : World}

def rowEq : List Value → List Value → Option Bool
  | [], [] => some true
  | .int k a :: xs, .int k' b :: ys => if k = k' then (if a = b then rowEq xs ys else some false) else none
  | _, _ => none

def aggEqA (P : Program) (t : TypeId) (xs ys : Array Value) : Option Bool :=
  match P.underlying t with
  | some (.array n e) =>
    match P.underlying e, P.info? e with
    | some (.int _), some i => if i.size = 1 ∧ xs.size = n ∧ ys.size = n then rowEq xs.toList ys.toList else none
    | _, _ => none
  | _ => none

def fastEq (P : Program) (op : BinOp) (t : TypeId) (x y : Value) : Option Value :=
  match op, x, y with
  | .eql, .agg xs, .agg ys => (aggEqA P t xs ys).map .bool
  | .neq, .agg xs, .agg ys => (aggEqA P t xs ys).map fun b => .bool (!b)
  | _, _, _ => none

theorem eqItems_rows (d : Nat) {e : TypeId} {k : IntKind} (he : P.underlying e = some (.int k)) (xs ys : Array Value) : ∀ (m j : Nat) (b : Bool), xs.size = j + m → ys.size = j + m → rowEq (xs.toList.drop j) (ys.toList.drop j) = some b →
    (Op.eqItems (d + 1) e 1 xs ys (List.range' j m)).run P w = .ok b w
  | 0, j, b, hx, hy, h => by
    rw [List.drop_eq_nil_of_le (by simp; omega), List.drop_eq_nil_of_le (by simp; omega)] at h
    simp only [rowEq, Option.some.injEq] at h
    subst h
    simp [Op.eqItems]
  | m + 1, j, b, hx, hy, h => by
    have hjx : j < xs.toList.length := by simp; omega
    have hjy : j < ys.toList.length := by simp; omega
    rw [List.drop_eq_getElem_cons hjx, List.drop_eq_getElem_cons hjy] at h
    have hag : isAggT P e = some false := by simp [isAggT, he]
    have px : (part e xs (j * 1)).run P w = .ok (xs.toList[j]) w := by
      have : xs[j]? = some xs.toList[j] := by simp at hjx; simp [hjx]
      simp [part, run_isAgg hag, this]
    have py : (part e ys (j * 1)).run P w = .ok (ys.toList[j]) w := by
      have : ys[j]? = some ys.toList[j] := by simp at hjy; simp [hjy]
      simp [part, run_isAgg hag, this]
    generalize xs.toList[j] = u at h px
    generalize ys.toList[j] = v at h py
    simp only [List.range'_succ, Op.eqItems, Sem.run_bind, px, py, Result.andThen_ok]
    unfold rowEq at h
    split at h
    · rename_i e1 e2; cases e1
    · rename_i k1 a xs' k2 c ys' e1 e2
      cases e1; cases e2
      split at h
      case isFalse => cases h
      rename_i hk
      subst hk
      have heq : (Op.equalIn (d + 1) e (.int k1 a) (.int k1 c)).run P w = .ok (a == c) w := by
        simp [Op.equalIn, run_underlying he]
      rw [heq]
      split at h
      · rename_i hac
        subst hac
        simp only [Result.andThen_ok, beq_self_eq_true, Bool.not_true, Bool.false_eq_true, if_false]
        exact eqItems_rows d he xs ys m (j + 1) b (by omega) (by omega) h
      · rename_i hac
        cases h
        have : (a == c) = false := by simpa using hac
        simp [this]
    · cases h

theorem aggEqA_run {t : TypeId} {xs ys : Array Value} {b : Bool} (h : aggEqA P t xs ys = some b) (w : World) : (Op.equal t (.agg xs) (.agg ys)).run P w = .ok b w ∧ P.eqGuardType P.depth t = false := by
  unfold aggEqA at h
  split at h
  case h_2 => cases h
  rename_i n e hu
  split at h
  case h_2 => cases h
  rename_i k i he hi
  split at h
  case isFalse => cases h
  rename_i hc
  obtain ⟨h1, h2, h3⟩ := hc
  have hcells : P.cellsOf e = 1 := by simp [Program.cellsOf, hi, h1]
  constructor
  · show (Op.equalIn (9998 + 1 + 1) t (.agg xs) (.agg ys)).run P w = _
    rw [run_equalIn_array w (9998 + 1) xs ys hu hi, hcells, List.range_eq_range']
    exact eqItems_rows 9998 he xs ys n 0 b (by omega) (by omega) h
  · have hd : P.depth = (2 * (P.types.size + Made.depth)) + 1 + 1 := rfl
    rw [hd]
    simp [Program.eqGuardType, hu, he]

theorem fastEq_run {op : BinOp} {t : TypeId} {x y v : Value} (h : fastEq P op t x y = some v) (ox oy : Operand) (w : World) :
    (do eqGuard op t ox oy x y; binOp op t x y : Sem Value).run P w = .ok v w ∧ plain v = true := by
  unfold fastEq at h
  split at h
  · rename_i xs ys
    obtain ⟨b, hb, rfl⟩ := Option.map_eq_some_iff.1 h
    obtain ⟨h1, h2⟩ := aggEqA_run hb w
    refine ⟨?_, rfl⟩
    simp only [Sem.run_bind, run_eqGuard_agg w .eql t ox oy xs ys h2, Result.andThen_ok]
    show (do pure (Value.bool (← Op.equal t (.agg xs) (.agg ys))) : Sem Value).run P w = _
    simp only [Sem.run_bind, h1, Result.andThen_ok, Sem.run_pure]
  · rename_i xs ys
    obtain ⟨b, hb, rfl⟩ := Option.map_eq_some_iff.1 h
    obtain ⟨h1, h2⟩ := aggEqA_run hb w
    refine ⟨?_, rfl⟩
    simp only [Sem.run_bind, run_eqGuard_agg w .neq t ox oy xs ys h2, Result.andThen_ok]
    show (do pure (Value.bool (!(← Op.equal t (.agg xs) (.agg ys)))) : Sem Value).run P w = _
    simp only [Sem.run_bind, h1, Result.andThen_ok, Sem.run_pure]
  · cases h

end
end Go.AE
