/-
  AE, operations that only make something: what they make hangs on no memory, so that they may be carried out at any time.
-/
import Derived.Test.YtimngnabpolgkaaGreatAeA9
namespace Go.AE
noncomputable section
set_option linter.unusedSimpArgs false
set_option linter.unusedVariables false
variable {P : Program} {ρ : Ren} {h : AH} {w : World}

def freshOp : Op → Bool
  | .alloc _ => true
  | .makeMap _ none => true
  | .buildSlice _ _ _ => true
  | _ => false
def freshAt (o : Oper) : Bool := freshOp o.op && o.guard.isNone

/-- What is made, by the abstract block's name; what the real one is. -/
structure FreshOk (P : Program) (A : Array Value) (o : Oper) (f : Nat → Value) (ob : AObj) : Prop where
  abs : ∀ h, opA P (aeval A) h o = some (.val (f h.next) (h.push ob))
  real : ∀ (ρ : Ren) (B : Array Value), VS ρ A B → ∃ (g : Nat → Value) (b : Obj) (inf : Nat → Info), (∀ n, (inf n).b = n) ∧
    (∀ ds w, (execOp (Act.mk B ds).eval o).run P w = .ok (.value (g w.heap.size)) { w with heap := w.heap.push b }) ∧
    ∀ (ρ' : Ren) (β n : Nat), Ren.Le ρ ρ' → ρ' β = some (inf n) → ORel ρ' (inf n) ob b ∧ V ρ' (f β) (g n)

theorem freshOk {o : Oper} (hf : freshOp o.op = true) {A : Array Value} {h : AH} {r : AR} (hs : opA P (aeval A) h o = some r) :
    ∃ f ob, FreshOk P A o f ob ∧ r = .val (f h.next) (h.push ob) := by
  obtain ⟨dst, op, type, pos, after, guard⟩ := o
  cases op <;> simp only [freshOp] at hf <;> (try (cases hf; done))
  case alloc t =>
    simp only [opA] at hs
    obtain ⟨x, hx, rfl⟩ := Option.map_eq_some_iff.1 hs
    unfold allocA at hx
    split at hx
    case h_2 => cases hx
    rename_i i z hz
    cases hx
    refine ⟨fun β => .pointer (some ⟨β, 0, none⟩), rowObj z.cells.toList t 0 false, ⟨fun h => by simp only [opA, allocA, hz]; rfl, fun ρ B hB => ?_⟩, rfl⟩
    refine ⟨fun n => .pointer (some ⟨n, 0, none⟩), .cells z.cells t, fun n => newInfo n z.cells.toList.length z.cells.toList.length 0 false, fun n => rfl, fun ds w => ?_, fun ρ' β n hle hβ => ?_⟩
    · obtain ⟨h1, h2, h3⟩ := zeroA_run hz w
      simp [execOp, Instr.alloc, h1, newVar, newRow]
    · have hp : z.cells.all plain1 = true := (zeroA_run hz (default : World)).2.2
      exact ⟨newRow_orel (VS.refl1 (ρ := ρ') hp).tl t n 0, .pointer _ _ ⟨_, hβ, rfl, rfl, rfl⟩⟩
  case makeMap t r =>
    cases r with
    | some x => simp at hf
    | none =>
    simp only [opA] at hs
    obtain ⟨x, hx, rfl⟩ := Option.map_eq_some_iff.1 hs
    cases hx
    refine ⟨fun β => .map (some β), .map #[] 0 false, ⟨fun h => rfl, fun ρ B hB => ?_⟩, rfl⟩
    refine ⟨fun n => .map (some n), .map #[] 0, fun n => { b := n, s := 0, n := 0, N := 0, esz := 0, op := false, ro := false }, fun n => rfl, fun ds w => ?_, fun ρ' β n hle hβ => ?_⟩
    · simp [execOp, Instr.makeMap]
    · exact ⟨⟨#[], rfl, rfl, rfl, rfl, fun j x y hx => by simp at hx⟩, .map _ _ _ hβ rfl⟩
  case buildSlice t len ps =>
    simp only [opA] at hs
    obtain ⟨x, hx, rfl⟩ := Option.map_eq_some_iff.1 hs
    unfold buildSliceA at hx
    split at hx
    case h_2 => cases hx
    rename_i elem hu
    split at hx
    case h_2 => cases hx
    rename_i inf z hz
    split at hx
    case isFalse => cases hx
    rename_i hc
    split at hx
    case h_2 => cases hx
    rename_i cells hf
    cases hx
    have hc' := hc
    obtain ⟨hc1, hc2, hc3⟩ := hc
    refine ⟨fun β => .slice (some ⟨β, 0, none⟩) len len, rowObj cells.toList elem 0 false, ⟨fun h => ?_, fun ρ B hB => ?_⟩, rfl⟩
    · simp only [opA, buildSliceA, hu, hz, hc', and_self, if_true, hf]; rfl
    have hpl : z.cells.all plain1 = true := (zeroA_run hz (default : World)).2.2
    have hz0 : (zeros (if len * inf.size = 0 then #[] else z.cells) (len * inf.size)).all plain1 = true := by
      by_cases h0 : len * inf.size = 0
      · rw [if_pos h0, h0]; exact zeros_plain (zero := #[]) (by simp) 0 (.inl rfl)
      · simp only [h0, if_false]; exact zeros_plain hpl _ (by omega)
    have hparts : PartsRel ρ (partsA (aeval A) ps).toList (partsA (Act.mk B []).eval ps).toList := parts_rel (fun x => aeval_sim hB x) ps
    obtain ⟨r', hr1, hr2⟩ := fill_rel _ _ _ _ _ cells hparts (VS.refl1 hz0) hc3 hf
    refine ⟨fun n => .slice (some ⟨n, 0, none⟩) len len, .cells r' elem, fun n => newInfo n cells.toList.length cells.toList.length 0 false, fun n => rfl, fun ds w => ?_, fun ρ' β n hle hβ => ?_⟩
    · obtain ⟨h1, h2, h3⟩ := zeroA_run hz w
      have hq : (partsA (Act.mk B []).eval ps) = partsA (Act.mk B ds).eval ps := rfl
      rw [hq] at hr1
      have hgt : ¬ (len * inf.size > 2 ^ 24) := by omega
      have hzz : (zeros (if len * inf.size = 0 then #[] else z.cells) (len * inf.size)) = (Array.range (len * inf.size)).map ((if len * inf.size = 0 then #[] else z.cells)[· % (if len * inf.size = 0 then #[] else z.cells).size]!) := rfl
      rw [hzz] at hr1
      have hnr : (newRow elem r').run P w = .ok ⟨w.heap.size, 0, none⟩ { w with heap := w.heap.push (.cells r' elem) } := by simp [newRow]
      have key : (Instr.buildSlice t len (partsA (Act.mk B ds).eval ps)).run P w = .ok (.slice (some ⟨w.heap.size, 0, none⟩) len len) { w with heap := w.heap.push (.cells r' elem) } := by
        by_cases h0 : len * inf.size = 0
        · simp only [h0, if_true] at hr1
          simp only [Instr.buildSlice, Sem.run_bind, run_underlying hu, Result.andThen_ok, run_size h2, h0, Sem.run_ite, if_true, Sem.run_pure, hr1, hnr]
          rfl
        · simp only [h0, if_false] at hr1
          simp only [Instr.buildSlice, Sem.run_bind, run_underlying hu, Result.andThen_ok, run_size h2, h0, hgt, Sem.run_ite, if_false, h1, Sem.run_pure, hr1, hnr]
      show (do pure (Next.value (← Instr.buildSlice t len (partsA (Act.mk B ds).eval ps))) : Sem Next).run P w = _
      simp only [Sem.run_bind, key, Result.andThen_ok, Sem.run_pure]
    · refine ⟨newRow_orel (hr2.mono hle).tl elem n 0, .slice _ _ _ _ _ (Nat.le_refl _) ⟨_, hβ, rfl, rfl, .inl ⟨rfl, rfl⟩⟩⟩

end
end Go.AE
