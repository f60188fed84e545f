/-
  AE, part 27: slots that are no literal list: what is got behind what was set.
-/
import Derived.Test.YtimngnabpolgkaaGreatInG8
namespace Go.AE
noncomputable section
set_option linter.unusedSimpArgs false
set_option linter.unusedVariables false
variable {P : Program} {E : Env}

theorem getD_set' (l : List Value) (i j : Nat) (v d : Value) : (l.set i v).getD j d = if i = j then (if j < l.length then v else d) else l.getD j d := by
  simp only [List.getD_eq_getElem?_getD, List.getElem?_set]
  by_cases e : i = j
  · subst e; simp only [if_true]; split <;> rfl
  · simp only [e, if_false]

theorem setD_ne {l : List Value} {i j : Nat} {v d : Value} (h : i ≠ j) : (l.set i v).getD j d = l.getD j d := by rw [getD_set', if_neg h]

/-- What a guard's operation has yielded, by the slot's value. -/
def yK (v : Value) : Option (Option Bool) :=
  match v with
  | .bool b => some (some b)
  | .tuple cs => if cs.size = 1 then none else some none
  | _ => some none
theorem yK_bool (b : Bool) : yK (.bool b) = some (some b) := rfl
theorem yK_undef : yK undef = some none := rfl
def yD (l : List Value) (o : Option Oper) : Option (Option Bool) :=
  match o with
  | none => some none
  | some o => match o.dst with
    | none => some none
    | some d => yK (l.getD d undef)
theorem yieldedA_T (os : List Oper) (l : List Value) (j : Nat) : yieldedA ⟨os⟩ ⟨l⟩ j = yD l os[j]? := by
  unfold yieldedA yD yK
  simp only [List.getElem?_toArray]
  cases os[j]? with
  | none => rfl
  | some o =>
    simp only [Option.bind_some]
    cases o.dst with
    | none => rfl
    | some d =>
      simp only [List.getD_eq_getElem?_getD]
      cases l[d]? with
      | none => rfl
      | some v => cases v <;> rfl
theorem yD_some (l : List Value) (d : Nat) (op : Op) (t : TypeId) (pos : String) (after : Array Edge) (g : Option (Nat × Bool)) :
    yD l (some ⟨some d, op, t, pos, after, g⟩) = yK (l.getD d undef) := rfl

theorem length_pad : ∀ (n : Nat) (l : List Value), l.length ≤ n → (pad n l).length = n
  | 0, l, h => by cases l with
    | nil => rfl
    | cons _ _ => simp at h
  | n + 1, [], _ => by simp [pad, length_pad n [] (by simp)]
  | n + 1, x :: l, h => by simp only [pad, List.length_cons]; rw [length_pad n l (by simpa using h)]
theorem getD_pad : ∀ (n : Nat) (l : List Value) (i : Nat), (pad n l).getD i undef = l.getD i undef
  | 0, l, i => rfl
  | n + 1, [], 0 => rfl
  | n + 1, [], i + 1 => by have := getD_pad n [] i; simpa [pad] using this
  | n + 1, x :: l, 0 => rfl
  | n + 1, x :: l, i + 1 => by have := getD_pad n l i; simpa [pad] using this

theorem callFn_T {f : FuncId} {fn : Func} {c : Code} (hf : P.funcs[f]? = some fn) (hb : fn.body = some c) (args : List Value) (h : AH) (hn : args.length ≤ fn.ntmps) {r : Option (Value × AH)}
    (hT : ∀ T : List Value, T.length = fn.ntmps → (∀ i, T.getD i undef = args.getD i undef) → endK P fn.results.toList (evalC P E none c ⟨⟨T⟩, [], h⟩) = r) : callFn P E f ⟨args⟩ h = r := by
  rw [callFn_eq hf hb]
  exact hT _ (length_pad _ _ hn) (getD_pad _ _)

theorem callFn_Tm {α : Type} {F : Value × AH → α} {f : FuncId} {fn : Func} {c : Code} (hf : P.funcs[f]? = some fn) (hb : fn.body = some c) (args : List Value) (h : AH) (hn : args.length ≤ fn.ntmps) {r : Option α}
    (hT : ∀ T : List Value, T.length = fn.ntmps → (∀ i, T.getD i undef = args.getD i undef) → (endK P fn.results.toList (evalC P E none c ⟨⟨T⟩, [], h⟩)).map F = r) : (callFn P E f ⟨args⟩ h).map F = r := by
  rw [callFn_eq hf hb]
  exact hT _ (length_pad _ _ hn) (getD_pad _ _)

theorem stepVal_guardT {os : List Oper} (d : Option Tmp) (op : Op) (t : TypeId) (pos : String) (after : Array Edge) (l : List Value) (h : AH) (j : Nat) (b : Bool) :
    stepVal P E ⟨os⟩ ⟨d, op, t, pos, after, some (j, b)⟩ ⟨l⟩ h = (match yD l os[j]? with
      | some x => if x = some b then arK E h (opA P (aeval ⟨l⟩) h ⟨d, op, t, pos, after, some (j, b)⟩) else some (undef, h)
      | none => none) := by
  rw [stepVal_guard, yieldedA_T]; rfl

/-- A region in open order, of which two facts are known. -/
def drawL (P : Program) (E : Env) (ops : List Oper) (s : St) (ps : List (Nat × Nat)) : Option (Ex × St) := (drawK P ⟨ops⟩ ps (trace P E ⟨ops⟩ ops s)).map (.normal, ·)
theorem evalC_drawT {os : List Oper} {ps : List (Nat × Nat)} (h1 : drawStatic ⟨os⟩ = true) (h2 : drawPairs ⟨os⟩ = ps) (rd : Option Nat) (id : Nat) (s : St) :
    evalC P E rd (.region id ⟨os⟩ true) s = drawL P E os s ps := by
  rw [evalC_draw, evalRegion_draw ps s h1 h2]; rfl
theorem drawL_eq (os : List Oper) (s : St) (ps : List (Nat × Nat)) : drawL P E os s ps = (drawK P ⟨os⟩ ps (trace P E ⟨os⟩ os s)).map (.normal, ·) := rfl

end
end Go.AE
