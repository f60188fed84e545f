/-
  AE, part 20: the evaluator step by step, for simp.
-/
import Derived.Test.YtimngnabpolgkaaGreatInG2
namespace Go.AE
noncomputable section
set_option linter.unusedSimpArgs false
set_option linter.unusedVariables false
variable {P : Program} {E : Env} {ops : Array Oper}

/-- A frame's slots at the start. -/
def pad : Nat → List Value → List Value
  | 0, l => l
  | n + 1, [] => undef :: pad n []
  | n + 1, x :: l => x :: pad n l

theorem pad_eq : ∀ (n : Nat) (l : List Value), l ++ List.replicate (n - l.length) undef = pad n l
  | 0, l => by simp [pad]
  | n + 1, [] => by
    have := pad_eq n []
    simp only [List.nil_append, List.length_nil, Nat.sub_zero] at this ⊢
    rw [List.replicate_succ, this, pad]
  | n + 1, x :: l => by
    have := pad_eq n l
    simp only [List.length_cons, List.cons_append, pad]
    rw [show n + 1 - (l.length + 1) = n - l.length by omega, this]

/-- Operations one behind the other. -/
def runOps (P : Program) (E : Env) (ops : Array Oper) : List Oper → St → Option St
  | [], s => some s
  | o :: r, s => match stepOp P E ops o s with
    | some s' => runOps P E ops r s'
    | none => none

theorem runList_from (l : List Oper) : ∀ (k : Nat), (∀ j, l[j]? = ops[k + j]?) → ∀ s, runList P E ops ((List.range l.length).map (k + ·)) s = runOps P E ops l s := by
  induction l with
  | nil => intro k _ s; rfl
  | cons o r ih =>
    intro k hl s
    have h0 : ops[k]? = some o := by have := hl 0; simpa using this.symm
    simp only [List.length_cons, List.range_succ_eq_map, List.map_cons, List.map_map, Nat.add_zero, runList, h0, runOps]
    have e : (List.range r.length).map ((k + ·) ∘ Nat.succ) = (List.range r.length).map (k + 1 + ·) := by
      apply List.map_congr_left; intro j _; simp only [Function.comp]; omega
    rw [e]
    cases stepOp P E ops o s with
    | some s' => exact ih (k + 1) (fun j => by have := hl (j + 1); simpa [Nat.add_assoc, Nat.add_comm 1 j] using this) _
    | none => rfl

theorem evalRegion_false (s : St) : evalRegion P E ops false s = runOps P E ops ops.toList s := by
  unfold evalRegion
  have := runList_from (P := P) (E := E) (ops := ops) ops.toList 0 (fun j => by simp) s
  simp only [Nat.zero_add, List.map_id', Array.length_toList] at this
  simpa using this

theorem evalC_skip (rd : Option Nat) (s : St) : evalC P E rd .skip s = some (.normal, s) := rfl
theorem evalC_label (rd : Option Nat) (l : Nat) (s : St) : evalC P E rd (.label l) s = some (.normal, s) := rfl
theorem evalC_exit (rd : Option Nat) (id : Nat) (s : St) : evalC P E rd (.exit id) s = some (.exit id, s) := rfl
theorem evalC_ret (rd : Option Nat) (s : St) : evalC P E rd .ret s = some (.ret, s) := rfl
theorem evalC_scope (rd : Option Nat) (c : Code) (s : St) : evalC P E rd (.scope c) s = evalC P E rd c s := rfl
theorem evalC_region (rd : Option Nat) (id : Nat) (s : St) : evalC P E rd (.region id ops false) s = (runOps P E ops ops.toList s).map (.normal, ·) := by
  simp only [evalC, evalRegion_false]
theorem evalC_draw (rd : Option Nat) (id : Nat) (s : St) : evalC P E rd (.region id ops true) s = (evalRegion P E ops true s).map (.normal, ·) := rfl

/-- What comes next. -/
def seqK (r : Option (Ex × St)) (k : St → Option (Ex × St)) : Option (Ex × St) :=
  match r with
  | some (.normal, s') => k s'
  | r => r
theorem evalC_seq (rd : Option Nat) (a b : Code) (s : St) : evalC P E rd (.seq a b) s = seqK (evalC P E rd a s) (evalC P E rd b) := rfl
theorem seqK_normal (s : St) (k : St → Option (Ex × St)) : seqK (some (.normal, s)) k = k s := rfl
theorem seqK_exit (id : Nat) (s : St) (k : St → Option (Ex × St)) : seqK (some (.exit id, s)) k = some (.exit id, s) := rfl
theorem seqK_ret (s : St) (k : St → Option (Ex × St)) : seqK (some (.ret, s)) k = some (.ret, s) := rfl

def condK (v : Value) (x y : Option (Ex × St)) : Option (Ex × St) :=
  match v with
  | .bool true => x
  | .bool false => y
  | _ => none
theorem evalC_cond (rd : Option Nat) (c : Operand) (x y : Code) (s : St) : evalC P E rd (.cond c x y) s = condK (aeval s.tmps c) (evalC P E rd x s) (evalC P E rd y s) := by
  simp only [evalC, condK]; rfl
theorem condK_true (x y : Option (Ex × St)) : condK (.bool true) x y = x := rfl
theorem condK_false (x y : Option (Ex × St)) : condK (.bool false) x y = y := rfl

def blockK (id : Nat) (r : Option (Ex × St)) : Option (Ex × St) :=
  match r with
  | some (.exit id', s') => if id' = id then some (.normal, s') else some (.exit id', s')
  | r => r
theorem evalC_block (rd : Option Nat) (id : Nat) (c : Code) (s : St) : evalC P E rd (.block id c) s = blockK id (evalC P E rd c s) := rfl
theorem blockK_normal (id : Nat) (s : St) : blockK id (some (.normal, s)) = some (.normal, s) := rfl
theorem blockK_ret (id : Nat) (s : St) : blockK id (some (.ret, s)) = some (.ret, s) := rfl
theorem blockK_exit (id id' : Nat) (s : St) : blockK id (some (.exit id', s)) = if id' = id then some (.normal, s) else some (.exit id', s) := rfl

def loopK (E : Env) (rd : Option Nat) (c : Code) (r : Option (Ex × St)) : Option (Ex × St) :=
  match r with
  | some (.normal, s') => E.code rd (.loop c) s'
  | r => r
theorem evalC_loop (rd : Option Nat) (c : Code) (s : St) : evalC P E rd (.loop c) s = loopK E rd c (evalC P E rd c s) := rfl
theorem loopK_normal (rd : Option Nat) (c : Code) (s : St) : loopK E rd c (some (.normal, s)) = E.code rd (.loop c) s := rfl
theorem loopK_ret (rd : Option Nat) (c : Code) (s : St) : loopK E rd c (some (.ret, s)) = some (.ret, s) := rfl
theorem loopK_exit (rd : Option Nat) (c : Code) (id : Nat) (s : St) : loopK E rd c (some (.exit id, s)) = some (.exit id, s) := rfl

theorem runOps_nil (s : St) : runOps P E ops [] s = some s := rfl
def opsK (r : Option St) (k : St → Option St) : Option St :=
  match r with
  | some s' => k s'
  | none => none
theorem runOps_cons (o : Oper) (r : List Oper) (s : St) : runOps P E ops (o :: r) s = opsK (stepOp P E ops o s) (runOps P E ops r) := by
  simp only [runOps, opsK]
theorem opsK_some (s : St) (k : St → Option St) : opsK (some s) k = k s := rfl

def valK (s : St) (d : Option Tmp) (r : Option (Value × AH)) : Option St :=
  match r with
  | some (v, h) => some { s with tmps := put s.tmps d v, h }
  | none => none
theorem stepOp_eq (o : Oper) (s : St) : stepOp P E ops o s = valK s o.dst (stepVal P E ops o s.tmps s.h) := rfl
theorem valK_some (l : List Value) (ds : List Nat) (h h' : AH) (d : Tmp) (v : Value) : valK ⟨⟨l⟩, ds, h⟩ (some d) (some (v, h')) = some ⟨⟨l.set d v⟩, ds, h'⟩ := by
  simp [valK, put]
theorem valK_none (l : List Value) (ds : List Nat) (h h' : AH) (v : Value) : valK ⟨⟨l⟩, ds, h⟩ none (some (v, h')) = some ⟨⟨l⟩, ds, h'⟩ := rfl

def arK (E : Env) (h : AH) (r : Option AR) : Option (Value × AH) :=
  match r with
  | some (.val v h') => some (v, h')
  | some (.skip h') => some (undef, h')
  | some (.enter f args) => E.call f args h
  | some (.round l args) => roundA E l args h
  | none => none
theorem stepVal_plain (d : Option Tmp) (op : Op) (t : TypeId) (pos : String) (after : Array Edge) (A : Array Value) (h : AH) :
    stepVal P E ops ⟨d, op, t, pos, after, none⟩ A h = arK E h (opA P (aeval A) h ⟨d, op, t, pos, after, none⟩) := rfl
theorem stepVal_guard (d : Option Tmp) (op : Op) (t : TypeId) (pos : String) (after : Array Edge) (A : Array Value) (h : AH) (j : Nat) (b : Bool) :
    stepVal P E ops ⟨d, op, t, pos, after, some (j, b)⟩ A h = (match (yieldedA ops A j) with
      | some x => if x = some b then arK E h (opA P (aeval A) h ⟨d, op, t, pos, after, some (j, b)⟩) else some (undef, h)
      | none => none) := by
  simp only [stepVal, wantedA]
  cases yieldedA ops A j with
  | none => rfl
  | some x =>
    simp only [Option.map_some]
    by_cases e : x = some b
    · subst e; simp; rfl
    · have : (x == some b) = false := by simpa using e
      simp [this, e]
theorem arK_val (v : Value) (h h' : AH) : arK E h (some (.val v h')) = some (v, h') := rfl
theorem arK_skip (h h' : AH) : arK E h (some (.skip h')) = some (undef, h') := rfl
theorem arK_enter (f : FuncId) (args : Array Value) (h : AH) : arK E h (some (.enter f args)) = E.call f args h := rfl
theorem arK_round (l : Nat) (args : Array Value) (h : AH) : arK E h (some (.round l args)) = roundA E l args h := rfl

theorem yieldedA_lit (os : List Oper) (l : List Value) (j : Nat) : yieldedA ⟨os⟩ ⟨l⟩ j = (match (os[j]?).bind (·.dst) with
  | none => some none
  | some d => match l[d]? with
    | none => some none
    | some (.bool b) => some (some b)
    | some (.tuple cs) => if cs.size = 1 then none else some none
    | some _ => some none) := by
  unfold yieldedA
  simp only [List.getElem?_toArray]
  rfl

theorem aeval_tmp (l : List Value) (t : Nat) : aeval ⟨l⟩ (.tmp t) = l.getD t undef := by simp [aeval, Array.getD_eq_getD_getElem?, List.getD]
theorem aeval_int (A : Array Value) (k : IntKind) (n : Int) : aeval A (.const (.int k n)) = .int k n := rfl
theorem aeval_bool (A : Array Value) (b : Bool) : aeval A (.const (.bool b)) = .bool b := rfl
theorem aeval_string (A : Array Value) (s : ByteArray) : aeval A (.const (.string s)) = .string s := rfl
theorem aeval_nilSlice (A : Array Value) (n c : Nat) : aeval A (.const (.slice none n c)) = .slice none n c := rfl
theorem aeval_nilPointer (A : Array Value) : aeval A (.const (.pointer none)) = .pointer none := rfl
theorem aeval_nilFunc (A : Array Value) : aeval A (.const .nilFunc) = .nilFunc := rfl
theorem aeval_nilMap (A : Array Value) : aeval A (.const (.map none)) = .map none := rfl
theorem aeval_func (A : Array Value) (f : FuncId) : aeval A (.func f) = .func (.func f) #[] #[] := rfl

section
variable (e : Operand → Value) (h : AH) (d : Option Tmp) (t : TypeId) (pos : String) (after : Array Edge) (g : Option (Nat × Bool))
theorem opA_move (x : Operand) : opA P e h ⟨d, .move x, t, pos, after, g⟩ = some (.val (e x) h) := rfl
theorem opA_assign (x : Operand) : opA P e h ⟨d, .assign x, t, pos, after, g⟩ = some (.val (e x) h) := rfl
def pickK (c a b : Value) (h : AH) : Option AR :=
  match c with
  | .bool t => some (.val (if t then a else b) h)
  | _ => none
theorem opA_pick (c a b : Operand) : opA P e h ⟨d, .pick c a b, t, pos, after, g⟩ = pickK (e c) (e a) (e b) h := rfl
theorem pickK_bool (t : Bool) (a b : Value) : pickK (.bool t) a b h = some (.val (if t then a else b) h) := rfl
theorem opA_binOp (op : BinOp) (xt yt : TypeId) (x y : Operand) : opA P e h ⟨d, .binOp op xt x y yt, t, pos, after, g⟩ = (binA P op xt x y (e x) (e y)).map fun v => .val v h := rfl
theorem opA_call (c : Call) : opA P e h ⟨d, .call c, t, pos, after, g⟩ = callA P e c t h := rfl
end

section
variable (t : TypeId) (ox oy : Operand) (k : IntKind) (a b : Int)
theorem plainOf_int {s : Sem Value} {k : IntKind} {n : Int} (h : s = pure (.int k n)) : plainOf P s = some (.int k n) := by subst h; rfl
theorem plainOf_bool {s : Sem Value} {b : Bool} (h : s = pure (.bool b)) : plainOf P s = some (.bool b) := by subst h; rfl
theorem binA_add : binA P .add t ox oy (.int k a) (.int k b) = some (.int k (k.wrap (a + b))) := plainOf_int (by simp only [eqGuard_add, binOp_add]; rfl)
theorem binA_sub : binA P .sub t ox oy (.int k a) (.int k b) = some (.int k (k.wrap (a - b))) := plainOf_int (by simp only [eqGuard_sub, binOp_sub]; rfl)
theorem binA_mul : binA P .mul t ox oy (.int k a) (.int k b) = some (.int k (k.wrap (a * b))) := plainOf_int (by simp only [eqGuard_mul, binOp_mul]; rfl)
theorem binA_lss : binA P .lss t ox oy (.int k a) (.int k b) = some (.bool (decide (a < b))) := plainOf_bool (by simp only [eqGuard_lss, binOp_lss]; rfl)
theorem binA_leq : binA P .leq t ox oy (.int k a) (.int k b) = some (.bool (decide (a ≤ b))) := plainOf_bool (by simp only [eqGuard_leq, binOp_leq]; rfl)
theorem binA_gtr : binA P .gtr t ox oy (.int k a) (.int k b) = some (.bool (decide (b < a))) := plainOf_bool (by simp only [eqGuard_gtr, binOp_gtr]; rfl)
theorem binA_geq : binA P .geq t ox oy (.int k a) (.int k b) = some (.bool (decide (b ≤ a))) := plainOf_bool (by simp only [eqGuard_geq, binOp_geq]; rfl)
theorem binA_eql : binA P .eql t ox oy (.int k a) (.int k b) = some (.bool (decide (a = b))) := plainOf_bool (by
  simp only [eqGuard_at_int, binOp_eql]
  have : (a == b) = decide (a = b) := by by_cases h : a = b <;> simp [h]
  rw [this]; rfl)
theorem binA_neq : binA P .neq t ox oy (.int k a) (.int k b) = some (.bool (decide (a ≠ b))) := plainOf_bool (by
  simp only [eqGuard_at_int, binOp_neq]
  have : (a != b) = decide (a ≠ b) := by by_cases h : a = b <;> simp [h]
  rw [this]; rfl)
theorem binA_quo (hb : b ≠ 0) : binA P .quo t ox oy (.int k a) (.int k b) = some (.int k (k.wrap (a.tdiv b))) := plainOf_int (by
  simp only [eqGuard_quo, binOp_quo, Op.intDiv, hb, if_false]; rfl)
theorem binA_rem (hb : b ≠ 0) : binA P .rem t ox oy (.int k a) (.int k b) = some (.int k (a.tmod b)) := plainOf_int (by
  simp only [eqGuard_rem, binOp_rem, Op.intDiv, hb, if_false]; rfl)
end

theorem callA_func (l : List Value) (f : FuncId) (args : List Operand) (ts : Array TypeId) (t : TypeId) (h : AH) (hb : ((P.funcs[f]?).bind (·.body)).isSome = true) :
    callA P (aeval ⟨l⟩) ⟨.value (.func f), ⟨args⟩, ts⟩ t h = some (.enter f ⟨args.map (aeval ⟨l⟩)⟩) := by
  simp only [callA, aeval_func, hb, if_true]
  congr 2
  apply Array.ext'; simp

theorem callA_builtin (l : List Value) (b : Builtin) (args : List Operand) (ts : Array TypeId) (t : TypeId) (h : AH) :
    callA P (aeval ⟨l⟩) ⟨.builtin b, ⟨args⟩, ts⟩ t h = builtinA P b ts t ⟨args.map (aeval ⟨l⟩)⟩ h := by
  simp only [callA]
  congr 1
  apply Array.ext'; simp

theorem max_int (ts : Array TypeId) (t : TypeId) (k : IntKind) (a b : Int) (h : AH) : builtinA P .max ts t ⟨[.int k a, .int k b]⟩ h = some (.val (.int k (if a < b then b else a)) h) := by
  have : plainOf P (Builtin.max_ ts t ⟨[.int k a, .int k b]⟩) = some (.int k (if a < b then b else a)) := plainOf_int (by
    simp only [Builtin.max_, List.foldlM]; rfl)
  simp only [builtinA]
  rw [this]
  simp [plain, plain1]
theorem min_int (ts : Array TypeId) (t : TypeId) (k : IntKind) (a b : Int) (h : AH) : builtinA P .min ts t ⟨[.int k a, .int k b]⟩ h = some (.val (.int k (if b < a then b else a)) h) := by
  have : plainOf P (Builtin.min_ ts t ⟨[.int k a, .int k b]⟩) = some (.int k (if b < a then b else a)) := plainOf_int (by
    simp only [Builtin.min_, List.foldlM]; rfl)
  simp only [builtinA]
  rw [this]
  simp [plain, plain1]

/-! ### Functions -/
def endK (P : Program) (rs : List ResultVar) (r : Option (Ex × St)) : Option (Value × AH) :=
  match r with
  | some (.exit _, _) => none
  | some (_, s) =>
    match shut s.defers s.h with
    | none => none
    | some h' => match resultsA P s.tmps h' rs with
      | some vs => some (resVal vs, h')
      | none => none
  | none => none

theorem callFn_eq {f : FuncId} {fn : Func} {c : Code} (hf : P.funcs[f]? = some fn) (hb : fn.body = some c) (args : List Value) (h : AH) :
    callFn P E f ⟨args⟩ h = endK P fn.results.toList (evalC P E none c ⟨⟨pad fn.ntmps args⟩, [], h⟩) := by
  have e : (⟨args⟩ : Array Value) ++ Array.replicate (fn.ntmps - (⟨args⟩ : Array Value).size) undef = ⟨pad fn.ntmps args⟩ := by
    apply Array.ext'
    simp only [Array.toList_append, Array.toList_replicate, List.size_toArray]
    exact pad_eq _ _
  unfold callFn endK
  simp only [hf, hb, e]
  cases evalC P E none c ⟨⟨pad fn.ntmps args⟩, [], h⟩ with
  | none => rfl
  | some r =>
    obtain ⟨ex, s⟩ := r
    have key : (match shut s.defers s.h with
        | none => none
        | some h' => match resultsA P s.tmps h' fn.results.toList with
          | some [v] => some (v, h')
          | some vs => some (.tuple vs.toArray, h')
          | none => none : Option (Value × AH)) = (match shut s.defers s.h with
        | none => none
        | some h' => match resultsA P s.tmps h' fn.results.toList with
          | some vs => some (resVal vs, h')
          | none => none) := by
      cases shut s.defers s.h with
      | none => rfl
      | some h' =>
        simp only
        cases resultsA P s.tmps h' fn.results.toList with
        | none => rfl
        | some vs => cases vs with
          | nil => rfl
          | cons v r => cases r <;> rfl
    cases ex with
    | exit id => rfl
    | normal => exact key
    | ret => exact key

theorem endK_ret (rs : List ResultVar) (s : St) : endK P rs (some (.ret, s)) = endK P rs (some (.normal, s)) := rfl
theorem endK_normal (rs : List ResultVar) (A : Array Value) (h : AH) : endK P rs (some (.normal, ⟨A, [], h⟩)) = (resultsA P A h rs).map fun vs => (resVal vs, h) := by
  simp only [endK, shut]
  cases resultsA P A h rs <;> rfl
theorem resultsA_nil (A : Array Value) (h : AH) : resultsA P A h [] = some [] := rfl
theorem resultsA_tmp (l : List Value) (h : AH) (t : Nat) (rs : List ResultVar) : resultsA P ⟨l⟩ h (.tmp t :: rs) = (resultsA P ⟨l⟩ h rs).map (l.getD t undef :: ·) := by
  simp [resultsA, resultA, Array.getD_eq_getD_getElem?, List.getD]

end
end Go.AE
