/-
  AE, part 21: more steps for simp; what is said of a function, out of its evaluation; laws.
-/
import Derived.Test.YtimngnabpolgkaaGreatInG3
namespace Go.AE
noncomputable section
set_option linter.unusedSimpArgs false
set_option linter.unusedVariables false
open Go.RowKit
variable {P : Program} {E : Env} {ops : Array Oper} {ov : Over}

/-! ### The evaluator's own turns -/
theorem env_call_ov {f : FuncId} {g : Array Value → AH → Option (Value × AH)} (h : ov f = some g) (n : Nat) (args : Array Value) (hh : AH) : (env P ov (n + 1)).call f args hh = g args hh := by
  simp only [env, h]
theorem env_call {f : FuncId} (h : ov f = none) (n : Nat) (args : Array Value) (hh : AH) : (env P ov (n + 1)).call f args hh = callFn P (env P ov n) f args hh := by
  simp only [env, h]
theorem env_code (n : Nat) (rd : Option Nat) (c : Code) (s : St) : (env P ov (n + 1)).code rd c s = evalC P (env P ov n) rd c s := rfl

/-! ### Regions in open order -/
def traceK (s : St) (r : Option St) (k : St → Option (List St)) : Option (List St) :=
  match r with
  | some s' => (k s').map (s :: ·)
  | none => none
theorem trace_nil (s : St) : trace P E ops [] s = some [s] := rfl
theorem trace_cons (o : Oper) (r : List Oper) (s : St) : trace P E ops (o :: r) s = traceK s (stepOp P E ops o s) (trace P E ops r) := by
  simp only [trace, traceK]; cases stepOp P E ops o s <;> rfl
theorem traceK_some (s s' : St) (k : St → Option (List St)) : traceK s (some s') k = (k s').map (s :: ·) := rfl

def drawK (P : Program) (ops : Array Oper) (ps : List (Nat × Nat)) (r : Option (List St)) : Option St :=
  match r with
  | some sts => if ps.all (sameRead P ops sts) then sts.getLast? else none
  | none => none
theorem evalRegion_draw (ps : List (Nat × Nat)) (s : St) (h1 : drawStatic ops = true) (h2 : drawPairs ops = ps) : evalRegion P E ops true s = drawK P ops ps (trace P E ops ops.toList s) := by
  have hd : drawOps ops = some ops := by simp only [drawOps, h1, if_true]
  unfold evalRegion drawK
  simp only [hd, h2, if_true]
  cases trace P E ops ops.toList s <;> rfl
theorem drawK_some (ps : List (Nat × Nat)) (sts : List St) (h : ps.all (sameRead P ops sts) = true) : drawK P ops ps (some sts) = sts.getLast? := by
  simp only [drawK, h, if_true]

theorem sameRead_lit (os : List Oper) (sts : List St) (i j : Nat) {o : Oper} {si sj sk : St} {v v' : Value} {h h' : AH} (h1 : os[i]? = some o) (h2 : sts[i]? = some si) (h3 : sts[j]? = some sj) (h4 : sts[j + 1]? = some sk)
    (h5 : o.guard = none) (h6 : opA P (aeval si.tmps) sj.h o = some (.val v h)) (h7 : opA P (aeval si.tmps) sk.h o = some (.val v' h')) (h8 : veq v v' = true) : sameRead P ⟨os⟩ sts (i, j) = true := by
  simp only [sameRead, List.getElem?_toArray, h1, h2, h3, h4, wantedA, h5, h6, h7, h8]

/-! ### Memory, at literal slots -/
section
variable (e : Operand → Value) (h : AH) (d : Option Tmp) (t : TypeId) (pos : String) (after : Array Edge) (g : Option (Nat × Bool))
theorem opA_alloc (u : TypeId) : opA P e h ⟨d, .alloc u, t, pos, after, g⟩ = (allocA P u h).map fun r => .val r.1 r.2 := rfl
theorem opA_box (u : TypeId) (x : Operand) : opA P e h ⟨d, .box u x, t, pos, after, g⟩ = (boxA u (e x) h).map fun r => .val r.1 r.2 := rfl
theorem boxA_int (u : TypeId) (k : IntKind) (n : Int) : boxA u (.int k n) h = some (.pointer (some ⟨h.next, 0, none⟩), h.push (rowObj [.int k n] u 0 false)) := rfl
def loadK (P : Program) (u : TypeId) (v : Value) (h : AH) : Option AR :=
  match v with
  | .pointer (some x) => (loadA P u x h).map fun v => .val v h
  | _ => none
theorem opA_load (u : TypeId) (x : Operand) : opA P e h ⟨d, .load u x, t, pos, after, g⟩ = loadK P u (e x) h := rfl
theorem loadK_pointer (u : TypeId) (x : Addr) : loadK P u (.pointer (some x)) h = (loadA P u x h).map fun v => .val v h := rfl
def storeK (P : Program) (u : TypeId) (v x : Value) (h : AH) : Option AR :=
  match v with
  | .pointer (some p) => (storeA P u p x h).map .skip
  | _ => none
theorem opA_store (u : TypeId) (a x : Operand) : opA P e h ⟨d, .store u a x, t, pos, after, g⟩ = storeK P u (e a) (e x) h := rfl
theorem storeK_pointer (u : TypeId) (p : Addr) (x : Value) : storeK P u (.pointer (some p)) x h = (storeA P u p x h).map .skip := rfl
theorem opA_extract (x : Operand) (i : Nat) : opA P e h ⟨d, .extract x i, t, pos, after, g⟩ = (extractA (e x) i).map fun v => .val v h := rfl
theorem opA_buildSlice (u : TypeId) (n : Nat) (ps : List (Nat × Operand)) : opA P e h ⟨d, .buildSlice u n ⟨ps⟩, t, pos, after, g⟩ = (buildSliceA P u n ⟨ps.map fun p => (p.1, e p.2)⟩ h).map fun r => .val r.1 r.2 := by
  simp only [opA, partsA]
  congr 2
  apply Array.ext'; simp
theorem opA_indexAddr (u : TypeId) (x i : Operand) : opA P e h ⟨d, .indexAddr u x i, t, pos, after, g⟩ = (indexAddrA P u (e x) (e i)).map fun v => .val v h := rfl
theorem opA_fieldAddr (u : TypeId) (x : Operand) (f : Nat) : opA P e h ⟨d, .fieldAddr u x f, t, pos, after, g⟩ = (fieldAddrA P u (e x) f).map fun v => .val v h := rfl
end

theorem extractA_lit (l : List Value) (i : Nat) (h : l.length ≠ 1) : extractA (.tuple ⟨l⟩) i = l[i]? := by
  simp [extractA, h]

/-- One plain cell. -/
def cell1 (v : Value) (t : TypeId) : AObj := rowObj [v] t 0 false

theorem loadA_row {t : TypeId} {x : Addr} {h : AH} {l : List Value} {e : TypeId} {z : Nat} {op : Bool} {v : Value} (hg : h.get x.block = some (rowObj l e z op)) (hs : x.spot = none) (ha : isAggT P t = some false)
    (hv : l[x.off]? = some v) : loadA P t x h = some v := by
  unfold loadA
  rw [hg]
  have hlt := (List.getElem?_eq_some_iff.1 hv).1
  simp only [rowObj, hs, Option.isSome_none, Bool.false_eq_true, if_false, ha, hlt, if_true, get_ofRow]
  simp [List.getD, hv]

/-! ### What is said of a function -/
theorem OverOk.none (P : Program) : OverOk P (fun _ => none) := fun _ _ h => by cases h

/-- Functions and what is said of them. -/
def table (l : List (FuncId × (Array Value → AH → Option (Value × AH)))) : Over := fun f => (l.find? fun p => p.1 == f).map (·.2)

theorem OverOk.table {l : List (FuncId × (Array Value → AH → Option (Value × AH)))} (h : ∀ p ∈ l, SumOk P p.1 p.2) : OverOk P (AE.table l) := by
  intro f g hg args hh v h₁ hs
  unfold AE.table at hg
  obtain ⟨p, hp, rfl⟩ := Option.map_eq_some_iff.1 hg
  have hm := List.mem_of_find?_eq_some hp
  have hf := List.find?_some hp
  simp only [beq_iff_eq] at hf
  subst hf
  exact h p hm args hh v h₁ hs

theorem SumOk.exact (hq : Quiet P) (hmix : P.follows .mixedOrders = true) (hov : OverOk P ov) {f : FuncId} {g : Array Value → AH → Option (Value × AH)}
    (hg : ∀ args h v h₁, g args h = some (v, h₁) → ∃ n, callFn P (env P ov n) f args h = some (v, h₁)) : SumOk P f g := by
  intro args h v h₁ hgs ρ w args' k hR ha
  obtain ⟨n, hc⟩ := hg args h v h₁ hgs
  exact callFn_sound (env_sound hq hmix hov n) hq hmix hc k hR ha

theorem VV.plainT {N : Nat} {π : Nat → Nat} {cs : Array Value} (h : cs.all AE.plain1 = true) (h1 : cs.size ≠ 1) : VV N π (.tuple cs) (.tuple cs) := by
  rw [Array.all_eq_true] at h
  refine .tuple cs cs h1 rfl fun j hj => ?_
  have e : cs.getD j (.tuple #[]) = cs[j] := by simp [Array.getD, hj]
  rw [e]; exact VV.plain1 (h j hj)

/-- A result that is plain, and litter. -/
theorem SumOk.litter (hq : Quiet P) (hmix : P.follows .mixedOrders = true) (hov : OverOk P ov) {f : FuncId} {g : Array Value → AH → Option (Value × AH)}
    (hg : ∀ args h v h₁, g args h = some (v, h₁) → h₁ = h ∧ (plain1 v = true ∨ ∃ cs, v = .tuple cs ∧ cs.all plain1 = true ∧ cs.size ≠ 1) ∧ ∃ n h₂, callFn P (env P ov n) f args h = some (v, h₂) ∧
      ∀ β, β < h.next → h₂.get β = h.get β) : SumOk P f g := by
  refine SumOk.of_eval hq hmix hov fun args h v h₁ hgs => ?_
  obtain ⟨rfl, hp, n, h₂, hc, hk⟩ := hg args h v h₁ hgs
  refine ⟨n, v, h₂, hc, fun ρ w hR => ⟨fun β => β, ?_, ?_⟩⟩
  · refine ⟨Nat.le_refl _, fun _ _ => rfl, fun β o ho => ?_, fun _ _ _ _ _ _ e => e⟩
    obtain ⟨i, b, hi, _, hO⟩ := hR.obj β o ho
    have hlt := (hR.lt β i hi).2
    exact ⟨hlt, o, by rw [hk β hlt]; exact ho, OO.self hO fun γ j hj => ⟨(hR.lt γ j hj).2, rfl⟩⟩
  · rcases hp with hp | ⟨cs, rfl, h1, h2⟩
    · exact VV.plain1 hp
    · exact VV.plainT h1 h2

/-- The name of one new object. -/
def new1 (N b : Nat) : Nat → Nat := fun β => if β = N then b else β

/-- One new object, and litter. -/
theorem SumOk.fresh (hq : Quiet P) (hmix : P.follows .mixedOrders = true) (hov : OverOk P ov) {f : FuncId} {g : Array Value → AH → Option (Value × AH)}
    (hg : ∀ args h v h₁, g args h = some (v, h₁) → ∃ n v₂ h₂ o o' b, h₁ = h.push o ∧ callFn P (env P ov n) f args h = some (v₂, h₂) ∧ (∀ β, β < h.next → h₂.get β = h.get β) ∧ h.next ≤ b ∧ h₂.get b = some o' ∧
      OO (h.next + 1) (new1 h.next b) o o' ∧ VV (h.next + 1) (new1 h.next b) v v₂) : SumOk P f g := by
  refine SumOk.of_eval hq hmix hov fun args h v h₁ hgs => ?_
  obtain ⟨n, v₂, h₂, o, o', b, rfl, hc, hk, hb, ho, hoo, hvv⟩ := hg args h v h₁ hgs
  refine ⟨n, v₂, h₂, hc, fun ρ w hR => ⟨new1 h.next b, ?_, hvv⟩⟩
  refine ⟨Nat.le_succ _, fun β hβ => by simp [new1, Nat.ne_of_lt hβ], fun β p hp => ?_, fun β γ p q hp hq' e => ?_⟩
  · rw [AH.get_push] at hp
    split at hp
    · rename_i e; subst e; cases hp
      exact ⟨Nat.lt_succ_self _, o', by simp [new1, ho], hoo⟩
    · rename_i e
      obtain ⟨i, bb, hi, _, hO⟩ := hR.obj β p hp
      have hlt := (hR.lt β i hi).2
      refine ⟨Nat.lt_succ_of_lt hlt, p, by simp only [new1, e, if_false]; rw [hk β hlt]; exact hp, OO.self hO fun γ j hj => ?_⟩
      have hl := (hR.lt γ j hj).2
      exact ⟨Nat.lt_succ_of_lt hl, by simp [new1, Nat.ne_of_lt hl]⟩
  · have old : ∀ β p, (h.push o).get β = some p → β ≠ h.next → β < h.next := by
      intro β p hp hne
      rw [AH.get_push, if_neg hne] at hp
      obtain ⟨i, bb, hi, _, hO⟩ := hR.obj β p hp
      exact (hR.lt β i hi).2
    by_cases e1 : β = h.next
    · by_cases e2 : γ = h.next
      · rw [e1, e2]
      · have := old γ q hq' e2
        simp only [new1, e1, e2, if_true, if_false] at e
        omega
    · by_cases e2 : γ = h.next
      · have := old β p hp e1
        simp only [new1, e1, e2, if_true, if_false] at e
        omega
      · simpa [new1, e1, e2] using e

/-! ### Laws -/
theorem Rel.empty (w : Array Obj) : Rel (fun _ => none) ⟨.leaf, 0⟩ w :=
  ⟨fun β i h => (by cases h), fun β o h => (by simp [AH.get] at h), fun β γ o p i j h => (by simp [AH.get] at h)⟩

theorem Step.below {ρ ρ' : Ren} {w w' : World} (h : Step ρ w ρ' w') (hro : ∀ β i, ρ β = some i → i.ro = true) : Below w.heap.size w w' :=
  ⟨h.os, h.tape, h.output, h.size, fun k hk => h.frame k hk fun β i hi _ => hro β i hi⟩

/-- A law of plain arguments. -/
theorem law_plain {f : FuncId} {g : Array Value → AH → Option (Value × AH)} (hs : SumOk P f g) {args : Array Value} {h₁ : AH} (hg : g args ⟨.leaf, 0⟩ = some (.bool true, h₁)) (hp : args.all plain1 = true) (w : World) :
    Calls P f args w fun e w' => e = .returned (.bool true) ∧ Below w.heap.size w w' := by
  have h1 := hs args _ _ _ hg (fun _ => none) w args 0 (Rel.empty _) (VS.refl1 hp)
  refine (callsIn_wide.1 h1).mono ?_
  rintro e w' ⟨ρ', v', rfl, hst, _, hv⟩
  cases hv
  exact ⟨rfl, hst.below fun β i hi => (by cases hi)⟩


/-! ### Callees that are values; loops over functions -/
def calleeK (P : Program) (v : Value) (args : List Value) (h : AH) : Option AR :=
  match v with
  | .func (.func g) first captured => if ((P.funcs[g]?).bind (·.body)).isSome then some (.enter g (first ++ ⟨args⟩ ++ captured))
    else (externA P g (first ++ ⟨args⟩ ++ captured) h).map fun r => .val r.1 r.2
  | .func (.yield l) first _ => some (.round l (first ++ ⟨args⟩))
  | _ => none

theorem callA_value (l : List Value) (x : Operand) (args : List Operand) (ts : Array TypeId) (t : TypeId) (h : AH) :
    callA P (aeval ⟨l⟩) ⟨.value x, ⟨args⟩, ts⟩ t h = calleeK P (aeval ⟨l⟩ x) (args.map (aeval ⟨l⟩)) h := by
  have e : (⟨args⟩ : Array Operand).map (aeval ⟨l⟩) = ⟨args.map (aeval ⟨l⟩)⟩ := by apply Array.ext'; simp
  simp only [callA, calleeK, e]
  rfl

theorem calleeK_func {g : FuncId} {h : AH} (args : List Value) (hb : ((P.funcs[g]?).bind (·.body)).isSome = true) : calleeK P (.func (.func g) #[] #[]) args h = some (.enter g ⟨args⟩) := by
  simp [calleeK, hb]
theorem calleeK_yield {h : AH} (l : Nat) (args : List Value) : calleeK P (.func (.yield l) #[] #[]) args h = some (.round l ⟨args⟩) := by
  simp [calleeK]

/-- Behind the call of the function that is ranged over. -/
def rangeK (s : St) (l : Nat) (mark : List Nat) (r : Option (Value × AH)) : Option (Ex × St) :=
  match r with
  | some (_, h₂) =>
    match h₂.get l with
    | some (.loop .busy _ _ _ _ _ _) => none
    | some (.loop _ pend tmps' params' assign' body' d') => some (pend, { tmps := s.tmps, defers := mark ++ s.defers, h := h₂.set l (.loop .exhausted pend tmps' params' assign' body' d') })
    | _ => none
  | none => none

/-- The heap in which the function is called. -/
def rangeH (s : St) (ps : Array Tmp) (assign body : Code) : AH := (s.h.push .defs).push (.loop .ready .normal s.tmps ps assign body s.h.next)

theorem evalC_range {g : Operand} {ps : Array Tmp} {assign body : Code} {s : St} {f : FuncId} (hg : aeval s.tmps g = .func (.func f) #[] #[]) (hb : ((P.funcs[f]?).bind (·.body)).isSome = true) :
    evalC P E none (.rangeFunc g ps assign body) s = rangeK s (s.h.next + 1) [s.h.next] (E.call f ⟨[.func (.yield (s.h.next + 1)) #[] #[]]⟩ (rangeH s ps assign body)) := by
  simp only [evalC, hg, hb, if_true, rangeK, rangeH, AH.next_push]
  have : (#[] ++ #[Value.func (.yield (s.h.next + 1)) #[] #[]] ++ #[] : Array Value) = ⟨[.func (.yield (s.h.next + 1)) #[] #[]]⟩ := by simp
  rw [this]
  rfl

theorem rangeK_some {s : St} {l : Nat} {mark : List Nat} {v : Value} {h₂ : AH} {st : LoopState} {pend : Ex} {tmps : Array Value} {ps : Array Tmp} {assign body : Code} {d : Nat}
    (hg : h₂.get l = some (.loop st pend tmps ps assign body d)) (hs : st ≠ .busy) :
    rangeK s l mark (some (v, h₂)) = some (pend, { tmps := s.tmps, defers := mark ++ s.defers, h := h₂.set l (.loop .exhausted pend tmps ps assign body d) }) := by
  cases st <;> first | exact absurd rfl hs | (simp only [rangeK, hg])

/-- Behind a round's body. -/
def roundK (l : Nat) (r : Option (Ex × St)) : Option (Value × AH) :=
  match r with
  | some (ex, s₂) =>
    match s₂.h.get l with
    | some (.loop _ _ tmps₂ params₂ assign₂ body₂ defers₂) =>
      match ex with
      | .normal => some (.bool true, s₂.h.set l (.loop .ready .normal tmps₂ params₂ assign₂ body₂ defers₂))
      | ex => some (.bool false, s₂.h.set l (.loop .done ex tmps₂ params₂ assign₂ body₂ defers₂))
    | _ => none
  | none => none

theorem roundA_eq {l : Nat} {args : List Value} {h : AH} {st : LoopState} {pend : Ex} {tmps : Array Value} {ps : Array Tmp} {assign body : Code} {d : Nat} (hg : h.get l = some (.loop st pend tmps ps assign body d)) (hl : args.length = ps.size)
    {s₁ : St} (h1 : E.code (some l) assign ⟨(ps.zip ⟨args⟩).foldl (fun tmps (t, a) => tmps.setIfInBounds t a) tmps, [], h⟩ = some (.normal, s₁))
    {pend₁ : Ex} {tmps₁ : Array Value} {ps₁ : Array Tmp} {assign₁ body₁ : Code} {d₁ : Nat} (hg1 : s₁.h.get l = some (.loop .ready pend₁ tmps₁ ps₁ assign₁ body₁ d₁)) :
    roundA E l ⟨args⟩ h = roundK l (E.code (some l) body { s₁ with h := s₁.h.set l (.loop .busy pend₁ tmps₁ ps₁ assign₁ body₁ d₁) }) := by
  have hl' : ¬ (⟨args⟩ : Array Value).size ≠ ps.size := by simpa using hl
  simp only [roundA, hg, hl', if_false, h1, hg1, roundK]
  cases E.code (some l) body { s₁ with h := s₁.h.set l (.loop .busy pend₁ tmps₁ ps₁ assign₁ body₁ d₁) } <;> rfl

theorem roundK_normal {l : Nat} {s : St} {st : LoopState} {pend : Ex} {tmps : Array Value} {ps : Array Tmp} {assign body : Code} {d : Nat} (hg : s.h.get l = some (.loop st pend tmps ps assign body d)) :
    roundK l (some (.normal, s)) = some (.bool true, s.h.set l (.loop .ready .normal tmps ps assign body d)) := by simp only [roundK, hg]
theorem roundK_ret {l : Nat} {s : St} {st : LoopState} {pend : Ex} {tmps : Array Value} {ps : Array Tmp} {assign body : Code} {d : Nat} (hg : s.h.get l = some (.loop st pend tmps ps assign body d)) :
    roundK l (some (.ret, s)) = some (.bool false, s.h.set l (.loop .done .ret tmps ps assign body d)) := by simp only [roundK, hg]
theorem roundK_exit {l id : Nat} {s : St} {st : LoopState} {pend : Ex} {tmps : Array Value} {ps : Array Tmp} {assign body : Code} {d : Nat} (hg : s.h.get l = some (.loop st pend tmps ps assign body d)) :
    roundK l (some (.exit id, s)) = some (.bool false, s.h.set l (.loop .done (.exit id) tmps ps assign body d)) := by simp only [roundK, hg]

end
end Go.AE
