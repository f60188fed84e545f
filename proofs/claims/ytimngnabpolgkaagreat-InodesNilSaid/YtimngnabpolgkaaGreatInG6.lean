/-
  AE, part 23: single cells, for simp.
-/
import Derived.Test.YtimngnabpolgkaaGreatInG5
namespace Go.AE
noncomputable section
set_option linter.unusedSimpArgs false
set_option linter.unusedVariables false
variable {P : Program}

/-- What is read out of a block of one cell. -/
def cellK (P : Program) (t : TypeId) (o : Option AObj) : Option Value :=
  match o with
  | some (.cells c n _ _ _ _ _ d) =>
    match isAggT P t with
    | some true => match P.info? t with
      | some i => if 0 + i.size ≤ n then some (.agg (rowB c d 0 i.size).toArray) else none
      | none => none
    | some false => if 0 < n then some ((c.get 0).getD d) else none
    | none => none
  | _ => none
theorem loadA_cell (t : TypeId) (b : Nat) (h : AH) : loadA P t ⟨b, 0, none⟩ h = cellK P t (h.get b) := by
  unfold loadA cellK
  cases h.get b with
  | none => rfl
  | some o => cases o <;> rfl
theorem cellK_cell {t : TypeId} (ha : isAggT P t = some false) (v : Value) (e : TypeId) : cellK P t (some (cell1 v e)) = some v := by
  unfold cellK cell1 rowObj
  simp only [ha]
  rfl

/-- What is written into a block of one cell. -/
def putK (h : AH) (b : Nat) (v : Value) (o : Option AObj) : Option AH :=
  match o with
  | some (.cells c n elem fz esz op false d) =>
    if v.oneCell' && decide (0 + 1 ≤ n) && (decide (0 + 1 ≤ fz.1) || decide (fz.2 ≤ 0)) then
      some (h.set b (.cells (putRow c 0 [v]) n elem fz esz op false d))
    else none
  | _ => none
theorem storeA_int {t : TypeId} (hs : (P.info? t).map (·.size) = some 1) (b : Nat) (k : IntKind) (n : Int) (h : AH) : storeA P t ⟨b, 0, none⟩ (.int k n) h = putK h b (.int k n) (h.get b) := by
  obtain ⟨i, hi, e⟩ := Option.map_eq_some_iff.1 hs
  have hc : (Value.int k n).cells = #[.int k n] := rfl
  simp only [storeA, hi, hc, e, putCells, putK]
  rw [if_pos (by rfl)]
  cases h.get b with
  | none => rfl
  | some o => cases o with
    | cells c n elem fz esz op ro d => cases ro <;> simp
    | _ => rfl
theorem putK_cell (h : AH) (b : Nat) (k : IntKind) (n : Int) (v : Value) (e : TypeId) : putK h b (.int k n) (some (cell1 v e)) = some (h.set b (cell1 (.int k n) e)) := by
  unfold putK cell1 rowObj
  rfl
theorem boxA_cell (u : TypeId) (k : IntKind) (n : Int) (h : AH) : boxA u (.int k n) h = some (.pointer (some ⟨h.next, 0, none⟩), h.push (cell1 (.int k n) u)) := rfl

theorem get_empty (b : Nat) : AH.get ⟨.leaf, 0⟩ b = none := by simp [AH.get]
theorem next_empty : AH.next ⟨.leaf, 0⟩ = 0 := rfl

/-- The first loop over a function in a piece of code: how a round's values are taken, a round's body. -/
def ranges : Code → Option (Code × Code)
  | .seq a b => match ranges a with
    | some r => some r
    | none => ranges b
  | .cond _ a b => match ranges a with
    | some r => some r
    | none => ranges b
  | .block _ a => ranges a
  | .loop a => ranges a
  | .scope a => ranges a
  | .rangeFunc _ _ a b => some (a, b)
  | _ => none

def resK (P : Program) (h : AH) (u : TypeId) (v : Value) (r : Option (List Value)) : Option (List Value) :=
  match v with
  | .pointer (some x) => (loadA P u x h).bind fun v => r.map (v :: ·)
  | _ => none
theorem resultsA_cell (l : List Value) (h : AH) (t : Tmp) (u : TypeId) (rs : List ResultVar) : resultsA P ⟨l⟩ h (.cell t u :: rs) = resK P h u (l.getD t undef) (resultsA P ⟨l⟩ h rs) := by
  have e : (⟨l⟩ : Array Value).getD t undef = l.getD t undef := by simp [Array.getD_eq_getD_getElem?, List.getD]
  simp only [resultsA, resultA, e, resK]
  cases l.getD t undef with
  | pointer a => cases a with
    | none => rfl
    | some a => simp only; cases loadA P u a h <;> rfl
  | _ => rfl
theorem resK_pointer (h : AH) (u : TypeId) (x : Addr) (r : Option (List Value)) : resK P h u (.pointer (some x)) r = (loadA P u x h).bind fun v => r.map (v :: ·) := rfl
variable {E : Env}
/-- A loop over a function, by the function. -/
def rangeG (P : Program) (E : Env) (g : Operand) (ps : Array Tmp) (assign body : Code) (s : St) (v : Value) : Option (Ex × St) :=
  match v with
  | .func (.func f) ⟨[]⟩ ⟨[]⟩ => if ((P.funcs[f]?).bind (·.body)).isSome then rangeK s (s.h.next + 1) [s.h.next] (E.call f ⟨[.func (.yield (s.h.next + 1)) #[] #[]]⟩ (rangeH s ps assign body)) else evalC P E none (.rangeFunc g ps assign body) s
  | _ => evalC P E none (.rangeFunc g ps assign body) s
theorem evalC_rangeG (g : Operand) (ps : Array Tmp) (assign body : Code) (s : St) : evalC P E none (.rangeFunc g ps assign body) s = rangeG P E g ps assign body s (aeval s.tmps g) := by
  unfold rangeG
  split
  · rename_i f he
    split
    · rename_i hb; exact evalC_range he hb
    · rfl
  · rfl
theorem rangeG_func {f : FuncId} (hb : ((P.funcs[f]?).bind (·.body)).isSome = true) (g : Operand) (ps : Array Tmp) (assign body : Code) (s : St) :
    rangeG P E g ps assign body s (.func (.func f) #[] #[]) = rangeK s (s.h.next + 1) [s.h.next] (E.call f ⟨[.func (.yield (s.h.next + 1)) #[] #[]]⟩ (rangeH s ps assign body)) := by
  unfold rangeG
  simp only [hb, if_true]

/-! ### Rounds -/
def setAll : List Value → List Nat → List Value → List Value
  | ts, p :: ps, a :: as => setAll (ts.set p a) ps as
  | ts, _, _ => ts
def endRK (l : Nat) (ex : Ex) (h : AH) (o : Option AObj) : Option (Value × AH) :=
  match o with
  | some (.loop _ _ t p a b d) => match ex with
    | .normal => some (.bool true, h.set l (.loop .ready .normal t p a b d))
    | ex => some (.bool false, h.set l (.loop .done ex t p a b d))
  | _ => none
def bodyK (E : Env) (l : Nat) (body : Code) (s : St) (o : Option AObj) : Option (Value × AH) :=
  match o with
  | some (.loop .ready pend t p a b d) => match E.code (some l) body { s with h := s.h.set l (.loop .busy pend t p a b d) } with
    | some (ex, s₂) => endRK l ex s₂.h (s₂.h.get l)
    | none => none
  | _ => none
def asgK (E : Env) (l : Nat) (body : Code) (r : Option (Ex × St)) : Option (Value × AH) :=
  match r with
  | some (.normal, s) => bodyK E l body s (s.h.get l)
  | _ => none
def ended (l : Nat) (r : Option (Ex × St)) : Option (Value × AH) :=
  match r with
  | some (ex, s₂) => endRK l ex s₂.h (s₂.h.get l)
  | none => none
def roundG (E : Env) (l : Nat) (as : List Value) (h : AH) (o : Option AObj) : Option (Value × AH) :=
  match o with
  | some (.loop _ _ ⟨ts⟩ ⟨ps⟩ a b _) => if as.length = ps.length then asgK E l b (E.code (some l) a ⟨⟨setAll ts ps as⟩, [], h⟩) else none
  | _ => none
theorem setAll_eq (ps : List Nat) : ∀ (ts as : List Value), (ps.zip as).foldl (fun (t : Array Value) (p : Nat × Value) => t.setIfInBounds p.1 p.2) ⟨ts⟩ = ⟨setAll ts ps as⟩ := by
  induction ps with
  | nil => intro ts as; simp [setAll]
  | cons p ps ih =>
    intro ts as
    cases as with
    | nil => simp [setAll]
    | cons a as =>
      simp only [List.zip_cons_cons, List.foldl_cons, setAll]
      have : (⟨ts⟩ : Array Value).setIfInBounds p a = ⟨ts.set p a⟩ := by apply Array.ext'; simp
      rw [this]; exact ih _ _
theorem roundA_G (E : Env) (l : Nat) (as : List Value) (h : AH) : roundA E l ⟨as⟩ h = roundG E l as h (h.get l) := by
  unfold roundA roundG
  cases h.get l with
  | none => rfl
  | some o =>
    cases o with
    | loop st pend ts ps a b d =>
      obtain ⟨ts⟩ := ts
      obtain ⟨ps⟩ := ps
      simp only [List.size_toArray]
      by_cases e : as.length = ps.length
      · simp only [e, ne_eq, not_true, if_false, if_true]
        have hz : ((⟨ps⟩ : Array Nat).zip ⟨as⟩).foldl (fun (t : Array Value) (p : Nat × Value) => t.setIfInBounds p.1 p.2) ⟨ts⟩ = ⟨setAll ts ps as⟩ := by
          rw [← setAll_eq]; simp
        have hz' : ((⟨ps⟩ : Array Nat).zip ⟨as⟩).foldl (fun (tmps : Array Value) (t, a) => tmps.setIfInBounds t a) ⟨ts⟩ = ⟨setAll ts ps as⟩ := hz
        rw [hz']
        generalize E.code (some l) a ⟨⟨setAll ts ps as⟩, [], h⟩ = r
        cases r with
        | none => rfl
        | some r =>
          obtain ⟨ex, s₁⟩ := r
          cases ex with
          | normal =>
            simp only [asgK]
            cases s₁.h.get l with
            | none => rfl
            | some o =>
              cases o with
              | loop st pend t p a b d =>
                cases st with
                | ready =>
                  simp only [bodyK]
                  generalize E.code (some l) _ _ = r
                  cases r with
                  | none => rfl
                  | some r =>
                    obtain ⟨ex, s₂⟩ := r
                    simp only [endRK]
                    cases s₂.h.get l with
                    | none => rfl
                    | some o => cases o with
                      | loop st pend t p a b d => cases ex <;> rfl
                      | _ => rfl
                | _ => rfl
              | _ => rfl
          | _ => rfl
      · simp only [e, ne_eq, not_false_eq_true, if_true, if_false]
    | _ => rfl
theorem roundG_loop (E : Env) (l : Nat) (as : List Value) (h : AH) (st : LoopState) (pend : Ex) (ts : List Value) (ps : List Nat) (a b : Code) (d : Nat) :
    roundG E l as h (some (.loop st pend ⟨ts⟩ ⟨ps⟩ a b d)) = if as.length = ps.length then asgK E l b (E.code (some l) a ⟨⟨setAll ts ps as⟩, [], h⟩) else none := rfl
theorem asgK_normal (E : Env) (l : Nat) (body : Code) (s : St) : asgK E l body (some (.normal, s)) = bodyK E l body s (s.h.get l) := rfl
theorem bodyK_loop (E : Env) (l : Nat) (body : Code) (s : St) (pend : Ex) (t : Array Value) (p : Array Tmp) (a b : Code) (d : Nat) :
    bodyK E l body s (some (.loop .ready pend t p a b d)) = ended l (E.code (some l) body ⟨s.tmps, s.defers, s.h.set l (.loop .busy pend t p a b d)⟩) := rfl
theorem ended_some (l : Nat) (ex : Ex) (s : St) : ended l (some (ex, s)) = endRK l ex s.h (s.h.get l) := rfl
theorem endRK_normal (l : Nat) (h : AH) (st : LoopState) (pend : Ex) (t : Array Value) (p : Array Tmp) (a b : Code) (d : Nat) :
    endRK l .normal h (some (.loop st pend t p a b d)) = some (.bool true, h.set l (.loop .ready .normal t p a b d)) := rfl
theorem endRK_ret (l : Nat) (h : AH) (st : LoopState) (pend : Ex) (t : Array Value) (p : Array Tmp) (a b : Code) (d : Nat) :
    endRK l .ret h (some (.loop st pend t p a b d)) = some (.bool false, h.set l (.loop .done .ret t p a b d)) := rfl
theorem endRK_exit (l id : Nat) (h : AH) (st : LoopState) (pend : Ex) (t : Array Value) (p : Array Tmp) (a b : Code) (d : Nat) :
    endRK l (.exit id) h (some (.loop st pend t p a b d)) = some (.bool false, h.set l (.loop .done (.exit id) t p a b d)) := rfl
def rangeE (s : St) (l : Nat) (mark : List Nat) (h : AH) (o : Option AObj) : Option (Ex × St) :=
  match o with
  | some (.loop .busy _ _ _ _ _ _) => none
  | some (.loop _ pend t p a b d) => some (pend, { tmps := s.tmps, defers := mark ++ s.defers, h := h.set l (.loop .exhausted pend t p a b d) })
  | _ => none
theorem rangeK_E (s : St) (l : Nat) (mark : List Nat) (v : Value) (h : AH) : rangeK s l mark (some (v, h)) = rangeE s l mark h (h.get l) := by
  unfold rangeK rangeE
  rfl
theorem rangeE_ready (s : St) (l : Nat) (mark : List Nat) (h : AH) (pend : Ex) (t : Array Value) (p : Array Tmp) (a b : Code) (d : Nat) :
    rangeE s l mark h (some (.loop .ready pend t p a b d)) = some (pend, ⟨s.tmps, mark ++ s.defers, h.set l (.loop .exhausted pend t p a b d)⟩) := rfl
theorem rangeE_done (s : St) (l : Nat) (mark : List Nat) (h : AH) (pend : Ex) (t : Array Value) (p : Array Tmp) (a b : Code) (d : Nat) :
    rangeE s l mark h (some (.loop .done pend t p a b d)) = some (pend, ⟨s.tmps, mark ++ s.defers, h.set l (.loop .exhausted pend t p a b d)⟩) := rfl

def shutK (d : Nat) (ds : List Nat) (h : AH) (o : Option AObj) : Option AH :=
  match o with
  | some .defs => shut ds (h.kill d)
  | _ => none
theorem shut_nil (h : AH) : shut [] h = some h := rfl
theorem shut_cons (d : Nat) (ds : List Nat) (h : AH) : shut (d :: ds) h = shutK d ds h (h.get d) := rfl
theorem shutK_defs (d : Nat) (ds : List Nat) (h : AH) : shutK d ds h (some .defs) = shut ds (h.kill d) := rfl
def outK (P : Program) (rs : List ResultVar) (A : Array Value) (o : Option AH) : Option (Value × AH) :=
  match o with
  | none => none
  | some h => (resultsA P A h rs).map fun vs => (resVal vs, h)
theorem endK_shut (rs : List ResultVar) (s : St) : endK P rs (some (.normal, s)) = outK P rs s.tmps (shut s.defers s.h) := by
  simp only [endK, outK]
  cases shut s.defers s.h with
  | none => rfl
  | some h => simp only; cases resultsA P s.tmps h rs <;> rfl
theorem outK_some (rs : List ResultVar) (A : Array Value) (h : AH) : outK P rs A (some h) = (resultsA P A h rs).map fun vs => (resVal vs, h) := rfl
end
end Go.AE
