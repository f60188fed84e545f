/-
  AE, part 2: the abstract heap; when an abstract value stands for a real one; when an abstract heap stands for a world; what a step keeps.
-/
import Derived.Test.YtimngnabpolgkaaGreatAeA1
import Derived.CallsIn
import Derived.Below
namespace Go.AE
noncomputable section
set_option linter.unusedSimpArgs false
set_option linter.unusedVariables false
open Go.RowKit

/-- How a piece of code is left, without panics. -/
inductive Ex where
  | normal
  | exit (id : Nat)
  | ret

def Ex.code : Ex → Option Code
  | .normal => none
  | .exit id => some (.exit id)
  | .ret => some .ret

/-- An abstract object: cells (how many; the element's type; what is frozen; cells of an element; open: there may be more behind; ro: only read; what stands where nothing was written), a map, a string's iterator, a loop's record, a block for deferred calls. -/
inductive AObj where
  | cells (c : PT Value) (n : Nat) (elem : TypeId) (fz : Nat × Nat) (esz : Nat) (op ro : Bool) (d : Value)
  | map (es : Array MapEntry) (clock : Nat) (ro : Bool)
  | iter (s : ByteArray) (pos : Nat)
  | loop (state : LoopState) (pend : Ex) (tmps : Array Value) (params : Array Tmp) (assign body : Code) (defers : Nat)
  | defs
  | mapIter (m : Nat) (since : Nat) (seen : Array Nat) (last : Nat)

structure AH where
  t : PT AObj
  next : Nat

def AH.get (h : AH) (β : Nat) : Option AObj := h.t.get β
def AH.set (h : AH) (β : Nat) (o : AObj) : AH := { h with t := h.t.set β (some o) }
def AH.kill (h : AH) (β : Nat) : AH := { h with t := h.t.set β none }
def AH.push (h : AH) (o : AObj) : AH := { t := h.t.set h.next (some o), next := h.next + 1 }

@[simp] theorem AH.get_set (h : AH) (β γ : Nat) (o : AObj) : (h.set β o).get γ = if γ = β then some o else h.get γ := PT.get_set _ _ _ _
@[simp] theorem AH.get_kill (h : AH) (β γ : Nat) : (h.kill β).get γ = if γ = β then none else h.get γ := PT.get_set _ _ _ _
@[simp] theorem AH.get_push (h : AH) (γ : Nat) (o : AObj) : (h.push o).get γ = if γ = h.next then some o else h.get γ := PT.get_set _ _ _ _
@[simp] theorem AH.next_set (h : AH) (β : Nat) (o : AObj) : (h.set β o).next = h.next := rfl
@[simp] theorem AH.next_kill (h : AH) (β : Nat) : (h.kill β).next = h.next := rfl
@[simp] theorem AH.next_push (h : AH) (o : AObj) : (h.push o).next = h.next + 1 := rfl

/-- Where an abstract block lies: the real block, from which cell on, how many cells it has, how many the real one has, cells of an element, open, only read. -/
structure Info where
  b : Nat
  s : Nat
  n : Nat
  N : Nat
  esz : Nat
  op : Bool
  ro : Bool

abbrev Ren := Nat → Option Info
def Ren.Le (ρ ρ' : Ren) : Prop := ∀ β i, ρ β = some i → ρ' β = some i
theorem Ren.Le.refl (ρ : Ren) : Ren.Le ρ ρ := fun _ _ h => h
theorem Ren.Le.trans {a b c : Ren} (h : Ren.Le a b) (k : Ren.Le b c) : Ren.Le a c := fun β i e => k β i (h β i e)

def Ren.put (ρ : Ren) (β : Nat) (i : Info) : Ren := fun γ => if γ = β then some i else ρ γ

/-- An address of a variable. -/
def ARel (ρ : Ren) (x a : Addr) : Prop := ∃ i, ρ x.block = some i ∧ a.block = i.b ∧ a.off = x.off + i.s ∧ a.spot = x.spot

/-- A slice's head and room: just so; or, in an open block, it may be more. -/
def SRel (ρ : Ren) (x a : Addr) (k c : Nat) : Prop :=
  ∃ i, ρ x.block = some i ∧ a.block = i.b ∧ a.spot = x.spot ∧
    ((c = k ∧ a.off = x.off + i.s) ∨
     (i.op = true ∧ k ≤ c ∧ a.spot = none ∧ a.off + c * i.esz ≤ i.N ∧ (0 < k → x.off + k * i.esz = i.n ∧ a.off = x.off + i.s)))

inductive FnRel (ρ : Ren) : Fn → Fn → Prop where
  | func (f : FuncId) : FnRel ρ (.func f) (.func f)
  | method (s : String) : FnRel ρ (.method s) (.method s)
  | methodOf (t : TypeId) (s : String) : FnRel ρ (.methodOf t s) (.methodOf t s)
  | via (t : TypeId) (p : Array FieldStep) (f : FuncId) (b : Bool) : FnRel ρ (.via t p f b) (.via t p f b)
  | yield (l l' : Nat) (i : Info) (h : ρ l = some i) (hb : i.b = l') : FnRel ρ (.yield l) (.yield l')

/-- What stands for any value. -/
def unk : Value := .tuple #[.tuple #[]]

/-- An abstract value stands for a real one. -/
inductive V (ρ : Ren) : Value → Value → Prop where
  | any (v : Value) : V ρ (.tuple #[.tuple #[]]) v
  | bool (b : Bool) : V ρ (.bool b) (.bool b)
  | int (k : IntKind) (n : Int) : V ρ (.int k n) (.int k n)
  | float (k : FloatKind) (n : Nat) : V ρ (.float k n) (.float k n)
  | string (s : ByteArray) : V ρ (.string s) (.string s)
  | nilPointer : V ρ (.pointer none) (.pointer none)
  | pointer (x a : Addr) (h : ARel ρ x a) : V ρ (.pointer (some x)) (.pointer (some a))
  | nilSlice (n c : Nat) : V ρ (.slice none n c) (.slice none n c)
  | slice (x a : Addr) (n k c : Nat) (hn : n ≤ k) (h : SRel ρ x a k c) : V ρ (.slice (some x) n k) (.slice (some a) n c)
  | nilMap : V ρ (.map none) (.map none)
  | map (r r' : Nat) (i : Info) (h : ρ r = some i) (hb : i.b = r') : V ρ (.map (some r)) (.map (some r'))
  | func (f f' : Fn) (as as' cs cs' : Array Value) (hf : FnRel ρ f f') (ha : as.size = as'.size) (hc : cs.size = cs'.size)
      (h : ∀ j, j < as.size → V ρ (as.getD j (.tuple #[])) (as'.getD j (.tuple #[])))
      (k : ∀ j, j < cs.size → V ρ (cs.getD j (.tuple #[])) (cs'.getD j (.tuple #[]))) : V ρ (.func f as cs) (.func f' as' cs')
  | nilFunc : V ρ .nilFunc .nilFunc
  | iface (t : TypeId) (v v' : Value) (h : V ρ v v') : V ρ (.iface t v) (.iface t v')
  | nilIface : V ρ .nilIface .nilIface
  | agg (cs cs' : Array Value) (hc : cs.size = cs'.size) (h : ∀ j, j < cs.size → V ρ (cs.getD j (.tuple #[])) (cs'.getD j (.tuple #[]))) : V ρ (.agg cs) (.agg cs')
  | tuple (cs cs' : Array Value) (h1 : cs.size ≠ 1) (hc : cs.size = cs'.size) (h : ∀ j, j < cs.size → V ρ (cs.getD j (.tuple #[])) (cs'.getD j (.tuple #[]))) : V ρ (.tuple cs) (.tuple cs')
  | over : V ρ (.tuple #[.bool false]) (.tuple #[.bool false])

/-- Rows of values. -/
def VS (ρ : Ren) (xs ys : Array Value) : Prop := xs.size = ys.size ∧ ∀ j, j < xs.size → V ρ (xs.getD j undef) (ys.getD j undef)

variable {ρ ρ' : Ren}

theorem ARel.mono (h : Ren.Le ρ ρ') {x a : Addr} (k : ARel ρ x a) : ARel ρ' x a :=
  let ⟨i, e, r⟩ := k; ⟨i, h _ _ e, r⟩
theorem SRel.mono (h : Ren.Le ρ ρ') {x a : Addr} {m c : Nat} (k : SRel ρ x a m c) : SRel ρ' x a m c :=
  let ⟨i, e, r⟩ := k; ⟨i, h _ _ e, r⟩
theorem FnRel.mono (h : Ren.Le ρ ρ') {f g : Fn} (k : FnRel ρ f g) : FnRel ρ' f g := by
  cases k with
  | func f => exact .func f
  | method s => exact .method s
  | methodOf t s => exact .methodOf t s
  | via t p f b => exact .via t p f b
  | yield l l' i e hb => exact .yield l l' i (h _ _ e) hb
theorem V.mono (h : Ren.Le ρ ρ') {x y : Value} (k : V ρ x y) : V ρ' x y := by
  induction k with
  | any v => exact .any v
  | bool b => exact .bool b
  | int k n => exact .int k n
  | float k n => exact .float k n
  | string s => exact .string s
  | nilPointer => exact .nilPointer
  | pointer x a e => exact .pointer x a (e.mono h)
  | nilSlice n c => exact .nilSlice n c
  | slice x a n k c hn e => exact .slice x a n k c hn (e.mono h)
  | nilMap => exact .nilMap
  | map r r' i e hb => exact .map r r' i (h _ _ e) hb
  | func f f' as as' cs cs' hf ha hc _ _ ih ih' => exact .func f f' as as' cs cs' (hf.mono h) ha hc ih ih'
  | nilFunc => exact .nilFunc
  | iface t v v' _ ih => exact .iface t v v' ih
  | nilIface => exact .nilIface
  | agg cs cs' hc _ ih => exact .agg cs cs' hc ih
  | tuple cs cs' h1 hc _ ih => exact .tuple cs cs' h1 hc ih
  | over => exact .over
theorem VS.mono (h : Ren.Le ρ ρ') {xs ys : Array Value} (k : VS ρ xs ys) : VS ρ' xs ys := ⟨k.1, fun j hj => (k.2 j hj).mono h⟩

theorem V.undef : V ρ undef undef := .tuple _ _ (by simp) rfl fun j hj => by simp at hj
theorem V.unk (v : Value) : V ρ AE.unk v := .any v
theorem VS.getD {xs ys : Array Value} (h : VS ρ xs ys) (j : Nat) : V ρ (xs.getD j undef) (ys.getD j undef) := by
  by_cases hj : j < xs.size
  · exact h.2 j hj
  · have hj' : ¬ j < ys.size := h.1 ▸ hj
    have e : xs.getD j undef = undef := by simp [Array.getD, hj]
    have e' : ys.getD j undef = undef := by simp [Array.getD, hj']
    rw [e, e']; exact V.undef

theorem VS.set {xs ys : Array Value} (h : VS ρ xs ys) (d : Nat) {v w : Value} (k : V ρ v w) : VS ρ (xs.setIfInBounds d v) (ys.setIfInBounds d w) := by
  refine ⟨by simp [h.1], fun j hj => ?_⟩
  simp only [Array.size_setIfInBounds] at hj
  have hj' : j < ys.size := h.1 ▸ hj
  have h2 := h.2 j hj
  simp only [Array.getD_eq_getD_getElem?, Array.getElem?_setIfInBounds] at h2 ⊢
  by_cases e : d = j
  · subst e; simp [hj, hj', k]
  · simp only [e, if_false]; exact h2

/-- An entry of a map. -/
def ERel (ρ : Ren) (x y : MapEntry) : Prop := V ρ x.key y.key ∧ V ρ x.val y.val ∧ x.born = y.born

/-- An abstract object stands for a block. -/
def ORel (ρ : Ren) (i : Info) : AObj → Obj → Prop
  | .cells c n elem fz esz op ro d, o => ∃ C, o = .cells C elem fz ∧ i.n = n ∧ i.op = op ∧ i.ro = ro ∧ i.esz = esz ∧ C.size = i.N ∧ i.s + n ≤ i.N ∧
      (op = false → i.s = 0 ∧ n = i.N) ∧ (op = true → fz = (0, 0)) ∧ ∀ j, j < n → V ρ ((c.get j).getD d) (C.getD (i.s + j) undef)
  | .map es clock ro, o => ∃ es', o = .map es' clock ∧ i.s = 0 ∧ i.ro = ro ∧ es.size = es'.size ∧ ∀ (j : Nat) x y, es[j]? = some x → es'[j]? = some y → ERel ρ x y
  | .iter s pos, o => o = .stringIter s pos ∧ i.s = 0 ∧ i.ro = false
  | .loop st pend tmps params assign body defers, o => ∃ fn tmps' d' j, o = .loop { state := st, pending := pend.code, fn, tmps := tmps', params, assign, body, defers := d' } ∧ i.s = 0 ∧ i.ro = false ∧
      VS ρ tmps tmps' ∧ ρ defers = some j ∧ j.b = d'
  | .defs, o => o = .deferred (some []) ∧ i.s = 0 ∧ i.ro = false
  | .mapIter m since seen last, o => ∃ j, o = .mapIter (some j.b) since seen last ∧ i.s = 0 ∧ i.ro = false ∧ ρ m = some j

theorem ORel.mono (h : Ren.Le ρ ρ') {i : Info} {o : AObj} {b : Obj} (k : ORel ρ i o b) : ORel ρ' i o b := by
  cases o with
  | cells c n elem fz esz op ro d =>
    obtain ⟨C, e1, e2, e3, e4, e5, e6, e7, e8, e9, hv⟩ := k
    exact ⟨C, e1, e2, e3, e4, e5, e6, e7, e8, e9, fun j hj => (hv j hj).mono h⟩
  | map es clock ro =>
    obtain ⟨es', e1, e2, e3, e4, hv⟩ := k
    exact ⟨es', e1, e2, e3, e4, fun j x y hx hy => let ⟨a, b, c⟩ := hv j x y hx hy; ⟨a.mono h, b.mono h, c⟩⟩
  | iter s pos => exact (k : _ ∧ _)
  | loop st pend tmps params assign body defers =>
    obtain ⟨fn, tmps', d', j, e1, e2, e3, e4, e5, e6⟩ := k
    exact ⟨fn, tmps', d', j, e1, e2, e3, e4.mono h, h _ _ e5, e6⟩
  | defs => exact (k : _ ∧ _)
  | mapIter m since seen last =>
    obtain ⟨j, e1, e2, e3, e4⟩ := k
    exact ⟨j, e1, e2, e3, h _ _ e4⟩

/-- An abstract heap stands for a real one. -/
structure Rel (ρ : Ren) (h : AH) (w : Array Obj) : Prop where
  lt : ∀ β i, ρ β = some i → i.b < w.size ∧ β < h.next
  obj : ∀ β o, h.get β = some o → ∃ i b, ρ β = some i ∧ w[i.b]? = some b ∧ ORel ρ i o b
  inj : ∀ β γ o p i j, h.get β = some o → h.get γ = some p → ρ β = some i → ρ γ = some j → i.b = j.b → β = γ

/-- What a step keeps: the renaming grows; no block that was there comes newly to be written; whatever is not one to be written lies as it lay. -/
structure Step (ρ : Ren) (w : World) (ρ' : Ren) (w' : World) : Prop where
  le : Ren.Le ρ ρ'
  old : ∀ β i, ρ' β = some i → i.b < w.heap.size → ∃ γ j, ρ γ = some j ∧ j.b = i.b ∧ (i.ro = false → j.ro = false)
  os : w'.os = w.os
  tape : w'.tape = w.tape
  output : w'.output = w.output
  size : w.heap.size ≤ w'.heap.size
  frame : ∀ b, b < w.heap.size → (∀ β i, ρ β = some i → i.b = b → i.ro = true) → w'.heap[b]? = w.heap[b]?

theorem Step.refl (ρ : Ren) (w : World) : Step ρ w ρ w :=
  ⟨.refl ρ, fun β i h _ => ⟨β, i, h, rfl, id⟩, rfl, rfl, rfl, Nat.le_refl _, fun _ _ _ => rfl⟩

theorem Step.trans {ρ₁ ρ₂ ρ₃ : Ren} {w₁ w₂ w₃ : World} (h : Step ρ₁ w₁ ρ₂ w₂) (k : Step ρ₂ w₂ ρ₃ w₃) : Step ρ₁ w₁ ρ₃ w₃ where
  le := h.le.trans k.le
  old := fun β i e hb => by
    obtain ⟨γ, j, e', hj, hr'⟩ := k.old β i e (Nat.lt_of_lt_of_le hb h.size)
    obtain ⟨δ, l, e'', hl, hr''⟩ := h.old γ j e' (hj ▸ hb)
    exact ⟨δ, l, e'', hl.trans hj, fun x => hr'' (hr' x)⟩
  os := k.os.trans h.os
  tape := k.tape.trans h.tape
  output := k.output.trans h.output
  size := Nat.le_trans h.size k.size
  frame := fun b hb hro => by
    rw [k.frame b (Nat.lt_of_lt_of_le hb h.size), h.frame b hb hro]
    intro β i e hi
    cases hc : i.ro with
    | true => rfl
    | false =>
      obtain ⟨γ, j, e', hj, hr'⟩ := h.old β i e (hi ▸ hb)
      have hr'' := hr' hc
      rw [hro γ j e' (hj.trans hi)] at hr''; cases hr''

/-- A world whose heap is the same. -/
theorem Step.same (ρ : Ren) {w w' : World} (hh : w'.heap = w.heap) (h1 : w'.os = w.os) (h2 : w'.tape = w.tape) (h3 : w'.output = w.output) : Step ρ w ρ w' :=
  ⟨.refl ρ, fun β i h _ => ⟨β, i, h, rfl, id⟩, h1, h2, h3, by rw [hh]; exact Nat.le_refl _, fun _ _ _ => by rw [hh]⟩

end
end Go.AE
