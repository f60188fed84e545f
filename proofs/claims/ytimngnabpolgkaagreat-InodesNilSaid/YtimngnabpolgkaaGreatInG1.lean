/-
  Texts joined: AeA1, AeA2, AeA3, AeA4, AeA5, AeA6, AeA7, AeA8, AeM1, AeM2, AeM3, AeM4, AeM5, AeM6, AeM7.
-/
import GoSem.Dispatch
import Derived.CallsIn
import Derived.Below
import Derived.Laws.Cells
import Derived.Laws.IdiomCopy
import Derived.IntWalk
import Derived.MapKept
import Derived.Laws.Externs
import Derived.ChangeKeysEq
import Derived.Laws.StructEq
namespace Go.AE
set_option linter.unusedSimpArgs false
set_option linter.unusedVariables false

/-- A binary tree over keys: the key 1 at the root; an even key to the left, an odd one to the right. -/
inductive PT (α : Type) where
  | leaf
  | node (l : PT α) (v : Option α) (r : PT α)

/-- A way in a tree. -/
inductive Bs where
  | here
  | l (b : Bs)
  | r (b : Bs)
  deriving DecidableEq

namespace PT
variable {α : Type}

theorem brec {β : Type} (b : Bool) (x y : β) : Bool.rec (motive := fun _ => β) x y b = if b = true then y else x := by cases b <;> rfl

def left : PT α → PT α
  | leaf => leaf
  | node l _ _ => l
def right : PT α → PT α
  | leaf => leaf
  | node _ _ r => r
def root : PT α → Option α
  | leaf => none
  | node _ v _ => v

noncomputable def pforce {β : Type} (t : PT α) (f : PT α → β) : β := PT.rec (motive := fun _ => β) (f leaf) (fun l v r _ _ => f (node l v r)) t
theorem pforce_eq {β : Type} (t : PT α) (f : PT α → β) : pforce t f = f t := by cases t <;> rfl

/-- The way to a key, by fuel. -/
noncomputable def bitsP (n : Nat) : Nat → Bs :=
  Nat.rec (motive := fun _ => Nat → Bs) (fun _ => .here)
    (fun _ ih k => Bool.rec (motive := fun _ => Bs) (Bool.rec (motive := fun _ => Bs) (.r (ih (Nat.div k 2))) (.l (ih (Nat.div k 2))) (Nat.beq (Nat.mod k 2) Nat.zero)) .here (Nat.beq k 1)) n

def valB : Bs → Nat
  | .here => 1
  | .l b => 2 * valB b
  | .r b => 2 * valB b + 1

theorem valB_bitsP : ∀ (n k : Nat), 1 ≤ k → k < 2 ^ n → valB (bitsP n k) = k
  | 0, k, h1, h2 => by simp at h2; omega
  | n + 1, k, h1, h2 => by
    have hp : 2 ^ (n + 1) = 2 * 2 ^ n := by rw [Nat.pow_succ]; omega
    rw [hp] at h2
    have e1 : (Nat.beq k 1 = true) = (k = 1) := Nat.beq_eq
    have e2 : (Nat.beq (Nat.mod k 2) Nat.zero = true) = (k % 2 = 0) := Nat.beq_eq
    have e : bitsP (n + 1) k = if k = 1 then .here else if k % 2 = 0 then .l (bitsP n (k / 2)) else .r (bitsP n (k / 2)) := by
      show Bool.rec (motive := fun _ => Bs) (Bool.rec (motive := fun _ => Bs) _ _ _) _ _ = _
      rw [brec, brec]; simp only [e1, e2]; rfl
    rw [e]
    by_cases hk : k = 1
    · rw [if_pos hk]; exact hk.symm
    · rw [if_neg hk]
      by_cases hm : k % 2 = 0
      · rw [if_pos hm]
        simp only [valB]
        rw [valB_bitsP n (k / 2) (by omega) (by omega)]; omega
      · rw [if_neg hm]
        simp only [valB]
        rw [valB_bitsP n (k / 2) (by omega) (by omega)]; omega

noncomputable def bitsOf (i : Nat) : Bs := bitsP ((i + 1).log2 + 1) (i + 1)
theorem bitsOf_inj {i j : Nat} (h : bitsOf i = bitsOf j) : i = j := by
  have h1 : valB (bitsOf i) = i + 1 := valB_bitsP _ _ (by omega) Nat.lt_log2_self
  have h2 : valB (bitsOf j) = j + 1 := valB_bitsP _ _ (by omega) Nat.lt_log2_self
  rw [h] at h1
  omega

noncomputable def getB (b : Bs) : PT α → Option α :=
  Bs.rec (motive := fun _ => PT α → Option α) (fun t => PT.rec (motive := fun _ => Option α) none (fun _ v _ _ _ => v) t)
    (fun _ ih t => PT.rec (motive := fun _ => Option α) none (fun l _ _ _ _ => ih l) t) (fun _ ih t => PT.rec (motive := fun _ => Option α) none (fun _ _ r _ _ => ih r) t) b

theorem getB_leaf : ∀ (b : Bs), getB b (leaf : PT α) = none
  | .here => rfl
  | .l _ => rfl
  | .r _ => rfl
theorem getB_here (t : PT α) : getB .here t = t.root := by cases t <;> rfl
theorem getB_l (b : Bs) (t : PT α) : getB (.l b) t = getB b t.left := by
  cases t with
  | leaf => exact (getB_leaf b).symm
  | node l v r => rfl
theorem getB_r (b : Bs) (t : PT α) : getB (.r b) t = getB b t.right := by
  cases t with
  | leaf => exact (getB_leaf b).symm
  | node l v r => rfl

/-- Sets at a way's end; the way is made whole at once. -/
noncomputable def setB (b : Bs) : Option α → PT α → PT α :=
  Bs.rec (motive := fun _ => Option α → PT α → PT α) (fun a t => PT.rec (motive := fun _ => PT α) (node leaf a leaf) (fun l _ r _ _ => node l a r) t)
    (fun _ ih a t => PT.rec (motive := fun _ => PT α) (pforce (ih a leaf) fun l' => node l' none leaf) (fun l v r _ _ => pforce (ih a l) fun l' => node l' v r) t)
    (fun _ ih a t => PT.rec (motive := fun _ => PT α) (pforce (ih a leaf) fun r' => node leaf none r') (fun l v r _ _ => pforce (ih a r) fun r' => node l v r') t) b

theorem setB_here (a : Option α) (t : PT α) : setB .here a t = node t.left a t.right := by cases t <;> rfl
theorem setB_l (b : Bs) (a : Option α) (t : PT α) : setB (.l b) a t = node (setB b a t.left) t.root t.right := by
  cases t with
  | leaf => exact pforce_eq (setB b a leaf) fun l' => node l' none leaf
  | node l v r => exact pforce_eq (setB b a l) fun l' => node l' v r
theorem setB_r (b : Bs) (a : Option α) (t : PT α) : setB (.r b) a t = node t.left t.root (setB b a t.right) := by
  cases t with
  | leaf => exact pforce_eq (setB b a leaf) fun r' => node leaf none r'
  | node l v r => exact pforce_eq (setB b a r) fun r' => node l v r'

theorem getB_setB : ∀ (b c : Bs) (a : Option α) (t : PT α), getB c (setB b a t) = if c = b then a else getB c t
  | .here, .here, a, t => by rw [setB_here, getB_here, if_pos rfl]; rfl
  | .here, .l c, a, t => by rw [setB_here, getB_l, getB_l, if_neg (by simp)]; rfl
  | .here, .r c, a, t => by rw [setB_here, getB_r, getB_r, if_neg (by simp)]; rfl
  | .l b, .here, a, t => by rw [setB_l, getB_here, getB_here, if_neg (by simp)]; rfl
  | .l b, .l c, a, t => by
    rw [setB_l, getB_l, getB_l]
    show getB c (setB b a t.left) = _
    rw [getB_setB b c a t.left]
    by_cases h : c = b
    · subst h; simp
    · simp [h]
  | .l b, .r c, a, t => by rw [setB_l, getB_r, getB_r, if_neg (by simp)]; rfl
  | .r b, .here, a, t => by rw [setB_r, getB_here, getB_here, if_neg (by simp)]; rfl
  | .r b, .l c, a, t => by rw [setB_r, getB_l, getB_l, if_neg (by simp)]; rfl
  | .r b, .r c, a, t => by
    rw [setB_r, getB_r, getB_r]
    show getB c (setB b a t.right) = _
    rw [getB_setB b c a t.right]
    by_cases h : c = b
    · subst h; simp
    · simp [h]

theorem setB_same : ∀ (b : Bs) (a c : Option α) (t : PT α), setB b a (setB b c t) = setB b a t
  | .here, a, c, t => by rw [setB_here, setB_here, setB_here]; rfl
  | .l b, a, c, t => by
    rw [setB_l, setB_l, setB_l]
    show node (setB b a (setB b c t.left)) t.root t.right = _
    rw [setB_same b a c t.left]
  | .r b, a, c, t => by
    rw [setB_r, setB_r, setB_r]
    show node t.left t.root (setB b a (setB b c t.right)) = _
    rw [setB_same b a c t.right]

theorem setB_comm : ∀ (b d : Bs) (a c : Option α) (t : PT α), b ≠ d → setB b a (setB d c t) = setB d c (setB b a t)
  | .here, .here, a, c, t, h => absurd rfl h
  | .here, .l d, a, c, t, h => by rw [setB_l, setB_here, setB_here, setB_l]; rfl
  | .here, .r d, a, c, t, h => by rw [setB_r, setB_here, setB_here, setB_r]; rfl
  | .l b, .here, a, c, t, h => by rw [setB_l, setB_here, setB_here, setB_l]; rfl
  | .l b, .l d, a, c, t, h => by
    rw [setB_l, setB_l, setB_l, setB_l]
    show node (setB b a (setB d c t.left)) t.root t.right = node (setB d c (setB b a t.left)) t.root t.right
    rw [setB_comm b d a c t.left (fun e => h (by rw [e]))]
  | .l b, .r d, a, c, t, h => by rw [setB_l, setB_r, setB_r, setB_l]; rfl
  | .r b, .here, a, c, t, h => by rw [setB_r, setB_here, setB_here, setB_r]; rfl
  | .r b, .l d, a, c, t, h => by rw [setB_l, setB_r, setB_r, setB_l]; rfl
  | .r b, .r d, a, c, t, h => by
    rw [setB_r, setB_r, setB_r, setB_r]
    show node t.left t.root (setB b a (setB d c t.right)) = node t.left t.root (setB d c (setB b a t.right))
    rw [setB_comm b d a c t.right (fun e => h (by rw [e]))]

/-- The key is made whole first, so that the way to it is found once for all trees. -/
noncomputable def keyed {β : Type} (i : Nat) (f : Bs → β) : β := Nat.rec (motive := fun _ => β) (f (bitsOf Nat.zero)) (fun k _ => f (bitsOf (Nat.succ k))) i
theorem keyed_eq {β : Type} (i : Nat) (f : Bs → β) : keyed i f = f (bitsOf i) := by cases i <;> rfl

noncomputable def get (t : PT α) (i : Nat) : Option α := keyed i fun b => getB b t
noncomputable def set (t : PT α) (i : Nat) (a : Option α) : PT α := keyed i fun b => setB b a t

theorem get_set (t : PT α) (i j : Nat) (a : Option α) : get (set t i a) j = if j = i then a else get t j := by
  unfold get set
  rw [keyed_eq, keyed_eq, keyed_eq, getB_setB]
  by_cases h : j = i
  · subst h; simp
  · rw [if_neg h, if_neg (fun e => h (bitsOf_inj e))]

theorem get_set_same (t : PT α) (i : Nat) (a : Option α) : get (set t i a) i = a := by rw [get_set, if_pos rfl]
theorem get_set_ne (t : PT α) (i j : Nat) (a : Option α) (h : j ≠ i) : get (set t i a) j = get t j := by rw [get_set, if_neg h]

@[simp] theorem get_leaf (i : Nat) : get (leaf : PT α) i = none := by unfold get; rw [keyed_eq, getB_leaf]

theorem set_set (t : PT α) (i : Nat) (a b : Option α) : (t.set i a).set i b = t.set i b := by
  unfold set; rw [keyed_eq, keyed_eq, keyed_eq, setB_same]
theorem set_comm (t : PT α) {i j : Nat} (a b : Option α) (h : i ≠ j) : (t.set i a).set j b = (t.set j b).set i a := by
  unfold set; rw [keyed_eq, keyed_eq, keyed_eq, keyed_eq, setB_comm _ _ _ _ _ (fun e => h (bitsOf_inj e).symm)]

/-- All that a tree has. -/
def allV (p : α → Bool) : PT α → Bool
  | .leaf => true
  | .node l (some v) r => p v && (allV p l && allV p r)
  | .node l none r => allV p l && allV p r
theorem allV_get {p : α → Bool} : ∀ (b : Bs) (t : PT α) (v : α), allV p t = true → getB b t = some v → p v = true := by
  intro b
  induction b with
  | here =>
    intro t v h hg
    rw [getB_here] at hg
    cases t with
    | leaf => cases hg
    | node l o r => cases o with
      | none => cases hg
      | some a => simp only [allV, Bool.and_eq_true] at h; cases hg; exact h.1
  | l b ih =>
    intro t v h hg
    rw [getB_l] at hg
    cases t with
    | leaf => exact ih _ _ rfl hg
    | node l o r => cases o with
      | none => simp only [allV, Bool.and_eq_true] at h; exact ih _ _ h.1 hg
      | some a => simp only [allV, Bool.and_eq_true] at h; exact ih _ _ h.2.1 hg
  | r b ih =>
    intro t v h hg
    rw [getB_r] at hg
    cases t with
    | leaf => exact ih _ _ rfl hg
    | node l o r => cases o with
      | none => simp only [allV, Bool.and_eq_true] at h; exact ih _ _ h.2 hg
      | some a => simp only [allV, Bool.and_eq_true] at h; exact ih _ _ h.2.2 hg
theorem allV_at {p : α → Bool} {t : PT α} {i : Nat} {v : α} (h : allV p t = true) (hg : t.get i = some v) : p v = true := by
  unfold get at hg
  rw [keyed_eq] at hg
  exact allV_get _ _ _ h hg

end PT

/-- What stands at a place of a list. -/
noncomputable def nth {α : Type} (n : Nat) : List α → Option α :=
  Nat.rec (motive := fun _ => List α → Option α) (fun l => List.rec (motive := fun _ => Option α) none (fun a _ _ => some a) l)
    (fun _ ih l => List.rec (motive := fun _ => Option α) none (fun _ t _ => ih t) l) n
theorem nth_eq {α : Type} : ∀ (n : Nat) (l : List α), nth n l = l[n]?
  | 0, [] => rfl
  | 0, _ :: _ => rfl
  | n + 1, [] => rfl
  | n + 1, _ :: t => by
    show nth n t = _
    rw [nth_eq n t]; simp
end Go.AE

/-
  AE, part 2: the abstract heap; when an abstract value stands for a real one; when an abstract heap stands for a world; what a step keeps.
-/
namespace Go.AE
noncomputable section
set_option linter.unusedSimpArgs false
set_option linter.unusedVariables false
open Go.RowKit

/-- How a piece of code is left, without panics. -/
inductive Ex where
  | normal
  | exit (id : Nat)
  | ret

def Ex.code : Ex → Option Code
  | .normal => none
  | .exit id => some (.exit id)
  | .ret => some .ret

/-- A row's cells: those written one by one; and, behind them, whole stretches of 256. -/
structure Row where
  b : PT Value
  k : PT (List Value)
namespace Row
@[match_pattern] def leaf : Row := ⟨.leaf, .leaf⟩
def get (r : Row) (i : Nat) : Option Value :=
  match r.b.get i with
  | some v => some v
  | none => match r.k with
    | .leaf => none
    | _ => match r.k.get (i / 256) with
      | some l => nth (i % 256) l
      | none => none
def set (r : Row) (i : Nat) (a : Option Value) : Row := ⟨r.b.set i a, r.k⟩
def pforce {β : Type} (r : Row) (f : Row → β) : β := PT.pforce r.b fun b => f ⟨b, r.k⟩
theorem pforce_eq {β : Type} (r : Row) (f : Row → β) : pforce r f = f r := PT.pforce_eq _ _
theorem get_eq (r : Row) (i : Nat) : r.get i = match r.b.get i with
    | some v => some v
    | none => match r.k.get (i / 256) with
      | some l => l[i % 256]?
      | none => none := by
  unfold get
  cases r.b.get i with
  | some v => rfl
  | none =>
    simp only
    cases r.k with
    | leaf => simp
    | node l v t =>
      simp only
      cases (PT.node l v t).get (i / 256) with
      | none => rfl
      | some l => exact nth_eq _ _
theorem get_set (r : Row) (i j : Nat) (v : Value) : (r.set i (some v)).get j = if j = i then some v else r.get j := by
  rw [get_eq, get_eq]
  unfold set
  simp only [PT.get_set]
  by_cases h : j = i <;> simp [h]
theorem get_set_same (r : Row) (i : Nat) (v : Value) : (r.set i (some v)).get i = some v := by rw [get_set, if_pos rfl]
theorem get_set_ne (r : Row) (i j : Nat) (v : Value) (h : j ≠ i) : (r.set i (some v)).get j = r.get j := by rw [get_set, if_neg h]
@[simp] theorem get_leaf (i : Nat) : Row.leaf.get i = none := by unfold leaf get; simp
def allV (p : Value → Bool) (r : Row) : Bool := PT.allV p r.b && PT.allV (fun l => l.all p) r.k
theorem allV_at {p : Value → Bool} {r : Row} {i : Nat} {v : Value} (h : allV p r = true) (hg : r.get i = some v) : p v = true := by
  unfold allV at h
  simp only [Bool.and_eq_true] at h
  rw [get_eq] at hg
  split at hg
  · rename_i w hw
    cases hg
    exact PT.allV_at h.1 hw
  · split at hg
    · rename_i l hl
      have := PT.allV_at h.2 hl
      rw [List.all_eq_true] at this
      exact this v (List.mem_of_getElem? hg)
    · cases hg
end Row

/-- An abstract object: cells (how many; the element's type; what is frozen; cells of an element; open: there may be more behind; ro: only read; what stands where nothing was written), a map, a string's iterator, a loop's record, a block for deferred calls. -/
inductive AObj where
  | cells (c : Row) (n : Nat) (elem : TypeId) (fz : Nat × Nat) (esz : Nat) (op ro : Bool) (d : Value)
  | map (es : Array MapEntry) (clock : Nat) (ro : Bool)
  | iter (s : ByteArray) (pos : Nat)
  | loop (state : LoopState) (pend : Ex) (tmps : Array Value) (params : Array Tmp) (assign body : Code) (defers : Nat)
  | defs
  | mapIter (m : Nat) (since : Nat) (seen : Array Nat) (last : Nat)

structure AH where
  t : PT AObj
  next : Nat

def AH.get (h : AH) (β : Nat) : Option AObj := h.t.get β
def AH.set (h : AH) (β : Nat) (o : AObj) : AH := { h with t := h.t.set β (some o) }
def AH.kill (h : AH) (β : Nat) : AH := { h with t := h.t.set β none }
def AH.push (h : AH) (o : AObj) : AH := { t := h.t.set h.next (some o), next := h.next + 1 }

@[simp] theorem AH.get_set (h : AH) (β γ : Nat) (o : AObj) : (h.set β o).get γ = if γ = β then some o else h.get γ := PT.get_set _ _ _ _
@[simp] theorem AH.get_kill (h : AH) (β γ : Nat) : (h.kill β).get γ = if γ = β then none else h.get γ := PT.get_set _ _ _ _
@[simp] theorem AH.get_push (h : AH) (γ : Nat) (o : AObj) : (h.push o).get γ = if γ = h.next then some o else h.get γ := PT.get_set _ _ _ _
@[simp] theorem AH.next_set (h : AH) (β : Nat) (o : AObj) : (h.set β o).next = h.next := rfl
@[simp] theorem AH.next_kill (h : AH) (β : Nat) : (h.kill β).next = h.next := rfl
@[simp] theorem AH.next_push (h : AH) (o : AObj) : (h.push o).next = h.next + 1 := rfl

/-- Where an abstract block lies: the real block, from which cell on, how many cells it has, how many the real one has, cells of an element, open, only read. -/
structure Info where
  b : Nat
  s : Nat
  n : Nat
  N : Nat
  esz : Nat
  op : Bool
  ro : Bool

abbrev Ren := Nat → Option Info
def Ren.Le (ρ ρ' : Ren) : Prop := ∀ β i, ρ β = some i → ρ' β = some i
theorem Ren.Le.refl (ρ : Ren) : Ren.Le ρ ρ := fun _ _ h => h
theorem Ren.Le.trans {a b c : Ren} (h : Ren.Le a b) (k : Ren.Le b c) : Ren.Le a c := fun β i e => k β i (h β i e)

def Ren.put (ρ : Ren) (β : Nat) (i : Info) : Ren := fun γ => if γ = β then some i else ρ γ

/-- An address of a variable. -/
def ARel (ρ : Ren) (x a : Addr) : Prop := ∃ i, ρ x.block = some i ∧ a.block = i.b ∧ a.off = x.off + i.s ∧ a.spot = x.spot

/-- A slice's head and room: just so; or, in an open block, it may be more. -/
def SRel (ρ : Ren) (x a : Addr) (k c : Nat) : Prop :=
  ∃ i, ρ x.block = some i ∧ a.block = i.b ∧ a.spot = x.spot ∧
    ((c = k ∧ a.off = x.off + i.s) ∨
     (i.op = true ∧ k ≤ c ∧ a.spot = none ∧ a.off + c * i.esz ≤ i.N ∧ (0 < k → x.off + k * i.esz = i.n ∧ a.off = x.off + i.s)))

inductive FnRel (ρ : Ren) : Fn → Fn → Prop where
  | func (f : FuncId) : FnRel ρ (.func f) (.func f)
  | method (s : String) : FnRel ρ (.method s) (.method s)
  | methodOf (t : TypeId) (s : String) : FnRel ρ (.methodOf t s) (.methodOf t s)
  | via (t : TypeId) (p : Array FieldStep) (f : FuncId) (b : Bool) : FnRel ρ (.via t p f b) (.via t p f b)
  | yield (l l' : Nat) (i : Info) (h : ρ l = some i) (hb : i.b = l') : FnRel ρ (.yield l) (.yield l')

/-- What stands for any value. -/
def unk : Value := .tuple #[.tuple #[]]

/-- An abstract value stands for a real one. -/
inductive V (ρ : Ren) : Value → Value → Prop where
  | any (v : Value) : V ρ (.tuple #[.tuple #[]]) v
  | bool (b : Bool) : V ρ (.bool b) (.bool b)
  | int (k : IntKind) (n : Int) : V ρ (.int k n) (.int k n)
  | float (k : FloatKind) (n : Nat) : V ρ (.float k n) (.float k n)
  | string (s : ByteArray) : V ρ (.string s) (.string s)
  | nilPointer : V ρ (.pointer none) (.pointer none)
  | pointer (x a : Addr) (h : ARel ρ x a) : V ρ (.pointer (some x)) (.pointer (some a))
  | nilSlice (n c : Nat) : V ρ (.slice none n c) (.slice none n c)
  | slice (x a : Addr) (n k c : Nat) (hn : n ≤ k) (h : SRel ρ x a k c) : V ρ (.slice (some x) n k) (.slice (some a) n c)
  | nilMap : V ρ (.map none) (.map none)
  | map (r r' : Nat) (i : Info) (h : ρ r = some i) (hb : i.b = r') : V ρ (.map (some r)) (.map (some r'))
  | func (f f' : Fn) (as as' cs cs' : Array Value) (hf : FnRel ρ f f') (ha : as.size = as'.size) (hc : cs.size = cs'.size)
      (h : ∀ j, j < as.size → V ρ (as.getD j (.tuple #[])) (as'.getD j (.tuple #[])))
      (k : ∀ j, j < cs.size → V ρ (cs.getD j (.tuple #[])) (cs'.getD j (.tuple #[]))) : V ρ (.func f as cs) (.func f' as' cs')
  | nilFunc : V ρ .nilFunc .nilFunc
  | iface (t : TypeId) (v v' : Value) (h : V ρ v v') : V ρ (.iface t v) (.iface t v')
  | nilIface : V ρ .nilIface .nilIface
  | agg (cs cs' : Array Value) (hc : cs.size = cs'.size) (h : ∀ j, j < cs.size → V ρ (cs.getD j (.tuple #[])) (cs'.getD j (.tuple #[]))) : V ρ (.agg cs) (.agg cs')
  | tuple (cs cs' : Array Value) (h1 : cs.size ≠ 1) (hc : cs.size = cs'.size) (h : ∀ j, j < cs.size → V ρ (cs.getD j (.tuple #[])) (cs'.getD j (.tuple #[]))) : V ρ (.tuple cs) (.tuple cs')
  | over : V ρ (.tuple #[.bool false]) (.tuple #[.bool false])

/-- Rows of values. -/
def VS (ρ : Ren) (xs ys : Array Value) : Prop := xs.size = ys.size ∧ ∀ j, j < xs.size → V ρ (xs.getD j undef) (ys.getD j undef)

variable {ρ ρ' : Ren}

theorem ARel.mono (h : Ren.Le ρ ρ') {x a : Addr} (k : ARel ρ x a) : ARel ρ' x a :=
  let ⟨i, e, r⟩ := k; ⟨i, h _ _ e, r⟩
theorem SRel.mono (h : Ren.Le ρ ρ') {x a : Addr} {m c : Nat} (k : SRel ρ x a m c) : SRel ρ' x a m c :=
  let ⟨i, e, r⟩ := k; ⟨i, h _ _ e, r⟩
theorem FnRel.mono (h : Ren.Le ρ ρ') {f g : Fn} (k : FnRel ρ f g) : FnRel ρ' f g := by
  cases k with
  | func f => exact .func f
  | method s => exact .method s
  | methodOf t s => exact .methodOf t s
  | via t p f b => exact .via t p f b
  | yield l l' i e hb => exact .yield l l' i (h _ _ e) hb
theorem V.mono (h : Ren.Le ρ ρ') {x y : Value} (k : V ρ x y) : V ρ' x y := by
  induction k with
  | any v => exact .any v
  | bool b => exact .bool b
  | int k n => exact .int k n
  | float k n => exact .float k n
  | string s => exact .string s
  | nilPointer => exact .nilPointer
  | pointer x a e => exact .pointer x a (e.mono h)
  | nilSlice n c => exact .nilSlice n c
  | slice x a n k c hn e => exact .slice x a n k c hn (e.mono h)
  | nilMap => exact .nilMap
  | map r r' i e hb => exact .map r r' i (h _ _ e) hb
  | func f f' as as' cs cs' hf ha hc _ _ ih ih' => exact .func f f' as as' cs cs' (hf.mono h) ha hc ih ih'
  | nilFunc => exact .nilFunc
  | iface t v v' _ ih => exact .iface t v v' ih
  | nilIface => exact .nilIface
  | agg cs cs' hc _ ih => exact .agg cs cs' hc ih
  | tuple cs cs' h1 hc _ ih => exact .tuple cs cs' h1 hc ih
  | over => exact .over
theorem VS.mono (h : Ren.Le ρ ρ') {xs ys : Array Value} (k : VS ρ xs ys) : VS ρ' xs ys := ⟨k.1, fun j hj => (k.2 j hj).mono h⟩

theorem V.undef : V ρ undef undef := .tuple _ _ (by simp) rfl fun j hj => by simp at hj
theorem V.unk (v : Value) : V ρ AE.unk v := .any v
theorem VS.getD {xs ys : Array Value} (h : VS ρ xs ys) (j : Nat) : V ρ (xs.getD j undef) (ys.getD j undef) := by
  by_cases hj : j < xs.size
  · exact h.2 j hj
  · have hj' : ¬ j < ys.size := h.1 ▸ hj
    have e : xs.getD j undef = undef := by simp [Array.getD, hj]
    have e' : ys.getD j undef = undef := by simp [Array.getD, hj']
    rw [e, e']; exact V.undef

theorem VS.set {xs ys : Array Value} (h : VS ρ xs ys) (d : Nat) {v w : Value} (k : V ρ v w) : VS ρ (xs.setIfInBounds d v) (ys.setIfInBounds d w) := by
  refine ⟨by simp [h.1], fun j hj => ?_⟩
  simp only [Array.size_setIfInBounds] at hj
  have hj' : j < ys.size := h.1 ▸ hj
  have h2 := h.2 j hj
  simp only [Array.getD_eq_getD_getElem?, Array.getElem?_setIfInBounds] at h2 ⊢
  by_cases e : d = j
  · subst e; simp [hj, hj', k]
  · simp only [e, if_false]; exact h2

/-- An entry of a map. -/
def ERel (ρ : Ren) (x y : MapEntry) : Prop := V ρ x.key y.key ∧ V ρ x.val y.val ∧ x.born = y.born

/-- An abstract object stands for a block. -/
def ORel (ρ : Ren) (i : Info) : AObj → Obj → Prop
  | .cells c n elem fz esz op ro d, o => ∃ C, o = .cells C elem fz ∧ i.n = n ∧ i.op = op ∧ i.ro = ro ∧ i.esz = esz ∧ C.size = i.N ∧ i.s + n ≤ i.N ∧
      (op = false → i.s = 0 ∧ n = i.N) ∧ (op = true → fz = (0, 0)) ∧ ∀ j, j < n → V ρ ((c.get j).getD d) (C.getD (i.s + j) undef)
  | .map es clock ro, o => ∃ es', o = .map es' clock ∧ i.s = 0 ∧ i.ro = ro ∧ es.size = es'.size ∧ ∀ (j : Nat) x y, es[j]? = some x → es'[j]? = some y → ERel ρ x y
  | .iter s pos, o => o = .stringIter s pos ∧ i.s = 0 ∧ i.ro = false
  | .loop st pend tmps params assign body defers, o => ∃ fn tmps' d' j, o = .loop { state := st, pending := pend.code, fn, tmps := tmps', params, assign, body, defers := d' } ∧ i.s = 0 ∧ i.ro = false ∧
      VS ρ tmps tmps' ∧ ρ defers = some j ∧ j.b = d'
  | .defs, o => o = .deferred (some []) ∧ i.s = 0 ∧ i.ro = false
  | .mapIter m since seen last, o => ∃ j, o = .mapIter (some j.b) since seen last ∧ i.s = 0 ∧ i.ro = false ∧ ρ m = some j

theorem ORel.mono (h : Ren.Le ρ ρ') {i : Info} {o : AObj} {b : Obj} (k : ORel ρ i o b) : ORel ρ' i o b := by
  cases o with
  | cells c n elem fz esz op ro d =>
    obtain ⟨C, e1, e2, e3, e4, e5, e6, e7, e8, e9, hv⟩ := k
    exact ⟨C, e1, e2, e3, e4, e5, e6, e7, e8, e9, fun j hj => (hv j hj).mono h⟩
  | map es clock ro =>
    obtain ⟨es', e1, e2, e3, e4, hv⟩ := k
    exact ⟨es', e1, e2, e3, e4, fun j x y hx hy => let ⟨a, b, c⟩ := hv j x y hx hy; ⟨a.mono h, b.mono h, c⟩⟩
  | iter s pos => exact (k : _ ∧ _)
  | loop st pend tmps params assign body defers =>
    obtain ⟨fn, tmps', d', j, e1, e2, e3, e4, e5, e6⟩ := k
    exact ⟨fn, tmps', d', j, e1, e2, e3, e4.mono h, h _ _ e5, e6⟩
  | defs => exact (k : _ ∧ _)
  | mapIter m since seen last =>
    obtain ⟨j, e1, e2, e3, e4⟩ := k
    exact ⟨j, e1, e2, e3, h _ _ e4⟩

/-- An abstract heap stands for a real one. -/
structure Rel (ρ : Ren) (h : AH) (w : Array Obj) : Prop where
  lt : ∀ β i, ρ β = some i → i.b < w.size ∧ β < h.next
  obj : ∀ β o, h.get β = some o → ∃ i b, ρ β = some i ∧ w[i.b]? = some b ∧ ORel ρ i o b
  inj : ∀ β γ o p i j, h.get β = some o → h.get γ = some p → ρ β = some i → ρ γ = some j → i.b = j.b → β = γ

/-- What a step keeps: the renaming grows; no block that was there comes newly to be written; whatever is not one to be written lies as it lay. -/
structure Step (ρ : Ren) (w : World) (ρ' : Ren) (w' : World) : Prop where
  le : Ren.Le ρ ρ'
  old : ∀ β i, ρ' β = some i → i.b < w.heap.size → ∃ γ j, ρ γ = some j ∧ j.b = i.b ∧ (i.ro = false → j.ro = false)
  os : w'.os = w.os
  tape : w'.tape = w.tape
  output : w'.output = w.output
  size : w.heap.size ≤ w'.heap.size
  frame : ∀ b, b < w.heap.size → (∀ β i, ρ β = some i → i.b = b → i.ro = true) → w'.heap[b]? = w.heap[b]?

theorem Step.refl (ρ : Ren) (w : World) : Step ρ w ρ w :=
  ⟨.refl ρ, fun β i h _ => ⟨β, i, h, rfl, id⟩, rfl, rfl, rfl, Nat.le_refl _, fun _ _ _ => rfl⟩

theorem Step.trans {ρ₁ ρ₂ ρ₃ : Ren} {w₁ w₂ w₃ : World} (h : Step ρ₁ w₁ ρ₂ w₂) (k : Step ρ₂ w₂ ρ₃ w₃) : Step ρ₁ w₁ ρ₃ w₃ where
  le := h.le.trans k.le
  old := fun β i e hb => by
    obtain ⟨γ, j, e', hj, hr'⟩ := k.old β i e (Nat.lt_of_lt_of_le hb h.size)
    obtain ⟨δ, l, e'', hl, hr''⟩ := h.old γ j e' (hj ▸ hb)
    exact ⟨δ, l, e'', hl.trans hj, fun x => hr'' (hr' x)⟩
  os := k.os.trans h.os
  tape := k.tape.trans h.tape
  output := k.output.trans h.output
  size := Nat.le_trans h.size k.size
  frame := fun b hb hro => by
    rw [k.frame b (Nat.lt_of_lt_of_le hb h.size), h.frame b hb hro]
    intro β i e hi
    cases hc : i.ro with
    | true => rfl
    | false =>
      obtain ⟨γ, j, e', hj, hr'⟩ := h.old β i e (hi ▸ hb)
      have hr'' := hr' hc
      rw [hro γ j e' (hj.trans hi)] at hr''; cases hr''

/-- A world whose heap is the same. -/
theorem Step.same (ρ : Ren) {w w' : World} (hh : w'.heap = w.heap) (h1 : w'.os = w.os) (h2 : w'.tape = w.tape) (h3 : w'.output = w.output) : Step ρ w ρ w' :=
  ⟨.refl ρ, fun β i h _ => ⟨β, i, h, rfl, id⟩, h1, h2, h3, by rw [hh]; exact Nat.le_refl _, fun _ _ _ => by rw [hh]⟩

end
end Go.AE

/-
  AE, part 3: rows of cells in an abstract block and in a real one; load, store, alloc.
-/
namespace Go.AE
noncomputable section
set_option linter.unusedSimpArgs false
set_option linter.unusedVariables false

/-! ### Rows of a tree -/
def rowA (c : Row) (d : Value) (off : Nat) : Nat → List Value
  | 0 => []
  | n + 1 => (c.get off).getD d :: rowA c d (off + 1) n

def putRow (c : Row) (off : Nat) : List Value → Row
  | [] => c
  | v :: r => Row.pforce (c.set off (some v)) fun c' => putRow c' (off + 1) r

theorem putRow_cons (c : Row) (off : Nat) (v : Value) (r : List Value) : putRow c off (v :: r) = putRow (c.set off (some v)) (off + 1) r := Row.pforce_eq _ _

def ofRow (l : List Value) : Row := putRow .leaf 0 l

@[simp] theorem length_rowA (c : Row) (d : Value) : ∀ (n off : Nat), (rowA c d off n).length = n
  | 0, _ => rfl
  | n + 1, off => by simp [rowA, length_rowA c d n]

theorem getElem?_rowA (c : Row) (d : Value) : ∀ (n off j : Nat), j < n → (rowA c d off n)[j]? = some ((c.get (off + j)).getD d)
  | 0, _, _, h => absurd h (Nat.not_lt_zero _)
  | n + 1, off, 0, _ => by simp [rowA]
  | n + 1, off, j + 1, h => by
    simp only [rowA, List.getElem?_cons_succ]
    rw [getElem?_rowA c d n (off + 1) j (by omega), show off + 1 + j = off + (j + 1) by omega]

theorem get_putRow : ∀ (vs : List Value) (c : Row) (off j : Nat),
    (putRow c off vs).get j = if off ≤ j ∧ j < off + vs.length then some (vs.getD (j - off) undef) else c.get j
  | [], c, off, j => by
    have : ¬ (off ≤ j ∧ j < off + ([] : List Value).length) := by simp
    rw [if_neg this]; rfl
  | v :: r, c, off, j => by
    simp only [putRow_cons, List.length_cons]
    rw [get_putRow r]
    by_cases h : off ≤ j ∧ j < off + (r.length + 1)
    · rw [if_pos h]
      by_cases e : j = off
      · subst e
        rw [if_neg (by omega), Row.get_set_same]; simp
      · rw [if_pos (by omega)]
        have h1 : j - off = (j - (off + 1)) + 1 := by omega
        rw [h1]; simp
    · rw [if_neg h, if_neg (by omega), Row.get_set_ne _ _ _ _ (by omega)]

theorem get_ofRow (l : List Value) (j : Nat) : (ofRow l).get j = if j < l.length then some (l.getD j undef) else none := by
  unfold ofRow; rw [get_putRow]; simp

/-- Read, what stands in a row of single cells ahead of what stands in a stretch. -/
def mergeR (b : PT Value) (off : Nat) : List Value → List Value
  | [] => []
  | v :: r => (b.get off).getD v :: mergeR b (off + 1) r
theorem mergeR_get (b : PT Value) : ∀ (l : List Value) (off j : Nat), (mergeR b off l)[j]? = l[j]?.map fun v => (b.get (off + j)).getD v
  | [], _, _ => by simp [mergeR]
  | v :: r, off, 0 => by simp [mergeR]
  | v :: r, off, j + 1 => by
    simp only [mergeR, List.getElem?_cons_succ]
    rw [mergeR_get b r (off + 1) j, show off + 1 + j = off + (j + 1) by omega]

/-- As rowA; a whole stretch at once. -/
def rowB (c : Row) (d : Value) (off n : Nat) : List Value :=
  if n = 256 ∧ off % 256 = 0 then
    match c.b with
    | .leaf => (match c.k.get (off / 256) with
      | some l => if l.length = 256 then l else rowA c d off n
      | none => List.replicate 256 d)
    | _ => (match c.k.get (off / 256) with
      | some l => if l.length = 256 then mergeR c.b off l else rowA c d off n
      | none => mergeR c.b off (List.replicate 256 d))
  else rowA c d off n
theorem rowB_eq (c : Row) (d : Value) (off n : Nat) : rowB c d off n = rowA c d off n := by
  unfold rowB
  split
  case isFalse => rfl
  rename_i h
  obtain ⟨rfl, h2⟩ := h
  have key : ∀ (m : List Value), m.length = 256 → (∀ j, j < 256 → m[j]? = some ((c.get (off + j)).getD d)) → m = rowA c d off 256 := by
    intro m hm hj
    apply List.ext_getElem?
    intro j
    by_cases hlt : j < 256
    · rw [hj j hlt, getElem?_rowA _ _ _ _ _ hlt]
    · rw [List.getElem?_eq_none (by omega), List.getElem?_eq_none (by rw [length_rowA]; omega)]
  have rep : ∀ j, j < 256 → (List.replicate 256 d)[j]? = some d := fun j hj => by rw [List.getElem?_replicate, if_pos hj]
  have hdiv : ∀ j, j < 256 → (off + j) / 256 = off / 256 ∧ (off + j) % 256 = j := by intro j hj; omega
  have mlen : ∀ (b : PT Value) (l : List Value) (off : Nat), (mergeR b off l).length = l.length := by
    intro b l
    induction l with
    | nil => intro _; rfl
    | cons v r ih => intro off; simp [mergeR, ih]
  split
  · rename_i hb
    split
    · rename_i l hl
      split
      · rename_i h256
        refine key l h256 fun j hj => ?_
        obtain ⟨d1, d2⟩ := hdiv j hj
        rw [Row.get_eq, hb, PT.get_leaf, d1, d2, hl]
        simp [h256, hj]
      · rfl
    · rename_i hl
      refine key _ List.length_replicate fun j hj => ?_
      obtain ⟨d1, d2⟩ := hdiv j hj
      rw [Row.get_eq, hb, PT.get_leaf, d1, hl, rep j hj]
      rfl
  · split
    · rename_i l hl
      split
      · rename_i h256
        refine key _ (by rw [mlen, h256]) fun j hj => ?_
        obtain ⟨d1, d2⟩ := hdiv j hj
        rw [mergeR_get, Row.get_eq, d1, d2, hl]
        cases c.b.get (off + j) with
        | some v => simp [h256, hj]
        | none => simp [h256, hj]
      · rfl
    · rename_i hl
      refine key _ (by rw [mlen]; exact List.length_replicate) fun j hj => ?_
      obtain ⟨d1, d2⟩ := hdiv j hj
      rw [mergeR_get, Row.get_eq, d1, hl, rep j hj]
      cases c.b.get (off + j) <;> rfl

/-- As putRow, into a row of so many cells; a whole stretch at once. -/
def putB (c : Row) (n off : Nat) (vs : List Value) : Row :=
  if vs.length = 256 ∧ off % 256 = 0 then
    if n = 256 ∧ off = 0 then ⟨.leaf, (PT.leaf : PT (List Value)).set 0 (some vs)⟩
    else match c.b with
      | .leaf => PT.pforce (c.k.set (off / 256) (some vs)) fun k => ⟨.leaf, k⟩
      | _ => putRow c off vs
  else putRow c off vs
theorem get_putB (vs : List Value) (c : Row) (n off j : Nat) (hj : j < n) :
    (putB c n off vs).get j = if off ≤ j ∧ j < off + vs.length then some (vs.getD (j - off) undef) else c.get j := by
  unfold putB
  split
  case isFalse => exact get_putRow vs c off j
  rename_i h
  obtain ⟨h1, h2⟩ := h
  split
  · rename_i h3
    obtain ⟨rfl, rfl⟩ := h3
    rw [if_pos (by omega), Row.get_eq]
    simp only [PT.get_leaf]
    rw [show j / 256 = 0 by omega, PT.get_set_same, show j % 256 = j by omega]
    simp [List.getD, show j < vs.length by omega]
  · split
    · rename_i hb
      rw [PT.pforce_eq, Row.get_eq, Row.get_eq, hb]
      simp only [PT.get_leaf, PT.get_set]
      by_cases hin : off ≤ j ∧ j < off + vs.length
      · rw [if_pos hin, if_pos (by omega), show j % 256 = j - off by omega]
        simp [List.getD, show j - off < vs.length by omega]
      · rw [if_neg hin, if_neg (by omega)]
    · exact get_putRow vs c off j
@[simp] theorem putB_one (c : Row) (n off : Nat) (v : Value) : putB c n off [v] = putRow c off [v] := rfl

def ofRowB (l : List Value) : Row := putB .leaf l.length 0 l
theorem get_ofRowB (l : List Value) (j : Nat) (hj : j < l.length) : (ofRowB l).get j = some (l.getD j undef) := by
  unfold ofRowB; rw [get_putB _ _ _ _ _ hj, if_pos (by omega)]; simp

/-! ### Real rows -/
section
variable {P : Program}

theorem run_loadCells_row (w : World) (a : Addr) (C : Array Value) (elem : TypeId) (fz : Nat × Nat) (n : Nat) (hb : w.heap[a.block]? = some (.cells C elem fz)) (hs : a.spot = none)
    (hn : a.off + n ≤ C.size) : (loadCells a n).run P w = .ok ((List.range n).map fun j => C.getD (a.off + j) undef).toArray w := by
  refine run_loadCells w a n _ fun j hj => ?_
  obtain ⟨b, o, s⟩ := a
  simp only at hb hs hn ⊢
  subst hs
  have hj' : o + j < C.size := by omega
  rw [Addr.add_lit]
  simp [World.cell?, hb, hj', Array.getD]

theorem modify_eq (A : Array Obj) (b : Nat) (f : Obj → Obj) (o : Obj) (h : A[b]? = some o) : A.modify b f = A.setIfInBounds b (f o) := by
  apply Array.ext_getElem?
  intro i
  rw [Array.getElem?_modify, Array.getElem?_setIfInBounds]
  by_cases e : b = i
  · subst e
    obtain ⟨h1, h2⟩ := Array.getElem?_eq_some_iff.1 h
    simp [h1, h2]
  · simp [e]

theorem set_same (A : Array Obj) (b : Nat) (o : Obj) (h : A[b]? = some o) : A.setIfInBounds b o = A := by
  apply Array.ext_getElem?
  intro i
  rw [Array.getElem?_setIfInBounds]
  by_cases e : b = i
  · subst e
    obtain ⟨h1, h2⟩ := Array.getElem?_eq_some_iff.1 h
    simp [h1, h2]
  · simp [e]

theorem run_store_row (w : World) (b o : Nat) (C : Array Value) (elem : TypeId) (fz : Nat × Nat) (v : Value) (hb : w.heap[b]? = some (.cells C elem fz)) (hv : v.oneCell' = true)
    (hn : o < C.size) (hf : ¬ (fz.1 ≤ o ∧ o < fz.2)) : (store ⟨b, o, none⟩ v).run P w = .ok () { w with heap := w.heap.setIfInBounds b (.cells (C.setIfInBounds o v) elem fz) } := by
  rw [run_store P w _ v _ hv]
  have h1 : w.cell? ⟨b, o, none⟩ = some (C.getD o undef) := by simp [World.cell?, hb, hn, Array.getD]
  have h2 : w.frozen? ⟨b, o, none⟩ = false := by
    simp only [World.frozen?, hb]
    simp only [Bool.and_eq_false_iff, decide_eq_false_iff_not]
    omega
  rw [h1]
  simp only [h2, World.setCell, modify_eq _ _ _ _ hb]
  simp

theorem run_storeCells_row (b : Nat) (elem : TypeId) (fz : Nat × Nat) : ∀ (vs : List Value) (o i : Nat) (C : Array Value) (w : World), w.heap[b]? = some (.cells C elem fz) → (∀ v ∈ vs, v.oneCell' = true) →
    o + i + vs.length ≤ C.size → (∀ j, j < vs.length → ¬ (fz.1 ≤ o + i + j ∧ o + i + j < fz.2)) →
    ∃ C' : Array Value, C'.size = C.size ∧ (∀ j, C'.getD j undef = if o + i ≤ j ∧ j < o + i + vs.length then vs.getD (j - (o + i)) undef else C.getD j undef) ∧
      (storeCells ⟨b, o, none⟩ vs i).run P w = .ok () { w with heap := w.heap.setIfInBounds b (.cells C' elem fz) }
  | [], o, i, C, w, hb, _, _, _ => by
    refine ⟨C, rfl, fun j => ?_, ?_⟩
    · rw [if_neg (by simp)]
    · rw [set_same _ _ _ hb]; rfl
  | v :: r, o, i, C, w, hb, hv, hn, hf => by
    simp only [List.length_cons] at hn hf
    have hst := run_store_row (P := P) w b (o + i) C elem fz v hb (hv v (by simp)) (by omega) (by have := hf 0 (by omega); simpa using this)
    have hbb := (Array.getElem?_eq_some_iff.1 hb).1
    obtain ⟨C', hs, hg, hr⟩ := run_storeCells_row b elem fz r o (i + 1) (C.setIfInBounds (o + i) v) { w with heap := w.heap.setIfInBounds b (.cells (C.setIfInBounds (o + i) v) elem fz) }
      (by simp [hbb]) (fun x hx => hv x (by simp [hx])) (by simp; omega) (fun j hj => by have := hf (j + 1) (by omega); rwa [show o + i + (j + 1) = o + (i + 1) + j by omega] at this)
    refine ⟨C', by simpa using hs, fun j => ?_, ?_⟩
    · rw [hg j]
      by_cases h : o + i ≤ j ∧ j < o + i + (r.length + 1)
      · rw [List.length_cons, if_pos h]
        by_cases e : j = o + i
        · subst e
          rw [if_neg (by omega)]
          have : o + i < C.size := by omega
          simp [Array.getD, this]
        · rw [if_pos (by omega)]
          have h1 : j - (o + i) = (j - (o + (i + 1))) + 1 := by omega
          rw [h1]; simp
      · rw [List.length_cons, if_neg h, if_neg (by omega)]
        have : o + i ≠ j := by omega
        simp only [Array.getD_eq_getD_getElem?, Array.getElem?_setIfInBounds_ne this]
    · simp only [storeCells, Sem.run_bind, Addr.add_lit, hst, Result.andThen_ok, hr]
      simp
end

/-! ### What a value's cells stand for -/
theorem V.cells {ρ : Ren} {v v' : Value} (h : V ρ v v') (hv : ∀ cs, v ≠ .tuple cs) : VS ρ v.cells v'.cells := by
  have one : ∀ {x y : Value}, V ρ x y → x.cells = #[x] → y.cells = #[y] → VS ρ x.cells y.cells := by
    intro x y h hx hy
    rw [hx, hy]
    refine ⟨rfl, fun j hj => ?_⟩
    have : j = 0 := by simpa using hj
    subst this; exact h
  cases h with
  | any v => exact absurd rfl (hv _)
  | tuple cs cs' h1 hc k => exact absurd rfl (hv _)
  | over => exact absurd rfl (hv _)
  | agg cs cs' hc k => exact ⟨hc, k⟩
  | bool b => exact one (.bool b) rfl rfl
  | int k n => exact one (.int k n) rfl rfl
  | float k n => exact one (.float k n) rfl rfl
  | string s => exact one (.string s) rfl rfl
  | nilPointer => exact one .nilPointer rfl rfl
  | pointer x a h => exact one (.pointer x a h) rfl rfl
  | nilSlice n c => exact one (.nilSlice n c) rfl rfl
  | slice x a n k c hn h => exact one (.slice x a n k c hn h) rfl rfl
  | nilMap => exact one .nilMap rfl rfl
  | map r r' i h hb => exact one (.map r r' i h hb) rfl rfl
  | func f f' as as' cs cs' hf ha hc k l => exact one (.func f f' as as' cs cs' hf ha hc k l) rfl rfl
  | nilFunc => exact one .nilFunc rfl rfl
  | iface t v v' h => exact one (.iface t v v' h) rfl rfl
  | nilIface => exact one .nilIface rfl rfl

theorem V.oneCell {ρ : Ren} {v v' : Value} (h : V ρ v v') (hv : v.oneCell' = true) : v'.oneCell' = true := by
  cases h <;> first | rfl | (simp [Value.oneCell'] at hv)

/-! ### Load -/
def isAggT (P : Program) (t : TypeId) : Option Bool :=
  match P.underlying t with
  | some (.struct _) | some (.array _ _) => some true
  | some _ => some false
  | none => none

theorem run_isAgg {P : Program} {t : TypeId} {b : Bool} (h : isAggT P t = some b) (w : World) : (isAgg t).run P w = .ok b w := by
  unfold isAggT at h
  unfold isAgg
  cases hu : P.underlying t with
  | none => rw [hu] at h; cases h
  | some d =>
    rw [hu] at h
    simp only [Sem.run_bind, run_underlying hu, Result.andThen_ok]
    cases d <;> simp at h <;> subst h <;> rfl

theorem run_info {P : Program} {t : TypeId} {i : TypeInfo} (h : P.info? t = some i) (w : World) : (typeInfo t).run P w = .ok i w := by
  simp [typeInfo, h]

theorem run_size {P : Program} {t : TypeId} {i : TypeInfo} (h : P.info? t = some i) (w : World) : (sizeOf t).run P w = .ok i.size w := by
  simp [sizeOf, run_info h]

def loadA (P : Program) (t : TypeId) (x : Addr) (h : AH) : Option Value :=
  match h.get x.block with
  | some (.cells c n _ _ _ _ _ d) =>
    if x.spot.isSome then none else
    match isAggT P t with
    | some true => match P.info? t with
      | some i => if x.off + i.size ≤ n then some (.agg (rowB c d x.off i.size).toArray) else none
      | none => none
    | some false => if x.off < n then some ((c.get x.off).getD d) else none
    | none => none
  | _ => none

theorem loadA_sim {P : Program} {ρ : Ren} {h : AH} {w : World} {t : TypeId} {x a : Addr} {v : Value} (hR : Rel ρ h w.heap) (hA : ARel ρ x a) (hl : loadA P t x h = some v) :
    ∃ v', (loadVar t a).run P w = .ok v' w ∧ V ρ v v' := by
  unfold loadA at hl
  split at hl
  · rename_i c n elem fz esz op ro d hg
    obtain ⟨i, b, hi, hb, C, rfl, e2, e3, e4, e5, e6, e7, e8, e9, hv⟩ := hR.obj _ _ hg
    obtain ⟨i', hi', ab, ao, asp⟩ := hA
    obtain rfl : i = i' := by rw [hi] at hi'; exact Option.some.inj hi'
    split at hl
    · cases hl
    rename_i hsp
    have hs : a.spot = none := by rw [asp]; simpa using hsp
    split at hl
    · rename_i hag
      split at hl
      · rename_i inf hinf
        split at hl
        · rename_i hle
          cases hl
          rw [rowB_eq]
          refine ⟨_, by
            simp only [loadVar, Sem.run_bind, run_isAgg hag, Result.andThen_ok, if_true, run_size hinf, Sem.run_ite]
            rw [run_loadCells_row w a C elem fz inf.size (by rw [ab]; exact hb) hs (by rw [ao]; omega)]
            rfl, ?_⟩
          refine .agg _ _ (by simp) fun j hj => ?_
          simp only [List.size_toArray, length_rowA] at hj
          have h1 : ((rowA c d x.off inf.size).toArray).getD j (.tuple #[]) = (c.get (x.off + j)).getD d := by
            simp [Array.getD_eq_getD_getElem?, getElem?_rowA _ _ _ _ _ hj]
          have h2 : (((List.range inf.size).map fun j => C.getD (a.off + j) undef).toArray).getD j (.tuple #[]) = C.getD (a.off + j) undef := by
            simp [Array.getD_eq_getD_getElem?, hj]
          rw [h1, h2]
          have := hv (x.off + j) (by omega)
          rwa [show i.s + (x.off + j) = a.off + j by omega] at this
        · cases hl
      · cases hl
    · rename_i hag
      split at hl
      · rename_i hle
        cases hl
        have hsz : a.off < C.size := by omega
        refine ⟨C.getD a.off undef, ?_, ?_⟩
        · simp only [loadVar, Sem.run_bind, run_isAgg hag, Result.andThen_ok, Sem.run_ite]
          obtain ⟨ab', ao', as'⟩ := a
          simp only at ab hs hsz
          subst hs ab
          have : w.cell? ⟨i.b, ao', none⟩ = some (C.getD ao' undef) := by simp [World.cell?, hb, hsz, Array.getD]
          simp [run_load, this]
        · have := hv x.off hle
          rwa [show i.s + x.off = a.off by omega] at this
      · cases hl
    · cases hl
  · cases hl

/-! ### New rows -/
theorem Rel.alloc {ρ : Ren} {h : AH} {w : Array Obj} (hR : Rel ρ h w) (o : AObj) (b : Obj) (i : Info) (hib : i.b = w.size)
    (hO : ORel (ρ.put h.next i) i o b) : Rel (ρ.put h.next i) (h.push o) (w.push b) where
  lt := fun β j hj => by
    simp only [Ren.put] at hj
    split at hj
    · cases hj; rename_i e; subst e; simp [hib]
    · have := hR.lt β j hj; simp; omega
  obj := fun β p hp => by
    rw [AH.get_push] at hp
    split at hp
    · rename_i e; subst e; cases hp
      exact ⟨i, b, by simp [Ren.put], by simp [hib], hO⟩
    · rename_i e
      obtain ⟨j, b', hj, hb', hO'⟩ := hR.obj β p hp
      have hlt := (hR.lt β j hj).1
      refine ⟨j, b', by simp [Ren.put, e, hj], ?_, hO'.mono ?_⟩
      · rw [Array.getElem?_push_lt hlt]; simpa using (Array.getElem?_eq_some_iff.1 hb').2
      · intro γ k hk
        simp only [Ren.put]
        split
        · rename_i e'; subst e'; exact absurd (hR.lt _ k hk).2 (Nat.lt_irrefl _)
        · exact hk
  inj := fun β γ o' p' k l hb hg hk hl e => by
    rw [AH.get_push] at hb hg
    simp only [Ren.put] at hk hl
    by_cases e1 : β = h.next
    · by_cases e2 : γ = h.next
      · rw [e1, e2]
      · simp only [e1, if_true] at hk; simp only [e2, if_false] at hl
        cases hk
        have := (hR.lt γ l hl).1
        omega
    · by_cases e2 : γ = h.next
      · simp only [e2, if_true] at hl; simp only [e1, if_false] at hk
        cases hl
        have := (hR.lt β k hk).1
        omega
      · simp only [e1, e2, if_false] at hb hg hk hl
        exact hR.inj β γ o' p' k l hb hg hk hl e

theorem Ren.le_put {ρ : Ren} {h : AH} {w : Array Obj} (hR : Rel ρ h w) (i : Info) : Ren.Le ρ (ρ.put h.next i) := fun γ k hk => by
  simp only [Ren.put]
  split
  · rename_i e'; subst e'; exact absurd (hR.lt _ k hk).2 (Nat.lt_irrefl _)
  · exact hk

theorem Step.alloc {ρ : Ren} {h : AH} {w : World} (hR : Rel ρ h w.heap) (b : Obj) (i : Info) (hib : i.b = w.heap.size) :
    Step ρ w (ρ.put h.next i) { w with heap := w.heap.push b } where
  le := Ren.le_put hR i
  old := fun β j hj hb => by
    simp only [Ren.put] at hj
    split at hj
    · cases hj; omega
    · exact ⟨β, j, hj, rfl, id⟩
  os := rfl
  tape := rfl
  output := rfl
  size := by simp
  frame := fun b' hb' _ => by simp [Array.getElem?_push_lt hb']

/-- The object of a new row. -/
def rowObj (cells : List Value) (elem : TypeId) (esz : Nat) (op : Bool) : AObj := .cells (ofRow cells) cells.length elem (0, 0) esz op false undef

def newInfo (b n N esz : Nat) (op : Bool) : Info := { b, s := 0, n, N, esz, op, ro := false }

theorem newRow_orel {ρ : Ren} {xs : List Value} {ys : Array Value} (hv : VS ρ xs.toArray ys) (elem : TypeId) (b esz : Nat) :
    ORel ρ (newInfo b xs.length xs.length esz false) (rowObj xs elem esz false) (.cells ys elem) := by
  obtain ⟨h1, h2⟩ := hv
  simp only [List.size_toArray] at h1 h2
  refine ⟨ys, rfl, rfl, rfl, rfl, rfl, h1.symm, by simp [newInfo], fun _ => ⟨rfl, rfl⟩, fun _ => rfl, fun j hj => ?_⟩
  have := h2 j hj
  rw [get_ofRow, if_pos hj]
  simpa [newInfo, Array.getD_eq_getD_getElem?, List.getD] using this

theorem newRow_sim {P : Program} {ρ : Ren} {h : AH} {w : World} {xs : List Value} {ys : Array Value} (hR : Rel ρ h w.heap) (hv : VS ρ xs.toArray ys) (elem : TypeId) (esz : Nat) :
    (newRow elem ys).run P w = .ok ⟨w.heap.size, 0, none⟩ { w with heap := w.heap.push (.cells ys elem) } ∧
      Step ρ w (ρ.put h.next (newInfo w.heap.size xs.length xs.length esz false)) { w with heap := w.heap.push (.cells ys elem) } ∧
      Rel (ρ.put h.next (newInfo w.heap.size xs.length xs.length esz false)) (h.push (rowObj xs elem esz false)) (w.heap.push (.cells ys elem)) ∧
      ARel (ρ.put h.next (newInfo w.heap.size xs.length xs.length esz false)) ⟨h.next, 0, none⟩ ⟨w.heap.size, 0, none⟩ := by
  refine ⟨by simp [newRow], Step.alloc hR _ _ rfl, hR.alloc _ _ _ rfl ?_, ⟨newInfo w.heap.size xs.length xs.length esz false, by simp [Ren.put], rfl, rfl, rfl⟩⟩
  exact newRow_orel (hv.mono (Ren.le_put hR _)) _ _ _

/-- As rowObj; a whole stretch at once. -/
def rowObjB (cells : List Value) (elem : TypeId) (esz : Nat) : AObj := .cells (ofRowB cells) cells.length elem (0, 0) esz false false undef
theorem newRow_orelB {ρ : Ren} {xs : List Value} {ys : Array Value} (hv : VS ρ xs.toArray ys) (elem : TypeId) (b esz : Nat) :
    ORel ρ (newInfo b xs.length xs.length esz false) (rowObjB xs elem esz) (.cells ys elem) := by
  obtain ⟨h1, h2⟩ := hv
  simp only [List.size_toArray] at h1 h2
  refine ⟨ys, rfl, rfl, rfl, rfl, rfl, h1.symm, by simp [newInfo], fun _ => ⟨rfl, rfl⟩, fun _ => rfl, fun j hj => ?_⟩
  have := h2 j hj
  rw [get_ofRowB _ _ hj]
  simpa [newInfo, Array.getD_eq_getD_getElem?, List.getD] using this
theorem newRow_simB {P : Program} {ρ : Ren} {h : AH} {w : World} {xs : List Value} {ys : Array Value} (hR : Rel ρ h w.heap) (hv : VS ρ xs.toArray ys) (elem : TypeId) (esz : Nat) :
    (newRow elem ys).run P w = .ok ⟨w.heap.size, 0, none⟩ { w with heap := w.heap.push (.cells ys elem) } ∧
      Step ρ w (ρ.put h.next (newInfo w.heap.size xs.length xs.length esz false)) { w with heap := w.heap.push (.cells ys elem) } ∧
      Rel (ρ.put h.next (newInfo w.heap.size xs.length xs.length esz false)) (h.push (rowObjB xs elem esz)) (w.heap.push (.cells ys elem)) ∧
      ARel (ρ.put h.next (newInfo w.heap.size xs.length xs.length esz false)) ⟨h.next, 0, none⟩ ⟨w.heap.size, 0, none⟩ := by
  refine ⟨by simp [newRow], Step.alloc hR _ _ rfl, hR.alloc _ _ _ rfl ?_, ⟨newInfo w.heap.size xs.length xs.length esz false, by simp [Ren.put], rfl, rfl, rfl⟩⟩
  exact newRow_orelB (hv.mono (Ren.le_put hR _)) _ _ _

/-! ### Store -/
/-- Cells are written in a row. -/
def putCells (x : Addr) (vs : List Value) (h : AH) : Option AH :=
  match h.get x.block with
  | some (.cells c n elem fz esz op false d) =>
    if x.spot.isNone && vs.all (·.oneCell') && decide (x.off + vs.length ≤ n) && (decide (x.off + vs.length ≤ fz.1) || decide (fz.2 ≤ x.off)) then
      some (h.set x.block (.cells (putB c n x.off vs) n elem fz esz op false d))
    else none
  | _ => none

def storeA (P : Program) (t : TypeId) (x : Addr) (v : Value) (h : AH) : Option AH :=
  match P.info? t with
  | some i => if v.cells.size = i.size then putCells x v.cells.toList h else none
  | none => none

/-- A block's cells are written anew. -/
theorem Rel.setCells {ρ : Ren} {h : AH} {w : Array Obj} (hR : Rel ρ h w) {β : Nat} {o o' : AObj} {i : Info} {b : Obj} (hg : h.get β = some o) (hi : ρ β = some i) (hO : ORel ρ i o' b) :
    Rel ρ (h.set β o') (w.setIfInBounds i.b b) where
  lt := fun γ j hj => by have := hR.lt γ j hj; simpa using this
  obj := fun γ p hp => by
    rw [AH.get_set] at hp
    split at hp
    · rename_i e; subst e; cases hp
      exact ⟨i, b, hi, by have := (hR.lt _ i hi).1; simp [this], hO⟩
    · rename_i e
      obtain ⟨j, b', hj, hb', hO'⟩ := hR.obj γ p hp
      refine ⟨j, b', hj, ?_, hO'⟩
      have hne : i.b ≠ j.b := fun hne => e (hR.inj γ β p o j i hp hg hj hi hne.symm)
      rw [Array.getElem?_setIfInBounds_ne hne]; exact hb'
  inj := fun γ δ p q k l hp hq hk hl e => by
    rw [AH.get_set] at hp hq
    have f : ∀ {γ : Nat} {p : AObj}, (if γ = β then some o' else h.get γ) = some p → ∃ p', h.get γ = some p' := by
      intro γ p hp
      split at hp
      · rename_i e'; subst e'; exact ⟨_, hg⟩
      · exact ⟨_, hp⟩
    obtain ⟨p', hp'⟩ := f hp
    obtain ⟨q', hq'⟩ := f hq
    exact hR.inj γ δ p' q' k l hp' hq' hk hl e

theorem Step.set {ρ : Ren} {w : World} {β : Nat} {i : Info} (hi : ρ β = some i) (hr : i.ro = false) (b : Obj) :
    Step ρ w ρ { w with heap := w.heap.setIfInBounds i.b b } where
  le := .refl ρ
  old := fun β j hj _ => ⟨β, j, hj, rfl, id⟩
  os := rfl
  tape := rfl
  output := rfl
  size := by simp
  frame := fun b' hb' hro => by
    have hne : i.b ≠ b' := fun e => by have := hro β i hi e; rw [hr] at this; cases this
    simp [Array.getElem?_setIfInBounds_ne hne]

theorem VS.all_one {ρ : Ren} {xs ys : Array Value} (h : VS ρ xs ys) (hx : xs.all (·.oneCell') = true) : ∀ v ∈ ys.toList, v.oneCell' = true := by
  intro v hv
  obtain ⟨j, hj, rfl⟩ := List.mem_iff_getElem.1 hv
  simp only [Array.length_toList] at hj
  have h1 := h.2 j (h.1 ▸ hj)
  have hjx : j < xs.size := h.1 ▸ hj
  rw [Array.all_eq_true] at hx
  have h2 := hx j hjx
  have := h1.oneCell (by simpa [Array.getD, hjx] using h2)
  simpa [Array.getD, hj] using this

theorem not_tuple_of_all {v : Value} (h : v.cells.all (·.oneCell') = true) : ∀ cs, v ≠ .tuple cs := by
  intro cs e; subst e; simp [Value.cells, Value.oneCell'] at h

theorem V.tuple_cells {v : Value} (h : v.cells.toList.all (·.oneCell') = true) : ∀ cs, v ≠ .tuple cs := by
  intro cs e; subst e; simp [Value.cells, Value.oneCell'] at h

theorem putCells_sim {P : Program} {ρ : Ren} {h h' : AH} {w : World} {x a : Addr} {vs vs' : List Value} (hR : Rel ρ h w.heap) (hA : ARel ρ x a) (hV : VS ρ vs.toArray vs'.toArray)
    (hs : putCells x vs h = some h') : ∃ w', (storeCells a vs').run P w = .ok () w' ∧ Step ρ w ρ w' ∧ Rel ρ h' w'.heap := by
  unfold putCells at hs
  split at hs
  · rename_i c n elem fz esz op d hg
    split at hs
    · rename_i hc
      cases hs
      simp only [Bool.and_eq_true, Bool.or_eq_true, decide_eq_true_eq, Option.isNone_iff_eq_none] at hc
      obtain ⟨⟨⟨hsp, hall⟩, hle⟩, hfz⟩ := hc
      obtain ⟨i, b, hi, hb, C, rfl, e2, e3, e4, e5, e6, e7, e8, e9, hv⟩ := hR.obj _ _ hg
      obtain ⟨i', hi', ab, ao, asp⟩ := hA
      obtain rfl : i = i' := by rw [hi] at hi'; exact Option.some.inj hi'
      have hsz' : vs'.length = vs.length := by have := hV.1; simpa using this.symm
      have hfr : ∀ j, j < vs'.length → ¬ (fz.1 ≤ a.off + 0 + j ∧ a.off + 0 + j < fz.2) := by
        intro j hj
        cases hop : op with
        | true => rw [e9 hop]; simp
        | false => have := (e8 hop).1; omega
      have hall' : ∀ v ∈ vs', v.oneCell' = true := by
        have := hV.all_one (by simpa using hall)
        simpa using this
      obtain ⟨C', hC1, hC2, hrun⟩ := run_storeCells_row (P := P) i.b elem fz vs' a.off 0 C w hb hall' (by omega) hfr
      refine ⟨_, ?_, Step.set hi e4 _, Rel.setCells hR hg hi (b := .cells C' elem fz) ⟨C', rfl, e2, e3, e4, e5, hC1.trans e6, e7, e8, e9, fun j hj => ?_⟩⟩
      · have ha : a = ⟨i.b, a.off, none⟩ := by
          obtain ⟨x1, x2, x3⟩ := a
          simp only at ab asp
          rw [ab, asp, hsp]
        rw [ha]; exact hrun
      · rw [get_putB _ _ _ _ _ hj, hC2]
        by_cases hin : x.off ≤ j ∧ j < x.off + vs.length
        · rw [if_pos hin, if_pos (by rw [hsz']; omega)]
          have := hV.2 (j - x.off) (by simp; omega)
          rw [show i.s + j - (a.off + 0) = j - x.off by omega]
          simpa [Array.getD_eq_getD_getElem?, List.getD] using this
        · rw [if_neg hin, if_neg (by rw [hsz']; omega)]
          exact hv j hj
    · cases hs
  · cases hs

theorem putCells_all {x : Addr} {vs : List Value} {h h' : AH} (hs : putCells x vs h = some h') : vs.all (·.oneCell') = true := by
  unfold putCells at hs
  split at hs
  · split at hs
    · rename_i hc
      simp only [Bool.and_eq_true] at hc
      exact hc.1.1.2
    · cases hs
  · cases hs

theorem storeA_sim {P : Program} {ρ : Ren} {h h' : AH} {w : World} {t : TypeId} {x a : Addr} {v v' : Value} (hR : Rel ρ h w.heap) (hA : ARel ρ x a) (hV : V ρ v v')
    (hs : storeA P t x v h = some h') : ∃ w', (storeVar t a v').run P w = .ok () w' ∧ Step ρ w ρ w' ∧ Rel ρ h' w'.heap := by
  unfold storeA at hs
  split at hs
  · rename_i inf hinf
    split at hs
    · rename_i hsz
      have hcs := hV.cells (V.tuple_cells (putCells_all hs))
      obtain ⟨w', hrun, hst, hR'⟩ := putCells_sim (P := P) (vs' := v'.cells.toList) hR hA (by simpa using hcs) hs
      refine ⟨w', ?_, hst, hR'⟩
      have hsz' : v'.cells.size = inf.size := by rw [← hcs.1]; exact hsz
      simp only [storeVar, Sem.run_bind, run_size hinf, Result.andThen_ok, hsz', ne_eq, not_true_eq_false, if_false, Sem.run_ite]
      exact hrun
    · cases hs
  · cases hs

end
end Go.AE

/-
  AE, part 4: operations that touch no memory; places; rows that are made; append; copy.
-/
namespace Go.AE
noncomputable section
set_option linter.unusedSimpArgs false
set_option linter.unusedVariables false
variable {P : Program} {ρ : Ren} {h : AH} {w : World}

/-! ### What a tree without memory yields -/
def semP (P : Program) {α : Type} : Sem α → Option α
  | .pure a => some a
  | .program k => semP P (k P)
  | _ => none

theorem semP_run {α : Type} {s : Sem α} {a : α} (h : semP P s = some a) (w : World) : s.run P w = .ok a w := by
  induction s with
  | pure b => simp only [semP, Option.some.injEq] at h; subst h; rfl
  | program k ih => simp only [semP] at h; exact ih P h
  | _ => simp [semP] at h

/-- A value without an address in it, known whole. -/
def plain1 : Value → Bool
  | .bool _ | .int _ _ | .float _ _ | .string _ | .pointer none | .slice none _ _ | .map none | .nilFunc | .nilIface => true
  | _ => false
def plain : Value → Bool
  | .agg cs => cs.toList.all plain1
  | .iface _ v => plain1 v
  | v => plain1 v

theorem V.plain1 {v v' : Value} (hV : V ρ v v') (h : plain1 v = true) : v' = v := by
  cases hV <;> first | rfl | (simp [AE.plain1] at h)

theorem VS.plain1 {xs ys : Array Value} (hs : VS ρ xs ys) (h : xs.all AE.plain1 = true) : ys = xs := by
  rw [Array.all_eq_true] at h
  apply Array.ext
  · exact hs.1.symm
  · intro j h1 h2
    have := (hs.2 j h2).plain1 (by simpa [Array.getD, h2] using h j h2)
    simpa [Array.getD, h1, h2] using this

theorem V.plain {v v' : Value} (hV : V ρ v v') (h : plain v = true) : v' = v := by
  cases hV with
  | agg cs cs' hc k => exact congrArg Value.agg (VS.plain1 (ρ := ρ) ⟨hc, k⟩ (by simpa [AE.plain] using h))
  | iface t v v' k => exact congrArg (Value.iface t) (k.plain1 h)
  | _ => first | rfl | (simp [AE.plain, AE.plain1] at h)

theorem V.refl1 {v : Value} (h : AE.plain1 v = true) : V ρ v v := by
  cases v with
  | bool b => exact .bool b
  | int k n => exact .int k n
  | float k n => exact .float k n
  | string s => exact .string s
  | pointer a => cases a with
    | none => exact .nilPointer
    | some a => simp [AE.plain1] at h
  | slice a n c => cases a with
    | none => exact .nilSlice n c
    | some a => simp [AE.plain1] at h
  | map r => cases r with
    | none => exact .nilMap
    | some r => simp [AE.plain1] at h
  | nilFunc => exact .nilFunc
  | nilIface => exact .nilIface
  | _ => simp [AE.plain1] at h

theorem VS.refl1 {xs : Array Value} (h : xs.all AE.plain1 = true) : VS ρ xs xs := by
  rw [Array.all_eq_true] at h
  exact ⟨rfl, fun j hj => by
    have := h j hj
    have e : xs.getD j undef = xs[j] := by simp [Array.getD, hj]
    rw [e]; exact V.refl1 this⟩

theorem V.reflP {v : Value} (h : AE.plain v = true) : V ρ v v := by
  cases v with
  | agg cs => exact .agg _ _ rfl (VS.refl1 (ρ := ρ) (by simpa [AE.plain] using h)).2
  | iface t v => exact .iface t v v (V.refl1 h)
  | _ => exact V.refl1 h

/-- What is yielded without memory, of plain things: a plain thing. -/
def plainOf (P : Program) (s : Sem Value) : Option Value :=
  match semP P s with
  | some v => if plain v then some v else none
  | none => none

theorem plainOf_sim {s : Sem Value} {v : Value} (h : plainOf P s = some v) (w : World) : s.run P w = .ok v w ∧ V ρ v v := by
  unfold plainOf at h
  split at h
  · rename_i u hu
    split at h
    · rename_i hp; cases h; exact ⟨semP_run hu w, V.reflP hp⟩
    · cases h
  · cases h

/-! ### Comparisons with nil -/
def eqNil (P : Program) (t : TypeId) : Value → Value → Option Bool
  | .pointer none, .pointer b => (match P.underlying t with | some (.pointer _) => some b.isNone | _ => none)
  | .pointer (some _), .pointer none => (match P.underlying t with | some (.pointer _) => some false | _ => none)
  | .slice none _ _, .slice b _ _ => (match P.underlying t with | some (.slice _) => some b.isNone | _ => none)
  | .slice (some _) _ _, .slice none _ _ => (match P.underlying t with | some (.slice _) => some false | _ => none)
  | .map none, .map b => (match P.underlying t with | some (.map _ _) => some b.isNone | _ => none)
  | .map (some _), .map none => (match P.underlying t with | some (.map _ _) => some false | _ => none)
  | .func _ _ _, .nilFunc => (match P.underlying t with | some (.func _ _ _) => some false | _ => none)
  | .nilFunc, .func _ _ _ => (match P.underlying t with | some (.func _ _ _) => some false | _ => none)
  | .nilFunc, .nilFunc => (match P.underlying t with | some (.func _ _ _) => some true | _ => none)
  | .iface _ _, .nilIface => (match P.underlying t with | some (.interface _) => some false | _ => none)
  | .nilIface, .iface _ _ => (match P.underlying t with | some (.interface _) => some false | _ => none)
  | _, _ => none

theorem eqNil_sim {t : TypeId} {x y x' y' : Value} {b : Bool} (hx : V ρ x x') (hy : V ρ y y') (he : eqNil P t x y = some b) (w : World) (op : BinOp) (ox oy : Operand) :
    (Op.equal t x' y').run P w = .ok b w ∧ (eqGuard op t ox oy x' y').run P w = .ok () w ∧ binOp .eql t x' y' = (do let c ← Op.equal t x' y'; pure (.bool c)) ∧
      binOp .neq t x' y' = (do let c ← Op.equal t x' y'; pure (.bool (!c))) := by
  obtain ⟨d, hd⟩ : ∃ d, Op.maxDepth = d + 1 := ⟨9999, rfl⟩
  unfold eqNil at he
  split at he <;> (try (cases he; done)) <;> (split at he <;> (try (cases he; done))) <;> (cases he) <;> (rename_i hu) <;>
    (cases hx <;> cases hy <;> refine ⟨by rw [Op.equal, hd]; simp only [Op.equalIn, Sem.run_bind, run_underlying hu, Result.andThen_ok]; rfl, ?_, rfl, rfl⟩ <;> (cases op <;> rfl))

end
end Go.AE

/-
  AE, part 5: places, slices, rows that are made, append, copy.
-/
namespace Go.AE
noncomputable section
set_option linter.unusedSimpArgs false
set_option linter.unusedVariables false
variable {P : Program} {ρ : Ren} {h : AH} {w : World}

theorem ARel.add {x a : Addr} (k : ARel ρ x a) (n : Nat) : ARel ρ (x.add n) (a.add n) := by
  obtain ⟨i, e, e1, e2, e3⟩ := k
  unfold Addr.add
  by_cases hn : n = 0
  · simp only [hn, if_true]; exact ⟨i, e, e1, e2, e3⟩
  · simp only [hn, if_false]; exact ⟨i, e, e1, by simp only; omega, rfl⟩

/-- A slice of some length is a row of variables from its head on. -/
theorem SRel.head {x a : Addr} {k c : Nat} (h : SRel ρ x a k c) (hk : 0 < k) : ARel ρ x a := by
  obtain ⟨i, e, e1, e2, h⟩ := h
  rcases h with ⟨_, h⟩ | ⟨_, _, _, _, h⟩
  · exact ⟨i, e, e1, h, e2⟩
  · exact ⟨i, e, e1, (h hk).2, e2⟩

/-! ### Fields, indices -/
def fieldAddrA (P : Program) (s : TypeId) (x : Value) (f : Nat) : Option Value :=
  match x, P.underlying s with
  | .pointer (some a), some (.struct fields) =>
    match fields[f]? with
    | some fd => match P.info? fd.type with
      | some i => if i.size = 0 then none else some (.pointer (some (a.add fd.offset)))
      | none => none
    | none => none
  | _, _ => none

theorem fieldAddrA_sim {s : TypeId} {x x' : Value} {f : Nat} {v : Value} (hx : V ρ x x') (hs : fieldAddrA P s x f = some v) (w : World) :
    ∃ v', (Instr.fieldAt s x' f).run P w = .ok v' w ∧ V ρ v v' := by
  unfold fieldAddrA at hs
  split at hs
  · rename_i a fields hu
    cases hx with
    | pointer _ b hA =>
      split at hs
      · rename_i fd hfd
        split at hs
        · rename_i i hi
          split at hs
          · cases hs
          rename_i hz
          cases hs
          refine ⟨.pointer (some (b.add fd.offset)), ?_, .pointer _ _ (hA.add _)⟩
          simp [Instr.fieldAt, run_underlying hu, hfd, Instr.sureAddr, fieldPlace, run_size hi, hz]
        · cases hs
      · cases hs
  · cases hs

def indexAddrA (P : Program) (t : TypeId) (x ix : Value) : Option Value :=
  match ix, P.underlying t, x with
  | .int _ i, some (.array len elem), .pointer (some a) =>
    match P.info? elem with
    | some inf => if 0 ≤ i ∧ i < len then some (.pointer (some (a.add (i.toNat * inf.size)))) else none
    | none => none
  | .int _ i, some (.slice elem), .slice (some a) len _ =>
    match P.info? elem with
    | some inf => if 0 ≤ i ∧ i < len then some (.pointer (some (a.add (i.toNat * inf.size)))) else none
    | none => none
  | _, _, _ => none

theorem indexAddrA_sim {t : TypeId} {x x' ix ix' : Value} {v : Value} (hx : V ρ x x') (hix : V ρ ix ix') (hs : indexAddrA P t x ix = some v) (w : World) :
    ∃ v', (Instr.indexAt t x' ix').run P w = .ok v' w ∧ V ρ v v' := by
  unfold indexAddrA at hs
  split at hs
  · rename_i k i len elem a hu
    cases hix
    cases hx with
    | pointer _ b hA =>
      split at hs
      · rename_i inf hi
        split at hs
        · rename_i hr
          cases hs
          refine ⟨.pointer (some (b.add (i.toNat * inf.size))), ?_, .pointer _ _ (hA.add _)⟩
          simp [Instr.indexAt, asIntOf, run_underlying hu, Instr.sureAddr, hr, run_size hi]
        · cases hs
      · cases hs
  · rename_i k i elem a len c hu
    cases hix
    cases hx with
    | slice _ b _ _ c' hn hS =>
      split at hs
      · rename_i inf hi
        split at hs
        · rename_i hr
          cases hs
          refine ⟨.pointer (some (b.add (i.toNat * inf.size))), ?_, .pointer _ _ ((hS.head (by omega)).add _)⟩
          simp [Instr.indexAt, asIntOf, run_underlying hu, hr, run_size hi]
        · cases hs
      · cases hs
  · cases hs

/-! ### Slices of slices -/
def boundsA (len cap : Nat) (lo hi mx : Option Value) : Option (Nat × Nat × Nat) :=
  match (match mx with | some (.int _ i) => if 0 ≤ i ∧ i ≤ cap then some i.toNat else none | none => some cap | _ => none) with
  | none => none
  | some m =>
    match (match hi with | some (.int _ i) => if 0 ≤ i ∧ i ≤ m then some i.toNat else none | none => (if mx.isNone ∧ len ≤ m then some len else none) | _ => none) with
    | none => none
    | some h =>
      match (match lo with | some (.int _ i) => if 0 ≤ i ∧ i ≤ h then some i.toNat else none | none => some 0 | _ => none) with
      | none => none
      | some l => some (l, h, m)

theorem boundsA_le {len cap l hh m : Nat} {lo hi mx : Option Value} (hs : boundsA len cap lo hi mx = some (l, hh, m)) :
    l ≤ hh ∧ hh ≤ m ∧ m ≤ cap ∧ (mx = none → m = cap) := by
  unfold boundsA at hs
  split at hs
  · cases hs
  rename_i m' hm
  split at hs
  · cases hs
  rename_i h' hh'
  split at hs
  · cases hs
  rename_i l' hl'
  cases hs
  refine ⟨?_, ?_, ?_, ?_⟩
  · split at hl'
    · split at hl' <;> simp_all; omega
    · simp at hl'; omega
    · cases hl'
  · split at hh'
    · split at hh' <;> simp_all; omega
    · split at hh' <;> simp_all
    · cases hh'
  · split at hm
    · split at hm <;> simp_all; omega
    · simp at hm; omega
    · cases hm
  · intro e; subst e; simp at hm; exact hm.symm

theorem boundsA_run {s : Bool} {len cap cap' l hh m : Nat} {lo hi mx : Option Value} (hs : boundsA len cap lo hi mx = some (l, hh, m)) (hc : cap ≤ cap') (w : World) :
    (Instr.sliceBounds s len cap' lo hi mx).run P w = .ok (l, hh, if mx.isSome then m else cap') w := by
  have hle := boundsA_le hs
  unfold boundsA at hs
  split at hs
  · cases hs
  rename_i m' hm
  split at hs
  · cases hs
  rename_i h' hh'
  split at hs
  · cases hs
  rename_i l' hl'
  cases hs
  unfold Instr.sliceBounds
  have key : ∀ (k : IntKind) (i : Int) (y : Nat) (code : BoundsCode), 0 ≤ i → i ≤ y → (Instr.sliceBound (.int k i) y code).run P w = .ok i.toNat w := by
    intro k i y code h0 h1
    simp [Instr.sliceBound, asIntOf, h0, h1]
  split at hm
  · rename_i k i
    split at hm
    · rename_i hr
      cases hm
      split at hh'
      · rename_i k2 i2
        split at hh'
        · rename_i hr2
          cases hh'
          split at hl'
          · rename_i k3 i3
            split at hl'
            · rename_i hr3
              cases hl'
              simp only [Sem.run_bind, key k i cap' _ hr.1 (by omega), key k2 i2 _ _ hr2.1 hr2.2, key k3 i3 _ _ hr3.1 hr3.2, Result.andThen_ok, Sem.run_pure, Option.isSome_some, if_true]
            · cases hl'
          · cases hl'
            simp only [Sem.run_bind, key k i cap' _ hr.1 (by omega), key k2 i2 _ _ hr2.1 hr2.2, Result.andThen_ok, Sem.run_pure, Option.isSome_some, if_true]
          · cases hl'
        · cases hh'
      · simp at hh'
      · cases hh'
    · cases hm
  · cases hm
    split at hh'
    · rename_i k2 i2
      split at hh'
      · rename_i hr2
        cases hh'
        split at hl'
        · rename_i k3 i3
          split at hl'
          · rename_i hr3
            cases hl'
            simp only [Sem.run_bind, key k2 i2 cap' _ hr2.1 (by omega), key k3 i3 _ _ hr3.1 hr3.2, Result.andThen_ok, Sem.run_pure, Option.isSome_none, Bool.false_eq_true, if_false]
          · cases hl'
        · cases hl'
          simp only [Sem.run_bind, key k2 i2 cap' _ hr2.1 (by omega), Result.andThen_ok, Sem.run_pure, Option.isSome_none, Bool.false_eq_true, if_false]
        · cases hl'
      · cases hh'
    · split at hh'
      · rename_i hr2
        cases hh'
        split at hl'
        · rename_i k3 i3
          split at hl'
          · rename_i hr3
            cases hl'
            simp only [Sem.run_bind, key k3 i3 _ _ hr3.1 hr3.2, Result.andThen_ok, Sem.run_pure, Option.isSome_none, Bool.false_eq_true, if_false]
          · cases hl'
        · cases hl'
          simp only [Sem.run_bind, Result.andThen_ok, Sem.run_pure, Option.isSome_none, Bool.false_eq_true, if_false]
        · cases hl'
      · cases hh'
    · cases hh'
  · cases hm

/-- May a slice of these elements be cut there? In an open block the elements must be its own, or it must not end where the block is known to end. -/
def cutOk (h : AH) (x : Addr) (k sz : Nat) : Bool :=
  match h.get x.block with
  | some (.cells _ n _ _ esz op _ _) => !op || sz == esz || (decide (0 < k) && x.off + k * esz != n)
  | _ => false

theorem cut_rel {x a : Addr} {k c l hh m sz : Nat} (hR : Rel ρ h w.heap) (hS : SRel ρ x a k c) (hcut : cutOk h x k sz = true) {mx : Bool} (hl : l ≤ hh) (hm : hh ≤ m) (hk : m ≤ k) (hmx : mx = false → m = k) :
    SRel ρ (if m = l then x else x.add (l * sz)) (if (if mx then m else c) = l then a else a.add (l * sz)) (m - l) ((if mx then m else c) - l) := by
  obtain ⟨i, e, e1, e2, hS⟩ := hS
  have add_block : ∀ (z : Addr) (n : Nat), (z.add n).block = z.block := by intro z n; unfold Addr.add; split <;> rfl
  have add_off : ∀ (z : Addr) (n : Nat), (z.add n).off = z.off + n := by intro z n; unfold Addr.add; split <;> simp_all
  have add_spot : ∀ (z y : Addr) (n : Nat), z.spot = y.spot → (z.add n).spot = (y.add n).spot := by intro z y n hzy; by_cases hn : n = 0 <;> simp [Addr.add, hn, hzy]
  have add_none : ∀ (z : Addr) (n : Nat), z.spot = none → (z.add n).spot = none := by intro z n hz; by_cases hn : n = 0 <;> simp [Addr.add, hn, hz]
  have blk : ∀ (p : Prop) [Decidable p], (if p then x else x.add (l * sz)).block = x.block := by intro p _; split <;> simp [add_block]
  have blk2 : ∀ (p : Prop) [Decidable p], (if p then a else a.add (l * sz)).block = a.block := by intro p _; split <;> simp [add_block]
  refine ⟨i, by rw [blk]; exact e, by rw [blk2]; exact e1, ?_, ?_⟩
  · rcases hS with ⟨h1, h2⟩ | ⟨h1, h2, h3, h4, h5⟩
    · subst h1
      cases mx with
      | true => simp only [if_true]; by_cases hml : m = l <;> simp [hml, e2, add_spot _ _ _ e2]
      | false => have := hmx rfl; subst this; simp only [if_false, Bool.false_eq_true]; by_cases hml : m = l <;> simp [hml, e2, add_spot _ _ _ e2]
    · have hx : x.spot = none := e2 ▸ h3
      have g1 : ∀ (p : Prop) [Decidable p], (if p then x else x.add (l * sz)).spot = none := by intro p _; split <;> simp [hx, add_none _ _ hx]
      have g2 : ∀ (p : Prop) [Decidable p], (if p then a else a.add (l * sz)).spot = none := by intro p _; split <;> simp [h3, add_none _ _ h3]
      rw [g1, g2]
  · rcases hS with ⟨h1, h2⟩ | ⟨h1, h2, h3, h4, h5⟩
    · left
      subst h1
      cases mx with
      | true => simp only [if_true]; refine ⟨by trivial, ?_⟩; by_cases hml : m = l <;> simp [hml, h2, add_off]; omega
      | false => have := hmx rfl; subst this; simp only [if_false, Bool.false_eq_true]; refine ⟨by trivial, ?_⟩; by_cases hml : m = l <;> simp [hml, h2, add_off]; omega
    · -- an open block
      unfold cutOk at hcut
      split at hcut
      · rename_i cc n elem fz esz op ro dd hg
        obtain ⟨i', b, hi', hb, C, rfl, f2, f3, f4, f5, f6, f7, f8, f9, hv⟩ := hR.obj _ _ hg
        obtain rfl : i = i' := by rw [e] at hi'; exact Option.some.inj hi'
        have hop : op = true := by rw [← f3]; exact h1
        have hsz : sz = i.esz ∨ 0 < k ∧ x.off + k * esz ≠ n := by
          simp only [hop, Bool.not_true, Bool.false_or, Bool.or_eq_true, beq_iff_eq, Bool.and_eq_true, decide_eq_true_eq, bne_iff_ne] at hcut
          rw [f5]; exact hcut
        rcases hsz with hsz | ⟨hk0, hne⟩
        · subst hsz
          have hmul : l * i.esz + (c - l) * i.esz = c * i.esz := by rw [← Nat.add_mul, Nat.add_sub_cancel' (by omega)]
          cases mx with
          | true =>
            simp only [if_true]
            by_cases hml : m = l
            · right
              subst hml
              simp only [if_true, Nat.sub_self]
              exact ⟨h1, Nat.le_refl _, h3, by have : 0 * i.esz = 0 := Nat.zero_mul _; omega, fun h0 => absurd h0 (Nat.lt_irrefl _)⟩
            · left
              refine ⟨by trivial, ?_⟩
              simp only [hml, if_false, add_off]
              have := (h5 (by omega)).2
              omega
          | false =>
            have hmk := hmx rfl
            subst hmk
            simp only [if_false, Bool.false_eq_true]
            right
            refine ⟨h1, by omega, ?_, ?_, ?_⟩
            · split
              · exact h3
              · exact add_none _ _ h3
            · split
              · rename_i hcl; subst hcl; simp; omega
              · rw [add_off]; omega
            · intro hpos
              have hne : m ≠ l := by omega
              have hne2 : c ≠ l := by omega
              simp only [hne, hne2, if_false, add_off]
              obtain ⟨h6, h7⟩ := h5 (by omega)
              have hmul2 : l * i.esz + (m - l) * i.esz = m * i.esz := by rw [← Nat.add_mul, Nat.add_sub_cancel' (by omega)]
              omega
        · exfalso
          have := (h5 hk0).1
          rw [f5, f2] at this
          exact hne this
      · cases hcut

def sliceA (P : Program) (t : TypeId) (x : Value) (lo hi mx : Option Value) (h : AH) : Option Value :=
  match P.underlying t, x with
  | some (.slice elem), .slice (some a) len cap =>
    match P.info? elem, boundsA len cap lo hi mx with
    | some inf, some (l, hh, m) => if cutOk h a cap inf.size then some (.slice (some (if m = l then a else a.add (l * inf.size))) (hh - l) (m - l)) else none
    | _, _ => none
  | some (.slice elem), .slice none len cap =>
    match P.info? elem, boundsA len cap lo hi mx with
    | some _, some (l, hh, m) => some (.slice none (hh - l) (m - l))
    | _, _ => none
  | some (.array n elem), .pointer (some a) =>
    match P.info? elem, boundsA n n lo hi mx with
    | some inf, some (l, hh, m) => some (.slice (some (if m = l then a else a.add (l * inf.size))) (hh - l) (m - l))
    | _, _ => none
  | some .string, .string s => if mx.isSome then none else
    match boundsA s.size s.size lo hi none with
    | some (l, hh, _) => some (.string (s.extract l hh))
    | _ => none
  | _, _ => none

/-- Plain operands, or none. -/
def VO (ρ : Ren) : Option Value → Option Value → Prop
  | none, none => True
  | some x, some y => V ρ x y
  | _, _ => False

theorem VO.isSome {x y : Option Value} (h : VO ρ x y) : y.isSome = x.isSome := by
  cases x <;> cases y <;> simp_all [VO]

/-- Bounds are integers: they are the same. -/
theorem boundsA_same {len cap : Nat} {lo hi mx lo' hi' mx' : Option Value} {r : Nat × Nat × Nat} (h1 : VO ρ lo lo') (h2 : VO ρ hi hi') (h3 : VO ρ mx mx') (hs : boundsA len cap lo hi mx = some r) :
    lo' = lo ∧ hi' = hi ∧ mx' = mx := by
  have key : ∀ {x y : Option Value}, VO ρ x y → (x = none ∨ ∃ k i, x = some (.int k i)) → y = x := by
    intro x y hxy hx
    rcases hx with rfl | ⟨k, i, rfl⟩
    · cases y with
      | none => rfl
      | some y => exact hxy.elim
    · cases y with
      | none => exact hxy.elim
      | some y => cases (show V ρ _ _ from hxy); rfl
  unfold boundsA at hs
  split at hs
  · cases hs
  rename_i m' hm
  split at hs
  · cases hs
  rename_i h' hh'
  split at hs
  · cases hs
  rename_i l' hl'
  refine ⟨key h1 ?_, key h2 ?_, key h3 ?_⟩
  · split at hl'
    · exact .inr ⟨_, _, rfl⟩
    · exact .inl rfl
    · cases hl'
  · split at hh'
    · exact .inr ⟨_, _, rfl⟩
    · exact .inl rfl
    · cases hh'
  · split at hm
    · exact .inr ⟨_, _, rfl⟩
    · exact .inl rfl
    · cases hm

theorem sliceA_sim {t : TypeId} {x x' : Value} {lo hi mx lo' hi' mx' : Option Value} {v : Value} (hR : Rel ρ h w.heap) (hx : V ρ x x') (h1 : VO ρ lo lo') (h2 : VO ρ hi hi') (h3 : VO ρ mx mx')
    (hs : sliceA P t x lo hi mx h = some v) : ∃ v', (Instr.sliceAt t x' lo' hi' mx').run P w = .ok v' w ∧ V ρ v v' := by
  unfold sliceA at hs
  split at hs
  · rename_i elem a len cap hu
    cases hx with
    | slice _ b _ _ c hn hS =>
      split at hs
      · rename_i inf l hh m hinf hb
        split at hs
        · rename_i hcut
          cases hs
          obtain ⟨rfl, rfl, rfl⟩ := boundsA_same h1 h2 h3 hb
          have hle := boundsA_le hb
          have hkc : cap ≤ c := by
            obtain ⟨i, _, _, _, hS'⟩ := hS
            rcases hS' with ⟨rfl, _⟩ | ⟨_, hk, _⟩
            · exact Nat.le_refl _
            · exact hk
          refine ⟨_, by
            simp only [Instr.sliceAt, Instr.slice, Sem.run_bind, run_underlying hu, Result.andThen_ok, boundsA_run (P := P) hb hkc, run_size hinf, Option.map_some]
            rfl, ?_⟩
          have hc := cut_rel (mx := mx'.isSome) hR hS hcut hle.1 hle.2.1 hle.2.2.1 (fun e => hle.2.2.2 (by cases mx' <;> simp_all))
          have hif : ∀ (p : Prop) [Decidable p], (if p then some b else some (b.add (l * inf.size))) = some (if p then b else b.add (l * inf.size)) := by intro p _; split <;> rfl
          rw [hif]
          exact .slice _ _ _ _ _ (by omega) hc
        · cases hs
      · cases hs
  · rename_i elem len cap hu
    cases hx with
    | nilSlice _ _ =>
      split at hs
      · rename_i inf l hh m hinf hb
        cases hs
        obtain ⟨rfl, rfl, rfl⟩ := boundsA_same h1 h2 h3 hb
        have hle := boundsA_le hb
        have hm' : (if mx'.isSome then m else cap) = m := by
          cases mx' with
          | none => simp [hle.2.2.2 rfl]
          | some _ => rfl
        refine ⟨.slice none (hh - l) (m - l), ?_, .nilSlice _ _⟩
        simp only [Instr.sliceAt, Instr.slice, Sem.run_bind, run_underlying hu, Result.andThen_ok, boundsA_run (P := P) hb (Nat.le_refl _), run_size hinf, Option.map_none, hm']
        split <;> rfl
      · cases hs
  · rename_i n elem a hu
    cases hx with
    | pointer _ b hA =>
      split at hs
      · rename_i inf l hh m hinf hb
        cases hs
        obtain ⟨rfl, rfl, rfl⟩ := boundsA_same h1 h2 h3 hb
        have hle := boundsA_le hb
        have hm' : (if mx'.isSome then m else n) = m := by
          cases mx' with
          | none => simp [hle.2.2.2 rfl]
          | some _ => rfl
        refine ⟨.slice (some (if m = l then b else b.add (l * inf.size))) (hh - l) (m - l), ?_, .slice _ _ _ _ _ (by omega) ?_⟩
        · simp only [Instr.sliceAt, Instr.sureAddr, Sem.run_bind, run_underlying hu, Result.andThen_ok, Sem.run_pure, boundsA_run (P := P) hb (Nat.le_refl _), run_size hinf, hm']
        · obtain ⟨i, e, e1, e2, e3⟩ : ARel ρ (if m = l then a else a.add (l * inf.size)) (if m = l then b else b.add (l * inf.size)) := by split; exact hA; exact hA.add _
          exact ⟨i, e, e1, e3, .inl ⟨rfl, e2⟩⟩
      · cases hs
  · rename_i s hu
    split at hs
    · cases hs
    rename_i hmx
    split at hs
    · rename_i l hh m hb
      cases hs
      have hmx0 : mx = none := by cases mx <;> simp_all
      subst hmx0
      obtain ⟨rfl, rfl, rfl⟩ := boundsA_same h1 h2 h3 hb
      cases hx with
      | string _ =>
        refine ⟨_, ?_, .string _⟩
        simp [Instr.sliceAt, Instr.slice, run_underlying hu, boundsA_run (P := P) hb (Nat.le_refl _)]
    · cases hs
  · cases hs

end
end Go.AE

/-
  AE, part 6: what is made: variables, boxes, rows, aggregates; parts of aggregates.
-/
namespace Go.AE
noncomputable section
set_option linter.unusedSimpArgs false
set_option linter.unusedVariables false
variable {P : Program} {ρ : Ren} {h : AH} {w : World}

def notTuple : Value → Bool
  | .tuple _ => false
  | _ => true
theorem notTuple_ne {v : Value} (h : notTuple v = true) : ∀ cs, v ≠ .tuple cs := by
  intro cs e; subst e; cases h

theorem VS.tl {xs ys : Array Value} (h : VS ρ xs ys) : VS ρ xs.toList.toArray ys := by rw [Array.toArray_toList]; exact h
theorem VS.tl2 {xs ys : Array Value} (h : VS ρ xs ys) : VS ρ xs.toList.toArray ys.toList.toArray := by rw [Array.toArray_toList, Array.toArray_toList]; exact h

/-- What a step that yields a value and maybe makes something comes to. -/
def Makes (P : Program) (ρ : Ren) (w : World) (s : Sem Value) (v : Value) (h' : AH) : Prop :=
  ∃ ρ' v' w', s.run P w = .ok v' w' ∧ Step ρ w ρ' w' ∧ Rel ρ' h' w'.heap ∧ V ρ' v v'

def zeroA (P : Program) (t : TypeId) : Option (TypeInfo × Value) :=
  match P.info? t with
  | some i => match i.zero with
    | some z => if z.cells.toList.all plain1 then some (i, z) else none
    | none => none
  | none => none

theorem zeroA_run {t : TypeId} {i : TypeInfo} {z : Value} (hz : zeroA P t = some (i, z)) (w : World) :
    (zeroValue t).run P w = .ok z w ∧ P.info? t = some i ∧ z.cells.all plain1 = true := by
  unfold zeroA at hz
  split at hz
  · rename_i i' hi
    split at hz
    · rename_i z' hz'
      split at hz
      · rename_i hp; cases hz
        exact ⟨by simp [zeroValue, run_info hi, hz'], hi, by simpa using hp⟩
      · cases hz
    · cases hz
  · cases hz

def allocA (P : Program) (t : TypeId) (h : AH) : Option (Value × AH) :=
  match zeroA P t with
  | some (_, z) => some (.pointer (some ⟨h.next, 0, none⟩), h.push (rowObjB z.cells.toList t 0))
  | none => none

theorem newVar_makes {xs : List Value} {v : Value} (hR : Rel ρ h w.heap) (hv : VS ρ xs.toArray v.cells) (t : TypeId) :
    ∃ ρ' w', (newVar t v).run P w = .ok ⟨w.heap.size, 0, none⟩ w' ∧ Step ρ w ρ' w' ∧ Rel ρ' (h.push (rowObjB xs t 0)) w'.heap ∧ ARel ρ' ⟨h.next, 0, none⟩ ⟨w.heap.size, 0, none⟩ := by
  obtain ⟨h1, h2, h3, h4⟩ := newRow_simB (P := P) hR hv t 0
  exact ⟨_, _, h1, h2, h3, h4⟩

theorem allocA_sim {t : TypeId} {v : Value} {h' : AH} (hR : Rel ρ h w.heap) (hs : allocA P t h = some (v, h')) : Makes P ρ w (Instr.alloc t true (.tuple #[])) v h' := by
  unfold allocA at hs
  split at hs
  · rename_i i z hz
    cases hs
    obtain ⟨h1, h2, h3⟩ := zeroA_run hz w
    obtain ⟨ρ', w', e1, e2, e3, e4⟩ := newVar_makes (P := P) (xs := z.cells.toList) (v := z) hR (VS.refl1 (ρ := ρ) h3).tl t
    exact ⟨ρ', _, w', by simp [Instr.alloc, h1, e1], e2, e3, .pointer _ _ e4⟩
  · cases hs

def boxA (t : TypeId) (v : Value) (h : AH) : Option (Value × AH) :=
  if notTuple v then some (.pointer (some ⟨h.next, 0, none⟩), h.push (rowObjB v.cells.toList t 0)) else none

theorem boxA_sim {t : TypeId} {x x' v : Value} {h' : AH} (hR : Rel ρ h w.heap) (hx : V ρ x x') (hs : boxA t x h = some (v, h')) : Makes P ρ w (Instr.box t x') v h' := by
  unfold boxA at hs
  split at hs
  · rename_i hn
    cases hs
    obtain ⟨ρ', w', e1, e2, e3, e4⟩ := newVar_makes (P := P) (xs := x.cells.toList) (v := x') hR (hx.cells (notTuple_ne hn)).tl t
    exact ⟨ρ', _, w', by simp [Instr.box, e1], e2, e3, .pointer _ _ e4⟩
  · cases hs

/-! ### Parts of aggregates -/
theorem VS.extract {xs ys : Array Value} (hv : VS ρ xs ys) (a b : Nat) : VS ρ (xs.extract a b) (ys.extract a b) := by
  refine ⟨by simp [hv.1], fun j hj => ?_⟩
  simp only [Array.size_extract] at hj
  have h1 := hv.2 (a + j) (by omega)
  have key : ∀ (zs : Array Value), j < min b zs.size - a → (zs.extract a b).getD j undef = zs.getD (a + j) undef := by
    intro zs hz
    rw [Array.getD_eq_getD_getElem?, Array.getD_eq_getD_getElem?, Array.getElem?_extract, if_pos hz]
  have hs := hv.1
  have e1 := key xs hj
  have e2 := key ys (by omega)
  rw [e1, e2]; exact h1

def partA (P : Program) (t : TypeId) (cs : Array Value) (off : Nat) : Option Value :=
  match isAggT P t with
  | some true => match P.info? t with
    | some i => some (.agg (cs.extract off (off + i.size)))
    | none => none
  | some false => cs[off]?
  | none => none

theorem partA_sim {t : TypeId} {cs cs' : Array Value} {off : Nat} {v : Value} (hc : VS ρ cs cs') (hs : partA P t cs off = some v) (w : World) :
    ∃ v', (part t cs' off).run P w = .ok v' w ∧ V ρ v v' := by
  unfold partA at hs
  split at hs
  · rename_i hag
    split at hs
    · rename_i i hi
      cases hs
      have he := hc.extract off (off + i.size)
      exact ⟨_, by simp only [part, Sem.run_bind, run_isAgg hag, Result.andThen_ok, if_true, run_size hi, Sem.run_ite]; rfl, .agg _ _ he.1 he.2⟩
    · cases hs
  · rename_i hag
    obtain ⟨hlt, rfl⟩ := Array.getElem?_eq_some_iff.1 hs
    have h1 := hc.2 off hlt
    have hlt' : off < cs'.size := hc.1 ▸ hlt
    refine ⟨cs'[off], ?_, by simpa [Array.getD, hlt, hlt'] using h1⟩
    simp [part, run_isAgg hag, hlt']
  · cases hs

def fieldA (P : Program) (t : TypeId) (x : Value) (f : Nat) : Option Value :=
  match P.underlying t, x with
  | some (.struct fields), .agg cs =>
    match fields[f]? with
    | some fd => partA P fd.type cs fd.offset
    | none => none
  | _, _ => none

theorem fieldA_sim {t : TypeId} {x x' : Value} {f : Nat} {v : Value} (hx : V ρ x x') (hs : fieldA P t x f = some v) (w : World) :
    ∃ v', (Instr.field t x' f).run P w = .ok v' w ∧ V ρ v v' := by
  unfold fieldA at hs
  split at hs
  · rename_i fields cs hu
    cases hx with
    | agg _ cs' hc k =>
      split at hs
      · rename_i fd hfd
        obtain ⟨v', hr, hv⟩ := partA_sim (ρ := ρ) ⟨hc, k⟩ hs w
        exact ⟨v', by simp [Instr.field, run_underlying hu, hfd, asAgg, hr], hv⟩
      · cases hs
  · cases hs

def indexA (P : Program) (t : TypeId) (x ix : Value) : Option Value :=
  match ix, P.underlying t, x with
  | .int _ i, some (.array len elem), .agg cs =>
    if 0 ≤ i ∧ i < len then match P.info? elem with
      | some inf => partA P elem cs (i.toNat * inf.size)
      | none => none
    else none
  | .int _ i, some .string, .string s => if 0 ≤ i then (s[i.toNat]?).map fun b => .int .u8 b.toNat else none
  | _, _, _ => none

theorem indexA_sim {t : TypeId} {x x' ix ix' : Value} {v : Value} (hx : V ρ x x') (hix : V ρ ix ix') (hs : indexA P t x ix = some v) (w : World) :
    ∃ v', (Instr.index t x' ix').run P w = .ok v' w ∧ V ρ v v' := by
  unfold indexA at hs
  split at hs
  · rename_i k i len elem cs hu
    cases hix
    cases hx with
    | agg _ cs' hc kk =>
      split at hs
      · rename_i hr
        split at hs
        · rename_i inf hi
          obtain ⟨v', hr', hv⟩ := partA_sim (ρ := ρ) ⟨hc, kk⟩ hs w
          exact ⟨v', by simp [Instr.index, asIntOf, run_underlying hu, hr, run_size hi, hr'], hv⟩
        · cases hs
      · cases hs
  · rename_i k i s hu
    cases hix
    cases hx
    split at hs
    · rename_i hr
      cases hb : s[i.toNat]? with
      | none => rw [hb] at hs; cases hs
      | some b =>
        rw [hb] at hs; cases hs
        exact ⟨_, by simp only [Instr.index, asIntOf, Sem.run_bind, Sem.run_pure, Result.andThen_ok, run_underlying hu, hr, if_true, hb], .int _ _⟩
    · cases hs
  · cases hs

def isOver : Value → Bool
  | .bool false => true
  | _ => false

def extractA (x : Value) (i : Nat) : Option Value :=
  match x with
  | .tuple vs => if vs.size = 1 then (if isOver (vs.getD 0 (.tuple #[])) && i == 0 then some (.bool false) else none) else vs[i]?
  | _ => none

theorem extractA_sim {x x' : Value} {i : Nat} {v : Value} (hx : V ρ x x') (hs : extractA x i = some v) (w : World) :
    ∃ v', (Instr.extract x' i).run P w = .ok v' w ∧ V ρ v v' := by
  unfold extractA at hs
  split at hs
  · rename_i vs
    split at hs
    · rename_i h1
      split at hs
      · rename_i ho
        cases hs
        simp only [Bool.and_eq_true, beq_iff_eq] at ho
        obtain ⟨ho, rfl⟩ := ho
        cases hx with
        | any v => simp [isOver] at ho
        | tuple _ vs' h1' hc k => exact absurd h1 h1'
        | over => exact ⟨.bool false, by simp [Instr.extract], .bool false⟩
      · cases hs
    rename_i h1
    cases hx with
    | any v => exact absurd rfl h1
    | over => exact absurd rfl h1
    | tuple _ vs' _ hc k =>
      obtain ⟨hlt, rfl⟩ := Array.getElem?_eq_some_iff.1 hs
      have hlt' : i < vs'.size := hc ▸ hlt
      have h1 := k i hlt
      exact ⟨vs'[i], by simp [Instr.extract, hlt'], by simpa [Array.getD, hlt, hlt'] using h1⟩
  · cases hs

/-! ### Aggregates that are built -/
/-- Numbered values. -/
def PartsRel (ρ : Ren) (ps qs : List (Nat × Value)) : Prop := ps.length = qs.length ∧ ∀ (j : Nat) p q, ps[j]? = some p → qs[j]? = some q → p.1 = q.1 ∧ V ρ p.2 q.2

theorem PartsRel.cons {p q : Nat × Value} {ps qs : List (Nat × Value)} (hp : PartsRel ρ (p :: ps) (q :: qs)) : p.1 = q.1 ∧ V ρ p.2 q.2 ∧ PartsRel ρ ps qs :=
  ⟨(hp.2 0 p q rfl rfl).1, (hp.2 0 p q rfl rfl).2, by have := hp.1; simpa using this, fun j a b ha hb => hp.2 (j + 1) a b (by simpa using ha) (by simpa using hb)⟩

theorem fold_rel (off : Nat) : ∀ (l l' : List Value) (j : Nat) (cs cs' : Array Value), VS ρ l.toArray l'.toArray → VS ρ cs cs' →
    VS ρ ((l.zipIdx j).foldl (fun cs (p : Value × Nat) => cs.setIfInBounds (off + p.2) p.1) cs) ((l'.zipIdx j).foldl (fun cs (p : Value × Nat) => cs.setIfInBounds (off + p.2) p.1) cs')
  | [], l', j, cs, cs', hl, hc => by
    have : l' = [] := by have := hl.1; simp at this; exact List.length_eq_zero_iff.1 this.symm
    subst this; exact hc
  | v :: r, l', j, cs, cs', hl, hc => by
    cases l' with
    | nil => have := hl.1; simp at this
    | cons v' r' =>
      have h0 := hl.2 0 (by simp)
      simp only [List.zipIdx_cons, List.foldl_cons]
      refine fold_rel off r r' (j + 1) _ _ ⟨by have := hl.1; simpa using this, fun i hi => ?_⟩ (hc.set _ (by simpa using h0))
      have := hl.2 (i + 1) (by simp at hi ⊢; omega)
      simpa [Array.getD_eq_getD_getElem?] using this

theorem fill_rel (place : Nat → Option (Nat × Nat)) : ∀ (ps qs : List (Nat × Value)) (cs cs' r : Array Value), PartsRel ρ ps qs → VS ρ cs cs' → ps.all (fun p => notTuple p.2) = true →
    Instr.fill place cs ps = some r → ∃ r', Instr.fill place cs' qs = some r' ∧ VS ρ r r'
  | [], qs, cs, cs', r, hp, hc, _, hf => by
    have : qs = [] := by have := hp.1; simp at this; exact List.length_eq_zero_iff.1 this.symm
    subst this
    simp only [Instr.fill, Option.some.injEq] at hf ⊢
    subst hf
    exact ⟨cs', rfl, hc⟩
  | (i, v) :: ps, qs, cs, cs', r, hp, hc, hn, hf => by
    cases qs with
    | nil => have := hp.1; simp at this
    | cons q qs =>
      obtain ⟨j, v'⟩ := q
      obtain ⟨h1, h2, h3⟩ := hp.cons
      simp only at h1 h2
      subst h1
      simp only [List.all_cons, Bool.and_eq_true] at hn
      have hvc := h2.cells (notTuple_ne hn.1)
      simp only [Instr.fill] at hf ⊢
      split at hf
      · cases hf
      · rename_i off size hpl
        split at hf
        · cases hf
        · rename_i hcond
          have hcond' : ¬ (v'.cells.size ≠ size ∨ off + v'.cells.size > cs'.size) := by
            have a1 := hvc.1; have a2 := hc.1
            simp only [ne_eq, gt_iff_lt, Bool.or_eq_true, decide_eq_true_eq, not_or] at hcond
            omega
          have hg := fold_rel (ρ := ρ) off v.cells.toList v'.cells.toList 0 cs cs' hvc.tl2 hc
          have e1 : ∀ (x : Value) (c : Array Value), x.cells.zipIdx.foldl (fun cs (p : Value × Nat) => cs.setIfInBounds (off + p.2) p.1) c = (x.cells.toList.zipIdx 0).foldl (fun cs (p : Value × Nat) => cs.setIfInBounds (off + p.2) p.1) c := by
            intro x c; rw [← Array.foldl_toList]; simp
          have hf' : Instr.fill place ((v.cells.toList.zipIdx 0).foldl (fun cs (p : Value × Nat) => cs.setIfInBounds (off + p.2) p.1) cs) ps = some r := by rw [← e1]; exact hf
          obtain ⟨r', hr1, hr2⟩ := fill_rel place ps qs _ _ r h3 hg hn.2 hf'
          refine ⟨r', ?_, hr2⟩
          have hdec : (decide (v'.cells.size ≠ size) || decide (off + v'.cells.size > cs'.size)) = false := by
            simp only [not_or] at hcond'
            simp only [Bool.or_eq_false_iff, decide_eq_false_iff_not]
            exact hcond'
          simp only [ne_eq, gt_iff_lt] at hdec
          simp only [ne_eq, gt_iff_lt, hdec, Bool.false_eq_true, if_false]
          rw [← e1] at hr1
          exact hr1

def placesA (P : Program) (t : TypeId) : Option (Nat → Option (Nat × Nat)) :=
  match P.underlying t with
  | some (.struct fields) => match semP P (fields.mapM fun f => do pure (f.offset, ← sizeOf f.type)) with
    | some places => some (places[·]?)
    | none => none
  | some (.array _ elem) => match P.info? elem with
    | some inf => some fun i => some (i * inf.size, inf.size)
    | none => none
  | _ => none

def buildA (P : Program) (t : TypeId) (parts : Array (Nat × Value)) : Option Value :=
  match zeroA P t, placesA P t with
  | some (_, z), some place =>
    if parts.toList.all (fun p => notTuple p.2) then (Instr.fill place z.cells parts.toList).map .agg else none
  | _, _ => none

theorem buildA_sim {t : TypeId} {ps qs : Array (Nat × Value)} {v : Value} (hp : PartsRel ρ ps.toList qs.toList) (hs : buildA P t ps = some v) (w : World) :
    ∃ v', (Instr.build t qs).run P w = .ok v' w ∧ V ρ v v' := by
  unfold buildA at hs
  split at hs
  · rename_i i z place hz hpl
    split at hs
    · rename_i hn
      obtain ⟨h1, h2, h3⟩ := zeroA_run hz w
      cases hf : Instr.fill place z.cells ps.toList with
      | none => rw [hf] at hs; cases hs
      | some r =>
        rw [hf] at hs; cases hs
        obtain ⟨r', hr1, hr2⟩ := fill_rel place ps.toList qs.toList z.cells z.cells r hp (VS.refl1 h3) hn hf
        refine ⟨.agg r', ?_, .agg _ _ hr2.1 hr2.2⟩
        unfold placesA at hpl
        split at hpl
        · rename_i fields hu
          split at hpl
          · rename_i places hpls
            cases hpl
            have hr3 := semP_run hpls w
            simp only [Instr.build, Sem.run_bind, h1, Result.andThen_ok, run_underlying hu, hr3, hr1]; rfl
          · cases hpl
        · rename_i n elem hu
          split at hpl
          · rename_i inf hi
            cases hpl
            simp only [Instr.build, Sem.run_bind, h1, Result.andThen_ok, run_underlying hu, run_size hi, hr1]; rfl
          · cases hpl
        · cases hpl
    · cases hs
  · cases hs

/-! ### Rows -/
/-- The noughts of a row, as the model has them. -/
def zeros (zero : Array Value) (n : Nat) : Array Value := (Array.range n).map (zero[· % zero.size]!)

theorem zeros_plain {zero : Array Value} (hz : zero.all plain1 = true) (n : Nat) (h0 : n = 0 ∨ 0 < zero.size) : (zeros zero n).all plain1 = true := by
  rw [Array.all_eq_true] at hz ⊢
  intro j hj
  rcases h0 with h0 | h0
  · simp [zeros, h0] at hj
  · have hlt : j % zero.size < zero.size := Nat.mod_lt _ h0
    have := hz (j % zero.size) hlt
    simp only [zeros, Array.getElem_map, Array.getElem_range]
    rw [getElem!_pos zero _ hlt]; exact this

def buildSliceA (P : Program) (t : TypeId) (len : Nat) (parts : Array (Nat × Value)) (h : AH) : Option (Value × AH) :=
  match P.underlying t with
  | some (.slice elem) =>
    match zeroA P elem with
    | some (inf, z) =>
      if len * inf.size ≤ 2 ^ 24 ∧ (len * inf.size = 0 ∨ 0 < z.cells.size) ∧ parts.toList.all (fun p => notTuple p.2) then
        match Instr.fill (fun i => some (i * inf.size, inf.size)) (zeros (if len * inf.size = 0 then #[] else z.cells) (len * inf.size)) parts.toList with
        | some cells => some (.slice (some ⟨h.next, 0, none⟩) len len, h.push (rowObj cells.toList elem 0 false))
        | none => none
      else none
    | none => none
  | _ => none

theorem buildSliceA_sim {t : TypeId} {len : Nat} {ps qs : Array (Nat × Value)} {v : Value} {h' : AH} (hR : Rel ρ h w.heap) (hp : PartsRel ρ ps.toList qs.toList)
    (hs : buildSliceA P t len ps h = some (v, h')) : Makes P ρ w (Instr.buildSlice t len qs) v h' := by
  unfold buildSliceA at hs
  split at hs
  · rename_i elem hu
    split at hs
    · rename_i inf z hz
      split at hs
      · rename_i hc
        obtain ⟨hc1, hc2, hc3⟩ := hc
        obtain ⟨h1, h2, h3⟩ := zeroA_run hz w
        split at hs
        · rename_i cells hf
          cases hs
          have hz0 : (zeros (if len * inf.size = 0 then #[] else z.cells) (len * inf.size)).all plain1 = true := by
            by_cases h0 : len * inf.size = 0
            · rw [if_pos h0, h0]; exact zeros_plain (zero := #[]) (by simp) 0 (.inl rfl)
            · simp only [h0, if_false]; exact zeros_plain h3 _ (by omega)
          obtain ⟨r', hr1, hr2⟩ := fill_rel _ ps.toList qs.toList _ _ cells hp (VS.refl1 hz0) hc3 hf
          obtain ⟨e1, e2, e3, e4⟩ := newRow_sim (P := P) (xs := cells.toList) (ys := r') hR hr2.tl elem 0
          obtain ⟨i, a1, a2, a3, a4⟩ := e4
          refine ⟨_, _, _, ?_, e2, e3, .slice _ _ _ _ _ (Nat.le_refl _) ⟨i, a1, a2, a4, .inl ⟨rfl, a3⟩⟩⟩
          have hgt : ¬ (len * inf.size > 2 ^ 24) := by omega
          have hzz : (zeros (if len * inf.size = 0 then #[] else z.cells) (len * inf.size)) = (Array.range (len * inf.size)).map ((if len * inf.size = 0 then #[] else z.cells)[· % (if len * inf.size = 0 then #[] else z.cells).size]!) := rfl
          rw [hzz] at hr1
          by_cases h0 : len * inf.size = 0
          · simp only [h0, if_true] at hr1
            simp only [Instr.buildSlice, Sem.run_bind, run_underlying hu, Result.andThen_ok, run_size h2, h0, Sem.run_ite, if_true, Sem.run_pure, hr1, e1]
            rfl
          · simp only [h0, if_false] at hr1
            simp only [Instr.buildSlice, Sem.run_bind, run_underlying hu, Result.andThen_ok, run_size h2, h0, hgt, Sem.run_ite, if_false, h1, Sem.run_pure, hr1, e1]
        · cases hs
      · cases hs
    · cases hs
  · cases hs

end
end Go.AE

/-
  AE, part 7: make, append, copy.
-/
namespace Go.AE
noncomputable section
set_option linter.unusedSimpArgs false
set_option linter.unusedVariables false
variable {P : Program} {ρ : Ren} {h : AH} {w : World}

/-! ### make -/
/-- All cells of a nought alike. -/
def uni (zero : Array Value) : Option Value :=
  match zero.toList with
  | [] => none
  | [v] => if plain1 v then some v else none
  | .int k n :: r => if r.all (fun y => match y with | .int k' n' => decide (k' = k) && decide (n' = n) | _ => false) then some (.int k n) else none
  | .bool b :: r => if r.all (fun y => match y with | .bool b' => b' == b | _ => false) then some (.bool b) else none
  | _ => none

theorem uni_spec {zero : Array Value} {d : Value} (hu : uni zero = some d) : plain1 d = true ∧ 0 < zero.size ∧ ∀ j (hj : j < zero.size), zero[j] = d := by
  unfold uni at hu
  have key : ∀ (l : List Value), zero.toList = l → (∀ v ∈ l, v = d) → ∀ j (hj : j < zero.size), zero[j] = d := by
    intro l hl hall j hj
    refine hall _ ?_
    rw [← hl]; simp
  have pos : ∀ (v : Value) (r : List Value), zero.toList = v :: r → 0 < zero.size := by
    intro v r hl
    have := congrArg List.length hl
    simp at this; omega
  split at hu
  · cases hu
  · rename_i v hl
    split at hu
    · rename_i hp; cases hu
      exact ⟨hp, pos _ _ hl, key _ hl (by simp)⟩
    · cases hu
  · rename_i k n r _ hl
    split at hu
    · rename_i hr; cases hu
      refine ⟨rfl, pos _ _ hl, key _ hl ?_⟩
      intro v hv
      rcases List.mem_cons.1 hv with rfl | hv
      · rfl
      · have := List.all_eq_true.1 hr v hv
        split at this
        · simp at this; rw [this.1, this.2]
        · cases this
    · cases hu
  · rename_i b r _ hl
    split at hu
    · rename_i hr; cases hu
      refine ⟨rfl, pos _ _ hl, key _ hl ?_⟩
      intro v hv
      rcases List.mem_cons.1 hv with rfl | hv
      · rfl
      · have := List.all_eq_true.1 hr v hv
        split at this
        · simp at this; rw [this]
        · cases this
    · cases hu
  · cases hu

def makeSliceA (P : Program) (t : TypeId) (len cap : Value) (h : AH) : Option (Value × AH) :=
  match P.underlying t, len, cap with
  | some (.slice elem), .int _ l, .int _ c =>
    match zeroA P elem with
    | some (inf, z) =>
      if 0 ≤ l ∧ l ≤ c ∧ c ≤ 9223372036854775807 ∧ inf.bytes * c ≤ 2 ^ 48 ∧ (c.toNat * inf.size = 0 ∨ 0 < z.cells.size) then
        match uni z.cells with
        | some d => some (.slice (some ⟨h.next, 0, none⟩) l.toNat c.toNat, h.push (.cells .leaf (c.toNat * inf.size) elem (0, 0) 0 false false d))
        | none => some (.slice (some ⟨h.next, 0, none⟩) l.toNat c.toNat, h.push (rowObj (zeros (if c.toNat * inf.size = 0 then #[] else z.cells) (c.toNat * inf.size)).toList elem 0 false))
      else none
    | none => none
  | _, _, _ => none

theorem size_zeros (z : Array Value) (n : Nat) : (zeros z n).size = n := by simp [zeros]

theorem makeSlice_run {t : TypeId} {elem : TypeId} {l c : Int} {k k' : IntKind} {inf : TypeInfo} {z : Value} (hu : P.underlying t = some (.slice elem)) (hi : P.info? elem = some inf)
    (hz : (zeroValue elem).run P w = .ok z w) (h1 : 0 ≤ l) (h2 : l ≤ c) (h3 : c ≤ 9223372036854775807) (h4 : inf.bytes * c ≤ 2 ^ 48) :
    (Instr.makeSlice t (.int k l) (.int k' c)).run P w = .ok (.slice (some ⟨w.heap.size, 0, none⟩) l.toNat c.toNat)
      { w with heap := w.heap.push (.cells (zeros (if c.toNat * inf.size = 0 then #[] else z.cells) (c.toNat * inf.size)) elem) } := by
  have e1 : IntKind.i64.wrap l = l := IntWalk.i64_in _ (by omega)
  have e2 : IntKind.i64.wrap c = c := IntWalk.i64_in _ (by omega)
  have hc : ¬ ((decide (c < 0) || decide (inf.bytes * c > 2 ^ 48)) = true ∨ l < 0 ∨ l > c) := by
    simp only [Bool.or_eq_true, decide_eq_true_eq]; omega
  have hc' : ((decide (c < 0) || decide ((inf.bytes : Int) * c > 2 ^ 48)) || decide (l < 0) || decide (l > c)) = false := by
    simp only [Bool.or_eq_false_iff, decide_eq_false_iff_not]; omega
  have hzz : ∀ zz : Array Value, zeros zz (c.toNat * inf.size) = (Array.range (c.toNat * inf.size)).map (zz[· % zz.size]!) := fun _ => rfl
  by_cases h0 : c.toNat * inf.size = 0
  · simp only [Instr.makeSlice, Sem.run_bind, run_underlying hu, Result.andThen_ok, asInt, asIntOf, Sem.run_pure, run_info hi, e1, e2, hc', Bool.false_eq_true, if_false, run_askRoom, run_size hi, newRow, run_newObj, h0, if_true, Sem.run_ite]
    rfl
  · simp only [Instr.makeSlice, Sem.run_bind, run_underlying hu, Result.andThen_ok, asInt, asIntOf, Sem.run_pure, run_info hi, e1, e2, hc', Bool.false_eq_true, if_false, run_askRoom, run_size hi, newRow, run_newObj, h0, hzz, hz, Sem.run_ite]

theorem makeSliceA_sim {t : TypeId} {len cap len' cap' v : Value} {h' : AH} (hR : Rel ρ h w.heap) (hl : V ρ len len') (hc : V ρ cap cap') (hs : makeSliceA P t len cap h = some (v, h')) :
    Makes P ρ w (Instr.makeSlice t len' cap') v h' := by
  unfold makeSliceA at hs
  split at hs
  · rename_i elem k l k' c hu
    cases hl; cases hc
    split at hs
    · rename_i inf z hz
      split at hs
      · rename_i hcond
        obtain ⟨c1, c2, c3, c4, c5⟩ := hcond
        obtain ⟨h1, h2, h3⟩ := zeroA_run hz w
        have hrun := makeSlice_run (k := k) (k' := k') hu h2 h1 c1 c2 c3 c4
        split at hs
        · rename_i d hd
          cases hs
          obtain ⟨d1, d2, d3⟩ := uni_spec hd
          refine ⟨ρ.put h.next (newInfo w.heap.size (c.toNat * inf.size) (c.toNat * inf.size) 0 false), _, _, hrun, Step.alloc hR _ _ rfl, hR.alloc _ _ _ rfl ?_, ?_⟩
          · refine ⟨_, rfl, rfl, rfl, rfl, rfl, by simp [newInfo, size_zeros], by simp [newInfo], fun _ => ⟨rfl, rfl⟩, fun _ => rfl, fun j hj => ?_⟩
            have : (zeros (if c.toNat * inf.size = 0 then #[] else z.cells) (c.toNat * inf.size)).getD ((newInfo w.heap.size (c.toNat * inf.size) (c.toNat * inf.size) 0 false).s + j) undef = d := by
              have hne : ¬ c.toNat * inf.size = 0 := by omega
              have hlt : j % z.cells.size < z.cells.size := Nat.mod_lt _ d2
              simp only [newInfo, Nat.zero_add, hne, if_false]
              have hj' : j < (zeros z.cells (c.toNat * inf.size)).size := by rw [size_zeros]; exact hj
              rw [Array.getD, dif_pos hj']
              simp only [zeros, Array.getInternal_eq_getElem, Array.getElem_map, Array.getElem_range]
              rw [getElem!_pos z.cells _ hlt]; exact d3 _ hlt
            rw [this, Row.get_leaf]; exact V.refl1 d1
          · exact .slice _ _ _ _ _ (by omega) ⟨newInfo w.heap.size (c.toNat * inf.size) (c.toNat * inf.size) 0 false, by simp [Ren.put], rfl, rfl, .inl ⟨rfl, rfl⟩⟩
        · cases hs
          have hz0 : (zeros (if c.toNat * inf.size = 0 then #[] else z.cells) (c.toNat * inf.size)).all plain1 = true := by
            by_cases h0 : c.toNat * inf.size = 0
            · rw [if_pos h0, h0]; exact zeros_plain (zero := #[]) (by simp) 0 (.inl rfl)
            · simp only [h0, if_false]; exact zeros_plain h3 _ (by omega)
          obtain ⟨e1, e2, e3, e4⟩ := newRow_sim (P := P) (xs := (zeros (if c.toNat * inf.size = 0 then #[] else z.cells) (c.toNat * inf.size)).toList) hR (VS.refl1 (ρ := ρ) hz0).tl elem 0
          obtain ⟨i, a1, a2, a3, a4⟩ := e4
          exact ⟨_, _, _, hrun, e2, e3, .slice _ _ _ _ _ (by omega) ⟨i, a1, a2, a4, .inl ⟨rfl, a3⟩⟩⟩
      · cases hs
    · cases hs
  · cases hs

/-! ### The cells that an append or a copy takes -/
def srcA (x : Value) (n size : Nat) (h : AH) : Option (List Value) :=
  match x with
  | .slice none _ _ => some []
  | .slice (some a) _ _ =>
    match h.get a.block with
    | some (.cells c m _ _ _ _ _ d) => if a.spot.isNone ∧ a.off + n * size ≤ m then some (rowA c d a.off (n * size)) else none
    | _ => none
  | .string s => some ((s.extract 0 n).data.toList.map fun b => .int .u8 b.toNat)
  | _ => none

def lenA : Value → Option Nat
  | .slice _ n _ => some n
  | .string s => some s.size
  | _ => none

theorem lenA_sim {x x' : Value} {n : Nat} (hx : V ρ x x') (hs : lenA x = some n) (w : World) : (Builtin.lenOf x').run P w = .ok n w := by
  unfold lenA at hs
  split at hs
  · cases hs; cases hx <;> rfl
  · cases hs; cases hx; rfl
  · cases hs

theorem srcA_sim {x x' : Value} {n len size : Nat} {vs : List Value} (hR : Rel ρ h w.heap) (hx : V ρ x x') (hl : lenA x = some len) (hn : n ≤ len) (hs : srcA x n size h = some vs) :
    ∃ ys, (Builtin.firstCells size n x').run P w = .ok ys w ∧ VS ρ vs.toArray ys := by
  unfold srcA at hs
  split at hs
  · cases hs
    cases hx
    exact ⟨#[], rfl, rfl, fun j hj => by simp at hj⟩
  · rename_i a m k
    cases hx with
    | slice _ b _ _ c hnk hS =>
      split at hs
      · rename_i cc mm elem fz esz op ro d hg
        split at hs
        · rename_i hc
          cases hs
          simp only [lenA, Option.some.injEq] at hl
          by_cases h0 : n * size = 0
          · refine ⟨#[], by simp [Builtin.firstCells, h0, loadCells, loadCellsFrom], ?_⟩
            rw [h0]; exact ⟨rfl, fun j hj => by simp [rowA] at hj⟩
          · have hpos : 0 < k := by
              rcases Nat.eq_zero_or_pos n with hn0 | hn0
              · subst hn0; simp at h0
              · omega
            obtain ⟨i, hi, ab, ao, asp⟩ := hS.head hpos
            obtain ⟨i', b', hi', hb, C, rfl, e2, e3, e4, e5, e6, e7, e8, e9, hv⟩ := hR.obj _ _ hg
            obtain rfl : i = i' := by rw [hi] at hi'; exact Option.some.inj hi'
            have hsp : b.spot = none := by rw [asp]; simpa using hc.1
            refine ⟨_, by
              simp only [Builtin.firstCells]
              exact run_loadCells_row w b C elem fz (n * size) (by rw [ab]; exact hb) hsp (by omega), ?_⟩
            refine ⟨by simp, fun j hj => ?_⟩
            simp only [List.size_toArray, length_rowA] at hj
            have h1 : ((rowA cc d a.off (n * size)).toArray).getD j undef = (cc.get (a.off + j)).getD d := by
              simp [Array.getD_eq_getD_getElem?, getElem?_rowA _ _ _ _ _ hj]
            have h2 : (((List.range (n * size)).map fun j => C.getD (b.off + j) undef).toArray).getD j undef = C.getD (b.off + j) undef := by
              simp [Array.getD_eq_getD_getElem?, hj]
            rw [h1, h2]
            have := hv (a.off + j) (by omega)
            rwa [show i.s + (a.off + j) = b.off + j by omega] at this
        · cases hs
      · cases hs
  · rename_i s
    cases hs
    cases hx
    refine ⟨_, rfl, ?_⟩
    have : ((s.extract 0 n).data.map fun b : UInt8 => Value.int .u8 b.toNat).all plain1 = true := by
      rw [Array.all_eq_true]; intro j hj; simp [plain1]
    have h2 := VS.refl1 (ρ := ρ) this
    have e : ((s.extract 0 n).data.toList.map fun b : UInt8 => Value.int .u8 b.toNat).toArray = ((s.extract 0 n).data.map fun b : UInt8 => Value.int .u8 b.toNat) := by
      apply Array.ext'; simp
    rw [e]; exact h2
  · cases hs

/-! ### copy -/
def copyA (P : Program) (argTypes : Array TypeId) (args : Array Value) (h : AH) : Option (Value × AH) :=
  match (argTypes[0]? : Option TypeId), (args[0]? : Option Value), (args[1]? : Option Value) with
  | some dT, some (.slice base dLen _), some src =>
    match P.underlying dT with
    | some (.slice elem) =>
      match P.info? elem, lenA src with
      | some inf, some sLen =>
        match srcA src (Nat.min sLen dLen) inf.size h with
        | some vs =>
          if vs.isEmpty then some (goInt (Nat.min sLen dLen), h) else
          match base with
          | some a => if 0 < dLen then (putCells a vs h).map fun h' => (goInt (Nat.min sLen dLen), h') else none
          | none => none
        | none => none
      | _, _ => none
    | _ => none
  | _, _, _ => none

theorem getD_some {xs ys : Array Value} {j : Nat} {v : Value} (hv : VS ρ xs ys) (h : xs[j]? = some v) : ∃ v', ys[j]? = some v' ∧ V ρ v v' := by
  obtain ⟨hlt, rfl⟩ := Array.getElem?_eq_some_iff.1 h
  have hlt' : j < ys.size := hv.1 ▸ hlt
  exact ⟨ys[j], by simp [hlt'], by simpa [Array.getD, hlt, hlt'] using hv.2 j hlt⟩

theorem copyA_sim {argTypes : Array TypeId} {ty : TypeId} {args args' : Array Value} {v : Value} {h' : AH} (hR : Rel ρ h w.heap) (ha : VS ρ args args') (hs : copyA P argTypes args h = some (v, h')) :
    Makes P ρ w (Builtin.copy_ argTypes ty args') v h' := by
  unfold copyA at hs
  split at hs
  · rename_i dT base dLen k src ht h0 h1
    obtain ⟨d', hd', hdv⟩ := getD_some ha h0
    obtain ⟨s', hs', hsv⟩ := getD_some ha h1
    split at hs
    · rename_i elem hu
      split at hs
      · rename_i inf sLen hi hlen
        split at hs
        · rename_i vs hsrc
          obtain ⟨ys, hr, hvy⟩ := srcA_sim (P := P) hR hsv hlen (Nat.min_le_left _ _) hsrc
          have hlr := lenA_sim (P := P) hsv hlen w
          have hdrun : ∃ base' k', d' = .slice base' dLen k' ∧ (∀ a, base = some a → 0 < dLen → ∃ b, base' = some b ∧ ARel ρ a b) := by
            cases hdv with
            | nilSlice _ _ => exact ⟨none, _, rfl, fun a e => by cases e⟩
            | slice x b _ _ c hnk hS => exact ⟨some b, c, rfl, fun a e hpos => by cases e; exact ⟨b, rfl, hS.head (by omega)⟩⟩
          obtain ⟨base', k', rfl, hbase⟩ := hdrun
          split at hs
          · rename_i hemp
            cases hs
            have hv0 : vs = [] := by simpa using hemp
            subst hv0
            have hy0 : ys = #[] := by have := hvy.1; simp at this; exact Array.eq_empty_of_size_eq_zero this.symm
            subst hy0
            refine ⟨ρ, goInt (Nat.min sLen dLen), w, ?_, Step.refl ρ w, hR, .int _ _⟩
            cases base' with
            | none => simp only [Builtin.copy_, ht, hd', hs', Sem.run_bind, run_underlying hu, Result.andThen_ok, hlr, run_size hi, hr, Sem.run_pure]
            | some b => simp only [Builtin.copy_, ht, hd', hs', Sem.run_bind, run_underlying hu, Result.andThen_ok, hlr, run_size hi, hr, Sem.run_pure, storeCells]
          · split at hs
            · rename_i a
              split at hs
              · rename_i hpos
                obtain ⟨b, rfl, hA⟩ := hbase a rfl hpos
                cases hp : putCells a vs h with
                | none => rw [hp] at hs; cases hs
                | some h1 =>
                  rw [hp] at hs; cases hs
                  obtain ⟨w', e1, e2, e3⟩ := putCells_sim (P := P) (vs' := ys.toList) hR hA (by rw [Array.toArray_toList]; exact hvy) hp
                  refine ⟨ρ, goInt (Nat.min sLen dLen), w', ?_, e2, e3, .int _ _⟩
                  simp only [Builtin.copy_, ht, hd', hs', Sem.run_bind, run_underlying hu, Result.andThen_ok, hlr, run_size hi, hr, Sem.run_pure, e1]
              · cases hs
            · cases hs
        · cases hs
      · cases hs
    · cases hs
  · cases hs

/-! ### append -/
/-- Where an open row lies. -/
def openInfo (b s n N esz : Nat) : Info := { b, s, n, N, esz, op := true, ro := false }

/-- A new row, open behind. -/
def openRow (cells : List Value) (elem : TypeId) (esz : Nat) : AObj := rowObj cells elem esz true

/-- The second operand is no number of noughts. -/
def notMake (P : Program) (argTypes : Array TypeId) : Bool :=
  match (argTypes[1]? : Option TypeId) with
  | none => true
  | some xT => match P.underlying xT with
    | some d => !(d matches .int _)
    | none => false

theorem notMake_spec {argTypes : Array TypeId} (h : notMake P argTypes = true) :
    argTypes[1]? = none ∨ ∃ xT d, argTypes[1]? = some xT ∧ P.underlying xT = some d ∧ (d matches .int _) = false := by
  unfold notMake at h
  split at h
  · rename_i e; exact .inl e
  · rename_i xT e
    split at h
    · rename_i d hd; exact .inr ⟨xT, d, e, hd, by simpa using h⟩
    · cases h

def appendA (P : Program) (argTypes : Array TypeId) (args : Array Value) (h : AH) : Option (Value × AH) :=
  match (argTypes[0]? : Option TypeId), (args[0]? : Option Value), (args[1]? : Option Value) with
  | some sT, some (.slice base len cap), some x =>
    match P.underlying sT, notMake P argTypes with
    | some (.slice elem), true =>
      match zeroA P elem, lenA x with
      | some (inf, z), some n =>
        match srcA x n inf.size h with
        | some vs =>
          if len + n ≤ cap then
            if vs.isEmpty then some (.slice base (len + n) cap, h) else
            match base with
            | some a => if 0 < cap then (putCells (a.add (len * inf.size)) vs h).map fun h' => (.slice base (len + n) cap, h') else none
            | none => none
          else if (2 * (len + n) + 768) * inf.bytes ≤ 2 ^ 47 ∧ len + n ≤ 2 ^ 47 ∧ z.cells.size = inf.size ∧ vs.length = n * inf.size then
            match base with
            | none => if len = 0 then some (.slice (some ⟨h.next, 0, none⟩) (len + n) (len + n), h.push (openRow vs elem inf.size)) else none
            | some a =>
              match h.get a.block with
              | some (.cells c m e _ esz op ro d) =>
                if a.spot.isNone ∧ a.off + len * inf.size ≤ m ∧ vs.all (·.oneCell') then
                  if op then
                    if ro = false ∧ esz = inf.size ∧ e = elem then
                      some (.slice (some ⟨h.next, 0, none⟩) (len + n) (len + n), (h.kill a.block).push (openRow (rowA c d a.off (len * inf.size) ++ vs) elem inf.size))
                    else none
                  else some (.slice (some ⟨h.next, 0, none⟩) (len + n) (len + n), h.push (openRow (rowA c d a.off (len * inf.size) ++ vs) elem inf.size))
                else none
              | _ => none
          else none
        | none => none
      | _, _ => none
    | _, _ => none
  | _, _, _ => none


theorem growBy_le (newLen B : Nat) (hB : 2 * newLen + 768 ≤ B) : ∀ (r c : Nat), c ≤ B → Builtin.growBy newLen r c ≤ B
  | 0, c, hc => hc
  | r + 1, c, hc => by
    unfold Builtin.growBy
    split
    · exact hc
    · exact growBy_le newLen B hB r _ (by omega)

theorem nextslicecap_le (need c : Nat) (hc : c < need) : Builtin.nextslicecap need c ≤ 2 * need + 768 := by
  unfold Builtin.nextslicecap
  split
  · omega
  · split
    · omega
    · exact growBy_le need _ (Nat.le_refl _) 4 c (by omega)

theorem append_run_fits {argTypes : Array TypeId} {ty : TypeId} {args : Array Value} {sT elem : TypeId} {base : Option Addr} {len c n : Nat} {x : Value} {inf : TypeInfo} {ys : Array Value} {w' : World}
    (ht : argTypes[0]? = some sT) (h0 : args[0]? = some (.slice base len c)) (h1 : args[1]? = some x) (hu : P.underlying sT = some (.slice elem)) (hi : P.info? elem = some inf)
    (hz : notMake P argTypes = true)
    (hl : (Builtin.lenOf x).run P w = .ok n w) (hf : (Builtin.firstCells inf.size n x).run P w = .ok ys w) (hc : len + n ≤ c)
    (hst : (match base with | some a => storeCells (a.add (len * inf.size)) ys.toList | none => pure ()).run P w = .ok () w') :
    (Builtin.append_ argTypes ty args).run P w = .ok (.slice base (len + n) c) w' := by
  rcases notMake_spec hz with h2 | ⟨xT, d, h2, hd, hne⟩
  · cases base with
    | none =>
      simp only [Sem.run_pure] at hst; cases hst
      simp only [Builtin.append_, ht, h0, h1, h2, Sem.run_bind, run_underlying hu, Result.andThen_ok, run_size hi, Sem.run_pure, Bool.false_eq_true, if_false, Bool.not_false, if_true, hl, hc, hf]
    | some a =>
      simp only [Builtin.append_, ht, h0, h1, h2, Sem.run_bind, run_underlying hu, Result.andThen_ok, run_size hi, Sem.run_pure, Bool.false_eq_true, if_false, Bool.not_false, if_true, hl, hc, hf, hst]
  · cases base with
    | none =>
      simp only [Sem.run_pure] at hst; cases hst
      cases d <;> first | (cases hne; done) | simp only [Builtin.append_, ht, h0, h1, h2, Sem.run_bind, run_underlying hu, run_underlying hd, Result.andThen_ok, run_size hi, Sem.run_pure, Bool.false_eq_true, if_false, Bool.not_false, if_true, hl, hc, hf]
    | some a =>
      cases d <;> first | (cases hne; done) | simp only [Builtin.append_, ht, h0, h1, h2, Sem.run_bind, run_underlying hu, run_underlying hd, Result.andThen_ok, run_size hi, Sem.run_pure, Bool.false_eq_true, if_false, Bool.not_false, if_true, hl, hc, hf, hst]

theorem append_run_grows {argTypes : Array TypeId} {ty : TypeId} {args : Array Value} {sT elem : TypeId} {base : Option Addr} {len c n : Nat} {x z : Value} {inf : TypeInfo} {old ys : Array Value}
    (ht : argTypes[0]? = some sT) (h0 : args[0]? = some (.slice base len c)) (h1 : args[1]? = some x) (hu : P.underlying sT = some (.slice elem)) (hi : P.info? elem = some inf)
    (hz : notMake P argTypes = true) (hzero : ∀ w, (zeroValue elem).run P w = .ok z w)
    (hl : (Builtin.lenOf x).run P w = .ok n w) (hf : (Builtin.firstCells inf.size n x).run P { w with drawn := w.drawn + 1 } = .ok ys { w with drawn := w.drawn + 1 })
    (ho : (Builtin.firstCells inf.size len (.slice base len c)).run P { w with drawn := w.drawn + 1 } = .ok old { w with drawn := w.drawn + 1 }) (hc : c < len + n)
    (hb : (2 * (len + n) + 768) * inf.bytes ≤ 2 ^ 47) (hm : len + n ≤ 2 ^ 47) :
    ∃ newCap, len + n ≤ newCap ∧ (Builtin.append_ argTypes ty args).run P w =
      .ok (.slice (some ⟨w.heap.size, 0, none⟩) (len + n) newCap) { { w with drawn := w.drawn + 1 } with heap := w.heap.push (.cells (old ++ ys ++ Builtin.zeroCells z.cells (newCap - (len + n))) elem) } := by
  have hnot : ¬ len + n ≤ c := by omega
  have hmax : ∀ b : Nat, ¬ (((len + n : Nat) : Int) > IntKind.i64.max ∧ (False ∨ b = 0)) := by
    intro b
    have : IntKind.i64.max = 9223372036854775807 := by decide
    rw [this]
    omega
  have hnc : ¬ Builtin.nextslicecap (len + n) c * inf.bytes > 2 ^ 48 := by
    have h3 := nextslicecap_le (len + n) c hc
    have h4 := Nat.mul_le_mul_right inf.bytes h3
    omega
  refine ⟨(Question.appendCap (len + n) c elem).cut (w.tape w.drawn (.appendCap (len + n) c elem)), by simp [Question.cut], ?_⟩
  have hch : (choose (.appendCap (len + n) c elem)).run P w = .ok ((Question.appendCap (len + n) c elem).cut (w.tape w.drawn (.appendCap (len + n) c elem))) { w with drawn := w.drawn + 1 } := by
    simp [Question.forced]
  have hm' := hmax inf.bytes
  simp only [false_or] at hm'
  rcases notMake_spec hz with h2 | ⟨xT, d, h2, hd, hne⟩
  · simp only [Builtin.append_, ht, h0, h1, h2, Sem.run_bind, run_underlying hu, Result.andThen_ok, run_size hi, Sem.run_pure, Bool.false_eq_true, if_false, Bool.not_false, if_true, hl, hnot, run_info hi, false_or, hm', hnc, hch, run_askRoom, ho, hf, hzero, newRow, run_newObj]
  · cases d <;> first | (cases hne; done) | simp only [Builtin.append_, ht, h0, h1, h2, Sem.run_bind, run_underlying hu, run_underlying hd, Result.andThen_ok, run_size hi, Sem.run_pure, Bool.false_eq_true, if_false, Bool.not_false, if_true, hl, hnot, run_info hi, false_or, hm', hnc, hch, run_askRoom, ho, hf, hzero, newRow, run_newObj]

end
end Go.AE

/-
  AE, part 8: append, that it goes as is said.
-/
namespace Go.AE
noncomputable section
set_option linter.unusedSimpArgs false
set_option linter.unusedVariables false
variable {P : Program} {ρ : Ren} {h : AH} {w : World}

theorem Rel.kill {A : Array Obj} (hR : Rel ρ h A) (β : Nat) : Rel ρ (h.kill β) A where
  lt := fun γ i hi => hR.lt γ i hi
  obj := fun γ o ho => by
    rw [AH.get_kill] at ho
    split at ho
    · cases ho
    · exact hR.obj γ o ho
  inj := fun γ δ o p i j ho hp hi hj e => by
    rw [AH.get_kill] at ho hp
    split at ho
    · cases ho
    · split at hp
      · cases hp
      · exact hR.inj γ δ o p i j ho hp hi hj e

/-- A block that no living abstract one stands for may be written. -/
theorem Rel.foreign {A : Array Obj} (hR : Rel ρ h A) (b : Nat) (X : Obj) (hb : ∀ β o i, h.get β = some o → ρ β = some i → i.b ≠ b) : Rel ρ h (A.setIfInBounds b X) where
  lt := fun γ i hi => by simpa using hR.lt γ i hi
  obj := fun γ o ho => by
    obtain ⟨i, b', hi, hb', hO⟩ := hR.obj γ o ho
    exact ⟨i, b', hi, by rw [Array.getElem?_setIfInBounds_ne (fun e => hb γ o i ho hi e.symm)]; exact hb', hO⟩
  inj := hR.inj

/-- A new abstract block for a real one that is there. -/
theorem Rel.adopt {A : Array Obj} (hR : Rel ρ h A) (o : AObj) (X : Obj) (i : Info) (hX : A[i.b]? = some X) (hb : ∀ β p j, h.get β = some p → ρ β = some j → j.b ≠ i.b)
    (hO : ORel (ρ.put h.next i) i o X) : Rel (ρ.put h.next i) (h.push o) A where
  lt := fun β j hj => by
    simp only [Ren.put] at hj
    split at hj
    · cases hj; rename_i e; subst e; exact ⟨(Array.getElem?_eq_some_iff.1 hX).1, by simp⟩
    · have := hR.lt β j hj; simp; omega
  obj := fun β p hp => by
    rw [AH.get_push] at hp
    split at hp
    · rename_i e; subst e; cases hp
      exact ⟨i, X, by simp [Ren.put], hX, hO⟩
    · rename_i e
      obtain ⟨j, b', hj, hb', hO'⟩ := hR.obj β p hp
      exact ⟨j, b', by simp [Ren.put, e, hj], hb', hO'.mono (Ren.le_put hR i)⟩
  inj := fun β γ o' p' k l hb' hg hk hl e => by
    rw [AH.get_push] at hb' hg
    simp only [Ren.put] at hk hl
    by_cases e1 : β = h.next
    · by_cases e2 : γ = h.next
      · rw [e1, e2]
      · simp only [e1, if_true] at hk; simp only [e2, if_false] at hl hg
        cases hk
        exact absurd e.symm (hb γ p' l hg hl)
    · by_cases e2 : γ = h.next
      · simp only [e2, if_true] at hl; simp only [e1, if_false] at hk hb'
        cases hl
        exact absurd e (hb β o' k hb' hk)
      · simp only [e1, e2, if_false] at hb' hg hk hl
        exact hR.inj β γ o' p' k l hb' hg hk hl e

theorem Step.adopt {A : World} {h : AH} (hR : Rel ρ h A.heap) {β : Nat} {i : Info} (hi : ρ β = some i) (hr : i.ro = false) (j : Info) (hj : j.b = i.b) (X : Obj) :
    Step ρ A (ρ.put h.next j) { A with heap := A.heap.setIfInBounds i.b X } where
  le := Ren.le_put hR j
  old := fun γ k hk _ => by
    simp only [Ren.put] at hk
    split at hk
    · cases hk; exact ⟨β, i, hi, hj.symm, fun _ => hr⟩
    · exact ⟨γ, k, hk, rfl, id⟩
  os := rfl
  tape := rfl
  output := rfl
  size := by simp
  frame := fun b' hb' hro => by
    have hne : i.b ≠ b' := fun e => by have := hro β i hi e; rw [hr] at this; cases this
    simp [Array.getElem?_setIfInBounds_ne hne]

theorem openRow_orel {xs : List Value} {C rest : Array Value} (hv : VS ρ xs.toArray C) (elem : TypeId) (b sz : Nat) :
    ORel ρ (openInfo b 0 xs.length (C.size + rest.size) sz) (openRow xs elem sz) (.cells (C ++ rest) elem) := by
  obtain ⟨h1, h2⟩ := hv
  simp only [List.size_toArray] at h1 h2
  refine ⟨C ++ rest, rfl, rfl, rfl, rfl, rfl, by simp [openInfo], by simp [openInfo]; omega, (fun e => by cases e), fun _ => rfl, fun j hj => ?_⟩
  have h3 := h2 j hj
  rw [get_ofRow, if_pos hj]
  have e : (C ++ rest).getD ((openInfo b 0 xs.length (C.size + rest.size) sz).s + j) undef = C.getD j undef := by
    simp only [openInfo, Nat.zero_add]
    have : j < C.size := by omega
    simp [Array.getD_eq_getD_getElem?, Array.getElem?_append, this]
  rw [e]
  simpa [Array.getD_eq_getD_getElem?, List.getD] using h3

theorem VS.append {xs ys : List Value} {as bs : Array Value} (h1 : VS ρ xs.toArray as) (h2 : VS ρ ys.toArray bs) : VS ρ (xs ++ ys).toArray (as ++ bs) := by
  obtain ⟨a1, a2⟩ := h1
  obtain ⟨b1, b2⟩ := h2
  simp only [List.size_toArray] at a1 a2 b1 b2
  refine ⟨by simp [a1, b1], fun j hj => ?_⟩
  simp only [List.size_toArray, List.length_append] at hj
  by_cases hlt : j < xs.length
  · have := a2 j hlt
    have e1 : (xs ++ ys).toArray.getD j undef = xs.toArray.getD j undef := by
      simp [Array.getD_eq_getD_getElem?, List.getElem?_append, hlt]
    have e2 : (as ++ bs).getD j undef = as.getD j undef := by
      have : j < as.size := by omega
      simp [Array.getD_eq_getD_getElem?, Array.getElem?_append, this]
    rw [e1, e2]; exact this
  · have := b2 (j - xs.length) (by omega)
    have e1 : (xs ++ ys).toArray.getD j undef = ys.toArray.getD (j - xs.length) undef := by
      simp [Array.getD_eq_getD_getElem?, List.getElem?_append, hlt]
    have e2 : (as ++ bs).getD j undef = bs.getD (j - xs.length) undef := by
      have : ¬ j < as.size := by omega
      simp [Array.getD_eq_getD_getElem?, Array.getElem?_append, this, a1]
    rw [e1, e2]; exact this

theorem size_zeroCells (z : Array Value) (n : Nat) : (Builtin.zeroCells z n).size = n * z.size := by simp [Builtin.zeroCells]

/-- The growing append: a new row. -/
theorem grow_makes {ρ : Ren} {h0 : AH} {w : World} {xs : List Value} {C rest : Array Value} (hR : Rel ρ h0 w.heap) (hv : VS ρ xs.toArray C) (elem : TypeId) (sz need newCap : Nat)
    (hx : xs.length = need * sz) (hr : rest.size = (newCap - need) * sz) (hn : need ≤ newCap) :
    ∃ ρ', Step ρ w ρ' { { w with drawn := w.drawn + 1 } with heap := w.heap.push (.cells (C ++ rest) elem) } ∧
      Rel ρ' (h0.push (openRow xs elem sz)) (w.heap.push (.cells (C ++ rest) elem)) ∧
      V ρ' (.slice (some ⟨h0.next, 0, none⟩) need need) (.slice (some ⟨w.heap.size, 0, none⟩) need newCap) := by
  refine ⟨ρ.put h0.next (openInfo w.heap.size 0 xs.length (C.size + rest.size) sz), ?_, ?_, ?_⟩
  · have h1 := Step.same ρ (w := w) (w' := { w with drawn := w.drawn + 1 }) rfl rfl rfl rfl
    exact h1.trans (Step.alloc (w := { w with drawn := w.drawn + 1 }) hR _ _ rfl)
  · exact hR.alloc _ _ _ rfl (openRow_orel (hv.mono (Ren.le_put hR _)) _ _ _)
  · refine .slice _ _ _ _ _ (Nat.le_refl _) ⟨openInfo w.heap.size 0 xs.length (C.size + rest.size) sz, by simp [Ren.put], rfl, rfl, .inr ⟨rfl, hn, rfl, ?_, fun _ => ⟨?_, rfl⟩⟩⟩
    · have h1 := hv.1
      simp only [List.size_toArray] at h1
      have h2 : need * sz + (newCap - need) * sz = newCap * sz := by rw [← Nat.add_mul, Nat.add_sub_cancel' hn]
      simp only [openInfo]
      omega
    · simp only [openInfo]; omega

theorem appendA_sim {argTypes : Array TypeId} {ty : TypeId} {args args' : Array Value} {v : Value} {h' : AH} (hR : Rel ρ h w.heap) (ha : VS ρ args args') (hs : appendA P argTypes args h = some (v, h')) :
    Makes P ρ w (Builtin.append_ argTypes ty args') v h' := by
  unfold appendA at hs
  split at hs
  · rename_i sT base len cap x ht h0 h1
    obtain ⟨s', hs', hsv⟩ := getD_some ha h0
    obtain ⟨x', hx', hxv⟩ := getD_some ha h1
    split at hs
    · rename_i elem hu hmk
      split at hs
      · rename_i inf z n hz hlen
        obtain ⟨hz1, hi, hz3⟩ := zeroA_run hz w
        split at hs
        · rename_i vs hsrc
          obtain ⟨ys, hr, hvy⟩ := srcA_sim (P := P) hR hxv hlen (Nat.le_refl _) hsrc
          obtain ⟨ysd, hrd, hvyd⟩ := srcA_sim (P := P) (w := { w with drawn := w.drawn + 1 }) hR hxv hlen (Nat.le_refl _) hsrc
          have hlr := lenA_sim (P := P) hxv hlen w
          split at hs
          · -- it fits
            rename_i hfit
            split at hs
            · rename_i hemp
              cases hs
              have hv0 : vs = [] := by simpa using hemp
              subst hv0
              have hy0 : ys = #[] := by have := hvy.1; simp at this; exact Array.eq_empty_of_size_eq_zero this.symm
              subst hy0
              cases hsv with
              | nilSlice _ _ =>
                exact ⟨ρ, _, w, append_run_fits ht hs' hx' hu hi hmk hlr hr hfit rfl, Step.refl ρ w, hR, .nilSlice _ _⟩
              | slice a b _ _ c hnk hS =>
                have hkc : cap ≤ c := by
                  obtain ⟨i, _, _, _, hS'⟩ := hS
                  rcases hS' with ⟨rfl, _⟩ | ⟨_, hk, _⟩
                  · exact Nat.le_refl _
                  · exact hk
                exact ⟨ρ, _, w, append_run_fits ht hs' hx' hu hi hmk hlr hr (Nat.le_trans hfit hkc) (by simp [storeCells]), Step.refl ρ w, hR, .slice _ _ _ _ _ hfit hS⟩
            · split at hs
              · rename_i a
                split at hs
                · rename_i hpos
                  cases hp : putCells (a.add (len * inf.size)) vs h with
                  | none => rw [hp] at hs; cases hs
                  | some h1 =>
                    rw [hp] at hs; cases hs
                    cases hsv with
                    | slice _ b _ _ c hnk hS =>
                      have hkc : cap ≤ c := by
                        obtain ⟨i, _, _, _, hS'⟩ := hS
                        rcases hS' with ⟨rfl, _⟩ | ⟨_, hk, _⟩
                        · exact Nat.le_refl _
                        · exact hk
                      obtain ⟨w', e1, e2, e3⟩ := putCells_sim (P := P) (vs' := ys.toList) hR ((hS.head hpos).add (len * inf.size)) (by rw [Array.toArray_toList]; exact hvy) hp
                      exact ⟨ρ, _, w', append_run_fits ht hs' hx' hu hi hmk hlr hr (Nat.le_trans hfit hkc) e1, e2, e3, .slice _ _ _ _ _ hfit hS⟩
                · cases hs
              · cases hs
          · -- it does not
            rename_i hfit
            split at hs
            · rename_i hcond
              obtain ⟨hb1, hb2, hb3, hb4⟩ := hcond
              split at hs
              · -- nil
                split at hs
                · rename_i hl0
                  cases hs
                  subst hl0
                  cases hsv with
                  | nilSlice _ _ =>
                    obtain ⟨newCap, hnc, hrun⟩ := append_run_grows (old := #[]) (ys := ysd) (z := z) (ty := ty) (w := w) ht hs' hx' hu hi hmk (fun w => (zeroA_run hz w).1) hlr hrd rfl (by omega) hb1 hb2
                    obtain ⟨ρ', g1, g2, g3⟩ := grow_makes (C := #[] ++ ysd) (rest := Builtin.zeroCells z.cells (newCap - (0 + n))) hR (by simpa using hvyd) elem inf.size (0 + n) newCap (by simpa using hb4) (by rw [size_zeroCells, hb3]) hnc
                    exact ⟨ρ', _, _, hrun, g1, g2, g3⟩
                · cases hs
              · rename_i a
                split at hs
                · rename_i c m e f esz op ro d hg
                  split at hs
                  · rename_i hcell
                    obtain ⟨hsp, hoff, hall⟩ := hcell
                    have hold : srcA (.slice (some a) len cap) len inf.size h = some (rowA c d a.off (len * inf.size)) := by
                      simp only [srcA, hg, hsp, hoff]; simp
                    obtain ⟨old, ho1, ho2⟩ := srcA_sim (P := P) (w := { w with drawn := w.drawn + 1 }) (len := len) hR hsv rfl (Nat.le_refl _) hold
                    have hvold := VS.append ho2 hvyd
                    have hxl : (rowA c d a.off (len * inf.size) ++ vs).length = (len + n) * inf.size := by simp [hb4, Nat.add_mul]
                    cases hsv with
                    | slice _ b _ _ c' hnk hS =>
                      -- growing, whatever the abstract heap behind it
                      have grows : ∀ {h0 : AH}, Rel ρ h0 w.heap → c' < len + n → Makes P ρ w (Builtin.append_ argTypes ty args') (.slice (some ⟨h0.next, 0, none⟩) (len + n) (len + n)) (h0.push (openRow (rowA c d a.off (len * inf.size) ++ vs) elem inf.size)) := by
                        intro h0 hR0 hlt
                        obtain ⟨newCap, hnc, hrun⟩ := append_run_grows (old := old) (ys := ysd) (z := z) (ty := ty) (w := w) ht hs' hx' hu hi hmk (fun w => (zeroA_run hz w).1) hlr hrd ho1 hlt hb1 hb2
                        obtain ⟨ρ', g1, g2, g3⟩ := grow_makes (rest := Builtin.zeroCells z.cells (newCap - (len + n))) hR0 hvold elem inf.size (len + n) newCap hxl (by rw [size_zeroCells, hb3]) hnc
                        exact ⟨ρ', _, _, hrun, g1, g2, g3⟩
                      split at hs
                      · rename_i hop
                        split at hs
                        · rename_i hro
                          cases hs
                          by_cases hlt : c' < len + n
                          · exact grows (hR.kill a.block) hlt
                          · -- in place
                            obtain ⟨i, hia, hib, hisp, hS'⟩ := hS
                            obtain ⟨i', X, hi', hX, C, rfl, e2, e3, e4, e5, e6, e7, e8, e9, hv⟩ := hR.obj _ _ hg
                            obtain rfl : i = i' := by rw [hia] at hi'; exact Option.some.inj hi'
                            rcases hS' with ⟨rfl, _⟩ | ⟨_, hkc, hbs, hbN, hk0⟩
                            · omega
                            have hesz : i.esz = inf.size := by rw [e5]; exact hro.2.1
                            obtain rfl : e = elem := hro.2.2
                            have hiro : i.ro = false := by rw [e4]; exact hro.1
                            have hyl : ys.size = n * inf.size := by have := hvy.1; simp at this; omega
                            have hmul : (len + n) * inf.size ≤ c' * inf.size := Nat.mul_le_mul_right _ (by omega)
                            have hadd : (len + n) * inf.size = len * inf.size + n * inf.size := Nat.add_mul _ _ _
                            rw [hesz] at hbN
                            obtain ⟨C', hC1, hC2, hst⟩ := run_storeCells_row (P := P) i.b e f ys.toList (b.off + len * inf.size) 0 C w hX
                              (hvy.all_one (by simpa using hall)) (by simp; omega) (fun j _ => by rw [e9 hop]; simp)
                            have hbadd : b.add (len * inf.size) = ⟨i.b, b.off + len * inf.size, none⟩ := by
                              obtain ⟨x1, x2, x3⟩ := b
                              simp only at hib hbs
                              subst hib hbs
                              exact Addr.add_lit _ _ _
                            have hrun := append_run_fits (ty := ty) (ys := ys) (w := w) (w' := { w with heap := w.heap.setIfInBounds i.b (.cells C' e f) }) ht hs' hx' hu hi hmk hlr hr (Nat.not_lt.1 hlt) (by simp only [hbadd]; exact hst)
                            have hfor : ∀ β o j, (h.kill a.block).get β = some o → ρ β = some j → j.b ≠ i.b := by
                              intro β o j hβ hj hbj
                              rw [AH.get_kill] at hβ
                              split at hβ
                              · cases hβ
                              · rename_i hne; exact hne (hR.inj β a.block o _ j i hβ hg hj hia hbj)
                            have hRk := ((hR.kill a.block).foreign i.b (.cells C' e f) hfor)
                            have hlt' : i.b < w.heap.size := (hR.lt _ _ hia).1
                            refine ⟨ρ.put h.next (openInfo i.b b.off (rowA c d a.off (len * inf.size) ++ vs).length i.N inf.size), _, _, hrun,
                              Step.adopt hR hia hiro (openInfo i.b b.off (rowA c d a.off (len * inf.size) ++ vs).length i.N inf.size) rfl _, hRk.adopt _ (.cells C' e f) _ (by simp only [openInfo]; simp [hlt']) hfor ?_, ?_⟩
                            · -- the object
                              refine ⟨C', by rw [e9 hop], rfl, rfl, rfl, rfl, hC1.trans e6, ?_, (fun e => by cases e), fun _ => rfl, fun j hj => ?_⟩
                              · simp only [openInfo, List.length_append, length_rowA, hb4]; omega
                              · rw [get_ofRow, if_pos hj]
                                simp only [openInfo]
                                rw [hC2]
                                simp only [List.length_append, length_rowA, hb4] at hj
                                have hml := Ren.le_put hR (openInfo i.b b.off (rowA c d a.off (len * inf.size) ++ vs).length i.N inf.size)
                                by_cases hjl : j < len * inf.size
                                · rw [if_neg (by omega)]
                                  have hpos : 0 < cap := by
                                    rcases Nat.eq_zero_or_pos len with h00 | h00
                                    · subst h00; simp at hjl
                                    · omega
                                  have hoffs := (hk0 hpos).2
                                  have := hv (a.off + j) (by omega)
                                  have e1 : (rowA c d a.off (len * inf.size) ++ vs).getD j undef = (c.get (a.off + j)).getD d := by
                                    rw [List.getD, List.getElem?_append_left (by simpa using hjl), getElem?_rowA _ _ _ _ _ hjl]; rfl
                                  rw [show b.off + j = i.s + (a.off + j) by omega]
                                  simp only [Option.getD_some, e1]
                                  exact this.mono hml
                                · rw [if_pos (by simp only [Array.length_toList]; omega)]
                                  have := hvy.2 (j - len * inf.size) (by simp; omega)
                                  have e1 : (rowA c d a.off (len * inf.size) ++ vs).getD j undef = vs.getD (j - len * inf.size) undef := by
                                    rw [List.getD, List.getElem?_append_right (by simpa using hjl), length_rowA]; rfl
                                  rw [show b.off + j - (b.off + len * inf.size + 0) = j - len * inf.size by omega]
                                  simp only [Option.getD_some, e1]
                                  have h9 := this.mono hml
                                  simpa [Array.getD_eq_getD_getElem?, List.getD, openInfo] using h9
                            · refine .slice _ _ _ _ _ (Nat.le_refl _) ⟨openInfo i.b b.off (rowA c d a.off (len * inf.size) ++ vs).length i.N inf.size, by simp [Ren.put], hib, hbs, .inr ⟨rfl, Nat.not_lt.1 hlt, hbs, hbN, fun _ => ⟨?_, ?_⟩⟩⟩
                              · simp only [openInfo, hxl]; omega
                              · simp only [openInfo]; omega
                        · cases hs
                      · rename_i hop
                        cases hs
                        obtain ⟨i, hia, hib, hisp, hS'⟩ := hS
                        obtain ⟨i', X, hi', hX, C, rfl, e2, e3, e4, e5, e6, e7, e8, e9, hv⟩ := hR.obj _ _ hg
                        obtain rfl : i = i' := by rw [hia] at hi'; exact Option.some.inj hi'
                        rcases hS' with ⟨rfl, _⟩ | ⟨hio, _⟩
                        · exact grows hR (by omega)
                        · exact absurd (e3 ▸ hio) hop
                  · cases hs
                · cases hs
            · cases hs
        · cases hs
      · cases hs
    · cases hs
  · cases hs

end
end Go.AE

/-
  AE, maps: made, looked up, updated, thinned; an interface's value taken out.
-/
namespace Go.AE
noncomputable section
set_option linter.unusedSimpArgs false
set_option linter.unusedVariables false
variable {P : Program} {ρ : Ren} {h : AH} {w : World}

/-! ### Entries -/
def EL (ρ : Ren) (l l' : List MapEntry) : Prop := l.length = l'.length ∧ ∀ (j : Nat) x y, l[j]? = some x → l'[j]? = some y → ERel ρ x y

theorem EL.cons {x y : MapEntry} {l l' : List MapEntry} (h : EL ρ (x :: l) (y :: l')) : ERel ρ x y ∧ EL ρ l l' :=
  ⟨h.2 0 x y rfl rfl, by simpa using h.1, fun j a b ha hb => h.2 (j + 1) a b (by simpa using ha) (by simpa using hb)⟩

theorem sameNow_rel {d : TypeDesc} {k x y : Value} {b : Bool} (hv : V ρ x y) (hs : Instr.sameNow d k x = some b) : Instr.sameNow d k y = some b := by
  unfold Instr.sameNow at hs
  split at hs
  · cases hv; exact hs
  · cases hv; exact hs
  · cases hv; exact hs
  · cases hs

def FRel (ρ : Ren) : Option (Nat × Value) → Option (Nat × Value) → Prop
  | none, none => True
  | some (i, v), some (j, u) => i = j ∧ V ρ v u
  | _, _ => False

theorem findNow_rel {d : TypeDesc} {k : Value} : ∀ (l l' : List MapEntry) (i : Nat) (r : Option (Nat × Value)), EL ρ l l' → Instr.findNow d k l i = some r →
    ∃ r', Instr.findNow d k l' i = some r' ∧ FRel ρ r r'
  | [], [], i, r, _, hs => by simp only [Instr.findNow, Option.some.injEq] at hs; subst hs; exact ⟨none, rfl, trivial⟩
  | [], y :: l', i, r, he, hs => by have := he.1; simp at this
  | x :: l, [], i, r, he, hs => by have := he.1; simp at this
  | x :: l, y :: l', i, r, he, hs => by
    obtain ⟨h1, h2⟩ := he.cons
    simp only [Instr.findNow] at hs ⊢
    split at hs
    · rename_i hb
      cases hs
      rw [sameNow_rel h1.1 hb]
      exact ⟨_, rfl, rfl, h1.2.1⟩
    · rename_i hb
      rw [sameNow_rel h1.1 hb]
      exact findNow_rel l l' (i + 1) r h2 hs
    · cases hs

theorem findKey_run {kt : TypeId} {d : TypeDesc} {k : Value} {l : List MapEntry} {r : Option (Nat × Value)} (hd : P.underlying kt = some d) (hf : Instr.findNow d k l 0 = some r) (w : World) :
    (Instr.findKey kt k l).run P w = .ok r w := by
  simp [Instr.findKey, run_underlying hd, hf]

theorem EL.of {es es' : Array MapEntry} (hs : es.size = es'.size) (hr : ∀ (j : Nat) x y, es[j]? = some x → es'[j]? = some y → ERel ρ x y) : EL ρ es.toList es'.toList :=
  ⟨by simpa using hs, fun j x y hx hy => hr j x y (by simpa using hx) (by simpa using hy)⟩

/-! ### Made -/
def makeMapA (reserve : Option Value) (h : AH) : Option (Value × AH) :=
  match reserve with
  | none => some (.map (some h.next), h.push (.map #[] 0 false))
  | some _ => none

theorem makeMapA_sim {t : TypeId} {r r' : Option Value} {v : Value} {h' : AH} (hR : Rel ρ h w.heap) (hr : VO ρ r r') (hs : makeMapA r h = some (v, h')) : Makes P ρ w (Instr.makeMap t r') v h' := by
  unfold makeMapA at hs
  split at hs
  · cases hs
    have hr' : r' = none := by cases r' with
      | none => rfl
      | some x => exact hr.elim
    subst hr'
    let i : Info := { b := w.heap.size, s := 0, n := 0, N := 0, esz := 0, op := false, ro := false }
    refine ⟨ρ.put h.next i, .map (some w.heap.size), { w with heap := w.heap.push (.map #[] 0) }, by simp [Instr.makeMap], Step.alloc hR _ i rfl, hR.alloc _ _ i rfl ⟨#[], rfl, rfl, rfl, rfl, fun j x y hx => by simp at hx⟩, ?_⟩
    exact .map _ _ i (by simp [Ren.put]) rfl
  · cases hs

/-! ### Looked up -/
def entriesA (x : Value) (h : AH) : Option (Array MapEntry) :=
  match x with
  | .map none => some #[]
  | .map (some r) => match h.get r with
    | some (.map es _ _) => some es
    | _ => none
  | _ => none

/-- Keys that are structs are asked about one by one. -/
def findAskA (P : Program) (kt : TypeId) (k : Value) : List MapEntry → Nat → Option (Option (Nat × Value))
  | [], _ => some none
  | e :: es, i =>
    if plain e.key then
      match semP P (Op.equal kt k e.key) with
      | some true => some (some (i, e.val))
      | some false => findAskA P kt k es (i + 1)
      | none => none
    else none

theorem findAskA_run {kt : TypeId} {k : Value} (w : World) : ∀ (l l' : List MapEntry) (i : Nat) (r : Option (Nat × Value)), EL ρ l l' → findAskA P kt k l i = some r →
    ∃ r', (Instr.findAsking kt k l' i).run P w = .ok r' w ∧ FRel ρ r r'
  | [], [], i, r, _, hs => by simp only [findAskA, Option.some.injEq] at hs; subst hs; exact ⟨none, rfl, trivial⟩
  | [], y :: l', i, r, he, hs => by have := he.1; simp at this
  | x :: l, [], i, r, he, hs => by have := he.1; simp at this
  | x :: l, y :: l', i, r, he, hs => by
    obtain ⟨h1, h2⟩ := he.cons
    simp only [findAskA] at hs
    split at hs
    case isFalse => cases hs
    rename_i hp
    have hk : y.key = x.key := h1.1.plain hp
    split at hs
    · rename_i hb
      cases hs
      refine ⟨some (i, y.val), ?_, rfl, h1.2.1⟩
      simp only [Instr.findAsking, Sem.run_bind, hk, semP_run hb w, Result.andThen_ok, if_true]
      rfl
    · rename_i hb
      obtain ⟨r', e1, e2⟩ := findAskA_run w l l' (i + 1) r h2 hs
      refine ⟨r', ?_, e2⟩
      simp only [Instr.findAsking, Sem.run_bind, hk, semP_run hb w, Result.andThen_ok, Bool.false_eq_true, if_false]
      exact e1
    · cases hs

def isStruct : TypeDesc → Bool
  | .struct _ => true
  | _ => false

theorem findKey_asks {kt : TypeId} {d : TypeDesc} {k : Value} {l : List MapEntry} {r : Option (Nat × Value)} {w : World} (hd : P.underlying kt = some d) (hst : isStruct d = true)
    (hf : (Instr.findAsking kt k l).run P w = .ok r w) : (Instr.findKey kt k l).run P w = .ok r w := by
  cases d <;> first | (simp [isStruct] at hst; done) | skip
  cases l with
  | nil =>
    simp only [Instr.findKey, Sem.run_bind, run_underlying hd, Result.andThen_ok, Instr.findNow]
    exact hf
  | cons e es =>
    simp only [Instr.findKey, Sem.run_bind, run_underlying hd, Result.andThen_ok, Instr.findNow, Instr.sameNow]
    exact hf

def findA (P : Program) (kt : TypeId) (emp : Bool) (k : Value) (es : Array MapEntry) : Option (Option (Nat × Value)) :=
  if plain k then
    match semP P (Instr.checkKey emp 10000 kt k), P.underlying kt with
    | some (), some d => if isStruct d then findAskA P kt k es.toList 0 else Instr.findNow d k es.toList 0
    | _, _ => none
  else none

theorem findA_run {kt : TypeId} {emp : Bool} {k k' : Value} {es es' : Array MapEntry} {r : Option (Nat × Value)} (hk : V ρ k k') (hs : es.size = es'.size)
    (hr : ∀ (j : Nat) x y, es[j]? = some x → es'[j]? = some y → ERel ρ x y) (hf : findA P kt emp k es = some r) (w : World) :
    k' = k ∧ (Instr.checkKey emp 10000 kt k).run P w = .ok () w ∧ ∃ r', (Instr.findKey kt k es'.toList).run P w = .ok r' w ∧ FRel ρ r r' := by
  unfold findA at hf
  split at hf
  · rename_i hp
    have e := hk.plain hp
    split at hf
    · rename_i d hc hd
      split at hf
      · rename_i hst
        obtain ⟨r', h1, h2⟩ := findAskA_run w _ _ 0 r (EL.of hs hr) hf
        exact ⟨e, semP_run hc w, r', findKey_asks hd hst h1, h2⟩
      · obtain ⟨r', h1, h2⟩ := findNow_rel _ _ 0 r (EL.of hs hr) hf
        exact ⟨e, semP_run hc w, r', findKey_run hd h1 w, h2⟩
    · cases hf
  · cases hf

def lookupA (P : Program) (t : TypeId) (x k : Value) (ok : Bool) (h : AH) : Option Value :=
  match P.underlying t with
  | some (.map kt e) =>
    match entriesA x h with
    | some es => match findA P kt es.isEmpty k es with
      | some (some (_, v)) => some (if ok then .tuple #[v, .bool true] else v)
      | some none => match zeroA P e with
        | some (_, z) => if plain z then some (if ok then .tuple #[z, .bool false] else z) else none
        | none => none
      | none => none
    | none => none
  | _ => none

theorem V.pair {x y x' y' : Value} (h1 : V ρ x x') (h2 : V ρ y y') : V ρ (.tuple #[x, y]) (.tuple #[x', y']) := by
  refine .tuple _ _ (by simp) rfl fun j hj => ?_
  simp only [List.size_toArray, List.length_cons, List.length_nil] at hj
  match j, hj with
  | 0, _ => exact h1
  | 1, _ => exact h2

theorem entriesA_rel {x x' : Value} {es : Array MapEntry} (hR : Rel ρ h w.heap) (hx : V ρ x x') (hs : entriesA x h = some es) :
    (x' = .map none ∧ es = #[]) ∨ ∃ r' es' clock, x' = .map (some r') ∧ w.heap[r']? = some (.map es' clock) ∧ es.size = es'.size ∧ ∀ (j : Nat) a b, es[j]? = some a → es'[j]? = some b → ERel ρ a b := by
  unfold entriesA at hs
  split at hs
  · cases hs; cases hx; exact .inl ⟨rfl, rfl⟩
  · rename_i r
    split at hs
    · rename_i es₁ clock ro hg
      cases hs
      cases hx with
      | map _ r' i hi hb =>
        obtain ⟨i', b, hi', hb', es', rfl, e2, e3, e4, e5⟩ := hR.obj _ _ hg
        obtain rfl : i' = i := by rw [hi'] at hi; exact Option.some.inj hi
        exact .inr ⟨r', es', clock, rfl, hb ▸ hb', e4, e5⟩
    · cases hs
  · cases hs

theorem lookupA_sim {t : TypeId} {x x' k k' : Value} {ok : Bool} {v : Value} (hR : Rel ρ h w.heap) (hx : V ρ x x') (hk : V ρ k k') (hs : lookupA P t x k ok h = some v) :
    ∃ v', (Instr.lookup t x' k' ok).run P w = .ok v' w ∧ V ρ v v' := by
  unfold lookupA at hs
  split at hs
  case h_2 => cases hs
  rename_i kt e ht
  split at hs
  case h_2 => cases hs
  rename_i es he
  have core : ∀ (es' : Array MapEntry), es.size = es'.size → (∀ (j : Nat) a b, es[j]? = some a → es'[j]? = some b → ERel ρ a b) →
      (Instr.checkKey es'.isEmpty 10000 kt k').run P w = .ok () w ∧
      ((∃ i u, (Instr.findKey kt k' es'.toList).run P w = .ok (some (i, u)) w ∧ V ρ v (if ok then .tuple #[u, .bool true] else u)) ∨
       (∃ z, (Instr.findKey kt k' es'.toList).run P w = .ok none w ∧ (zeroValue e).run P w = .ok z w ∧ V ρ v (if ok then .tuple #[z, .bool false] else z))) := by
    intro es' hsz hr
    have hem : es'.isEmpty = es.isEmpty := by simp [Array.isEmpty, hsz]
    split at hs
    · rename_i i u hf
      cases hs
      obtain ⟨rfl, hc, r', hr', hF⟩ := findA_run hk hsz hr hf w
      cases r' with
      | none => exact hF.elim
      | some p =>
        obtain ⟨j, u'⟩ := p
        refine ⟨by rw [hem]; exact hc, .inl ⟨j, u', hr', ?_⟩⟩
        cases ok
        · exact hF.2
        · exact V.pair hF.2 (.bool true)
    · rename_i hf
      obtain ⟨rfl, hc, r', hr', hF⟩ := findA_run hk hsz hr hf w
      cases r' with
      | some p => exact hF.elim
      | none =>
        split at hs
        · rename_i i z hz
          split at hs
          · rename_i hp
            cases hs
            refine ⟨by rw [hem]; exact hc, .inr ⟨z, hr', (zeroA_run hz w).1, ?_⟩⟩
            cases ok
            · exact V.reflP hp
            · exact V.pair (V.reflP hp) (.bool false)
          · cases hs
        · cases hs
    · cases hs
  rcases entriesA_rel hR hx he with ⟨rfl, rfl⟩ | ⟨r', es', clock, rfl, hb, hsz, hr⟩
  · obtain ⟨hc, h2⟩ := core #[] rfl (fun j a b ha => by simp at ha)
    have hc' : (Instr.checkKey true 10000 kt k').run P w = .ok () w := by simpa using hc
    rcases h2 with ⟨i, u, h1, hv⟩ | ⟨z, h1, hz, hv⟩
    · have h1' : (Instr.findKey kt k' []).run P w = .ok (some (i, u)) w := by simpa using h1
      exact ⟨_, by simp [Instr.lookup, run_underlying ht, hc', h1'], hv⟩
    · have h1' : (Instr.findKey kt k' []).run P w = .ok none w := by simpa using h1
      exact ⟨_, by simp [Instr.lookup, run_underlying ht, hc', h1', hz], hv⟩
  · obtain ⟨hc, h2⟩ := core es' hsz hr
    rcases h2 with ⟨i, u, h1, hv⟩ | ⟨z, h1, hz, hv⟩
    · exact ⟨_, by simp [Instr.lookup, run_underlying ht, MapKept.run_getObj_map hb, hc, h1], hv⟩
    · exact ⟨_, by simp [Instr.lookup, run_underlying ht, MapKept.run_getObj_map hb, hc, h1, hz], hv⟩

/-! ### Updated, thinned -/
def keyAt (es : Array MapEntry) (i : Nat) (k : Value) : Bool :=
  match es[i]? with
  | some e => plain e.key && Instr.sameBits 10000 e.key k
  | none => false

def mapUpdateA (P : Program) (t : TypeId) (m k v : Value) (h : AH) : Option AH :=
  match P.underlying t, m with
  | some (.map kt _), .map (some r) =>
    match h.get r with
    | some (.map es clock false) =>
      match findA P kt false k es with
      | some (some (i, _)) => if keyAt es i k then some (h.set r (.map (es.modify i fun e => { e with key := k, val := v }) clock false)) else none
      | some none => some (h.set r (.map (es.push { key := k, val := v, born := clock }) (clock + 1) false))
      | none => none
    | _ => none
  | _, _ => none

theorem map_inv {m' : Value} {r : Nat} {es : Array MapEntry} {clock : Nat} {ro : Bool} (hR : Rel ρ h w.heap) (hm : V ρ (.map (some r)) m') (hg : h.get r = some (.map es clock ro)) :
    ∃ i es', ρ r = some i ∧ m' = .map (some i.b) ∧ w.heap[i.b]? = some (.map es' clock) ∧ i.s = 0 ∧ i.ro = ro ∧ es.size = es'.size ∧ ∀ (j : Nat) a b, es[j]? = some a → es'[j]? = some b → ERel ρ a b := by
  cases hm with
  | map _ r' i hi hb =>
    obtain ⟨i', b, hi', hb', es', rfl, e2, e3, e4, e5⟩ := hR.obj _ _ hg
    obtain rfl : i' = i := by rw [hi'] at hi; exact Option.some.inj hi
    exact ⟨i', es', hi, by rw [hb], hb', e2, e3, e4, e5⟩

theorem mapUpdateA_sim {t : TypeId} {m m' k k' v v' : Value} {h' : AH} (hR : Rel ρ h w.heap) (hm : V ρ m m') (hk : V ρ k k') (hv : V ρ v v') (hs : mapUpdateA P t m k v h = some h') :
    ∃ w', (Instr.mapUpdate t m' k' v').run P w = .ok () w' ∧ Step ρ w ρ w' ∧ Rel ρ h' w'.heap := by
  unfold mapUpdateA at hs
  split at hs
  case h_2 => cases hs
  rename_i kt e r ht
  split at hs
  case h_2 => cases hs
  rename_i es clock hg
  obtain ⟨i, es', hi, rfl, hb, his, hro, hsz, hr⟩ := map_inv hR hm hg
  split at hs
  · rename_i j u hf
    split at hs
    · rename_i hka
      cases hs
      obtain ⟨rfl, hc, r', hr', hF⟩ := findA_run hk hsz hr hf w
      cases r' with
      | none => exact hF.elim
      | some p =>
        obtain ⟨j', u'⟩ := p
        obtain ⟨rfl, hu⟩ := hF
        unfold keyAt at hka
        split at hka
        · rename_i a ha
          simp only [Bool.and_eq_true] at hka
          obtain ⟨b, hbb⟩ : ∃ b, es'[j]? = some b := ⟨es'[j]'(by have := (Array.getElem?_eq_some_iff.1 ha).1; omega), Array.getElem?_eq_some_iff.2 ⟨_, rfl⟩⟩
          have hkey : b.key = a.key := (hr j a b ha hbb).1.plain hka.1
          have hkk : (Instr.keyThatStays b.key k').run P w = .ok k' w := by
            unfold Instr.keyThatStays
            rw [hkey, hka.2]; rfl
          refine ⟨{ w with heap := w.heap.setIfInBounds i.b (.map (es'.modify j fun e => { e with key := k', val := v' }) clock) }, ?_, Step.set hi hro _, hR.setCells hg hi ⟨_, rfl, his, hro, by simp [hsz], fun n x y hx hy => ?_⟩⟩
          · simp [Instr.mapUpdate, run_underlying ht, MapKept.run_getObj_map hb, hc, hr', hbb, hkk, MapKept.run_setObj_map _ hb]
          · rw [Array.getElem?_modify] at hx hy
            by_cases hn : j = n
            · subst hn
              rw [if_pos rfl, ha] at hx; rw [if_pos rfl, hbb] at hy
              cases hx; cases hy
              exact ⟨hk, hv, (hr j a b ha hbb).2.2⟩
            · rw [if_neg hn] at hx hy
              exact hr n x y hx hy
        · cases hka
    · cases hs
  · rename_i hf
    cases hs
    obtain ⟨rfl, hc, r', hr', hF⟩ := findA_run hk hsz hr hf w
    cases r' with
    | some p => exact hF.elim
    | none =>
      refine ⟨{ w with heap := w.heap.setIfInBounds i.b (.map (es'.push { key := k', val := v', born := clock }) (clock + 1)) }, ?_, Step.set hi hro _, hR.setCells hg hi ⟨_, rfl, his, hro, by simp [hsz], fun n x y hx hy => ?_⟩⟩
      · simp [Instr.mapUpdate, run_underlying ht, MapKept.run_getObj_map hb, hc, hr', MapKept.run_setObj_map _ hb]
      · rw [Array.getElem?_push] at hx hy
        by_cases hn : n = es.size
        · rw [if_pos hn] at hx; rw [if_pos (hn.trans hsz)] at hy
          cases hx; cases hy
          exact ⟨hk, hv, rfl⟩
        · rw [if_neg hn] at hx; rw [if_neg (hsz ▸ hn)] at hy
          exact hr n x y hx hy
  · cases hs

def deleteA (P : Program) (argTypes : Array TypeId) (args : Array Value) (h : AH) : Option AH :=
  match (argTypes[0]? : Option TypeId), (args[0]? : Option Value), (args[1]? : Option Value) with
  | some t, some m, some k =>
    match P.underlying t, m with
    | some (.map kt _), .map (some r) =>
      match h.get r with
      | some (.map es clock false) =>
        match findA P kt es.isEmpty k es with
        | some (some (i, _)) => some (h.set r (.map (es.eraseIdxIfInBounds i) clock false))
        | some none => some h
        | none => none
      | _ => none
    | _, _ => none
  | _, _, _ => none

theorem getElem?_erase {α : Type} (es : Array α) (i n : Nat) : (es.eraseIdxIfInBounds i)[n]? = if i < es.size then (if n < i then es[n]? else es[n + 1]?) else es[n]? := by
  unfold Array.eraseIdxIfInBounds
  split
  · rename_i hi
    rw [Array.getElem?_eraseIdx]
  · rfl

theorem size_erase {α : Type} (es : Array α) (i : Nat) : (es.eraseIdxIfInBounds i).size = if i < es.size then es.size - 1 else es.size := by
  unfold Array.eraseIdxIfInBounds
  split <;> simp

theorem deleteA_sim {argTypes : Array TypeId} {ty : TypeId} {args args' : Array Value} {h' : AH} (hR : Rel ρ h w.heap) (ha : VS ρ args args') (hs : deleteA P argTypes args h = some h') :
    ∃ w', (Builtin.delete_ argTypes ty args').run P w = .ok (.tuple #[]) w' ∧ Step ρ w ρ w' ∧ Rel ρ h' w'.heap := by
  unfold deleteA at hs
  split at hs
  case h_2 => cases hs
  rename_i t m k h0 h1 h2
  obtain ⟨m', hm', hm⟩ := getD_some ha h1
  obtain ⟨k', hk', hk⟩ := getD_some ha h2
  split at hs
  case h_2 => cases hs
  rename_i kt e r ht
  split at hs
  case h_2 => cases hs
  rename_i es clock hg
  obtain ⟨i, es', hi, rfl, hb, his, hro, hsz, hr⟩ := map_inv hR hm hg
  have hem : es'.isEmpty = es.isEmpty := by simp [Array.isEmpty, hsz]
  split at hs
  · rename_i j u hf
    cases hs
    obtain ⟨rfl, hc, r', hr', hF⟩ := findA_run hk hsz hr hf w
    cases r' with
    | none => exact hF.elim
    | some p =>
      obtain ⟨j', u'⟩ := p
      obtain ⟨rfl, hu⟩ := hF
      refine ⟨{ w with heap := w.heap.setIfInBounds i.b (.map (es'.eraseIdxIfInBounds j) clock) }, ?_, Step.set hi hro _, hR.setCells hg hi ⟨_, rfl, his, hro, by rw [size_erase, size_erase, hsz], fun n x y hx hy => ?_⟩⟩
      · simp [Builtin.delete_, h0, hm', hk', run_underlying ht, MapKept.run_getObj_map hb, hem, hc, hr', MapKept.run_setObj_map _ hb]
      · rw [getElem?_erase] at hx hy
        rw [← hsz] at hy
        split at hx
        · rename_i h1
          rw [if_pos h1] at hy
          split at hx
          · rename_i h2; rw [if_pos h2] at hy; exact hr n x y hx hy
          · rename_i h2; rw [if_neg h2] at hy; exact hr _ x y hx hy
        · rename_i h1
          rw [if_neg h1] at hy; exact hr n x y hx hy
  · rename_i hf
    cases hs
    obtain ⟨rfl, hc, r', hr', hF⟩ := findA_run hk hsz hr hf w
    cases r' with
    | some p => exact hF.elim
    | none =>
      refine ⟨w, ?_, Step.refl ρ w, hR⟩
      have hset := set_same w.heap i.b (.map es' clock) hb
      simp [Builtin.delete_, h0, hm', hk', run_underlying ht, MapKept.run_getObj_map hb, hem, hc, hr', MapKept.run_setObj_map _ hb, hset]
  · cases hs

/-! ### A value out of an interface -/
def typeAssertA (P : Program) (x : Value) (t : TypeId) (ok : Bool) : Option Value :=
  match P.underlying t with
  | none => none
  | some (.interface _) => none
  | some _ => match x with
    | .iface u v => if u = t then some (if ok then .tuple #[v, .bool true] else v) else none
    | _ => none

theorem typeAssertA_sim {x x' : Value} {s t : TypeId} {ok : Bool} {v : Value} (hx : V ρ x x') (hs : typeAssertA P x t ok = some v) (w : World) :
    ∃ v', (Instr.typeAssert x' s t ok).run P w = .ok v' w ∧ V ρ v v' := by
  unfold typeAssertA at hs
  split at hs
  · cases hs
  · cases hs
  · rename_i d hne ht
    split at hs
    · rename_i u y
      split at hs
      · rename_i e
        cases hs
        subst e
        cases hx with
        | iface _ _ y' hy =>
          refine ⟨if ok then .tuple #[y', .bool true] else y', ?_, ?_⟩
          · unfold Instr.typeAssert
            simp only [Sem.run_bind, run_underlying ht, Result.andThen_ok]
            cases d <;> first | (exact absurd rfl (hne _)) | (simp; try rfl)
          · cases ok
            · exact hy
            · exact V.pair hy (.bool true)
      · cases hs
    · cases hs

end
end Go.AE

/-
  AE, ranges over maps, as far as their order is not open: at most one entry is left.
-/
namespace Go.AE
noncomputable section
set_option linter.unusedSimpArgs false
set_option linter.unusedVariables false
variable {P : Program} {ρ : Ren} {h : AH} {w : World}

def rangeA (P : Program) (t : TypeId) (x : Value) (h : AH) : Option (Value × AH) :=
  match P.underlying t, x with
  | some (.map _ _), .map (some m) =>
    match h.get m with
    | some (.map _ clock _) => some (.pointer (some ⟨h.next, 0, none⟩), h.push (.mapIter m clock #[] clock))
    | _ => none
  | _, _ => none

theorem rangeA_sim {t : TypeId} {x x' v : Value} {h' : AH} (hR : Rel ρ h w.heap) (hx : V ρ x x') (hs : rangeA P t x h = some (v, h')) : Makes P ρ w (Instr.range t x') v h' := by
  unfold rangeA at hs
  split at hs
  case h_2 => cases hs
  rename_i kt e m ht
  split at hs
  case h_2 => cases hs
  rename_i es clock ro hg
  cases hs
  obtain ⟨i, es', hi, rfl, hb, his, hro, hsz, hr⟩ := map_inv hR hx hg
  let j : Info := { b := w.heap.size, s := 0, n := 0, N := 0, esz := 0, op := false, ro := false }
  have hle := Ren.le_put (h := h) hR j
  refine ⟨ρ.put h.next j, .pointer (some ⟨w.heap.size, 0, none⟩), { w with heap := w.heap.push (.mapIter (some i.b) clock #[] clock) }, by simp [Instr.range, run_underlying ht, MapKept.run_getObj_map hb], Step.alloc hR _ j rfl,
    hR.alloc _ _ j rfl ⟨i, rfl, rfl, rfl, hle _ _ hi⟩, ?_⟩
  exact .pointer _ _ ⟨j, by simp [Ren.put], rfl, rfl, rfl⟩

def leftA (es : Array MapEntry) (seen : Array Nat) : List MapEntry := es.toList.filter fun e => !seen.contains e.born

def nextA (it : Value) (isStr : Bool) (h : AH) : Option (Value × AH) :=
  match it, isStr with
  | .pointer (some ⟨r, 0, _⟩), false =>
    match h.get r with
    | some (.mapIter m since seen last) =>
      match h.get m with
      | some (.map es clock _) =>
        if !seen.isEmpty && !es.isEmpty && es.all (fun e => decide (e.born ≥ last)) then none else
        if es.all (fun e => decide (e.born < since)) then
          match leftA es seen with
          | [] => some (.tuple #[.bool false], h)
          | [e] => some (.tuple #[.bool true, e.key, e.val], h.set r (.mapIter m since (seen.push e.born) clock))
          | _ => none
        else none
      | _ => none
    | _ => none
  | _, _ => none

theorem EL.filter {p : Nat → Bool} : ∀ {l l' : List MapEntry}, EL ρ l l' → EL ρ (l.filter fun e => p e.born) (l'.filter fun e => p e.born)
  | [], [], h => h
  | [], y :: l', h => by have := h.1; simp at this
  | x :: l, [], h => by have := h.1; simp at this
  | x :: l, y :: l', h => by
    obtain ⟨h1, h2⟩ := h.cons
    have ih := EL.filter (p := p) h2
    have hb : y.born = x.born := h1.2.2.symm
    simp only [List.filter_cons, hb]
    split
    · refine ⟨by simpa using ih.1, fun j a b ha hb => ?_⟩
      cases j with
      | zero => simp at ha hb; subst ha hb; exact h1
      | succ j => exact ih.2 j a b (by simpa using ha) (by simpa using hb)
    · exact ih

theorem EL.all {p : Nat → Bool} : ∀ {l l' : List MapEntry}, EL ρ l l' → (l'.all fun e => p e.born) = (l.all fun e => p e.born)
  | [], [], h => rfl
  | [], y :: l', h => by have := h.1; simp at this
  | x :: l, [], h => by have := h.1; simp at this
  | x :: l, y :: l', h => by
    obtain ⟨h1, h2⟩ := h.cons
    simp only [List.all_cons, EL.all (p := p) h2, h1.2.2]

theorem iter_inv {x a : Addr} {m since last : Nat} {seen : Array Nat} (hR : Rel ρ h w.heap) (hA : ARel ρ x a) (hg : h.get x.block = some (.mapIter m since seen last)) :
    ∃ i j, ρ x.block = some i ∧ ρ m = some j ∧ a = ⟨i.b, x.off, x.spot⟩ ∧ i.ro = false ∧ i.s = 0 ∧ w.heap[i.b]? = some (.mapIter (some j.b) since seen last) := by
  obtain ⟨i, b, hi, hb, j, rfl, e2, e3, e4⟩ := hR.obj _ _ hg
  obtain ⟨i', hi', ab, ao, asp⟩ := hA
  obtain rfl : i = i' := by rw [hi] at hi'; exact Option.some.inj hi'
  refine ⟨i, j, hi, e4, ?_, e3, e2, hb⟩
  obtain ⟨a1, a2, a3⟩ := a
  simp only at ab ao asp
  rw [ab, ao, asp, e2]; rfl

theorem nextA_sim {it it' v : Value} {isStr : Bool} {ty : TypeId} {h' : AH} (hR : Rel ρ h w.heap) (hx : V ρ it it') (hs : nextA it isStr h = some (v, h')) : Makes P ρ w (Instr.next it' isStr ty) v h' := by
  unfold nextA at hs
  split at hs
  case h_2 => cases hs
  rename_i r sp
  split at hs
  case h_2 => cases hs
  rename_i m since seen last hg
  split at hs
  case h_2 => cases hs
  rename_i es clock ro hm
  obtain ⟨a, rfl, hA⟩ : ∃ a, it' = .pointer (some a) ∧ ARel ρ ⟨r, 0, sp⟩ a := by
    cases hx with
    | pointer _ a h => exact ⟨a, rfl, h⟩
  obtain ⟨i, j, hi, hj, rfl, hro, his, hb⟩ := iter_inv hR hA hg
  obtain ⟨j', b, hj', hb', es', rfl, e2, e3, e4, e5⟩ := hR.obj _ _ hm
  obtain rfl : j' = j := by rw [hj'] at hj; exact Option.some.inj hj
  have hEL : EL ρ es.toList es'.toList := EL.of e4 e5
  have hem : es'.isEmpty = es.isEmpty := by simp [Array.isEmpty, e4]
  have hall : ∀ p : Nat → Bool, (es'.all fun e => p e.born) = (es.all fun e => p e.born) := fun p => by
    rw [← Array.all_toList, ← Array.all_toList]; exact hEL.all
  split at hs
  · cases hs
  rename_i hcond
  split at hs
  case isFalse => cases hs
  rename_i hold
  have hL := hEL.filter (p := fun n => !seen.contains n)
  have hcond' : (!seen.isEmpty && !es'.isEmpty && es'.all (fun e => decide (e.born ≥ last))) = false := by
    rw [hem, hall fun n => decide (n ≥ last)]; simpa using hcond
  have hold' : ∀ x ∈ (es'.filter fun e => !seen.contains e.born).toList, x.born < since := by
    have h1 := hall fun n => decide (n < since)
    rw [hold] at h1
    intro x hx
    rw [Array.all_eq_true_iff_forall_mem] at h1
    simp at hx
    simpa using h1 x hx.1
  have hlist : (es'.filter fun e => !seen.contains e.born).toList = es'.toList.filter fun e => !seen.contains e.born := by simp
  have k1 : (es'.filter fun e => !seen.contains e.born).filter (fun x => decide (x.born < since)) = es'.filter fun e => !seen.contains e.born :=
    Array.filter_eq_self.2 (fun x hx => by simpa using hold' x (by simpa using hx))
  have k2 : (es'.filter fun e => !seen.contains e.born).filter (fun x => decide (x.born ≥ since)) = #[] := by
    rw [Array.filter_eq_empty_iff]
    intro x hx
    have := hold' x (by simpa using hx)
    simp; omega
  generalize hLL : (es'.filter fun e => !seen.contains e.born) = L at *
  change EL ρ (leftA es seen) _ at hL
  rw [← hlist] at hL
  split at hs
  · rename_i hl
    cases hs
    rw [hl] at hL
    have h0 : L = #[] := by
      have := hL.1
      apply Array.eq_empty_of_size_eq_zero
      simpa using this.symm
    refine ⟨ρ, .tuple #[.bool false], w, ?_, Step.refl ρ w, hR, .over⟩
    simp only [Instr.next, getObj, Sem.run_bind, Sem.run, hb, hb', Result.andThen, hcond', Bool.false_eq_true, if_false, hLL, k1, k2]
    subst h0
    simp [choose, Sem.run, Question.forced]
  · rename_i e hl
    cases hs
    rw [hl] at hL
    obtain ⟨e', he'⟩ : ∃ e', L = #[e'] := by
      have := hL.1
      obtain ⟨l⟩ := L
      match l, this with
      | [x], _ => exact ⟨x, rfl⟩
    subst he'
    have he := hL.2 0 e e' rfl rfl
    refine ⟨ρ, .tuple #[.bool true, e'.key, e'.val], { w with heap := w.heap.setIfInBounds i.b (.mapIter (some j'.b) since (seen.push e'.born) clock) }, ?_, Step.set hi hro _, hR.setCells hg hi ⟨j', by rw [he.2.2], his, hro, hj'⟩, ?_⟩
    · simp only [Instr.next, getObj, Sem.run_bind, Sem.run, hb, hb', Result.andThen, hcond', Bool.false_eq_true, if_false, hLL, k1, k2]
      simp [choose, Sem.run, Question.forced, setObj, hb]
    · refine .tuple _ _ (by simp) rfl fun n hn => ?_
      simp only [List.size_toArray, List.length_cons, List.length_nil] at hn
      match n, hn with
      | 0, _ => exact .bool true
      | 1, _ => exact he.1
      | 2, _ => exact he.2.1
  · cases hs

def entryA (it : Value) (h : AH) : Option Value :=
  match it with
  | .pointer (some ⟨r, 0, _⟩) =>
    match h.get r with
    | some (.mapIter m _ seen last) =>
      match seen.back? with
      | some stamp =>
        match h.get m with
        | some (.map es clock _) =>
          if clock = last then
            match es.toList.find? (fun e => e.born == stamp) with
            | some e => some (.tuple #[e.key, e.val])
            | none => none
          else none
        | _ => none
      | none => none
    | _ => none
  | _ => none

theorem EL.find {p : Nat → Bool} : ∀ {l l' : List MapEntry} {e : MapEntry}, EL ρ l l' → l.find? (fun e => p e.born) = some e → ∃ e', l'.find? (fun e => p e.born) = some e' ∧ ERel ρ e e'
  | [], _, e, h, hf => by simp at hf
  | x :: l, [], e, h, hf => by have := h.1; simp at this
  | x :: l, y :: l', e, h, hf => by
    obtain ⟨h1, h2⟩ := h.cons
    have hb : y.born = x.born := h1.2.2.symm
    simp only [List.find?_cons, hb] at hf ⊢
    split at hf
    · cases hf; exact ⟨y, rfl, h1⟩
    · exact EL.find h2 hf

theorem entryA_sim {it it' v : Value} (hR : Rel ρ h w.heap) (hx : V ρ it it') (hs : entryA it h = some v) : ∃ v', (Instr.entry it').run P w = .ok v' w ∧ V ρ v v' := by
  unfold entryA at hs
  split at hs
  case h_2 => cases hs
  rename_i r sp
  split at hs
  case h_2 => cases hs
  rename_i m since seen last hg
  split at hs
  case h_2 => cases hs
  rename_i stamp hst
  split at hs
  case h_2 => cases hs
  rename_i es clock ro hm
  split at hs
  case isFalse => cases hs
  rename_i hcl
  subst hcl
  split at hs
  case h_2 => cases hs
  rename_i e hf
  cases hs
  obtain ⟨a, rfl, hA⟩ : ∃ a, it' = .pointer (some a) ∧ ARel ρ ⟨r, 0, sp⟩ a := by
    cases hx with
    | pointer _ a h => exact ⟨a, rfl, h⟩
  obtain ⟨i, j, hi, hj, rfl, hro, his, hb⟩ := iter_inv hR hA hg
  obtain ⟨j', b, hj', hb', es', rfl, e2, e3, e4, e5⟩ := hR.obj _ _ hm
  obtain rfl : j' = j := by rw [hj'] at hj; exact Option.some.inj hj
  obtain ⟨e', hf', he⟩ := (EL.of e4 e5).find (p := fun n => n == stamp) hf
  refine ⟨.tuple #[e'.key, e'.val], ?_, V.pair he.1 he.2.1⟩
  have hf'' : es'.find? (fun e => e.born == stamp) = some e' := by rw [← Array.find?_toList]; exact hf'
  simp [Instr.entry, getObj, Sem.run_bind, Sem.run, hb, hb', Result.andThen, hst, hf'']

end
end Go.AE

/-
  AE, a map that is copied whole.
-/
namespace Go.AE
noncomputable section
set_option linter.unusedSimpArgs false
set_option linter.unusedVariables false
variable {P : Program} {ρ : Ren} {h : AH} {w : World}

theorem clone_find {fn : Func} (h1 : fn.name = "maps.clone") (h2 : fn.origin = "") : Extern.find fn = some Extern.MapsClone.clone := by
  have f1 : (Extern.allGenericRows.lookup "maps.clone").isNone = true := by kernel_rfl
  have f2 : (Extern.allTypedRows.lookup "maps.clone").isNone = true := by kernel_rfl
  have f3 : Extern.allRows.lookup "maps.clone" = some Extern.MapsClone.clone := by kernel_rfl
  simp only [Option.isNone_iff_eq_none] at f1 f2
  simp only [Extern.find, h1, h2, f1, f2, f3]
  rfl

theorem clone_next {fn : Func} (h1 : fn.name = "maps.clone") (h2 : fn.origin = "") : Extern.findNext fn = none := by
  have f1 : (Extern.allNextRows.lookup "maps.clone").isNone = true := by kernel_rfl
  have f2 : (Extern.allNextRows.lookup "").isNone = true := by kernel_rfl
  simp only [Option.isNone_iff_eq_none] at f1 f2
  simp only [Extern.findNext, h1, h2, f1, f2]
  rfl

def isClone (P : Program) (g : FuncId) : Bool :=
  match P.funcs[g]? with
  | some fn => fn.body.isNone && (fn.name == "maps.clone") && (fn.origin == "")
  | none => false

def cloneA (args : Array Value) (h : AH) : Option (Value × AH) :=
  match args.toList with
  | [.iface t (.map (some r))] => match h.get r with
    | some (.map es clock _) => some (.iface t (.map (some h.next)), h.push (.map es clock false))
    | _ => none
  | _ => none

theorem cloneA_sim {args args' : Array Value} {v : Value} {h' : AH} (hR : Rel ρ h w.heap) (ha : VS ρ args args') (hs : cloneA args h = some (v, h')) :
    Makes P ρ w (Extern.MapsClone.clone args') v h' := by
  unfold cloneA at hs
  split at hs
  case h_2 => cases hs
  rename_i t r hargs
  obtain rfl : args = #[.iface t (.map (some r))] := by apply Array.ext'; exact hargs
  split at hs
  case h_2 => cases hs
  rename_i es clock ro hg
  cases hs
  obtain ⟨a', rfl, hv⟩ : ∃ a', args' = #[a'] ∧ V ρ (.iface t (.map (some r))) a' := by
    obtain ⟨h1, h2⟩ := ha
    obtain ⟨l⟩ := args'
    match l, h1 with
    | [a], _ => exact ⟨a, rfl, h2 0 (by simp)⟩
  cases hv with
  | iface _ _ x hx =>
    obtain ⟨i, es', hi, rfl, hb, his, hro, hsz, hr⟩ := map_inv hR hx hg
    let j : Info := { b := w.heap.size, s := 0, n := 0, N := 0, esz := 0, op := false, ro := false }
    have hle := Ren.le_put (h := h) hR j
    refine ⟨ρ.put h.next j, .iface t (.map (some w.heap.size)), { w with heap := w.heap.push (.map es' clock) }, ?_, Step.alloc hR _ j rfl,
      hR.alloc _ _ j rfl ⟨es', rfl, rfl, rfl, hsz, fun n x y hx hy => ?_⟩, .iface _ _ _ (.map _ _ j (by simp [Ren.put]) rfl)⟩
    · have e : Extern.MapsClone.clone #[.iface t (.map (some i.b))] = (getObj i.b >>= fun o => match o with
          | .map entries clock => (newObj (.map entries clock) >>= fun n => pure (.iface t (.map (some n))))
          | _ => stuck "maps.clone: a map expected") := rfl
      rw [e]
      simp [MapKept.run_getObj_map hb, Result.andThen]
    · obtain ⟨a, b, c⟩ := hr n x y hx hy
      exact ⟨a.mono hle, b.mono hle, c⟩

end
end Go.AE

/-
  AE, a row whose cells are all alike is copied whole.
-/
namespace Go.AE
noncomputable section
set_option linter.unusedSimpArgs false
set_option linter.unusedVariables false
variable {P : Program} {ρ : Ren} {h : AH} {w : World}

theorem Rel.weaken {o o' : AObj} {A : Array Obj} (hR : Rel ρ (h.push o) A) (hO : ∀ i b, ORel ρ i o b → ORel ρ i o' b) : Rel ρ (h.push o') A where
  lt := fun β i hi => hR.lt β i hi
  obj := fun β p hp => by
    rw [AH.get_push] at hp
    split at hp
    · rename_i e
      cases hp
      obtain ⟨i, b, h1, h2, h3⟩ := hR.obj β o (by rw [AH.get_push, if_pos e])
      exact ⟨i, b, h1, h2, hO i b h3⟩
    · rename_i e
      exact hR.obj β p (by rw [AH.get_push, if_neg e]; exact hp)
  inj := fun β γ p q i j hp hq hi hj e => by
    have f : ∀ {β : Nat} {p : AObj}, (h.push o').get β = some p → ∃ p', (h.push o).get β = some p' := by
      intro β p hp
      rw [AH.get_push] at hp ⊢
      split at hp
      · rename_i e; exact ⟨o, by rw [if_pos e]⟩
      · rename_i e; exact ⟨p, by rw [if_neg e]; exact hp⟩
    obtain ⟨p', hp'⟩ := f hp
    obtain ⟨q', hq'⟩ := f hq
    exact hR.inj β γ p' q' i j hp' hq' hi hj e

/-- The tree of a row that is copied whole, and what stands where nothing was written. -/
def uniformSrc (x : Value) (n size : Nat) (h : AH) : Option (Row × Value) :=
  match x with
  | .slice (some a) _ _ =>
    match h.get a.block with
    | some (.cells .leaf m _ _ _ _ _ d) => if a.spot.isNone ∧ a.off + n * size ≤ m then some (.leaf, d) else none
    | some (.cells c m _ _ _ _ _ d) => if a.off = 0 then if c.allV (·.oneCell') = true then if a.spot.isNone ∧ a.off + n * size ≤ m then some (c, d) else none else none else none
    | _ => none
  | _ => none
theorem uniformSrc_spec {x : Value} {n size : Nat} {h : AH} {c : Row} {d : Value} (hs : uniformSrc x n size h = some (c, d)) :
    ∃ a k cp, x = .slice (some a) k cp ∧ srcA x n size h = some (rowA c d a.off (n * size)) ∧ (∀ j, j < n * size → c.get (a.off + j) = c.get j) ∧ (∀ i v, c.get i = some v → v.oneCell' = true) := by
  unfold uniformSrc at hs
  split at hs
  case h_2 => cases hs
  rename_i a k cp
  refine ⟨a, k, cp, rfl, ?_⟩
  split at hs
  · rename_i m e fz esz op ro d' hg
    split at hs
    case isFalse => cases hs
    rename_i hc
    cases hs
    refine ⟨by simp only [srcA, hg]; rw [if_pos hc]; rfl, fun j _ => by simp, fun i v hv => by simp at hv⟩
  · rename_i c' m e fz esz op ro d' hne hg
    split at hs
    case isFalse => cases hs
    rename_i h0
    split at hs
    case isFalse => cases hs
    rename_i ha
    split at hs
    case isFalse => cases hs
    rename_i hc
    cases hs
    refine ⟨by simp only [srcA, hg]; rw [if_pos hc], fun j _ => by rw [h0, Nat.zero_add], fun i v hv => Row.allV_at ha hv⟩
  · cases hs

/-- A base of no length, in a row that is not open. -/
def baseOk (base : Option Addr) (h : AH) : Bool :=
  match base with
  | none => true
  | some a => match h.get a.block with
    | some (.cells _ m _ _ _ false _ _) => a.spot.isNone && decide (a.off ≤ m)
    | _ => false

def appendU (P : Program) (argTypes : Array TypeId) (args : Array Value) (h : AH) : Option (Value × AH) :=
  match (argTypes[0]? : Option TypeId), (args[0]? : Option Value), (args[1]? : Option Value) with
  | some sT, some (.slice base 0 cap), some x =>
    match P.underlying sT, notMake P argTypes with
    | some (.slice elem), true =>
      match zeroA P elem, lenA x with
      | some (inf, z), some n =>
        if baseOk base h = true ∧ 2 ≤ n * inf.size ∧ ¬ (0 + n ≤ cap) ∧ (2 * (0 + n) + 768) * inf.bytes ≤ 2 ^ 47 ∧ 0 + n ≤ 2 ^ 47 ∧ z.cells.size = inf.size then
          match uniformSrc x n inf.size h with
          | some (c, d) => if d.oneCell' then some (.slice (some ⟨h.next, 0, none⟩) (0 + n) (0 + n), h.push (.cells c (n * inf.size) elem (0, 0) inf.size true false d)) else none
          | none => none
        else none
      | _, _ => none
    | _, _ => none
  | _, _, _ => none

theorem appendU_spec {argTypes : Array TypeId} {args : Array Value} {v : Value} {h' : AH} (hs : appendU P argTypes args h = some (v, h')) :
    ∃ N c d elem sz off, appendA P argTypes args h = some (v, h.push (openRow (rowA c d off N) elem sz)) ∧ h' = h.push (.cells c N elem (0, 0) sz true false d) ∧ ∀ j, j < N → c.get (off + j) = c.get j := by
  unfold appendU at hs
  split at hs
  case h_2 => cases hs
  rename_i sT base cap x h1 h2 h3
  split at hs
  case h_2 => cases hs
  rename_i elem h4 h5
  split at hs
  case h_2 => cases hs
  rename_i inf z n h6 h7
  split at hs
  case isFalse => cases hs
  rename_i hc
  split at hs
  case h_2 => cases hs
  rename_i c d h8
  split at hs
  case isFalse => cases hs
  rename_i h9
  cases hs
  obtain ⟨a, k, c', rfl, hsrc, hsame, hone⟩ := uniformSrc_spec h8
  refine ⟨n * inf.size, c, d, elem, inf.size, a.off, ?_, rfl, hsame⟩
  have hlen : (rowA c d a.off (n * inf.size)).length = n * inf.size := length_rowA _ _ _ _
  have hall : (rowA c d a.off (n * inf.size)).all (·.oneCell') = true := by
    rw [List.all_eq_true]
    intro v hv
    obtain ⟨j, hj, rfl⟩ := List.mem_iff_getElem.1 hv
    rw [length_rowA] at hj
    have := getElem?_rowA c d _ a.off j hj
    rw [List.getElem?_eq_getElem (by rw [length_rowA]; exact hj)] at this
    simp only [Option.some.injEq] at this
    rw [this]
    cases hg : c.get (a.off + j) with
    | none => exact h9
    | some u => exact hone _ _ hg
  simp only [appendA, h1, h2, h3, h4, h5, h6, h7, hsrc]
  rw [if_neg hc.2.2.1, if_pos ⟨hc.2.2.2.1, hc.2.2.2.2.1, hc.2.2.2.2.2, hlen⟩]
  cases base with
  | none => simp only; rw [if_pos trivial]
  | some a0 =>
    have hb := hc.1
    unfold baseOk at hb
    simp only at hb ⊢
    split at hb
    case h_2 => cases hb
    rename_i c0 m0 e0 fz0 esz0 ro0 d0 hg0
    simp only [Bool.and_eq_true, decide_eq_true_eq] at hb
    rw [hg0]
    simp only [Nat.zero_mul, Nat.add_zero]
    rw [if_pos ⟨hb.1, hb.2, hall⟩]
    simp only [Bool.false_eq_true, if_false, rowA, List.nil_append]

/-- A row that grows: what is there stays in its tree. -/
def grown (c : Row) (k : Nat) (vs : List Value) (elem : TypeId) (sz : Nat) (d : Value) : AObj := .cells (putRow c k vs) (k + vs.length) elem (0, 0) sz true false d

def appendV (P : Program) (argTypes : Array TypeId) (args : Array Value) (h : AH) : Option (Value × AH) :=
  match (argTypes[0]? : Option TypeId), (args[0]? : Option Value), (args[1]? : Option Value) with
  | some sT, some (.slice (some a) len cap), some x =>
    match P.underlying sT, notMake P argTypes with
    | some (.slice elem), true =>
      match zeroA P elem, lenA x with
      | some (inf, z), some n =>
        if a.off = 0 ∧ 2 ≤ n * inf.size ∧ ¬ (len + n ≤ cap) ∧ (2 * (len + n) + 768) * inf.bytes ≤ 2 ^ 47 ∧ len + n ≤ 2 ^ 47 ∧ z.cells.size = inf.size then
          match srcA x n inf.size h with
          | some vs =>
            match h.get a.block with
            | some (.cells c m e _ esz op ro d) =>
              if a.spot.isNone ∧ a.off + len * inf.size ≤ m ∧ vs.all (·.oneCell') ∧ vs.length = n * inf.size then
                if op then
                  if ro = false ∧ esz = inf.size ∧ e = elem then
                    some (.slice (some ⟨h.next, 0, none⟩) (len + n) (len + n), (h.kill a.block).push (grown c (len * inf.size) vs elem inf.size d))
                  else none
                else some (.slice (some ⟨h.next, 0, none⟩) (len + n) (len + n), h.push (grown c (len * inf.size) vs elem inf.size d))
              else none
            | _ => none
          | none => none
        else none
      | _, _ => none
    | _, _ => none
  | _, _, _ => none

theorem grown_orel {c : Row} {d : Value} {off k : Nat} {vs : List Value} {elem sz : Nat} {i : Info} {b : Obj} (h0 : off = 0) (hO : ORel ρ i (openRow (rowA c d off k ++ vs) elem sz) b) : ORel ρ i (grown c k vs elem sz d) b := by
  subst h0
  obtain ⟨C, e1, e2, e3, e4, e5, e6, e7, e8, e9, hv⟩ := hO
  simp only [List.length_append, length_rowA] at e2 e7 e8 hv
  refine ⟨C, e1, e2, e3, e4, e5, e6, e7, e8, e9, fun j hj => ?_⟩
  have := hv j hj
  rw [get_ofRow, List.length_append, length_rowA, if_pos hj] at this
  simp only [Option.getD_some] at this
  rw [get_putRow]
  by_cases hk : k ≤ j
  · rw [if_pos ⟨hk, hj⟩]
    have e : (rowA c d 0 k ++ vs).getD j undef = vs.getD (j - k) undef := by
      rw [List.getD_eq_getElem?_getD, List.getElem?_append_right (by rw [length_rowA]; exact hk), length_rowA, List.getD_eq_getElem?_getD]
    rw [e] at this
    simpa using this
  · rw [if_neg (fun h => hk h.1)]
    have e : (rowA c d 0 k ++ vs).getD j undef = (c.get j).getD d := by
      rw [List.getD_eq_getElem?_getD, List.getElem?_append_left (by rw [length_rowA]; omega), getElem?_rowA _ _ _ _ _ (by omega)]
      simp
    rw [e] at this
    exact this

theorem appendV_spec {argTypes : Array TypeId} {args : Array Value} {v : Value} {h' : AH} (hs : appendV P argTypes args h = some (v, h')) :
    ∃ (hh : AH) (o o' : AObj), appendA P argTypes args h = some (v, hh.push o) ∧ h' = hh.push o' ∧ ∀ (ρ : Ren) (i : Info) (b : Obj), ORel ρ i o b → ORel ρ i o' b := by
  unfold appendV at hs
  split at hs
  case h_2 => cases hs
  rename_i sT a len cap x h1 h2 h3
  split at hs
  case h_2 => cases hs
  rename_i elem h4 h5
  split at hs
  case h_2 => cases hs
  rename_i inf z n h6 h7
  split at hs
  case isFalse => cases hs
  rename_i hc
  split at hs
  case h_2 => cases hs
  rename_i vs h8
  split at hs
  case h_2 => cases hs
  rename_i c m e fz esz op ro d hg
  split at hs
  case isFalse => cases hs
  rename_i h9
  have base : appendA P argTypes args h = (if op = true then
      if ro = false ∧ esz = inf.size ∧ e = elem then some (.slice (some ⟨h.next, 0, none⟩) (len + n) (len + n), (h.kill a.block).push (openRow (rowA c d a.off (len * inf.size) ++ vs) elem inf.size)) else none
      else some (.slice (some ⟨h.next, 0, none⟩) (len + n) (len + n), h.push (openRow (rowA c d a.off (len * inf.size) ++ vs) elem inf.size))) := by
    simp only [appendA, h1, h2, h3, h4, h5, h6, h7, h8]
    rw [if_neg hc.2.2.1, if_pos ⟨hc.2.2.2.1, hc.2.2.2.2.1, hc.2.2.2.2.2, h9.2.2.2⟩]
    simp only [hg]
    rw [if_pos ⟨h9.1, h9.2.1, h9.2.2.1⟩]
  split at hs
  · rename_i hop
    split at hs
    case isFalse => cases hs
    rename_i hr
    cases hs
    exact ⟨_, _, _, by rw [base, if_pos hop, if_pos hr], rfl, fun ρ i b hO => grown_orel hc.1 hO⟩
  · rename_i hop
    cases hs
    exact ⟨_, _, _, by rw [base, if_neg hop], rfl, fun ρ i b hO => grown_orel hc.1 hO⟩

def appendA2 (P : Program) (argTypes : Array TypeId) (args : Array Value) (h : AH) : Option (Value × AH) :=
  match appendU P argTypes args h with
  | some r => some r
  | none => match appendV P argTypes args h with
    | some r => some r
    | none => appendA P argTypes args h

theorem uniform_orel {N : Nat} {c : Row} {d : Value} {elem sz off : Nat} {i : Info} {b : Obj} (hc : ∀ j, j < N → c.get (off + j) = c.get j) (hO : ORel ρ i (openRow (rowA c d off N) elem sz) b) : ORel ρ i (.cells c N elem (0, 0) sz true false d) b := by
  obtain ⟨C, e1, e2, e3, e4, e5, e6, e7, e8, e9, hv⟩ := hO
  simp only [length_rowA] at e2 e7 e8 hv
  refine ⟨C, e1, e2, e3, e4, e5, e6, e7, e8, e9, fun j hj => ?_⟩
  have := hv j hj
  rw [get_ofRow, length_rowA, if_pos hj] at this
  have hr : (rowA c d off N).getD j undef = (c.get j).getD d := by
    rw [List.getD_eq_getElem?_getD, getElem?_rowA _ _ _ _ _ hj, hc j hj]
    rfl
  simp only [Option.getD_some, hr] at this
  exact this

theorem appendA2_sim {argTypes : Array TypeId} {ty : TypeId} {args args' : Array Value} {v : Value} {h' : AH} (hR : Rel ρ h w.heap) (ha : VS ρ args args') (hs : appendA2 P argTypes args h = some (v, h')) :
    Makes P ρ w (Builtin.append_ argTypes ty args') v h' := by
  unfold appendA2 at hs
  split at hs
  · rename_i r hr
    cases hs
    obtain ⟨N, c, d, elem, sz, off, h1, rfl, hc⟩ := appendU_spec hr
    obtain ⟨ρ', v', w', e1, e2, e3, e4⟩ := appendA_sim (P := P) (ty := ty) hR ha h1
    exact ⟨ρ', v', w', e1, e2, e3.weaken fun i b hO => uniform_orel hc hO, e4⟩
  · split at hs
    · rename_i r hr
      cases hs
      obtain ⟨hh, o, o', h1, rfl, hO⟩ := appendV_spec hr
      obtain ⟨ρ', v', w', e1, e2, e3, e4⟩ := appendA_sim (P := P) (ty := ty) hR ha h1
      exact ⟨ρ', v', w', e1, e2, e3.weaken fun i b h => hO ρ' i b h, e4⟩
    · exact appendA_sim hR ha hs

/-- One cell is no row of many. -/
theorem appendA2_one {argTypes : Array TypeId} {args : Array Value} {sT elem : TypeId} (hsT : argTypes[0]? = some sT) (hu : P.underlying sT = some (.slice elem)) {inf : TypeInfo} {z : Value} (hz : zeroA P elem = some (inf, z)) (h1 : inf.size = 1)
    (hn : ∀ x n, args[1]? = some x → lenA x = some n → n ≤ 1) : appendA2 P argTypes args h = appendA P argTypes args h := by
  have : appendU P argTypes args h = none := by
    unfold appendU
    split
    · rename_i sT' base cap x a1 a2 a3
      rw [hsT] at a1; cases a1
      split
      · rename_i elem' b1 b2
        rw [hu] at b1; cases b1
        split
        · rename_i inf' z' n c1 c2
          rw [hz] at c1; cases c1
          have := hn x n a3 c2
          rw [if_neg (by rw [h1]; rintro ⟨_, h2, _⟩; omega)]
        · rfl
      · rfl
    · rfl
  have hV : appendV P argTypes args h = none := by
    unfold appendV
    split
    · rename_i sT' a len cap x a1 a2 a3
      rw [hsT] at a1; cases a1
      split
      · rename_i elem' b1 b2
        rw [hu] at b1; cases b1
        split
        · rename_i inf' z' n c1 c2
          rw [hz] at c1; cases c1
          have := hn x n a3 c2
          rw [if_neg (by rw [h1]; rintro ⟨_, h2, _⟩; omega)]
        · rfl
      · rfl
    · rfl
  simp only [appendA2, this, hV]

end
end Go.AE

/-
  AE, rows of numbers are compared one by one.
-/
namespace Go.AE
noncomputable section
set_option linter.unusedSimpArgs false
set_option linter.unusedVariables false
variable {P : Program} {w : World}

def rowEq : List Value → List Value → Option Bool
  | [], [] => some true
  | .int k a :: xs, .int k' b :: ys => if k = k' then (if a = b then rowEq xs ys else some false) else none
  | _, _ => none

def aggEqA (P : Program) (t : TypeId) (xs ys : Array Value) : Option Bool :=
  match P.underlying t with
  | some (.array n e) =>
    match P.underlying e, P.info? e with
    | some (.int _), some i => if i.size = 1 ∧ xs.size = n ∧ ys.size = n then rowEq xs.toList ys.toList else none
    | _, _ => none
  | _ => none

def fastEq (P : Program) (op : BinOp) (t : TypeId) (x y : Value) : Option Value :=
  match op, x, y with
  | .eql, .agg xs, .agg ys => (aggEqA P t xs ys).map .bool
  | .neq, .agg xs, .agg ys => (aggEqA P t xs ys).map fun b => .bool (!b)
  | _, _, _ => none

theorem eqItems_rows (d : Nat) {e : TypeId} {k : IntKind} (he : P.underlying e = some (.int k)) (xs ys : Array Value) : ∀ (m j : Nat) (b : Bool), xs.size = j + m → ys.size = j + m → rowEq (xs.toList.drop j) (ys.toList.drop j) = some b →
    (Op.eqItems (d + 1) e 1 xs ys (List.range' j m)).run P w = .ok b w
  | 0, j, b, hx, hy, h => by
    rw [List.drop_eq_nil_of_le (by simp; omega), List.drop_eq_nil_of_le (by simp; omega)] at h
    simp only [rowEq, Option.some.injEq] at h
    subst h
    simp [Op.eqItems]
  | m + 1, j, b, hx, hy, h => by
    have hjx : j < xs.toList.length := by simp; omega
    have hjy : j < ys.toList.length := by simp; omega
    rw [List.drop_eq_getElem_cons hjx, List.drop_eq_getElem_cons hjy] at h
    have hag : isAggT P e = some false := by simp [isAggT, he]
    have px : (part e xs (j * 1)).run P w = .ok (xs.toList[j]) w := by
      have : xs[j]? = some xs.toList[j] := by simp at hjx; simp [hjx]
      simp [part, run_isAgg hag, this]
    have py : (part e ys (j * 1)).run P w = .ok (ys.toList[j]) w := by
      have : ys[j]? = some ys.toList[j] := by simp at hjy; simp [hjy]
      simp [part, run_isAgg hag, this]
    generalize xs.toList[j] = u at h px
    generalize ys.toList[j] = v at h py
    simp only [List.range'_succ, Op.eqItems, Sem.run_bind, px, py, Result.andThen_ok]
    unfold rowEq at h
    split at h
    · rename_i e1 e2; cases e1
    · rename_i k1 a xs' k2 c ys' e1 e2
      cases e1; cases e2
      split at h
      case isFalse => cases h
      rename_i hk
      subst hk
      have heq : (Op.equalIn (d + 1) e (.int k1 a) (.int k1 c)).run P w = .ok (a == c) w := by
        simp [Op.equalIn, run_underlying he]
      rw [heq]
      split at h
      · rename_i hac
        subst hac
        simp only [Result.andThen_ok, beq_self_eq_true, Bool.not_true, Bool.false_eq_true, if_false]
        exact eqItems_rows d he xs ys m (j + 1) b (by omega) (by omega) h
      · rename_i hac
        cases h
        have : (a == c) = false := by simpa using hac
        simp [this]
    · cases h

theorem aggEqA_run {t : TypeId} {xs ys : Array Value} {b : Bool} (h : aggEqA P t xs ys = some b) (w : World) : (Op.equal t (.agg xs) (.agg ys)).run P w = .ok b w ∧ P.eqGuardType P.depth t = false := by
  unfold aggEqA at h
  split at h
  case h_2 => cases h
  rename_i n e hu
  split at h
  case h_2 => cases h
  rename_i k i he hi
  split at h
  case isFalse => cases h
  rename_i hc
  obtain ⟨h1, h2, h3⟩ := hc
  have hcells : P.cellsOf e = 1 := by simp [Program.cellsOf, hi, h1]
  constructor
  · show (Op.equalIn (9998 + 1 + 1) t (.agg xs) (.agg ys)).run P w = _
    rw [run_equalIn_array w (9998 + 1) xs ys hu hi, hcells, List.range_eq_range']
    exact eqItems_rows 9998 he xs ys n 0 b (by omega) (by omega) h
  · have hd : P.depth = (2 * (P.types.size + Made.depth)) + 1 + 1 := rfl
    rw [hd]
    simp [Program.eqGuardType, hu, he]

theorem fastEq_run {op : BinOp} {t : TypeId} {x y v : Value} (h : fastEq P op t x y = some v) (ox oy : Operand) (w : World) :
    (do eqGuard op t ox oy x y; binOp op t x y : Sem Value).run P w = .ok v w ∧ plain v = true := by
  unfold fastEq at h
  split at h
  · rename_i xs ys
    obtain ⟨b, hb, rfl⟩ := Option.map_eq_some_iff.1 h
    obtain ⟨h1, h2⟩ := aggEqA_run hb w
    refine ⟨?_, rfl⟩
    simp only [Sem.run_bind, run_eqGuard_agg w .eql t ox oy xs ys h2, Result.andThen_ok]
    show (do pure (Value.bool (← Op.equal t (.agg xs) (.agg ys))) : Sem Value).run P w = _
    simp only [Sem.run_bind, h1, Result.andThen_ok, Sem.run_pure]
  · rename_i xs ys
    obtain ⟨b, hb, rfl⟩ := Option.map_eq_some_iff.1 h
    obtain ⟨h1, h2⟩ := aggEqA_run hb w
    refine ⟨?_, rfl⟩
    simp only [Sem.run_bind, run_eqGuard_agg w .neq t ox oy xs ys h2, Result.andThen_ok]
    show (do pure (Value.bool (!(← Op.equal t (.agg xs) (.agg ys)))) : Sem Value).run P w = _
    simp only [Sem.run_bind, h1, Result.andThen_ok, Sem.run_pure]
  · cases h

end
end Go.AE

/-
  AE, ranges over strings; a slice's array.
-/
namespace Go.AE
noncomputable section
set_option linter.unusedSimpArgs false
set_option linter.unusedVariables false
variable {P : Program} {ρ : Ren} {h : AH} {w : World}

def arrayAtA (P : Program) (arr : TypeId) (x : Value) : Option Value :=
  match P.underlying arr, x with
  | some (.array n _), .slice (some a) len _ => if 0 < n ∧ n ≤ len then some (.pointer (some a)) else none
  | _, _ => none

theorem arrayAtA_sim {arr : TypeId} {x x' v : Value} (hx : V ρ x x') (hs : arrayAtA P arr x = some v) (w : World) : ∃ v', (Instr.arrayAt arr x').run P w = .ok v' w ∧ V ρ v v' := by
  unfold arrayAtA at hs
  split at hs
  case h_2 => cases hs
  rename_i n e a len c hu
  split at hs
  case isFalse => cases hs
  rename_i hc
  cases hs
  cases hx with
  | slice _ b _ _ c' hn hS =>
    refine ⟨.pointer (some b), ?_, .pointer _ _ (hS.head (by omega))⟩
    have hlt : ¬ len < n := by omega
    simp [Instr.arrayAt, run_underlying hu, hlt]

def rangeS (P : Program) (t : TypeId) (x : Value) (h : AH) : Option (Value × AH) :=
  match P.underlying t, x with
  | some .string, .string s => some (.pointer (some ⟨h.next, 0, none⟩), h.push (.iter s 0))
  | _, _ => none

theorem rangeS_sim {t : TypeId} {x x' v : Value} {h' : AH} (hR : Rel ρ h w.heap) (hx : V ρ x x') (hs : rangeS P t x h = some (v, h')) : Makes P ρ w (Instr.range t x') v h' := by
  unfold rangeS at hs
  split at hs
  case h_2 => cases hs
  rename_i s ht
  cases hs
  cases hx
  let j : Info := { b := w.heap.size, s := 0, n := 0, N := 0, esz := 0, op := false, ro := false }
  refine ⟨ρ.put h.next j, .pointer (some ⟨w.heap.size, 0, none⟩), { w with heap := w.heap.push (.stringIter s 0) }, by simp [Instr.range, run_underlying ht], Step.alloc hR _ j rfl,
    hR.alloc _ _ j rfl ⟨rfl, rfl, rfl⟩, ?_⟩
  exact .pointer _ _ ⟨j, by simp [Ren.put], rfl, rfl, rfl⟩

def nextS (it : Value) (isStr : Bool) (h : AH) : Option (Value × AH) :=
  match it, isStr with
  | .pointer (some ⟨r, 0, _⟩), true =>
    match h.get r with
    | some (.iter s pos) =>
      if pos < s.size then some (.tuple #[.bool true, goInt pos, .int .i32 (Utf8.decode s pos).1], h.set r (.iter s (pos + (Utf8.decode s pos).2)))
      else some (.tuple #[.bool false], h)
    | _ => none
  | _, _ => none

theorem nextS_sim {it it' v : Value} {isStr : Bool} {ty : TypeId} {h' : AH} (hR : Rel ρ h w.heap) (hx : V ρ it it') (hs : nextS it isStr h = some (v, h')) : Makes P ρ w (Instr.next it' isStr ty) v h' := by
  unfold nextS at hs
  split at hs
  case h_2 => cases hs
  rename_i r sp
  split at hs
  case h_2 => cases hs
  rename_i s pos hg
  obtain ⟨a, rfl, hA⟩ : ∃ a, it' = .pointer (some a) ∧ ARel ρ ⟨r, 0, sp⟩ a := by
    cases hx with
    | pointer _ a h => exact ⟨a, rfl, h⟩
  obtain ⟨i, b, hi, hb, rfl, his, hro⟩ := hR.obj _ _ hg
  obtain ⟨i', hi', ab, ao, asp⟩ := hA
  obtain rfl : i = i' := by rw [hi] at hi'; exact Option.some.inj hi'
  obtain ⟨ab', ao', as'⟩ := a
  simp only at ab ao asp
  have ha0 : ao' = 0 := by rw [ao, his]
  subst ab ha0 asp
  split at hs
  · rename_i hlt
    cases hs
    refine ⟨ρ, .tuple #[.bool true, goInt pos, .int .i32 (Utf8.decode s pos).1], { w with heap := w.heap.setIfInBounds i.b (.stringIter s (pos + (Utf8.decode s pos).2)) }, ?_, Step.set hi hro _, hR.setCells hg hi ⟨rfl, his, hro⟩, ?_⟩
    · simp [Instr.next, getObj, Sem.run_bind, Sem.run, hb, Result.andThen, hlt, setObj]
    · refine .tuple _ _ (by simp) rfl fun n hn => ?_
      simp only [List.size_toArray, List.length_cons, List.length_nil] at hn
      match n, hn with
      | 0, _ => exact .bool true
      | 1, _ => exact .int _ _
      | 2, _ => exact .int _ _
  · rename_i hlt
    cases hs
    refine ⟨ρ, .tuple #[.bool false], w, ?_, Step.refl ρ w, hR, .over⟩
    simp [Instr.next, getObj, Sem.run_bind, Sem.run, hb, Result.andThen, hlt]

def rangeM (P : Program) (t : TypeId) (x : Value) (h : AH) : Option (Value × AH) :=
  match rangeS P t x h with
  | some r => some r
  | none => rangeA P t x h
theorem rangeM_sim {t : TypeId} {x x' v : Value} {h' : AH} (hR : Rel ρ h w.heap) (hx : V ρ x x') (hs : rangeM P t x h = some (v, h')) : Makes P ρ w (Instr.range t x') v h' := by
  unfold rangeM at hs
  split at hs
  · rename_i r hr; cases hs; exact rangeS_sim hR hx hr
  · exact rangeA_sim hR hx hs

def nextM (it : Value) (isStr : Bool) (h : AH) : Option (Value × AH) :=
  match nextS it isStr h with
  | some r => some r
  | none => nextA it isStr h
theorem nextM_sim {it it' v : Value} {isStr : Bool} {ty : TypeId} {h' : AH} (hR : Rel ρ h w.heap) (hx : V ρ it it') (hs : nextM it isStr h = some (v, h')) : Makes P ρ w (Instr.next it' isStr ty) v h' := by
  unfold nextM at hs
  split at hs
  · rename_i r hr; cases hs; exact nextS_sim hR hx hr
  · exact nextA_sim hR hx hs

end
end Go.AE

/-
  AE, a byte sought in a string.
-/
namespace Go.AE
noncomputable section
set_option linter.unusedSimpArgs false
set_option linter.unusedVariables false
variable {P : Program} {ρ : Ren} {h : AH} {w : World}

theorem index_find {fn : Func} (h1 : fn.name = "internal/bytealg.IndexByteString") (h2 : fn.origin = "") : Extern.find fn = some Extern.BytealgIndexByte.indexByte := by
  have f1 : (Extern.allGenericRows.lookup "internal/bytealg.IndexByteString").isNone = true := by kernel_rfl
  have f2 : (Extern.allTypedRows.lookup "internal/bytealg.IndexByteString").isNone = true := by kernel_rfl
  have f3 : Extern.allRows.lookup "internal/bytealg.IndexByteString" = some Extern.BytealgIndexByte.indexByte := by kernel_rfl
  simp only [Option.isNone_iff_eq_none] at f1 f2
  simp only [Extern.find, h1, h2, f1, f2, f3]
  rfl

theorem index_next {fn : Func} (h1 : fn.name = "internal/bytealg.IndexByteString") (h2 : fn.origin = "") : Extern.findNext fn = none := by
  have f1 : (Extern.allNextRows.lookup "internal/bytealg.IndexByteString").isNone = true := by kernel_rfl
  have f2 : (Extern.allNextRows.lookup "").isNone = true := by kernel_rfl
  simp only [Option.isNone_iff_eq_none] at f1 f2
  simp only [Extern.findNext, h1, h2, f1, f2]
  rfl

def isIndex (P : Program) (g : FuncId) : Bool :=
  match P.funcs[g]? with
  | some fn => fn.body.isNone && (fn.name == "internal/bytealg.IndexByteString") && (fn.origin == "")
  | none => false

def indexByteA (args : Array Value) : Option Value :=
  match args.toList with
  | [.string s, .int .u8 c] => some (.int .i64 (firstIdx s c.toNat.toUInt8))
  | _ => none

theorem indexByteA_sim {args args' : Array Value} {v : Value} (ha : VS ρ args args') (hs : indexByteA args = some v) (w : World) :
    ∃ v', (Extern.BytealgIndexByte.indexByte args').run P w = .ok v' w ∧ V ρ v v' := by
  unfold indexByteA at hs
  split at hs
  case h_2 => cases hs
  rename_i s c hargs
  cases hs
  obtain rfl : args = #[.string s, .int .u8 c] := by apply Array.ext'; exact hargs
  obtain rfl : args' = #[.string s, .int .u8 c] := by
    obtain ⟨h1, h2⟩ := ha
    obtain ⟨l⟩ := args'
    match l, h1 with
    | [a, b], _ =>
      have x := h2 0 (by simp)
      have y := h2 1 (by simp)
      simp at x y
      cases x
      cases y
      rfl
  exact ⟨_, run_indexByte_string s c w, .int _ _⟩

/-- What a function without a text does, as far as it is told. -/
def externA (P : Program) (g : FuncId) (args : Array Value) (h : AH) : Option (Value × AH) :=
  if isClone P g then cloneA args h
  else if isIndex P g then (indexByteA args).map fun v => (v, h)
  else none

theorem externA_sim {g : FuncId} {args args' : Array Value} {v : Value} {h' : AH} (hq : ∀ fn, P.funcs[g]? = some fn → (fn.name == "runtime.NumGoroutine") = false) (hR : Rel ρ h w.heap) (ha : VS ρ args args')
    (hs : externA P g args h = some (v, h')) : ∃ ρ' v' w', (callFunc g args').run P w = .ok (.value v') w' ∧ Step ρ w ρ' w' ∧ Rel ρ' h' w'.heap ∧ V ρ' v v' := by
  unfold externA at hs
  split at hs
  · rename_i hcl
    unfold isClone at hcl
    split at hcl
    case h_2 => cases hcl
    rename_i fn hfn
    simp only [Bool.and_eq_true, beq_iff_eq] at hcl
    obtain ⟨ρ', v', w', hr, h2⟩ := cloneA_sim (P := P) hR ha hs
    refine ⟨ρ', v', w', ?_, h2⟩
    rw [run_callFunc_extern hfn (hq fn hfn) (by rw [hcl.1.1]) (clone_next hcl.1.2 hcl.2) (clone_find hcl.1.2 hcl.2) args' w, hr]
    rfl
  · split at hs
    case isFalse => cases hs
    rename_i hcl
    unfold isIndex at hcl
    split at hcl
    case h_2 => cases hcl
    rename_i fn hfn
    simp only [Bool.and_eq_true, beq_iff_eq] at hcl
    obtain ⟨u, hu, he⟩ := Option.map_eq_some_iff.1 hs
    cases he
    obtain ⟨v', hr, hv⟩ := indexByteA_sim (P := P) ha hu w
    refine ⟨ρ, v', w, ?_, Step.refl ρ w, hR, hv⟩
    rw [run_callFunc_extern hfn (hq fn hfn) (by rw [hcl.1.1]) (index_next hcl.1.2 hcl.2) (index_find hcl.1.2 hcl.2) args' w, hr]
    rfl

end
end Go.AE
