/-
  AE, part 1: a persistent tree keyed by natural numbers, quick in the kernel; what is got behind a set.
-/
import GoSem.Dispatch
namespace Go.AE
set_option linter.unusedSimpArgs false
set_option linter.unusedVariables false

/-- A binary tree over keys: the key 1 at the root; an even key to the left, an odd one to the right. -/
inductive PT (α : Type) where
  | leaf
  | node (l : PT α) (v : Option α) (r : PT α)

/-- A way in a tree. -/
inductive Bs where
  | here
  | l (b : Bs)
  | r (b : Bs)
  deriving DecidableEq

namespace PT
variable {α : Type}

theorem brec {β : Type} (b : Bool) (x y : β) : Bool.rec (motive := fun _ => β) x y b = if b = true then y else x := by cases b <;> rfl

def left : PT α → PT α
  | leaf => leaf
  | node l _ _ => l
def right : PT α → PT α
  | leaf => leaf
  | node _ _ r => r
def root : PT α → Option α
  | leaf => none
  | node _ v _ => v

noncomputable def pforce {β : Type} (t : PT α) (f : PT α → β) : β := PT.rec (motive := fun _ => β) (f leaf) (fun l v r _ _ => f (node l v r)) t
theorem pforce_eq {β : Type} (t : PT α) (f : PT α → β) : pforce t f = f t := by cases t <;> rfl

/-- The way to a key, by fuel. -/
noncomputable def bitsP (n : Nat) : Nat → Bs :=
  Nat.rec (motive := fun _ => Nat → Bs) (fun _ => .here)
    (fun _ ih k => Bool.rec (motive := fun _ => Bs) (Bool.rec (motive := fun _ => Bs) (.r (ih (Nat.div k 2))) (.l (ih (Nat.div k 2))) (Nat.beq (Nat.mod k 2) Nat.zero)) .here (Nat.beq k 1)) n

def valB : Bs → Nat
  | .here => 1
  | .l b => 2 * valB b
  | .r b => 2 * valB b + 1

theorem valB_bitsP : ∀ (n k : Nat), 1 ≤ k → k < 2 ^ n → valB (bitsP n k) = k
  | 0, k, h1, h2 => by simp at h2; omega
  | n + 1, k, h1, h2 => by
    have hp : 2 ^ (n + 1) = 2 * 2 ^ n := by rw [Nat.pow_succ]; omega
    rw [hp] at h2
    have e1 : (Nat.beq k 1 = true) = (k = 1) := Nat.beq_eq
    have e2 : (Nat.beq (Nat.mod k 2) Nat.zero = true) = (k % 2 = 0) := Nat.beq_eq
    have e : bitsP (n + 1) k = if k = 1 then .here else if k % 2 = 0 then .l (bitsP n (k / 2)) else .r (bitsP n (k / 2)) := by
      show Bool.rec (motive := fun _ => Bs) (Bool.rec (motive := fun _ => Bs) _ _ _) _ _ = _
      rw [brec, brec]; simp only [e1, e2]; rfl
    rw [e]
    by_cases hk : k = 1
    · rw [if_pos hk]; exact hk.symm
    · rw [if_neg hk]
      by_cases hm : k % 2 = 0
      · rw [if_pos hm]
        simp only [valB]
        rw [valB_bitsP n (k / 2) (by omega) (by omega)]; omega
      · rw [if_neg hm]
        simp only [valB]
        rw [valB_bitsP n (k / 2) (by omega) (by omega)]; omega

noncomputable def bitsOf (i : Nat) : Bs := bitsP ((i + 1).log2 + 1) (i + 1)
theorem bitsOf_inj {i j : Nat} (h : bitsOf i = bitsOf j) : i = j := by
  have h1 : valB (bitsOf i) = i + 1 := valB_bitsP _ _ (by omega) Nat.lt_log2_self
  have h2 : valB (bitsOf j) = j + 1 := valB_bitsP _ _ (by omega) Nat.lt_log2_self
  rw [h] at h1
  omega

noncomputable def getB (b : Bs) : PT α → Option α :=
  Bs.rec (motive := fun _ => PT α → Option α) (fun t => PT.rec (motive := fun _ => Option α) none (fun _ v _ _ _ => v) t)
    (fun _ ih t => PT.rec (motive := fun _ => Option α) none (fun l _ _ _ _ => ih l) t) (fun _ ih t => PT.rec (motive := fun _ => Option α) none (fun _ _ r _ _ => ih r) t) b

theorem getB_leaf : ∀ (b : Bs), getB b (leaf : PT α) = none
  | .here => rfl
  | .l _ => rfl
  | .r _ => rfl
theorem getB_here (t : PT α) : getB .here t = t.root := by cases t <;> rfl
theorem getB_l (b : Bs) (t : PT α) : getB (.l b) t = getB b t.left := by
  cases t with
  | leaf => exact (getB_leaf b).symm
  | node l v r => rfl
theorem getB_r (b : Bs) (t : PT α) : getB (.r b) t = getB b t.right := by
  cases t with
  | leaf => exact (getB_leaf b).symm
  | node l v r => rfl

/-- Sets at a way's end; the way is made whole at once. -/
noncomputable def setB (b : Bs) : Option α → PT α → PT α :=
  Bs.rec (motive := fun _ => Option α → PT α → PT α) (fun a t => PT.rec (motive := fun _ => PT α) (node leaf a leaf) (fun l _ r _ _ => node l a r) t)
    (fun _ ih a t => PT.rec (motive := fun _ => PT α) (pforce (ih a leaf) fun l' => node l' none leaf) (fun l v r _ _ => pforce (ih a l) fun l' => node l' v r) t)
    (fun _ ih a t => PT.rec (motive := fun _ => PT α) (pforce (ih a leaf) fun r' => node leaf none r') (fun l v r _ _ => pforce (ih a r) fun r' => node l v r') t) b

theorem setB_here (a : Option α) (t : PT α) : setB .here a t = node t.left a t.right := by cases t <;> rfl
theorem setB_l (b : Bs) (a : Option α) (t : PT α) : setB (.l b) a t = node (setB b a t.left) t.root t.right := by
  cases t with
  | leaf => exact pforce_eq (setB b a leaf) fun l' => node l' none leaf
  | node l v r => exact pforce_eq (setB b a l) fun l' => node l' v r
theorem setB_r (b : Bs) (a : Option α) (t : PT α) : setB (.r b) a t = node t.left t.root (setB b a t.right) := by
  cases t with
  | leaf => exact pforce_eq (setB b a leaf) fun r' => node leaf none r'
  | node l v r => exact pforce_eq (setB b a r) fun r' => node l v r'

theorem getB_setB : ∀ (b c : Bs) (a : Option α) (t : PT α), getB c (setB b a t) = if c = b then a else getB c t
  | .here, .here, a, t => by rw [setB_here, getB_here, if_pos rfl]; rfl
  | .here, .l c, a, t => by rw [setB_here, getB_l, getB_l, if_neg (by simp)]; rfl
  | .here, .r c, a, t => by rw [setB_here, getB_r, getB_r, if_neg (by simp)]; rfl
  | .l b, .here, a, t => by rw [setB_l, getB_here, getB_here, if_neg (by simp)]; rfl
  | .l b, .l c, a, t => by
    rw [setB_l, getB_l, getB_l]
    show getB c (setB b a t.left) = _
    rw [getB_setB b c a t.left]
    by_cases h : c = b
    · subst h; simp
    · simp [h]
  | .l b, .r c, a, t => by rw [setB_l, getB_r, getB_r, if_neg (by simp)]; rfl
  | .r b, .here, a, t => by rw [setB_r, getB_here, getB_here, if_neg (by simp)]; rfl
  | .r b, .l c, a, t => by rw [setB_r, getB_l, getB_l, if_neg (by simp)]; rfl
  | .r b, .r c, a, t => by
    rw [setB_r, getB_r, getB_r]
    show getB c (setB b a t.right) = _
    rw [getB_setB b c a t.right]
    by_cases h : c = b
    · subst h; simp
    · simp [h]

theorem setB_same : ∀ (b : Bs) (a c : Option α) (t : PT α), setB b a (setB b c t) = setB b a t
  | .here, a, c, t => by rw [setB_here, setB_here, setB_here]; rfl
  | .l b, a, c, t => by
    rw [setB_l, setB_l, setB_l]
    show node (setB b a (setB b c t.left)) t.root t.right = _
    rw [setB_same b a c t.left]
  | .r b, a, c, t => by
    rw [setB_r, setB_r, setB_r]
    show node t.left t.root (setB b a (setB b c t.right)) = _
    rw [setB_same b a c t.right]

theorem setB_comm : ∀ (b d : Bs) (a c : Option α) (t : PT α), b ≠ d → setB b a (setB d c t) = setB d c (setB b a t)
  | .here, .here, a, c, t, h => absurd rfl h
  | .here, .l d, a, c, t, h => by rw [setB_l, setB_here, setB_here, setB_l]; rfl
  | .here, .r d, a, c, t, h => by rw [setB_r, setB_here, setB_here, setB_r]; rfl
  | .l b, .here, a, c, t, h => by rw [setB_l, setB_here, setB_here, setB_l]; rfl
  | .l b, .l d, a, c, t, h => by
    rw [setB_l, setB_l, setB_l, setB_l]
    show node (setB b a (setB d c t.left)) t.root t.right = node (setB d c (setB b a t.left)) t.root t.right
    rw [setB_comm b d a c t.left (fun e => h (by rw [e]))]
  | .l b, .r d, a, c, t, h => by rw [setB_l, setB_r, setB_r, setB_l]; rfl
  | .r b, .here, a, c, t, h => by rw [setB_r, setB_here, setB_here, setB_r]; rfl
  | .r b, .l d, a, c, t, h => by rw [setB_l, setB_r, setB_r, setB_l]; rfl
  | .r b, .r d, a, c, t, h => by
    rw [setB_r, setB_r, setB_r, setB_r]
    show node t.left t.root (setB b a (setB d c t.right)) = node t.left t.root (setB d c (setB b a t.right))
    rw [setB_comm b d a c t.right (fun e => h (by rw [e]))]

/-- The key is made whole first, so that the way to it is found once for all trees. -/
noncomputable def keyed {β : Type} (i : Nat) (f : Bs → β) : β := Nat.rec (motive := fun _ => β) (f (bitsOf Nat.zero)) (fun k _ => f (bitsOf (Nat.succ k))) i
theorem keyed_eq {β : Type} (i : Nat) (f : Bs → β) : keyed i f = f (bitsOf i) := by cases i <;> rfl

noncomputable def get (t : PT α) (i : Nat) : Option α := keyed i fun b => getB b t
noncomputable def set (t : PT α) (i : Nat) (a : Option α) : PT α := keyed i fun b => setB b a t

theorem get_set (t : PT α) (i j : Nat) (a : Option α) : get (set t i a) j = if j = i then a else get t j := by
  unfold get set
  rw [keyed_eq, keyed_eq, keyed_eq, getB_setB]
  by_cases h : j = i
  · subst h; simp
  · rw [if_neg h, if_neg (fun e => h (bitsOf_inj e))]

theorem get_set_same (t : PT α) (i : Nat) (a : Option α) : get (set t i a) i = a := by rw [get_set, if_pos rfl]
theorem get_set_ne (t : PT α) (i j : Nat) (a : Option α) (h : j ≠ i) : get (set t i a) j = get t j := by rw [get_set, if_neg h]

@[simp] theorem get_leaf (i : Nat) : get (leaf : PT α) i = none := by unfold get; rw [keyed_eq, getB_leaf]

theorem set_set (t : PT α) (i : Nat) (a b : Option α) : (t.set i a).set i b = t.set i b := by
  unfold set; rw [keyed_eq, keyed_eq, keyed_eq, setB_same]
theorem set_comm (t : PT α) {i j : Nat} (a b : Option α) (h : i ≠ j) : (t.set i a).set j b = (t.set j b).set i a := by
  unfold set; rw [keyed_eq, keyed_eq, keyed_eq, keyed_eq, setB_comm _ _ _ _ _ (fun e => h (bitsOf_inj e).symm)]

end PT
end Go.AE
