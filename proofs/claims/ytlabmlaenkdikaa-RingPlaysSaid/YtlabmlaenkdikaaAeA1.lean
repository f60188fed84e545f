/-
  AE, part 1: a persistent tree keyed by natural numbers, quick in the kernel; what is got behind a set.
-/
import GoSem.Dispatch
namespace Go.AE
set_option linter.unusedSimpArgs false
set_option linter.unusedVariables false

/-- A binary tree over keys: the key 1 at the root; an even key to the left, an odd one to the right. -/
inductive PT (α : Type) where
  | leaf
  | node (l : PT α) (v : Option α) (r : PT α)

namespace PT
variable {α : Type}

def getP : PT α → Nat → Option α
  | leaf, _ => none
  | node l v r, k => if k = 1 then v else if k % 2 = 0 then getP l (k / 2) else getP r (k / 2)

def left : PT α → PT α
  | leaf => leaf
  | node l _ _ => l
def right : PT α → PT α
  | leaf => leaf
  | node _ _ r => r
def root : PT α → Option α
  | leaf => none
  | node _ v _ => v

/-- Sets at a key, by fuel: so many steps as the key has digits. -/
def setP : Nat → PT α → Nat → Option α → PT α
  | 0, t, _, _ => t
  | n + 1, t, k, a =>
    if k = 1 then node t.left a t.right
    else if k % 2 = 0 then node (setP n t.left (k / 2) a) t.root t.right
    else node t.left t.root (setP n t.right (k / 2) a)

def get (t : PT α) (i : Nat) : Option α := t.getP (i + 1)
def set (t : PT α) (i : Nat) (a : Option α) : PT α := setP ((i + 1).log2 + 1) t (i + 1) a

theorem getP_node (l r : PT α) (v : Option α) (k : Nat) :
    getP (node l v r) k = if k = 1 then v else if k % 2 = 0 then getP l (k / 2) else getP r (k / 2) := rfl

theorem getP_eta (t : PT α) (k : Nat) (hk : 1 ≤ k) :
    getP t k = if k = 1 then t.root else if k % 2 = 0 then getP t.left (k / 2) else getP t.right (k / 2) := by
  cases t with
  | leaf => simp [getP, left, right, root]
  | node l v r => rfl

theorem getP_setP : ∀ (n : Nat) (t : PT α) (k j : Nat) (a : Option α), 1 ≤ k → 1 ≤ j → k < 2 ^ n →
    getP (setP n t k a) j = if j = k then a else getP t j := by
  intro n
  induction n with
  | zero => intro t k j a hk hj h; simp at h; omega
  | succ n ih =>
    intro t k j a hk hj h
    have hp : 2 ^ (n + 1) = 2 * 2 ^ n := by rw [Nat.pow_succ]; omega
    rw [hp] at h
    have he := getP_eta t j hj
    unfold setP
    by_cases h1 : k = 1
    · subst h1
      rw [if_pos rfl, getP_node]
      by_cases hj1 : j = 1
      · simp [hj1]
      · rw [if_neg hj1, if_neg hj1, he, if_neg hj1]
    · rw [if_neg h1]
      by_cases h2 : k % 2 = 0
      · rw [if_pos h2, getP_node]
        by_cases hj1 : j = 1
        · rw [if_pos hj1, if_neg (by omega), he, if_pos hj1]
        · rw [if_neg hj1]
          by_cases hj2 : j % 2 = 0
          · rw [if_pos hj2, ih _ _ _ _ (by omega) (by omega) (by omega)]
            by_cases hjk : j = k
            · rw [if_pos hjk, if_pos (by omega)]
            · rw [if_neg hjk, if_neg (by omega), he, if_neg hj1, if_pos hj2]
          · rw [if_neg hj2, if_neg (by omega), he, if_neg hj1, if_neg hj2]
      · rw [if_neg h2, getP_node]
        by_cases hj1 : j = 1
        · rw [if_pos hj1, if_neg (by omega), he, if_pos hj1]
        · rw [if_neg hj1]
          by_cases hj2 : j % 2 = 0
          · rw [if_pos hj2, if_neg (by omega), he, if_neg hj1, if_pos hj2]
          · rw [if_neg hj2, ih _ _ _ _ (by omega) (by omega) (by omega)]
            by_cases hjk : j = k
            · rw [if_pos hjk, if_pos (by omega)]
            · rw [if_neg hjk, if_neg (by omega), he, if_neg hj1, if_neg hj2]

theorem get_set (t : PT α) (i j : Nat) (a : Option α) : get (set t i a) j = if j = i then a else get t j := by
  unfold get set
  rw [getP_setP _ _ _ _ _ (by omega) (by omega) Nat.lt_log2_self]
  by_cases h : j = i
  · simp [h]
  · rw [if_neg (by omega), if_neg h]

theorem get_set_same (t : PT α) (i : Nat) (a : Option α) : get (set t i a) i = a := by rw [get_set, if_pos rfl]
theorem get_set_ne (t : PT α) (i j : Nat) (a : Option α) (h : j ≠ i) : get (set t i a) j = get t j := by rw [get_set, if_neg h]

@[simp] theorem get_leaf (i : Nat) : get (leaf : PT α) i = none := rfl

end PT
end Go.AE
