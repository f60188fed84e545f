/-
  K, part 1: slots in a tree of eights; numbers made whole at once; quick arithmetic.
-/
import Derived.Test.YtimngnabpolgkaaGreatInG3
namespace Go.AE
noncomputable section
set_option linter.unusedSimpArgs false
set_option linter.unusedVariables false

inductive D16 where
  | d0 | d1 | d2 | d3 | d4 | d5 | d6 | d7 | d8 | d9 | d10 | d11 | d12 | d13 | d14 | d15
  deriving DecidableEq

structure NV where
  a0 : Value
  a1 : Value
  a2 : Value
  a3 : Value
  a4 : Value
  a5 : Value
  a6 : Value
  a7 : Value
  a8 : Value
  a9 : Value
  a10 : Value
  a11 : Value
  a12 : Value
  a13 : Value
  a14 : Value
  a15 : Value

def NV.sel : D16 → NV → Value :=
  D16.rec (motive := fun _ => NV → Value) (fun t => t.a0) (fun t => t.a1) (fun t => t.a2) (fun t => t.a3) (fun t => t.a4) (fun t => t.a5) (fun t => t.a6) (fun t => t.a7) (fun t => t.a8) (fun t => t.a9) (fun t => t.a10) (fun t => t.a11) (fun t => t.a12) (fun t => t.a13) (fun t => t.a14) (fun t => t.a15)
def NV.put : D16 → NV → Value → NV :=
  D16.rec (motive := fun _ => NV → Value → NV)
    (fun t v => NV.rec (motive := fun _ => NV) (fun b0 b1 b2 b3 b4 b5 b6 b7 b8 b9 b10 b11 b12 b13 b14 b15 => ⟨v, b1, b2, b3, b4, b5, b6, b7, b8, b9, b10, b11, b12, b13, b14, b15⟩) t)
    (fun t v => NV.rec (motive := fun _ => NV) (fun b0 b1 b2 b3 b4 b5 b6 b7 b8 b9 b10 b11 b12 b13 b14 b15 => ⟨b0, v, b2, b3, b4, b5, b6, b7, b8, b9, b10, b11, b12, b13, b14, b15⟩) t)
    (fun t v => NV.rec (motive := fun _ => NV) (fun b0 b1 b2 b3 b4 b5 b6 b7 b8 b9 b10 b11 b12 b13 b14 b15 => ⟨b0, b1, v, b3, b4, b5, b6, b7, b8, b9, b10, b11, b12, b13, b14, b15⟩) t)
    (fun t v => NV.rec (motive := fun _ => NV) (fun b0 b1 b2 b3 b4 b5 b6 b7 b8 b9 b10 b11 b12 b13 b14 b15 => ⟨b0, b1, b2, v, b4, b5, b6, b7, b8, b9, b10, b11, b12, b13, b14, b15⟩) t)
    (fun t v => NV.rec (motive := fun _ => NV) (fun b0 b1 b2 b3 b4 b5 b6 b7 b8 b9 b10 b11 b12 b13 b14 b15 => ⟨b0, b1, b2, b3, v, b5, b6, b7, b8, b9, b10, b11, b12, b13, b14, b15⟩) t)
    (fun t v => NV.rec (motive := fun _ => NV) (fun b0 b1 b2 b3 b4 b5 b6 b7 b8 b9 b10 b11 b12 b13 b14 b15 => ⟨b0, b1, b2, b3, b4, v, b6, b7, b8, b9, b10, b11, b12, b13, b14, b15⟩) t)
    (fun t v => NV.rec (motive := fun _ => NV) (fun b0 b1 b2 b3 b4 b5 b6 b7 b8 b9 b10 b11 b12 b13 b14 b15 => ⟨b0, b1, b2, b3, b4, b5, v, b7, b8, b9, b10, b11, b12, b13, b14, b15⟩) t)
    (fun t v => NV.rec (motive := fun _ => NV) (fun b0 b1 b2 b3 b4 b5 b6 b7 b8 b9 b10 b11 b12 b13 b14 b15 => ⟨b0, b1, b2, b3, b4, b5, b6, v, b8, b9, b10, b11, b12, b13, b14, b15⟩) t)
    (fun t v => NV.rec (motive := fun _ => NV) (fun b0 b1 b2 b3 b4 b5 b6 b7 b8 b9 b10 b11 b12 b13 b14 b15 => ⟨b0, b1, b2, b3, b4, b5, b6, b7, v, b9, b10, b11, b12, b13, b14, b15⟩) t)
    (fun t v => NV.rec (motive := fun _ => NV) (fun b0 b1 b2 b3 b4 b5 b6 b7 b8 b9 b10 b11 b12 b13 b14 b15 => ⟨b0, b1, b2, b3, b4, b5, b6, b7, b8, v, b10, b11, b12, b13, b14, b15⟩) t)
    (fun t v => NV.rec (motive := fun _ => NV) (fun b0 b1 b2 b3 b4 b5 b6 b7 b8 b9 b10 b11 b12 b13 b14 b15 => ⟨b0, b1, b2, b3, b4, b5, b6, b7, b8, b9, v, b11, b12, b13, b14, b15⟩) t)
    (fun t v => NV.rec (motive := fun _ => NV) (fun b0 b1 b2 b3 b4 b5 b6 b7 b8 b9 b10 b11 b12 b13 b14 b15 => ⟨b0, b1, b2, b3, b4, b5, b6, b7, b8, b9, b10, v, b12, b13, b14, b15⟩) t)
    (fun t v => NV.rec (motive := fun _ => NV) (fun b0 b1 b2 b3 b4 b5 b6 b7 b8 b9 b10 b11 b12 b13 b14 b15 => ⟨b0, b1, b2, b3, b4, b5, b6, b7, b8, b9, b10, b11, v, b13, b14, b15⟩) t)
    (fun t v => NV.rec (motive := fun _ => NV) (fun b0 b1 b2 b3 b4 b5 b6 b7 b8 b9 b10 b11 b12 b13 b14 b15 => ⟨b0, b1, b2, b3, b4, b5, b6, b7, b8, b9, b10, b11, b12, v, b14, b15⟩) t)
    (fun t v => NV.rec (motive := fun _ => NV) (fun b0 b1 b2 b3 b4 b5 b6 b7 b8 b9 b10 b11 b12 b13 b14 b15 => ⟨b0, b1, b2, b3, b4, b5, b6, b7, b8, b9, b10, b11, b12, b13, v, b15⟩) t)
    (fun t v => NV.rec (motive := fun _ => NV) (fun b0 b1 b2 b3 b4 b5 b6 b7 b8 b9 b10 b11 b12 b13 b14 b15 => ⟨b0, b1, b2, b3, b4, b5, b6, b7, b8, b9, b10, b11, b12, b13, b14, v⟩) t)
theorem NV.sel_put_same (t : NV) (d : D16) (v : Value) : NV.sel d (NV.put d t v) = v := by cases d <;> rfl
theorem NV.sel_put_ne (t : NV) {d e : D16} (v : Value) (h : d ≠ e) : NV.sel e (NV.put d t v) = NV.sel e t := by
  cases d <;> cases e <;> first | rfl | exact absurd rfl h
def NV.all (v : Value) : NV := ⟨v, v, v, v, v, v, v, v, v, v, v, v, v, v, v, v⟩
theorem NV.sel_all (v : Value) (d : D16) : NV.sel d (NV.all v) = v := by cases d <;> rfl

structure TT where
  a0 : NV
  a1 : NV
  a2 : NV
  a3 : NV
  a4 : NV
  a5 : NV
  a6 : NV
  a7 : NV
  a8 : NV
  a9 : NV
  a10 : NV
  a11 : NV
  a12 : NV
  a13 : NV
  a14 : NV
  a15 : NV

def TT.sel : D16 → TT → NV :=
  D16.rec (motive := fun _ => TT → NV) (fun t => t.a0) (fun t => t.a1) (fun t => t.a2) (fun t => t.a3) (fun t => t.a4) (fun t => t.a5) (fun t => t.a6) (fun t => t.a7) (fun t => t.a8) (fun t => t.a9) (fun t => t.a10) (fun t => t.a11) (fun t => t.a12) (fun t => t.a13) (fun t => t.a14) (fun t => t.a15)
def TT.put : D16 → TT → NV → TT :=
  D16.rec (motive := fun _ => TT → NV → TT)
    (fun t v => TT.rec (motive := fun _ => TT) (fun b0 b1 b2 b3 b4 b5 b6 b7 b8 b9 b10 b11 b12 b13 b14 b15 => ⟨v, b1, b2, b3, b4, b5, b6, b7, b8, b9, b10, b11, b12, b13, b14, b15⟩) t)
    (fun t v => TT.rec (motive := fun _ => TT) (fun b0 b1 b2 b3 b4 b5 b6 b7 b8 b9 b10 b11 b12 b13 b14 b15 => ⟨b0, v, b2, b3, b4, b5, b6, b7, b8, b9, b10, b11, b12, b13, b14, b15⟩) t)
    (fun t v => TT.rec (motive := fun _ => TT) (fun b0 b1 b2 b3 b4 b5 b6 b7 b8 b9 b10 b11 b12 b13 b14 b15 => ⟨b0, b1, v, b3, b4, b5, b6, b7, b8, b9, b10, b11, b12, b13, b14, b15⟩) t)
    (fun t v => TT.rec (motive := fun _ => TT) (fun b0 b1 b2 b3 b4 b5 b6 b7 b8 b9 b10 b11 b12 b13 b14 b15 => ⟨b0, b1, b2, v, b4, b5, b6, b7, b8, b9, b10, b11, b12, b13, b14, b15⟩) t)
    (fun t v => TT.rec (motive := fun _ => TT) (fun b0 b1 b2 b3 b4 b5 b6 b7 b8 b9 b10 b11 b12 b13 b14 b15 => ⟨b0, b1, b2, b3, v, b5, b6, b7, b8, b9, b10, b11, b12, b13, b14, b15⟩) t)
    (fun t v => TT.rec (motive := fun _ => TT) (fun b0 b1 b2 b3 b4 b5 b6 b7 b8 b9 b10 b11 b12 b13 b14 b15 => ⟨b0, b1, b2, b3, b4, v, b6, b7, b8, b9, b10, b11, b12, b13, b14, b15⟩) t)
    (fun t v => TT.rec (motive := fun _ => TT) (fun b0 b1 b2 b3 b4 b5 b6 b7 b8 b9 b10 b11 b12 b13 b14 b15 => ⟨b0, b1, b2, b3, b4, b5, v, b7, b8, b9, b10, b11, b12, b13, b14, b15⟩) t)
    (fun t v => TT.rec (motive := fun _ => TT) (fun b0 b1 b2 b3 b4 b5 b6 b7 b8 b9 b10 b11 b12 b13 b14 b15 => ⟨b0, b1, b2, b3, b4, b5, b6, v, b8, b9, b10, b11, b12, b13, b14, b15⟩) t)
    (fun t v => TT.rec (motive := fun _ => TT) (fun b0 b1 b2 b3 b4 b5 b6 b7 b8 b9 b10 b11 b12 b13 b14 b15 => ⟨b0, b1, b2, b3, b4, b5, b6, b7, v, b9, b10, b11, b12, b13, b14, b15⟩) t)
    (fun t v => TT.rec (motive := fun _ => TT) (fun b0 b1 b2 b3 b4 b5 b6 b7 b8 b9 b10 b11 b12 b13 b14 b15 => ⟨b0, b1, b2, b3, b4, b5, b6, b7, b8, v, b10, b11, b12, b13, b14, b15⟩) t)
    (fun t v => TT.rec (motive := fun _ => TT) (fun b0 b1 b2 b3 b4 b5 b6 b7 b8 b9 b10 b11 b12 b13 b14 b15 => ⟨b0, b1, b2, b3, b4, b5, b6, b7, b8, b9, v, b11, b12, b13, b14, b15⟩) t)
    (fun t v => TT.rec (motive := fun _ => TT) (fun b0 b1 b2 b3 b4 b5 b6 b7 b8 b9 b10 b11 b12 b13 b14 b15 => ⟨b0, b1, b2, b3, b4, b5, b6, b7, b8, b9, b10, v, b12, b13, b14, b15⟩) t)
    (fun t v => TT.rec (motive := fun _ => TT) (fun b0 b1 b2 b3 b4 b5 b6 b7 b8 b9 b10 b11 b12 b13 b14 b15 => ⟨b0, b1, b2, b3, b4, b5, b6, b7, b8, b9, b10, b11, v, b13, b14, b15⟩) t)
    (fun t v => TT.rec (motive := fun _ => TT) (fun b0 b1 b2 b3 b4 b5 b6 b7 b8 b9 b10 b11 b12 b13 b14 b15 => ⟨b0, b1, b2, b3, b4, b5, b6, b7, b8, b9, b10, b11, b12, v, b14, b15⟩) t)
    (fun t v => TT.rec (motive := fun _ => TT) (fun b0 b1 b2 b3 b4 b5 b6 b7 b8 b9 b10 b11 b12 b13 b14 b15 => ⟨b0, b1, b2, b3, b4, b5, b6, b7, b8, b9, b10, b11, b12, b13, v, b15⟩) t)
    (fun t v => TT.rec (motive := fun _ => TT) (fun b0 b1 b2 b3 b4 b5 b6 b7 b8 b9 b10 b11 b12 b13 b14 b15 => ⟨b0, b1, b2, b3, b4, b5, b6, b7, b8, b9, b10, b11, b12, b13, b14, v⟩) t)
theorem TT.sel_put_same (t : TT) (d : D16) (v : NV) : TT.sel d (TT.put d t v) = v := by cases d <;> rfl
theorem TT.sel_put_ne (t : TT) {d e : D16} (v : NV) (h : d ≠ e) : TT.sel e (TT.put d t v) = TT.sel e t := by
  cases d <;> cases e <;> first | rfl | exact absurd rfl h
def TT.all (v : NV) : TT := ⟨v, v, v, v, v, v, v, v, v, v, v, v, v, v, v, v⟩
theorem TT.sel_all (v : NV) (d : D16) : TT.sel d (TT.all v) = v := by cases d <;> rfl

structure P2 where
  x : D16
  y : D16

def TT.at (t : TT) (p : P2) : Value := NV.sel p.y (TT.sel p.x t)
def TT.upd (t : TT) (p : P2) (v : Value) : TT := TT.put p.x t (NV.put p.y (TT.sel p.x t) v)

theorem TT.at_upd_same (t : TT) (p : P2) (v : Value) : (TT.upd t p v).at p = v := by
  simp only [TT.at, TT.upd, TT.sel_put_same, NV.sel_put_same]
theorem TT.at_upd_ne (t : TT) {p q : P2} (v : Value) (h : p ≠ q) : (TT.upd t p v).at q = TT.at t q := by
  simp only [TT.at, TT.upd]
  by_cases hx : p.x = q.x
  · rw [← hx, TT.sel_put_same]
    by_cases hy : p.y = q.y
    · exfalso; apply h
      cases p; cases q; simp only at hx hy; subst hx hy; rfl
    · rw [NV.sel_put_ne _ _ hy]
  · rw [TT.sel_put_ne _ _ hx]

def dig (n : Nat) : D16 :=
  match n with
  | 0 => .d0 | 1 => .d1 | 2 => .d2 | 3 => .d3 | 4 => .d4 | 5 => .d5 | 6 => .d6 | 7 => .d7 | 8 => .d8 | 9 => .d9 | 10 => .d10 | 11 => .d11 | 12 => .d12 | 13 => .d13 | 14 => .d14 | _ => .d15
def path (i : Nat) : P2 := ⟨dig (i / 16), dig (i % 16)⟩

theorem dig_inj : ∀ a, a < 16 → ∀ b, b < 16 → dig a = dig b → a = b := by decide
theorem path_inj {i j : Nat} (hi : i < 256) (hj : j < 256) (h : path i = path j) : i = j := by
  simp only [path, P2.mk.injEq] at h
  obtain ⟨h1, h2⟩ := h
  have e1 := dig_inj _ (by omega) _ (by omega) h1
  have e2 := dig_inj _ (by omega) _ (by omega) h2
  omega

/-- The tree holds a frame's slots. -/
structure TR (n : Nat) (t : TT) (A : Array Value) : Prop where
  size : A.size = n
  le : n ≤ 256
  get : ∀ i, i < 256 → TT.at t (path i) = A.getD i undef

theorem TR.upd {n : Nat} {t : TT} {A : Array Value} (h : TR n t A) {d : Nat} (hd : d < n) (v : Value) : TR n (TT.upd t (path d) v) (A.setIfInBounds d v) where
  size := by simp [h.size]
  le := h.le
  get := fun i hi => by
    have hd' : d < A.size := by rw [h.size]; exact hd
    by_cases e : d = i
    · subst e
      rw [TT.at_upd_same]
      simp [Array.getD_eq_getD_getElem?, hd']
    · rw [TT.at_upd_ne _ _ (fun hp => e (path_inj (by have := h.le; omega) hi hp)), h.get i hi]
      simp only [Array.getD_eq_getD_getElem?, Array.getElem?_setIfInBounds_ne e]

def TT0 : TT := TT.all (NV.all undef)
theorem TT0_at (p : P2) : TT.at TT0 p = undef := by simp only [TT.at, TT0, TT.sel_all, NV.sel_all]

def kfill (l : List Value) : Nat → TT → TT :=
  List.rec (motive := fun _ => Nat → TT → TT) (fun _ t => t) (fun v _ ih i t => ih (Nat.succ i) (TT.upd t (path i) v)) l

theorem kfill_at : ∀ (l : List Value) (k : Nat) (t : TT) (i : Nat), k + l.length ≤ 256 → i < 256 →
    TT.at (kfill l k t) (path i) = if k ≤ i ∧ i < k + l.length then l.getD (i - k) undef else TT.at t (path i)
  | [], k, t, i, _, _ => by
    rw [if_neg (by simp)]; rfl
  | v :: r, k, t, i, hk, hi => by
    simp only [List.length_cons] at hk
    show TT.at (kfill r (k + 1) (TT.upd t (path k) v)) (path i) = _
    rw [kfill_at r (k + 1) _ i (by omega) hi]
    by_cases e : k = i
    · subst e
      rw [if_neg (by omega), if_pos (by simp), TT.at_upd_same]; simp
    · rw [TT.at_upd_ne _ _ (fun hp => e (path_inj (by omega) hi hp))]
      by_cases h : k + 1 ≤ i ∧ i < k + 1 + r.length
      · rw [if_pos h, if_pos (by simp only [List.length_cons]; omega)]
        rw [show i - k = (i - (k + 1)) + 1 by omega]; simp
      · rw [if_neg h, if_neg (by simp only [List.length_cons]; omega)]

theorem TR.fill {l : List Value} {n : Nat} (h1 : l.length ≤ n) (h2 : n ≤ 256) : TR n (kfill l 0 TT0) (⟨l⟩ ++ Array.replicate (n - (⟨l⟩ : Array Value).size) undef) where
  size := by simp; omega
  le := h2
  get := fun i hi => by
    rw [kfill_at _ _ _ _ (by omega) hi, TT0_at]
    simp only [Array.getD_eq_getD_getElem?, Array.getElem?_append, Nat.zero_add, Nat.zero_le, true_and, Nat.sub_zero, List.size_toArray]
    by_cases h : i < l.length
    · rw [if_pos h, if_pos h]; simp [List.getD, h]
    · rw [if_neg h, if_neg h]
      by_cases h' : i - l.length < n - l.length
      · simp [h']
      · simp [h']

theorem TR.arr {A : Array Value} (h : A.size ≤ 256) : TR A.size (kfill A.toList 0 TT0) A := by
  have := TR.fill (l := A.toList) (n := A.size) (by simp) h
  simpa using this

/-- The slots as a row again. -/
def kout (n : Nat) (t : TT) : Array Value := ⟨(List.range n).map fun i => TT.at t (path i)⟩
theorem TR.out {n : Nat} {t : TT} {A : Array Value} (h : TR n t A) : kout n t = A := by
  apply Array.ext
  · simp [kout, h.size]
  · intro i h1 h2
    have hi : i < 256 := by have := h.size; have := h.le; omega
    have := h.get i hi
    simp only [Array.getD_eq_getD_getElem?] at this
    simpa [kout, h2] using this

/-! ### Numbers -/
def forceN {β : Type} (n : Nat) (f : Nat → β) : β := Nat.rec (motive := fun _ => β) (f Nat.zero) (fun k _ => f (Nat.succ k)) n
theorem forceN_eq {β : Type} (n : Nat) (f : Nat → β) : forceN n f = f n := by cases n <;> rfl

/-- Below it a natural number is a kind's own. -/
def lim (k : IntKind) : Nat := IntKind.rec (motive := fun _ => Nat) 128 32768 2147483648 9223372036854775808 256 65536 4294967296 18446744073709551616 k
def kn (k : IntKind) : Nat := IntKind.rec (motive := fun _ => Nat) 0 1 2 3 4 5 6 7 k
def nb (k : IntKind) : Nat := IntKind.rec (motive := fun _ => Nat) 8 16 32 64 8 16 32 64 k
theorem kn_inj {a b : IntKind} (h : Nat.beq (kn a) (kn b) = true) : a = b := by cases a <;> cases b <;> first | rfl | (revert h; decide)
theorem nb_eq (k : IntKind) : nb k = k.bits := by cases k <;> rfl

theorem wrap_lim {k : IntKind} {r : Nat} (h : r < lim k) : k.wrap (r : Int) = r := by
  cases k <;> simp only [lim] at h <;> simp only [IntKind.wrap, IntKind.signed, IntKind.bits] <;> simp <;> omega

def fit (k : IntKind) (r : Nat) (sl : Option Value) : Option Value :=
  Bool.rec (motive := fun _ => Option Value) sl (some (.int k (.ofNat r))) (Nat.ble (Nat.succ r) (lim k))
theorem fit_eq {k : IntKind} {r : Nat} {sl : Option Value} (h : sl = some (.int k (k.wrap (r : Int)))) : fit k r sl = sl := by
  unfold fit
  rw [PT.brec]
  split
  · rename_i hb
    rw [h, wrap_lim (Nat.le_of_ble_eq_true hb)]; rfl
  · rfl

/-- A whole number that is not negative, or something else. -/
inductive IV where
  | nat (k : IntKind) (m : Nat)
  | other

def toIV : Value → IV :=
  Value.rec (motive_1 := fun _ => IV) (motive_2 := fun _ => Unit) (motive_3 := fun _ => Unit)
    (fun _ => .other) (fun k n => Int.rec (motive := fun _ => IV) (fun m => .nat k m) (fun _ => .other) n) (fun _ _ => .other) (fun _ _ _ => .other) (fun _ => .other) (fun _ => .other) (fun _ _ _ => .other)
    (fun _ => .other) (fun _ => .other) (fun _ _ _ _ _ => .other) .other (fun _ _ _ => .other) .other (fun _ _ => .other) (fun _ _ => .other) (fun _ _ => ()) () (fun _ _ _ _ => ())

theorem toIV_nat {v : Value} {k : IntKind} {m : Nat} (h : toIV v = .nat k m) : v = .int k m := by
  cases v with
  | int k' n => cases n with
    | ofNat n => cases h; rfl
    | negSucc n => cases h
  | _ => cases h

def kint2 (slow : Value → Value → Option Value) (f : IntKind → Nat → Nat → Option Value → Option Value) (x y : Value) : Option Value :=
  IV.rec (motive := fun _ => Option Value)
    (fun k m => IV.rec (motive := fun _ => Option Value) (fun k' n => Bool.rec (motive := fun _ => Option Value) (slow x y) (f k m n (slow x y)) (Nat.beq (kn k) (kn k'))) (slow x y) (toIV y))
    (slow x y) (toIV x)
theorem kint2_eq {slow : Value → Value → Option Value} {f : IntKind → Nat → Nat → Option Value → Option Value}
    (h : ∀ k (m n : Nat), f k m n (slow (.int k m) (.int k n)) = slow (.int k m) (.int k n)) (x y : Value) : kint2 slow f x y = slow x y := by
  unfold kint2
  cases hx : toIV x with
  | other => rfl
  | nat k m =>
    cases hy : toIV y with
    | other => rfl
    | nat k' n =>
      simp only
      rw [PT.brec]
      split
      · rename_i hb
        obtain rfl := kn_inj hb
        rw [toIV_nat hx, toIV_nat hy]
        exact h k m n
      · rfl

def fAdd (k : IntKind) (m n : Nat) (sl : Option Value) : Option Value := forceN (Nat.add m n) fun r => fit k r sl
def fMul (k : IntKind) (m n : Nat) (sl : Option Value) : Option Value := forceN (Nat.mul m n) fun r => fit k r sl
def fSub (k : IntKind) (m n : Nat) (sl : Option Value) : Option Value :=
  Bool.rec (motive := fun _ => Option Value) sl (forceN (Nat.sub m n) fun r => fit k r sl) (Nat.ble n m)
def fQuo (k : IntKind) (m n : Nat) (sl : Option Value) : Option Value :=
  Bool.rec (motive := fun _ => Option Value) (forceN (Nat.div m n) fun r => fit k r sl) sl (Nat.beq n 0)
def fRem (k : IntKind) (m n : Nat) (sl : Option Value) : Option Value :=
  Bool.rec (motive := fun _ => Option Value) (forceN (Nat.mod m n) fun r => some (.int k (.ofNat r))) sl (Nat.beq n 0)
def fBit (g : Nat → Nat → Nat) (k : IntKind) (m n : Nat) (sl : Option Value) : Option Value :=
  Bool.rec (motive := fun _ => Option Value) sl (Bool.rec (motive := fun _ => Option Value) sl (forceN (g m n) fun r => fit k r sl) (Nat.ble (Nat.succ n) (lim k))) (Nat.ble (Nat.succ m) (lim k))
def fShl (k : IntKind) (m n : Nat) (sl : Option Value) : Option Value :=
  Bool.rec (motive := fun _ => Option Value) sl (forceN (Nat.shiftLeft m n) fun r => fit k r sl) (Nat.ble n (nb k))
def fShr (k : IntKind) (m n : Nat) (sl : Option Value) : Option Value :=
  Bool.rec (motive := fun _ => Option Value) sl (forceN (Nat.shiftRight m n) fun r => some (.int k (.ofNat r))) (Nat.ble n (nb k))
def fEql (_ : IntKind) (m n : Nat) (_ : Option Value) : Option Value := some (.bool (Nat.beq m n))
def fNeq (_ : IntKind) (m n : Nat) (_ : Option Value) : Option Value := some (.bool (Bool.not (Nat.beq m n)))
def fLss (_ : IntKind) (m n : Nat) (_ : Option Value) : Option Value := some (.bool (Nat.ble (Nat.succ m) n))
def fLeq (_ : IntKind) (m n : Nat) (_ : Option Value) : Option Value := some (.bool (Nat.ble m n))
def fGtr (_ : IntKind) (m n : Nat) (_ : Option Value) : Option Value := some (.bool (Nat.ble (Nat.succ n) m))
def fGeq (_ : IntKind) (m n : Nat) (_ : Option Value) : Option Value := some (.bool (Nat.ble n m))

def kint2s (slow : Value → Value → Option Value) (f : IntKind → Nat → Nat → Option Value → Option Value) (x y : Value) : Option Value :=
  IV.rec (motive := fun _ => Option Value)
    (fun k m => IV.rec (motive := fun _ => Option Value) (fun _ n => f k m n (slow x y)) (slow x y) (toIV y))
    (slow x y) (toIV x)

def kbin (P : Program) (op : BinOp) (t : TypeId) (ox oy : Operand) : Value → Value → Option Value :=
  match op with
  | .add => kint2 (binA P .add t ox oy) fAdd
  | .sub => kint2 (binA P .sub t ox oy) fSub
  | .mul => kint2 (binA P .mul t ox oy) fMul
  | .quo => kint2 (binA P .quo t ox oy) fQuo
  | .rem => kint2 (binA P .rem t ox oy) fRem
  | .and => kint2 (binA P .and t ox oy) (fBit Nat.land)
  | .or => kint2 (binA P .or t ox oy) (fBit Nat.lor)
  | .xor => kint2 (binA P .xor t ox oy) (fBit Nat.xor)
  | .shl => kint2s (binA P .shl t ox oy) fShl
  | .shr => kint2s (binA P .shr t ox oy) fShr
  | .andNot => binA P .andNot t ox oy
  | .eql => kint2 (binA P .eql t ox oy) fEql
  | .neq => kint2 (binA P .neq t ox oy) fNeq
  | .lss => kint2 (binA P .lss t ox oy) fLss
  | .leq => kint2 (binA P .leq t ox oy) fLeq
  | .gtr => kint2 (binA P .gtr t ox oy) fGtr
  | .geq => kint2 (binA P .geq t ox oy) fGeq

section
variable {P : Program} (t : TypeId) (ox oy : Operand)
theorem binA_ints (op : BinOp) (k k' : IntKind) (a b : Int) : binA P op t ox oy (.int k a) (.int k' b) = plainOf P (do eqGuard op t ox oy (.int k a) (.int k' b); binOp op t (.int k a) (.int k' b)) := by
  have h : fastEq P op t (.int k a) (.int k' b) = none := by cases op <;> rfl
  show (match fastEq P op t (.int k a) (.int k' b) with
    | some v => some v
    | none => plainOf P (do eqGuard op t ox oy (.int k a) (.int k' b); binOp op t (.int k a) (.int k' b))) = _
  rw [h]
theorem binA_bits {op : BinOp} (k : IntKind) (a b : Int) {r : BitVec k.bits} (h1 : eqGuard op t ox oy (.int k a) (.int k b) = pure ())
    (h2 : binOp op t (.int k a) (.int k b) = pure (.int k (k.wrap r.toNat))) : binA P op t ox oy (.int k a) (.int k b) = some (.int k (k.wrap (r.toNat : Int))) := by
  rw [binA_ints]
  exact plainOf_int (by rw [h1, h2]; rfl)

theorem lim_le (k : IntKind) : lim k ≤ 2 ^ k.bits := by cases k <;> decide
theorem ofInt_toNat {k : IntKind} {m : Nat} (h : m < lim k) : (BitVec.ofInt k.bits (m : Int)).toNat = m := by
  have := lim_le k
  rw [show BitVec.ofInt k.bits (m : Int) = BitVec.ofNat k.bits m by simp, BitVec.toNat_ofNat, Nat.mod_eq_of_lt (by omega)]

theorem fBit_eq {g : Nat → Nat → Nat} {k : IntKind} {m n : Nat} {sl : Option Value} {r : Nat} (h : sl = some (.int k (k.wrap (r : Int)))) (hr : m < lim k → n < lim k → r = g m n) : fBit g k m n sl = sl := by
  unfold fBit
  rw [PT.brec, PT.brec]
  split
  · rename_i h1
    split
    · rename_i h2
      rw [forceN_eq]
      apply fit_eq
      rw [h, hr (Nat.le_of_ble_eq_true h1) (Nat.le_of_ble_eq_true h2)]
    · rfl
  · rfl

theorem kbin_and (x y : Value) : kint2 (binA P .and t ox oy) (fBit Nat.land) x y = binA P .and t ox oy x y :=
  kint2_eq (fun k m n => fBit_eq (r := (BitVec.ofInt k.bits (m : Int) &&& BitVec.ofInt k.bits (n : Int)).toNat) (binA_bits t ox oy k m n (by rfl) (by
    simp only [binOp, Op.intBits]; simp)) (fun h1 h2 => by rw [BitVec.toNat_and, ofInt_toNat h1, ofInt_toNat h2]; rfl)) x y
theorem kbin_or (x y : Value) : kint2 (binA P .or t ox oy) (fBit Nat.lor) x y = binA P .or t ox oy x y :=
  kint2_eq (fun k m n => fBit_eq (r := (BitVec.ofInt k.bits (m : Int) ||| BitVec.ofInt k.bits (n : Int)).toNat) (binA_bits t ox oy k m n (by rfl) (by
    simp only [binOp, Op.intBits]; simp)) (fun h1 h2 => by rw [BitVec.toNat_or, ofInt_toNat h1, ofInt_toNat h2]; rfl)) x y
theorem kbin_xor (x y : Value) : kint2 (binA P .xor t ox oy) (fBit Nat.xor) x y = binA P .xor t ox oy x y :=
  kint2_eq (fun k m n => fBit_eq (r := (BitVec.ofInt k.bits (m : Int) ^^^ BitVec.ofInt k.bits (n : Int)).toNat) (binA_bits t ox oy k m n (by rfl) (by
    simp only [binOp, Op.intBits]; simp)) (fun h1 h2 => by rw [BitVec.toNat_xor, ofInt_toNat h1, ofInt_toNat h2]; rfl)) x y

theorem binA_shl (k k' : IntKind) (m n : Nat) : binA P .shl t ox oy (.int k m) (.int k' n) = some (.int k (k.wrap ((m : Int) * 2 ^ min n k.bits))) := by
  have : ¬ ((n : Int) < 0) := by omega
  rw [binA_ints]
  apply plainOf_int
  show Op.shift .shl k m k' n = _
  simp only [Op.shift, this, if_false]
  simp
theorem binA_shr (k k' : IntKind) (m n : Nat) : binA P .shr t ox oy (.int k m) (.int k' n) = some (.int k ((m : Int).fdiv (2 ^ min n k.bits))) := by
  have : ¬ ((n : Int) < 0) := by omega
  rw [binA_ints]
  apply plainOf_int
  show Op.shift .shr k m k' n = _
  simp only [Op.shift, this, if_false]
  simp

theorem kint2s_eq {slow : Value → Value → Option Value} {f : IntKind → Nat → Nat → Option Value → Option Value}
    (h : ∀ k k' (m n : Nat), f k m n (slow (.int k m) (.int k' n)) = slow (.int k m) (.int k' n)) (x y : Value) : kint2s slow f x y = slow x y := by
  unfold kint2s
  cases hx : toIV x with
  | other => rfl
  | nat k m =>
    cases hy : toIV y with
    | other => rfl
    | nat k' n =>
      rw [toIV_nat hx, toIV_nat hy]
      exact h k k' m n

theorem kbin_shl (x y : Value) : kint2s (binA P .shl t ox oy) fShl x y = binA P .shl t ox oy x y :=
  kint2s_eq (fun k k' m n => by
    unfold fShl
    rw [PT.brec]
    split
    · rename_i hb
      have hb' := Nat.le_of_ble_eq_true hb
      rw [nb_eq] at hb'
      rw [forceN_eq]
      apply fit_eq
      rw [binA_shl, Nat.min_eq_left hb']
      congr 3
      show _ = ((m <<< n : Nat) : Int)
      rw [Nat.shiftLeft_eq]; simp
    · rfl) x y
theorem kbin_shr (x y : Value) : kint2s (binA P .shr t ox oy) fShr x y = binA P .shr t ox oy x y :=
  kint2s_eq (fun k k' m n => by
    unfold fShr
    rw [PT.brec]
    split
    · rename_i hb
      have hb' := Nat.le_of_ble_eq_true hb
      rw [nb_eq] at hb'
      rw [forceN_eq, binA_shr, Nat.min_eq_left hb']
      congr 2
      show ((m >>> n : Nat) : Int) = _
      rw [Nat.shiftRight_eq_div_pow, Int.fdiv_eq_ediv_of_nonneg _ (by exact_mod_cast Nat.zero_le (2 ^ n))]
      simp
    · rfl) x y

theorem beq_dec (m n : Nat) : Nat.beq m n = decide ((m : Int) = n) := by
  by_cases h : m = n
  · subst h; simp
  · have h1 : Nat.beq m n = false := Bool.eq_false_iff.2 fun e => h (Nat.eq_of_beq_eq_true e)
    rw [h1]; symm; simp only [decide_eq_false_iff_not]; omega
theorem ble_dec (m n : Nat) : Nat.ble m n = decide ((m : Int) ≤ n) := by
  by_cases h : m ≤ n
  · rw [Nat.ble_eq_true_of_le h]; symm; simp only [decide_eq_true_eq]; omega
  · have h1 : Nat.ble m n = false := Bool.eq_false_iff.2 fun e => h (Nat.le_of_ble_eq_true e)
    rw [h1]; symm; simp only [decide_eq_false_iff_not]; omega
theorem kbin_add (x y : Value) : kint2 (binA P .add t ox oy) fAdd x y = binA P .add t ox oy x y := by
  refine kint2_eq ?_ x y
  exact (fun k m n => by unfold fAdd; rw [forceN_eq]; exact fit_eq (by rw [binA_add]; simp))
theorem kbin_sub (x y : Value) : kint2 (binA P .sub t ox oy) fSub x y = binA P .sub t ox oy x y := by
  refine kint2_eq ?_ x y
  exact (fun k m n => by
    unfold fSub; rw [PT.brec]
    split
    · rename_i hb
      rw [forceN_eq]
      exact fit_eq (by rw [binA_sub, show ((Nat.sub m n : Nat) : Int) = (m : Int) - n from Int.ofNat_sub (Nat.le_of_ble_eq_true hb)])
    · rfl)
theorem kbin_mul (x y : Value) : kint2 (binA P .mul t ox oy) fMul x y = binA P .mul t ox oy x y := by
  refine kint2_eq ?_ x y
  exact (fun k m n => by unfold fMul; rw [forceN_eq]; exact fit_eq (by rw [binA_mul]; simp))
theorem kbin_quo (x y : Value) : kint2 (binA P .quo t ox oy) fQuo x y = binA P .quo t ox oy x y := by
  refine kint2_eq ?_ x y
  exact (fun k m n => by
    unfold fQuo; rw [PT.brec]
    split
    · rfl
    · rename_i hb
      have hn : (n : Int) ≠ 0 := by
        intro e; apply hb; have : n = 0 := by omega
        subst this; rfl
      rw [forceN_eq]
      exact fit_eq (by rw [binA_quo _ _ _ _ _ _ hn]; rfl))
theorem kbin_rem (x y : Value) : kint2 (binA P .rem t ox oy) fRem x y = binA P .rem t ox oy x y := by
  refine kint2_eq ?_ x y
  exact (fun k m n => by
    unfold fRem; rw [PT.brec]
    split
    · rfl
    · rename_i hb
      have hn : (n : Int) ≠ 0 := by
        intro e; apply hb; have : n = 0 := by omega
        subst this; rfl
      rw [forceN_eq, binA_rem _ _ _ _ _ _ hn]; rfl)
theorem kbin_eql (x y : Value) : kint2 (binA P .eql t ox oy) fEql x y = binA P .eql t ox oy x y := by
  refine kint2_eq ?_ x y
  exact fun k m n => by rw [binA_eql]; unfold fEql; rw [beq_dec]
theorem kbin_neq (x y : Value) : kint2 (binA P .neq t ox oy) fNeq x y = binA P .neq t ox oy x y := by
  refine kint2_eq ?_ x y
  exact fun k m n => by rw [binA_neq]; unfold fNeq; rw [beq_dec]; simp
theorem kbin_lss (x y : Value) : kint2 (binA P .lss t ox oy) fLss x y = binA P .lss t ox oy x y := by
  refine kint2_eq ?_ x y
  exact fun k m n => by rw [binA_lss]; unfold fLss; rw [ble_dec]; simp; omega
theorem kbin_leq (x y : Value) : kint2 (binA P .leq t ox oy) fLeq x y = binA P .leq t ox oy x y := by
  refine kint2_eq ?_ x y
  exact fun k m n => by rw [binA_leq]; unfold fLeq; rw [ble_dec]
theorem kbin_gtr (x y : Value) : kint2 (binA P .gtr t ox oy) fGtr x y = binA P .gtr t ox oy x y := by
  refine kint2_eq ?_ x y
  exact fun k m n => by rw [binA_gtr]; unfold fGtr; rw [ble_dec]; simp; omega
theorem kbin_geq (x y : Value) : kint2 (binA P .geq t ox oy) fGeq x y = binA P .geq t ox oy x y := by
  refine kint2_eq ?_ x y
  exact fun k m n => by rw [binA_geq]; unfold fGeq; rw [ble_dec]

theorem kbin_eq (op : BinOp) (x y : Value) : kbin P op t ox oy x y = binA P op t ox oy x y := by
  cases op
  case add => exact kbin_add t ox oy x y
  case sub => exact kbin_sub t ox oy x y
  case mul => exact kbin_mul t ox oy x y
  case quo => exact kbin_quo t ox oy x y
  case rem => exact kbin_rem t ox oy x y
  case and => exact kbin_and t ox oy x y
  case or => exact kbin_or t ox oy x y
  case xor => exact kbin_xor t ox oy x y
  case shl => exact kbin_shl t ox oy x y
  case shr => exact kbin_shr t ox oy x y
  case andNot => rfl
  case eql => exact kbin_eql t ox oy x y
  case neq => exact kbin_neq t ox oy x y
  case lss => exact kbin_lss t ox oy x y
  case leq => exact kbin_leq t ox oy x y
  case gtr => exact kbin_gtr t ox oy x y
  case geq => exact kbin_geq t ox oy x y
end

end
end Go.AE
