/-
  AE, a row whose cells are all alike is copied whole.
-/
import Derived.Test.YtimngnabpolgkaaGreatAeM3
namespace Go.AE
noncomputable section
set_option linter.unusedSimpArgs false
set_option linter.unusedVariables false
variable {P : Program} {ρ : Ren} {h : AH} {w : World}

theorem Rel.weaken {o o' : AObj} {A : Array Obj} (hR : Rel ρ (h.push o) A) (hO : ∀ i b, ORel ρ i o b → ORel ρ i o' b) : Rel ρ (h.push o') A where
  lt := fun β i hi => hR.lt β i hi
  obj := fun β p hp => by
    rw [AH.get_push] at hp
    split at hp
    · rename_i e
      cases hp
      obtain ⟨i, b, h1, h2, h3⟩ := hR.obj β o (by rw [AH.get_push, if_pos e])
      exact ⟨i, b, h1, h2, hO i b h3⟩
    · rename_i e
      exact hR.obj β p (by rw [AH.get_push, if_neg e]; exact hp)
  inj := fun β γ p q i j hp hq hi hj e => by
    have f : ∀ {β : Nat} {p : AObj}, (h.push o').get β = some p → ∃ p', (h.push o).get β = some p' := by
      intro β p hp
      rw [AH.get_push] at hp ⊢
      split at hp
      · rename_i e; exact ⟨o, by rw [if_pos e]⟩
      · rename_i e; exact ⟨p, by rw [if_neg e]; exact hp⟩
    obtain ⟨p', hp'⟩ := f hp
    obtain ⟨q', hq'⟩ := f hq
    exact hR.inj β γ p' q' i j hp' hq' hi hj e

/-- The value of which a row of many cells is made. -/
def uniformSrc (x : Value) (n size : Nat) (h : AH) : Option Value :=
  match x with
  | .slice (some a) _ _ =>
    match h.get a.block with
    | some (.cells .leaf m _ _ _ _ _ d) => if a.spot.isNone ∧ a.off + n * size ≤ m then some d else none
    | _ => none
  | _ => none

/-- A base of no length, in a row that is not open. -/
def baseOk (base : Option Addr) (h : AH) : Bool :=
  match base with
  | none => true
  | some a => match h.get a.block with
    | some (.cells _ m _ _ _ false _ _) => a.spot.isNone && decide (a.off ≤ m)
    | _ => false

def appendU (P : Program) (argTypes : Array TypeId) (args : Array Value) (h : AH) : Option (Value × AH) :=
  match (argTypes[0]? : Option TypeId), (args[0]? : Option Value), (args[1]? : Option Value) with
  | some sT, some (.slice base 0 cap), some x =>
    match P.underlying sT, notMake P argTypes with
    | some (.slice elem), true =>
      match zeroA P elem, lenA x with
      | some (inf, z), some n =>
        if baseOk base h = true ∧ 2 ≤ n * inf.size ∧ ¬ (0 + n ≤ cap) ∧ (2 * (0 + n) + 768) * inf.bytes ≤ 2 ^ 47 ∧ 0 + n ≤ 2 ^ 47 ∧ z.cells.size = inf.size then
          match uniformSrc x n inf.size h with
          | some d => if d.oneCell' then some (.slice (some ⟨h.next, 0, none⟩) (0 + n) (0 + n), h.push (.cells .leaf (n * inf.size) elem (0, 0) inf.size true false d)) else none
          | none => none
        else none
      | _, _ => none
    | _, _ => none
  | _, _, _ => none

theorem appendU_spec {argTypes : Array TypeId} {args : Array Value} {v : Value} {h' : AH} (hs : appendU P argTypes args h = some (v, h')) :
    ∃ N d elem sz off, appendA P argTypes args h = some (v, h.push (openRow (rowA .leaf d off N) elem sz)) ∧ h' = h.push (.cells .leaf N elem (0, 0) sz true false d) := by
  unfold appendU at hs
  split at hs
  case h_2 => cases hs
  rename_i sT base cap x h1 h2 h3
  split at hs
  case h_2 => cases hs
  rename_i elem h4 h5
  split at hs
  case h_2 => cases hs
  rename_i inf z n h6 h7
  split at hs
  case isFalse => cases hs
  rename_i hc
  split at hs
  case h_2 => cases hs
  rename_i d h8
  split at hs
  case isFalse => cases hs
  rename_i h9
  cases hs
  unfold uniformSrc at h8
  split at h8
  case h_2 => cases h8
  rename_i a k c'
  split at h8
  case h_2 => cases h8
  rename_i m e fz esz op ro d' hg
  split at h8
  case isFalse => cases h8
  rename_i ha
  cases h8
  refine ⟨n * inf.size, d, elem, inf.size, a.off, ?_, rfl⟩
  have hsrc : srcA (.slice (some a) k c') n inf.size h = some (rowA .leaf d a.off (n * inf.size)) := by
    simp only [srcA, hg]
    rw [if_pos ha]
  have hlen : (rowA (.leaf : PT Value) d a.off (n * inf.size)).length = n * inf.size := length_rowA _ _ _ _
  have hall : (rowA (.leaf : PT Value) d a.off (n * inf.size)).all (·.oneCell') = true := by
    rw [List.all_eq_true]
    intro v hv
    obtain ⟨j, hj, rfl⟩ := List.mem_iff_getElem.1 hv
    rw [length_rowA] at hj
    have := getElem?_rowA (.leaf : PT Value) d _ a.off j hj
    rw [List.getElem?_eq_getElem (by rw [length_rowA]; exact hj)] at this
    simp only [Option.some.injEq, PT.get_leaf, Option.getD_none] at this
    rw [this]; exact h9
  simp only [appendA, h1, h2, h3, h4, h5, h6, h7, hsrc]
  rw [if_neg hc.2.2.1, if_pos ⟨hc.2.2.2.1, hc.2.2.2.2.1, hc.2.2.2.2.2, hlen⟩]
  cases base with
  | none => simp only; rw [if_pos trivial]
  | some a0 =>
    have hb := hc.1
    unfold baseOk at hb
    simp only at hb ⊢
    split at hb
    case h_2 => cases hb
    rename_i c0 m0 e0 fz0 esz0 ro0 d0 hg0
    simp only [Bool.and_eq_true, decide_eq_true_eq] at hb
    rw [hg0]
    simp only [Nat.zero_mul, Nat.add_zero]
    rw [if_pos ⟨hb.1, hb.2, hall⟩]
    simp only [Bool.false_eq_true, if_false, rowA, List.nil_append]

/-- A row that grows: what is there stays in its tree. -/
def grown (c : PT Value) (k : Nat) (vs : List Value) (elem : TypeId) (sz : Nat) (d : Value) : AObj := .cells (putRow c k vs) (k + vs.length) elem (0, 0) sz true false d

def appendV (P : Program) (argTypes : Array TypeId) (args : Array Value) (h : AH) : Option (Value × AH) :=
  match (argTypes[0]? : Option TypeId), (args[0]? : Option Value), (args[1]? : Option Value) with
  | some sT, some (.slice (some a) len cap), some x =>
    match P.underlying sT, notMake P argTypes with
    | some (.slice elem), true =>
      match zeroA P elem, lenA x with
      | some (inf, z), some n =>
        if a.off = 0 ∧ 2 ≤ n * inf.size ∧ ¬ (len + n ≤ cap) ∧ (2 * (len + n) + 768) * inf.bytes ≤ 2 ^ 47 ∧ len + n ≤ 2 ^ 47 ∧ z.cells.size = inf.size then
          match srcA x n inf.size h with
          | some vs =>
            match h.get a.block with
            | some (.cells c m e _ esz op ro d) =>
              if a.spot.isNone ∧ a.off + len * inf.size ≤ m ∧ vs.all (·.oneCell') ∧ vs.length = n * inf.size then
                if op then
                  if ro = false ∧ esz = inf.size ∧ e = elem then
                    some (.slice (some ⟨h.next, 0, none⟩) (len + n) (len + n), (h.kill a.block).push (grown c (len * inf.size) vs elem inf.size d))
                  else none
                else some (.slice (some ⟨h.next, 0, none⟩) (len + n) (len + n), h.push (grown c (len * inf.size) vs elem inf.size d))
              else none
            | _ => none
          | none => none
        else none
      | _, _ => none
    | _, _ => none
  | _, _, _ => none

theorem grown_orel {c : PT Value} {d : Value} {off k : Nat} {vs : List Value} {elem sz : Nat} {i : Info} {b : Obj} (h0 : off = 0) (hO : ORel ρ i (openRow (rowA c d off k ++ vs) elem sz) b) : ORel ρ i (grown c k vs elem sz d) b := by
  subst h0
  obtain ⟨C, e1, e2, e3, e4, e5, e6, e7, e8, e9, hv⟩ := hO
  simp only [List.length_append, length_rowA] at e2 e7 e8 hv
  refine ⟨C, e1, e2, e3, e4, e5, e6, e7, e8, e9, fun j hj => ?_⟩
  have := hv j hj
  rw [get_ofRow, List.length_append, length_rowA, if_pos hj] at this
  simp only [Option.getD_some] at this
  rw [get_putRow]
  by_cases hk : k ≤ j
  · rw [if_pos ⟨hk, hj⟩]
    have e : (rowA c d 0 k ++ vs).getD j undef = vs.getD (j - k) undef := by
      rw [List.getD_eq_getElem?_getD, List.getElem?_append_right (by rw [length_rowA]; exact hk), length_rowA, List.getD_eq_getElem?_getD]
    rw [e] at this
    simpa using this
  · rw [if_neg (fun h => hk h.1)]
    have e : (rowA c d 0 k ++ vs).getD j undef = (c.get j).getD d := by
      rw [List.getD_eq_getElem?_getD, List.getElem?_append_left (by rw [length_rowA]; omega), getElem?_rowA _ _ _ _ _ (by omega)]
      simp
    rw [e] at this
    exact this

theorem appendV_spec {argTypes : Array TypeId} {args : Array Value} {v : Value} {h' : AH} (hs : appendV P argTypes args h = some (v, h')) :
    ∃ (hh : AH) (o o' : AObj), appendA P argTypes args h = some (v, hh.push o) ∧ h' = hh.push o' ∧ ∀ (ρ : Ren) (i : Info) (b : Obj), ORel ρ i o b → ORel ρ i o' b := by
  unfold appendV at hs
  split at hs
  case h_2 => cases hs
  rename_i sT a len cap x h1 h2 h3
  split at hs
  case h_2 => cases hs
  rename_i elem h4 h5
  split at hs
  case h_2 => cases hs
  rename_i inf z n h6 h7
  split at hs
  case isFalse => cases hs
  rename_i hc
  split at hs
  case h_2 => cases hs
  rename_i vs h8
  split at hs
  case h_2 => cases hs
  rename_i c m e fz esz op ro d hg
  split at hs
  case isFalse => cases hs
  rename_i h9
  have base : appendA P argTypes args h = (if op = true then
      if ro = false ∧ esz = inf.size ∧ e = elem then some (.slice (some ⟨h.next, 0, none⟩) (len + n) (len + n), (h.kill a.block).push (openRow (rowA c d a.off (len * inf.size) ++ vs) elem inf.size)) else none
      else some (.slice (some ⟨h.next, 0, none⟩) (len + n) (len + n), h.push (openRow (rowA c d a.off (len * inf.size) ++ vs) elem inf.size))) := by
    simp only [appendA, h1, h2, h3, h4, h5, h6, h7, h8]
    rw [if_neg hc.2.2.1, if_pos ⟨hc.2.2.2.1, hc.2.2.2.2.1, hc.2.2.2.2.2, h9.2.2.2⟩]
    simp only [hg]
    rw [if_pos ⟨h9.1, h9.2.1, h9.2.2.1⟩]
  split at hs
  · rename_i hop
    split at hs
    case isFalse => cases hs
    rename_i hr
    cases hs
    exact ⟨_, _, _, by rw [base, if_pos hop, if_pos hr], rfl, fun ρ i b hO => grown_orel hc.1 hO⟩
  · rename_i hop
    cases hs
    exact ⟨_, _, _, by rw [base, if_neg hop], rfl, fun ρ i b hO => grown_orel hc.1 hO⟩

def appendA2 (P : Program) (argTypes : Array TypeId) (args : Array Value) (h : AH) : Option (Value × AH) :=
  match appendU P argTypes args h with
  | some r => some r
  | none => match appendV P argTypes args h with
    | some r => some r
    | none => appendA P argTypes args h

theorem uniform_orel {N : Nat} {d : Value} {elem sz off : Nat} {i : Info} {b : Obj} (hO : ORel ρ i (openRow (rowA .leaf d off N) elem sz) b) : ORel ρ i (.cells .leaf N elem (0, 0) sz true false d) b := by
  obtain ⟨C, e1, e2, e3, e4, e5, e6, e7, e8, e9, hv⟩ := hO
  simp only [length_rowA] at e2 e7 e8 hv
  refine ⟨C, e1, e2, e3, e4, e5, e6, e7, e8, e9, fun j hj => ?_⟩
  have := hv j hj
  rw [get_ofRow, length_rowA, if_pos hj] at this
  have hr : (rowA (.leaf : PT Value) d off N).getD j undef = d := by
    rw [List.getD_eq_getElem?_getD, getElem?_rowA _ _ _ _ _ hj]
    simp
  simp only [Option.getD_some, hr] at this
  simpa using this

theorem appendA2_sim {argTypes : Array TypeId} {ty : TypeId} {args args' : Array Value} {v : Value} {h' : AH} (hR : Rel ρ h w.heap) (ha : VS ρ args args') (hs : appendA2 P argTypes args h = some (v, h')) :
    Makes P ρ w (Builtin.append_ argTypes ty args') v h' := by
  unfold appendA2 at hs
  split at hs
  · rename_i r hr
    cases hs
    obtain ⟨N, d, elem, sz, off, h1, rfl⟩ := appendU_spec hr
    obtain ⟨ρ', v', w', e1, e2, e3, e4⟩ := appendA_sim (P := P) (ty := ty) hR ha h1
    exact ⟨ρ', v', w', e1, e2, e3.weaken fun i b hO => uniform_orel hO, e4⟩
  · split at hs
    · rename_i r hr
      cases hs
      obtain ⟨hh, o, o', h1, rfl, hO⟩ := appendV_spec hr
      obtain ⟨ρ', v', w', e1, e2, e3, e4⟩ := appendA_sim (P := P) (ty := ty) hR ha h1
      exact ⟨ρ', v', w', e1, e2, e3.weaken fun i b h => hO ρ' i b h, e4⟩
    · exact appendA_sim hR ha hs

/-- One cell is no row of many. -/
theorem appendA2_one {argTypes : Array TypeId} {args : Array Value} {sT elem : TypeId} (hsT : argTypes[0]? = some sT) (hu : P.underlying sT = some (.slice elem)) {inf : TypeInfo} {z : Value} (hz : zeroA P elem = some (inf, z)) (h1 : inf.size = 1)
    (hn : ∀ x n, args[1]? = some x → lenA x = some n → n ≤ 1) : appendA2 P argTypes args h = appendA P argTypes args h := by
  have : appendU P argTypes args h = none := by
    unfold appendU
    split
    · rename_i sT' base cap x a1 a2 a3
      rw [hsT] at a1; cases a1
      split
      · rename_i elem' b1 b2
        rw [hu] at b1; cases b1
        split
        · rename_i inf' z' n c1 c2
          rw [hz] at c1; cases c1
          have := hn x n a3 c2
          rw [if_neg (by rw [h1]; rintro ⟨_, h2, _⟩; omega)]
        · rfl
      · rfl
    · rfl
  have hV : appendV P argTypes args h = none := by
    unfold appendV
    split
    · rename_i sT' a len cap x a1 a2 a3
      rw [hsT] at a1; cases a1
      split
      · rename_i elem' b1 b2
        rw [hu] at b1; cases b1
        split
        · rename_i inf' z' n c1 c2
          rw [hz] at c1; cases c1
          have := hn x n a3 c2
          rw [if_neg (by rw [h1]; rintro ⟨_, h2, _⟩; omega)]
        · rfl
      · rfl
    · rfl
  simp only [appendA2, this, hV]

end
end Go.AE
