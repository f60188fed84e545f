/-
  AE, part 3: rows of cells in an abstract block and in a real one; load, store, alloc.
-/
import Derived.Test.YtimngnabpolgkaaGreatAeA2
import Derived.Laws.Cells
import Derived.Laws.IdiomCopy
namespace Go.AE
noncomputable section
set_option linter.unusedSimpArgs false
set_option linter.unusedVariables false

/-! ### Rows of a tree -/
def rowA (c : PT Value) (d : Value) (off : Nat) : Nat → List Value
  | 0 => []
  | n + 1 => (c.get off).getD d :: rowA c d (off + 1) n

def putRow (c : PT Value) (off : Nat) : List Value → PT Value
  | [] => c
  | v :: r => PT.pforce (c.set off (some v)) fun c' => putRow c' (off + 1) r

theorem putRow_cons (c : PT Value) (off : Nat) (v : Value) (r : List Value) : putRow c off (v :: r) = putRow (c.set off (some v)) (off + 1) r := PT.pforce_eq _ _

def ofRow (l : List Value) : PT Value := putRow .leaf 0 l

@[simp] theorem length_rowA (c : PT Value) (d : Value) : ∀ (n off : Nat), (rowA c d off n).length = n
  | 0, _ => rfl
  | n + 1, off => by simp [rowA, length_rowA c d n]

theorem getElem?_rowA (c : PT Value) (d : Value) : ∀ (n off j : Nat), j < n → (rowA c d off n)[j]? = some ((c.get (off + j)).getD d)
  | 0, _, _, h => absurd h (Nat.not_lt_zero _)
  | n + 1, off, 0, _ => by simp [rowA]
  | n + 1, off, j + 1, h => by
    simp only [rowA, List.getElem?_cons_succ]
    rw [getElem?_rowA c d n (off + 1) j (by omega), show off + 1 + j = off + (j + 1) by omega]

theorem get_putRow : ∀ (vs : List Value) (c : PT Value) (off j : Nat),
    (putRow c off vs).get j = if off ≤ j ∧ j < off + vs.length then some (vs.getD (j - off) undef) else c.get j
  | [], c, off, j => by
    have : ¬ (off ≤ j ∧ j < off + ([] : List Value).length) := by simp
    rw [if_neg this]; rfl
  | v :: r, c, off, j => by
    simp only [putRow_cons, List.length_cons]
    rw [get_putRow r]
    by_cases h : off ≤ j ∧ j < off + (r.length + 1)
    · rw [if_pos h]
      by_cases e : j = off
      · subst e
        rw [if_neg (by omega), PT.get_set_same]; simp
      · rw [if_pos (by omega)]
        have h1 : j - off = (j - (off + 1)) + 1 := by omega
        rw [h1]; simp
    · rw [if_neg h, if_neg (by omega), PT.get_set_ne _ _ _ _ (by omega)]

theorem get_ofRow (l : List Value) (j : Nat) : (ofRow l).get j = if j < l.length then some (l.getD j undef) else none := by
  unfold ofRow; rw [get_putRow]; simp

/-! ### Real rows -/
section
variable {P : Program}

theorem run_loadCells_row (w : World) (a : Addr) (C : Array Value) (elem : TypeId) (fz : Nat × Nat) (n : Nat) (hb : w.heap[a.block]? = some (.cells C elem fz)) (hs : a.spot = none)
    (hn : a.off + n ≤ C.size) : (loadCells a n).run P w = .ok ((List.range n).map fun j => C.getD (a.off + j) undef).toArray w := by
  refine run_loadCells w a n _ fun j hj => ?_
  obtain ⟨b, o, s⟩ := a
  simp only at hb hs hn ⊢
  subst hs
  have hj' : o + j < C.size := by omega
  rw [Addr.add_lit]
  simp [World.cell?, hb, hj', Array.getD]

theorem modify_eq (A : Array Obj) (b : Nat) (f : Obj → Obj) (o : Obj) (h : A[b]? = some o) : A.modify b f = A.setIfInBounds b (f o) := by
  apply Array.ext_getElem?
  intro i
  rw [Array.getElem?_modify, Array.getElem?_setIfInBounds]
  by_cases e : b = i
  · subst e
    obtain ⟨h1, h2⟩ := Array.getElem?_eq_some_iff.1 h
    simp [h1, h2]
  · simp [e]

theorem set_same (A : Array Obj) (b : Nat) (o : Obj) (h : A[b]? = some o) : A.setIfInBounds b o = A := by
  apply Array.ext_getElem?
  intro i
  rw [Array.getElem?_setIfInBounds]
  by_cases e : b = i
  · subst e
    obtain ⟨h1, h2⟩ := Array.getElem?_eq_some_iff.1 h
    simp [h1, h2]
  · simp [e]

theorem run_store_row (w : World) (b o : Nat) (C : Array Value) (elem : TypeId) (fz : Nat × Nat) (v : Value) (hb : w.heap[b]? = some (.cells C elem fz)) (hv : v.oneCell' = true)
    (hn : o < C.size) (hf : ¬ (fz.1 ≤ o ∧ o < fz.2)) : (store ⟨b, o, none⟩ v).run P w = .ok () { w with heap := w.heap.setIfInBounds b (.cells (C.setIfInBounds o v) elem fz) } := by
  rw [run_store P w _ v _ hv]
  have h1 : w.cell? ⟨b, o, none⟩ = some (C.getD o undef) := by simp [World.cell?, hb, hn, Array.getD]
  have h2 : w.frozen? ⟨b, o, none⟩ = false := by
    simp only [World.frozen?, hb]
    simp only [Bool.and_eq_false_iff, decide_eq_false_iff_not]
    omega
  rw [h1]
  simp only [h2, World.setCell, modify_eq _ _ _ _ hb]
  simp

theorem run_storeCells_row (b : Nat) (elem : TypeId) (fz : Nat × Nat) : ∀ (vs : List Value) (o i : Nat) (C : Array Value) (w : World), w.heap[b]? = some (.cells C elem fz) → (∀ v ∈ vs, v.oneCell' = true) →
    o + i + vs.length ≤ C.size → (∀ j, j < vs.length → ¬ (fz.1 ≤ o + i + j ∧ o + i + j < fz.2)) →
    ∃ C' : Array Value, C'.size = C.size ∧ (∀ j, C'.getD j undef = if o + i ≤ j ∧ j < o + i + vs.length then vs.getD (j - (o + i)) undef else C.getD j undef) ∧
      (storeCells ⟨b, o, none⟩ vs i).run P w = .ok () { w with heap := w.heap.setIfInBounds b (.cells C' elem fz) }
  | [], o, i, C, w, hb, _, _, _ => by
    refine ⟨C, rfl, fun j => ?_, ?_⟩
    · rw [if_neg (by simp)]
    · rw [set_same _ _ _ hb]; rfl
  | v :: r, o, i, C, w, hb, hv, hn, hf => by
    simp only [List.length_cons] at hn hf
    have hst := run_store_row (P := P) w b (o + i) C elem fz v hb (hv v (by simp)) (by omega) (by have := hf 0 (by omega); simpa using this)
    have hbb := (Array.getElem?_eq_some_iff.1 hb).1
    obtain ⟨C', hs, hg, hr⟩ := run_storeCells_row b elem fz r o (i + 1) (C.setIfInBounds (o + i) v) { w with heap := w.heap.setIfInBounds b (.cells (C.setIfInBounds (o + i) v) elem fz) }
      (by simp [hbb]) (fun x hx => hv x (by simp [hx])) (by simp; omega) (fun j hj => by have := hf (j + 1) (by omega); rwa [show o + i + (j + 1) = o + (i + 1) + j by omega] at this)
    refine ⟨C', by simpa using hs, fun j => ?_, ?_⟩
    · rw [hg j]
      by_cases h : o + i ≤ j ∧ j < o + i + (r.length + 1)
      · rw [List.length_cons, if_pos h]
        by_cases e : j = o + i
        · subst e
          rw [if_neg (by omega)]
          have : o + i < C.size := by omega
          simp [Array.getD, this]
        · rw [if_pos (by omega)]
          have h1 : j - (o + i) = (j - (o + (i + 1))) + 1 := by omega
          rw [h1]; simp
      · rw [List.length_cons, if_neg h, if_neg (by omega)]
        have : o + i ≠ j := by omega
        simp only [Array.getD_eq_getD_getElem?, Array.getElem?_setIfInBounds_ne this]
    · simp only [storeCells, Sem.run_bind, Addr.add_lit, hst, Result.andThen_ok, hr]
      simp
end

/-! ### What a value's cells stand for -/
theorem V.cells {ρ : Ren} {v v' : Value} (h : V ρ v v') (hv : ∀ cs, v ≠ .tuple cs) : VS ρ v.cells v'.cells := by
  have one : ∀ {x y : Value}, V ρ x y → x.cells = #[x] → y.cells = #[y] → VS ρ x.cells y.cells := by
    intro x y h hx hy
    rw [hx, hy]
    refine ⟨rfl, fun j hj => ?_⟩
    have : j = 0 := by simpa using hj
    subst this; exact h
  cases h with
  | any v => exact absurd rfl (hv _)
  | tuple cs cs' h1 hc k => exact absurd rfl (hv _)
  | over => exact absurd rfl (hv _)
  | agg cs cs' hc k => exact ⟨hc, k⟩
  | bool b => exact one (.bool b) rfl rfl
  | int k n => exact one (.int k n) rfl rfl
  | float k n => exact one (.float k n) rfl rfl
  | string s => exact one (.string s) rfl rfl
  | nilPointer => exact one .nilPointer rfl rfl
  | pointer x a h => exact one (.pointer x a h) rfl rfl
  | nilSlice n c => exact one (.nilSlice n c) rfl rfl
  | slice x a n k c hn h => exact one (.slice x a n k c hn h) rfl rfl
  | nilMap => exact one .nilMap rfl rfl
  | map r r' i h hb => exact one (.map r r' i h hb) rfl rfl
  | func f f' as as' cs cs' hf ha hc k l => exact one (.func f f' as as' cs cs' hf ha hc k l) rfl rfl
  | nilFunc => exact one .nilFunc rfl rfl
  | iface t v v' h => exact one (.iface t v v' h) rfl rfl
  | nilIface => exact one .nilIface rfl rfl

theorem V.oneCell {ρ : Ren} {v v' : Value} (h : V ρ v v') (hv : v.oneCell' = true) : v'.oneCell' = true := by
  cases h <;> first | rfl | (simp [Value.oneCell'] at hv)

/-! ### Load -/
def isAggT (P : Program) (t : TypeId) : Option Bool :=
  match P.underlying t with
  | some (.struct _) | some (.array _ _) => some true
  | some _ => some false
  | none => none

theorem run_isAgg {P : Program} {t : TypeId} {b : Bool} (h : isAggT P t = some b) (w : World) : (isAgg t).run P w = .ok b w := by
  unfold isAggT at h
  unfold isAgg
  cases hu : P.underlying t with
  | none => rw [hu] at h; cases h
  | some d =>
    rw [hu] at h
    simp only [Sem.run_bind, run_underlying hu, Result.andThen_ok]
    cases d <;> simp at h <;> subst h <;> rfl

theorem run_info {P : Program} {t : TypeId} {i : TypeInfo} (h : P.info? t = some i) (w : World) : (typeInfo t).run P w = .ok i w := by
  simp [typeInfo, h]

theorem run_size {P : Program} {t : TypeId} {i : TypeInfo} (h : P.info? t = some i) (w : World) : (sizeOf t).run P w = .ok i.size w := by
  simp [sizeOf, run_info h]

def loadA (P : Program) (t : TypeId) (x : Addr) (h : AH) : Option Value :=
  match h.get x.block with
  | some (.cells c n _ _ _ _ _ d) =>
    if x.spot.isSome then none else
    match isAggT P t with
    | some true => match P.info? t with
      | some i => if x.off + i.size ≤ n then some (.agg (rowA c d x.off i.size).toArray) else none
      | none => none
    | some false => if x.off < n then some ((c.get x.off).getD d) else none
    | none => none
  | _ => none

theorem loadA_sim {P : Program} {ρ : Ren} {h : AH} {w : World} {t : TypeId} {x a : Addr} {v : Value} (hR : Rel ρ h w.heap) (hA : ARel ρ x a) (hl : loadA P t x h = some v) :
    ∃ v', (loadVar t a).run P w = .ok v' w ∧ V ρ v v' := by
  unfold loadA at hl
  split at hl
  · rename_i c n elem fz esz op ro d hg
    obtain ⟨i, b, hi, hb, C, rfl, e2, e3, e4, e5, e6, e7, e8, e9, hv⟩ := hR.obj _ _ hg
    obtain ⟨i', hi', ab, ao, asp⟩ := hA
    obtain rfl : i = i' := by rw [hi] at hi'; exact Option.some.inj hi'
    split at hl
    · cases hl
    rename_i hsp
    have hs : a.spot = none := by rw [asp]; simpa using hsp
    split at hl
    · rename_i hag
      split at hl
      · rename_i inf hinf
        split at hl
        · rename_i hle
          cases hl
          refine ⟨_, by
            simp only [loadVar, Sem.run_bind, run_isAgg hag, Result.andThen_ok, if_true, run_size hinf, Sem.run_ite]
            rw [run_loadCells_row w a C elem fz inf.size (by rw [ab]; exact hb) hs (by rw [ao]; omega)]
            rfl, ?_⟩
          refine .agg _ _ (by simp) fun j hj => ?_
          simp only [List.size_toArray, length_rowA] at hj
          have h1 : ((rowA c d x.off inf.size).toArray).getD j (.tuple #[]) = (c.get (x.off + j)).getD d := by
            simp [Array.getD_eq_getD_getElem?, getElem?_rowA _ _ _ _ _ hj]
          have h2 : (((List.range inf.size).map fun j => C.getD (a.off + j) undef).toArray).getD j (.tuple #[]) = C.getD (a.off + j) undef := by
            simp [Array.getD_eq_getD_getElem?, hj]
          rw [h1, h2]
          have := hv (x.off + j) (by omega)
          rwa [show i.s + (x.off + j) = a.off + j by omega] at this
        · cases hl
      · cases hl
    · rename_i hag
      split at hl
      · rename_i hle
        cases hl
        have hsz : a.off < C.size := by omega
        refine ⟨C.getD a.off undef, ?_, ?_⟩
        · simp only [loadVar, Sem.run_bind, run_isAgg hag, Result.andThen_ok, Sem.run_ite]
          obtain ⟨ab', ao', as'⟩ := a
          simp only at ab hs hsz
          subst hs ab
          have : w.cell? ⟨i.b, ao', none⟩ = some (C.getD ao' undef) := by simp [World.cell?, hb, hsz, Array.getD]
          simp [run_load, this]
        · have := hv x.off hle
          rwa [show i.s + x.off = a.off by omega] at this
      · cases hl
    · cases hl
  · cases hl

/-! ### New rows -/
theorem Rel.alloc {ρ : Ren} {h : AH} {w : Array Obj} (hR : Rel ρ h w) (o : AObj) (b : Obj) (i : Info) (hib : i.b = w.size)
    (hO : ORel (ρ.put h.next i) i o b) : Rel (ρ.put h.next i) (h.push o) (w.push b) where
  lt := fun β j hj => by
    simp only [Ren.put] at hj
    split at hj
    · cases hj; rename_i e; subst e; simp [hib]
    · have := hR.lt β j hj; simp; omega
  obj := fun β p hp => by
    rw [AH.get_push] at hp
    split at hp
    · rename_i e; subst e; cases hp
      exact ⟨i, b, by simp [Ren.put], by simp [hib], hO⟩
    · rename_i e
      obtain ⟨j, b', hj, hb', hO'⟩ := hR.obj β p hp
      have hlt := (hR.lt β j hj).1
      refine ⟨j, b', by simp [Ren.put, e, hj], ?_, hO'.mono ?_⟩
      · rw [Array.getElem?_push_lt hlt]; simpa using (Array.getElem?_eq_some_iff.1 hb').2
      · intro γ k hk
        simp only [Ren.put]
        split
        · rename_i e'; subst e'; exact absurd (hR.lt _ k hk).2 (Nat.lt_irrefl _)
        · exact hk
  inj := fun β γ o' p' k l hb hg hk hl e => by
    rw [AH.get_push] at hb hg
    simp only [Ren.put] at hk hl
    by_cases e1 : β = h.next
    · by_cases e2 : γ = h.next
      · rw [e1, e2]
      · simp only [e1, if_true] at hk; simp only [e2, if_false] at hl
        cases hk
        have := (hR.lt γ l hl).1
        omega
    · by_cases e2 : γ = h.next
      · simp only [e2, if_true] at hl; simp only [e1, if_false] at hk
        cases hl
        have := (hR.lt β k hk).1
        omega
      · simp only [e1, e2, if_false] at hb hg hk hl
        exact hR.inj β γ o' p' k l hb hg hk hl e

theorem Ren.le_put {ρ : Ren} {h : AH} {w : Array Obj} (hR : Rel ρ h w) (i : Info) : Ren.Le ρ (ρ.put h.next i) := fun γ k hk => by
  simp only [Ren.put]
  split
  · rename_i e'; subst e'; exact absurd (hR.lt _ k hk).2 (Nat.lt_irrefl _)
  · exact hk

theorem Step.alloc {ρ : Ren} {h : AH} {w : World} (hR : Rel ρ h w.heap) (b : Obj) (i : Info) (hib : i.b = w.heap.size) :
    Step ρ w (ρ.put h.next i) { w with heap := w.heap.push b } where
  le := Ren.le_put hR i
  old := fun β j hj hb => by
    simp only [Ren.put] at hj
    split at hj
    · cases hj; omega
    · exact ⟨β, j, hj, rfl, id⟩
  os := rfl
  tape := rfl
  output := rfl
  size := by simp
  frame := fun b' hb' _ => by simp [Array.getElem?_push_lt hb']

/-- The object of a new row. -/
def rowObj (cells : List Value) (elem : TypeId) (esz : Nat) (op : Bool) : AObj := .cells (ofRow cells) cells.length elem (0, 0) esz op false undef

def newInfo (b n N esz : Nat) (op : Bool) : Info := { b, s := 0, n, N, esz, op, ro := false }

theorem newRow_orel {ρ : Ren} {xs : List Value} {ys : Array Value} (hv : VS ρ xs.toArray ys) (elem : TypeId) (b esz : Nat) :
    ORel ρ (newInfo b xs.length xs.length esz false) (rowObj xs elem esz false) (.cells ys elem) := by
  obtain ⟨h1, h2⟩ := hv
  simp only [List.size_toArray] at h1 h2
  refine ⟨ys, rfl, rfl, rfl, rfl, rfl, h1.symm, by simp [newInfo], fun _ => ⟨rfl, rfl⟩, fun _ => rfl, fun j hj => ?_⟩
  have := h2 j hj
  rw [get_ofRow, if_pos hj]
  simpa [newInfo, Array.getD_eq_getD_getElem?, List.getD] using this

theorem newRow_sim {P : Program} {ρ : Ren} {h : AH} {w : World} {xs : List Value} {ys : Array Value} (hR : Rel ρ h w.heap) (hv : VS ρ xs.toArray ys) (elem : TypeId) (esz : Nat) :
    (newRow elem ys).run P w = .ok ⟨w.heap.size, 0, none⟩ { w with heap := w.heap.push (.cells ys elem) } ∧
      Step ρ w (ρ.put h.next (newInfo w.heap.size xs.length xs.length esz false)) { w with heap := w.heap.push (.cells ys elem) } ∧
      Rel (ρ.put h.next (newInfo w.heap.size xs.length xs.length esz false)) (h.push (rowObj xs elem esz false)) (w.heap.push (.cells ys elem)) ∧
      ARel (ρ.put h.next (newInfo w.heap.size xs.length xs.length esz false)) ⟨h.next, 0, none⟩ ⟨w.heap.size, 0, none⟩ := by
  refine ⟨by simp [newRow], Step.alloc hR _ _ rfl, hR.alloc _ _ _ rfl ?_, ⟨newInfo w.heap.size xs.length xs.length esz false, by simp [Ren.put], rfl, rfl, rfl⟩⟩
  exact newRow_orel (hv.mono (Ren.le_put hR _)) _ _ _

/-! ### Store -/
/-- Cells are written in a row. -/
def putCells (x : Addr) (vs : List Value) (h : AH) : Option AH :=
  match h.get x.block with
  | some (.cells c n elem fz esz op false d) =>
    if x.spot.isNone && vs.all (·.oneCell') && decide (x.off + vs.length ≤ n) && (decide (x.off + vs.length ≤ fz.1) || decide (fz.2 ≤ x.off)) then
      some (h.set x.block (.cells (putRow c x.off vs) n elem fz esz op false d))
    else none
  | _ => none

def storeA (P : Program) (t : TypeId) (x : Addr) (v : Value) (h : AH) : Option AH :=
  match P.info? t with
  | some i => if v.cells.size = i.size then putCells x v.cells.toList h else none
  | none => none

/-- A block's cells are written anew. -/
theorem Rel.setCells {ρ : Ren} {h : AH} {w : Array Obj} (hR : Rel ρ h w) {β : Nat} {o o' : AObj} {i : Info} {b : Obj} (hg : h.get β = some o) (hi : ρ β = some i) (hO : ORel ρ i o' b) :
    Rel ρ (h.set β o') (w.setIfInBounds i.b b) where
  lt := fun γ j hj => by have := hR.lt γ j hj; simpa using this
  obj := fun γ p hp => by
    rw [AH.get_set] at hp
    split at hp
    · rename_i e; subst e; cases hp
      exact ⟨i, b, hi, by have := (hR.lt _ i hi).1; simp [this], hO⟩
    · rename_i e
      obtain ⟨j, b', hj, hb', hO'⟩ := hR.obj γ p hp
      refine ⟨j, b', hj, ?_, hO'⟩
      have hne : i.b ≠ j.b := fun hne => e (hR.inj γ β p o j i hp hg hj hi hne.symm)
      rw [Array.getElem?_setIfInBounds_ne hne]; exact hb'
  inj := fun γ δ p q k l hp hq hk hl e => by
    rw [AH.get_set] at hp hq
    have f : ∀ {γ : Nat} {p : AObj}, (if γ = β then some o' else h.get γ) = some p → ∃ p', h.get γ = some p' := by
      intro γ p hp
      split at hp
      · rename_i e'; subst e'; exact ⟨_, hg⟩
      · exact ⟨_, hp⟩
    obtain ⟨p', hp'⟩ := f hp
    obtain ⟨q', hq'⟩ := f hq
    exact hR.inj γ δ p' q' k l hp' hq' hk hl e

theorem Step.set {ρ : Ren} {w : World} {β : Nat} {i : Info} (hi : ρ β = some i) (hr : i.ro = false) (b : Obj) :
    Step ρ w ρ { w with heap := w.heap.setIfInBounds i.b b } where
  le := .refl ρ
  old := fun β j hj _ => ⟨β, j, hj, rfl, id⟩
  os := rfl
  tape := rfl
  output := rfl
  size := by simp
  frame := fun b' hb' hro => by
    have hne : i.b ≠ b' := fun e => by have := hro β i hi e; rw [hr] at this; cases this
    simp [Array.getElem?_setIfInBounds_ne hne]

theorem VS.all_one {ρ : Ren} {xs ys : Array Value} (h : VS ρ xs ys) (hx : xs.all (·.oneCell') = true) : ∀ v ∈ ys.toList, v.oneCell' = true := by
  intro v hv
  obtain ⟨j, hj, rfl⟩ := List.mem_iff_getElem.1 hv
  simp only [Array.length_toList] at hj
  have h1 := h.2 j (h.1 ▸ hj)
  have hjx : j < xs.size := h.1 ▸ hj
  rw [Array.all_eq_true] at hx
  have h2 := hx j hjx
  have := h1.oneCell (by simpa [Array.getD, hjx] using h2)
  simpa [Array.getD, hj] using this

theorem not_tuple_of_all {v : Value} (h : v.cells.all (·.oneCell') = true) : ∀ cs, v ≠ .tuple cs := by
  intro cs e; subst e; simp [Value.cells, Value.oneCell'] at h

theorem V.tuple_cells {v : Value} (h : v.cells.toList.all (·.oneCell') = true) : ∀ cs, v ≠ .tuple cs := by
  intro cs e; subst e; simp [Value.cells, Value.oneCell'] at h

theorem putCells_sim {P : Program} {ρ : Ren} {h h' : AH} {w : World} {x a : Addr} {vs vs' : List Value} (hR : Rel ρ h w.heap) (hA : ARel ρ x a) (hV : VS ρ vs.toArray vs'.toArray)
    (hs : putCells x vs h = some h') : ∃ w', (storeCells a vs').run P w = .ok () w' ∧ Step ρ w ρ w' ∧ Rel ρ h' w'.heap := by
  unfold putCells at hs
  split at hs
  · rename_i c n elem fz esz op d hg
    split at hs
    · rename_i hc
      cases hs
      simp only [Bool.and_eq_true, Bool.or_eq_true, decide_eq_true_eq, Option.isNone_iff_eq_none] at hc
      obtain ⟨⟨⟨hsp, hall⟩, hle⟩, hfz⟩ := hc
      obtain ⟨i, b, hi, hb, C, rfl, e2, e3, e4, e5, e6, e7, e8, e9, hv⟩ := hR.obj _ _ hg
      obtain ⟨i', hi', ab, ao, asp⟩ := hA
      obtain rfl : i = i' := by rw [hi] at hi'; exact Option.some.inj hi'
      have hsz' : vs'.length = vs.length := by have := hV.1; simpa using this.symm
      have hfr : ∀ j, j < vs'.length → ¬ (fz.1 ≤ a.off + 0 + j ∧ a.off + 0 + j < fz.2) := by
        intro j hj
        cases hop : op with
        | true => rw [e9 hop]; simp
        | false => have := (e8 hop).1; omega
      have hall' : ∀ v ∈ vs', v.oneCell' = true := by
        have := hV.all_one (by simpa using hall)
        simpa using this
      obtain ⟨C', hC1, hC2, hrun⟩ := run_storeCells_row (P := P) i.b elem fz vs' a.off 0 C w hb hall' (by omega) hfr
      refine ⟨_, ?_, Step.set hi e4 _, Rel.setCells hR hg hi (b := .cells C' elem fz) ⟨C', rfl, e2, e3, e4, e5, hC1.trans e6, e7, e8, e9, fun j hj => ?_⟩⟩
      · have ha : a = ⟨i.b, a.off, none⟩ := by
          obtain ⟨x1, x2, x3⟩ := a
          simp only at ab asp
          rw [ab, asp, hsp]
        rw [ha]; exact hrun
      · rw [get_putRow, hC2]
        by_cases hin : x.off ≤ j ∧ j < x.off + vs.length
        · rw [if_pos hin, if_pos (by rw [hsz']; omega)]
          have := hV.2 (j - x.off) (by simp; omega)
          rw [show i.s + j - (a.off + 0) = j - x.off by omega]
          simpa [Array.getD_eq_getD_getElem?, List.getD] using this
        · rw [if_neg hin, if_neg (by rw [hsz']; omega)]
          exact hv j hj
    · cases hs
  · cases hs

theorem putCells_all {x : Addr} {vs : List Value} {h h' : AH} (hs : putCells x vs h = some h') : vs.all (·.oneCell') = true := by
  unfold putCells at hs
  split at hs
  · split at hs
    · rename_i hc
      simp only [Bool.and_eq_true] at hc
      exact hc.1.1.2
    · cases hs
  · cases hs

theorem storeA_sim {P : Program} {ρ : Ren} {h h' : AH} {w : World} {t : TypeId} {x a : Addr} {v v' : Value} (hR : Rel ρ h w.heap) (hA : ARel ρ x a) (hV : V ρ v v')
    (hs : storeA P t x v h = some h') : ∃ w', (storeVar t a v').run P w = .ok () w' ∧ Step ρ w ρ w' ∧ Rel ρ h' w'.heap := by
  unfold storeA at hs
  split at hs
  · rename_i inf hinf
    split at hs
    · rename_i hsz
      have hcs := hV.cells (V.tuple_cells (putCells_all hs))
      obtain ⟨w', hrun, hst, hR'⟩ := putCells_sim (P := P) (vs' := v'.cells.toList) hR hA (by simpa using hcs) hs
      refine ⟨w', ?_, hst, hR'⟩
      have hsz' : v'.cells.size = inf.size := by rw [← hcs.1]; exact hsz
      simp only [storeVar, Sem.run_bind, run_size hinf, Result.andThen_ok, hsz', ne_eq, not_true_eq_false, if_false, Sem.run_ite]
      exact hrun
    · cases hs
  · cases hs

end
end Go.AE
