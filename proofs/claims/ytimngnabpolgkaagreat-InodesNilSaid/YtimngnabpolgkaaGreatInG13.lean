/-
  K, aggregates and rows that are built out of parts: spliced, not set one by one.
-/
import Derived.Test.YtimngnabpolgkaaGreatInG2
namespace Go.AE
noncomputable section
set_option linter.unusedSimpArgs false
set_option linter.unusedVariables false
variable {P : Program}

theorem splice (vs : List Value) : ∀ (off j0 : Nat) (l : List Value), off + j0 + vs.length ≤ l.length →
    (vs.zipIdx j0).foldl (fun (cs : Array Value) (p : Value × Nat) => cs.setIfInBounds (off + p.2) p.1) ⟨l⟩ = ⟨l.take (off + j0) ++ (vs ++ l.drop (off + j0 + vs.length))⟩ := by
  induction vs with
  | nil => intro off j0 l h; simp
  | cons v r ih =>
    intro off j0 l h
    simp only [List.length_cons] at h
    simp only [List.zipIdx_cons, List.foldl_cons]
    have e : (⟨l⟩ : Array Value).setIfInBounds (off + j0) v = ⟨l.set (off + j0) v⟩ := by
      apply Array.ext'; simp
    rw [e, ih off (j0 + 1) _ (by simp; omega)]
    congr 1
    apply List.ext_getElem?
    intro i
    simp only [List.getElem?_append, List.length_take, List.length_set, List.getElem?_take, List.getElem?_set, List.getElem?_drop, List.length_cons, List.getElem?_cons]
    have hm1 : min (off + (j0 + 1)) l.length = off + j0 + 1 := by omega
    have hm2 : min (off + j0) l.length = off + j0 := by omega
    rw [hm1, hm2]
    by_cases h1 : i < off + j0
    · simp [show i < off + j0 + 1 by omega, h1, show ¬ off + j0 = i by omega, show i < off + (j0 + 1) by omega]
    · by_cases h2 : i = off + j0
      · subst h2
        simp [show off + j0 < l.length by omega, show off + j0 < off + (j0 + 1) by omega]
      · simp only [show ¬ i < off + j0 + 1 by omega, h1, if_false]
        rw [if_neg (show ¬ (i - (off + j0) = 0) by omega)]
        by_cases h3 : i - (off + j0) < r.length + 1
        · rw [if_pos (show i - (off + j0 + 1) < r.length by omega), if_pos h3]
          rw [show i - (off + j0 + 1) = i - (off + j0) - 1 by omega]
        · rw [if_neg (show ¬ i - (off + j0 + 1) < r.length by omega), if_neg h3]
          rw [if_neg (by omega)]
          congr 1
          omega

theorem splice_cells (v : Value) (off : Nat) (l : List Value) (h : off + v.cells.size ≤ l.length) :
    v.cells.zipIdx.foldl (fun (cs : Array Value) (p : Value × Nat) => cs.setIfInBounds (off + p.2) p.1) ⟨l⟩ = ⟨l.take off ++ (v.cells.toList ++ l.drop (off + v.cells.size))⟩ := by
  rw [← Array.foldl_toList, Array.toList_zipIdx]
  have := splice v.cells.toList off 0 l (by simpa using h)
  simpa using this

def fillK (place : Nat → Option (Nat × Nat)) (cells : List Value) : List (Nat × Value) → Option (List Value)
  | [] => some cells
  | (i, v) :: rest =>
    match place i with
    | none => none
    | some (off, size) =>
      if v.cells.toList.length ≠ size || off + size > cells.length then none
      else fillK place (cells.take off ++ (v.cells.toList ++ cells.drop (off + size))) rest

theorem fillK_eq (place : Nat → Option (Nat × Nat)) : ∀ (ps : List (Nat × Value)) (cells : List Value), (fillK place cells ps).map (fun l => (⟨l⟩ : Array Value)) = Instr.fill place ⟨cells⟩ ps
  | [], cells => rfl
  | (i, v) :: rest, cells => by
    simp only [fillK, Instr.fill]
    cases place i with
    | none => rfl
    | some q =>
      obtain ⟨off, size⟩ := q
      simp only [Array.length_toList, List.size_toArray]
      by_cases hc : v.cells.size = size
      · subst hc
        by_cases hl : off + v.cells.size > cells.length
        · simp [hl]
        · simp only [ne_eq, not_true_eq_false, decide_false, Bool.false_or, hl, decide_false, Bool.false_eq_true, if_false]
          rw [fillK_eq place rest, splice_cells v off cells (by omega)]
      · simp [hc]

def buildK (P : Program) (t : TypeId) (ix : List Nat) (vs : List Value) (h : AH) : Option (Value × AH) :=
  match zeroA P t, placesA P t with
  | some (_, z), some place =>
    if (ix.zip vs).all (fun p => notTuple p.2) then (fillK place z.cells.toList (ix.zip vs)).map fun l => (.agg ⟨l⟩, h) else none
  | _, _ => none

theorem buildK_eq (t : TypeId) (ps : Array (Nat × Operand)) (e : Operand → Value) (h : AH) :
    buildK P t (ps.toList.map (·.1)) ((ps.toList.map (·.2)).map e) h = (buildA P t (partsA e ps)).map fun v => (v, h) := by
  have hz : (ps.toList.map (·.1)).zip ((ps.toList.map (·.2)).map e) = (partsA e ps).toList := by
    simp only [partsA, Array.toList_map, List.map_map]
    rw [List.zip_map']
    rfl
  unfold buildK buildA
  rw [hz]
  cases zeroA P t with
  | none => rfl
  | some iz =>
    obtain ⟨i, z⟩ := iz
    cases placesA P t with
    | none => rfl
    | some place =>
      simp only
      split
      · have := fillK_eq place (partsA e ps).toList z.cells.toList
        rw [show (⟨z.cells.toList⟩ : Array Value) = z.cells by simp] at this
        rw [← this]
        cases fillK place z.cells.toList (partsA e ps).toList <;> rfl
      · rfl

/-! ### Rows, each part in its turn -/
theorem fill_seq (size : Nat) : ∀ (l : List Value) (k : Nat) (pre post : List Value), (∀ v ∈ l, v.cells.size = size) → pre.length = k * size → post.length = l.length * size →
    Instr.fill (fun i => some (i * size, size)) ⟨pre ++ post⟩ ((List.range' k l.length).zip l) = some ⟨pre ++ l.flatMap fun v => v.cells.toList⟩
  | [], k, pre, post, _, _, h => by
    have : post = [] := by apply List.eq_nil_of_length_eq_zero; simpa using h
    subst this; simp [Instr.fill]
  | v :: l, k, pre, post, hs, hp, hq => by
    have hv : v.cells.size = size := hs v (by simp)
    simp only [List.length_cons, Nat.add_mul, Nat.one_mul] at hq
    simp only [List.length_cons, List.range'_succ, List.zip_cons_cons, Instr.fill, List.size_toArray, List.length_append]
    rw [if_neg (by simp [hv]; omega)]
    rw [splice_cells v (k * size) (pre ++ post) (by simp; omega)]
    have e1 : (pre ++ post).take (k * size) = pre := by rw [← hp]; simp
    have e2 : (pre ++ post).drop (k * size + v.cells.size) = post.drop size := by
      rw [← hp, hv, List.drop_append]; simp
    rw [e1, e2, ← List.append_assoc]
    rw [fill_seq size l (k + 1) (pre ++ v.cells.toList) (post.drop size) (fun u hu => hs u (by simp [hu])) (by simp [hv, hp, Nat.add_mul]) (by simp; omega)]
    simp

def seqOk (size : Nat) : List Value → Bool := fun l => l.all fun v => notTuple v && Nat.beq v.cells.toList.length size

def buildSliceK (P : Program) (t : TypeId) (len : Nat) (ix : List Nat) (vs : List Value) (h : AH) : Option (Value × AH) :=
  match P.underlying t with
  | some (.slice elem) =>
    match zeroA P elem with
    | some (inf, z) =>
      if ix = List.range' 0 len && decide (vs.length = len) && seqOk inf.size vs && decide (len * inf.size ≤ 2 ^ 24 ∧ (len * inf.size = 0 ∨ 0 < z.cells.size)) then
        some (.slice (some ⟨h.next, 0, none⟩) len len, h.push (rowObj (vs.flatMap fun v => v.cells.toList) elem 0 false))
      else buildSliceA P t len ⟨ix.zip vs⟩ h
    | none => none
  | _ => none

theorem buildSliceK_eq (t : TypeId) (len : Nat) (ps : Array (Nat × Operand)) (e : Operand → Value) (h : AH) :
    buildSliceK P t len (ps.toList.map (·.1)) ((ps.toList.map (·.2)).map e) h = buildSliceA P t len (partsA e ps) h := by
  have hz : (ps.toList.map (·.1)).zip ((ps.toList.map (·.2)).map e) = (partsA e ps).toList := by
    simp only [partsA, Array.toList_map, List.map_map]
    rw [List.zip_map']
    rfl
  generalize hix : ps.toList.map (·.1) = ix at hz ⊢
  generalize hvs : (ps.toList.map (·.2)).map e = vs at hz ⊢
  have ha : (partsA e ps) = ⟨ix.zip vs⟩ := by apply Array.ext'; exact hz.symm
  rw [ha]
  unfold buildSliceK
  cases hu : P.underlying t with
  | none => simp only [buildSliceA, hu]
  | some d =>
    cases d with
    | slice elem =>
      simp only
      cases hzr : zeroA P elem with
      | none => simp only [buildSliceA, hu, hzr]
      | some iz =>
        obtain ⟨inf, z⟩ := iz
        simp only
        split
        · rename_i hc
          simp only [Bool.and_eq_true, decide_eq_true_eq] at hc
          obtain ⟨⟨⟨h1, h2⟩, h3⟩, h4, h5⟩ := hc
          have h3' : ∀ v ∈ vs, notTuple v = true ∧ v.cells.size = inf.size := by
            intro v hv
            have := List.all_eq_true.1 h3 v hv
            simp only [Bool.and_eq_true] at this
            exact ⟨this.1, by have := Nat.eq_of_beq_eq_true this.2; simpa using this⟩
          have hall : (ix.zip vs).all (fun p => notTuple p.2) = true := by
            rw [List.all_eq_true]
            intro p hp
            exact (h3' p.2 (List.of_mem_zip hp).2).1
          have hfill : Instr.fill (fun i => some (i * inf.size, inf.size)) (zeros (if len * inf.size = 0 then #[] else z.cells) (len * inf.size)) (ix.zip vs) = some ⟨vs.flatMap fun v => v.cells.toList⟩ := by
            have := fill_seq inf.size vs 0 [] (zeros (if len * inf.size = 0 then #[] else z.cells) (len * inf.size)).toList (fun v hv => (h3' v hv).2) (by simp) (by simp [zeros, h2])
            simp only [List.nil_append] at this
            rw [h1, ← h2]
            rw [h2] at this ⊢
            simpa using this
          simp only [buildSliceA, hu, hzr]
          rw [if_pos ⟨h4, h5, hall⟩, hfill]
        · rfl
    | _ => simp only [buildSliceA, hu]

end
end Go.AE
