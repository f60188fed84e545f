/-
  AE, part 6: what is made: variables, boxes, rows, aggregates; parts of aggregates.
-/
import Derived.Test.YtimngnabpolgkaaGreatAeA5
import Derived.IntWalk
namespace Go.AE
noncomputable section
set_option linter.unusedSimpArgs false
set_option linter.unusedVariables false
variable {P : Program} {ρ : Ren} {h : AH} {w : World}

def notTuple : Value → Bool
  | .tuple _ => false
  | _ => true
theorem notTuple_ne {v : Value} (h : notTuple v = true) : ∀ cs, v ≠ .tuple cs := by
  intro cs e; subst e; cases h

theorem VS.tl {xs ys : Array Value} (h : VS ρ xs ys) : VS ρ xs.toList.toArray ys := by rw [Array.toArray_toList]; exact h
theorem VS.tl2 {xs ys : Array Value} (h : VS ρ xs ys) : VS ρ xs.toList.toArray ys.toList.toArray := by rw [Array.toArray_toList, Array.toArray_toList]; exact h

/-- What a step that yields a value and maybe makes something comes to. -/
def Makes (P : Program) (ρ : Ren) (w : World) (s : Sem Value) (v : Value) (h' : AH) : Prop :=
  ∃ ρ' v' w', s.run P w = .ok v' w' ∧ Step ρ w ρ' w' ∧ Rel ρ' h' w'.heap ∧ V ρ' v v'

def zeroA (P : Program) (t : TypeId) : Option (TypeInfo × Value) :=
  match P.info? t with
  | some i => match i.zero with
    | some z => if z.cells.toList.all plain1 then some (i, z) else none
    | none => none
  | none => none

theorem zeroA_run {t : TypeId} {i : TypeInfo} {z : Value} (hz : zeroA P t = some (i, z)) (w : World) :
    (zeroValue t).run P w = .ok z w ∧ P.info? t = some i ∧ z.cells.all plain1 = true := by
  unfold zeroA at hz
  split at hz
  · rename_i i' hi
    split at hz
    · rename_i z' hz'
      split at hz
      · rename_i hp; cases hz
        exact ⟨by simp [zeroValue, run_info hi, hz'], hi, by simpa using hp⟩
      · cases hz
    · cases hz
  · cases hz

def allocA (P : Program) (t : TypeId) (h : AH) : Option (Value × AH) :=
  match zeroA P t with
  | some (_, z) => some (.pointer (some ⟨h.next, 0, none⟩), h.push (rowObj z.cells.toList t 0 false))
  | none => none

theorem newVar_makes {xs : List Value} {v : Value} (hR : Rel ρ h w.heap) (hv : VS ρ xs.toArray v.cells) (t : TypeId) :
    ∃ ρ' w', (newVar t v).run P w = .ok ⟨w.heap.size, 0, none⟩ w' ∧ Step ρ w ρ' w' ∧ Rel ρ' (h.push (rowObj xs t 0 false)) w'.heap ∧ ARel ρ' ⟨h.next, 0, none⟩ ⟨w.heap.size, 0, none⟩ := by
  obtain ⟨h1, h2, h3, h4⟩ := newRow_sim (P := P) hR hv t 0
  exact ⟨_, _, h1, h2, h3, h4⟩

theorem allocA_sim {t : TypeId} {v : Value} {h' : AH} (hR : Rel ρ h w.heap) (hs : allocA P t h = some (v, h')) : Makes P ρ w (Instr.alloc t true (.tuple #[])) v h' := by
  unfold allocA at hs
  split at hs
  · rename_i i z hz
    cases hs
    obtain ⟨h1, h2, h3⟩ := zeroA_run hz w
    obtain ⟨ρ', w', e1, e2, e3, e4⟩ := newVar_makes (P := P) (xs := z.cells.toList) (v := z) hR (VS.refl1 (ρ := ρ) h3).tl t
    exact ⟨ρ', _, w', by simp [Instr.alloc, h1, e1], e2, e3, .pointer _ _ e4⟩
  · cases hs

def boxA (t : TypeId) (v : Value) (h : AH) : Option (Value × AH) :=
  if notTuple v then some (.pointer (some ⟨h.next, 0, none⟩), h.push (rowObj v.cells.toList t 0 false)) else none

theorem boxA_sim {t : TypeId} {x x' v : Value} {h' : AH} (hR : Rel ρ h w.heap) (hx : V ρ x x') (hs : boxA t x h = some (v, h')) : Makes P ρ w (Instr.box t x') v h' := by
  unfold boxA at hs
  split at hs
  · rename_i hn
    cases hs
    obtain ⟨ρ', w', e1, e2, e3, e4⟩ := newVar_makes (P := P) (xs := x.cells.toList) (v := x') hR (hx.cells (notTuple_ne hn)).tl t
    exact ⟨ρ', _, w', by simp [Instr.box, e1], e2, e3, .pointer _ _ e4⟩
  · cases hs

/-! ### Parts of aggregates -/
theorem VS.extract {xs ys : Array Value} (hv : VS ρ xs ys) (a b : Nat) : VS ρ (xs.extract a b) (ys.extract a b) := by
  refine ⟨by simp [hv.1], fun j hj => ?_⟩
  simp only [Array.size_extract] at hj
  have h1 := hv.2 (a + j) (by omega)
  have key : ∀ (zs : Array Value), j < min b zs.size - a → (zs.extract a b).getD j undef = zs.getD (a + j) undef := by
    intro zs hz
    rw [Array.getD_eq_getD_getElem?, Array.getD_eq_getD_getElem?, Array.getElem?_extract, if_pos hz]
  have hs := hv.1
  have e1 := key xs hj
  have e2 := key ys (by omega)
  rw [e1, e2]; exact h1

def partA (P : Program) (t : TypeId) (cs : Array Value) (off : Nat) : Option Value :=
  match isAggT P t with
  | some true => match P.info? t with
    | some i => some (.agg (cs.extract off (off + i.size)))
    | none => none
  | some false => cs[off]?
  | none => none

theorem partA_sim {t : TypeId} {cs cs' : Array Value} {off : Nat} {v : Value} (hc : VS ρ cs cs') (hs : partA P t cs off = some v) (w : World) :
    ∃ v', (part t cs' off).run P w = .ok v' w ∧ V ρ v v' := by
  unfold partA at hs
  split at hs
  · rename_i hag
    split at hs
    · rename_i i hi
      cases hs
      have he := hc.extract off (off + i.size)
      exact ⟨_, by simp only [part, Sem.run_bind, run_isAgg hag, Result.andThen_ok, if_true, run_size hi, Sem.run_ite]; rfl, .agg _ _ he.1 he.2⟩
    · cases hs
  · rename_i hag
    obtain ⟨hlt, rfl⟩ := Array.getElem?_eq_some_iff.1 hs
    have h1 := hc.2 off hlt
    have hlt' : off < cs'.size := hc.1 ▸ hlt
    refine ⟨cs'[off], ?_, by simpa [Array.getD, hlt, hlt'] using h1⟩
    simp [part, run_isAgg hag, hlt']
  · cases hs

def fieldA (P : Program) (t : TypeId) (x : Value) (f : Nat) : Option Value :=
  match P.underlying t, x with
  | some (.struct fields), .agg cs =>
    match fields[f]? with
    | some fd => partA P fd.type cs fd.offset
    | none => none
  | _, _ => none

theorem fieldA_sim {t : TypeId} {x x' : Value} {f : Nat} {v : Value} (hx : V ρ x x') (hs : fieldA P t x f = some v) (w : World) :
    ∃ v', (Instr.field t x' f).run P w = .ok v' w ∧ V ρ v v' := by
  unfold fieldA at hs
  split at hs
  · rename_i fields cs hu
    cases hx with
    | agg _ cs' hc k =>
      split at hs
      · rename_i fd hfd
        obtain ⟨v', hr, hv⟩ := partA_sim (ρ := ρ) ⟨hc, k⟩ hs w
        exact ⟨v', by simp [Instr.field, run_underlying hu, hfd, asAgg, hr], hv⟩
      · cases hs
  · cases hs

def indexA (P : Program) (t : TypeId) (x ix : Value) : Option Value :=
  match ix, P.underlying t, x with
  | .int _ i, some (.array len elem), .agg cs =>
    if 0 ≤ i ∧ i < len then match P.info? elem with
      | some inf => partA P elem cs (i.toNat * inf.size)
      | none => none
    else none
  | .int _ i, some .string, .string s => if 0 ≤ i then (s[i.toNat]?).map fun b => .int .u8 b.toNat else none
  | _, _, _ => none

theorem indexA_sim {t : TypeId} {x x' ix ix' : Value} {v : Value} (hx : V ρ x x') (hix : V ρ ix ix') (hs : indexA P t x ix = some v) (w : World) :
    ∃ v', (Instr.index t x' ix').run P w = .ok v' w ∧ V ρ v v' := by
  unfold indexA at hs
  split at hs
  · rename_i k i len elem cs hu
    cases hix
    cases hx with
    | agg _ cs' hc kk =>
      split at hs
      · rename_i hr
        split at hs
        · rename_i inf hi
          obtain ⟨v', hr', hv⟩ := partA_sim (ρ := ρ) ⟨hc, kk⟩ hs w
          exact ⟨v', by simp [Instr.index, asIntOf, run_underlying hu, hr, run_size hi, hr'], hv⟩
        · cases hs
      · cases hs
  · rename_i k i s hu
    cases hix
    cases hx
    split at hs
    · rename_i hr
      cases hb : s[i.toNat]? with
      | none => rw [hb] at hs; cases hs
      | some b =>
        rw [hb] at hs; cases hs
        exact ⟨_, by simp only [Instr.index, asIntOf, Sem.run_bind, Sem.run_pure, Result.andThen_ok, run_underlying hu, hr, if_true, hb], .int _ _⟩
    · cases hs
  · cases hs

def isOver : Value → Bool
  | .bool false => true
  | _ => false

def extractA (x : Value) (i : Nat) : Option Value :=
  match x with
  | .tuple vs => if vs.size = 1 then (if isOver (vs.getD 0 (.tuple #[])) && i == 0 then some (.bool false) else none) else vs[i]?
  | _ => none

theorem extractA_sim {x x' : Value} {i : Nat} {v : Value} (hx : V ρ x x') (hs : extractA x i = some v) (w : World) :
    ∃ v', (Instr.extract x' i).run P w = .ok v' w ∧ V ρ v v' := by
  unfold extractA at hs
  split at hs
  · rename_i vs
    split at hs
    · rename_i h1
      split at hs
      · rename_i ho
        cases hs
        simp only [Bool.and_eq_true, beq_iff_eq] at ho
        obtain ⟨ho, rfl⟩ := ho
        cases hx with
        | any v => simp [isOver] at ho
        | tuple _ vs' h1' hc k => exact absurd h1 h1'
        | over => exact ⟨.bool false, by simp [Instr.extract], .bool false⟩
      · cases hs
    rename_i h1
    cases hx with
    | any v => exact absurd rfl h1
    | over => exact absurd rfl h1
    | tuple _ vs' _ hc k =>
      obtain ⟨hlt, rfl⟩ := Array.getElem?_eq_some_iff.1 hs
      have hlt' : i < vs'.size := hc ▸ hlt
      have h1 := k i hlt
      exact ⟨vs'[i], by simp [Instr.extract, hlt'], by simpa [Array.getD, hlt, hlt'] using h1⟩
  · cases hs

/-! ### Aggregates that are built -/
/-- Numbered values. -/
def PartsRel (ρ : Ren) (ps qs : List (Nat × Value)) : Prop := ps.length = qs.length ∧ ∀ (j : Nat) p q, ps[j]? = some p → qs[j]? = some q → p.1 = q.1 ∧ V ρ p.2 q.2

theorem PartsRel.cons {p q : Nat × Value} {ps qs : List (Nat × Value)} (hp : PartsRel ρ (p :: ps) (q :: qs)) : p.1 = q.1 ∧ V ρ p.2 q.2 ∧ PartsRel ρ ps qs :=
  ⟨(hp.2 0 p q rfl rfl).1, (hp.2 0 p q rfl rfl).2, by have := hp.1; simpa using this, fun j a b ha hb => hp.2 (j + 1) a b (by simpa using ha) (by simpa using hb)⟩

theorem fold_rel (off : Nat) : ∀ (l l' : List Value) (j : Nat) (cs cs' : Array Value), VS ρ l.toArray l'.toArray → VS ρ cs cs' →
    VS ρ ((l.zipIdx j).foldl (fun cs (p : Value × Nat) => cs.setIfInBounds (off + p.2) p.1) cs) ((l'.zipIdx j).foldl (fun cs (p : Value × Nat) => cs.setIfInBounds (off + p.2) p.1) cs')
  | [], l', j, cs, cs', hl, hc => by
    have : l' = [] := by have := hl.1; simp at this; exact List.length_eq_zero_iff.1 this.symm
    subst this; exact hc
  | v :: r, l', j, cs, cs', hl, hc => by
    cases l' with
    | nil => have := hl.1; simp at this
    | cons v' r' =>
      have h0 := hl.2 0 (by simp)
      simp only [List.zipIdx_cons, List.foldl_cons]
      refine fold_rel off r r' (j + 1) _ _ ⟨by have := hl.1; simpa using this, fun i hi => ?_⟩ (hc.set _ (by simpa using h0))
      have := hl.2 (i + 1) (by simp at hi ⊢; omega)
      simpa [Array.getD_eq_getD_getElem?] using this

theorem fill_rel (place : Nat → Option (Nat × Nat)) : ∀ (ps qs : List (Nat × Value)) (cs cs' r : Array Value), PartsRel ρ ps qs → VS ρ cs cs' → ps.all (fun p => notTuple p.2) = true →
    Instr.fill place cs ps = some r → ∃ r', Instr.fill place cs' qs = some r' ∧ VS ρ r r'
  | [], qs, cs, cs', r, hp, hc, _, hf => by
    have : qs = [] := by have := hp.1; simp at this; exact List.length_eq_zero_iff.1 this.symm
    subst this
    simp only [Instr.fill, Option.some.injEq] at hf ⊢
    subst hf
    exact ⟨cs', rfl, hc⟩
  | (i, v) :: ps, qs, cs, cs', r, hp, hc, hn, hf => by
    cases qs with
    | nil => have := hp.1; simp at this
    | cons q qs =>
      obtain ⟨j, v'⟩ := q
      obtain ⟨h1, h2, h3⟩ := hp.cons
      simp only at h1 h2
      subst h1
      simp only [List.all_cons, Bool.and_eq_true] at hn
      have hvc := h2.cells (notTuple_ne hn.1)
      simp only [Instr.fill] at hf ⊢
      split at hf
      · cases hf
      · rename_i off size hpl
        split at hf
        · cases hf
        · rename_i hcond
          have hcond' : ¬ (v'.cells.size ≠ size ∨ off + v'.cells.size > cs'.size) := by
            have a1 := hvc.1; have a2 := hc.1
            simp only [ne_eq, gt_iff_lt, Bool.or_eq_true, decide_eq_true_eq, not_or] at hcond
            omega
          have hg := fold_rel (ρ := ρ) off v.cells.toList v'.cells.toList 0 cs cs' hvc.tl2 hc
          have e1 : ∀ (x : Value) (c : Array Value), x.cells.zipIdx.foldl (fun cs (p : Value × Nat) => cs.setIfInBounds (off + p.2) p.1) c = (x.cells.toList.zipIdx 0).foldl (fun cs (p : Value × Nat) => cs.setIfInBounds (off + p.2) p.1) c := by
            intro x c; rw [← Array.foldl_toList]; simp
          have hf' : Instr.fill place ((v.cells.toList.zipIdx 0).foldl (fun cs (p : Value × Nat) => cs.setIfInBounds (off + p.2) p.1) cs) ps = some r := by rw [← e1]; exact hf
          obtain ⟨r', hr1, hr2⟩ := fill_rel place ps qs _ _ r h3 hg hn.2 hf'
          refine ⟨r', ?_, hr2⟩
          have hdec : (decide (v'.cells.size ≠ size) || decide (off + v'.cells.size > cs'.size)) = false := by
            simp only [not_or] at hcond'
            simp only [Bool.or_eq_false_iff, decide_eq_false_iff_not]
            exact hcond'
          simp only [ne_eq, gt_iff_lt] at hdec
          simp only [ne_eq, gt_iff_lt, hdec, Bool.false_eq_true, if_false]
          rw [← e1] at hr1
          exact hr1

def placesA (P : Program) (t : TypeId) : Option (Nat → Option (Nat × Nat)) :=
  match P.underlying t with
  | some (.struct fields) => match semP P (fields.mapM fun f => do pure (f.offset, ← sizeOf f.type)) with
    | some places => some (places[·]?)
    | none => none
  | some (.array _ elem) => match P.info? elem with
    | some inf => some fun i => some (i * inf.size, inf.size)
    | none => none
  | _ => none

def buildA (P : Program) (t : TypeId) (parts : Array (Nat × Value)) : Option Value :=
  match zeroA P t, placesA P t with
  | some (_, z), some place =>
    if parts.toList.all (fun p => notTuple p.2) then (Instr.fill place z.cells parts.toList).map .agg else none
  | _, _ => none

theorem buildA_sim {t : TypeId} {ps qs : Array (Nat × Value)} {v : Value} (hp : PartsRel ρ ps.toList qs.toList) (hs : buildA P t ps = some v) (w : World) :
    ∃ v', (Instr.build t qs).run P w = .ok v' w ∧ V ρ v v' := by
  unfold buildA at hs
  split at hs
  · rename_i i z place hz hpl
    split at hs
    · rename_i hn
      obtain ⟨h1, h2, h3⟩ := zeroA_run hz w
      cases hf : Instr.fill place z.cells ps.toList with
      | none => rw [hf] at hs; cases hs
      | some r =>
        rw [hf] at hs; cases hs
        obtain ⟨r', hr1, hr2⟩ := fill_rel place ps.toList qs.toList z.cells z.cells r hp (VS.refl1 h3) hn hf
        refine ⟨.agg r', ?_, .agg _ _ hr2.1 hr2.2⟩
        unfold placesA at hpl
        split at hpl
        · rename_i fields hu
          split at hpl
          · rename_i places hpls
            cases hpl
            have hr3 := semP_run hpls w
            simp only [Instr.build, Sem.run_bind, h1, Result.andThen_ok, run_underlying hu, hr3, hr1]; rfl
          · cases hpl
        · rename_i n elem hu
          split at hpl
          · rename_i inf hi
            cases hpl
            simp only [Instr.build, Sem.run_bind, h1, Result.andThen_ok, run_underlying hu, run_size hi, hr1]; rfl
          · cases hpl
        · cases hpl
    · cases hs
  · cases hs

/-! ### Rows -/
/-- The noughts of a row, as the model has them. -/
def zeros (zero : Array Value) (n : Nat) : Array Value := (Array.range n).map (zero[· % zero.size]!)

theorem zeros_plain {zero : Array Value} (hz : zero.all plain1 = true) (n : Nat) (h0 : n = 0 ∨ 0 < zero.size) : (zeros zero n).all plain1 = true := by
  rw [Array.all_eq_true] at hz ⊢
  intro j hj
  rcases h0 with h0 | h0
  · simp [zeros, h0] at hj
  · have hlt : j % zero.size < zero.size := Nat.mod_lt _ h0
    have := hz (j % zero.size) hlt
    simp only [zeros, Array.getElem_map, Array.getElem_range]
    rw [getElem!_pos zero _ hlt]; exact this

def buildSliceA (P : Program) (t : TypeId) (len : Nat) (parts : Array (Nat × Value)) (h : AH) : Option (Value × AH) :=
  match P.underlying t with
  | some (.slice elem) =>
    match zeroA P elem with
    | some (inf, z) =>
      if len * inf.size ≤ 2 ^ 24 ∧ (len * inf.size = 0 ∨ 0 < z.cells.size) ∧ parts.toList.all (fun p => notTuple p.2) then
        match Instr.fill (fun i => some (i * inf.size, inf.size)) (zeros (if len * inf.size = 0 then #[] else z.cells) (len * inf.size)) parts.toList with
        | some cells => some (.slice (some ⟨h.next, 0, none⟩) len len, h.push (rowObj cells.toList elem 0 false))
        | none => none
      else none
    | none => none
  | _ => none

theorem buildSliceA_sim {t : TypeId} {len : Nat} {ps qs : Array (Nat × Value)} {v : Value} {h' : AH} (hR : Rel ρ h w.heap) (hp : PartsRel ρ ps.toList qs.toList)
    (hs : buildSliceA P t len ps h = some (v, h')) : Makes P ρ w (Instr.buildSlice t len qs) v h' := by
  unfold buildSliceA at hs
  split at hs
  · rename_i elem hu
    split at hs
    · rename_i inf z hz
      split at hs
      · rename_i hc
        obtain ⟨hc1, hc2, hc3⟩ := hc
        obtain ⟨h1, h2, h3⟩ := zeroA_run hz w
        split at hs
        · rename_i cells hf
          cases hs
          have hz0 : (zeros (if len * inf.size = 0 then #[] else z.cells) (len * inf.size)).all plain1 = true := by
            by_cases h0 : len * inf.size = 0
            · rw [if_pos h0, h0]; exact zeros_plain (zero := #[]) (by simp) 0 (.inl rfl)
            · simp only [h0, if_false]; exact zeros_plain h3 _ (by omega)
          obtain ⟨r', hr1, hr2⟩ := fill_rel _ ps.toList qs.toList _ _ cells hp (VS.refl1 hz0) hc3 hf
          obtain ⟨e1, e2, e3, e4⟩ := newRow_sim (P := P) (xs := cells.toList) (ys := r') hR hr2.tl elem 0
          obtain ⟨i, a1, a2, a3, a4⟩ := e4
          refine ⟨_, _, _, ?_, e2, e3, .slice _ _ _ _ _ (Nat.le_refl _) ⟨i, a1, a2, a4, .inl ⟨rfl, a3⟩⟩⟩
          have hgt : ¬ (len * inf.size > 2 ^ 24) := by omega
          have hzz : (zeros (if len * inf.size = 0 then #[] else z.cells) (len * inf.size)) = (Array.range (len * inf.size)).map ((if len * inf.size = 0 then #[] else z.cells)[· % (if len * inf.size = 0 then #[] else z.cells).size]!) := rfl
          rw [hzz] at hr1
          by_cases h0 : len * inf.size = 0
          · simp only [h0, if_true] at hr1
            simp only [Instr.buildSlice, Sem.run_bind, run_underlying hu, Result.andThen_ok, run_size h2, h0, Sem.run_ite, if_true, Sem.run_pure, hr1, e1]
            rfl
          · simp only [h0, if_false] at hr1
            simp only [Instr.buildSlice, Sem.run_bind, run_underlying hu, Result.andThen_ok, run_size h2, h0, hgt, Sem.run_ite, if_false, h1, Sem.run_pure, hr1, e1]
        · cases hs
      · cases hs
    · cases hs
  · cases hs

end
end Go.AE
