/-
  AE, part 8: append, that it goes as is said.
-/
import Derived.Test.YtimngnabpolgkaaGreatAeA7
namespace Go.AE
noncomputable section
set_option linter.unusedSimpArgs false
set_option linter.unusedVariables false
variable {P : Program} {ρ : Ren} {h : AH} {w : World}

theorem Rel.kill {A : Array Obj} (hR : Rel ρ h A) (β : Nat) : Rel ρ (h.kill β) A where
  lt := fun γ i hi => hR.lt γ i hi
  obj := fun γ o ho => by
    rw [AH.get_kill] at ho
    split at ho
    · cases ho
    · exact hR.obj γ o ho
  inj := fun γ δ o p i j ho hp hi hj e => by
    rw [AH.get_kill] at ho hp
    split at ho
    · cases ho
    · split at hp
      · cases hp
      · exact hR.inj γ δ o p i j ho hp hi hj e

/-- A block that no living abstract one stands for may be written. -/
theorem Rel.foreign {A : Array Obj} (hR : Rel ρ h A) (b : Nat) (X : Obj) (hb : ∀ β o i, h.get β = some o → ρ β = some i → i.b ≠ b) : Rel ρ h (A.setIfInBounds b X) where
  lt := fun γ i hi => by simpa using hR.lt γ i hi
  obj := fun γ o ho => by
    obtain ⟨i, b', hi, hb', hO⟩ := hR.obj γ o ho
    exact ⟨i, b', hi, by rw [Array.getElem?_setIfInBounds_ne (fun e => hb γ o i ho hi e.symm)]; exact hb', hO⟩
  inj := hR.inj

/-- A new abstract block for a real one that is there. -/
theorem Rel.adopt {A : Array Obj} (hR : Rel ρ h A) (o : AObj) (X : Obj) (i : Info) (hX : A[i.b]? = some X) (hb : ∀ β p j, h.get β = some p → ρ β = some j → j.b ≠ i.b)
    (hO : ORel (ρ.put h.next i) i o X) : Rel (ρ.put h.next i) (h.push o) A where
  lt := fun β j hj => by
    simp only [Ren.put] at hj
    split at hj
    · cases hj; rename_i e; subst e; exact ⟨(Array.getElem?_eq_some_iff.1 hX).1, by simp⟩
    · have := hR.lt β j hj; simp; omega
  obj := fun β p hp => by
    rw [AH.get_push] at hp
    split at hp
    · rename_i e; subst e; cases hp
      exact ⟨i, X, by simp [Ren.put], hX, hO⟩
    · rename_i e
      obtain ⟨j, b', hj, hb', hO'⟩ := hR.obj β p hp
      exact ⟨j, b', by simp [Ren.put, e, hj], hb', hO'.mono (Ren.le_put hR i)⟩
  inj := fun β γ o' p' k l hb' hg hk hl e => by
    rw [AH.get_push] at hb' hg
    simp only [Ren.put] at hk hl
    by_cases e1 : β = h.next
    · by_cases e2 : γ = h.next
      · rw [e1, e2]
      · simp only [e1, if_true] at hk; simp only [e2, if_false] at hl hg
        cases hk
        exact absurd e.symm (hb γ p' l hg hl)
    · by_cases e2 : γ = h.next
      · simp only [e2, if_true] at hl; simp only [e1, if_false] at hk hb'
        cases hl
        exact absurd e (hb β o' k hb' hk)
      · simp only [e1, e2, if_false] at hb' hg hk hl
        exact hR.inj β γ o' p' k l hb' hg hk hl e

theorem Step.adopt {A : World} {h : AH} (hR : Rel ρ h A.heap) {β : Nat} {i : Info} (hi : ρ β = some i) (hr : i.ro = false) (j : Info) (hj : j.b = i.b) (X : Obj) :
    Step ρ A (ρ.put h.next j) { A with heap := A.heap.setIfInBounds i.b X } where
  le := Ren.le_put hR j
  old := fun γ k hk _ => by
    simp only [Ren.put] at hk
    split at hk
    · cases hk; exact ⟨β, i, hi, hj.symm, fun _ => hr⟩
    · exact ⟨γ, k, hk, rfl, id⟩
  os := rfl
  tape := rfl
  output := rfl
  size := by simp
  frame := fun b' hb' hro => by
    have hne : i.b ≠ b' := fun e => by have := hro β i hi e; rw [hr] at this; cases this
    simp [Array.getElem?_setIfInBounds_ne hne]

theorem openRow_orel {xs : List Value} {C rest : Array Value} (hv : VS ρ xs.toArray C) (elem : TypeId) (b sz : Nat) :
    ORel ρ (openInfo b 0 xs.length (C.size + rest.size) sz) (openRow xs elem sz) (.cells (C ++ rest) elem) := by
  obtain ⟨h1, h2⟩ := hv
  simp only [List.size_toArray] at h1 h2
  refine ⟨C ++ rest, rfl, rfl, rfl, rfl, rfl, by simp [openInfo], by simp [openInfo]; omega, (fun e => by cases e), fun _ => rfl, fun j hj => ?_⟩
  have h3 := h2 j hj
  rw [get_ofRow, if_pos hj]
  have e : (C ++ rest).getD ((openInfo b 0 xs.length (C.size + rest.size) sz).s + j) undef = C.getD j undef := by
    simp only [openInfo, Nat.zero_add]
    have : j < C.size := by omega
    simp [Array.getD_eq_getD_getElem?, Array.getElem?_append, this]
  rw [e]
  simpa [Array.getD_eq_getD_getElem?, List.getD] using h3

theorem VS.append {xs ys : List Value} {as bs : Array Value} (h1 : VS ρ xs.toArray as) (h2 : VS ρ ys.toArray bs) : VS ρ (xs ++ ys).toArray (as ++ bs) := by
  obtain ⟨a1, a2⟩ := h1
  obtain ⟨b1, b2⟩ := h2
  simp only [List.size_toArray] at a1 a2 b1 b2
  refine ⟨by simp [a1, b1], fun j hj => ?_⟩
  simp only [List.size_toArray, List.length_append] at hj
  by_cases hlt : j < xs.length
  · have := a2 j hlt
    have e1 : (xs ++ ys).toArray.getD j undef = xs.toArray.getD j undef := by
      simp [Array.getD_eq_getD_getElem?, List.getElem?_append, hlt]
    have e2 : (as ++ bs).getD j undef = as.getD j undef := by
      have : j < as.size := by omega
      simp [Array.getD_eq_getD_getElem?, Array.getElem?_append, this]
    rw [e1, e2]; exact this
  · have := b2 (j - xs.length) (by omega)
    have e1 : (xs ++ ys).toArray.getD j undef = ys.toArray.getD (j - xs.length) undef := by
      simp [Array.getD_eq_getD_getElem?, List.getElem?_append, hlt]
    have e2 : (as ++ bs).getD j undef = bs.getD (j - xs.length) undef := by
      have : ¬ j < as.size := by omega
      simp [Array.getD_eq_getD_getElem?, Array.getElem?_append, this, a1]
    rw [e1, e2]; exact this

theorem size_zeroCells (z : Array Value) (n : Nat) : (Builtin.zeroCells z n).size = n * z.size := by simp [Builtin.zeroCells]

/-- The growing append: a new row. -/
theorem grow_makes {ρ : Ren} {h0 : AH} {w : World} {xs : List Value} {C rest : Array Value} (hR : Rel ρ h0 w.heap) (hv : VS ρ xs.toArray C) (elem : TypeId) (sz need newCap : Nat)
    (hx : xs.length = need * sz) (hr : rest.size = (newCap - need) * sz) (hn : need ≤ newCap) :
    ∃ ρ', Step ρ w ρ' { { w with drawn := w.drawn + 1 } with heap := w.heap.push (.cells (C ++ rest) elem) } ∧
      Rel ρ' (h0.push (openRow xs elem sz)) (w.heap.push (.cells (C ++ rest) elem)) ∧
      V ρ' (.slice (some ⟨h0.next, 0, none⟩) need need) (.slice (some ⟨w.heap.size, 0, none⟩) need newCap) := by
  refine ⟨ρ.put h0.next (openInfo w.heap.size 0 xs.length (C.size + rest.size) sz), ?_, ?_, ?_⟩
  · have h1 := Step.same ρ (w := w) (w' := { w with drawn := w.drawn + 1 }) rfl rfl rfl rfl
    exact h1.trans (Step.alloc (w := { w with drawn := w.drawn + 1 }) hR _ _ rfl)
  · exact hR.alloc _ _ _ rfl (openRow_orel (hv.mono (Ren.le_put hR _)) _ _ _)
  · refine .slice _ _ _ _ _ (Nat.le_refl _) ⟨openInfo w.heap.size 0 xs.length (C.size + rest.size) sz, by simp [Ren.put], rfl, rfl, .inr ⟨rfl, hn, rfl, ?_, fun _ => ⟨?_, rfl⟩⟩⟩
    · have h1 := hv.1
      simp only [List.size_toArray] at h1
      have h2 : need * sz + (newCap - need) * sz = newCap * sz := by rw [← Nat.add_mul, Nat.add_sub_cancel' hn]
      simp only [openInfo]
      omega
    · simp only [openInfo]; omega

theorem appendA_sim {argTypes : Array TypeId} {ty : TypeId} {args args' : Array Value} {v : Value} {h' : AH} (hR : Rel ρ h w.heap) (ha : VS ρ args args') (hs : appendA P argTypes args h = some (v, h')) :
    Makes P ρ w (Builtin.append_ argTypes ty args') v h' := by
  unfold appendA at hs
  split at hs
  · rename_i sT base len cap x ht h0 h1
    obtain ⟨s', hs', hsv⟩ := getD_some ha h0
    obtain ⟨x', hx', hxv⟩ := getD_some ha h1
    split at hs
    · rename_i elem hu hmk
      split at hs
      · rename_i inf z n hz hlen
        obtain ⟨hz1, hi, hz3⟩ := zeroA_run hz w
        split at hs
        · rename_i vs hsrc
          obtain ⟨ys, hr, hvy⟩ := srcA_sim (P := P) hR hxv hlen (Nat.le_refl _) hsrc
          obtain ⟨ysd, hrd, hvyd⟩ := srcA_sim (P := P) (w := { w with drawn := w.drawn + 1 }) hR hxv hlen (Nat.le_refl _) hsrc
          have hlr := lenA_sim (P := P) hxv hlen w
          split at hs
          · -- it fits
            rename_i hfit
            split at hs
            · rename_i hemp
              cases hs
              have hv0 : vs = [] := by simpa using hemp
              subst hv0
              have hy0 : ys = #[] := by have := hvy.1; simp at this; exact Array.eq_empty_of_size_eq_zero this.symm
              subst hy0
              cases hsv with
              | nilSlice _ _ =>
                exact ⟨ρ, _, w, append_run_fits ht hs' hx' hu hi hmk hlr hr hfit rfl, Step.refl ρ w, hR, .nilSlice _ _⟩
              | slice a b _ _ c hnk hS =>
                have hkc : cap ≤ c := by
                  obtain ⟨i, _, _, _, hS'⟩ := hS
                  rcases hS' with ⟨rfl, _⟩ | ⟨_, hk, _⟩
                  · exact Nat.le_refl _
                  · exact hk
                exact ⟨ρ, _, w, append_run_fits ht hs' hx' hu hi hmk hlr hr (Nat.le_trans hfit hkc) (by simp [storeCells]), Step.refl ρ w, hR, .slice _ _ _ _ _ hfit hS⟩
            · split at hs
              · rename_i a
                split at hs
                · rename_i hpos
                  cases hp : putCells (a.add (len * inf.size)) vs h with
                  | none => rw [hp] at hs; cases hs
                  | some h1 =>
                    rw [hp] at hs; cases hs
                    cases hsv with
                    | slice _ b _ _ c hnk hS =>
                      have hkc : cap ≤ c := by
                        obtain ⟨i, _, _, _, hS'⟩ := hS
                        rcases hS' with ⟨rfl, _⟩ | ⟨_, hk, _⟩
                        · exact Nat.le_refl _
                        · exact hk
                      obtain ⟨w', e1, e2, e3⟩ := putCells_sim (P := P) (vs' := ys.toList) hR ((hS.head hpos).add (len * inf.size)) (by rw [Array.toArray_toList]; exact hvy) hp
                      exact ⟨ρ, _, w', append_run_fits ht hs' hx' hu hi hmk hlr hr (Nat.le_trans hfit hkc) e1, e2, e3, .slice _ _ _ _ _ hfit hS⟩
                · cases hs
              · cases hs
          · -- it does not
            rename_i hfit
            split at hs
            · rename_i hcond
              obtain ⟨hb1, hb2, hb3, hb4⟩ := hcond
              split at hs
              · -- nil
                split at hs
                · rename_i hl0
                  cases hs
                  subst hl0
                  cases hsv with
                  | nilSlice _ _ =>
                    obtain ⟨newCap, hnc, hrun⟩ := append_run_grows (old := #[]) (ys := ysd) (z := z) (ty := ty) (w := w) ht hs' hx' hu hi hmk (fun w => (zeroA_run hz w).1) hlr hrd rfl (by omega) hb1 hb2
                    obtain ⟨ρ', g1, g2, g3⟩ := grow_makes (C := #[] ++ ysd) (rest := Builtin.zeroCells z.cells (newCap - (0 + n))) hR (by simpa using hvyd) elem inf.size (0 + n) newCap (by simpa using hb4) (by rw [size_zeroCells, hb3]) hnc
                    exact ⟨ρ', _, _, hrun, g1, g2, g3⟩
                · cases hs
              · rename_i a
                split at hs
                · rename_i c m e f esz op ro d hg
                  split at hs
                  · rename_i hcell
                    obtain ⟨hsp, hoff, hall⟩ := hcell
                    have hold : srcA (.slice (some a) len cap) len inf.size h = some (rowA c d a.off (len * inf.size)) := by
                      simp only [srcA, hg, hsp, hoff]; simp
                    obtain ⟨old, ho1, ho2⟩ := srcA_sim (P := P) (w := { w with drawn := w.drawn + 1 }) (len := len) hR hsv rfl (Nat.le_refl _) hold
                    have hvold := VS.append ho2 hvyd
                    have hxl : (rowA c d a.off (len * inf.size) ++ vs).length = (len + n) * inf.size := by simp [hb4, Nat.add_mul]
                    cases hsv with
                    | slice _ b _ _ c' hnk hS =>
                      -- growing, whatever the abstract heap behind it
                      have grows : ∀ {h0 : AH}, Rel ρ h0 w.heap → c' < len + n → Makes P ρ w (Builtin.append_ argTypes ty args') (.slice (some ⟨h0.next, 0, none⟩) (len + n) (len + n)) (h0.push (openRow (rowA c d a.off (len * inf.size) ++ vs) elem inf.size)) := by
                        intro h0 hR0 hlt
                        obtain ⟨newCap, hnc, hrun⟩ := append_run_grows (old := old) (ys := ysd) (z := z) (ty := ty) (w := w) ht hs' hx' hu hi hmk (fun w => (zeroA_run hz w).1) hlr hrd ho1 hlt hb1 hb2
                        obtain ⟨ρ', g1, g2, g3⟩ := grow_makes (rest := Builtin.zeroCells z.cells (newCap - (len + n))) hR0 hvold elem inf.size (len + n) newCap hxl (by rw [size_zeroCells, hb3]) hnc
                        exact ⟨ρ', _, _, hrun, g1, g2, g3⟩
                      split at hs
                      · rename_i hop
                        split at hs
                        · rename_i hro
                          cases hs
                          by_cases hlt : c' < len + n
                          · exact grows (hR.kill a.block) hlt
                          · -- in place
                            obtain ⟨i, hia, hib, hisp, hS'⟩ := hS
                            obtain ⟨i', X, hi', hX, C, rfl, e2, e3, e4, e5, e6, e7, e8, e9, hv⟩ := hR.obj _ _ hg
                            obtain rfl : i = i' := by rw [hia] at hi'; exact Option.some.inj hi'
                            rcases hS' with ⟨rfl, _⟩ | ⟨_, hkc, hbs, hbN, hk0⟩
                            · omega
                            have hesz : i.esz = inf.size := by rw [e5]; exact hro.2.1
                            obtain rfl : e = elem := hro.2.2
                            have hiro : i.ro = false := by rw [e4]; exact hro.1
                            have hyl : ys.size = n * inf.size := by have := hvy.1; simp at this; omega
                            have hmul : (len + n) * inf.size ≤ c' * inf.size := Nat.mul_le_mul_right _ (by omega)
                            have hadd : (len + n) * inf.size = len * inf.size + n * inf.size := Nat.add_mul _ _ _
                            rw [hesz] at hbN
                            obtain ⟨C', hC1, hC2, hst⟩ := run_storeCells_row (P := P) i.b e f ys.toList (b.off + len * inf.size) 0 C w hX
                              (hvy.all_one (by simpa using hall)) (by simp; omega) (fun j _ => by rw [e9 hop]; simp)
                            have hbadd : b.add (len * inf.size) = ⟨i.b, b.off + len * inf.size, none⟩ := by
                              obtain ⟨x1, x2, x3⟩ := b
                              simp only at hib hbs
                              subst hib hbs
                              exact Addr.add_lit _ _ _
                            have hrun := append_run_fits (ty := ty) (ys := ys) (w := w) (w' := { w with heap := w.heap.setIfInBounds i.b (.cells C' e f) }) ht hs' hx' hu hi hmk hlr hr (Nat.not_lt.1 hlt) (by simp only [hbadd]; exact hst)
                            have hfor : ∀ β o j, (h.kill a.block).get β = some o → ρ β = some j → j.b ≠ i.b := by
                              intro β o j hβ hj hbj
                              rw [AH.get_kill] at hβ
                              split at hβ
                              · cases hβ
                              · rename_i hne; exact hne (hR.inj β a.block o _ j i hβ hg hj hia hbj)
                            have hRk := ((hR.kill a.block).foreign i.b (.cells C' e f) hfor)
                            have hlt' : i.b < w.heap.size := (hR.lt _ _ hia).1
                            refine ⟨ρ.put h.next (openInfo i.b b.off (rowA c d a.off (len * inf.size) ++ vs).length i.N inf.size), _, _, hrun,
                              Step.adopt hR hia hiro (openInfo i.b b.off (rowA c d a.off (len * inf.size) ++ vs).length i.N inf.size) rfl _, hRk.adopt _ (.cells C' e f) _ (by simp only [openInfo]; simp [hlt']) hfor ?_, ?_⟩
                            · -- the object
                              refine ⟨C', by rw [e9 hop], rfl, rfl, rfl, rfl, hC1.trans e6, ?_, (fun e => by cases e), fun _ => rfl, fun j hj => ?_⟩
                              · simp only [openInfo, List.length_append, length_rowA, hb4]; omega
                              · rw [get_ofRow, if_pos hj]
                                simp only [openInfo]
                                rw [hC2]
                                simp only [List.length_append, length_rowA, hb4] at hj
                                have hml := Ren.le_put hR (openInfo i.b b.off (rowA c d a.off (len * inf.size) ++ vs).length i.N inf.size)
                                by_cases hjl : j < len * inf.size
                                · rw [if_neg (by omega)]
                                  have hpos : 0 < cap := by
                                    rcases Nat.eq_zero_or_pos len with h00 | h00
                                    · subst h00; simp at hjl
                                    · omega
                                  have hoffs := (hk0 hpos).2
                                  have := hv (a.off + j) (by omega)
                                  have e1 : (rowA c d a.off (len * inf.size) ++ vs).getD j undef = (c.get (a.off + j)).getD d := by
                                    rw [List.getD, List.getElem?_append_left (by simpa using hjl), getElem?_rowA _ _ _ _ _ hjl]; rfl
                                  rw [show b.off + j = i.s + (a.off + j) by omega]
                                  simp only [Option.getD_some, e1]
                                  exact this.mono hml
                                · rw [if_pos (by simp only [Array.length_toList]; omega)]
                                  have := hvy.2 (j - len * inf.size) (by simp; omega)
                                  have e1 : (rowA c d a.off (len * inf.size) ++ vs).getD j undef = vs.getD (j - len * inf.size) undef := by
                                    rw [List.getD, List.getElem?_append_right (by simpa using hjl), length_rowA]; rfl
                                  rw [show b.off + j - (b.off + len * inf.size + 0) = j - len * inf.size by omega]
                                  simp only [Option.getD_some, e1]
                                  have h9 := this.mono hml
                                  simpa [Array.getD_eq_getD_getElem?, List.getD, openInfo] using h9
                            · refine .slice _ _ _ _ _ (Nat.le_refl _) ⟨openInfo i.b b.off (rowA c d a.off (len * inf.size) ++ vs).length i.N inf.size, by simp [Ren.put], hib, hbs, .inr ⟨rfl, Nat.not_lt.1 hlt, hbs, hbN, fun _ => ⟨?_, ?_⟩⟩⟩
                              · simp only [openInfo, hxl]; omega
                              · simp only [openInfo]; omega
                        · cases hs
                      · rename_i hop
                        cases hs
                        obtain ⟨i, hia, hib, hisp, hS'⟩ := hS
                        obtain ⟨i', X, hi', hX, C, rfl, e2, e3, e4, e5, e6, e7, e8, e9, hv⟩ := hR.obj _ _ hg
                        obtain rfl : i = i' := by rw [hia] at hi'; exact Option.some.inj hi'
                        rcases hS' with ⟨rfl, _⟩ | ⟨hio, _⟩
                        · exact grows hR (by omega)
                        · exact absurd (e3 ▸ hio) hop
                  · cases hs
                · cases hs
            · cases hs
        · cases hs
      · cases hs
    · cases hs
  · cases hs

end
end Go.AE
