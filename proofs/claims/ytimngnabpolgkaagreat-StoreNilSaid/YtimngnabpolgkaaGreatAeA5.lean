/-
  AE, part 5: places, slices, rows that are made, append, copy.
-/
import Derived.Test.YtimngnabpolgkaaGreatAeA4
namespace Go.AE
noncomputable section
set_option linter.unusedSimpArgs false
set_option linter.unusedVariables false
variable {P : Program} {ρ : Ren} {h : AH} {w : World}

theorem ARel.add {x a : Addr} (k : ARel ρ x a) (n : Nat) : ARel ρ (x.add n) (a.add n) := by
  obtain ⟨i, e, e1, e2, e3⟩ := k
  unfold Addr.add
  by_cases hn : n = 0
  · simp only [hn, if_true]; exact ⟨i, e, e1, e2, e3⟩
  · simp only [hn, if_false]; exact ⟨i, e, e1, by simp only; omega, rfl⟩

/-- A slice of some length is a row of variables from its head on. -/
theorem SRel.head {x a : Addr} {k c : Nat} (h : SRel ρ x a k c) (hk : 0 < k) : ARel ρ x a := by
  obtain ⟨i, e, e1, e2, h⟩ := h
  rcases h with ⟨_, h⟩ | ⟨_, _, _, _, h⟩
  · exact ⟨i, e, e1, h, e2⟩
  · exact ⟨i, e, e1, (h hk).2, e2⟩

/-! ### Fields, indices -/
def fieldAddrA (P : Program) (s : TypeId) (x : Value) (f : Nat) : Option Value :=
  match x, P.underlying s with
  | .pointer (some a), some (.struct fields) =>
    match fields[f]? with
    | some fd => match P.info? fd.type with
      | some i => if i.size = 0 then none else some (.pointer (some (a.add fd.offset)))
      | none => none
    | none => none
  | _, _ => none

theorem fieldAddrA_sim {s : TypeId} {x x' : Value} {f : Nat} {v : Value} (hx : V ρ x x') (hs : fieldAddrA P s x f = some v) (w : World) :
    ∃ v', (Instr.fieldAt s x' f).run P w = .ok v' w ∧ V ρ v v' := by
  unfold fieldAddrA at hs
  split at hs
  · rename_i a fields hu
    cases hx with
    | pointer _ b hA =>
      split at hs
      · rename_i fd hfd
        split at hs
        · rename_i i hi
          split at hs
          · cases hs
          rename_i hz
          cases hs
          refine ⟨.pointer (some (b.add fd.offset)), ?_, .pointer _ _ (hA.add _)⟩
          simp [Instr.fieldAt, run_underlying hu, hfd, Instr.sureAddr, fieldPlace, run_size hi, hz]
        · cases hs
      · cases hs
  · cases hs

def indexAddrA (P : Program) (t : TypeId) (x ix : Value) : Option Value :=
  match ix, P.underlying t, x with
  | .int _ i, some (.array len elem), .pointer (some a) =>
    match P.info? elem with
    | some inf => if 0 ≤ i ∧ i < len then some (.pointer (some (a.add (i.toNat * inf.size)))) else none
    | none => none
  | .int _ i, some (.slice elem), .slice (some a) len _ =>
    match P.info? elem with
    | some inf => if 0 ≤ i ∧ i < len then some (.pointer (some (a.add (i.toNat * inf.size)))) else none
    | none => none
  | _, _, _ => none

theorem indexAddrA_sim {t : TypeId} {x x' ix ix' : Value} {v : Value} (hx : V ρ x x') (hix : V ρ ix ix') (hs : indexAddrA P t x ix = some v) (w : World) :
    ∃ v', (Instr.indexAt t x' ix').run P w = .ok v' w ∧ V ρ v v' := by
  unfold indexAddrA at hs
  split at hs
  · rename_i k i len elem a hu
    cases hix
    cases hx with
    | pointer _ b hA =>
      split at hs
      · rename_i inf hi
        split at hs
        · rename_i hr
          cases hs
          refine ⟨.pointer (some (b.add (i.toNat * inf.size))), ?_, .pointer _ _ (hA.add _)⟩
          simp [Instr.indexAt, asIntOf, run_underlying hu, Instr.sureAddr, hr, run_size hi]
        · cases hs
      · cases hs
  · rename_i k i elem a len c hu
    cases hix
    cases hx with
    | slice _ b _ _ c' hn hS =>
      split at hs
      · rename_i inf hi
        split at hs
        · rename_i hr
          cases hs
          refine ⟨.pointer (some (b.add (i.toNat * inf.size))), ?_, .pointer _ _ ((hS.head (by omega)).add _)⟩
          simp [Instr.indexAt, asIntOf, run_underlying hu, hr, run_size hi]
        · cases hs
      · cases hs
  · cases hs

/-! ### Slices of slices -/
def boundsA (len cap : Nat) (lo hi mx : Option Value) : Option (Nat × Nat × Nat) :=
  match (match mx with | some (.int _ i) => if 0 ≤ i ∧ i ≤ cap then some i.toNat else none | none => some cap | _ => none) with
  | none => none
  | some m =>
    match (match hi with | some (.int _ i) => if 0 ≤ i ∧ i ≤ m then some i.toNat else none | none => (if mx.isNone ∧ len ≤ m then some len else none) | _ => none) with
    | none => none
    | some h =>
      match (match lo with | some (.int _ i) => if 0 ≤ i ∧ i ≤ h then some i.toNat else none | none => some 0 | _ => none) with
      | none => none
      | some l => some (l, h, m)

theorem boundsA_le {len cap l hh m : Nat} {lo hi mx : Option Value} (hs : boundsA len cap lo hi mx = some (l, hh, m)) :
    l ≤ hh ∧ hh ≤ m ∧ m ≤ cap ∧ (mx = none → m = cap) := by
  unfold boundsA at hs
  split at hs
  · cases hs
  rename_i m' hm
  split at hs
  · cases hs
  rename_i h' hh'
  split at hs
  · cases hs
  rename_i l' hl'
  cases hs
  refine ⟨?_, ?_, ?_, ?_⟩
  · split at hl'
    · split at hl' <;> simp_all; omega
    · simp at hl'; omega
    · cases hl'
  · split at hh'
    · split at hh' <;> simp_all; omega
    · split at hh' <;> simp_all
    · cases hh'
  · split at hm
    · split at hm <;> simp_all; omega
    · simp at hm; omega
    · cases hm
  · intro e; subst e; simp at hm; exact hm.symm

theorem boundsA_run {s : Bool} {len cap cap' l hh m : Nat} {lo hi mx : Option Value} (hs : boundsA len cap lo hi mx = some (l, hh, m)) (hc : cap ≤ cap') (w : World) :
    (Instr.sliceBounds s len cap' lo hi mx).run P w = .ok (l, hh, if mx.isSome then m else cap') w := by
  have hle := boundsA_le hs
  unfold boundsA at hs
  split at hs
  · cases hs
  rename_i m' hm
  split at hs
  · cases hs
  rename_i h' hh'
  split at hs
  · cases hs
  rename_i l' hl'
  cases hs
  unfold Instr.sliceBounds
  have key : ∀ (k : IntKind) (i : Int) (y : Nat) (code : BoundsCode), 0 ≤ i → i ≤ y → (Instr.sliceBound (.int k i) y code).run P w = .ok i.toNat w := by
    intro k i y code h0 h1
    simp [Instr.sliceBound, asIntOf, h0, h1]
  split at hm
  · rename_i k i
    split at hm
    · rename_i hr
      cases hm
      split at hh'
      · rename_i k2 i2
        split at hh'
        · rename_i hr2
          cases hh'
          split at hl'
          · rename_i k3 i3
            split at hl'
            · rename_i hr3
              cases hl'
              simp only [Sem.run_bind, key k i cap' _ hr.1 (by omega), key k2 i2 _ _ hr2.1 hr2.2, key k3 i3 _ _ hr3.1 hr3.2, Result.andThen_ok, Sem.run_pure, Option.isSome_some, if_true]
            · cases hl'
          · cases hl'
            simp only [Sem.run_bind, key k i cap' _ hr.1 (by omega), key k2 i2 _ _ hr2.1 hr2.2, Result.andThen_ok, Sem.run_pure, Option.isSome_some, if_true]
          · cases hl'
        · cases hh'
      · simp at hh'
      · cases hh'
    · cases hm
  · cases hm
    split at hh'
    · rename_i k2 i2
      split at hh'
      · rename_i hr2
        cases hh'
        split at hl'
        · rename_i k3 i3
          split at hl'
          · rename_i hr3
            cases hl'
            simp only [Sem.run_bind, key k2 i2 cap' _ hr2.1 (by omega), key k3 i3 _ _ hr3.1 hr3.2, Result.andThen_ok, Sem.run_pure, Option.isSome_none, Bool.false_eq_true, if_false]
          · cases hl'
        · cases hl'
          simp only [Sem.run_bind, key k2 i2 cap' _ hr2.1 (by omega), Result.andThen_ok, Sem.run_pure, Option.isSome_none, Bool.false_eq_true, if_false]
        · cases hl'
      · cases hh'
    · split at hh'
      · rename_i hr2
        cases hh'
        split at hl'
        · rename_i k3 i3
          split at hl'
          · rename_i hr3
            cases hl'
            simp only [Sem.run_bind, key k3 i3 _ _ hr3.1 hr3.2, Result.andThen_ok, Sem.run_pure, Option.isSome_none, Bool.false_eq_true, if_false]
          · cases hl'
        · cases hl'
          simp only [Sem.run_bind, Result.andThen_ok, Sem.run_pure, Option.isSome_none, Bool.false_eq_true, if_false]
        · cases hl'
      · cases hh'
    · cases hh'
  · cases hm

/-- May a slice of these elements be cut there? In an open block the elements must be its own, or it must not end where the block is known to end. -/
def cutOk (h : AH) (x : Addr) (k sz : Nat) : Bool :=
  match h.get x.block with
  | some (.cells _ n _ _ esz op _ _) => !op || sz == esz || (decide (0 < k) && x.off + k * esz != n)
  | _ => false

theorem cut_rel {x a : Addr} {k c l hh m sz : Nat} (hR : Rel ρ h w.heap) (hS : SRel ρ x a k c) (hcut : cutOk h x k sz = true) {mx : Bool} (hl : l ≤ hh) (hm : hh ≤ m) (hk : m ≤ k) (hmx : mx = false → m = k) :
    SRel ρ (if m = l then x else x.add (l * sz)) (if (if mx then m else c) = l then a else a.add (l * sz)) (m - l) ((if mx then m else c) - l) := by
  obtain ⟨i, e, e1, e2, hS⟩ := hS
  have add_block : ∀ (z : Addr) (n : Nat), (z.add n).block = z.block := by intro z n; unfold Addr.add; split <;> rfl
  have add_off : ∀ (z : Addr) (n : Nat), (z.add n).off = z.off + n := by intro z n; unfold Addr.add; split <;> simp_all
  have add_spot : ∀ (z y : Addr) (n : Nat), z.spot = y.spot → (z.add n).spot = (y.add n).spot := by intro z y n hzy; by_cases hn : n = 0 <;> simp [Addr.add, hn, hzy]
  have add_none : ∀ (z : Addr) (n : Nat), z.spot = none → (z.add n).spot = none := by intro z n hz; by_cases hn : n = 0 <;> simp [Addr.add, hn, hz]
  have blk : ∀ (p : Prop) [Decidable p], (if p then x else x.add (l * sz)).block = x.block := by intro p _; split <;> simp [add_block]
  have blk2 : ∀ (p : Prop) [Decidable p], (if p then a else a.add (l * sz)).block = a.block := by intro p _; split <;> simp [add_block]
  refine ⟨i, by rw [blk]; exact e, by rw [blk2]; exact e1, ?_, ?_⟩
  · rcases hS with ⟨h1, h2⟩ | ⟨h1, h2, h3, h4, h5⟩
    · subst h1
      cases mx with
      | true => simp only [if_true]; by_cases hml : m = l <;> simp [hml, e2, add_spot _ _ _ e2]
      | false => have := hmx rfl; subst this; simp only [if_false, Bool.false_eq_true]; by_cases hml : m = l <;> simp [hml, e2, add_spot _ _ _ e2]
    · have hx : x.spot = none := e2 ▸ h3
      have g1 : ∀ (p : Prop) [Decidable p], (if p then x else x.add (l * sz)).spot = none := by intro p _; split <;> simp [hx, add_none _ _ hx]
      have g2 : ∀ (p : Prop) [Decidable p], (if p then a else a.add (l * sz)).spot = none := by intro p _; split <;> simp [h3, add_none _ _ h3]
      rw [g1, g2]
  · rcases hS with ⟨h1, h2⟩ | ⟨h1, h2, h3, h4, h5⟩
    · left
      subst h1
      cases mx with
      | true => simp only [if_true]; refine ⟨by trivial, ?_⟩; by_cases hml : m = l <;> simp [hml, h2, add_off]; omega
      | false => have := hmx rfl; subst this; simp only [if_false, Bool.false_eq_true]; refine ⟨by trivial, ?_⟩; by_cases hml : m = l <;> simp [hml, h2, add_off]; omega
    · -- an open block
      unfold cutOk at hcut
      split at hcut
      · rename_i cc n elem fz esz op ro dd hg
        obtain ⟨i', b, hi', hb, C, rfl, f2, f3, f4, f5, f6, f7, f8, f9, hv⟩ := hR.obj _ _ hg
        obtain rfl : i = i' := by rw [e] at hi'; exact Option.some.inj hi'
        have hop : op = true := by rw [← f3]; exact h1
        have hsz : sz = i.esz ∨ 0 < k ∧ x.off + k * esz ≠ n := by
          simp only [hop, Bool.not_true, Bool.false_or, Bool.or_eq_true, beq_iff_eq, Bool.and_eq_true, decide_eq_true_eq, bne_iff_ne] at hcut
          rw [f5]; exact hcut
        rcases hsz with hsz | ⟨hk0, hne⟩
        · subst hsz
          have hmul : l * i.esz + (c - l) * i.esz = c * i.esz := by rw [← Nat.add_mul, Nat.add_sub_cancel' (by omega)]
          cases mx with
          | true =>
            simp only [if_true]
            by_cases hml : m = l
            · right
              subst hml
              simp only [if_true, Nat.sub_self]
              exact ⟨h1, Nat.le_refl _, h3, by have : 0 * i.esz = 0 := Nat.zero_mul _; omega, fun h0 => absurd h0 (Nat.lt_irrefl _)⟩
            · left
              refine ⟨by trivial, ?_⟩
              simp only [hml, if_false, add_off]
              have := (h5 (by omega)).2
              omega
          | false =>
            have hmk := hmx rfl
            subst hmk
            simp only [if_false, Bool.false_eq_true]
            right
            refine ⟨h1, by omega, ?_, ?_, ?_⟩
            · split
              · exact h3
              · exact add_none _ _ h3
            · split
              · rename_i hcl; subst hcl; simp; omega
              · rw [add_off]; omega
            · intro hpos
              have hne : m ≠ l := by omega
              have hne2 : c ≠ l := by omega
              simp only [hne, hne2, if_false, add_off]
              obtain ⟨h6, h7⟩ := h5 (by omega)
              have hmul2 : l * i.esz + (m - l) * i.esz = m * i.esz := by rw [← Nat.add_mul, Nat.add_sub_cancel' (by omega)]
              omega
        · exfalso
          have := (h5 hk0).1
          rw [f5, f2] at this
          exact hne this
      · cases hcut

def sliceA (P : Program) (t : TypeId) (x : Value) (lo hi mx : Option Value) (h : AH) : Option Value :=
  match P.underlying t, x with
  | some (.slice elem), .slice (some a) len cap =>
    match P.info? elem, boundsA len cap lo hi mx with
    | some inf, some (l, hh, m) => if cutOk h a cap inf.size then some (.slice (some (if m = l then a else a.add (l * inf.size))) (hh - l) (m - l)) else none
    | _, _ => none
  | some (.slice elem), .slice none len cap =>
    match P.info? elem, boundsA len cap lo hi mx with
    | some _, some (l, hh, m) => some (.slice none (hh - l) (m - l))
    | _, _ => none
  | some (.array n elem), .pointer (some a) =>
    match P.info? elem, boundsA n n lo hi mx with
    | some inf, some (l, hh, m) => some (.slice (some (if m = l then a else a.add (l * inf.size))) (hh - l) (m - l))
    | _, _ => none
  | some .string, .string s => if mx.isSome then none else
    match boundsA s.size s.size lo hi none with
    | some (l, hh, _) => some (.string (s.extract l hh))
    | _ => none
  | _, _ => none

/-- Plain operands, or none. -/
def VO (ρ : Ren) : Option Value → Option Value → Prop
  | none, none => True
  | some x, some y => V ρ x y
  | _, _ => False

theorem VO.isSome {x y : Option Value} (h : VO ρ x y) : y.isSome = x.isSome := by
  cases x <;> cases y <;> simp_all [VO]

/-- Bounds are integers: they are the same. -/
theorem boundsA_same {len cap : Nat} {lo hi mx lo' hi' mx' : Option Value} {r : Nat × Nat × Nat} (h1 : VO ρ lo lo') (h2 : VO ρ hi hi') (h3 : VO ρ mx mx') (hs : boundsA len cap lo hi mx = some r) :
    lo' = lo ∧ hi' = hi ∧ mx' = mx := by
  have key : ∀ {x y : Option Value}, VO ρ x y → (x = none ∨ ∃ k i, x = some (.int k i)) → y = x := by
    intro x y hxy hx
    rcases hx with rfl | ⟨k, i, rfl⟩
    · cases y with
      | none => rfl
      | some y => exact hxy.elim
    · cases y with
      | none => exact hxy.elim
      | some y => cases (show V ρ _ _ from hxy); rfl
  unfold boundsA at hs
  split at hs
  · cases hs
  rename_i m' hm
  split at hs
  · cases hs
  rename_i h' hh'
  split at hs
  · cases hs
  rename_i l' hl'
  refine ⟨key h1 ?_, key h2 ?_, key h3 ?_⟩
  · split at hl'
    · exact .inr ⟨_, _, rfl⟩
    · exact .inl rfl
    · cases hl'
  · split at hh'
    · exact .inr ⟨_, _, rfl⟩
    · exact .inl rfl
    · cases hh'
  · split at hm
    · exact .inr ⟨_, _, rfl⟩
    · exact .inl rfl
    · cases hm

theorem sliceA_sim {t : TypeId} {x x' : Value} {lo hi mx lo' hi' mx' : Option Value} {v : Value} (hR : Rel ρ h w.heap) (hx : V ρ x x') (h1 : VO ρ lo lo') (h2 : VO ρ hi hi') (h3 : VO ρ mx mx')
    (hs : sliceA P t x lo hi mx h = some v) : ∃ v', (Instr.sliceAt t x' lo' hi' mx').run P w = .ok v' w ∧ V ρ v v' := by
  unfold sliceA at hs
  split at hs
  · rename_i elem a len cap hu
    cases hx with
    | slice _ b _ _ c hn hS =>
      split at hs
      · rename_i inf l hh m hinf hb
        split at hs
        · rename_i hcut
          cases hs
          obtain ⟨rfl, rfl, rfl⟩ := boundsA_same h1 h2 h3 hb
          have hle := boundsA_le hb
          have hkc : cap ≤ c := by
            obtain ⟨i, _, _, _, hS'⟩ := hS
            rcases hS' with ⟨rfl, _⟩ | ⟨_, hk, _⟩
            · exact Nat.le_refl _
            · exact hk
          refine ⟨_, by
            simp only [Instr.sliceAt, Instr.slice, Sem.run_bind, run_underlying hu, Result.andThen_ok, boundsA_run (P := P) hb hkc, run_size hinf, Option.map_some]
            rfl, ?_⟩
          have hc := cut_rel (mx := mx'.isSome) hR hS hcut hle.1 hle.2.1 hle.2.2.1 (fun e => hle.2.2.2 (by cases mx' <;> simp_all))
          have hif : ∀ (p : Prop) [Decidable p], (if p then some b else some (b.add (l * inf.size))) = some (if p then b else b.add (l * inf.size)) := by intro p _; split <;> rfl
          rw [hif]
          exact .slice _ _ _ _ _ (by omega) hc
        · cases hs
      · cases hs
  · rename_i elem len cap hu
    cases hx with
    | nilSlice _ _ =>
      split at hs
      · rename_i inf l hh m hinf hb
        cases hs
        obtain ⟨rfl, rfl, rfl⟩ := boundsA_same h1 h2 h3 hb
        have hle := boundsA_le hb
        have hm' : (if mx'.isSome then m else cap) = m := by
          cases mx' with
          | none => simp [hle.2.2.2 rfl]
          | some _ => rfl
        refine ⟨.slice none (hh - l) (m - l), ?_, .nilSlice _ _⟩
        simp only [Instr.sliceAt, Instr.slice, Sem.run_bind, run_underlying hu, Result.andThen_ok, boundsA_run (P := P) hb (Nat.le_refl _), run_size hinf, Option.map_none, hm']
        split <;> rfl
      · cases hs
  · rename_i n elem a hu
    cases hx with
    | pointer _ b hA =>
      split at hs
      · rename_i inf l hh m hinf hb
        cases hs
        obtain ⟨rfl, rfl, rfl⟩ := boundsA_same h1 h2 h3 hb
        have hle := boundsA_le hb
        have hm' : (if mx'.isSome then m else n) = m := by
          cases mx' with
          | none => simp [hle.2.2.2 rfl]
          | some _ => rfl
        refine ⟨.slice (some (if m = l then b else b.add (l * inf.size))) (hh - l) (m - l), ?_, .slice _ _ _ _ _ (by omega) ?_⟩
        · simp only [Instr.sliceAt, Instr.sureAddr, Sem.run_bind, run_underlying hu, Result.andThen_ok, Sem.run_pure, boundsA_run (P := P) hb (Nat.le_refl _), run_size hinf, hm']
        · obtain ⟨i, e, e1, e2, e3⟩ : ARel ρ (if m = l then a else a.add (l * inf.size)) (if m = l then b else b.add (l * inf.size)) := by split; exact hA; exact hA.add _
          exact ⟨i, e, e1, e3, .inl ⟨rfl, e2⟩⟩
      · cases hs
  · rename_i s hu
    split at hs
    · cases hs
    rename_i hmx
    split at hs
    · rename_i l hh m hb
      cases hs
      have hmx0 : mx = none := by cases mx <;> simp_all
      subst hmx0
      obtain ⟨rfl, rfl, rfl⟩ := boundsA_same h1 h2 h3 hb
      cases hx with
      | string _ =>
        refine ⟨_, ?_, .string _⟩
        simp [Instr.sliceAt, Instr.slice, run_underlying hu, boundsA_run (P := P) hb (Nat.le_refl _)]
    · cases hs
  · cases hs

end
end Go.AE
