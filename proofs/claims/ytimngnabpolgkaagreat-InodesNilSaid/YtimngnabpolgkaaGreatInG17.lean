/-
  AE, part 28: laws whose arguments hold slices: memory that came in is read, no more.
-/
import Derived.Test.YtimngnabpolgkaaGreatInG16
import Derived.Test.YtimngnabpolgkaaGreatInG9
import Derived.Carry
import Derived.OpenShut
namespace Go.AE
noncomputable section
set_option linter.unusedSimpArgs false
set_option linter.unusedVariables false
open Go.RowKit Go.ChangeShapes Go.WideShapes
variable {P : Program} {ov : Over}

/-- A law, by its evaluation in a heap of blocks that are only read. -/
theorem law_eval (hq : Quiet P) (hmix : P.follows .mixedOrders = true) (hov : OverOk P ov) {f : FuncId} {args args' : Array Value} {h h₁ : AH} {n : Nat} (hc : callFn P (env P ov n) f args h = some (.bool true, h₁))
    {ρ : Ren} {w : World} (hR : Rel ρ h w.heap) (hro : ∀ β i, ρ β = some i → i.ro = true) (ha : VS ρ args args') :
    Calls P f args' w fun e w' => e = .returned (.bool true) ∧ Below w.heap.size w w' := by
  have h1 := callFn_sound (env_sound hq hmix hov n) hq hmix hc 0 hR ha
  refine (callsIn_wide.1 h1).mono ?_
  rintro e w' ⟨ρ', v', rfl, hst, _, hv⟩
  cases hv
  exact ⟨rfl, hst.below hro⟩

def absV (v : Value) : Value := if plain1 v = true then v else unk
theorem V.absV {ρ : Ren} (v : Value) : V ρ (AE.absV v) v := by
  unfold AE.absV
  split
  · exact V.refl1 (by assumption)
  · exact V.any v
/-- A block that came in. -/
def argObj (C : Array Value) (elem : TypeId) (fz : Nat × Nat) : AObj := .cells (ofRow (C.toList.map absV)) C.size elem fz 0 false true undef
def arg1 (C : Array Value) (elem : TypeId) (fz : Nat × Nat) : AH := ⟨PT.set .leaf 0 (some (argObj C elem fz)), 1⟩
def ren1 (b N : Nat) : Ren := fun β => if β = 0 then some ⟨b, 0, N, N, 0, false, true⟩ else none

theorem arg1_next (C : Array Value) (elem : TypeId) (fz : Nat × Nat) : (arg1 C elem fz).next = 1 := rfl
theorem arg1_get (C : Array Value) (elem : TypeId) (fz : Nat × Nat) : (arg1 C elem fz).get 0 = some (argObj C elem fz) := by
  show PT.get (PT.set .leaf 0 (some (argObj C elem fz))) 0 = _
  exact PT.get_set_same _ _ _
theorem Rel.arg1 {w : Array Obj} {b : Nat} {C : Array Value} {elem : TypeId} {fz : Nat × Nat} (hb : w[b]? = some (.cells C elem fz)) : Rel (ren1 b C.size) (AE.arg1 C elem fz) w where
  lt := fun β i h => by
    unfold ren1 at h
    split at h
    · cases h; rename_i e; subst e; exact ⟨(Array.getElem?_eq_some_iff.1 hb).1, Nat.zero_lt_one⟩
    · cases h
  obj := fun β o h => by
    unfold AE.arg1 AH.get at h
    simp only [PT.get_set] at h
    split at h
    · rename_i e; subst e; cases h
      refine ⟨_, _, rfl, hb, C, rfl, rfl, rfl, rfl, rfl, rfl, by simp, fun _ => ⟨rfl, rfl⟩, fun h => by (cases h), fun j hj => ?_⟩
      rw [get_ofRow, if_pos (by simpa using hj)]
      simp only [Option.getD_some, Nat.zero_add, List.getD_eq_getElem?_getD, List.getElem?_map, Array.getElem?_toList, Array.getD_eq_getD_getElem?]
      rw [Array.getElem?_eq_getElem hj]
      exact V.absV _
    · simp at h
  inj := fun β γ o p i j h1 h2 _ _ _ => by
    unfold AE.arg1 AH.get at h1 h2
    simp only [PT.get_set] at h1 h2
    split at h1
    · split at h2
      · rename_i e1 e2; rw [e1, e2]
      · simp at h2
    · simp at h1
theorem ren1_ro (b N : Nat) : ∀ β i, ren1 b N β = some i → i.ro = true := fun β i h => by
  unfold ren1 at h; split at h
  · cases h; rfl
  · cases h
theorem V.arg1 (b N off n c : Nat) (hn : n ≤ c) : V (ren1 b N) (.slice (some ⟨0, off, none⟩) n c) (.slice (some ⟨b, off, none⟩) n c) :=
  .slice _ _ _ _ _ hn ⟨_, rfl, rfl, rfl, .inl ⟨rfl, rfl⟩⟩
theorem rowK_arg {t : TypeId} (ha : isAggT P t = some false) {C : Array Value} {elem : TypeId} {fz : Nat × Nat} {j : Nat} {v : Value} (hv : C[j]? = some v) (hp : plain1 v = true) : rowK P t j (some (argObj C elem fz)) = some v := by
  have hlt := (Array.getElem?_eq_some_iff.1 hv).1
  unfold rowK argObj
  simp only [ha, hlt, if_true]
  rw [get_ofRow, if_pos (by simpa using hlt)]
  simp only [Option.getD_some, List.getD_eq_getElem?_getD, List.getElem?_map, Array.getElem?_toList, hv, Option.map_some]
  unfold AE.absV
  rw [if_pos hp]

theorem VS.nilL {ρ : Ren} : VS ρ ⟨[]⟩ ⟨[]⟩ := ⟨rfl, fun j hj => by simp at hj⟩
theorem VS.consL {ρ : Ren} {x y : Value} {xs ys : List Value} (h : V ρ x y) (hs : VS ρ ⟨xs⟩ ⟨ys⟩) : VS ρ ⟨x :: xs⟩ ⟨y :: ys⟩ := by
  obtain ⟨h1, h2⟩ := hs
  simp only [List.size_toArray] at h1 h2
  refine ⟨by simpa using h1, fun j hj => ?_⟩
  cases j with
  | zero => simpa [Array.getD] using h
  | succ j =>
    simp only [List.size_toArray, List.length_cons] at hj
    have := h2 j (by omega)
    simpa [Array.getD_eq_getD_getElem?] using this
theorem Rel.none1 (w : Array Obj) : Rel (fun _ => none) ⟨.leaf, 1⟩ w :=
  ⟨fun β i h => (by cases h), fun β o h => (by simp [AH.get] at h), fun β γ o p i j h => (by simp [AH.get] at h)⟩

/-- Behind the call all arguments read as they did. -/
theorem trodAll_below {H : Type} {enc : TypeId × Value → H} (hl : laidOutB P = true) {W W' : World} (hb : Below W.heap.size W W') : ∀ {ts : List TypeId} {vs : List Value} {ds : List (DataW H)} {ps : List MemPlace},
    (ts.all fun t => P.readableRec t && decide (t < P.types.size)) = true → DataW.TrodAll enc P W 0 (fun _ => true) true ts vs ds ps → (∀ x ∈ ps, x.block < W.heap.size) → ∀ sp : Nat → Bool, (∀ x ∈ ps, sp x.block = true) → DataW.TrodAll enc P W' 0 sp true ts vs ds ps
  | [], vs, ds, ps, _, h, _, sp, _ => by
    obtain ⟨rfl, rfl, rfl⟩ := trodAll_nil h
    rfl
  | t :: ts, vs, ds, ps, ht, h, hlt, sp, hsp => by
    obtain ⟨v, vs', d, ds', p, q, rfl, rfl, rfl, h0, hs⟩ := trodAll_cons h
    simp only [List.all_cons, Bool.and_eq_true, decide_eq_true_eq] at ht
    exact trodAll_cons_mk (WideElems.Trod_stays hl ht.1.1 ht.1.2 h0 (fun x hx => hb.same (hlt x (by simp [hx]))) (fun x hx => hsp x (by simp [hx])))
      (trodAll_below hl hb ht.2 hs (fun x hx => hlt x (by simp [hx])) sp (fun x hx => hsp x (by simp [hx])))

theorem rowAt_le {fits : TypeId → Bool} : ∀ {d : Nat} {e : TypeId} {count off n : Nat}, rowAt P fits d e count off n = true → off ≤ count * P.cellsOf e
  | 0, _, _, _, _, h => by simp [rowAt] at h
  | d + 1, e, count, off, n, h => by
    unfold rowAt at h
    simp only at h
    split at h
    · cases h
    · have hdm := Nat.div_add_mod off (P.cellsOf e)
      have hm : off % P.cellsOf e < P.cellsOf e := Nat.mod_lt _ (by omega)
      have key : off / P.cellsOf e < count ∨ (off % P.cellsOf e = 0 ∧ off / P.cellsOf e ≤ count) := by
        simp only [Bool.or_eq_true, Bool.and_eq_true, decide_eq_true_eq, beq_iff_eq] at h
        rcases h with h | h
        · exact .inr ⟨h.1.1, by omega⟩
        · exact .inl h.1
      rcases key with k | ⟨k1, k2⟩
      · have : P.cellsOf e * (off / P.cellsOf e + 1) ≤ P.cellsOf e * count := Nat.mul_le_mul_left _ k
        rw [Nat.mul_add] at this
        rw [Nat.mul_comm count]; omega
      · have : P.cellsOf e * (off / P.cellsOf e) ≤ P.cellsOf e * count := Nat.mul_le_mul_left _ k2
        rw [Nat.mul_comm count]; omega
theorem liesAt_le {e u : TypeId} {k : IntKind} {cells off n : Nat} (hu : P.underlying u = some (.int k)) {d : Nat} (h : liesAt P d e (cells / P.cellsOf e) off u n = true) : off ≤ cells := by
  cases d with
  | zero => simp [liesAt] at h
  | succ d =>
    unfold liesAt at h
    simp only [Bool.or_eq_true, hu] at h
    have h1 : rowAt P (sameLayout P P.depth · u) P.depth e (cells / P.cellsOf e) off n = true := by
      rcases h with h | h
      · exact h
      · cases h
    have h2 := rowAt_le h1
    have := Nat.div_mul_le_self cells (P.cellsOf e)
    omega

/-- A slice of ints that came in. -/
theorem open_arg_ints {H : Type} {enc : TypeId × Value → H} {W : World} {t e : TypeId} {k : IntKind} {v : Value} {d : DataW H} {ps : List MemPlace} {r : Reach} {base : Nat} (ht : P.underlying t = some (.slice e)) (he : P.underlying e = some (.int k)) (hc : P.cellsOf e = 1)
    (hok : Value.okWide P W r base t v) (h : DataW.Trod enc P W 0 (fun _ => true) true t v d ps) :
    ∃ (l : List Int), (∀ x ∈ l, (Lit.int k x).wf = true) ∧ ((v = .slice none 0 0 ∧ l = []) ∨
      ∃ b off c C elem fz, v = .slice (some ⟨b, off, none⟩) l.length c ∧ l.length ≤ c ∧ W.heap[b]? = some (.cells C elem fz) ∧ off ≤ C.size ∧ ∀ (i : Nat) x, l[i]? = some x → C[off + i]? = some (.int k x)) := by
  obtain ⟨a0, len, cap, rfl⟩ := okWide_slice ht hok
  obtain ⟨fuel, hf⟩ := h
  have hcs : (Value.slice a0 len cap).cells.toList = [.slice a0 len cap] := rfl
  rw [hcs] at hf
  rcases open_ints ht he hc hf with ⟨h1, _⟩ | ⟨a, len', cap', zs, h1, hb, hl, hm, hz, _, hcell, hw⟩
  · exact ⟨[], by simp, .inl ⟨by simpa using h1, rfl⟩⟩
  · simp only [List.cons.injEq, Value.slice.injEq, and_true] at h1
    obtain ⟨rfl, rfl, rfl⟩ := h1
    simp only [if_true] at hz
    have hok' : W.has P r base a e cap := by
      unfold Value.okWide at hok
      simp only [ht] at hok
      unfold Cell.okWide at hok
      simp only [ht] at hok
      unfold Cell.ok at hok
      simp only [ht] at hok
      exact hok.2.2
    obtain ⟨_, hsp, row, n, hsh, hlies⟩ := hok'
    obtain ⟨b, off, sp⟩ := a
    simp only at hsp hsh
    subst hsp
    unfold World.shape? at hsh
    split at hsh
    · rename_i C elem fz hC
      have hlen : (zs.take len).length = len := by simp; omega
      have hn : n = C.size := by cases hsh; rfl
      have hoff : off ≤ C.size := by
        rw [← hn]; exact liesAt_le he hlies
      refine ⟨zs.take len, fun x hx => hw x (List.mem_of_mem_take hx), .inr ⟨b, off, cap, C, elem, fz, by rw [hlen], by rw [hlen]; exact hl, hC, hoff, fun i x hi => ?_⟩⟩
      have hi' : i < len := by have := (List.getElem?_eq_some_iff.1 hi).1; omega
      have hx : zs.getD i 0 = x := by
        rw [List.getElem?_take, if_pos hi'] at hi
        simp [List.getD, hi]
      have := hcell i (by omega)
      rw [hx] at this
      unfold World.cell? at this
      have hbl : ((⟨b, off, none⟩ : Addr).add i) = ⟨b, off + i, none⟩ := by
        unfold Addr.add; split
        · rename_i e; subst e; rfl
        · rfl
      rw [hbl] at this
      simp only [hC] at this
      simpa using this
    · cases hsh

end
end Go.AE
