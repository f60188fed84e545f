/-
  AE, part 30: rows whose cells are told by a tree; arrays of small numbers; conversions of numbers.
-/
import Derived.Test.YtimngnabpolgkaaGreatInG10
import Derived.Test.YtimngnabpolgkaaGreatInG19
namespace Go.AE
noncomputable section
set_option linter.unusedSimpArgs false
set_option linter.unusedVariables false
variable {P : Program} {E : Env} {ov : Over}

/-- An array whose elements are one cell each. -/
def Arr1 (P : Program) (t : TypeId) (n : Nat) (e : TypeId) : Prop := P.underlying t = some (.array n e) ∧ ∃ inf, P.info? e = some inf ∧ inf.size = 1

theorem indexAddrA_arr {t e : TypeId} {n : Nat} (h : Arr1 P t n e) (k : IntKind) (i : Int) (b o : Nat) :
    indexAddrA P t (.pointer (some ⟨b, o, none⟩)) (.int k i) = if 0 ≤ i ∧ i < n then some (.pointer (some ⟨b, o + i.toNat, none⟩)) else none := by
  obtain ⟨hu, inf, hi, hs⟩ := h
  unfold indexAddrA
  simp only [hu, hi, hs, Nat.mul_one, Addr.add]
  by_cases e : i.toNat = 0
  · simp only [e, if_true, Nat.add_zero]
  · simp only [e, if_false]

theorem rowK_cells {t : TypeId} (ha : isAggT P t = some false) (off : Nat) (c : Row) (n e : Nat) (fz : Nat × Nat) (z : Nat) (op ro : Bool) (d : Value) :
    rowK P t off (some (.cells c n e fz z op ro d)) = if off < n then some ((c.get off).getD d) else none := by
  unfold rowK; simp only [ha]
theorem rowK_agg {t : TypeId} {m : Nat} (ha : isAggT P t = some true) (hm : (P.info? t).map (·.size) = some m) (off : Nat) (c : Row) (n e : Nat) (fz : Nat × Nat) (z : Nat) (op ro : Bool) (d : Value) :
    rowK P t off (some (.cells c n e fz z op ro d)) = if off + m ≤ n then some (.agg ⟨rowA c d off m⟩) else none := by
  obtain ⟨i, hi, e⟩ := Option.map_eq_some_iff.1 hm
  subst e
  unfold rowK; simp only [ha, hi, rowB_eq]
theorem stK_cells (h : AH) (b off : Nat) (v : Value) (c : Row) (n e z : Nat) (op : Bool) (d : Value) :
    stK h b off v (some (.cells c n e (0, 0) z op false d)) = if off < n then some (h.set b (.cells (c.set off (some v)) n e (0, 0) z op false d)) else none := by
  unfold stK
  have e1 : putRow c off [v] = c.set off (some v) := by rw [putRow_cons]; rfl
  by_cases hl : off < n
  · simp only [e1, hl, if_true]
    rw [if_pos]
    simp; omega
  · simp only [hl, if_false]
    rw [if_neg]
    simp; omega

def convK (P : Program) (s d : TypeId) (v : Value) (h : AH) : Option AR := if plain v then (plainOf P (convert s d v)).map fun v => .val v h else none
theorem opA_convert (e : Operand → Value) (h : AH) (d : Option Tmp) (t : TypeId) (pos : String) (after : Array Edge) (g : Option (Nat × Bool)) (s u : TypeId) (x : Operand) :
    opA P e h ⟨d, .convert s u x, t, pos, after, g⟩ = convK P s u (e x) h := rfl
theorem convK_int {s d : TypeId} {ds : TypeDesc} {k : IntKind} (hs : P.underlying s = some ds) (hd : P.underlying d = some (.int k)) (k' : IntKind) (m : Int) (h : AH) :
    convK P s d (.int k' m) h = some (.val (.int k (k.wrap m)) h) := by
  have hp : plain (.int k' m) = true := rfl
  have : semP P (convert s d (.int k' m)) = some (.int k (k.wrap m)) := by
    simp only [convert]
    rw [semP_bind, semP_underlying hs]
    simp only
    rw [semP_bind, semP_underlying hd]
    rfl
  simp only [convK, hp, if_true, plainOf, this]
  rfl

/-! ### Slots that are the same but for some -/
def setAllL (l : List (Nat × Value)) (T : List Value) : List Value := l.foldl (fun T p => T.set p.1 p.2) T
theorem setL_mk : ∀ (l : List (Nat × Value)) (T : List Value), setL l ⟨T⟩ = ⟨setAllL l T⟩
  | [], T => rfl
  | (i, v) :: l, T => by
    have := setL_mk l (T.set i v)
    unfold setL setAllL at this ⊢
    simp only [List.foldl_cons]
    rw [← this]
    congr 1
    apply Array.ext'; simp

/-- The same everywhere but in these places. -/
def Agree (D : List Nat) (T T' : List Value) : Prop := T.length = T'.length ∧ ∀ j, j ∉ D → T[j]? = T'[j]?
theorem Agree.refl (D : List Nat) (T : List Value) : Agree D T T := ⟨rfl, fun _ _ => rfl⟩
theorem Agree.trans {D : List Nat} {T U V : List Value} (h : Agree D T U) (k : Agree D U V) : Agree D T V := ⟨h.1.trans k.1, fun j hj => (h.2 j hj).trans (k.2 j hj)⟩
theorem Agree.symm {D : List Nat} {T U : List Value} (h : Agree D T U) : Agree D U T := ⟨h.1.symm, fun j hj => (h.2 j hj).symm⟩
theorem Agree.set {D : List Nat} {T U : List Value} {i : Nat} (v : Value) (hi : D.contains i = true) (h : Agree D T U) : Agree D (T.set i v) U := by
  refine ⟨by simp [h.1], fun j hj => ?_⟩
  have hne : i ≠ j := fun e => hj (by subst e; simpa using hi)
  rw [List.getElem?_set_ne hne]; exact h.2 j hj
theorem Agree.sub {D D' : List Nat} {T U : List Value} (h : Agree D T U) (hs : D.all (fun j => D'.contains j) = true) : Agree D' T U :=
  ⟨h.1, fun j hj => h.2 j fun hd => hj (by have := List.all_eq_true.1 hs j hd; simpa using this)⟩
theorem Agree.getD {D : List Nat} {T U : List Value} (h : Agree D T U) (j : Nat) (hj : D.contains j = false) (d : Value) : T.getD j d = U.getD j d := by
  simp only [List.getD_eq_getElem?_getD]
  rw [h.2 j (by intro e; simp [e] at hj)]
theorem Agree.setAll : ∀ (l : List (Nat × Value)) (T U : List Value), Agree (l.map (·.1)) T U → setAllL l T = setAllL l U
  | [], T, U, h => by
    show T = U
    exact List.ext_getElem? fun j => h.2 j (by simp)
  | (i, v) :: l, T, U, h => by
    show setAllL l (T.set i v) = setAllL l (U.set i v)
    refine Agree.setAll l _ _ ⟨by simp [h.1], fun j hj => ?_⟩
    simp only [List.getElem?_set]
    by_cases e : i = j
    · subst e; simp [h.1]
    · simp only [e, if_false]
      exact h.2 j (by simp only [List.map_cons, List.mem_cons, not_or]; exact ⟨fun x => e x.symm, hj⟩)
/-- What is set is there already. -/
theorem setAll_same : ∀ (l : List (Nat × Value)) (T : List Value), (∀ p ∈ l, p.1 < T.length ∧ T.getD p.1 undef = p.2) → setAllL l T = T
  | [], T, _ => rfl
  | (i, v) :: l, T, h => by
    obtain ⟨h1, h2⟩ := h (i, v) (by simp)
    have : T.set i v = T := by
      apply List.ext_getElem?
      intro j
      rw [List.getElem?_set]
      by_cases e : i = j
      · subst e
        simp only [h1, if_true]
        simp only [List.getD_eq_getElem?_getD, List.getElem?_eq_getElem h1, Option.getD_some] at h2
        rw [List.getElem?_eq_getElem h1, h2]
      · simp [e]
    show setAllL l (T.set i v) = T
    rw [this]
    exact setAll_same l T fun p hp => h p (by simp [hp])
/-- Out of slots that agree and have what is set. -/
theorem Agree.done {l : List (Nat × Value)} {T U : List Value} (h : Agree (l.map (·.1)) T U) (k : ∀ p ∈ l, p.1 < T.length ∧ T.getD p.1 undef = p.2) : T = setAllL l U := by
  rw [← Agree.setAll l T U h, setAll_same l T k]

/-- The code in a block. -/
def blockAt (n : Nat) : Code → Option Code
  | .block id c => if id = n then some c else blockAt n c
  | .seq a b => match blockAt n a with
    | some r => some r
    | none => blockAt n b
  | .cond _ a b => match blockAt n a with
    | some r => some r
    | none => blockAt n b
  | .loop a => blockAt n a
  | .scope a => blockAt n a
  | .rangeFunc _ _ a b => match blockAt n a with
    | some r => some r
    | none => blockAt n b
  | _ => none

theorem loadA_set_ne {t : TypeId} {x : Addr} {h : AH} {b : Nat} {o : AObj} (hne : x.block ≠ b) : loadA P t x (h.set b o) = loadA P t x h := by
  unfold loadA
  rw [AH.get_set, if_neg hne]
theorem AH.set_get_same (h : AH) (b : Nat) (o p : AObj) : (h.set b o).set b p = h.set b p := AH.set_set h b o p


theorem VV.aggP {N : Nat} {π : Nat → Nat} {cs : Array Value} (h : cs.all AE.plain1 = true) : VV N π (.agg cs) (.agg cs) := by
  rw [Array.all_eq_true] at h
  refine .agg cs cs rfl fun j hj => ?_
  have e : cs.getD j (.tuple #[]) = cs[j] := by simp [Array.getD, hj]
  rw [e]; exact VV.plain1 (h j hj)

/-- A result without addresses, and litter. -/
theorem SumOk.litterV (hq : Quiet P) (hmix : P.follows .mixedOrders = true) (hov : OverOk P ov) {f : FuncId} {g : Array Value → AH → Option (Value × AH)}
    (hg : ∀ args h v h₁, g args h = some (v, h₁) → h₁ = h ∧ (∀ N π, VV N π v v) ∧ ∃ n h₂, callFn P (env P ov n) f args h = some (v, h₂) ∧
      ∀ β, β < h.next → h₂.get β = h.get β) : SumOk P f g := by
  refine SumOk.of_eval hq hmix hov fun args h v h₁ hgs => ?_
  obtain ⟨rfl, hp, n, h₂, hc, hk⟩ := hg args h v h₁ hgs
  refine ⟨n, v, h₂, hc, fun ρ w hR => ⟨fun β => β, ?_, hp _ _⟩⟩
  refine ⟨Nat.le_refl _, fun _ _ => rfl, fun β o ho => ?_, fun _ _ _ _ _ _ e => e⟩
  obtain ⟨i, b, hi, _, hO⟩ := hR.obj β o ho
  have hlt := (hR.lt β i hi).2
  exact ⟨hlt, o, by rw [hk β hlt]; exact ho, OO.self hO fun γ j hj => ⟨(hR.lt γ j hj).2, rfl⟩⟩
theorem rowA_leaf (d : Value) : ∀ (n off : Nat), rowA (.leaf : Row) d off n = List.replicate n d
  | 0, _ => rfl
  | n + 1, off => by
    rw [List.replicate_succ, ← rowA_leaf d n (off + 1)]
    simp [rowA]
theorem rowA_putRow (c : Row) (d : Value) (off : Nat) (vs : List Value) : rowA (putRow c off vs) d off vs.length = vs := by
  apply List.ext_getElem?
  intro j
  by_cases hj : j < vs.length
  · rw [getElem?_rowA _ _ _ _ _ hj, get_putRow, if_pos (by omega)]
    simp [hj]
  · rw [List.getElem?_eq_none (by simp; omega), List.getElem?_eq_none (by omega)]

/-! ### Bits of numbers that are not negative -/
theorem toIV_int (k : IntKind) (m : Nat) : toIV (.int k (m : Int)) = .nat k m := rfl
theorem fit_some {k : IntKind} {r : Nat} {sl : Option Value} (h : r < lim k) : fit k r sl = some (.int k (r : Int)) := by
  unfold fit; rw [PT.brec, if_pos (Nat.ble_eq_true_of_le h)]; rfl
theorem kint2_int {slow : Value → Value → Option Value} {f : IntKind → Nat → Nat → Option Value → Option Value} (k : IntKind) (m n : Nat) :
    kint2 slow f (.int k (m : Int)) (.int k (n : Int)) = f k m n (slow (.int k m) (.int k n)) := by
  unfold kint2; rw [toIV_int, toIV_int]
  show Bool.rec (motive := fun _ => Option Value) _ _ _ = _
  rw [PT.brec, if_pos (Nat.beq_refl _)]
theorem fBit_some {g : Nat → Nat → Nat} {k : IntKind} {m n : Nat} {sl : Option Value} (hm : m < lim k) (hn : n < lim k) (hr : g m n < lim k) : fBit g k m n sl = some (.int k ((g m n : Nat) : Int)) := by
  unfold fBit
  rw [PT.brec, if_pos (Nat.ble_eq_true_of_le hm), PT.brec, if_pos (Nat.ble_eq_true_of_le hn), forceN_eq, fit_some hr]
theorem binA_xorN {t : TypeId} {ox oy : Operand} {k : IntKind} {m n : Nat} (hm : m < lim k) (hn : n < lim k) (hr : m ^^^ n < lim k) : binA P .xor t ox oy (.int k (m : Int)) (.int k (n : Int)) = some (.int k ((m ^^^ n : Nat) : Int)) := by
  rw [← kbin_xor, kint2_int]; exact fBit_some (g := Nat.xor) hm hn hr
theorem binA_andN {t : TypeId} {ox oy : Operand} {k : IntKind} {m n : Nat} (hm : m < lim k) (hn : n < lim k) (hr : m &&& n < lim k) : binA P .and t ox oy (.int k (m : Int)) (.int k (n : Int)) = some (.int k ((m &&& n : Nat) : Int)) := by
  rw [← kbin_and, kint2_int]; exact fBit_some (g := Nat.land) hm hn hr
theorem binA_shrN {t : TypeId} {ox oy : Operand} {k k' : IntKind} {m n : Nat} (hn : n ≤ nb k) : binA P .shr t ox oy (.int k (m : Int)) (.int k' (n : Int)) = some (.int k ((m >>> n : Nat) : Int)) := by
  rw [← kbin_shr]
  unfold kint2s
  rw [toIV_int, toIV_int]
  show fShr _ _ _ _ = _
  unfold fShr
  rw [PT.brec, if_pos (Nat.ble_eq_true_of_le hn), forceN_eq]; rfl

/-- A plain call, of a result without addresses. -/
theorem SumOk.plainV (hq : Quiet P) (hmix : P.follows .mixedOrders = true) (hov : OverOk P ov) {f : FuncId} {g : Array Value → AH → Option (Value × AH)}
    (hg : ∀ args h v h₁, g args h = some (v, h₁) → h₁ = h ∧ args.all plain1 = true ∧ (∀ N π, VV N π v v) ∧ ∃ n h₂, callFn P (env P ov n) f args ⟨.leaf, 0⟩ = some (v, h₂)) : SumOk P f g := by
  intro args h v h₁ hgs ρ w args' k hR ha
  obtain ⟨rfl, hp, hpl, n, h₂, hc⟩ := hg args h v h₁ hgs
  refine (callFn_sound (env_sound hq hmix hov n) hq hmix hc k (Rel.empty w.heap) (VS.plainTo hp ha _)).mono ?_
  rintro e w' ⟨ρ₂, v', rfl, hst, hR2, hv2⟩
  have hn : ∀ β, h₁.next ≤ β → h₁.get β = none := fun β hβ => by
    cases e : h₁.get β with
    | none => rfl
    | some o =>
      obtain ⟨i, b, hi, _⟩ := hR.obj β o e
      exact absurd (hR.lt β i hi).2 (Nat.not_lt.2 hβ)
  obtain ⟨ρ₁, a, b, c⟩ := closed_sound hR hst hR2 hv2 (HC.none h₁ h₂ hn) (hpl _ _)
  exact ⟨ρ₁, v', rfl, a, b, c⟩

/-- Slices whose elements are one cell each, however many bytes these have. -/
def Sl1 (P : Program) (sT elem : TypeId) : Prop := P.underlying sT = some (.slice elem) ∧ ∃ inf, P.info? elem = some inf ∧ inf.size = 1
theorem len_sl {sT elem : TypeId} (ho : Sl1 P sT elem) (ty : TypeId) (a : Option Addr) (n c : Nat) (h : AH) : builtinA P .len ⟨[sT]⟩ ty ⟨[.slice a n c]⟩ h = some (.val (.int .i64 n) h) := by
  obtain ⟨hu, _⟩ := ho
  simp only [builtinA, lenB, List.getElem?_toArray, List.getElem?_cons_zero, hu]
  rfl
theorem indexAddrA_sl {sT elem : TypeId} (ho : Sl1 P sT elem) (k : IntKind) (i : Int) (x : Value) : indexAddrA P sT x (.int k i) = ixK i x := by
  obtain ⟨hu, inf, hi, hs⟩ := ho
  unfold ixK indexAddrA
  cases x with
  | slice a n c => cases a with
    | none => simp [hu]
    | some a => simp only [hu, hi, hs, Nat.mul_one]
  | _ => simp [hu]
theorem rowA_putB (c : Row) (d : Value) (n off : Nat) (vs : List Value) (hn : off + vs.length ≤ n) : rowA (putB c n off vs) d off vs.length = vs := by
  apply List.ext_getElem?
  intro j
  by_cases hj : j < vs.length
  · rw [getElem?_rowA _ _ _ _ _ hj, get_putB _ _ _ _ _ (by omega), if_pos (by omega)]
    simp [hj]
  · rw [List.getElem?_eq_none (by simp; omega), List.getElem?_eq_none (by omega)]
end
end Go.AE
