/-
  AE, part 29: trees set in any order are the same trees; rows written in place; what is said of a function that writes what it was given.
-/
import Derived.Test.YtimngnabpolgkaaGreatInG9
namespace Go.AE
noncomputable section
set_option linter.unusedSimpArgs false
set_option linter.unusedVariables false
variable {P : Program} {E : Env} {ov : Over}


theorem AH.set_set (h : AH) (b : Nat) (x y : AObj) : (h.set b x).set b y = h.set b y := by
  unfold AH.set; simp only [PT.set_set]
theorem AH.set_comm (h : AH) {b c : Nat} (x y : AObj) (hne : b ≠ c) : (h.set b x).set c y = (h.set c y).set b x := by
  unfold AH.set; simp only; rw [PT.set_comm _ _ _ hne]
theorem AH.push_set (h : AH) {b : Nat} (x y : AObj) (hlt : b < h.next) : (h.push x).set b y = (h.set b y).push x := by
  unfold AH.set AH.push; simp only; rw [PT.set_comm _ _ _ (by omega)]
theorem AH.push_set_same (h : AH) (x y : AObj) : (h.push x).set h.next y = h.push y := by
  unfold AH.set AH.push; simp only [PT.set_set]

theorem Row.set_set (r : Row) (i : Nat) (a b : Option Value) : (r.set i a).set i b = r.set i b := by
  unfold Row.set; simp only [PT.set_set]
theorem Row.set_comm (r : Row) {i j : Nat} (a b : Option Value) (h : i ≠ j) : (r.set i a).set j b = (r.set j b).set i a := by
  unfold Row.set; simp only; rw [PT.set_comm _ _ _ h]
theorem putRow_set : ∀ (l : List Value) (c : Row) (k off : Nat) (a : Option Value), off < k → (putRow c k l).set off a = putRow (c.set off a) k l
  | [], _, _, _, _, _ => rfl
  | x :: r, c, k, off, a, h => by
    simp only [putRow_cons]
    rw [putRow_set r _ _ _ _ (by omega), Row.set_comm _ _ _ (by omega)]
theorem putRow_in : ∀ (l : List Value) (c : Row) (k j : Nat) (v : Value), j < l.length → (putRow c k l).set (k + j) (some v) = putRow c k (l.set j v)
  | [], _, _, _, _, h => by simp at h
  | x :: r, c, k, 0, v, h => by
    simp only [putRow_cons, List.set_cons_zero, Nat.add_zero]
    rw [putRow_set _ _ _ _ _ (by omega), Row.set_set]
  | x :: r, c, k, j + 1, v, h => by
    simp only [putRow_cons, List.set_cons_succ]
    rw [show k + (j + 1) = k + 1 + j by omega, putRow_in r _ _ _ _ (by simpa using h)]
theorem ofRow_set (l : List Value) (j : Nat) (v : Value) (h : j < l.length) : (ofRow l).set j (some v) = ofRow (l.set j v) := by
  have := putRow_in l .leaf 0 j v h
  rwa [Nat.zero_add] at this
theorem putRow_append : ∀ (l r : List Value) (c : Row) (k : Nat), putRow c k (l ++ r) = putRow (putRow c k l) (k + l.length) r
  | [], _, _, _ => rfl
  | x :: l, r, c, k => by
    simp only [List.cons_append, putRow_cons, List.length_cons]
    rw [putRow_append l r, show k + 1 + l.length = k + (l.length + 1) by omega]
theorem ofRow_snoc (l : List Value) (v : Value) : (ofRow l).set l.length (some v) = ofRow (l ++ [v]) := by
  unfold ofRow; rw [putRow_append, Nat.zero_add, putRow_cons]; rfl

/-- What is written into a place of a row. -/
def stK (h : AH) (b off : Nat) (v : Value) (o : Option AObj) : Option AH :=
  match o with
  | some (.cells c n elem fz esz op false d) =>
    if decide (off + 1 ≤ n) && (decide (off + 1 ≤ fz.1) || decide (fz.2 ≤ off)) then some (h.set b (.cells (putRow c off [v]) n elem fz esz op false d)) else none
  | _ => none
theorem storeA_one {t : TypeId} (hs : (P.info? t).map (·.size) = some 1) (b off : Nat) {v : Value} (hc : v.cells = #[v]) (h1 : v.oneCell' = true) (h : AH) : storeA P t ⟨b, off, none⟩ v h = stK h b off v (h.get b) := by
  obtain ⟨i, hi, e⟩ := Option.map_eq_some_iff.1 hs
  simp only [storeA, hi, hc, e, putCells, stK]
  rw [if_pos (by rfl)]
  cases h.get b with
  | none => rfl
  | some o => cases o with
    | cells c n elem fz esz op ro d => cases ro <;> simp [h1]
    | _ => rfl
theorem storeA_intR {t : TypeId} (hs : (P.info? t).map (·.size) = some 1) (b off : Nat) (k : IntKind) (n : Int) (h : AH) : storeA P t ⟨b, off, none⟩ (.int k n) h = stK h b off (.int k n) (h.get b) := storeA_one hs b off rfl rfl h
theorem storeA_sliceR {t : TypeId} (hs : (P.info? t).map (·.size) = some 1) (b off : Nat) (a : Option Addr) (n c : Nat) (h : AH) : storeA P t ⟨b, off, none⟩ (.slice a n c) h = stK h b off (.slice a n c) (h.get b) := storeA_one hs b off rfl rfl h
theorem stK_row (h : AH) (b off : Nat) (v : Value) (l : List Value) (e : TypeId) (z : Nat) (op : Bool) :
    stK h b off v (some (rowObj l e z op)) = if off < l.length then some (h.set b (rowObj (l.set off v) e z op)) else none := by
  unfold stK rowObj
  by_cases c : off < l.length
  · have e1 : putRow (ofRow l) off [v] = ofRow (l.set off v) := by
      rw [putRow_cons]
      exact ofRow_set l off v c
    simp only [c, e1, List.length_set]
    simp; omega
  · simp [c]; omega

/-- A row of which so many places have been written. -/
def partRow (l : List Value) (n : Nat) (e : TypeId) (d : Value) : AObj := .cells (ofRow l) n e (0, 0) 0 false false d

theorem append_fit {sT elem : TypeId} (ho : One P sT elem) (ty : TypeId) {B len cap b c n : Nat} {h : AH} {l : List Value} {d v : Value} (hB : h.get B = some (partRow l n elem d)) (hl : l.length = len) (hlt : len < cap) (hc : cap ≤ n)
    (hb : oneOf (h.get b) = some v) (hv : v.oneCell' = true) :
    builtinA P .append ⟨[sT, sT]⟩ ty ⟨[.slice (some ⟨B, 0, none⟩) len cap, .slice (some ⟨b, 0, none⟩) 1 c]⟩ h = some (.val (.slice (some ⟨B, 0, none⟩) (len + 1) cap) (h.set B (partRow (l ++ [v]) n elem d))) := by
  obtain ⟨inf, z, hu, hn, hz, hi, h1, h8, hz1⟩ := ho
  have hsrc : srcA (.slice (some ⟨b, 0, none⟩) 1 c) 1 1 h = some [v] := by
    unfold oneOf at hb
    split at hb
    · rename_i cc m e fz esz op ro dd hg
      split at hb
      · rename_i hm
        simp only [Option.some.injEq] at hb
        simp only [srcA, hg, Option.isNone_none, Nat.mul_one, Nat.zero_add, hm, and_self, if_true, rowA, hb]
      · cases hb
    · cases hb
  simp only [builtinA]
  rw [appendA2_one (sT := sT) (elem := elem) (by simp) hu hz h1 (fun x n hx hn => by simp at hx; subst hx; simp only [lenA, Option.some.injEq] at hn; omega)]
  simp only [appendA, List.getElem?_toArray, List.getElem?_cons_zero, List.getElem?_cons_succ, hu, hn, hz, lenA, h1, hsrc]
  rw [if_pos (by omega)]
  have e1 : ((⟨B, 0, none⟩ : Addr).add (len * 1)) = ⟨B, len, none⟩ := by
    unfold Addr.add; split
    · have : len = 0 := by omega
      subst this; rfl
    · simp
  have e2 : putRow (ofRow l) len [v] = ofRow (l ++ [v]) := by rw [← hl, putRow_cons]; exact ofRow_snoc l v
  have e3 : putCells ⟨B, len, none⟩ [v] h = some (h.set B (partRow (l ++ [v]) n elem d)) := by
    unfold putCells
    simp only [hB, partRow, putB_one, e2]
    rw [if_pos]
    simp [hv]; omega
  rw [if_neg (by simp), if_pos (by omega), e1, e3]
  rfl

/-- A new row of noughts. -/
theorem makeSlice_part {sT elem : TypeId} (ho : One P sT elem) {d : Value} (hd : (zeroA P elem).bind (fun r => uni r.2.cells) = some d) (c : Int) (h0 : 0 ≤ c) (h1 : c ≤ 1048576) (h : AH) :
    makeSliceA P sT (.int .i64 0) (.int .i64 c) h = some (.slice (some ⟨h.next, 0, none⟩) 0 c.toNat, h.push (partRow [] c.toNat elem d)) := by
  obtain ⟨inf, z, hu, hn, hz, hi, hs, h8, hz1⟩ := ho
  rw [hz] at hd
  simp only [Option.bind_some] at hd
  have hb : (inf.bytes : Int) * c ≤ 2 ^ 48 := by
    have hb1 : (inf.bytes : Int) ≤ 8 := by omega
    have : (inf.bytes : Int) * c ≤ 8 * c := Int.mul_le_mul_of_nonneg_right hb1 h0
    omega
  unfold makeSliceA
  simp only [hu, hz, hd, hs]
  rw [if_pos ⟨by omega, h0, by omega, hb, .inr (by omega)⟩]
  simp [partRow, ofRow, putRow, Row.pforce_eq]

/-- What is said of a function that writes what it was given and makes new objects. -/
theorem SumOk.eff (hq : Quiet P) (hmix : P.follows .mixedOrders = true) (hov : OverOk P ov) {f : FuncId} {g : Array Value → AH → Option (Value × AH)}
    (hg : ∀ args h v h₁, g args h = some (v, h₁) → ∃ n v₂ h₂ π, callFn P (env P ov n) f args h = some (v₂, h₂) ∧ VV h₁.next π v v₂ ∧ h.next ≤ h₁.next ∧ (∀ β, β < h.next → π β = β) ∧
      (∀ β o, β < h.next → h₁.get β = some o → (h.get β = some o ∧ h₂.get β = some o) ∨ ∃ o', h₂.get β = some o' ∧ OO h₁.next π o o') ∧
      (∀ β o, h.next ≤ β → h₁.get β = some o → β < h₁.next ∧ h.next ≤ π β ∧ ∃ o', h₂.get (π β) = some o' ∧ OO h₁.next π o o') ∧
      (∀ β γ, h.next ≤ β → h.next ≤ γ → β < h₁.next → γ < h₁.next → π β = π γ → β = γ)) : SumOk P f g := by
  refine SumOk.of_eval hq hmix hov fun args h v h₁ hgs => ?_
  obtain ⟨n, v₂, h₂, π, hc, hvv, hn, hid, hold, hnew, hinj⟩ := hg args h v h₁ hgs
  refine ⟨n, v₂, h₂, hc, fun ρ w hR => ⟨π, ⟨hn, hid, fun β o ho => ?_, fun β γ o p ho hp e => ?_⟩, hvv⟩⟩
  · by_cases hβ : β < h.next
    · refine ⟨Nat.lt_of_lt_of_le hβ hn, ?_⟩
      rw [hid β hβ]
      rcases hold β o hβ ho with ⟨a, b⟩ | ⟨o', a, b⟩
      · obtain ⟨i, bb, hi, _, hO⟩ := hR.obj β o a
        refine ⟨o, b, OO.self hO fun γ j hj => ?_⟩
        have := (hR.lt γ j hj).2
        exact ⟨Nat.lt_of_lt_of_le this hn, hid γ this⟩
      · exact ⟨o', a, b⟩
    · obtain ⟨a, _, c⟩ := hnew β o (by omega) ho
      exact ⟨a, c⟩
  · by_cases hβ : β < h.next
    · by_cases hγ : γ < h.next
      · rwa [hid β hβ, hid γ hγ] at e
      · obtain ⟨_, b, _⟩ := hnew γ p (by omega) hp
        rw [hid β hβ] at e; omega
    · obtain ⟨a1, b1, _⟩ := hnew β o (by omega) ho
      by_cases hγ : γ < h.next
      · rw [hid γ hγ] at e; omega
      · obtain ⟨a2, b2, _⟩ := hnew γ p (by omega) hp
        exact hinj β γ (by omega) (by omega) a1 a2 e

theorem OO.rows {N : Nat} {π : Nat → Nat} {l : List Value} {n e z : TypeId} {op : Bool} {d : Value} {c : Row} (hn : l.length = n) (hl : l.all plain1 = true) (hg : ∀ j, j < n → (c.get j).getD d = l.getD j undef) :
    OO N π (rowObj l e z op) (.cells c n e (0, 0) z op false d) := by
  subst hn
  refine ⟨c, d, rfl, fun j hj => ?_⟩
  rw [hg j hj, get_ofRow, if_pos hj]
  simp only [Option.getD_some]
  have : l.getD j undef = l[j] := by simp [List.getD, hj]
  rw [this]
  exact VV.plain1 (by rw [List.all_eq_true] at hl; exact hl _ (List.getElem_mem hj))
theorem OO.part {N : Nat} {π : Nat → Nat} {l : List Value} {e : TypeId} {d : Value} (hl : l.all plain1 = true) : OO N π (rowObj l e 0 false) (partRow l l.length e d) :=
  OO.rows rfl hl fun j hj => by rw [get_ofRow, if_pos hj]; rfl

theorem callFn_ex {Q : Value × AH → Prop} {f : FuncId} {fn : Func} {c : Code} (hf : P.funcs[f]? = some fn) (hb : fn.body = some c) (args : List Value) (h : AH) (hn : args.length ≤ fn.ntmps)
    (hT : ∀ T : List Value, T.length = fn.ntmps → (∀ i, T.getD i undef = args.getD i undef) → ∃ r, endK P fn.results.toList (evalC P E none c ⟨⟨T⟩, [], h⟩) = some r ∧ Q r) : ∃ r, callFn P E f ⟨args⟩ h = some r ∧ Q r := by
  rw [callFn_eq hf hb]
  exact hT _ (length_pad _ _ hn) (getD_pad _ _)

/-! ### Method values; a struct's fields -/
theorem calleeK_first {g : FuncId} {h : AH} (first : List Value) (args : List Value) (hb : ((P.funcs[g]?).bind (·.body)).isSome = true) : calleeK P (.func (.func g) ⟨first⟩ #[]) args h = some (.enter g ⟨first ++ args⟩) := by
  simp [calleeK, hb]
section
variable (e : Operand → Value) (h : AH) (d : Option Tmp) (t : TypeId) (pos : String) (after : Array Edge) (g : Option (Nat × Bool))
def nilCk (v : Value) (h : AH) : Option AR :=
  match v with
  | .pointer (some a) => some (.val (.pointer (some a)) h)
  | .func (.func f) xs cs => some (.val (.func (.func f) xs cs) h)
  | _ => none
theorem opA_nilCheck (x : Operand) : opA P e h ⟨d, .nilCheck x, t, pos, after, g⟩ = nilCk (e x) h := rfl
theorem opA_makeSlice (u : TypeId) (l c : Operand) : opA P e h ⟨d, .makeSlice u l c, t, pos, after, g⟩ = (makeSliceA P u (e l) (e c) h).map fun r => .val r.1 r.2 := rfl
theorem opA_makeFunc (f : FuncId) (fs : List Operand) : opA P e h ⟨d, .makeFunc (.func f) ⟨fs⟩ ⟨[]⟩, t, pos, after, g⟩ = some (.val (.func (.func f) ⟨fs.map e⟩ #[]) h) := by
  have e1 : (⟨fs⟩ : Array Operand).map e = ⟨fs.map e⟩ := by apply Array.ext'; simp
  have e2 : (⟨[]⟩ : Array Operand).map e = #[] := by apply Array.ext'; simp
  show some (AR.val (.func (.func f) ((⟨fs⟩ : Array Operand).map e) ((⟨[]⟩ : Array Operand).map e)) h) = _
  rw [e1, e2]
theorem nilCk_pointer (a : Addr) : nilCk (.pointer (some a)) h = some (.val (.pointer (some a)) h) := rfl
end
end
end Go.AE
