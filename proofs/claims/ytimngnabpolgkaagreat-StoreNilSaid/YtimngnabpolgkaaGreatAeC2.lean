/-
  AE, part 19: what is said of a function in place of its text: a result and a heap that stand, by other names, for those that the evaluator comes to; what it has left lying is left out.
-/
import Derived.Test.YtimngnabpolgkaaGreatAeC1
namespace Go.AE
noncomputable section
set_option linter.unusedSimpArgs false
set_option linter.unusedVariables false
variable {P : Program} {ρ : Ren}

inductive FnVV (N : Nat) (π : Nat → Nat) : Fn → Fn → Prop where
  | func (f : FuncId) : FnVV N π (.func f) (.func f)
  | method (s : String) : FnVV N π (.method s) (.method s)
  | methodOf (t : TypeId) (s : String) : FnVV N π (.methodOf t s) (.methodOf t s)
  | via (t : TypeId) (p : Array FieldStep) (f : FuncId) (b : Bool) : FnVV N π (.via t p f b) (.via t p f b)
  | yield (l : Nat) (h : l < N) : FnVV N π (.yield l) (.yield (π l))

/-- A value by other names. -/
inductive VV (N : Nat) (π : Nat → Nat) : Value → Value → Prop where
  | any (v : Value) : VV N π (.tuple #[.tuple #[]]) v
  | bool (b : Bool) : VV N π (.bool b) (.bool b)
  | int (k : IntKind) (n : Int) : VV N π (.int k n) (.int k n)
  | float (k : FloatKind) (n : Nat) : VV N π (.float k n) (.float k n)
  | string (s : ByteArray) : VV N π (.string s) (.string s)
  | nilPointer : VV N π (.pointer none) (.pointer none)
  | pointer (x : Addr) (h : x.block < N) : VV N π (.pointer (some x)) (.pointer (some { x with block := π x.block }))
  | nilSlice (n c : Nat) : VV N π (.slice none n c) (.slice none n c)
  | slice (x : Addr) (n k : Nat) (h : x.block < N) : VV N π (.slice (some x) n k) (.slice (some { x with block := π x.block }) n k)
  | nilMap : VV N π (.map none) (.map none)
  | map (r : Nat) (h : r < N) : VV N π (.map (some r)) (.map (some (π r)))
  | func (f f' : Fn) (as as' cs cs' : Array Value) (hf : FnVV N π f f') (ha : as.size = as'.size) (hc : cs.size = cs'.size)
      (h : ∀ j, j < as.size → VV N π (as.getD j (.tuple #[])) (as'.getD j (.tuple #[])))
      (k : ∀ j, j < cs.size → VV N π (cs.getD j (.tuple #[])) (cs'.getD j (.tuple #[]))) : VV N π (.func f as cs) (.func f' as' cs')
  | nilFunc : VV N π .nilFunc .nilFunc
  | iface (t : TypeId) (v v' : Value) (h : VV N π v v') : VV N π (.iface t v) (.iface t v')
  | nilIface : VV N π .nilIface .nilIface
  | agg (cs cs' : Array Value) (hc : cs.size = cs'.size) (h : ∀ j, j < cs.size → VV N π (cs.getD j (.tuple #[])) (cs'.getD j (.tuple #[]))) : VV N π (.agg cs) (.agg cs')
  | tuple (cs cs' : Array Value) (h1 : cs.size ≠ 1) (hc : cs.size = cs'.size) (h : ∀ j, j < cs.size → VV N π (cs.getD j (.tuple #[])) (cs'.getD j (.tuple #[]))) : VV N π (.tuple cs) (.tuple cs')
  | over : VV N π (.tuple #[.bool false]) (.tuple #[.bool false])

/-- The renaming of the names. -/
def via (N : Nat) (π : Nat → Nat) (ρ : Ren) : Ren := fun β => if β < N then ρ (π β) else none

theorem via_some {N : Nat} {π : Nat → Nat} {β : Nat} (h : β < N) : via N π ρ β = ρ (π β) := by simp [via, h]

theorem VV.trans {N : Nat} {π : Nat → Nat} {x y z : Value} (h : VV N π x y) (k : V ρ y z) : V (via N π ρ) x z := by
  induction h generalizing z with
  | any v => exact .any _
  | bool b => cases k; exact .bool b
  | int kk n => cases k; exact .int kk n
  | float kk n => cases k; exact .float kk n
  | string s => cases k; exact .string s
  | nilPointer => cases k; exact .nilPointer
  | pointer x hx =>
    cases k with
    | pointer _ a hA =>
      obtain ⟨i, e, r⟩ := hA
      exact .pointer x a ⟨i, by rw [via_some hx]; exact e, r⟩
  | nilSlice n c => cases k; exact .nilSlice n c
  | slice x n kk hx =>
    cases k with
    | slice _ a _ _ c hn hS =>
      obtain ⟨i, e, r⟩ := hS
      exact .slice x a n kk c hn ⟨i, by rw [via_some hx]; exact e, r⟩
  | nilMap => cases k; exact .nilMap
  | map r hr =>
    cases k with
    | map _ r' i e hb => exact .map r r' i (by rw [via_some hr]; exact e) hb
  | func f f' as as' cs cs' hf ha hc _ _ ih ih' =>
    cases k with
    | func _ f'' _ as'' _ cs'' hf' ha' hc' k1 k2 =>
      refine .func f f'' as as'' cs cs'' ?_ (ha.trans ha') (hc.trans hc') (fun j hj => ih j hj (k1 j (ha ▸ hj))) (fun j hj => ih' j hj (k2 j (hc ▸ hj)))
      cases hf with
      | func f => cases hf'; exact .func f
      | method s => cases hf'; exact .method s
      | methodOf t s => cases hf'; exact .methodOf t s
      | via t p f b => cases hf'; exact .via t p f b
      | yield l hl =>
        cases hf' with
        | yield _ l' i e hb => exact .yield l l' i (by rw [via_some hl]; exact e) hb
  | nilFunc => cases k; exact .nilFunc
  | iface t v v' _ ih =>
    cases k with
    | iface _ _ v'' k1 => exact .iface t v v'' (ih k1)
  | nilIface => cases k; exact .nilIface
  | agg cs cs' hc _ ih =>
    cases k with
    | agg _ cs'' hc' k1 => exact .agg cs cs'' (hc.trans hc') fun j hj => ih j hj (k1 j (hc ▸ hj))
  | tuple cs cs' h1 hc _ ih =>
    cases k with
    | any v => exact absurd (hc.trans rfl) h1
    | over => exact absurd (hc.trans rfl) h1
    | tuple _ cs'' h1' hc' k1 => exact .tuple cs cs'' h1 (hc.trans hc') fun j hj => ih j hj (k1 j (hc ▸ hj))
  | over =>
    cases k with
    | tuple _ cs' h1 hc _ => exact absurd rfl h1
    | over => exact .over

/-- What lay ahead of all has its own name. -/
theorem VV.self {N : Nat} {π : Nat → Nat} {x y : Value} (h : V ρ x y) (hid : ∀ β i, ρ β = some i → β < N ∧ π β = β) : VV N π x x := by
  have aid : ∀ (x : Addr) i, ρ x.block = some i → x = { x with block := π x.block } := by
    intro x i e; rw [(hid _ _ e).2]
  induction h with
  | any v => exact .any _
  | bool b => exact .bool b
  | int k n => exact .int k n
  | float k n => exact .float k n
  | string s => exact .string s
  | nilPointer => exact .nilPointer
  | pointer x a e =>
    obtain ⟨i, e, _⟩ := e
    have h1 := VV.pointer (N := N) (π := π) x (hid _ _ e).1
    rwa [← aid x i e] at h1
  | nilSlice n c => exact .nilSlice n c
  | slice x a n k c hn e =>
    obtain ⟨i, e, _⟩ := e
    have h1 := VV.slice (N := N) (π := π) x n k (hid _ _ e).1
    rwa [← aid x i e] at h1
  | nilMap => exact .nilMap
  | map r r' i e hb =>
    have h1 := VV.map (N := N) (π := π) r (hid _ _ e).1
    rwa [(hid _ _ e).2] at h1
  | func f f' as as' cs cs' hf ha hc _ _ ih ih' =>
    refine .func f f as as cs cs ?_ rfl rfl ih ih'
    cases hf with
    | func f => exact .func f
    | method s => exact .method s
    | methodOf t s => exact .methodOf t s
    | via t p f b => exact .via t p f b
    | yield l l' i e hb =>
      have h1 := FnVV.yield (N := N) (π := π) l (hid _ _ e).1
      rwa [(hid _ _ e).2] at h1
  | nilFunc => exact .nilFunc
  | iface t v v' _ ih => exact .iface t v v ih
  | nilIface => exact .nilIface
  | agg cs cs' hc _ ih => exact .agg cs cs rfl ih
  | tuple cs cs' h1 hc _ ih => exact .tuple cs cs h1 rfl ih
  | over => exact .over

def VVS (N : Nat) (π : Nat → Nat) (xs ys : Array Value) : Prop := xs.size = ys.size ∧ ∀ j, j < xs.size → VV N π (xs.getD j undef) (ys.getD j undef)

theorem VVS.trans {N : Nat} {π : Nat → Nat} {xs ys zs : Array Value} (h : VVS N π xs ys) (k : VS ρ ys zs) : VS (via N π ρ) xs zs :=
  ⟨h.1.trans k.1, fun j hj => (h.2 j hj).trans (k.2 j (h.1 ▸ hj))⟩

/-- An object by other names. -/
def OO (N : Nat) (π : Nat → Nat) : AObj → AObj → Prop
  | .cells c n e f z op ro d, o => ∃ c' d', o = .cells c' n e f z op ro d' ∧ ∀ j, j < n → VV N π ((c.get j).getD d) ((c'.get j).getD d')
  | .map es cl ro, o => ∃ es', o = .map es' cl ro ∧ es.size = es'.size ∧ ∀ (j : Nat) x y, es[j]? = some x → es'[j]? = some y → VV N π x.key y.key ∧ VV N π x.val y.val ∧ x.born = y.born
  | .iter s p, o => o = .iter s p
  | .loop st pend tmps params assign body d, o => ∃ tmps', o = .loop st pend tmps' params assign body (π d) ∧ d < N ∧ VVS N π tmps tmps'
  | .defs, o => o = .defs
  | .mapIter m since seen last, o => o = .mapIter (π m) since seen last ∧ m < N

theorem OO.trans {N : Nat} {π : Nat → Nat} {i : Info} {x y : AObj} {z : Obj} (h : OO N π x y) (k : ORel ρ i y z) : ORel (via N π ρ) i x z := by
  cases x with
  | cells c n e f zz op ro d =>
    obtain ⟨c', d', rfl, hv⟩ := h
    obtain ⟨C, e1, e2, e3, e4, e5, e6, e7, e8, e9, hk⟩ := k
    exact ⟨C, e1, e2, e3, e4, e5, e6, e7, e8, e9, fun j hj => (hv j hj).trans (hk j hj)⟩
  | map es cl ro =>
    obtain ⟨es', rfl, hs, hv⟩ := h
    obtain ⟨es'', e1, e2, e3, e4, hk⟩ := k
    refine ⟨es'', e1, e2, e3, hs.trans e4, fun j x z hx hz => ?_⟩
    have hlt := (Array.getElem?_eq_some_iff.1 hx).1
    have hy : es'[j]? = some es'[j] := by simp [hs ▸ hlt]
    obtain ⟨a1, a2, a3⟩ := hv j x _ hx hy
    obtain ⟨b1, b2, b3⟩ := hk j _ z hy hz
    exact ⟨a1.trans b1, a2.trans b2, a3.trans b3⟩
  | iter s p => subst h; exact (k : _ ∧ _)
  | loop st pend tmps params assign body d =>
    obtain ⟨tmps', rfl, hd, hv⟩ := h
    obtain ⟨fn, tm, d', j, e1, e2, e3, e4, e5, e6⟩ := k
    exact ⟨fn, tm, d', j, e1, e2, e3, hv.trans e4, by rw [via_some hd]; exact e5, e6⟩
  | defs => subst h; exact (k : _ ∧ _)
  | mapIter m since seen last =>
    obtain ⟨rfl, hm⟩ := h
    obtain ⟨j, e1, e2, e3, e4⟩ := k
    exact ⟨j, e1, e2, e3, by rw [via_some hm]; exact e4⟩

theorem OO.self {N : Nat} {π : Nat → Nat} {i : Info} {x : AObj} {z : Obj} (k : ORel ρ i x z) (hid : ∀ β i, ρ β = some i → β < N ∧ π β = β) : OO N π x x := by
  cases x with
  | cells c n e f zz op ro d =>
    obtain ⟨C, e1, e2, e3, e4, e5, e6, e7, e8, e9, hk⟩ := k
    exact ⟨c, d, rfl, fun j hj => VV.self (hk j hj) hid⟩
  | map es cl ro =>
    obtain ⟨es'', e1, e2, e3, e4, hk⟩ := k
    refine ⟨es, rfl, rfl, fun j x y hx hy => ?_⟩
    rw [hx] at hy; cases hy
    have hlt := (Array.getElem?_eq_some_iff.1 hx).1
    have hz : es''[j]? = some es''[j] := by simp [e4 ▸ hlt]
    obtain ⟨b1, b2, b3⟩ := hk j _ _ hx hz
    exact ⟨VV.self b1 hid, VV.self b2 hid, rfl⟩
  | iter s p => rfl
  | loop st pend tmps params assign body d =>
    obtain ⟨fn, tm, d', j, e1, e2, e3, e4, e5, e6⟩ := k
    refine ⟨tmps, ?_, (hid _ _ e5).1, rfl, fun j hj => VV.self (e4.2 j hj) hid⟩
    rw [(hid _ _ e5).2]
  | defs => rfl
  | mapIter m since seen last =>
    obtain ⟨j, e1, e2, e3, e4⟩ := k
    exact ⟨by rw [(hid _ _ e4).2], (hid _ _ e4).1⟩

/-- The heap h₁ stands for what h₂ has under other names; what was there ahead (below N₀) has its own. -/
structure HH (N₀ : Nat) (π : Nat → Nat) (h₁ h₂ : AH) : Prop where
  next : N₀ ≤ h₁.next
  id : ∀ β, β < N₀ → π β = β
  obj : ∀ β o, h₁.get β = some o → β < h₁.next ∧ ∃ o', h₂.get (π β) = some o' ∧ OO h₁.next π o o'
  inj : ∀ β γ o p, h₁.get β = some o → h₁.get γ = some p → π β = π γ → β = γ

theorem sum_sound {h h₁ h₂ : AH} {v₁ v₂ v' : Value} {w w₂ : World} {ρ₂ : Ren} {π : Nat → Nat} (hR : Rel ρ h w.heap) (hst : Step ρ w ρ₂ w₂) (hR2 : Rel ρ₂ h₂ w₂.heap) (hv2 : V ρ₂ v₂ v')
    (hH : HH h.next π h₁ h₂) (hv : VV h₁.next π v₁ v₂) : ∃ ρ₁, Step ρ w ρ₁ w₂ ∧ Rel ρ₁ h₁ w₂.heap ∧ V ρ₁ v₁ v' := by
  refine ⟨via h₁.next π ρ₂, ⟨fun β i hi => ?_, fun β i hi hb => ?_, hst.os, hst.tape, hst.output, hst.size, hst.frame⟩, ⟨fun β i hi => ?_, fun β o ho => ?_, fun β γ o p i j ho hp hi hj e => ?_⟩, hv.trans hv2⟩
  · have hlt := (hR.lt β i hi).2
    rw [via_some (Nat.lt_of_lt_of_le hlt hH.next), hH.id β hlt]
    exact hst.le β i hi
  · unfold via at hi
    split at hi
    · exact hst.old _ i hi hb
    · cases hi
  · unfold via at hi
    split at hi
    · rename_i hlt; exact ⟨(hR2.lt _ i hi).1, hlt⟩
    · cases hi
  · obtain ⟨hlt, o', ho', hoo⟩ := hH.obj β o ho
    obtain ⟨i, b, hi, hb, hO⟩ := hR2.obj _ _ ho'
    exact ⟨i, b, by rw [via_some hlt]; exact hi, hb, hoo.trans hO⟩
  · obtain ⟨hlt, o', ho', _⟩ := hH.obj β o ho
    obtain ⟨hlt2, p', hp', _⟩ := hH.obj γ p hp
    rw [via_some hlt] at hi
    rw [via_some hlt2] at hj
    exact hH.inj β γ o p ho hp (hR2.inj _ _ o' p' i j ho' hp' hi hj e)

/-- The heap is as it was; what has been left lying is left out. -/
theorem HH.same {h h₂ : AH} {w : World} (hR : Rel ρ h w.heap) (hk : ∀ β o, h.get β = some o → h₂.get β = some o) : HH h.next (fun β => β) h h₂ where
  next := Nat.le_refl _
  id := fun _ _ => rfl
  obj := fun β o ho => by
    obtain ⟨i, b, hi, _, hO⟩ := hR.obj β o ho
    exact ⟨(hR.lt β i hi).2, o, hk β o ho, OO.self hO fun γ j hj => ⟨(hR.lt γ j hj).2, rfl⟩⟩
  inj := fun _ _ _ _ _ _ e => e

theorem VV.plain1 {N : Nat} {π : Nat → Nat} {v : Value} (h : AE.plain1 v = true) : VV N π v v := by
  cases v with
  | bool b => exact .bool b
  | int k n => exact .int k n
  | float k n => exact .float k n
  | string s => exact .string s
  | pointer a => cases a with
    | none => exact .nilPointer
    | some a => simp [AE.plain1] at h
  | slice a n c => cases a with
    | none => exact .nilSlice n c
    | some a => simp [AE.plain1] at h
  | map r => cases r with
    | none => exact .nilMap
    | some r => simp [AE.plain1] at h
  | nilFunc => exact .nilFunc
  | nilIface => exact .nilIface
  | _ => simp [AE.plain1] at h

/-- What is said of one function in place of its text. -/
def SumOk (P : Program) (f : FuncId) (g : Array Value → AH → Option (Value × AH)) : Prop :=
  ∀ args h v h₁, g args h = some (v, h₁) → ∀ ρ w args' n, Rel ρ h w.heap → VS ρ args args' → CallsIn Fence.wide n P f args' w (RetPost ρ w v h₁)

/-- Out of the evaluator, by other names. -/
theorem SumOk.of_eval (hq : Quiet P) (hmix : P.follows .mixedOrders = true) {ov : Over} (hov : OverOk P ov) {f : FuncId} {g : Array Value → AH → Option (Value × AH)}
    (hg : ∀ args h v h₁, g args h = some (v, h₁) → ∃ n v₂ h₂, callFn P (env P ov n) f args h = some (v₂, h₂) ∧
      ∀ ρ w, Rel ρ h w → ∃ π, HH h.next π h₁ h₂ ∧ VV h₁.next π v v₂) : SumOk P f g := by
  intro args h v h₁ hgs ρ w args' k hR ha
  obtain ⟨n, v₂, h₂, hc, hre⟩ := hg args h v h₁ hgs
  obtain ⟨π, hH, hV⟩ := hre ρ w.heap hR
  refine (callFn_sound (env_sound hq hmix hov n) hq hmix hc k hR ha).mono ?_
  rintro e w' ⟨ρ₂, v', rfl, hst, hR2, hv2⟩
  obtain ⟨ρ₁, a, b, c⟩ := sum_sound hR hst hR2 hv2 hH hV
  exact ⟨ρ₁, v', rfl, a, b, c⟩

end
end Go.AE
