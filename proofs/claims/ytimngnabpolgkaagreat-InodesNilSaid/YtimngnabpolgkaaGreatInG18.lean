/-
  K, part 5: what a closed call comes to; calls that are told by a table.
-/
import Derived.Test.YtimngnabpolgkaaGreatInG15
import Derived.Test.YtimngnabpolgkaaGreatInG17
namespace Go.AE
noncomputable section
set_option linter.unusedSimpArgs false
set_option linter.unusedVariables false
variable {P : Program}

/-- Does a closed call come to this value? -/
def kIs (P : Program) (ov : Over) (n : Nat) (f : FuncId) (args : List Value) (v : Value) : Bool :=
  match kfn P (kenv P ov n) f args ⟨.leaf, 0⟩ fun u h => Bool.rec (motive := fun _ => KRes) none (some (u, h)) (veq u v) with
  | some _ => true
  | none => false

theorem kIs_sound {ov : Over} {n : Nat} {f : FuncId} {args : List Value} {v : Value} (ht : kIs P ov n f args v = true) : ∃ h', callFn P (env P ov n) f ⟨args⟩ ⟨.leaf, 0⟩ = some (v, h') := by
  unfold kIs at ht
  split at ht
  case h_2 => cases ht
  rename_i r hr
  obtain ⟨u, h', h1, h2⟩ := kfn_sound (kenv_sound ov n) hr
  rw [PT.brec] at h2
  split at h2
  · rename_i he
    rw [veq_eq he] at h1
    exact ⟨h', h1⟩
  · cases h2

/-- A table of closed calls. -/
def memo (tbl : List (List Value × Value)) (args : Array Value) (h : AH) : Option (Value × AH) :=
  match tbl.find? fun p => veqL args.toList p.1 with
  | some p => some (p.2, h)
  | none => none

theorem memo_ok (hq : Quiet P) (hmix : P.follows .mixedOrders = true) {ov : Over} (hov : OverOk P ov) {f : FuncId} {tbl : List (List Value × Value)}
    (ht : ∀ p ∈ tbl, p.1.all plain1 = true ∧ plainR p.2 ∧ ∃ n h', callFn P (env P ov n) f ⟨p.1⟩ ⟨.leaf, 0⟩ = some (p.2, h')) : SumOk P f (memo tbl) := by
  refine SumOk.plain hq hmix hov fun args h v h₁ hg => ?_
  unfold memo at hg
  split at hg
  case h_2 => cases hg
  rename_i p hp
  cases hg
  have hm := List.mem_of_find?_eq_some hp
  have he : args.toList = p.1 := veqL_eq (by have := List.find?_some hp; simpa using this)
  have ha : args = ⟨p.1⟩ := by apply Array.ext'; exact he
  obtain ⟨h1, h2, n, h', h3⟩ := ht p hm
  subst ha
  exact ⟨rfl, by simpa using h1, h2, n, h', h3⟩

end
end Go.AE
