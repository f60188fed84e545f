/-
  AE, part 18: more fuel changes nothing.
-/
import Derived.Test.YtimngnabpolgkaaGreatAeB8
namespace Go.AE
noncomputable section
set_option linter.unusedSimpArgs false
set_option linter.unusedVariables false
variable {P : Program} {E E' : Env} {ops : Array Oper}

structure ELe (E E' : Env) : Prop where
  call : ∀ f args h r, E.call f args h = some r → E'.call f args h = some r
  code : ∀ rd c s r, E.code rd c s = some r → E'.code rd c s = some r

theorem roundA_mono (hE : ELe E E') {l : Nat} {args : Array Value} {h : AH} {r : Value × AH} (hs : roundA E l args h = some r) : roundA E' l args h = some r := by
  unfold roundA at hs ⊢
  split at hs
  · split at hs
    · cases hs
    · rename_i hsz
      simp only [hsz, if_false]
      split at hs
      · rename_i s₁ h1
        simp only [hE.code _ _ _ _ h1]
        split at hs
        · split at hs
          · rename_i ex s₂ h2
            simp only [hE.code _ _ _ _ h2]
            exact hs
          · cases hs
        · cases hs
      · cases hs
  · cases hs

theorem stepVal_mono (hE : ELe E E') {o : Oper} {A : Array Value} {h : AH} {r : Value × AH} (hs : stepVal P E ops o A h = some r) : stepVal P E' ops o A h = some r := by
  unfold stepVal at hs ⊢
  split at hs
  · split at hs
    · exact hs
    · exact hs
    · exact hE.call _ _ _ _ hs
    · exact roundA_mono hE hs
    · cases hs
  · exact hs
  · cases hs

theorem stepOp_mono (hE : ELe E E') {o : Oper} {s s' : St} (hs : stepOp P E ops o s = some s') : stepOp P E' ops o s = some s' := by
  unfold stepOp at hs ⊢
  split at hs
  · rename_i v h hv
    simp only [stepVal_mono hE hv]; exact hs
  · cases hs

theorem runList_mono (hE : ELe E E') : ∀ (l : List Nat) (s s' : St), runList P E ops l s = some s' → runList P E' ops l s = some s'
  | [], s, s', hs => hs
  | i :: r, s, s', hs => by
    simp only [runList] at hs ⊢
    split at hs
    · exact runList_mono hE r s s' hs
    · split at hs
      · rename_i s₁ h1
        simp only [stepOp_mono hE h1]
        exact runList_mono hE r s₁ s' hs
      · cases hs

theorem trace_mono (hE : ELe E E') : ∀ (l : List Oper) (s : St) (r : List St), trace P E ops l s = some r → trace P E' ops l s = some r
  | [], s, r, hs => hs
  | o :: l, s, r, hs => by
    simp only [trace] at hs ⊢
    split at hs
    · rename_i s' h1
      simp only [stepOp_mono hE h1]
      obtain ⟨r', h2, rfl⟩ := Option.map_eq_some_iff.1 hs
      rw [trace_mono hE l s' r' h2]; rfl
    · cases hs

theorem region_mono (hE : ELe E E') {draw : Bool} {s s' : St} (hs : evalRegion P E ops draw s = some s') : evalRegion P E' ops draw s = some s' := by
  unfold evalRegion at hs ⊢
  split at hs
  · rename_i hd
    rw [if_pos hd]
    split at hs
    · rename_i hst
      split at hs
      · rename_i sts ht
        simp only [trace_mono hE _ _ _ ht]; exact hs
      · cases hs
    · cases hs
  · rename_i hd
    rw [if_neg hd]
    exact runList_mono hE _ _ _ hs

theorem evalC_mono (hE : ELe E E') : ∀ (c : Code) (rd : Option Nat) (s : St) (r : Ex × St), evalC P E rd c s = some r → evalC P E' rd c s = some r := by
  intro c
  induction c with
  | skip => intro rd s r hs; exact hs
  | label l => intro rd s r hs; exact hs
  | region id ops draw =>
    intro rd s r hs
    simp only [evalC] at hs ⊢
    obtain ⟨s', h1, rfl⟩ := Option.map_eq_some_iff.1 hs
    rw [region_mono hE h1]; rfl
  | seq x y ihx ihy =>
    intro rd s r hs
    simp only [evalC] at hs ⊢
    split at hs
    · rename_i s' h1
      simp only [ihx rd s _ h1]; exact ihy rd s' r hs
    · rename_i hne
      rw [ihx rd s _ hs]
      obtain ⟨ex, s'⟩ := r
      cases ex with
      | normal => exact absurd hs (hne s')
      | exit id => rfl
      | ret => rfl
  | cond c x y ihx ihy =>
    intro rd s r hs
    simp only [evalC] at hs ⊢
    split at hs
    · exact ihx rd s r hs
    · exact ihy rd s r hs
    · cases hs
  | block id c ih =>
    intro rd s r hs
    simp only [evalC] at hs ⊢
    split at hs
    · rename_i id' s' h1
      simp only [ih rd s _ h1]; exact hs
    · rename_i hne
      rw [ih rd s _ hs]
      obtain ⟨ex, s'⟩ := r
      cases ex with
      | normal => rfl
      | exit id' => exact absurd hs (hne id' s')
      | ret => rfl
  | loop c ih =>
    intro rd s r hs
    simp only [evalC] at hs ⊢
    split at hs
    · rename_i s' h1
      simp only [ih rd s _ h1]; exact hE.code _ _ _ _ hs
    · rename_i hne
      rw [ih rd s _ hs]
      obtain ⟨ex, s'⟩ := r
      cases ex with
      | normal => exact absurd hs (hne s')
      | exit id => rfl
      | ret => rfl
  | scope c ih => intro rd s r hs; simp only [evalC] at hs ⊢; exact ih rd s r hs
  | exit id => intro rd s r hs; exact hs
  | ret => intro rd s r hs; exact hs
  | goto l => intro rd s r hs; simp only [evalC] at hs; cases hs
  | refuse why => intro rd s r hs; simp only [evalC] at hs; cases hs
  | rangeFunc g ps assign body _ _ =>
    intro rd s r hs
    simp only [evalC] at hs ⊢
    split at hs
    · cases hs
    · rename_i d mark h₁ hent
      split at hs
      · rename_i f first captured hg
        split at hs
        · rename_i hb
          rw [if_pos hb]
          split at hs
          · rename_i v h₂ hc
            simp only [hE.call _ _ _ _ hc]; exact hs
          · cases hs
        · cases hs
      · cases hs

theorem callFn_mono (hE : ELe E E') {f : FuncId} {args : Array Value} {h : AH} {r : Value × AH} (hs : callFn P E f args h = some r) : callFn P E' f args h = some r := by
  unfold callFn at hs ⊢
  split at hs
  · cases hs
  · split at hs
    · cases hs
    · split at hs
      · cases hs
      · rename_i ex s hne hc
        simp only [evalC_mono hE _ _ _ _ hc]
        cases ex with
        | normal => exact hs
        | exit id => exact (hne id rfl).elim
        | ret => exact hs
      · cases hs

theorem env_le (ov : Over) : ∀ n, ELe (env P ov n) (env P ov (n + 1))
  | 0 => { call := fun f args h r hs => (by cases hs), code := fun rd c s r hs => (by cases hs) }
  | n + 1 =>
    { call := fun f args h r hs => by
        simp only [env] at hs ⊢
        split at hs
        · rename_i g hg; exact hs
        · rename_i hg; exact callFn_mono (env_le ov n) hs
      code := fun rd c s r hs => evalC_mono (env_le ov n) c rd s r hs }

theorem ELe.refl (E : Env) : ELe E E := ⟨fun _ _ _ _ h => h, fun _ _ _ _ h => h⟩
theorem ELe.trans {E₁ E₂ E₃ : Env} (h : ELe E₁ E₂) (k : ELe E₂ E₃) : ELe E₁ E₃ := ⟨fun f a h' r e => k.call _ _ _ _ (h.call f a h' r e), fun rd c s r e => k.code _ _ _ _ (h.code rd c s r e)⟩

theorem env_le' (ov : Over) {n m : Nat} (h : n ≤ m) : ELe (env P ov n) (env P ov m) := by
  obtain ⟨d, rfl⟩ := Nat.le.dest h
  induction d with
  | zero => exact ELe.refl _
  | succ d ih => exact (ih (by omega)).trans (env_le ov (n + d))

end
end Go.AE
