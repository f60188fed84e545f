/-
  Paths: laws with a slice of ints.
-/
import Derived.Test.YtdbhiobpeeeppaaPathsL7
import Derived.Test.YtdbhiobpeeeppaaAeU1
namespace Go.Proofs.Paths
set_option linter.unusedSimpArgs false
set_option linter.unusedVariables false
open Go.AE
set_option maxRecDepth 100000
set_option maxHeartbeats 2000000

theorem rd_arg {l : List Int} {off : Nat} {C : Array Value} {elem : TypeId} {fz : Nat × Nat} (hC : ∀ (i : Nat) x, l[i]? = some x → C[off + i]? = some (.int .i64 x)) : Rd l (some ⟨0, off, none⟩) (arg1 C elem fz) := fun _ =>
  ⟨0, off, rfl, Nat.zero_lt_one, fun i x hi => by rw [arg1_get]; exact rowK_arg ag3 (hC i x hi) rfl⟩
theorem ri_arg {l : List Int} {off : Nat} {C : Array Value} {elem : TypeId} {fz : Nat × Nat} (hC : ∀ (i : Nat) x, l[i]? = some x → C[off + i]? = some (.int .i64 x)) : Ri l (some ⟨0, off, none⟩) (arg1 C elem fz) :=
  Ri.of (rd_arg hC) (fun _ _ _ _ _ _ _ _ _ _ _ _ => trivial) (fun _ => ⟨0, off, _, _, _, _, _, _, _, _, rfl, arg1_get _ _ _⟩)
theorem lt_arg {off : Nat} {C : Array Value} {elem : TypeId} {fz : Nat × Nat} : ∀ x : Addr, some (⟨0, off, none⟩ : Addr) = some x → x.block < (arg1 C elem fz).next := fun x e => by
  cases e; exact Nat.zero_lt_one
theorem fine_of {l : List Int} (h : ∀ x ∈ l, (Lit.int .i64 x).wf = true) : fine l = true := by
  unfold fine
  rw [List.all_eq_true]
  intro x hx
  have := h x hx
  simp only [Lit.wf, Bool.and_eq_true, decide_eq_true_eq] at this
  have h2 : -9223372036854775808 ≤ x ∧ x ≤ 9223372036854775807 := this
  simp [h2.1, h2.2]
theorem map_some {α β : Type} {o : Option (α × β)} {v : α} (h : o.map (·.1) = some v) : ∃ r, o = some (v, r) := by
  obtain ⟨r, e1, e2⟩ := Option.map_eq_some_iff.1 h
  exact ⟨r.2, by rw [e1, ← e2]⟩
end Go.Proofs.Paths
