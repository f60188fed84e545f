/-
  BlocksNil: whatever the block, the law's own run, its great one told, yields true.
-/
import Derived.Test.YtimngnabpolgkaaGreatBnG34
namespace Go.Proofs.Leaf
set_option linter.unusedSimpArgs false
set_option linter.unusedVariables false
open Go.AE Go.RowKit
noncomputable def ovW2 : Over := fun f => Bool.rec (motive := fun _ => Option (Array Value → AH → Option (Value × AH))) none (some (memo [([], .bool true)])) (Nat.beq f 35)
theorem blocksRun (b : Int) : kTrue Tryz.prog ovW2 10000 4 [.int .i64 b] ⟨.leaf, 0⟩ = true := by kernel_rfl
theorem ovW2_ok : OverOk Tryz.prog ovW2 := by
  intro f g hg
  unfold ovW2 at hg
  rw [PT.brec] at hg
  split at hg
  case isFalse => cases hg
  rename_i hf
  cases hg
  obtain rfl : f = 35 := Nat.eq_of_beq_eq_true hf
  refine memo_ok quiet mix ovW1_ok (f := 35) fun p hp => ?_
  simp only [List.mem_cons, List.not_mem_nil, or_false] at hp
  subst hp
  exact ⟨rfl, .inl rfl, 100000, kTrue_sound blocksAwake⟩
theorem blocksHolds (b : Int) {w : World} : Calls Tryz.prog 4 #[.int .i64 b] w fun e w' => e = .returned (.bool true) ∧ Below w.heap.size w w' := by
  obtain ⟨h', hc⟩ := kTrue_sound (blocksRun b)
  exact law_eval quiet mix ovW2_ok hc (Rel.empty _) (fun _ _ h => by cases h) (.consL (.int _ _) .nilL)
end Go.Proofs.Leaf
