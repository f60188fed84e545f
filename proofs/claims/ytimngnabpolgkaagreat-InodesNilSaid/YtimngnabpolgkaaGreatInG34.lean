/-
  InodesNil: whatever the number and the inode, the law's own run, its great one told, yields true.
-/
import Derived.Test.YtimngnabpolgkaaGreatInG33
namespace Go.Proofs.Leaf
set_option linter.unusedSimpArgs false
set_option linter.unusedVariables false
open Go.AE Go.RowKit
noncomputable def ovV2 : Over := fun f => Bool.rec (motive := fun _ => Option (Array Value → AH → Option (Value × AH))) none (some (memo [([], .bool true)])) (Nat.beq f 40)
noncomputable def inodeV (k l g s p0 p1 p2 p3 p4 p5 p6 p7 p8 p9 p10 n : Int) : Value :=
  .agg #[.int .u8 k, .int .i64 l, .int .u32 g, .int .i64 s, .int .u32 p0, .int .u32 p1, .int .u32 p2, .int .u32 p3, .int .u32 p4, .int .u32 p5, .int .u32 p6, .int .u32 p7, .int .u32 p8, .int .u32 p9, .int .u32 p10, .int .u32 n]
theorem inodesRun (i k l g s p0 p1 p2 p3 p4 p5 p6 p7 p8 p9 p10 n : Int) : kTrue Tryz.prog ovV2 10000 5 [.int .i64 i, inodeV k l g s p0 p1 p2 p3 p4 p5 p6 p7 p8 p9 p10 n] ⟨.leaf, 0⟩ = true := by kernel_rfl
theorem ovV2_ok : OverOk Tryz.prog ovV2 := by
  intro f g hg
  unfold ovV2 at hg
  rw [PT.brec] at hg
  split at hg
  case isFalse => cases hg
  rename_i hf
  cases hg
  obtain rfl : f = 40 := Nat.eq_of_beq_eq_true hf
  refine memo_ok quiet mix ovV1_ok (f := 40) fun p hp => ?_
  simp only [List.mem_cons, List.not_mem_nil, or_false] at hp
  subst hp
  exact ⟨rfl, .inl rfl, 100000, kTrue_sound inodesAwake⟩
theorem V.ints {ρ : Ren} (cs : List Value) (h : ∀ v ∈ cs, ∃ k n, v = .int k n) : V ρ (.agg ⟨cs⟩) (.agg ⟨cs⟩) := by
  refine .agg _ _ rfl fun j hj => ?_
  simp only [List.size_toArray] at hj
  have : (⟨cs⟩ : Array Value).getD j (.tuple #[]) = cs[j] := by simp [Array.getD, hj]
  rw [this]
  obtain ⟨k, n, e⟩ := h _ (List.getElem_mem hj)
  rw [e]; exact .int _ _
theorem inodesHolds (i k l g s p0 p1 p2 p3 p4 p5 p6 p7 p8 p9 p10 n : Int) {w : World} : Calls Tryz.prog 5 #[.int .i64 i, inodeV k l g s p0 p1 p2 p3 p4 p5 p6 p7 p8 p9 p10 n] w fun e w' => e = .returned (.bool true) ∧ Below w.heap.size w w' := by
  obtain ⟨h', hc⟩ := kTrue_sound (inodesRun i k l g s p0 p1 p2 p3 p4 p5 p6 p7 p8 p9 p10 n)
  refine law_eval quiet mix ovV2_ok hc (Rel.empty _) (fun _ _ h => by cases h) (.consL (.int _ _) (.consL (V.ints _ ?_) .nilL))
  intro v hv
  simp only [List.mem_cons, List.not_mem_nil, or_false] at hv
  rcases hv with rfl | rfl | rfl | rfl | rfl | rfl | rfl | rfl | rfl | rfl | rfl | rfl | rfl | rfl | rfl | rfl <;> exact ⟨_, _, rfl⟩
end Go.Proofs.Leaf
