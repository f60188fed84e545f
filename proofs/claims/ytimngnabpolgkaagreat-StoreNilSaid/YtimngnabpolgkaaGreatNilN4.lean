/-
  StoreNil: whatever the call, the law's own run, its great one told, yields true.
-/
import Derived.Test.YtimngnabpolgkaaGreatNilN2
import Derived.Test.YtimngnabpolgkaaGreatNilN3
namespace Go.Proofs.Nil
set_option linter.unusedSimpArgs false
set_option linter.unusedVariables false
open Go.AE Go.RowKit
noncomputable def ovS : Over := fun f => Bool.rec (motive := fun _ => Option (Array Value → AH → Option (Value × AH))) none (some (memo [([], .bool true)])) (Nat.beq f 30)
theorem lawRun (k a m f : Int) : kTrue Tryz.prog ovS 10000 3 [.agg #[.int .u8 k, .int .i64 a, .int .i64 m, .int .u32 f]] ⟨.leaf, 0⟩ = true := by kernel_rfl
theorem quietB : (Tryz.prog.funcs.all fun fn => !(fn.name == "runtime.NumGoroutine")) = true := by kernel_rfl
theorem quiet : Quiet Tryz.prog := by
  intro f fn hf
  have h1 := quietB
  rw [Array.all_eq_true] at h1
  obtain ⟨hlt, rfl⟩ := Array.getElem?_eq_some_iff.1 hf
  simpa using h1 f hlt
theorem mix : Tryz.prog.follows .mixedOrders = true := by kernel_rfl
theorem okJ : OverOk Tryz.prog ovJ := by
  intro f g hg
  unfold ovJ at hg
  rw [PT.brec] at hg
  split at hg
  case isFalse => cases hg
  rename_i hf
  cases hg
  obtain rfl : f = 350 := Nat.eq_of_beq_eq_true hf
  refine memo_ok quiet mix (OverOk.none _) (f := 350) fun p hp => ?_
  unfold joins at hp
  simp only [List.mem_cons, List.not_mem_nil, or_false] at hp
  rcases hp with rfl | rfl
  · exact ⟨rfl, .inl rfl, 100000, kIs_sound join1⟩
  · exact ⟨rfl, .inl rfl, 100000, kIs_sound join2⟩
theorem okS : OverOk Tryz.prog ovS := by
  intro f g hg
  unfold ovS at hg
  rw [PT.brec] at hg
  split at hg
  case isFalse => cases hg
  rename_i hf
  cases hg
  obtain rfl : f = 30 := Nat.eq_of_beq_eq_true hf
  refine memo_ok quiet mix okJ (f := 30) fun p hp => ?_
  simp only [List.mem_cons, List.not_mem_nil, or_false] at hp
  subst hp
  exact ⟨rfl, .inl rfl, 100000, kTrue_sound awake⟩
theorem lawHolds (k a m f : Int) {w : World} : Calls Tryz.prog 3 #[.agg #[.int .u8 k, .int .i64 a, .int .i64 m, .int .u32 f]] w fun e w' => e = .returned (.bool true) ∧ Below w.heap.size w w' := by
  obtain ⟨h', hc⟩ := kTrue_sound (lawRun k a m f)
  refine law_eval quiet mix okS hc (Rel.empty _) (fun _ _ h => by cases h) (.consL ?_ .nilL)
  refine .agg _ _ rfl fun j hj => ?_
  simp only [List.size_toArray, List.length_cons, List.length_nil] at hj
  match j, hj with
  | 0, _ => exact .int _ _
  | 1, _ => exact .int _ _
  | 2, _ => exact .int _ _
  | 3, _ => exact .int _ _
end Go.Proofs.Nil
