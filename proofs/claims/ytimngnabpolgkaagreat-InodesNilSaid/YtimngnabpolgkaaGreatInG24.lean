/-
  Sums (crc): the table.
-/
import Derived.Test.YtimngnabpolgkaaGreatInG23
namespace Go.Proofs.Leaf
set_option linter.unusedSimpArgs false
set_option linter.unusedVariables false
open Go.AE
set_option maxRecDepth 100000
set_option maxHeartbeats 4000000

noncomputable def tbl : List Nat := [0, 498536548, 997073096, 651767980, 1994146192, 1802195444, 1303535960, 1342533948, 3988292384, 4027552580, 3604390888, 3412177804, 2607071920, 2262029012, 2685067896, 3183342108]
noncomputable def tblV : List Value := tbl.map fun n => .int .u32 (.ofNat n)
theorem tab_is : kIs Tryz.prog (fun _ => none) 1000 330 [] (.agg ⟨tblV⟩) = true := by kernel_rfl
noncomputable def gTab (args : Array Value) (h : AH) : Option (Value × AH) := match args.toList with
  | [] => some (.agg ⟨tblV⟩, h)
  | _ => none
theorem sTab : SumOk Tryz.prog 330 gTab := by
  refine SumOk.plainV quiet mix (OverOk.none _) fun args h v h₁ hg => ?_
  unfold gTab at hg
  split at hg
  case h_2 => cases hg
  rename_i ha
  cases hg
  obtain ⟨h', hc⟩ := kIs_sound tab_is
  obtain rfl : args = ⟨[]⟩ := by apply Array.ext'; exact ha
  exact ⟨rfl, by simp, fun N π => VV.aggP (by rw [← Array.all_toList]; rfl), _, h', hc⟩
noncomputable def ovT : Over := table [(330, gTab)]
theorem ovT_ok : OverOk Tryz.prog ovT := OverOk.table fun p hp => by
  simp only [List.mem_cons, List.not_mem_nil, or_false] at hp
  subst hp
  exact sTab
theorem ovT_tab : ovT 330 = some gTab := by kernel_rfl
end Go.Proofs.Leaf
