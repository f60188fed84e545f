/-
  AE, part 26: what a row's 'post' asks, where of old memory nothing has turned.
-/
import Derived.Test.YtimngnabpolgkaaGreatInG8
import Derived.ProofKit
namespace Go.AE
noncomputable section
set_option linter.unusedSimpArgs false
set_option linter.unusedVariables false
open Go.RowKit Go.ChangeShapes Go.WideShapes

theorem post_below {H : Type} {enc : TypeId × Value → H} {P : Program} {f : Func} {s : ChangeSpec} {apart fresh handsOn again : Bool} {W W' : World} {args : Array Value} {v : Value} {ds gs : List (DataW H)} {before pa pv : List MemPlace}
    (hW : DataW.Whole enc P f.params.toList s.vars apart W args.toList ds gs before) (hB : Below W.heap.size W W') (hps : before = pa ++ pv)
    (hres : ∀ (b : Nat) (sp : Nat → Bool) (hd : Bool), DataW.TrodAll enc P W' b sp hd f.resultTypes.toList (v.resultList f.resultTypes.size) (s.fn H (ds ++ gs)).results [])
    (hargs : ∀ sp : Nat → Bool, (∀ p ∈ before, sp p.block = true) → DataW.TrodAll enc P W' 0 sp true f.params.toList args.toList (s.fn H (ds ++ gs)).args pa)
    (hvars : ∀ sp : Nat → Bool, (∀ p ∈ before, sp p.block = true) → DataW.TrodVars enc P W' sp s.vars (s.fn H (ds ++ gs)).vars pv)
    (hok : ∀ (j : Nat) (t : TypeId) (r : Value), f.resultTypes[j]? = some t → (v.resultList f.resultTypes.size)[j]? = some r → Value.okWide P W' .any 0 t r) :
    s.post enc P f apart fresh handsOn again W args v W' := by
  have old : ∀ p ∈ before, p.block < W.heap.size := fun p hp => hW.lt p hp
  have old' : ∀ p ∈ before, decide (p.block < W.heap.size) = true := fun p hp => by simpa using old p hp
  obtain ⟨p, q, t1, t2, e, hz, hn⟩ := id hW
  have hsame : ∀ p, p ∈ pa ++ pv ↔ p ∈ before := fun p => by rw [hps]
  have hall := trodAll_append (hres 0 (fun _ => true) true) (hargs (fun _ => true) fun _ _ => rfl)
  refine ⟨ds, gs, before, [], pa, pv, hW, hres _ _ _, hargs _ old', hvars _ old', hB.frame _, fun _ => ⟨hok, _, _, ([] ++ pa) ++ pv, ⟨[] ++ pa, pv, trodAll_append (hargs _ fun _ _ => rfl) (hres _ _ _), hvars _ fun _ _ => rfl, rfl, fun b off hp => ?_, fun ha => ?_⟩, fun p hp _ => (hsame p).1 (by simpa using hp)⟩⟩
  · have hm : MemPlace.cell b off ∈ before := (hsame _).1 (by simpa using hp)
    exact (hB.frozen (p := ⟨b, off, none⟩) (old _ hm)).trans (hz b off hm)
  · have := hn ha
    rw [hps] at this
    simpa using this
end
end Go.AE
