/-
  AE, a map that is copied whole.
-/
import Derived.Test.YtimngnabpolgkaaGreatAeM2
import Derived.Laws.Externs
namespace Go.AE
noncomputable section
set_option linter.unusedSimpArgs false
set_option linter.unusedVariables false
variable {P : Program} {ρ : Ren} {h : AH} {w : World}

theorem clone_find {fn : Func} (h1 : fn.name = "maps.clone") (h2 : fn.origin = "") : Extern.find fn = some Extern.MapsClone.clone := by
  have f1 : (Extern.allGenericRows.lookup "maps.clone").isNone = true := by kernel_rfl
  have f2 : (Extern.allTypedRows.lookup "maps.clone").isNone = true := by kernel_rfl
  have f3 : Extern.allRows.lookup "maps.clone" = some Extern.MapsClone.clone := by kernel_rfl
  simp only [Option.isNone_iff_eq_none] at f1 f2
  simp only [Extern.find, h1, h2, f1, f2, f3]
  rfl

theorem clone_next {fn : Func} (h1 : fn.name = "maps.clone") (h2 : fn.origin = "") : Extern.findNext fn = none := by
  have f1 : (Extern.allNextRows.lookup "maps.clone").isNone = true := by kernel_rfl
  have f2 : (Extern.allNextRows.lookup "").isNone = true := by kernel_rfl
  simp only [Option.isNone_iff_eq_none] at f1 f2
  simp only [Extern.findNext, h1, h2, f1, f2]
  rfl

def isClone (P : Program) (g : FuncId) : Bool :=
  match P.funcs[g]? with
  | some fn => fn.body.isNone && (fn.name == "maps.clone") && (fn.origin == "")
  | none => false

def cloneA (args : Array Value) (h : AH) : Option (Value × AH) :=
  match args.toList with
  | [.iface t (.map (some r))] => match h.get r with
    | some (.map es clock _) => some (.iface t (.map (some h.next)), h.push (.map es clock false))
    | _ => none
  | _ => none

theorem cloneA_sim {args args' : Array Value} {v : Value} {h' : AH} (hR : Rel ρ h w.heap) (ha : VS ρ args args') (hs : cloneA args h = some (v, h')) :
    Makes P ρ w (Extern.MapsClone.clone args') v h' := by
  unfold cloneA at hs
  split at hs
  case h_2 => cases hs
  rename_i t r hargs
  obtain rfl : args = #[.iface t (.map (some r))] := by apply Array.ext'; exact hargs
  split at hs
  case h_2 => cases hs
  rename_i es clock ro hg
  cases hs
  obtain ⟨a', rfl, hv⟩ : ∃ a', args' = #[a'] ∧ V ρ (.iface t (.map (some r))) a' := by
    obtain ⟨h1, h2⟩ := ha
    obtain ⟨l⟩ := args'
    match l, h1 with
    | [a], _ => exact ⟨a, rfl, h2 0 (by simp)⟩
  cases hv with
  | iface _ _ x hx =>
    obtain ⟨i, es', hi, rfl, hb, his, hro, hsz, hr⟩ := map_inv hR hx hg
    let j : Info := { b := w.heap.size, s := 0, n := 0, N := 0, esz := 0, op := false, ro := false }
    have hle := Ren.le_put (h := h) hR j
    refine ⟨ρ.put h.next j, .iface t (.map (some w.heap.size)), { w with heap := w.heap.push (.map es' clock) }, ?_, Step.alloc hR _ j rfl,
      hR.alloc _ _ j rfl ⟨es', rfl, rfl, rfl, hsz, fun n x y hx hy => ?_⟩, .iface _ _ _ (.map _ _ j (by simp [Ren.put]) rfl)⟩
    · have e : Extern.MapsClone.clone #[.iface t (.map (some i.b))] = (getObj i.b >>= fun o => match o with
          | .map entries clock => (newObj (.map entries clock) >>= fun n => pure (.iface t (.map (some n))))
          | _ => stuck "maps.clone: a map expected") := rfl
      rw [e]
      simp [MapKept.run_getObj_map hb, Result.andThen]
    · obtain ⟨a, b, c⟩ := hr n x y hx hy
      exact ⟨a.mono hle, b.mono hle, c⟩

end
end Go.AE
