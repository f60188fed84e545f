/-
  AE, part 4: operations that touch no memory; places; rows that are made; append; copy.
-/
import Derived.Test.YtimngnabpolgkaaGreatAeA3
namespace Go.AE
noncomputable section
set_option linter.unusedSimpArgs false
set_option linter.unusedVariables false
variable {P : Program} {ρ : Ren} {h : AH} {w : World}

/-! ### What a tree without memory yields -/
def semP (P : Program) {α : Type} : Sem α → Option α
  | .pure a => some a
  | .program k => semP P (k P)
  | _ => none

theorem semP_run {α : Type} {s : Sem α} {a : α} (h : semP P s = some a) (w : World) : s.run P w = .ok a w := by
  induction s with
  | pure b => simp only [semP, Option.some.injEq] at h; subst h; rfl
  | program k ih => simp only [semP] at h; exact ih P h
  | _ => simp [semP] at h

/-- A value without an address in it, known whole. -/
def plain1 : Value → Bool
  | .bool _ | .int _ _ | .float _ _ | .string _ | .pointer none | .slice none _ _ | .map none | .nilFunc | .nilIface => true
  | _ => false
def plain : Value → Bool
  | .agg cs => cs.toList.all plain1
  | .iface _ v => plain1 v
  | v => plain1 v

theorem V.plain1 {v v' : Value} (hV : V ρ v v') (h : plain1 v = true) : v' = v := by
  cases hV <;> first | rfl | (simp [AE.plain1] at h)

theorem VS.plain1 {xs ys : Array Value} (hs : VS ρ xs ys) (h : xs.all AE.plain1 = true) : ys = xs := by
  rw [Array.all_eq_true] at h
  apply Array.ext
  · exact hs.1.symm
  · intro j h1 h2
    have := (hs.2 j h2).plain1 (by simpa [Array.getD, h2] using h j h2)
    simpa [Array.getD, h1, h2] using this

theorem V.plain {v v' : Value} (hV : V ρ v v') (h : plain v = true) : v' = v := by
  cases hV with
  | agg cs cs' hc k => exact congrArg Value.agg (VS.plain1 (ρ := ρ) ⟨hc, k⟩ (by simpa [AE.plain] using h))
  | iface t v v' k => exact congrArg (Value.iface t) (k.plain1 h)
  | _ => first | rfl | (simp [AE.plain, AE.plain1] at h)

theorem V.refl1 {v : Value} (h : AE.plain1 v = true) : V ρ v v := by
  cases v with
  | bool b => exact .bool b
  | int k n => exact .int k n
  | float k n => exact .float k n
  | string s => exact .string s
  | pointer a => cases a with
    | none => exact .nilPointer
    | some a => simp [AE.plain1] at h
  | slice a n c => cases a with
    | none => exact .nilSlice n c
    | some a => simp [AE.plain1] at h
  | map r => cases r with
    | none => exact .nilMap
    | some r => simp [AE.plain1] at h
  | nilFunc => exact .nilFunc
  | nilIface => exact .nilIface
  | _ => simp [AE.plain1] at h

theorem VS.refl1 {xs : Array Value} (h : xs.all AE.plain1 = true) : VS ρ xs xs := by
  rw [Array.all_eq_true] at h
  exact ⟨rfl, fun j hj => by
    have := h j hj
    have e : xs.getD j undef = xs[j] := by simp [Array.getD, hj]
    rw [e]; exact V.refl1 this⟩

theorem V.reflP {v : Value} (h : AE.plain v = true) : V ρ v v := by
  cases v with
  | agg cs => exact .agg _ _ rfl (VS.refl1 (ρ := ρ) (by simpa [AE.plain] using h)).2
  | iface t v => exact .iface t v v (V.refl1 h)
  | _ => exact V.refl1 h

/-- What is yielded without memory, of plain things: a plain thing. -/
def plainOf (P : Program) (s : Sem Value) : Option Value :=
  match semP P s with
  | some v => if plain v then some v else none
  | none => none

theorem plainOf_sim {s : Sem Value} {v : Value} (h : plainOf P s = some v) (w : World) : s.run P w = .ok v w ∧ V ρ v v := by
  unfold plainOf at h
  split at h
  · rename_i u hu
    split at h
    · rename_i hp; cases h; exact ⟨semP_run hu w, V.reflP hp⟩
    · cases h
  · cases h

/-! ### Comparisons with nil -/
def eqNil (P : Program) (t : TypeId) : Value → Value → Option Bool
  | .pointer none, .pointer b => (match P.underlying t with | some (.pointer _) => some b.isNone | _ => none)
  | .pointer (some _), .pointer none => (match P.underlying t with | some (.pointer _) => some false | _ => none)
  | .slice none _ _, .slice b _ _ => (match P.underlying t with | some (.slice _) => some b.isNone | _ => none)
  | .slice (some _) _ _, .slice none _ _ => (match P.underlying t with | some (.slice _) => some false | _ => none)
  | .map none, .map b => (match P.underlying t with | some (.map _ _) => some b.isNone | _ => none)
  | .map (some _), .map none => (match P.underlying t with | some (.map _ _) => some false | _ => none)
  | .func _ _ _, .nilFunc => (match P.underlying t with | some (.func _ _ _) => some false | _ => none)
  | .nilFunc, .func _ _ _ => (match P.underlying t with | some (.func _ _ _) => some false | _ => none)
  | .nilFunc, .nilFunc => (match P.underlying t with | some (.func _ _ _) => some true | _ => none)
  | .iface _ _, .nilIface => (match P.underlying t with | some (.interface _) => some false | _ => none)
  | .nilIface, .iface _ _ => (match P.underlying t with | some (.interface _) => some false | _ => none)
  | _, _ => none

theorem eqNil_sim {t : TypeId} {x y x' y' : Value} {b : Bool} (hx : V ρ x x') (hy : V ρ y y') (he : eqNil P t x y = some b) (w : World) (op : BinOp) (ox oy : Operand) :
    (Op.equal t x' y').run P w = .ok b w ∧ (eqGuard op t ox oy x' y').run P w = .ok () w ∧ binOp .eql t x' y' = (do let c ← Op.equal t x' y'; pure (.bool c)) ∧
      binOp .neq t x' y' = (do let c ← Op.equal t x' y'; pure (.bool (!c))) := by
  obtain ⟨d, hd⟩ : ∃ d, Op.maxDepth = d + 1 := ⟨9999, rfl⟩
  unfold eqNil at he
  split at he <;> (try (cases he; done)) <;> (split at he <;> (try (cases he; done))) <;> (cases he) <;> (rename_i hu) <;>
    (cases hx <;> cases hy <;> refine ⟨by rw [Op.equal, hd]; simp only [Op.equalIn, Sem.run_bind, run_underlying hu, Result.andThen_ok]; rfl, ?_, rfl, rfl⟩ <;> (cases op <;> rfl))

end
end Go.AE
