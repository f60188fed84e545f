/-
  Ring: slices that are cut in front and appended to; places that differ.
-/
import Derived.Test.YtlabmlaenkdikaaRingR6
namespace Go.Proofs.Ring
set_option linter.unusedSimpArgs false
set_option linter.unusedVariables false
open Go.AE
set_option maxRecDepth 100000
set_option maxHeartbeats 2000000

/-! ### Places -/
theorem plc_inj {s t i j : Int} (hs : 0 < s) (h0 : 0 ≤ i) (h1 : i < j) (h2 : j < i + s) : plc s t i ≠ plc s t j := by
  unfold plc
  intro h
  have e : (t + i) % s = (t + j) % s := by omega
  have d : ((t + j) - (t + i)) % s = 0 := Int.emod_eq_emod_iff_emod_sub_eq_zero.1 e.symm
  rw [show t + j - (t + i) = j - i by omega, Int.emod_eq_of_lt (by omega) (by omega)] at d
  omega
theorem plc_shift {s t n i : Int} (hs : 0 < s) : plc s ((t + n) % s) i = plc s t (n + i) := by
  unfold plc
  rw [Int.emod_add_emod, show t + n + i = t + (n + i) by omega]
theorem vals_drop {s t : Int} (hs : 0 < s) (u n : Nat) (h : n ≤ u) : (vals s t 0 u).drop n = vals s ((t + n) % s) 0 (u - n) := by
  apply List.ext_getElem?
  intro i
  simp only [vals, List.getElem?_drop, List.getElem?_map, List.getElem?_range']
  by_cases c : i < u - n
  · rw [List.getElem?_range (by omega), List.getElem?_range c]
    simp only [Option.map_some]
    rw [plc_shift hs]
    congr 2; omega
  · rw [List.getElem?_eq_none (by simp; omega), List.getElem?_eq_none (by simp; omega)]; rfl
theorem vals_get' (s t : Int) (m k : Nat) (hk : k < m) : (vals s t 0 m)[k]? = some (plc s t k) := by
  simp [vals, hk]

/-! ### Slices of slices, of ints -/
theorem und28 : Try.prog.underlying 28 = some (.slice 3) := by kernel_rfl
theorem opA_slice1 (e : Operand → Value) (h : AH) (d : Option Tmp) (t : TypeId) (pos : String) (after : Array Edge) (g : Option (Nat × Bool)) (x lo : Operand) :
    opA Try.prog e h ⟨d, .slice 28 x (some lo) none none, t, pos, after, g⟩ = (sliceA Try.prog 28 (e x) (some (e lo)) none none h).map fun v => .val v h := rfl
/-- Where a slice begins that is cut in front. -/
def cutA (a : Option Addr) (n len : Nat) : Option Addr :=
  match a with
  | some ⟨b, o, s⟩ => if len = n then some ⟨b, o, s⟩ else some ⟨b, o + n, none⟩
  | none => none
theorem bounds1 (len : Nat) (n : Int) (h0 : 0 ≤ n) (h1 : n ≤ len) : boundsA len len (some (.int .i64 n)) none none = some (n.toNat, len, len) := by
  simp [boundsA, h0, h1]

/-- A slice of ints that the caller made by appending and cutting. -/
def Us (U : List Int) (a : Option Addr) (b : Nat) (h : AH) : Prop :=
  (a = none ∧ U = []) ∨ ∃ β o L, a = some ⟨β, o, none⟩ ∧ β < h.next ∧ b < β ∧ h.get β = some (rowObj (ints L) 3 1 true) ∧ o + U.length ≤ L.length ∧ (L.drop o).take U.length = U
theorem Us.keep {U : List Int} {a : Option Addr} {b : Nat} {h h' : AH} (hU : Us U a b h) (hn : h.next ≤ h'.next) (hg : ∀ γ, γ < h.next → γ ≠ b → h'.get γ = h.get γ) : Us U a b h' := by
  rcases hU with e | ⟨β, o, L, e1, e2, e3, e4, e5, e6⟩
  · exact .inl e
  · exact .inr ⟨β, o, L, e1, Nat.lt_of_lt_of_le e2 hn, e3, by rw [hg β e2 (by omega)]; exact e4, e5, e6⟩
theorem Us.get {U : List Int} {a : Option Addr} {b : Nat} {h : AH} (hU : Us U a b h) {i : Nat} {x : Int} (hx : U[i]? = some x) : ∃ β o, a = some ⟨β, o, none⟩ ∧ β < h.next ∧ b < β ∧ rowK Try.prog 3 (o + i) (h.get β) = some (.int .i64 x) := by
  rcases hU with ⟨_, e⟩ | ⟨β, o, L, e1, e2, e3, e4, e5, e6⟩
  · subst e; simp at hx
  · refine ⟨β, o, e1, e2, e3, ?_⟩
    rw [e4, rowK_row ag3]
    have hi := (List.getElem?_eq_some_iff.1 hx).1
    rw [← e6, List.getElem?_take, if_pos hi, List.getElem?_drop] at hx
    simp [ints, hx]
theorem Us.cut {U : List Int} {a : Option Addr} {b : Nat} {h : AH} (hU : Us U a b h) {n : Int} (h0 : 0 ≤ n) (h1 : n ≤ U.length) :
    ∃ a', sliceA Try.prog 28 (.slice a U.length U.length) (some (.int .i64 n)) none none h = some (.slice a' (U.drop n.toNat).length (U.drop n.toNat).length) ∧ Us (U.drop n.toNat) a' b h := by
  obtain ⟨inf, z, hu, _, _, hi, hs, _⟩ := one22
  have hb := bounds1 U.length n h0 h1
  rcases hU with ⟨rfl, rfl⟩ | ⟨β, o, L, rfl, e2, e3, e4, e5, e6⟩
  · refine ⟨none, ?_, .inl ⟨rfl, by simp⟩⟩
    simp only [sliceA, hu, hi, hb]
    simp
  · have hc : cutOk h ⟨β, o, none⟩ U.length 1 = true := by
      unfold cutOk
      simp only [e4, rowObj]
      rfl
    refine ⟨if U.length = n.toNat then some ⟨β, o, none⟩ else some ⟨β, o + n.toNat, none⟩, ?_, ?_⟩
    · simp only [sliceA, hu, hi, hb, hs, hc, if_true, Nat.mul_one, List.length_drop]
      by_cases c : U.length = n.toNat
      · rw [if_pos c, if_pos c]
      · rw [if_neg c, if_neg c]
        unfold Addr.add
        by_cases z0 : n.toNat = 0
        · rw [if_pos z0, z0]; rfl
        · rw [if_neg z0]
    · by_cases c : U.length = n.toNat
      · rw [if_pos c]
        have hd : U.drop n.toNat = [] := List.drop_eq_nil_of_le (by omega)
        rw [hd]
        exact .inr ⟨β, o, L, rfl, e2, e3, e4, by simp; omega, by simp⟩
      · rw [if_neg c]
        refine .inr ⟨β, o + n.toNat, L, rfl, e2, e3, e4, by simp; omega, ?_⟩
        rw [List.length_drop]
        have h3 : (L.drop (o + n.toNat)).take (U.length - n.toNat) = ((L.drop o).take U.length).drop n.toNat := by
          rw [List.drop_take, List.drop_drop]
        rw [h3, e6]
theorem apB_rowO (elem : TypeId) (h : AH) (β o : Nat) (len : Nat) (k : IntKind) (n : Int) (l : List Value) (hl : o + len ≤ l.length) :
    apB elem h ⟨β, o, none⟩ len (.int k n) (some (rowObj l elem 1 true)) = some (.slice (some ⟨h.next, 0, none⟩) (len + 1) (len + 1), (h.kill β).push (rowObj ((l.drop o).take len ++ [.int k n]) elem 1 true)) := by
  unfold apB rowObj
  simp only [Option.isNone_none, List.all_cons, List.all_nil, true_and, and_self, if_true, Bool.and_true]
  have : (Value.int k n).oneCell' = true := rfl
  simp only [this, and_true, hl, if_true]
  rw [rowA_ofRow' l len o hl]; rfl
theorem Us.app {U : List Int} {a : Option Addr} {b : Nat} {h : AH} (hU : Us U a b h) (hbn : b < h.next) (x : Int) :
    ∃ a' h', apK 3 (h.push (rowObj [.int .i64 x] 3 0 false)) a U.length (some (.int .i64 x)) = some (.slice a' (U ++ [x]).length (U ++ [x]).length, h') ∧
      Us (U ++ [x]) a' b h' ∧ h.next ≤ h'.next ∧ ∀ γ, γ < h.next → (∀ o, a ≠ some ⟨γ, o, none⟩) → h'.get γ = h.get γ := by
  rcases hU with ⟨rfl, rfl⟩ | ⟨β, o, L, rfl, e2, e3, e4, e5, e6⟩
  · refine ⟨some ⟨h.next + 1, 0, none⟩, _, by rw [List.length_nil, apK_nil]; rfl, .inr ⟨h.next + 1, 0, [x], rfl, ?_, by omega, ?_, by simp, by simp⟩, ?_, fun γ h1 _ => ?_⟩
    · rw [AH.next_push, AH.next_push]; omega
    · rw [AH.get_push, AH.next_push, if_pos rfl]; rfl
    · rw [AH.next_push, AH.next_push]; omega
    · rw [AH.get_push, AH.next_push, if_neg (by omega), AH.get_push, if_neg (by omega)]
  · have hg : (h.push (rowObj [.int .i64 x] 3 0 false)).get β = some (rowObj (ints L) 3 1 true) := by rw [AH.get_push, if_neg (by omega)]; exact e4
    have hap := apB_rowO 3 (h.push (rowObj [.int .i64 x] 3 0 false)) β o U.length .i64 x (ints L) (by simpa [ints] using e5)
    have hcells : (List.drop o (ints L)).take U.length ++ [.int .i64 x] = ints (U ++ [x]) := by
      unfold ints
      rw [← List.map_drop, ← List.map_take, e6]; simp
    rw [hcells] at hap
    refine ⟨some ⟨h.next + 1, 0, none⟩, ((h.push (rowObj [.int .i64 x] 3 0 false)).kill β).push (rowObj (ints (U ++ [x])) 3 1 true), ?_, .inr ⟨h.next + 1, 0, U ++ [x], rfl, ?_, by omega, ?_, by simp, by rw [List.drop_zero, List.take_length]⟩, ?_, fun γ h1 h2 => ?_⟩
    · rw [apK_some, hg, hap, AH.next_push, List.length_append]; rfl
    · rw [AH.next_push, AH.next_kill, AH.next_push]; omega
    · rw [AH.get_push, AH.next_kill, AH.next_push, if_pos rfl]
    · rw [AH.next_push, AH.next_kill, AH.next_push]; omega
    · have hne : γ ≠ β := fun e => h2 o (by rw [e])
      rw [AH.get_push, AH.next_kill, AH.next_push, if_neg (by omega), AH.get_kill, if_neg hne, AH.get_push, if_neg (by omega)]
end Go.Proofs.Ring
