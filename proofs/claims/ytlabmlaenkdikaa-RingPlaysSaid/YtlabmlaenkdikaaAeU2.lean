/-
  AE, part 30: a slice of pairs (a truth value, a number) that came in.
-/
import Derived.Test.YtlabmlaenkdikaaAeU1
import Derived.Deep.SlicePairs
namespace Go.AE
open Go.RowKit Go.ChangeShapes Go.WideShapes
variable {P : Program}

def boolV : Value → Bool
  | .bool b => b
  | _ => false
def intV : Value → Int
  | .int _ n => n
  | _ => 0

theorem addr_add (b off i : Nat) : ((⟨b, off, none⟩ : Addr).add i) = ⟨b, off + i, none⟩ := by
  unfold Addr.add; split
  · rename_i e; subst e; rfl
  · rfl

theorem open_arg_pairs {H : Type} {enc : TypeId × Value → H} {W : World} {t e : TypeId} {f0 f1 : Field} {k : IntKind} {v : Value} {d : DataW H} {ps : List MemPlace} {r : Reach} {base : Nat} (ht : P.underlying t = some (.slice e)) (he : P.underlying e = some (.struct #[f0, f1]))
    (ce : P.cellsOf e = 2) (o0 : f0.offset = 0) (o1 : f1.offset = 1) (c0 : P.cellsOf f0.type = 1) (c1 : P.cellsOf f1.type = 1) (h0 : P.underlying f0.type = some .bool) (h1 : P.underlying f1.type = some (.int k))
    (hok : Value.okWide P W r base t v) (h : DataW.Trod enc P W 0 (fun _ => true) true t v d ps) :
    ∃ (l : List (Bool × Int)), (∀ x ∈ l, (Lit.int k x.2).wf = true) ∧ ((v = .slice none 0 0 ∧ l = []) ∨
      ∃ b off c C elem fz, v = .slice (some ⟨b, off, none⟩) l.length c ∧ l.length ≤ c ∧ W.heap[b]? = some (.cells C elem fz) ∧ ∀ (i : Nat) x, l[i]? = some x → C[off + i * 2]? = some (.bool x.1) ∧ C[off + i * 2 + 1]? = some (.int k x.2)) := by
  obtain ⟨a0, len, cap, rfl⟩ := okWide_slice ht hok
  obtain ⟨fuel, hf⟩ := h
  have hcs : (Value.slice a0 len cap).cells.toList = [.slice a0 len cap] := rfl
  rw [hcs] at hf
  rcases Go.Deep.open_slice_pairs ht he ce o0 o1 c0 c1 hf with ⟨e1, _⟩ | ⟨a, len', cap', m, n, V0, V1, D0, D1, P0, P1, e1, hb, hl, hm, hmm, _, hx⟩
  · exact ⟨[], by simp, .inl ⟨by simpa using e1, rfl⟩⟩
  · simp only [List.cons.injEq, Value.slice.injEq, and_true] at e1
    obtain ⟨rfl, rfl, rfl⟩ := e1
    simp only [if_true] at hmm
    subst hmm
    have hok' : W.has P r base a e m := by
      unfold Value.okWide at hok
      simp only [ht] at hok
      unfold Cell.okWide at hok
      simp only [ht] at hok
      unfold Cell.ok at hok
      simp only [ht] at hok
      exact hok.2.2
    obtain ⟨_, hsp, row, q, hsh, _⟩ := hok'
    obtain ⟨b, off, sp⟩ := a
    simp only at hsp hsh
    subst hsp
    unfold World.shape? at hsh
    split at hsh
    · rename_i C elem fz hC
      have each : ∀ i, i < len → C[off + i * 2]? = some (.bool (boolV (V0 i))) ∧ C[off + i * 2 + 1]? = some (.int k (intV (V1 i))) ∧ (Lit.int k (intV (V1 i))).wf = true := by
        intro i hi
        obtain ⟨g0, g1, g2, g3⟩ := hx i (by omega)
        obtain ⟨bb, eb, _⟩ := DataW.trod_bool h0 g2
        obtain ⟨nn, en, _, hw⟩ := DataW.trod_int h1 g3
        simp only [List.cons.injEq, and_true] at eb en
        rw [eb] at g0 ⊢
        rw [en] at g1 ⊢
        rw [addr_add] at g0
        rw [addr_add] at g1
        unfold World.cell? at g0 g1
        simp only [hC] at g0 g1
        exact ⟨by simpa [boolV] using g0, by simpa [intV, Nat.add_assoc] using g1, hw⟩
      refine ⟨(List.range len).map fun i => (boolV (V0 i), intV (V1 i)), fun x hx => ?_, .inr ⟨b, off, m, C, elem, fz, by simp, by simpa using hl, hC, fun i x hi => ?_⟩⟩
      · obtain ⟨i, hi, rfl⟩ := List.mem_map.1 hx
        exact (each i (List.mem_range.1 hi)).2.2
      · have hlt : i < len := by have := (List.getElem?_eq_some_iff.1 hi).1; simpa using this
        rw [List.getElem?_map, List.getElem?_range hlt] at hi
        simp only [Option.map_some, Option.some.injEq] at hi
        subst hi
        exact ⟨(each i hlt).1, (each i hlt).2.1⟩
    · cases hsh
end Go.AE
