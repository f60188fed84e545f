/-
  AE, a region's operations listed in another order: the same runs.
-/
import Derived.Test.YtimngnabpolgkaaGreatAeF1
import Derived.OrdersIn
namespace Go.AE
noncomputable section
set_option linter.unusedSimpArgs false
set_option linter.unusedVariables false
variable {P : Program}

def renOper (σ : Nat → Nat) (o : Oper) : Oper :=
  { o with after := o.after.map (fun e => { e with on := σ e.on }), guard := o.guard.map fun g => (σ g.1, g.2) }

/-- The operations in the order that L lists. -/
def permOps (ops : Array Oper) (L : List Nat) : Array Oper := ⟨L.map fun i => renOper (fun j => L.idxOf j) (ops.getD i default)⟩

/-- L lists each operation just once; nothing names an operation that is not there. -/
def permOk (ops : Array Oper) (L : List Nat) : Bool :=
  (L.length == ops.size) && (List.range ops.size).all (fun i => L[L.idxOf i]? == some i) && L.all (fun i => decide (i < ops.size)) &&
  (List.range ops.size).all (fun p => L.idxOf (L.getD p 0) == p) &&
  ops.toList.all (fun o => o.after.toList.all (fun e => decide (e.on < ops.size)) && (match o.guard with | some (j, _) => decide (j < ops.size) | none => true))

structure PermOk (ops ops' : Array Oper) (σ τ : Nat → Nat) : Prop where
  size : ops'.size = ops.size
  lt : ∀ i, i < ops.size → σ i < ops.size
  tlt : ∀ i, i < ops.size → τ i < ops.size
  ts : ∀ i, i < ops.size → τ (σ i) = i
  st : ∀ i, i < ops.size → σ (τ i) = i
  op : ∀ (i : Nat) (o : Oper), ops[i]? = some o → ops'[σ i]? = some (renOper σ o)
  edge : ∀ (i : Nat) (o : Oper), ops[i]? = some o → ∀ e ∈ o.after, e.on < ops.size
  guard : ∀ (i : Nat) (o : Oper), ops[i]? = some o → ∀ j b, o.guard = some (j, b) → j < ops.size

theorem permOk_spec {ops : Array Oper} {L : List Nat} (h : permOk ops L = true) : PermOk ops (permOps ops L) (fun j => L.idxOf j) (fun p => L.getD p 0) := by
  simp only [permOk, Bool.and_eq_true, List.all_eq_true, beq_iff_eq, decide_eq_true_eq, List.mem_range] at h
  obtain ⟨⟨⟨⟨h1, h2⟩, h3⟩, h4⟩, h5⟩ := h
  have hidx : ∀ i, i < ops.size → L.idxOf i < ops.size := fun i hi => by
    have := (List.getElem?_eq_some_iff.1 (h2 i hi)).1
    omega
  refine ⟨by simp [permOps, h1], hidx, fun p hp => ?_, fun i hi => ?_, fun p hp => h4 p hp, fun i o ho => ?_, fun i o ho e he => ?_, fun i o ho j b hg => ?_⟩
  · have hl : p < L.length := by omega
    simp only [List.getD_eq_getElem?_getD, List.getElem?_eq_getElem hl, Option.getD_some]
    exact h3 _ (List.getElem_mem hl)
  · simp only [List.getD_eq_getElem?_getD, h2 i hi, Option.getD_some]
  · have hi : i < ops.size := (Array.getElem?_eq_some_iff.1 ho).1
    simp only [permOps, List.getElem?_toArray, List.getElem?_map, h2 i hi, Option.map_some]
    congr 2
    simp [Array.getD_eq_getD_getElem?, ho]
  · have hm : o ∈ ops.toList := Array.mem_toList_iff.2 (Array.mem_of_getElem? ho)
    exact (h5 o hm).1 e (by simpa using he)
  · have hm : o ∈ ops.toList := Array.mem_toList_iff.2 (Array.mem_of_getElem? ho)
    have := (h5 o hm).2
    rw [hg] at this
    simpa using this

variable {ops ops' : Array Oper} {σ τ : Nat → Nat} {F : Fence} {n : Nat} {md : Region.Mode} {Q : Exit → Act → World → Prop}

theorem perm_yielded (hp : PermOk ops ops' σ τ) (B : Array Value) {j : Nat} (hj : j < ops.size) : yielded ops' B (σ j) = yielded ops B j := by
  have ho : ops[j]? = some ops[j] := by simp [hj]
  simp only [yielded, hp.op j _ ho, ho]
  rfl

theorem perm_wanted (hp : PermOk ops ops' σ τ) (B : Array Value) {i : Nat} {o : Oper} (ho : ops[i]? = some o) :
    Region.wanted (renOper σ o) (yielded ops' B) = Region.wanted o (yielded ops B) := by
  unfold Region.wanted
  cases hg : o.guard with
  | none => simp [renOper, hg]
  | some g =>
    obtain ⟨j, b⟩ := g
    simp only [renOper, hg, Option.map_some]
    rw [perm_yielded hp B (hp.guard i o ho j b hg)]

theorem perm_wpOp (hp : PermOk ops ops' σ τ) {i : Nat} (hi : i < ops.size) {K K' : Act → World → Prop} (hK : ∀ a w, K' a w → K a w) {a : Act} {w : World}
    (h : wpOpIn F n P ops' Q (σ i) K' a w) : wpOpIn F n P ops Q i K a w := by
  have ho : ops[i]? = some ops[i] := by simp [hi]
  unfold wpOpIn at h ⊢
  rw [hp.op i _ ho] at h
  rw [ho]
  simp only at h ⊢
  rw [perm_wanted hp a.tmps ho] at h
  split at h
  · rename_i hw
    rw [if_pos hw]
    exact Oper.wpIn_mono hK (h : Oper.wpIn F n P ops[i] a w K' Q)
  · rename_i hw
    rw [if_neg hw]
    exact ⟨h.1, hK _ _ h.2⟩

theorem perm_ready (hp : PermOk ops ops' σ τ) {listed listed' : Array Bool} (hl : ∀ i d, i < ops.size → listed'.getD (σ i) d = listed.getD i d) {i : Nat} :
    (i ∈ Region.ready md ops listed → σ i ∈ Region.ready md ops' listed') ∧ (i < ops.size → σ i ∈ Region.ready md ops' listed' → i ∈ Region.ready md ops listed) := by
  refine ⟨fun h => ?_, fun hi h => ?_⟩
  · obtain ⟨h1, o, ho, h2⟩ := mem_ready.1 h
    have hi : i < ops.size := (Array.getElem?_eq_some_iff.1 ho).1
    refine mem_ready.2 ⟨by rw [hl i true hi]; exact h1, _, hp.op i o ho, fun e he hb => ?_⟩
    simp only [renOper, Array.mem_map] at he
    obtain ⟨e', he', rfl⟩ := he
    rw [hl _ false (hp.edge i o ho e' he')]
    exact h2 e' he' hb
  · obtain ⟨h1, o', ho', h2⟩ := mem_ready.1 h
    have ho : ops[i]? = some ops[i] := by simp [hi]
    rw [hp.op i _ ho] at ho'
    cases ho'
    refine mem_ready.2 ⟨by rw [← hl i true hi]; exact h1, _, ho, fun e he hb => ?_⟩
    rw [← hl _ false (hp.edge i _ ho e he)]
    exact h2 { e with on := σ e.on } (by simp only [renOper, Array.mem_map]; exact ⟨e, he, rfl⟩) hb

theorem perm_any (hp : PermOk ops ops' σ τ) : ∀ (fuel : Nat) (listed listed' : Array Bool) (a : Act) (w : World), listed.size = ops.size → listed'.size = ops.size →
    (∀ i d, i < ops.size → listed'.getD (σ i) d = listed.getD i d) → wpAnyIn F n P md ops' Q fuel listed' a w → wpAnyIn F n P md ops Q fuel listed a w := by
  have nil : ∀ (listed listed' : Array Bool), (∀ i d, i < ops.size → listed'.getD (σ i) d = listed.getD i d) → Region.ready md ops listed = [] → Region.ready md ops' listed' = [] := by
    intro listed listed' hl hr
    apply List.eq_nil_iff_forall_not_mem.2
    intro j hj
    obtain ⟨_, o', ho', _⟩ := mem_ready.1 hj
    have hjs : j < ops.size := by have := (Array.getElem?_eq_some_iff.1 ho').1; rw [hp.size] at this; exact this
    rw [← hp.st j hjs] at hj
    have := (perm_ready hp hl (md := md)).2 (hp.tlt j hjs) hj
    rw [hr] at this; cases this
  intro fuel
  induction fuel with
  | zero =>
    intro listed listed' a w h1 h2 hl h
    refine ⟨?_, h.2⟩
    apply List.eq_nil_iff_forall_not_mem.2
    intro i hi
    have := (perm_ready hp hl (md := md)).1 hi
    rw [h.1] at this; cases this
  | succ fuel ih =>
    intro listed listed' a w h1 h2 hl h
    refine ⟨fun hr => h.1 (nil listed listed' hl hr), fun i hi => ?_⟩
    have hlt : i < ops.size := by
      obtain ⟨_, o, ho, _⟩ := mem_ready.1 hi
      exact (Array.getElem?_eq_some_iff.1 ho).1
    refine perm_wpOp hp hlt (fun a w hw => ?_) (h.2 (σ i) ((perm_ready hp hl (md := md)).1 hi))
    refine ih _ _ a w (by simp [h1]) (by simp [h2]) (fun k d hk => ?_) hw
    have := hl k d hk
    have hs1 : σ i < listed'.size := by rw [h2]; exact hp.lt i hlt
    have hs2 : i < listed.size := by omega
    simp only [Array.getD_eq_getD_getElem?, Array.getElem?_setIfInBounds] at this ⊢
    by_cases e : i = k
    · subst e; simp [hs1, hs2]
    · have e' : σ i ≠ σ k := fun he => e (by rw [← hp.ts i hlt, he, hp.ts k hk])
      simp only [e, e', if_false]
      exact this

end
end Go.AE
