/-
  AE, part 7: make, append, copy.
-/
import Derived.Test.YtimngnabpolgkaaGreatAeA6
namespace Go.AE
noncomputable section
set_option linter.unusedSimpArgs false
set_option linter.unusedVariables false
variable {P : Program} {ρ : Ren} {h : AH} {w : World}

/-! ### make -/
/-- All cells of a nought alike. -/
def uni (zero : Array Value) : Option Value :=
  match zero.toList with
  | [] => none
  | [v] => if plain1 v then some v else none
  | .int k n :: r => if r.all (fun y => match y with | .int k' n' => decide (k' = k) && decide (n' = n) | _ => false) then some (.int k n) else none
  | .bool b :: r => if r.all (fun y => match y with | .bool b' => b' == b | _ => false) then some (.bool b) else none
  | _ => none

theorem uni_spec {zero : Array Value} {d : Value} (hu : uni zero = some d) : plain1 d = true ∧ 0 < zero.size ∧ ∀ j (hj : j < zero.size), zero[j] = d := by
  unfold uni at hu
  have key : ∀ (l : List Value), zero.toList = l → (∀ v ∈ l, v = d) → ∀ j (hj : j < zero.size), zero[j] = d := by
    intro l hl hall j hj
    refine hall _ ?_
    rw [← hl]; simp
  have pos : ∀ (v : Value) (r : List Value), zero.toList = v :: r → 0 < zero.size := by
    intro v r hl
    have := congrArg List.length hl
    simp at this; omega
  split at hu
  · cases hu
  · rename_i v hl
    split at hu
    · rename_i hp; cases hu
      exact ⟨hp, pos _ _ hl, key _ hl (by simp)⟩
    · cases hu
  · rename_i k n r _ hl
    split at hu
    · rename_i hr; cases hu
      refine ⟨rfl, pos _ _ hl, key _ hl ?_⟩
      intro v hv
      rcases List.mem_cons.1 hv with rfl | hv
      · rfl
      · have := List.all_eq_true.1 hr v hv
        split at this
        · simp at this; rw [this.1, this.2]
        · cases this
    · cases hu
  · rename_i b r _ hl
    split at hu
    · rename_i hr; cases hu
      refine ⟨rfl, pos _ _ hl, key _ hl ?_⟩
      intro v hv
      rcases List.mem_cons.1 hv with rfl | hv
      · rfl
      · have := List.all_eq_true.1 hr v hv
        split at this
        · simp at this; rw [this]
        · cases this
    · cases hu
  · cases hu

def makeSliceA (P : Program) (t : TypeId) (len cap : Value) (h : AH) : Option (Value × AH) :=
  match P.underlying t, len, cap with
  | some (.slice elem), .int _ l, .int _ c =>
    match zeroA P elem with
    | some (inf, z) =>
      if 0 ≤ l ∧ l ≤ c ∧ c ≤ 9223372036854775807 ∧ inf.bytes * c ≤ 2 ^ 48 ∧ (c.toNat * inf.size = 0 ∨ 0 < z.cells.size) then
        match uni z.cells with
        | some d => some (.slice (some ⟨h.next, 0, none⟩) l.toNat c.toNat, h.push (.cells .leaf (c.toNat * inf.size) elem (0, 0) 0 false false d))
        | none => some (.slice (some ⟨h.next, 0, none⟩) l.toNat c.toNat, h.push (rowObj (zeros (if c.toNat * inf.size = 0 then #[] else z.cells) (c.toNat * inf.size)).toList elem 0 false))
      else none
    | none => none
  | _, _, _ => none

theorem size_zeros (z : Array Value) (n : Nat) : (zeros z n).size = n := by simp [zeros]

theorem makeSlice_run {t : TypeId} {elem : TypeId} {l c : Int} {k k' : IntKind} {inf : TypeInfo} {z : Value} (hu : P.underlying t = some (.slice elem)) (hi : P.info? elem = some inf)
    (hz : (zeroValue elem).run P w = .ok z w) (h1 : 0 ≤ l) (h2 : l ≤ c) (h3 : c ≤ 9223372036854775807) (h4 : inf.bytes * c ≤ 2 ^ 48) :
    (Instr.makeSlice t (.int k l) (.int k' c)).run P w = .ok (.slice (some ⟨w.heap.size, 0, none⟩) l.toNat c.toNat)
      { w with heap := w.heap.push (.cells (zeros (if c.toNat * inf.size = 0 then #[] else z.cells) (c.toNat * inf.size)) elem) } := by
  have e1 : IntKind.i64.wrap l = l := IntWalk.i64_in _ (by omega)
  have e2 : IntKind.i64.wrap c = c := IntWalk.i64_in _ (by omega)
  have hc : ¬ ((decide (c < 0) || decide (inf.bytes * c > 2 ^ 48)) = true ∨ l < 0 ∨ l > c) := by
    simp only [Bool.or_eq_true, decide_eq_true_eq]; omega
  have hc' : ((decide (c < 0) || decide ((inf.bytes : Int) * c > 2 ^ 48)) || decide (l < 0) || decide (l > c)) = false := by
    simp only [Bool.or_eq_false_iff, decide_eq_false_iff_not]; omega
  have hzz : ∀ zz : Array Value, zeros zz (c.toNat * inf.size) = (Array.range (c.toNat * inf.size)).map (zz[· % zz.size]!) := fun _ => rfl
  by_cases h0 : c.toNat * inf.size = 0
  · simp only [Instr.makeSlice, Sem.run_bind, run_underlying hu, Result.andThen_ok, asInt, asIntOf, Sem.run_pure, run_info hi, e1, e2, hc', Bool.false_eq_true, if_false, run_askRoom, run_size hi, newRow, run_newObj, h0, if_true, Sem.run_ite]
    rfl
  · simp only [Instr.makeSlice, Sem.run_bind, run_underlying hu, Result.andThen_ok, asInt, asIntOf, Sem.run_pure, run_info hi, e1, e2, hc', Bool.false_eq_true, if_false, run_askRoom, run_size hi, newRow, run_newObj, h0, hzz, hz, Sem.run_ite]

theorem makeSliceA_sim {t : TypeId} {len cap len' cap' v : Value} {h' : AH} (hR : Rel ρ h w.heap) (hl : V ρ len len') (hc : V ρ cap cap') (hs : makeSliceA P t len cap h = some (v, h')) :
    Makes P ρ w (Instr.makeSlice t len' cap') v h' := by
  unfold makeSliceA at hs
  split at hs
  · rename_i elem k l k' c hu
    cases hl; cases hc
    split at hs
    · rename_i inf z hz
      split at hs
      · rename_i hcond
        obtain ⟨c1, c2, c3, c4, c5⟩ := hcond
        obtain ⟨h1, h2, h3⟩ := zeroA_run hz w
        have hrun := makeSlice_run (k := k) (k' := k') hu h2 h1 c1 c2 c3 c4
        split at hs
        · rename_i d hd
          cases hs
          obtain ⟨d1, d2, d3⟩ := uni_spec hd
          refine ⟨ρ.put h.next (newInfo w.heap.size (c.toNat * inf.size) (c.toNat * inf.size) 0 false), _, _, hrun, Step.alloc hR _ _ rfl, hR.alloc _ _ _ rfl ?_, ?_⟩
          · refine ⟨_, rfl, rfl, rfl, rfl, rfl, by simp [newInfo, size_zeros], by simp [newInfo], fun _ => ⟨rfl, rfl⟩, fun _ => rfl, fun j hj => ?_⟩
            have : (zeros (if c.toNat * inf.size = 0 then #[] else z.cells) (c.toNat * inf.size)).getD ((newInfo w.heap.size (c.toNat * inf.size) (c.toNat * inf.size) 0 false).s + j) undef = d := by
              have hne : ¬ c.toNat * inf.size = 0 := by omega
              have hlt : j % z.cells.size < z.cells.size := Nat.mod_lt _ d2
              simp only [newInfo, Nat.zero_add, hne, if_false]
              have hj' : j < (zeros z.cells (c.toNat * inf.size)).size := by rw [size_zeros]; exact hj
              rw [Array.getD, dif_pos hj']
              simp only [zeros, Array.getInternal_eq_getElem, Array.getElem_map, Array.getElem_range]
              rw [getElem!_pos z.cells _ hlt]; exact d3 _ hlt
            rw [this, PT.get_leaf]; exact V.refl1 d1
          · exact .slice _ _ _ _ _ (by omega) ⟨newInfo w.heap.size (c.toNat * inf.size) (c.toNat * inf.size) 0 false, by simp [Ren.put], rfl, rfl, .inl ⟨rfl, rfl⟩⟩
        · cases hs
          have hz0 : (zeros (if c.toNat * inf.size = 0 then #[] else z.cells) (c.toNat * inf.size)).all plain1 = true := by
            by_cases h0 : c.toNat * inf.size = 0
            · rw [if_pos h0, h0]; exact zeros_plain (zero := #[]) (by simp) 0 (.inl rfl)
            · simp only [h0, if_false]; exact zeros_plain h3 _ (by omega)
          obtain ⟨e1, e2, e3, e4⟩ := newRow_sim (P := P) (xs := (zeros (if c.toNat * inf.size = 0 then #[] else z.cells) (c.toNat * inf.size)).toList) hR (VS.refl1 (ρ := ρ) hz0).tl elem 0
          obtain ⟨i, a1, a2, a3, a4⟩ := e4
          exact ⟨_, _, _, hrun, e2, e3, .slice _ _ _ _ _ (by omega) ⟨i, a1, a2, a4, .inl ⟨rfl, a3⟩⟩⟩
      · cases hs
    · cases hs
  · cases hs

/-! ### The cells that an append or a copy takes -/
def srcA (x : Value) (n size : Nat) (h : AH) : Option (List Value) :=
  match x with
  | .slice none _ _ => some []
  | .slice (some a) _ _ =>
    match h.get a.block with
    | some (.cells c m _ _ _ _ _ d) => if a.spot.isNone ∧ a.off + n * size ≤ m then some (rowA c d a.off (n * size)) else none
    | _ => none
  | .string s => some ((s.extract 0 n).data.toList.map fun b => .int .u8 b.toNat)
  | _ => none

def lenA : Value → Option Nat
  | .slice _ n _ => some n
  | .string s => some s.size
  | _ => none

theorem lenA_sim {x x' : Value} {n : Nat} (hx : V ρ x x') (hs : lenA x = some n) (w : World) : (Builtin.lenOf x').run P w = .ok n w := by
  unfold lenA at hs
  split at hs
  · cases hs; cases hx <;> rfl
  · cases hs; cases hx; rfl
  · cases hs

theorem srcA_sim {x x' : Value} {n len size : Nat} {vs : List Value} (hR : Rel ρ h w.heap) (hx : V ρ x x') (hl : lenA x = some len) (hn : n ≤ len) (hs : srcA x n size h = some vs) :
    ∃ ys, (Builtin.firstCells size n x').run P w = .ok ys w ∧ VS ρ vs.toArray ys := by
  unfold srcA at hs
  split at hs
  · cases hs
    cases hx
    exact ⟨#[], rfl, rfl, fun j hj => by simp at hj⟩
  · rename_i a m k
    cases hx with
    | slice _ b _ _ c hnk hS =>
      split at hs
      · rename_i cc mm elem fz esz op ro d hg
        split at hs
        · rename_i hc
          cases hs
          simp only [lenA, Option.some.injEq] at hl
          by_cases h0 : n * size = 0
          · refine ⟨#[], by simp [Builtin.firstCells, h0, loadCells, loadCellsFrom], ?_⟩
            rw [h0]; exact ⟨rfl, fun j hj => by simp [rowA] at hj⟩
          · have hpos : 0 < k := by
              rcases Nat.eq_zero_or_pos n with hn0 | hn0
              · subst hn0; simp at h0
              · omega
            obtain ⟨i, hi, ab, ao, asp⟩ := hS.head hpos
            obtain ⟨i', b', hi', hb, C, rfl, e2, e3, e4, e5, e6, e7, e8, e9, hv⟩ := hR.obj _ _ hg
            obtain rfl : i = i' := by rw [hi] at hi'; exact Option.some.inj hi'
            have hsp : b.spot = none := by rw [asp]; simpa using hc.1
            refine ⟨_, by
              simp only [Builtin.firstCells]
              exact run_loadCells_row w b C elem fz (n * size) (by rw [ab]; exact hb) hsp (by omega), ?_⟩
            refine ⟨by simp, fun j hj => ?_⟩
            simp only [List.size_toArray, length_rowA] at hj
            have h1 : ((rowA cc d a.off (n * size)).toArray).getD j undef = (cc.get (a.off + j)).getD d := by
              simp [Array.getD_eq_getD_getElem?, getElem?_rowA _ _ _ _ _ hj]
            have h2 : (((List.range (n * size)).map fun j => C.getD (b.off + j) undef).toArray).getD j undef = C.getD (b.off + j) undef := by
              simp [Array.getD_eq_getD_getElem?, hj]
            rw [h1, h2]
            have := hv (a.off + j) (by omega)
            rwa [show i.s + (a.off + j) = b.off + j by omega] at this
        · cases hs
      · cases hs
  · rename_i s
    cases hs
    cases hx
    refine ⟨_, rfl, ?_⟩
    have : ((s.extract 0 n).data.map fun b : UInt8 => Value.int .u8 b.toNat).all plain1 = true := by
      rw [Array.all_eq_true]; intro j hj; simp [plain1]
    have h2 := VS.refl1 (ρ := ρ) this
    have e : ((s.extract 0 n).data.toList.map fun b : UInt8 => Value.int .u8 b.toNat).toArray = ((s.extract 0 n).data.map fun b : UInt8 => Value.int .u8 b.toNat) := by
      apply Array.ext'; simp
    rw [e]; exact h2
  · cases hs

/-! ### copy -/
def copyA (P : Program) (argTypes : Array TypeId) (args : Array Value) (h : AH) : Option (Value × AH) :=
  match (argTypes[0]? : Option TypeId), (args[0]? : Option Value), (args[1]? : Option Value) with
  | some dT, some (.slice base dLen _), some src =>
    match P.underlying dT with
    | some (.slice elem) =>
      match P.info? elem, lenA src with
      | some inf, some sLen =>
        match srcA src (Nat.min sLen dLen) inf.size h with
        | some vs =>
          if vs.isEmpty then some (goInt (Nat.min sLen dLen), h) else
          match base with
          | some a => if 0 < dLen then (putCells a vs h).map fun h' => (goInt (Nat.min sLen dLen), h') else none
          | none => none
        | none => none
      | _, _ => none
    | _ => none
  | _, _, _ => none

theorem getD_some {xs ys : Array Value} {j : Nat} {v : Value} (hv : VS ρ xs ys) (h : xs[j]? = some v) : ∃ v', ys[j]? = some v' ∧ V ρ v v' := by
  obtain ⟨hlt, rfl⟩ := Array.getElem?_eq_some_iff.1 h
  have hlt' : j < ys.size := hv.1 ▸ hlt
  exact ⟨ys[j], by simp [hlt'], by simpa [Array.getD, hlt, hlt'] using hv.2 j hlt⟩

theorem copyA_sim {argTypes : Array TypeId} {ty : TypeId} {args args' : Array Value} {v : Value} {h' : AH} (hR : Rel ρ h w.heap) (ha : VS ρ args args') (hs : copyA P argTypes args h = some (v, h')) :
    Makes P ρ w (Builtin.copy_ argTypes ty args') v h' := by
  unfold copyA at hs
  split at hs
  · rename_i dT base dLen k src ht h0 h1
    obtain ⟨d', hd', hdv⟩ := getD_some ha h0
    obtain ⟨s', hs', hsv⟩ := getD_some ha h1
    split at hs
    · rename_i elem hu
      split at hs
      · rename_i inf sLen hi hlen
        split at hs
        · rename_i vs hsrc
          obtain ⟨ys, hr, hvy⟩ := srcA_sim (P := P) hR hsv hlen (Nat.min_le_left _ _) hsrc
          have hlr := lenA_sim (P := P) hsv hlen w
          have hdrun : ∃ base' k', d' = .slice base' dLen k' ∧ (∀ a, base = some a → 0 < dLen → ∃ b, base' = some b ∧ ARel ρ a b) := by
            cases hdv with
            | nilSlice _ _ => exact ⟨none, _, rfl, fun a e => by cases e⟩
            | slice x b _ _ c hnk hS => exact ⟨some b, c, rfl, fun a e hpos => by cases e; exact ⟨b, rfl, hS.head (by omega)⟩⟩
          obtain ⟨base', k', rfl, hbase⟩ := hdrun
          split at hs
          · rename_i hemp
            cases hs
            have hv0 : vs = [] := by simpa using hemp
            subst hv0
            have hy0 : ys = #[] := by have := hvy.1; simp at this; exact Array.eq_empty_of_size_eq_zero this.symm
            subst hy0
            refine ⟨ρ, goInt (Nat.min sLen dLen), w, ?_, Step.refl ρ w, hR, .int _ _⟩
            cases base' with
            | none => simp only [Builtin.copy_, ht, hd', hs', Sem.run_bind, run_underlying hu, Result.andThen_ok, hlr, run_size hi, hr, Sem.run_pure]
            | some b => simp only [Builtin.copy_, ht, hd', hs', Sem.run_bind, run_underlying hu, Result.andThen_ok, hlr, run_size hi, hr, Sem.run_pure, storeCells]
          · split at hs
            · rename_i a
              split at hs
              · rename_i hpos
                obtain ⟨b, rfl, hA⟩ := hbase a rfl hpos
                cases hp : putCells a vs h with
                | none => rw [hp] at hs; cases hs
                | some h1 =>
                  rw [hp] at hs; cases hs
                  obtain ⟨w', e1, e2, e3⟩ := putCells_sim (P := P) (vs' := ys.toList) hR hA (by rw [Array.toArray_toList]; exact hvy) hp
                  refine ⟨ρ, goInt (Nat.min sLen dLen), w', ?_, e2, e3, .int _ _⟩
                  simp only [Builtin.copy_, ht, hd', hs', Sem.run_bind, run_underlying hu, Result.andThen_ok, hlr, run_size hi, hr, Sem.run_pure, e1]
              · cases hs
            · cases hs
        · cases hs
      · cases hs
    · cases hs
  · cases hs

/-! ### append -/
/-- Where an open row lies. -/
def openInfo (b s n N esz : Nat) : Info := { b, s, n, N, esz, op := true, ro := false }

/-- A new row, open behind. -/
def openRow (cells : List Value) (elem : TypeId) (esz : Nat) : AObj := rowObj cells elem esz true

/-- The second operand is no number of noughts. -/
def notMake (P : Program) (argTypes : Array TypeId) : Bool :=
  match (argTypes[1]? : Option TypeId) with
  | none => true
  | some xT => match P.underlying xT with
    | some d => !(d matches .int _)
    | none => false

theorem notMake_spec {argTypes : Array TypeId} (h : notMake P argTypes = true) :
    argTypes[1]? = none ∨ ∃ xT d, argTypes[1]? = some xT ∧ P.underlying xT = some d ∧ (d matches .int _) = false := by
  unfold notMake at h
  split at h
  · rename_i e; exact .inl e
  · rename_i xT e
    split at h
    · rename_i d hd; exact .inr ⟨xT, d, e, hd, by simpa using h⟩
    · cases h

def appendA (P : Program) (argTypes : Array TypeId) (args : Array Value) (h : AH) : Option (Value × AH) :=
  match (argTypes[0]? : Option TypeId), (args[0]? : Option Value), (args[1]? : Option Value) with
  | some sT, some (.slice base len cap), some x =>
    match P.underlying sT, notMake P argTypes with
    | some (.slice elem), true =>
      match zeroA P elem, lenA x with
      | some (inf, z), some n =>
        match srcA x n inf.size h with
        | some vs =>
          if len + n ≤ cap then
            if vs.isEmpty then some (.slice base (len + n) cap, h) else
            match base with
            | some a => if 0 < cap then (putCells (a.add (len * inf.size)) vs h).map fun h' => (.slice base (len + n) cap, h') else none
            | none => none
          else if (2 * (len + n) + 768) * inf.bytes ≤ 2 ^ 47 ∧ len + n ≤ 2 ^ 47 ∧ z.cells.size = inf.size ∧ vs.length = n * inf.size then
            match base with
            | none => if len = 0 then some (.slice (some ⟨h.next, 0, none⟩) (len + n) (len + n), h.push (openRow vs elem inf.size)) else none
            | some a =>
              match h.get a.block with
              | some (.cells c m e _ esz op ro d) =>
                if a.spot.isNone ∧ a.off + len * inf.size ≤ m ∧ vs.all (·.oneCell') then
                  if op then
                    if ro = false ∧ esz = inf.size ∧ e = elem then
                      some (.slice (some ⟨h.next, 0, none⟩) (len + n) (len + n), (h.kill a.block).push (openRow (rowA c d a.off (len * inf.size) ++ vs) elem inf.size))
                    else none
                  else some (.slice (some ⟨h.next, 0, none⟩) (len + n) (len + n), h.push (openRow (rowA c d a.off (len * inf.size) ++ vs) elem inf.size))
                else none
              | _ => none
          else none
        | none => none
      | _, _ => none
    | _, _ => none
  | _, _, _ => none


theorem growBy_le (newLen B : Nat) (hB : 2 * newLen + 768 ≤ B) : ∀ (r c : Nat), c ≤ B → Builtin.growBy newLen r c ≤ B
  | 0, c, hc => hc
  | r + 1, c, hc => by
    unfold Builtin.growBy
    split
    · exact hc
    · exact growBy_le newLen B hB r _ (by omega)

theorem nextslicecap_le (need c : Nat) (hc : c < need) : Builtin.nextslicecap need c ≤ 2 * need + 768 := by
  unfold Builtin.nextslicecap
  split
  · omega
  · split
    · omega
    · exact growBy_le need _ (Nat.le_refl _) 4 c (by omega)

theorem append_run_fits {argTypes : Array TypeId} {ty : TypeId} {args : Array Value} {sT elem : TypeId} {base : Option Addr} {len c n : Nat} {x : Value} {inf : TypeInfo} {ys : Array Value} {w' : World}
    (ht : argTypes[0]? = some sT) (h0 : args[0]? = some (.slice base len c)) (h1 : args[1]? = some x) (hu : P.underlying sT = some (.slice elem)) (hi : P.info? elem = some inf)
    (hz : notMake P argTypes = true)
    (hl : (Builtin.lenOf x).run P w = .ok n w) (hf : (Builtin.firstCells inf.size n x).run P w = .ok ys w) (hc : len + n ≤ c)
    (hst : (match base with | some a => storeCells (a.add (len * inf.size)) ys.toList | none => pure ()).run P w = .ok () w') :
    (Builtin.append_ argTypes ty args).run P w = .ok (.slice base (len + n) c) w' := by
  rcases notMake_spec hz with h2 | ⟨xT, d, h2, hd, hne⟩
  · cases base with
    | none =>
      simp only [Sem.run_pure] at hst; cases hst
      simp only [Builtin.append_, ht, h0, h1, h2, Sem.run_bind, run_underlying hu, Result.andThen_ok, run_size hi, Sem.run_pure, Bool.false_eq_true, if_false, Bool.not_false, if_true, hl, hc, hf]
    | some a =>
      simp only [Builtin.append_, ht, h0, h1, h2, Sem.run_bind, run_underlying hu, Result.andThen_ok, run_size hi, Sem.run_pure, Bool.false_eq_true, if_false, Bool.not_false, if_true, hl, hc, hf, hst]
  · cases base with
    | none =>
      simp only [Sem.run_pure] at hst; cases hst
      cases d <;> first | (cases hne; done) | simp only [Builtin.append_, ht, h0, h1, h2, Sem.run_bind, run_underlying hu, run_underlying hd, Result.andThen_ok, run_size hi, Sem.run_pure, Bool.false_eq_true, if_false, Bool.not_false, if_true, hl, hc, hf]
    | some a =>
      cases d <;> first | (cases hne; done) | simp only [Builtin.append_, ht, h0, h1, h2, Sem.run_bind, run_underlying hu, run_underlying hd, Result.andThen_ok, run_size hi, Sem.run_pure, Bool.false_eq_true, if_false, Bool.not_false, if_true, hl, hc, hf, hst]

theorem append_run_grows {argTypes : Array TypeId} {ty : TypeId} {args : Array Value} {sT elem : TypeId} {base : Option Addr} {len c n : Nat} {x z : Value} {inf : TypeInfo} {old ys : Array Value}
    (ht : argTypes[0]? = some sT) (h0 : args[0]? = some (.slice base len c)) (h1 : args[1]? = some x) (hu : P.underlying sT = some (.slice elem)) (hi : P.info? elem = some inf)
    (hz : notMake P argTypes = true) (hzero : ∀ w, (zeroValue elem).run P w = .ok z w)
    (hl : (Builtin.lenOf x).run P w = .ok n w) (hf : (Builtin.firstCells inf.size n x).run P { w with drawn := w.drawn + 1 } = .ok ys { w with drawn := w.drawn + 1 })
    (ho : (Builtin.firstCells inf.size len (.slice base len c)).run P { w with drawn := w.drawn + 1 } = .ok old { w with drawn := w.drawn + 1 }) (hc : c < len + n)
    (hb : (2 * (len + n) + 768) * inf.bytes ≤ 2 ^ 47) (hm : len + n ≤ 2 ^ 47) :
    ∃ newCap, len + n ≤ newCap ∧ (Builtin.append_ argTypes ty args).run P w =
      .ok (.slice (some ⟨w.heap.size, 0, none⟩) (len + n) newCap) { { w with drawn := w.drawn + 1 } with heap := w.heap.push (.cells (old ++ ys ++ Builtin.zeroCells z.cells (newCap - (len + n))) elem) } := by
  have hnot : ¬ len + n ≤ c := by omega
  have hmax : ∀ b : Nat, ¬ (((len + n : Nat) : Int) > IntKind.i64.max ∧ (False ∨ b = 0)) := by
    intro b
    have : IntKind.i64.max = 9223372036854775807 := by decide
    rw [this]
    omega
  have hnc : ¬ Builtin.nextslicecap (len + n) c * inf.bytes > 2 ^ 48 := by
    have h3 := nextslicecap_le (len + n) c hc
    have h4 := Nat.mul_le_mul_right inf.bytes h3
    omega
  refine ⟨(Question.appendCap (len + n) c elem).cut (w.tape w.drawn (.appendCap (len + n) c elem)), by simp [Question.cut], ?_⟩
  have hch : (choose (.appendCap (len + n) c elem)).run P w = .ok ((Question.appendCap (len + n) c elem).cut (w.tape w.drawn (.appendCap (len + n) c elem))) { w with drawn := w.drawn + 1 } := by
    simp [Question.forced]
  have hm' := hmax inf.bytes
  simp only [false_or] at hm'
  rcases notMake_spec hz with h2 | ⟨xT, d, h2, hd, hne⟩
  · simp only [Builtin.append_, ht, h0, h1, h2, Sem.run_bind, run_underlying hu, Result.andThen_ok, run_size hi, Sem.run_pure, Bool.false_eq_true, if_false, Bool.not_false, if_true, hl, hnot, run_info hi, false_or, hm', hnc, hch, run_askRoom, ho, hf, hzero, newRow, run_newObj]
  · cases d <;> first | (cases hne; done) | simp only [Builtin.append_, ht, h0, h1, h2, Sem.run_bind, run_underlying hu, run_underlying hd, Result.andThen_ok, run_size hi, Sem.run_pure, Bool.false_eq_true, if_false, Bool.not_false, if_true, hl, hnot, run_info hi, false_or, hm', hnc, hch, run_askRoom, ho, hf, hzero, newRow, run_newObj]

end
end Go.AE
