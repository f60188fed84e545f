/-
  AE, part 24: regions in open order, rows of ints and append, for simp.
-/
import Derived.Test.YtimngnabpolgkaaGreatInG6
namespace Go.AE
noncomputable section
set_option linter.unusedSimpArgs false
set_option linter.unusedVariables false
variable {P : Program} {E : Env}

/-- The operations of a region. -/
def regionAt (n : Nat) : Code → Option (Array Oper)
  | .region id ops _ => if id = n then some ops else none
  | .seq a b => match regionAt n a with
    | some r => some r
    | none => regionAt n b
  | .cond _ a b => match regionAt n a with
    | some r => some r
    | none => regionAt n b
  | .block _ a => regionAt n a
  | .loop a => regionAt n a
  | .scope a => regionAt n a
  | .rangeFunc _ _ a b => match regionAt n a with
    | some r => some r
    | none => regionAt n b
  | _ => none
def regionOf (f : Func) (n : Nat) : Array Oper := match f.body with
  | some c => (regionAt n c).getD #[]
  | none => #[]

def drawG (P : Program) (E : Env) (ops : Array Oper) (s : St) (ok : Bool) (ps : List (Nat × Nat)) : Option St := if ok then drawK P ops ps (trace P E ops ops.toList s) else evalRegion P E ops true s
theorem evalRegion_G (ops : Array Oper) (s : St) : evalRegion P E ops true s = drawG P E ops s (drawStatic ops) (drawPairs ops) := by
  unfold drawG
  cases h : drawStatic ops with
  | true => rw [if_pos rfl]; exact evalRegion_draw _ s h rfl
  | false => rw [if_neg (by simp)]
theorem drawG_ok (ops : List Oper) (s : St) (ps : List (Nat × Nat)) : drawG P E ⟨ops⟩ s true ps = drawK P ⟨ops⟩ ps (trace P E ⟨ops⟩ ops s) := rfl

def veqK (r r' : Option AR) : Bool :=
  match r, r' with
  | some (.val v _), some (.val v' _) => veq v v'
  | _, _ => false
def sameK (P : Program) (ops : Array Oper) (o : Option Oper) (si sj sk : Option St) : Bool :=
  match o, si, sj, sk with
  | some o, some si, some sj, some sk =>
    match wantedA ops si.tmps o with
    | some false => true
    | some true => veqK (opA P (aeval si.tmps) sj.h o) (opA P (aeval si.tmps) sk.h o)
    | none => false
  | _, _, _, _ => false
theorem sameRead_K (os : List Oper) (sts : List St) (i j : Nat) : sameRead P ⟨os⟩ sts (i, j) = sameK P ⟨os⟩ os[i]? sts[i]? sts[j]? sts[j + 1]? := by
  unfold sameRead sameK veqK
  simp only [List.getElem?_toArray]
  cases os[i]? <;> cases sts[i]? <;> cases sts[j]? <;> cases sts[j + 1]? <;> rfl
theorem sameK_plain (os : List Oper) (d : Option Tmp) (op : Op) (t : TypeId) (pos : String) (after : Array Edge) (si sj sk : St) :
    sameK P ⟨os⟩ (some ⟨d, op, t, pos, after, none⟩) (some si) (some sj) (some sk) = veqK (opA P (aeval si.tmps) sj.h ⟨d, op, t, pos, after, none⟩) (opA P (aeval si.tmps) sk.h ⟨d, op, t, pos, after, none⟩) := rfl
def wantK (y : Option (Option Bool)) (b : Bool) (r : Bool) : Bool :=
  match y with
  | none => false
  | some x => if x = some b then r else true
theorem sameK_guard (os : List Oper) (d : Option Tmp) (op : Op) (t : TypeId) (pos : String) (after : Array Edge) (si sj sk : St) (j : Nat) (b : Bool) :
    sameK P ⟨os⟩ (some ⟨d, op, t, pos, after, some (j, b)⟩) (some si) (some sj) (some sk) = wantK (yieldedA ⟨os⟩ si.tmps j) b (veqK (opA P (aeval si.tmps) sj.h ⟨d, op, t, pos, after, some (j, b)⟩) (opA P (aeval si.tmps) sk.h ⟨d, op, t, pos, after, some (j, b)⟩)) := by
  unfold sameK wantK
  simp only [wantedA]
  cases yieldedA ⟨os⟩ si.tmps j with
  | none => rfl
  | some x =>
    simp only [Option.map_some]
    by_cases e : x = some b
    · subst e; simp
    · have : (x == some b) = false := by simpa using e
      simp [this, e]
theorem wantK_some (x : Option Bool) (b r : Bool) : wantK (some x) b r = if x = some b then r else true := rfl
theorem veqK_val (v v' : Value) (h h' : AH) : veqK (some (.val v h)) (some (.val v' h')) = veq v v' := rfl
theorem veq_int (k : IntKind) (n : Int) : veq (.int k n) (.int k n) = true := by simp [veq, veq1]
theorem veq_bool (b : Bool) : veq (.bool b) (.bool b) = true := by simp [veq, veq1]
theorem veq_pointer (a : Addr) : veq (.pointer (some a)) (.pointer (some a)) = true := by simp [veq, veq1, addrEq]
theorem veq_slice (a : Addr) (n c : Nat) : veq (.slice (some a) n c) (.slice (some a) n c) = true := by simp [veq, veq1, addrEq]
theorem veq_nilSlice (n c : Nat) : veq (.slice none n c) (.slice none n c) = true := by simp [veq, veq1]
theorem drawK_all (ops : Array Oper) (ps : List (Nat × Nat)) (sts : List St) : drawK P ops ps (some sts) = if ps.all (sameRead P ops sts) then sts.getLast? else none := rfl

/-! ### Rows -/
def rowK (P : Program) (t : TypeId) (off : Nat) (o : Option AObj) : Option Value :=
  match o with
  | some (.cells c n _ _ _ _ _ d) =>
    match isAggT P t with
    | some true => match P.info? t with
      | some i => if off + i.size ≤ n then some (.agg (rowB c d off i.size).toArray) else none
      | none => none
    | some false => if off < n then some ((c.get off).getD d) else none
    | none => none
  | _ => none
theorem loadA_rowK (t : TypeId) (b off : Nat) (h : AH) : loadA P t ⟨b, off, none⟩ h = rowK P t off (h.get b) := by
  unfold loadA rowK
  cases h.get b with
  | none => rfl
  | some o => cases o <;> rfl
theorem rowK_cell {t : TypeId} (ha : isAggT P t = some false) (v : Value) (e : TypeId) : rowK P t 0 (some (cell1 v e)) = some v := by
  unfold rowK cell1 rowObj
  simp only [ha]
  rfl
theorem rowK_row {t : TypeId} (ha : isAggT P t = some false) (off : Nat) (l : List Value) (e : TypeId) (z : Nat) (op : Bool) : rowK P t off (some (rowObj l e z op)) = l[off]? := by
  unfold rowK rowObj
  simp only [ha]
  by_cases h : off < l.length
  · simp only [h, if_true, get_ofRow]
    simp [List.getD, h]
  · simp only [h, if_false]
    simp [h]

/-- Slices whose elements are one plain cell of at most 8 bytes. -/
def One (P : Program) (sT elem : TypeId) : Prop :=
  ∃ inf z, P.underlying sT = some (.slice elem) ∧ notMake P ⟨[sT, sT]⟩ = true ∧ zeroA P elem = some (inf, z) ∧ P.info? elem = some inf ∧ inf.size = 1 ∧ inf.bytes ≤ 8 ∧ z.cells.size = 1

theorem len_slice {sT elem : TypeId} (ho : One P sT elem) (ty : TypeId) (a : Option Addr) (n c : Nat) (h : AH) : builtinA P .len ⟨[sT]⟩ ty ⟨[.slice a n c]⟩ h = some (.val (.int .i64 n) h) := by
  obtain ⟨inf, z, hu, _⟩ := ho
  simp only [builtinA, lenB, List.getElem?_toArray, List.getElem?_cons_zero, hu]
  rfl

def ixK (i : Int) (x : Value) : Option Value :=
  match x with
  | .slice (some a) len _ => if 0 ≤ i ∧ i < len then some (.pointer (some (a.add i.toNat))) else none
  | _ => none
theorem indexAddrA_one {sT elem : TypeId} (ho : One P sT elem) (k : IntKind) (i : Int) (x : Value) : indexAddrA P sT x (.int k i) = ixK i x := by
  obtain ⟨inf, z, hu, _, _, hi, hs, _⟩ := ho
  unfold ixK indexAddrA
  cases x with
  | slice a n c => cases a with
    | none => simp [hu]
    | some a => simp only [hu, hi, hs, Nat.mul_one]
  | _ => simp [hu]
theorem ixK_slice (i : Int) (b o len c : Nat) : ixK i (.slice (some ⟨b, o, none⟩) len c) = if 0 ≤ i ∧ i < len then some (.pointer (some ⟨b, o + i.toNat, none⟩)) else none := by
  simp only [ixK, Addr.add]
  by_cases e : i.toNat = 0
  · simp only [e, if_true, Nat.add_zero]
  · simp only [e, if_false]

def oneOf (o : Option AObj) : Option Value :=
  match o with
  | some (.cells c n _ _ _ _ _ d) => if 1 ≤ n then some ((c.get 0).getD d) else none
  | _ => none
theorem oneOf_row (v : Value) (e : TypeId) (z : Nat) (op : Bool) : oneOf (some (rowObj [v] e z op)) = some v := rfl

def apB (elem : TypeId) (h : AH) (a : Addr) (len : Nat) (v : Value) (o : Option AObj) : Option (Value × AH) :=
  match o with
  | some (.cells c m e _ esz op ro d) =>
    if a.spot.isNone ∧ a.off + len ≤ m ∧ [v].all (·.oneCell') then
      if op then
        if ro = false ∧ esz = 1 ∧ e = elem then
          some (.slice (some ⟨h.next, 0, none⟩) (len + 1) (len + 1), (h.kill a.block).push (openRow (rowA c d a.off len ++ [v]) elem 1))
        else none
      else some (.slice (some ⟨h.next, 0, none⟩) (len + 1) (len + 1), h.push (openRow (rowA c d a.off len ++ [v]) elem 1))
    else none
  | _ => none
def apK (elem : TypeId) (h : AH) (base : Option Addr) (len : Nat) (v : Option Value) : Option (Value × AH) :=
  match v with
  | none => none
  | some v => match base with
    | none => if len = 0 then some (.slice (some ⟨h.next, 0, none⟩) (len + 1) (len + 1), h.push (openRow [v] elem 1)) else none
    | some a => apB elem h a len v (h.get a.block)

theorem append_one {sT elem : TypeId} (ho : One P sT elem) (ty : TypeId) (base : Option Addr) (len b c : Nat) (hl : len ≤ 1048576) (h : AH) :
    builtinA P .append ⟨[sT, sT]⟩ ty ⟨[.slice base len len, .slice (some ⟨b, 0, none⟩) 1 c]⟩ h = (apK elem h base len (oneOf (h.get b))).map fun r => .val r.1 r.2 := by
  obtain ⟨inf, z, hu, hm, hz, hi, hs, hb, hc⟩ := ho
  have h1 : (2 * (len + 1) + 768) * inf.bytes ≤ 2 ^ 47 ∧ len + 1 ≤ 2 ^ 47 := by
    refine ⟨Nat.le_trans (Nat.mul_le_mul (show 2 * (len + 1) + 768 ≤ 4194304 by omega) hb) (by decide), by omega⟩
  simp only [builtinA]
  congr 1
  rw [appendA2_one (sT := sT) (elem := elem) (by simp) hu hz hs (fun x n hx hn => by simp at hx; subst hx; simp only [lenA, Option.some.injEq] at hn; omega)]
  simp only [appendA, List.getElem?_toArray, List.getElem?_cons_zero, List.getElem?_cons_succ, hu, hm, hz, lenA, srcA, hs]
  cases hg : h.get b with
  | none => rfl
  | some o =>
    cases o with
    | cells cc m e fz esz op ro d =>
      simp only [oneOf, Option.isNone_none, true_and, Nat.one_mul, Nat.zero_add]
      by_cases hm1 : 1 ≤ m
      · simp only [hm1, if_true, rowA, apK]
        rw [if_neg (by omega)]
        rw [if_pos ⟨h1.1, h1.2, hc, by simp⟩]
        cases base with
        | none => rfl
        | some a =>
          simp only [apB, Nat.mul_one]
          cases h.get a.block with
          | none => rfl
          | some o => cases o <;> rfl
      · simp only [hm1, if_false, apK]
    | _ => rfl
theorem apK_nil (elem : TypeId) (h : AH) (v : Value) : apK elem h none 0 (some v) = some (.slice (some ⟨h.next, 0, none⟩) 1 1, h.push (rowObj [v] elem 1 true)) := rfl
theorem apK_some (elem : TypeId) (h : AH) (a : Addr) (len : Nat) (v : Value) : apK elem h (some a) len (some v) = apB elem h a len v (h.get a.block) := rfl
theorem rowA_ofRow' (l : List Value) : ∀ (n off : Nat), off + n ≤ l.length → rowA (ofRow l) undef off n = (l.drop off).take n
  | 0, _, _ => by simp [rowA]
  | n + 1, off, h => by
    rw [rowA, rowA_ofRow' l n (off + 1) (by omega), get_ofRow, if_pos (by omega)]
    rw [List.drop_eq_getElem_cons (by omega : off < l.length), List.take_succ_cons]
    simp [List.getD, show off < l.length by omega]
theorem apB_row (elem : TypeId) (h : AH) (β : Nat) (len : Nat) (k : IntKind) (n : Int) (l : List Value) :
    apB elem h ⟨β, 0, none⟩ len (.int k n) (some (rowObj l elem 1 true)) = if len ≤ l.length then some (.slice (some ⟨h.next, 0, none⟩) (len + 1) (len + 1), (h.kill β).push (rowObj (l.take len ++ [.int k n]) elem 1 true)) else none := by
  unfold apB rowObj
  simp only [Option.isNone_none, Nat.zero_add, List.all_cons, List.all_nil, true_and, and_self, if_true, Bool.and_true]
  have : (Value.int k n).oneCell' = true := rfl
  simp only [this, and_true]
  by_cases hl : len ≤ l.length
  · simp only [hl, if_true]
    have := rowA_ofRow' l len 0 (by omega)
    rw [this]; rfl
  · simp only [hl, if_false]
end
end Go.AE
