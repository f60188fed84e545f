/-
  K, part 2: operations, quick ones where they are known ahead; each is the evaluator's own.
-/
import Derived.Test.YtimngnabpolgkaaGreatInG11
namespace Go.AE
noncomputable section
set_option linter.unusedSimpArgs false
set_option linter.unusedVariables false
variable {P : Program}

inductive KA where
  | slot (p : P2)
  | val (v : Value)

def KA.ev (x : KA) (t : TT) : Value := KA.rec (motive := fun _ => TT → Value) (fun p t => NV.sel p.y (TT.sel p.x t)) (fun v _ => v) x t

def kA (o : Operand) : KA :=
  match o with
  | .tmp i => if i < 256 then .slot (path i) else .val undef
  | .const v => .val (if plain v then v else unk)
  | .global _ => .val unk
  | .func f => .val (.func (.func f) #[] #[])

theorem kA_ev {n : Nat} {t : TT} {A : Array Value} (h : TR n t A) (o : Operand) : (kA o).ev t = aeval A o := by
  cases o with
  | tmp i =>
    simp only [kA, aeval]
    split
    · rename_i hi; exact h.get i hi
    · rename_i hi
      have h1 : ¬ i < A.size := fun e => hi (Nat.lt_of_lt_of_le e (h.size ▸ h.le))
      simp [KA.ev, Array.getD, h1]
  | const v => rfl
  | global g => rfl
  | func f => rfl

/-! ### Quick operations -/
/-- A place, or something else. -/
inductive PV where
  | ptr (a : Addr)
  | other
def toPV : Value → PV :=
  Value.rec (motive_1 := fun _ => PV) (motive_2 := fun _ => Unit) (motive_3 := fun _ => Unit)
    (fun _ => .other) (fun _ _ => .other) (fun _ _ => .other) (fun _ _ _ => .other) (fun _ => .other) (fun a => Option.rec (motive := fun _ => PV) .other (fun x => .ptr x) a) (fun _ _ _ => .other)
    (fun _ => .other) (fun _ => .other) (fun _ _ _ _ _ => .other) .other (fun _ _ _ => .other) .other (fun _ _ => .other) (fun _ _ => .other) (fun _ _ => ()) () (fun _ _ _ _ => ())
def ofPtr (f : Addr → AH → Option Value) (v : Value) (h : AH) : Option Value :=
  PV.rec (motive := fun _ => (Addr → AH → Option Value) → AH → Option Value) (fun x f h => f x h) (fun _ _ => none) (toPV v) f h

def kcell (c : Row) (off : Nat) (d : Value) : Option Value := Option.rec (motive := fun _ => Option Value) (some d) (fun v => some v) (c.get off)
theorem kcell_eq (c : Row) (off : Nat) (d : Value) : kcell c off d = some ((c.get off).getD d) := by
  unfold kcell; cases c.get off <;> rfl

def kload1 (x : Addr) (h : AH) : Option Value :=
  match h.get x.block with
  | some (.cells c n _ _ _ _ _ d) =>
    match x.spot with
    | some _ => none
    | none => Bool.rec (motive := fun _ => Option Value) none (kcell c x.off d) (Nat.ble (Nat.succ x.off) n)
  | _ => none

theorem kload1_eq {t : TypeId} (ht : isAggT P t = some false) (x : Addr) (h : AH) : kload1 x h = loadA P t x h := by
  unfold kload1 loadA
  split
  · rename_i c n e fz esz op ro d hg
    rw [hg]
    simp only [ht]
    cases hs : x.spot with
    | some s => simp
    | none =>
      simp only [Option.isSome_none, Bool.false_eq_true, if_false]
      rw [PT.brec, kcell_eq]
      by_cases hl : x.off < n
      · rw [if_pos (Nat.ble_eq_true_of_le hl), if_pos hl]
      · rw [if_neg (fun e => hl (Nat.le_of_ble_eq_true e)), if_neg hl]
  · rename_i hne
    split
    · rename_i c n e fz esz op ro d hg; exact (hne _ _ _ _ _ _ _ _ hg).elim
    · rfl

def kload (P : Program) (t : TypeId) : Value → AH → Option Value :=
  match isAggT P t with
  | some false => ofPtr kload1
  | _ => ofPtr (loadA P t)
theorem kload_eq (t : TypeId) : kload P t = ofPtr (loadA P t) := by
  unfold kload
  split
  · rename_i ht
    have : (kload1 : Addr → AH → Option Value) = loadA P t := by funext x h; exact kload1_eq ht x h
    rw [this]
  · rfl

def ofPtr2 (f : Addr → Value → AH → Option AH) (a v : Value) (h : AH) : Option AH :=
  PV.rec (motive := fun _ => (Addr → Value → AH → Option AH) → Value → AH → Option AH) (fun x f v h => f x v h) (fun _ _ _ => none) (toPV a) f v h

def kput1 (x : Addr) (v : Value) (h : AH) : Option AH :=
  match h.get x.block with
  | some (.cells c n elem fz esz op false d) =>
    match x.spot with
    | some _ => none
    | none => Bool.rec (motive := fun _ => Option AH) none
      (Bool.rec (motive := fun _ => Option AH) none (Row.pforce (c.set x.off (some v)) fun c' => some (h.set x.block (.cells c' n elem fz esz op false d)))
        (Bool.or (Nat.ble (Nat.succ x.off) fz.1) (Nat.ble fz.2 x.off))) (Nat.ble (Nat.succ x.off) n)
  | _ => none

theorem kput1_eq {v : Value} (hv : v.oneCell' = true) (x : Addr) (h : AH) : kput1 x v h = putCells x [v] h := by
  unfold kput1 putCells
  split
  · rename_i c n elem fz esz op d hg
    rw [hg]
    simp only [List.all_cons, List.all_nil, hv, Bool.and_true, List.length_cons, List.length_nil, Nat.zero_add]
    cases hs : x.spot with
    | some s => simp
    | none =>
      rw [PT.brec, PT.brec, Row.pforce_eq]
      have e1 : Nat.ble (Nat.succ x.off) n = decide (x.off + 1 ≤ n) := by
        by_cases hl : x.off + 1 ≤ n
        · rw [Nat.ble_eq_true_of_le hl]; simp [hl]
        · rw [Bool.eq_false_iff.2 fun e => hl (Nat.le_of_ble_eq_true e)]; simp [hl]
      have e2 : Nat.ble (Nat.succ x.off) fz.1 = decide (x.off + 1 ≤ fz.1) := by
        by_cases hl : x.off + 1 ≤ fz.1
        · rw [Nat.ble_eq_true_of_le hl]; simp [hl]
        · rw [Bool.eq_false_iff.2 fun e => hl (Nat.le_of_ble_eq_true e)]; simp [hl]
      have e3 : Nat.ble fz.2 x.off = decide (fz.2 ≤ x.off) := by
        by_cases hl : fz.2 ≤ x.off
        · rw [Nat.ble_eq_true_of_le hl]; simp [hl]
        · rw [Bool.eq_false_iff.2 fun e => hl (Nat.le_of_ble_eq_true e)]; simp [hl]
      rw [e1, e2, e3]
      simp only [Option.isNone_none, Bool.true_and, putRow, putB_one, Row.pforce_eq]
      generalize decide (x.off + 1 ≤ n) = b1
      generalize decide (x.off + 1 ≤ fz.1) = b2
      generalize decide (fz.2 ≤ x.off) = b3
      cases b1 <;> cases b2 <;> cases b3 <;> rfl
  · rename_i hne
    split
    · rename_i c n elem fz esz op d hg; exact (hne _ _ _ _ _ _ _ hg).elim
    · rfl

def kstore1 (slow : Addr → Value → AH → Option AH) (x : Addr) (v : Value) (h : AH) : Option AH :=
  match v with
  | .agg _ => slow x v h
  | .tuple _ => slow x v h
  | _ => kput1 x v h

def kstore (P : Program) (t : TypeId) : Value → Value → AH → Option AH :=
  match P.info? t with
  | some i => Bool.rec (motive := fun _ => Value → Value → AH → Option AH) (ofPtr2 (storeA P t)) (ofPtr2 (kstore1 (storeA P t))) (Nat.beq i.size 1)
  | none => ofPtr2 (storeA P t)

theorem kstore_eq (t : TypeId) : kstore P t = ofPtr2 (storeA P t) := by
  unfold kstore
  split
  · rename_i i hi
    rw [PT.brec]
    split
    · rename_i hb
      have h1 : i.size = 1 := Nat.eq_of_beq_eq_true hb
      have : kstore1 (storeA P t) = storeA P t := by
        funext x v h
        unfold kstore1
        have key : ∀ v : Value, v.cells = #[v] → v.oneCell' = true → kput1 x v h = storeA P t x v h := by
          intro v hc ho
          rw [kput1_eq ho]
          simp only [storeA, hi, hc, h1]
          simp
        cases v <;> first | rfl | exact key _ rfl rfl
      rw [this]
    · rfl
  · rfl

/-- An address, further on. -/
def katv (b o : Nat) (sp : Option Nat) (m : Nat) : Option Value :=
  Nat.rec (motive := fun _ => Option Value) (some (.pointer (some ⟨b, o, sp⟩))) (fun m' _ => forceN (Nat.add o (Nat.succ m')) fun q => some (.pointer (some ⟨b, q, none⟩))) m
theorem katv_eq (b o : Nat) (sp : Option Nat) (m : Nat) : katv b o sp m = some (.pointer (some ((⟨b, o, sp⟩ : Addr).add m))) := by
  cases m with
  | zero => rfl
  | succ m =>
    show forceN (Nat.add o (Nat.succ m)) (fun q => some (Value.pointer (some ⟨b, q, none⟩))) = _
    rw [forceN_eq]
    simp [Addr.add]

def kfa1 (off : Nat) (v : Value) : Option Value :=
  match v with
  | .pointer (some ⟨b, o, sp⟩) => katv b o sp off
  | _ => none

def kfa (P : Program) (s : TypeId) (f : Nat) : Value → Option Value :=
  match P.underlying s with
  | some (.struct fields) => match fields[f]? with
    | some fd => match forceN fd.type fun ty => P.info? ty with
      | some i => Bool.rec (motive := fun _ => Value → Option Value) (kfa1 fd.offset) (fun v => fieldAddrA P s v f) (Nat.beq i.size 0)
      | none => fun v => fieldAddrA P s v f
    | none => fun v => fieldAddrA P s v f
  | _ => fun v => fieldAddrA P s v f

theorem kfa_eq (s : TypeId) (f : Nat) : kfa P s f = fun v => fieldAddrA P s v f := by
  unfold kfa
  split
  · rename_i fields hu
    split
    · rename_i fd hf
      rw [forceN_eq]
      split
      · rename_i i hi
        rw [PT.brec]
        split
        · rfl
        · rename_i hb
          have h0 : i.size ≠ 0 := fun e => hb (by rw [e]; rfl)
          funext v
          unfold kfa1 fieldAddrA
          split
          · rename_i b o sp
            rw [katv_eq]
            simp only [hu, hf, hi, h0, if_false]
          · rename_i hne
            split
            · rename_i a fields' hu' ; obtain ⟨b, o, sp⟩ := a; exact (hne b o sp rfl).elim
            · rfl
      · rfl
    · rfl
  · rfl

def kia1 (slow : Value → Value → Option Value) (len size : Nat) (x ix : Value) : Option Value :=
  match ix, x with
  | .int _ (.ofNat i), .pointer (some ⟨b, o, sp⟩) => Bool.rec (motive := fun _ => Option Value) (slow x ix) (forceN (Nat.mul i size) fun m => katv b o sp m) (Nat.ble (Nat.succ i) len)
  | _, _ => slow x ix
def kia2 (slow : Value → Value → Option Value) (size : Nat) (x ix : Value) : Option Value :=
  match ix, x with
  | .int _ (.ofNat i), .slice (some ⟨b, o, sp⟩) len _ => Bool.rec (motive := fun _ => Option Value) (slow x ix) (forceN (Nat.mul i size) fun m => katv b o sp m) (Nat.ble (Nat.succ i) len)
  | _, _ => slow x ix

def kia (P : Program) (t : TypeId) : Value → Value → Option Value :=
  match P.underlying t with
  | some (.array len elem) => match P.info? elem with
    | some inf => kia1 (indexAddrA P t) len inf.size
    | none => indexAddrA P t
  | some (.slice elem) => match P.info? elem with
    | some inf => kia2 (indexAddrA P t) inf.size
    | none => indexAddrA P t
  | _ => indexAddrA P t

theorem kia_eq (t : TypeId) : kia P t = indexAddrA P t := by
  unfold kia
  split
  · rename_i len elem hu
    split
    · rename_i inf hi
      funext x ix
      unfold kia1
      split
      · rename_i k i b o sp
        rw [PT.brec]
        split
        · rename_i hb
          have hlt : i < len := Nat.le_of_ble_eq_true hb
          rw [forceN_eq, katv_eq]
          have h2 : (0 : Int) ≤ Int.ofNat i ∧ Int.ofNat i < (len : Int) := ⟨Int.natCast_nonneg i, Int.ofNat_lt.2 hlt⟩
          simp only [indexAddrA, hu, hi]
          rw [if_pos h2]; rfl
        · rfl
      · rfl
    · rfl
  · rename_i elem hu
    split
    · rename_i inf hi
      funext x ix
      unfold kia2
      split
      · rename_i k i b o sp len c
        rw [PT.brec]
        split
        · rename_i hb
          have hlt : i < len := Nat.le_of_ble_eq_true hb
          rw [forceN_eq, katv_eq]
          have h2 : (0 : Int) ≤ Int.ofNat i ∧ Int.ofNat i < (len : Int) := ⟨Int.natCast_nonneg i, Int.ofNat_lt.2 hlt⟩
          simp only [indexAddrA, hu, hi]
          rw [if_pos h2]; rfl
        · rfl
      · rfl
    · rfl
  · rfl

def unA (P : Program) (op : UnOp) (v : Value) : Option Value := if plain v then plainOf P (Op.unary op v) else none
def knot (v : Value) : Option Value :=
  match v with
  | .bool b => Bool.rec (motive := fun _ => Option Value) (some (.bool true)) (some (.bool false)) b
  | v => unA P .not v
def kun (P : Program) (op : UnOp) : Value → Option Value :=
  match op with
  | .not => knot (P := P)
  | op => unA P op
theorem kun_eq (op : UnOp) (v : Value) : kun P op v = unA P op v := by
  cases op <;> first | rfl | skip
  show knot v = _
  unfold knot
  split
  · rename_i b; cases b <;> rfl
  · rfl

def convA (P : Program) (s d : TypeId) (v : Value) : Option Value := if plain v then plainOf P (convert s d v) else none
def kconv1 (k : IntKind) (slow : Value → Option Value) (v : Value) : Option Value :=
  match v with
  | .int _ (.ofNat m) => forceN m fun r => fit k r (slow v)
  | v => slow v
def kconv (P : Program) (s d : TypeId) : Value → Option Value :=
  match P.underlying s, P.underlying d with
  | some _, some (.int k) => kconv1 k (convA P s d)
  | _, _ => convA P s d
theorem semP_bind {α β : Type} (s : Sem α) (f : α → Sem β) : semP P (s >>= f) = match semP P s with | some a => semP P (f a) | none => none := by
  show semP P (Sem.bind s f) = _
  induction s with
  | pure a => rfl
  | program k ih => simp only [Sem.bind, semP]; exact ih P
  | _ => rfl
theorem semP_underlying {t : TypeId} {d : TypeDesc} (h : P.underlying t = some d) : semP P (underlying t) = some d := by
  unfold underlying
  rw [semP_bind]
  simp only [program, semP, h]
  rfl
theorem kconv_eq (s d : TypeId) : kconv P s d = convA P s d := by
  unfold kconv
  split
  · rename_i ds k hs hd
    funext v
    unfold kconv1
    split
    · rename_i k' m
      rw [forceN_eq]
      apply fit_eq
      unfold convA
      have hp : plain (.int k' (Int.ofNat m)) = true := rfl
      rw [if_pos hp]
      have : semP P (convert s d (.int k' (Int.ofNat m))) = some (.int k (k.wrap (m : Int))) := by
        simp only [convert]
        rw [semP_bind, semP_underlying hs]
        simp only
        rw [semP_bind, semP_underlying hd]
        rfl
      simp only [plainOf, this]; rfl
    · rfl
  · rfl

end
end Go.AE
