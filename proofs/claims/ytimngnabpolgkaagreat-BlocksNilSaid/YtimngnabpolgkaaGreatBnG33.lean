/-
  The document's Make: the hook.
-/
import Derived.Test.YtimngnabpolgkaaGreatBnG32
namespace Go.Proofs.Leaf
set_option linter.unusedSimpArgs false
set_option linter.unusedVariables false
open Go.AE
set_option maxRecDepth 100000
set_option maxHeartbeats 4000000

/-- A row of 2048 bits that nothing was written to: of which element. -/
noncomputable def freshBits (h : AH) (v : Value) : Option (Nat × Nat) :=
  match v with
  | .slice (some ⟨β, 0, none⟩) 2048 2048 =>
    match h.get β with
    | some (.cells .leaf n E (0, 0) 0 false false (.bool false)) => if Nat.beq n 2048 && Nat.ble (β + 1) h.next then some (β, E) else none
    | _ => none
  | _ => none
theorem freshBits_some {h : AH} {v : Value} {β E : Nat} (hf : freshBits h v = some (β, E)) : v = .slice (some ⟨β, 0, none⟩) 2048 2048 ∧ h.get β = some (bitRow E []) ∧ β < h.next := by
  unfold freshBits at hf
  split at hf
  case h_2 => cases hf
  split at hf
  case h_2 => cases hf
  rename_i hg
  split at hf
  case isFalse => cases hf
  rename_i hc
  simp only [Bool.and_eq_true] at hc
  cases hf
  have hn := Nat.eq_of_beq_eq_true hc.1
  subst hn
  exact ⟨rfl, hg, Nat.le_of_ble_eq_true hc.2⟩

noncomputable def loadInt (h : AH) (v : Value) (f : Nat) (s : TypeId) : Option (Addr × Int) :=
  match fieldAddrA Tryz.prog s v f with
  | some (.pointer (some a)) => match loadA Tryz.prog 3 a h with
    | some (.int .i64 n) => some (a, n)
    | _ => none
  | _ => none
theorem loadInt_some {h : AH} {v : Value} {f : Nat} {s : TypeId} {a : Addr} {n : Int} (hl : loadInt h v f s = some (a, n)) : fieldAddrA Tryz.prog s v f = some (.pointer (some a)) ∧ loadA Tryz.prog 3 a h = some (.int .i64 n) := by
  unfold loadInt at hl
  split at hl
  case h_2 => cases hl
  rename_i b hb
  split at hl
  case h_2 => cases hl
  rename_i m hm
  cases hl
  exact ⟨hb, hm⟩

/-- The end of it: the block is made, and stored. -/
noncomputable def hookEnd (l : List (Nat × Value)) (v5 v8 v9 ag : Value) (h : AH) : Option (List (Nat × Value) × AH) :=
  match indexAddrA Tryz.prog 48 v5 v8 with
  | some (.pointer (some oa)) => match storeA Tryz.prog 45 oa ag h with
    | some h'' => some ([(10, .int .i64 0)] ++ endUps l ++ ups23 v5 v8 v9 ag (.pointer (some oa)), h'')
    | none => none
  | _ => none

noncomputable def hook4 (h : AH) (v1 v4 v5 v8 v9 pv : Value) (qa : Addr) (β E : Nat) : Option (List (Nat × Value) × AH) :=
  match loadInt h v1 1 31, loadInt h v1 2 31 with
  | some (ga1, .ofNat sz), some (ga2, .ofNat ino) =>
    if Nat.ble ino 2000 && Nat.ble sz 2000000 && !Nat.beq qa.block β && !Nat.beq ga1.block β && !Nat.beq ga2.block β then
      hookEnd (ups4 v4 v8 pv qa ga1 ga2 β ino sz 2047) v5 v8 v9 (.agg ⟨pack8 (boolsFrom (bit4 ino sz) 2048 0)⟩) (h.set β (bitRow E ([] ++ bitsFrom (bit4 ino sz) 0 2048)))
    else none
  | _, _ => none
noncomputable def hook5 (h : AH) (v1 v4 v5 v8 v9 pv : Value) (qa : Addr) (β E : Nat) : Option (List (Nat × Value) × AH) :=
  match loadInt h v1 1 31, loadInt h v1 2 31, loadInt h pv 1 327 with
  | some (ga1, .ofNat sz), some (ga2, .ofNat ino), some (gqa, grp) =>
    if Nat.ble ino 2000 && Nat.ble sz 2000000 && !Nat.beq qa.block β && !Nat.beq ga1.block β && !Nat.beq ga2.block β && !Nat.beq gqa.block β then
      hookEnd (ups5 v4 v8 pv qa ga2 β ino 2047) v5 v8 v9 (.agg ⟨pack8 (boolsFrom (bit5 ino grp) 2048 0)⟩) (h.set β (bitRow E ([] ++ bitsFrom (bit5 ino grp) 0 2048)))
    else none
  | _, _, _ => none

noncomputable def hookMk : Hook := fun e h =>
  match freshBits h (e (.tmp 9)), indexAddrA Tryz.prog 323 (e (.tmp 4)) (e (.tmp 8)) with
  | some (β, E), some pv =>
    match fieldAddrA Tryz.prog 327 pv 0 with
    | some (.pointer (some qa)) =>
      match loadA Tryz.prog 5 qa h with
      | some (.int .u8 (.ofNat k)) =>
        if Nat.beq k 4 then hook4 h (e (.tmp 1)) (e (.tmp 4)) (e (.tmp 5)) (e (.tmp 8)) (e (.tmp 9)) pv qa β E
        else if Nat.beq k 5 then hook5 h (e (.tmp 1)) (e (.tmp 4)) (e (.tmp 5)) (e (.tmp 8)) (e (.tmp 9)) pv qa β E
        else hookEnd (upsO (e (.tmp 4)) (e (.tmp 8)) pv (.pointer (some qa)) (.ofNat k) 2047) (e (.tmp 5)) (e (.tmp 8)) (e (.tmp 9)) (.agg ⟨zeros256⟩) h
      | _ => none
    | _ => none
  | _, _ => none

theorem hookEnd_ok {h h' h'' : AH} {T : List Value} {l ups : List (Nat × Value)} {ag : Value} (hT : T.length = 159)
    (hl : evalC Tryz.prog (env Tryz.prog ovB (2047 + 1)) none mkL ⟨⟨T.set 10 (.int .i64 0)⟩, [], h⟩ = some (.exit 4, ⟨⟨setAllL (endUps l) (T.set 10 (.int .i64 0))⟩, [], h'⟩))
    (hd : l.all (fun p => decide (p.1 ≠ 5) && decide (p.1 ≠ 8) && decide (p.1 ≠ 9)) = true)
    (hb : gBlock ⟨[T.getD 9 undef]⟩ h' = some (ag, h')) (he : hookEnd l (T.getD 5 undef) (T.getD 8 undef) (T.getD 9 undef) ag h' = some (ups, h'')) :
    ∃ m, evalC Tryz.prog (env Tryz.prog ovB m) none mkPc ⟨⟨T⟩, [], h⟩ = some (.normal, ⟨setL ups ⟨T⟩, [], h''⟩) := by
  unfold hookEnd at he
  split at he
  case h_2 => cases he
  rename_i oa ho
  split at he
  case h_2 => cases he
  rename_i h1 hs
  cases he
  exact ⟨2047 + 1, by rw [setL_mk]; exact mk_piece 2047 h h' h'' T l _ _ _ ag oa hT rfl rfl rfl hl hd hb ho hs⟩

theorem rowA_bits (f : Nat → Bool) : rowA (ofRow ([] ++ bitsFrom f 0 2048)) (.bool false) 0 2048 = (boolsFrom f 2048 0).map .bool := by
  rw [List.nil_append, bitsFrom_map]
  have := rowA_putRow .leaf (.bool false) 0 ((boolsFrom f 2048 0).map .bool)
  rw [List.length_map, length_boolsFrom] at this
  exact this

theorem hookMk_ok : HookOk Tryz.prog ovB 159 hookMk mkPc := by
  intro A h ups h' hA hg
  obtain ⟨T⟩ := A
  have hT : T.length = 159 := by simpa using hA
  have ev : ∀ i, aeval (⟨T⟩ : Array Value) (.tmp i) = T.getD i undef := fun i => by simp [aeval, Array.getD_eq_getD_getElem?, List.getD_eq_getElem?_getD]
  have g : ∀ (j : Nat), j ≠ 10 → (T.set 10 (.int .i64 0)).getD j undef = T.getD j undef := fun j hj => by rw [getD_set', if_neg (fun e => hj e.symm)]
  have g10 : (T.set 10 (Value.int .i64 0)).getD 10 undef = .int .i64 ((0 : Nat) : Int) := by rw [getD_set', if_pos rfl, if_pos (by omega)]; rfl
  unfold hookMk at hg
  simp only [ev] at hg
  split at hg
  case h_2 => cases hg
  rename_i β E pv hf p1
  obtain ⟨h9, hgβ, hβ⟩ := freshBits_some hf
  split at hg
  case h_2 => cases hg
  rename_i qa p2
  split at hg
  case h_2 => cases hg
  rename_i k p3
  split at hg
  · rename_i hk
    have hk := Nat.eq_of_beq_eq_true hk
    subst hk
    unfold hook4 at hg
    split at hg
    case h_2 => cases hg
    rename_i ga1 sz ga2 ino hl1 hl2
    split at hg
    case isFalse => cases hg
    rename_i hc
    simp only [Bool.and_eq_true, Bool.not_eq_true'] at hc
    obtain ⟨⟨⟨⟨c1, c2⟩, c3⟩, c4⟩, c5⟩ := hc
    obtain ⟨p4, p5⟩ := loadInt_some hl1
    obtain ⟨p6, p7⟩ := loadInt_some hl2
    have m : MkIn h (T.getD 1 undef) (T.getD 4 undef) (T.getD 8 undef) pv qa ga1 ga2 β 4 ino sz :=
      ⟨p1, p2, p3, p4, p5, p6, p7, Nat.ne_of_beq_eq_false c3, Nat.ne_of_beq_eq_false c4, Nat.ne_of_beq_eq_false c5, Nat.le_of_ble_eq_true c1, Nat.le_of_ble_eq_true c2⟩
    have hl := loop_4 ovB _ _ _ pv qa ga1 ga2 β ino sz E 2047 0 (by omega) h (T.set 10 (.int .i64 0)) [] m (by simp [hT]) (g 1 (by decide)) (g 4 (by decide)) (g 8 (by decide)) ((g 9 (by decide)).trans h9) g10 rfl hgβ
    refine hookEnd_ok hT hl (by rfl) ?_ hg
    rw [h9]
    exact gBlock_row (by simpa using hβ) (by rw [AH.get_set, if_pos rfl]) (rowA_bits _)
  · rename_i hk4
    split at hg
    · rename_i hk
      have hk := Nat.eq_of_beq_eq_true hk
      subst hk
      unfold hook5 at hg
      split at hg
      case h_2 => cases hg
      rename_i ga1 sz ga2 ino gqa grp hl1 hl2 hl3
      split at hg
      case isFalse => cases hg
      rename_i hc
      simp only [Bool.and_eq_true, Bool.not_eq_true'] at hc
      obtain ⟨⟨⟨⟨⟨c1, c2⟩, c3⟩, c4⟩, c5⟩, c6⟩ := hc
      obtain ⟨p4, p5⟩ := loadInt_some hl1
      obtain ⟨p6, p7⟩ := loadInt_some hl2
      obtain ⟨p8, p9⟩ := loadInt_some hl3
      have m : MkIn h (T.getD 1 undef) (T.getD 4 undef) (T.getD 8 undef) pv qa ga1 ga2 β 5 ino sz :=
        ⟨p1, p2, p3, p4, p5, p6, p7, Nat.ne_of_beq_eq_false c3, Nat.ne_of_beq_eq_false c4, Nat.ne_of_beq_eq_false c5, Nat.le_of_ble_eq_true c1, Nat.le_of_ble_eq_true c2⟩
      have hl := loop_5 ovB _ _ _ pv qa ga1 ga2 gqa β ino sz E grp p8 (Nat.ne_of_beq_eq_false c6) 2047 0 (by omega) h (T.set 10 (.int .i64 0)) [] m p9 (by simp [hT]) (g 1 (by decide)) (g 4 (by decide)) (g 8 (by decide)) ((g 9 (by decide)).trans h9) g10 rfl hgβ
      refine hookEnd_ok hT hl (by rfl) ?_ hg
      rw [h9]
      exact gBlock_row (by simpa using hβ) (by rw [AH.get_set, if_pos rfl]) (rowA_bits _)
    · rename_i hk5
      have hl := loop_other ovB h _ _ pv qa (.ofNat k) p1 p2 p3 (fun e => hk4 (by rw [show k = 4 from Int.ofNat.inj e]; rfl)) (fun e => hk5 (by rw [show k = 5 from Int.ofNat.inj e]; rfl)) 2047 0 (by omega) (T.set 10 (.int .i64 0)) (by simp [hT]) (g 4 (by decide)) (g 8 (by decide)) g10
      refine hookEnd_ok hT hl (by rfl) ?_ hg
      rw [h9, ← pack_zeros]
      refine gBlock_row hβ hgβ ?_
      have : ofRow ([] : List Value) = Row.leaf := rfl
      rw [this, rowA_leaf, List.map_replicate]

noncomputable def mkHK : HK := hk2At hookMk mkPath (Tryz.f179.body.getD .skip)
theorem mkFits : Fits Tryz.prog ovB 159 mkHK (Tryz.f179.body.getD .skip) := by
  refine fits2 _ _ fun d hd => ?_
  have : mkPc = d := by unfold mkPc; rw [hd]; rfl
  subst this
  exact hookMk_ok
noncomputable def gMake : Array Value → AH → Option (Value × AH) := gHook Tryz.prog ovB 1000 1000 179 mkHK
theorem sMake : SumOk Tryz.prog 179 gMake :=
  SumOk.hook quiet mix ovB_ok Tryz.func179 rfl mkFits 1000 1000
end Go.Proofs.Leaf
