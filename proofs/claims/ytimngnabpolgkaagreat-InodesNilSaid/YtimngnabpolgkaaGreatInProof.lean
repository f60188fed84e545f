/-
  InodesNil: the Go function returns true for every input, and leaves what it is given as it was.
-/
import Derived.Test.YtimngnabpolgkaaGreatRows
import Derived.WalkKit
import Derived.ProofKit
import Derived.OpenShut
import Derived.WideShapes
import Derived.Test.YtimngnabpolgkaaGreatInG34
import Derived.Test.YtimngnabpolgkaaGreatInG35
namespace Go.Proofs.YtimngnabpolgkaaGreat.inodesNil
open Go.ChangeShapes Go.WideShapes Go.ChangeAt Go.RowKit
set_option linter.unusedVariables false      -- a walk need not use every 'w<i>' (that an integer argument fits its kind)

theorem own : ownKnob Tryz.prog.godebug = none := by kernel_rfl

/-! ### The argument: an inode -/
set_option maxRecDepth 100000 in
theorem open_inode {H : Type} {enc : TypeId × Value → H} {W : World} {v : Value} {d : DataW H} {ps : List MemPlace} {r : Reach} {base : Nat} (hok : Value.okWide Tryz.prog W r base 76 v)
    (h : DataW.Trod enc Tryz.prog W 0 (fun _ => true) true 76 v d ps) : ∃ k l g s p0 p1 p2 p3 p4 p5 p6 p7 p8 p9 p10 n : Int, v = Go.Proofs.Leaf.inodeV k l g s p0 p1 p2 p3 p4 p5 p6 p7 p8 p9 p10 n := by
  obtain ⟨cs, rfl, hcs⟩ := okWide_struct Tryz.underlying76 hok
  have h16 : Tryz.prog.cellsOf 76 = 16 := by kernel_rfl
  have c5 : Tryz.prog.cellsOf 5 = 1 := by kernel_rfl
  have c3 : Tryz.prog.cellsOf 3 = 1 := by kernel_rfl
  have c22 : Tryz.prog.cellsOf 22 = 1 := by kernel_rfl
  have c74 : Tryz.prog.cellsOf 74 = 11 := by kernel_rfl
  rw [h16] at hcs
  obtain ⟨fuel, hf⟩ := h
  obtain ⟨xs, n, rfl, _, _, hxs, hall⟩ := DataW.trod_struct Tryz.underlying76 hf
  obtain ⟨l⟩ := cs
  match l, hcs with
  | [x0, x1, x2, x3, x4, x5, x6, x7, x8, x9, x10, x11, x12, x13, x14, x15], _ =>
    match xs, hxs with
    | [y0, y1, y2, y3, y4, y5], _ =>
      have g0 : DataW.trod enc Tryz.prog W 0 (fun _ => true) true n 5 (List.take (Tryz.prog.cellsOf 5) [x0, x1, x2, x3, x4, x5, x6, x7, x8, x9, x10, x11, x12, x13, x14, x15]) = some y0 := hall 0 _ rfl
      have g1 : DataW.trod enc Tryz.prog W 0 (fun _ => true) true n 3 (List.take (Tryz.prog.cellsOf 3) [x1, x2, x3, x4, x5, x6, x7, x8, x9, x10, x11, x12, x13, x14, x15]) = some y1 := hall 1 _ rfl
      have g2 : DataW.trod enc Tryz.prog W 0 (fun _ => true) true n 22 (List.take (Tryz.prog.cellsOf 22) [x2, x3, x4, x5, x6, x7, x8, x9, x10, x11, x12, x13, x14, x15]) = some y2 := hall 2 _ rfl
      have g3 : DataW.trod enc Tryz.prog W 0 (fun _ => true) true n 3 (List.take (Tryz.prog.cellsOf 3) [x3, x4, x5, x6, x7, x8, x9, x10, x11, x12, x13, x14, x15]) = some y3 := hall 3 _ rfl
      have g4 : DataW.trod enc Tryz.prog W 0 (fun _ => true) true n 74 (List.take (Tryz.prog.cellsOf 74) [x4, x5, x6, x7, x8, x9, x10, x11, x12, x13, x14, x15]) = some y4 := hall 4 _ rfl
      have g5 : DataW.trod enc Tryz.prog W 0 (fun _ => true) true n 22 (List.take (Tryz.prog.cellsOf 22) [x15]) = some y5 := hall 5 _ rfl
      rw [c5] at g0
      rw [c3] at g1 g3
      rw [c22] at g2 g5
      rw [c74] at g4
      obtain ⟨zs, m, _, rfl, _, hzs, harr⟩ := DataW.trod_array Tryz.underlying74 g4
      match zs, hzs with
      | [z0, z1, z2, z3, z4, z5, z6, z7, z8, z9, z10], _ =>
        have a0 : DataW.trod enc Tryz.prog W 0 (fun _ => true) true m 22 (List.take (Tryz.prog.cellsOf 22) (List.drop (0 * Tryz.prog.cellsOf 22) (List.take 11 [x4, x5, x6, x7, x8, x9, x10, x11, x12, x13, x14, x15]))) = some z0 := harr 0 (by omega)
        have a1 : DataW.trod enc Tryz.prog W 0 (fun _ => true) true m 22 (List.take (Tryz.prog.cellsOf 22) (List.drop (1 * Tryz.prog.cellsOf 22) (List.take 11 [x4, x5, x6, x7, x8, x9, x10, x11, x12, x13, x14, x15]))) = some z1 := harr 1 (by omega)
        have a2 : DataW.trod enc Tryz.prog W 0 (fun _ => true) true m 22 (List.take (Tryz.prog.cellsOf 22) (List.drop (2 * Tryz.prog.cellsOf 22) (List.take 11 [x4, x5, x6, x7, x8, x9, x10, x11, x12, x13, x14, x15]))) = some z2 := harr 2 (by omega)
        have a3 : DataW.trod enc Tryz.prog W 0 (fun _ => true) true m 22 (List.take (Tryz.prog.cellsOf 22) (List.drop (3 * Tryz.prog.cellsOf 22) (List.take 11 [x4, x5, x6, x7, x8, x9, x10, x11, x12, x13, x14, x15]))) = some z3 := harr 3 (by omega)
        have a4 : DataW.trod enc Tryz.prog W 0 (fun _ => true) true m 22 (List.take (Tryz.prog.cellsOf 22) (List.drop (4 * Tryz.prog.cellsOf 22) (List.take 11 [x4, x5, x6, x7, x8, x9, x10, x11, x12, x13, x14, x15]))) = some z4 := harr 4 (by omega)
        have a5 : DataW.trod enc Tryz.prog W 0 (fun _ => true) true m 22 (List.take (Tryz.prog.cellsOf 22) (List.drop (5 * Tryz.prog.cellsOf 22) (List.take 11 [x4, x5, x6, x7, x8, x9, x10, x11, x12, x13, x14, x15]))) = some z5 := harr 5 (by omega)
        have a6 : DataW.trod enc Tryz.prog W 0 (fun _ => true) true m 22 (List.take (Tryz.prog.cellsOf 22) (List.drop (6 * Tryz.prog.cellsOf 22) (List.take 11 [x4, x5, x6, x7, x8, x9, x10, x11, x12, x13, x14, x15]))) = some z6 := harr 6 (by omega)
        have a7 : DataW.trod enc Tryz.prog W 0 (fun _ => true) true m 22 (List.take (Tryz.prog.cellsOf 22) (List.drop (7 * Tryz.prog.cellsOf 22) (List.take 11 [x4, x5, x6, x7, x8, x9, x10, x11, x12, x13, x14, x15]))) = some z7 := harr 7 (by omega)
        have a8 : DataW.trod enc Tryz.prog W 0 (fun _ => true) true m 22 (List.take (Tryz.prog.cellsOf 22) (List.drop (8 * Tryz.prog.cellsOf 22) (List.take 11 [x4, x5, x6, x7, x8, x9, x10, x11, x12, x13, x14, x15]))) = some z8 := harr 8 (by omega)
        have a9 : DataW.trod enc Tryz.prog W 0 (fun _ => true) true m 22 (List.take (Tryz.prog.cellsOf 22) (List.drop (9 * Tryz.prog.cellsOf 22) (List.take 11 [x4, x5, x6, x7, x8, x9, x10, x11, x12, x13, x14, x15]))) = some z9 := harr 9 (by omega)
        have a10 : DataW.trod enc Tryz.prog W 0 (fun _ => true) true m 22 (List.take (Tryz.prog.cellsOf 22) (List.drop (10 * Tryz.prog.cellsOf 22) (List.take 11 [x4, x5, x6, x7, x8, x9, x10, x11, x12, x13, x14, x15]))) = some z10 := harr 10 (by omega)
        rw [c22] at a0 a1 a2 a3 a4 a5 a6 a7 a8 a9 a10
        obtain ⟨n0, e0, _, _⟩ := DataW.trod_int Tryz.underlying5 g0
        obtain ⟨n1, e1, _, _⟩ := DataW.trod_int Tryz.underlying3 g1
        obtain ⟨n2, e2, _, _⟩ := DataW.trod_int Tryz.underlying22 g2
        obtain ⟨n3, e3, _, _⟩ := DataW.trod_int Tryz.underlying3 g3
        obtain ⟨n4, e4, _, _⟩ := DataW.trod_int Tryz.underlying22 a0
        obtain ⟨n5, e5, _, _⟩ := DataW.trod_int Tryz.underlying22 a1
        obtain ⟨n6, e6, _, _⟩ := DataW.trod_int Tryz.underlying22 a2
        obtain ⟨n7, e7, _, _⟩ := DataW.trod_int Tryz.underlying22 a3
        obtain ⟨n8, e8, _, _⟩ := DataW.trod_int Tryz.underlying22 a4
        obtain ⟨n9, e9, _, _⟩ := DataW.trod_int Tryz.underlying22 a5
        obtain ⟨n10, e10, _, _⟩ := DataW.trod_int Tryz.underlying22 a6
        obtain ⟨n11, e11, _, _⟩ := DataW.trod_int Tryz.underlying22 a7
        obtain ⟨n12, e12, _, _⟩ := DataW.trod_int Tryz.underlying22 a8
        obtain ⟨n13, e13, _, _⟩ := DataW.trod_int Tryz.underlying22 a9
        obtain ⟨n14, e14, _, _⟩ := DataW.trod_int Tryz.underlying22 a10
        obtain ⟨n15, e15, _, _⟩ := DataW.trod_int Tryz.underlying22 g5
        refine ⟨n0, n1, n2, n3, n4, n5, n6, n7, n8, n9, n10, n11, n12, n13, n14, n15, ?_⟩
        have b0 : x0 = .int .u8 n0 := by simpa [Value.cells] using e0
        have b1 : x1 = .int .i64 n1 := by simpa [Value.cells] using e1
        have b2 : x2 = .int .u32 n2 := by simpa [Value.cells] using e2
        have b3 : x3 = .int .i64 n3 := by simpa [Value.cells] using e3
        have b4 : x4 = .int .u32 n4 := by simpa [Value.cells] using e4
        have b5 : x5 = .int .u32 n5 := by simpa [Value.cells] using e5
        have b6 : x6 = .int .u32 n6 := by simpa [Value.cells] using e6
        have b7 : x7 = .int .u32 n7 := by simpa [Value.cells] using e7
        have b8 : x8 = .int .u32 n8 := by simpa [Value.cells] using e8
        have b9 : x9 = .int .u32 n9 := by simpa [Value.cells] using e9
        have b10 : x10 = .int .u32 n10 := by simpa [Value.cells] using e10
        have b11 : x11 = .int .u32 n11 := by simpa [Value.cells] using e11
        have b12 : x12 = .int .u32 n12 := by simpa [Value.cells] using e12
        have b13 : x13 = .int .u32 n13 := by simpa [Value.cells] using e13
        have b14 : x14 = .int .u32 n14 := by simpa [Value.cells] using e14
        have b15 : x15 = .int .u32 n15 := by simpa [Value.cells] using e15
        rw [b0, b1, b2, b3, b4, b5, b6, b7, b8, b9, b10, b11, b12, b13, b14, b15]
        rfl

/-! ### THE ROW's STEP -/
set_option maxRecDepth 100000 in
theorem lifted (os : Os) (started : os.Started) (H : Type) (enc : TypeId × Value → H) :
    ReturnsInHanded {} Tryz.checked os 5 .any (Rows.inodesNilSpec.pre6 enc Tryz.prog Tryz.f5 Rows.inodesNilRow.domain false) (Rows.inodesNilSpec.post enc Tryz.prog Tryz.f5 false true false false) := by
  refine returnsInHanded_of_change (C := Tryz.checked) own started (by kernel_rfl) Tryz.func5
    (ChangeSpec.witness6 (enc := enc) (C := Tryz.checked) false ⟨#[], #[.int .i64 0, .agg #[.int .u8 0, .int .i64 0, .int .u32 0, .int .i64 0, .int .u32 0, .int .u32 0, .int .u32 0, .int .u32 0, .int .u32 0, .int .u32 0, .int .u32 0, .int .u32 0, .int .u32 0, .int .u32 0, .int .u32 0, .int .u32 0]], []⟩ 8 (by kernel_rfl) (by kernel_rfl) (by kernel_rfl) (by kernel_rfl)) ?_
  intro W base args ds gs before hval0 hW hcnd _
  have hval : ∀ (j : Nat) t v, Tryz.f5.params[j]? = some t → args[j]? = some v → Value.okWide Tryz.prog W .any base t v := hval0
  have hW' := hW
  obtain ⟨p, q, hA0, hV, rfl, hfz, hnd⟩ := hW
  have hA : DataW.TrodAll enc Tryz.prog W 0 (fun _ => true) true Tryz.f5.params.toList args.toList ds p := hA0
  rw [Tryz.params5] at hA hval
  have hA1 := hA
  obtain ⟨v0, vs0, d0, ds0, p0, q0, hargs, rfl, rfl, h0, r0⟩ := trodAll_cons hA
  obtain ⟨v1, vs1, d1, ds1, p1, q1, hargs1, rfl, rfl, h1, r1⟩ := trodAll_cons r0
  subst hargs1
  obtain ⟨rfl, rfl, rfl⟩ := trodAll_nil r1
  obtain rfl : args = #[v0, v1] := by cases args; simp_all
  obtain ⟨rfl, rfl⟩ := trodVars_none hV
  have hval1 := hval 1 76 v1 rfl rfl
  obtain ⟨a0, rfl, rfl, rfl, w0⟩ := open_int Tryz.underlying3 (hval 0 3 v0 rfl rfl) h0
  obtain ⟨k, l, g, s, p0, p1', p2, p3, p4, p5, p6, p7, p8, p9, p10, n, rfl⟩ := open_inode hval1 h1
  clear hA0 hval0
  simp only [List.append_nil, List.nil_append] at hW' hA1
  refine (Go.Proofs.Leaf.inodesHolds a0 k l g s p0 p1' p2 p3 p4 p5 p6 p7 p8 p9 p10 n (w := W)).mono fun e W' ⟨he, hg⟩ => ?_
  subst he
  exact ⟨_, rfl, Go.AE.post_below (pa := p1) (pv := []) hW' hg (by simp) (fun _ _ _ => (trodAll_cons_mk (shut_bool Tryz.underlying4 _) trodAll_mk0))
    (fun sp hsp => Go.AE.trodAll_below (by kernel_rfl) hg (by kernel_rfl) hA1 (fun x hx => hW'.lt x hx) sp hsp) (fun _ _ => rfl)
    (ok_one (by kernel_rfl) rfl (okWide_bool_mk Tryz.underlying4 _))⟩

theorem both {a b : Bool} (h : a = true) (k : b = true) : (a && b) = true := by rw [h, k]; rfl
set_option maxRecDepth 100000 in
theorem closed : joinedFacts Tryz.prog 5 Tryz.f5 Rows.inodesNilSpec Rows.inodesNilRow = true := by
  unfold joinedFacts
  exact (both (both (both (both (both (both (both (both (both (both (both (both (both (both (both (both (both (both (both (both (both (both (both (both (both (both (both (both (both (both (both fact0 fact1) fact2) fact3) fact4) fact5) fact6) fact7) fact8) fact9) fact10) fact11) fact12) fact13) fact14) fact15) fact16) fact17) fact18) fact19) fact20) fact21) fact22) fact23) fact24) fact25) fact26) fact27) fact28) fact29) fact30) fact31)

theorem over : Rows.inodesNilRow.holds Tryz.pinned (OpenSpec.ofChange Rows.inodesNilSpec) :=
  OpenClaim.holds_of_wide 5 Tryz.f5 rfl rfl rfl rfl rfl rfl rfl ⟨rfl, rfl, rfl, rfl, rfl⟩ rfl rfl rfl rfl rfl (by kernel_rfl) Tryz.func5 closed
    (of_decide_eq_true (by kernel_rfl)) (by unfold Func.isWrapper; first | (rw [if_pos (by decide +kernel)]; kernel_rfl) | (rw [if_neg (by decide +kernel)]; exact ⟨rfl, rfl⟩))
    (fun os started H enc _ => lifted os started H enc)

/-- ████ THE STATEMENT ████ -/
theorem proved : Rows.InodesNilSaid :=
  over
end Go.Proofs.YtimngnabpolgkaaGreat.inodesNil
