/-
  RingPlays: the Go function returns true for every input, and leaves what it is given as it was.
-/
import Derived.Test.YtlabmlaenkdikaaRows
import Derived.WalkKit
import Derived.ProofKit
import Derived.OpenShut
import Derived.Test.YtlabmlaenkdikaaAeS7
import Derived.Test.YtlabmlaenkdikaaRingR13
namespace Go.Proofs.Ytlabmlaenkdikaa.ringPlays
open Go.ChangeShapes Go.WideShapes Go.ChangeAt Go.RowKit
set_option linter.unusedVariables false      -- a walk need not use every 'w<i>' (that an integer argument fits its kind)

theorem own : ownKnob Try.prog.godebug = none := by kernel_rfl

/-! ### STEP 1: THE WALK: the Go text returns true. 'Grown w w'': the world has at most new blocks (Derived/RowKit3.lean). Part the cases AHEAD of 'go_enter' where a test parts the walk; take each callee by a contract of your own. -/
theorem walk (a0 : Int) (w0 : (Lit.int .i64 a0).wf = true) (l : List (Bool × Int)) (hl : ∀ x ∈ l, (Lit.int .i64 x.2).wf = true) (v : Value) (w : World)
    (hv : (v = .slice none 0 0 ∧ l = []) ∨ ∃ b off c C elem fz, v = .slice (some ⟨b, off, none⟩) l.length c ∧ l.length ≤ c ∧ w.heap[b]? = some (.cells C elem fz) ∧ ∀ (i : Nat) x, l[i]? = some x → C[off + i * 2]? = some (.bool x.1) ∧ C[off + i * 2 + 1]? = some (.int .i64 x.2)) :
    Calls Try.prog 5 #[.int .i64 a0, v] w fun e w' => e = .returned (.bool true) ∧ Below w.heap.size w w' := by
  have hp : -9223372036854775808 ≤ a0 ∧ a0 ≤ 9223372036854775807 := by
    simp only [Lit.wf, Bool.and_eq_true, decide_eq_true_eq] at w0
    exact w0
  have hfl : ∀ x ∈ l, -9223372036854775808 ≤ x.2 ∧ x.2 ≤ 9223372036854775807 := fun x hx => by
    have := hl x hx
    simp only [Lit.wf, Bool.and_eq_true, decide_eq_true_eq] at this
    exact this
  rcases hv with ⟨rfl, rfl⟩ | ⟨b, off, c, C, elem, fz, rfl, hlc, hb, hC⟩
  · obtain ⟨m, hm⟩ := Go.Proofs.Ring.e5 a0 hp [] hfl none 0 ⟨.leaf, 1⟩ (fun h => absurd rfl h)
    obtain ⟨r, e1, e2⟩ := Option.map_eq_some_iff.1 hm
    have hc := e1.trans (show some r = some (.bool true, r.2) by rw [← e2])
    exact Go.AE.law_eval Go.Proofs.Ring.quiet Go.Proofs.Ring.mix (Go.AE.OverOk.none _) hc (Go.AE.Rel.none1 _) (fun _ _ h => by cases h) (.consL (.int _ _) (.consL (.nilSlice _ _) .nilL))
  · obtain ⟨m, hm⟩ := Go.Proofs.Ring.e5 a0 hp l hfl (some ⟨0, off, none⟩) c (Go.AE.arg1 C elem fz) (fun _ =>
      ⟨0, off, rfl, Nat.zero_lt_one, fun i x hi => by rw [Go.AE.arg1_get]; exact ⟨Go.AE.rowK_arg Go.Proofs.Ring.ag4 (hC i x hi).1 rfl, Go.AE.rowK_arg Go.Proofs.Ring.ag3 (hC i x hi).2 rfl⟩⟩)
    obtain ⟨r, e1, e2⟩ := Option.map_eq_some_iff.1 hm
    have hc := e1.trans (show some r = some (.bool true, r.2) by rw [← e2])
    exact Go.AE.law_eval Go.Proofs.Ring.quiet Go.Proofs.Ring.mix (Go.AE.OverOk.none _) hc (Go.AE.Rel.arg1 hb) (Go.AE.ren1_ro _ _) (.consL (.int _ _) (.consL (Go.AE.V.arg1 _ _ _ _ _ hlc) .nilL))

/-! ### THE ROW's STEP: WRITTEN OUT: LEAVE IT -/
set_option maxRecDepth 100000 in
theorem lifted (os : Os) (started : os.Started) (H : Type) (enc : TypeId × Value → H) :
    ReturnsInHanded {} Try.checked os 5 .any (Rows.ringPlaysSpec.pre6 enc Try.prog Try.f5 Rows.ringPlaysRow.domain false) (Rows.ringPlaysSpec.post enc Try.prog Try.f5 false true false false) := by
  refine returnsInHanded_of_change (C := Try.checked) own started (by kernel_rfl) Try.func5
    (ChangeSpec.witness6 (enc := enc) (C := Try.checked) false ⟨#[], #[.int .i64 0, .slice none 0 0], []⟩ 5 (by kernel_rfl) (by kernel_rfl) (by kernel_rfl) (by kernel_rfl)) ?_
  intro W base args ds gs before hval0 hW hcnd _
  have hval : ∀ (j : Nat) t v, Try.f5.params[j]? = some t → args[j]? = some v → Value.okWide Try.prog W .any base t v := hval0
  have hW' := hW
  obtain ⟨p, q, hA0, hV, rfl, hfz, hnd⟩ := hW
  have hA : DataW.TrodAll enc Try.prog W 0 (fun _ => true) true Try.f5.params.toList args.toList ds p := hA0
  rw [Try.params5] at hA hval
  have hA1 := hA
  obtain ⟨v0, vs0, d0, ds0, p0, q0, hargs, rfl, rfl, h0, r0⟩ := trodAll_cons hA
  obtain ⟨v1, vs1, d1, ds1, p1, q1, rfl, rfl, rfl, h1, r1⟩ := trodAll_cons r0
  obtain ⟨rfl, rfl, rfl⟩ := trodAll_nil r1
  obtain rfl : args = #[v0, v1] := by cases args; simp_all
  obtain ⟨rfl, rfl⟩ := trodVars_none hV
  obtain ⟨a0, rfl, rfl, rfl, w0⟩ := open_int Try.underlying3 (hval 0 3 v0 rfl rfl) h0
  obtain ⟨l, hl, hv⟩ := Go.AE.open_arg_pairs Try.underlying22 Try.underlying30 (by kernel_rfl) rfl rfl (by kernel_rfl) (by kernel_rfl) Try.underlying4 Try.underlying3 (hval 1 22 v1 rfl rfl) h1
  clear hA0 hval0
  simp only [List.append_nil, List.nil_append] at hW' hA1
  refine (walk a0 w0 l hl v1 W hv).mono fun e W' ⟨he, hg⟩ => ?_
  subst he
  exact ⟨_, rfl, Go.AE.post_below (pa := p1) (pv := []) hW' hg (by simp) (fun _ _ _ => (trodAll_cons_mk (shut_bool Try.underlying4 _) trodAll_mk0))
    (fun sp hsp => Go.AE.trodAll_below (by kernel_rfl) hg (by kernel_rfl) hA1 (fun x hx => hW'.lt x hx) sp hsp) (fun _ _ => rfl)
    (ok_one (by kernel_rfl) rfl (okWide_bool_mk Try.underlying4 _))⟩

theorem over : Rows.ringPlaysRow.holds Try.pinned (OpenSpec.ofChange Rows.ringPlaysSpec) :=
  OpenClaim.holds_of_wide 5 Try.f5 rfl rfl rfl rfl rfl rfl rfl ⟨rfl, rfl, rfl, rfl, rfl⟩ rfl rfl rfl rfl rfl (by kernel_rfl) Try.func5 (by kernel_rfl)
    (of_decide_eq_true (by kernel_rfl)) (by unfold Func.isWrapper; first | (rw [if_pos (by decide +kernel)]; kernel_rfl) | (rw [if_neg (by decide +kernel)]; exact ⟨rfl, rfl⟩))
    (fun os started H enc _ => lifted os started H enc)

/-- ████ THE STATEMENT ████ -/
theorem proved : Rows.RingPlaysSaid :=
  over
end Go.Proofs.Ytlabmlaenkdikaa.ringPlays
