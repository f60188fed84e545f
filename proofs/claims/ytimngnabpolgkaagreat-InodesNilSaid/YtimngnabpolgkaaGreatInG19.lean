/-
  K, part 6: hooks. In a function's code a piece is met by what is said of it.
-/
import Derived.Test.YtimngnabpolgkaaGreatInG18
namespace Go.AE
noncomputable section
set_option linter.unusedSimpArgs false
set_option linter.unusedVariables false
variable {P : Program} {ov : Over}

/-- What is said of a piece of code: the slots that are set, and the heap behind it. -/
abbrev Hook := (Operand → Value) → AH → Option (List (Nat × Value) × AH)

inductive HK where
  | code (c : Code)
  | seq (a b : HK)
  | block (id : Nat) (a : HK)
  | loop (a : HK)
  | cond (c : Operand) (a b : HK)
  | hook (g : Hook)

def setL (l : List (Nat × Value)) (A : Array Value) : Array Value := l.foldl (fun A p => A.setIfInBounds p.1 p.2) A

/-- What is said of this piece of code is so, with so many slots. -/
def HookOk (P : Program) (ov : Over) (n : Nat) (g : Hook) (c : Code) : Prop :=
  ∀ (A : Array Value) h ups h', A.size = n → g (aeval A) h = some (ups, h') → ∃ m, evalC P (env P ov m) none c ⟨A, [], h⟩ = some (.normal, ⟨setL ups A, [], h'⟩)

inductive Fits (P : Program) (ov : Over) (n : Nat) : HK → Code → Prop where
  | code (c : Code) : Fits P ov n (.code c) c
  | seq {a b : HK} {c d : Code} (h : Fits P ov n a c) (k : Fits P ov n b d) : Fits P ov n (.seq a b) (.seq c d)
  | block {id : Nat} {a : HK} {c : Code} (h : Fits P ov n a c) : Fits P ov n (.block id a) (.block id c)
  | loop {a : HK} {c : Code} (h : Fits P ov n a c) : Fits P ov n (.loop a) (.loop c)
  | cond {x : Operand} {a b : HK} {c d : Code} (h : Fits P ov n a c) (k : Fits P ov n b d) : Fits P ov n (.cond x a b) (.cond x c d)
  | hook {g : Hook} {c : Code} (h : HookOk P ov n g c) : Fits P ov n (.hook g) c
  | two {g : Hook} {x y rest : Code} {b : HK} (h : HookOk P ov n g (.seq x y)) (k : Fits P ov n b rest) : Fits P ov n (.seq (.hook g) b) (.seq x (.seq y rest))

abbrev KC := TT → List Nat → AH → (Ex → TT → List Nat → AH → KRes) → KRes

def kHr (a : HK) : Program → KEnv → (HK → KC) → Nat → KC :=
  HK.rec (motive := fun _ => Program → KEnv → (HK → KC) → Nat → KC)
    (fun c P K _ n t ds h k => kCr c P K none n t ds h k)
    (fun _ _ ia ib P K L n t ds h k => ia P K L n t ds h fun ex t ds h => Ex.rec (motive := fun _ => KRes) (ib P K L n t ds h k) (fun id => k (.exit id) t ds h) (k .ret t ds h) ex)
    (fun id _ ia P K L n t ds h k => ia P K L n t ds h fun ex t ds h => Ex.rec (motive := fun _ => KRes) (k .normal t ds h)
      (fun id' => Bool.rec (motive := fun _ => KRes) (k (.exit id') t ds h) (k .normal t ds h) (Nat.beq id' id)) (k .ret t ds h) ex)
    (fun a ia P K L n t ds h k => ia P K L n t ds h fun ex t ds h => Ex.rec (motive := fun _ => KRes) (L (.loop a) t ds h k) (fun id => k (.exit id) t ds h) (k .ret t ds h) ex)
    (fun c _ _ ia ib P K L n t ds h k => kcond ((kA c).ev t) (ia P K L n t ds h k) (ib P K L n t ds h k))
    (fun g _ _ _ n t ds h k => match ds with
      | [] => (match g (kev t) h with
        | some (ups, h') => k .normal (kputs n ups t) [] h'
        | none => none)
      | _ :: _ => none) a

def kHn (P : Program) (K : KEnv) (n : Nat) (N : Nat) : HK → KC :=
  Nat.rec (motive := fun _ => HK → KC) (fun _ _ _ _ _ => none) (fun _ ih a t ds h k => kHr a P K ih n t ds h k) N

theorem evalC_up {m m' : Nat} (h : m ≤ m') {rd : Option Nat} {c : Code} {s : St} {r : Ex × St} (he : evalC P (env P ov m) rd c s = some r) : evalC P (env P ov m') rd c s = some r :=
  evalC_mono (env_le' ov h) c rd s r he

/-- What a piece's run comes to. -/
def HPost (P : Program) (ov : Over) (n : Nat) (c : Code) (A : Array Value) (ds : List Nat) (h : AH) (k : Ex → TT → List Nat → AH → KRes) (r : Value × AH) : Prop :=
  ∃ ex t' A' ds' h' m, evalC P (env P ov m) none c ⟨A, ds, h⟩ = some (ex, ⟨A', ds', h'⟩) ∧ TR n t' A' ∧ k ex t' ds' h' = some r

theorem kHr_sound {N n : Nat} {L : HK → KC} (hL : ∀ a c t A ds h k r, Fits P ov n a c → TR n t A → L a t ds h k = some r → HPost P ov n c A ds h k r) {a : HK} {c : Code} (hf : Fits P ov n a c) :
    ∀ {t : TT} {A : Array Value} (_ : TR n t A) {ds : List Nat} {h : AH} {k : Ex → TT → List Nat → AH → KRes} {r : Value × AH}, kHr a P (kenv P ov N) L n t ds h k = some r → HPost P ov n c A ds h k r := by
  induction hf with
  | code c =>
    intro t A hT ds h k r hr
    obtain ⟨ex, t', A', ds', h', h1, h2, h3⟩ := kC_sound (kenv_sound ov N) c hT (hr : kC P (kenv P ov N) none n c t ds h k = some r)
    exact ⟨ex, t', A', ds', h', N, h1, h2, h3⟩
  | seq _ _ iha ihb =>
    intro t A hT ds h k r hr
    obtain ⟨ex, t', A', ds', h', m, h1, h2, h3⟩ := iha hT hr
    cases ex with
    | normal =>
      obtain ⟨ex2, t2, A2, ds2, h2', m2, e1, e2, e3⟩ := ihb h2 h3
      refine ⟨ex2, t2, A2, ds2, h2', max m m2, ?_, e2, e3⟩
      simp only [evalC, evalC_up (Nat.le_max_left m m2) h1]
      exact evalC_up (Nat.le_max_right m m2) e1
    | exit id => exact ⟨.exit id, t', A', ds', h', m, by simp only [evalC, h1], h2, h3⟩
    | ret => exact ⟨.ret, t', A', ds', h', m, by simp only [evalC, h1], h2, h3⟩
  | @block id _ _ _ iha =>
    intro t A hT ds h k r hr
    obtain ⟨ex, t', A', ds', h', m, h1, h2, h3⟩ := iha hT hr
    cases ex with
    | normal => exact ⟨.normal, t', A', ds', h', m, by simp only [evalC, h1], h2, h3⟩
    | ret => exact ⟨.ret, t', A', ds', h', m, by simp only [evalC, h1], h2, h3⟩
    | exit id' =>
      simp only at h3
      rw [PT.brec] at h3
      by_cases e : id' = id
      · rw [if_pos (by rw [e]; exact Nat.beq_refl id)] at h3
        exact ⟨.normal, t', A', ds', h', m, by simp only [evalC, h1, e, if_true], h2, h3⟩
      · rw [if_neg (fun x => e (Nat.eq_of_beq_eq_true x))] at h3
        exact ⟨.exit id', t', A', ds', h', m, by simp only [evalC, h1, e, if_false], h2, h3⟩
  | @loop a c hfa iha =>
    intro t A hT ds h k r hr
    obtain ⟨ex, t', A', ds', h', m, h1, h2, h3⟩ := iha hT hr
    cases ex with
    | normal =>
      obtain ⟨ex2, t2, A2, ds2, h2', m2, e1, e2, e3⟩ := hL _ _ _ _ _ _ _ _ (.loop hfa) h2 h3
      refine ⟨ex2, t2, A2, ds2, h2', max m (m2 + 1), ?_, e2, e3⟩
      simp only [evalC, evalC_up (Nat.le_max_left m (m2 + 1)) h1]
      obtain ⟨q, hq⟩ : ∃ q, max m (m2 + 1) = q + 1 := ⟨max m (m2 + 1) - 1, by omega⟩
      rw [hq]
      exact evalC_up (by omega) e1
    | exit id => exact ⟨.exit id, t', A', ds', h', m, by simp only [evalC, h1], h2, h3⟩
    | ret => exact ⟨.ret, t', A', ds', h', m, by simp only [evalC, h1], h2, h3⟩
  | @cond x a b c d _ _ iha ihb =>
    intro t A hT ds h k r hr
    replace hr : kcond ((kA x).ev t) (kHr a P (kenv P ov N) L n t ds h k) (kHr b P (kenv P ov N) L n t ds h k) = some r := hr
    rw [kA_ev hT] at hr
    rcases kcond_some hr with ⟨hb, hr⟩ | ⟨hb, hr⟩
    · obtain ⟨ex, t', A', ds', h', m, h1, h2, h3⟩ := iha hT hr
      exact ⟨ex, t', A', ds', h', m, by simp only [evalC, hb]; exact h1, h2, h3⟩
    · obtain ⟨ex, t', A', ds', h', m, h1, h2, h3⟩ := ihb hT hr
      exact ⟨ex, t', A', ds', h', m, by simp only [evalC, hb]; exact h1, h2, h3⟩
  | @hook g c hg =>
    intro t A hT ds h k r hr
    cases ds with
    | cons _ _ => exact nomatch (hr : (none : KRes) = some r)
    | nil =>
    replace hr : (match g (kev t) h with | some (ups, h') => k .normal (kputs n ups t) [] h' | none => none) = some r := hr
    rw [kev_eq hT] at hr
    split at hr
    · rename_i ups h' he
      obtain ⟨m, hm⟩ := hg A h ups h' hT.size he
      exact ⟨.normal, _, _, [], h', m, hm, hT.puts ups, hr⟩
    · cases hr
  | @two g x y rest b hg _ ihb =>
    intro t A hT ds h k r hr
    cases ds with
    | cons _ _ => exact nomatch (hr : (none : KRes) = some r)
    | nil =>
    replace hr : (match g (kev t) h with | some (ups, h') => kHr b P (kenv P ov N) L n (kputs n ups t) [] h' k | none => none) = some r := hr
    rw [kev_eq hT] at hr
    split at hr
    · rename_i ups h' he
      obtain ⟨m, hm⟩ := hg A h ups h' hT.size he
      obtain ⟨ex2, t2, A2, ds2, h2', m2, e1, e2, e3⟩ := ihb (hT.puts ups) hr
      refine ⟨ex2, t2, A2, ds2, h2', max m m2, ?_, e2, e3⟩
      have hm' := evalC_up (Nat.le_max_left m m2) hm
      have e1' := evalC_up (Nat.le_max_right m m2) e1
      simp only [evalC] at hm' ⊢
      split at hm'
      · rename_i s' hs'
        rw [hm']
        exact e1'
      · rename_i hne
        exact absurd hm' (hne _)
    · cases hr

theorem kHn_sound {n : Nat} (M : Nat) : ∀ (N : Nat) (a : HK) (c : Code) (t : TT) (A : Array Value) (ds : List Nat) (h : AH) (k : Ex → TT → List Nat → AH → KRes) (r : Value × AH), Fits P ov n a c → TR n t A →
    kHn P (kenv P ov M) n N a t ds h k = some r → HPost P ov n c A ds h k r
  | 0, a, c, t, A, ds, h, k, r, hf, hT, hr => nomatch (hr : (none : KRes) = some r)
  | N + 1, a, c, t, A, ds, h, k, r, hf, hT, hr => kHr_sound (N := M) (fun a c t A ds h k r hf hT hr => kHn_sound M N a c t A ds h k r hf hT hr) hf hT hr

/-- A function whose code has hooks. -/
def gHook (P : Program) (ov : Over) (M N : Nat) (f : FuncId) (a : HK) (args : Array Value) (h : AH) : Option (Value × AH) :=
  match P.funcs[f]? with
  | none => none
  | some fn => Bool.rec (motive := fun _ => KRes) none (kHn P (kenv P ov M) fn.ntmps N a (kfill args.toList 0 TT0) [] h (kfin P fn fun v h => some (v, h))) (Nat.ble args.toList.length fn.ntmps && Nat.ble fn.ntmps 256)

theorem SumOk.hook (hq : Quiet P) (hmix : P.follows .mixedOrders = true) (hov : OverOk P ov) {f : FuncId} {fn : Func} {c : Code} (hf : P.funcs[f]? = some fn) (hb : fn.body = some c) {a : HK} (ha : Fits P ov fn.ntmps a c) (M N : Nat) :
    SumOk P f (gHook P ov M N f a) := by
  refine SumOk.exact hq hmix hov fun args h v h₁ hg => ?_
  unfold gHook at hg
  rw [hf] at hg
  simp only at hg
  rw [PT.brec] at hg
  split at hg
  case isFalse => cases hg
  rename_i hc
  simp only [Bool.and_eq_true] at hc
  have h1 : args.toList.length ≤ fn.ntmps := Nat.le_of_ble_eq_true hc.1
  have h2 : fn.ntmps ≤ 256 := Nat.le_of_ble_eq_true hc.2
  obtain ⟨ex, t', A', ds', h', m, he, hT, hk⟩ := kHn_sound M N a c _ _ _ _ _ _ ha (TR.fill h1 h2) hg
  refine ⟨m, ?_⟩
  unfold kfin at hk
  split at hk
  · cases hk
  rename_i hne
  split at hk
  · cases hk
  rename_i h'' hs
  rw [kress_eq hT] at hk
  unfold callFn
  simp only [hf, hb, he, hs]
  split at hk
  · rename_i v' hv
    cases hk
    cases ex with
    | exit id => exact (hne id rfl).elim
    | normal => simp only [hv]
    | ret => simp only [hv]
  · rename_i vs hvne hv
    cases hk
    simp only [hv]
  · cases hk

/-! ### Where a hook hangs -/
inductive Dir where
  | l | r | i

/-- A hook at a place: there two pieces stand one behind the other, with something behind them. -/
def hk2At (g : Hook) : List Dir → Code → HK
  | [], .seq _ (.seq _ rest) => .seq (.hook g) (.code rest)
  | .l :: p, .seq a b => .seq (hk2At g p a) (.code b)
  | .r :: p, .seq a b => .seq (.code a) (hk2At g p b)
  | .i :: p, .block id a => .block id (hk2At g p a)
  | .i :: p, .loop a => .loop (hk2At g p a)
  | _, c => .code c
def pc2At : List Dir → Code → Option Code
  | [], .seq x (.seq y _) => some (.seq x y)
  | .l :: p, .seq a _ => pc2At p a
  | .r :: p, .seq _ b => pc2At p b
  | .i :: p, .block _ a => pc2At p a
  | .i :: p, .loop a => pc2At p a
  | _, _ => none
theorem fits2 {n : Nat} {g : Hook} : ∀ (p : List Dir) (c : Code), (∀ d, pc2At p c = some d → HookOk P ov n g d) → Fits P ov n (hk2At g p c) c := by
  intro p c
  fun_induction hk2At g p c with
  | case1 x y rest => intro h; exact .two (h _ rfl) (.code _)
  | case2 p a b ih => intro h; exact .seq (ih fun d hd => h d hd) (.code _)
  | case3 p a b ih => intro h; exact .seq (.code _) (ih fun d hd => h d hd)
  | case4 p id a ih => intro h; exact .block (ih fun d hd => h d hd)
  | case5 p a ih => intro h; exact .loop (ih fun d hd => h d hd)
  | case6 => intro _; exact .code _

/-- A hook in a place's stead. -/
def hk1At (g : Hook) : List Dir → Code → HK
  | [], _ => .hook g
  | .l :: p, .seq a b => .seq (hk1At g p a) (.code b)
  | .r :: p, .seq a b => .seq (.code a) (hk1At g p b)
  | .i :: p, .block id a => .block id (hk1At g p a)
  | .i :: p, .loop a => .loop (hk1At g p a)
  | _, c => .code c
def pc1At : List Dir → Code → Option Code
  | [], c => some c
  | .l :: p, .seq a _ => pc1At p a
  | .r :: p, .seq _ b => pc1At p b
  | .i :: p, .block _ a => pc1At p a
  | .i :: p, .loop a => pc1At p a
  | _, _ => none
theorem fits1 {n : Nat} {g : Hook} : ∀ (p : List Dir) (c : Code), (∀ d, pc1At p c = some d → HookOk P ov n g d) → Fits P ov n (hk1At g p c) c := by
  intro p c
  fun_induction hk1At g p c with
  | case1 c => intro h; exact .hook (h _ rfl)
  | case2 p a b ih => intro h; exact .seq (ih fun d hd => h d hd) (.code _)
  | case3 p a b ih => intro h; exact .seq (.code _) (ih fun d hd => h d hd)
  | case4 p id a ih => intro h; exact .block (ih fun d hd => h d hd)
  | case5 p a ih => intro h; exact .loop (ih fun d hd => h d hd)
  | case6 => intro _; exact .code _
end
end Go.AE
