/-
  K, part 4: regions, code, functions; what the quick evaluator comes to, the other one comes to.
-/
import Derived.Test.YtimngnabpolgkaaGreatInG14
namespace Go.AE
noncomputable section
set_option linter.unusedSimpArgs false
set_option linter.unusedVariables false
variable {P : Program} {E : Env}

theorem runOps_trace {ops : Array Oper} : ∀ (l : List Oper) {s s' : St}, runOps P E ops l s = some s' → ∃ sts, trace P E ops l s = some (s :: sts) ∧ (s :: sts).getLast? = some s'
  | [], s, s', h => by cases h; exact ⟨[], rfl, rfl⟩
  | o :: l, s, s', h => by
    simp only [runOps] at h
    split at h
    · rename_i s1 hs
      obtain ⟨sts, h1, h2⟩ := runOps_trace l h
      exact ⟨s1 :: sts, by simp only [trace, hs, h1]; rfl, by rw [List.getLast?_cons_cons]; exact h2⟩
    · cases h

def drawEasy (ops : Array Oper) : Bool := (drawPairs ops).isEmpty

def ktr (P : Program) (K : KEnv) (n : Nat) (ds : List Nat) (l : List KO) : TT → AH → List St → (TT → AH → List St → KRes) → KRes :=
  List.rec (motive := fun _ => TT → AH → List St → (TT → AH → List St → KRes) → KRes) (fun t h acc k => k t h acc)
    (fun o _ ih t h acc k => o.g.go t (o.run.go P K t h fun v h' => ih (o.set t v) h' (acc ++ [⟨kout n (o.set t v), ds, h'⟩]) k)
      (ih (o.set t undef) h (acc ++ [⟨kout n (o.set t undef), ds, h⟩]) k)) l

theorem ktr_sound {K : KEnv} (hK : KSound K E) {n : Nat} {ops : Array Oper} {ds : List Nat} : ∀ (l : List Oper) {t : TT} {A : Array Value} (_ : TR n t A) {h : AH} {acc : List St} {k : TT → AH → List St → KRes} {r : Value × AH},
    ktr P K n ds (l.map (kO P n ops)) t h acc k = some r → ∃ t' A' h' sts, trace P E ops l ⟨A, ds, h⟩ = some (⟨A, ds, h⟩ :: sts) ∧
      ((⟨A, ds, h⟩ : St) :: sts).getLast? = some ⟨A', ds, h'⟩ ∧ TR n t' A' ∧ k t' h' (acc ++ sts) = some r
  | [], t, A, hT, h, acc, k, r, hr => ⟨t, A, h, [], rfl, rfl, hT, by rw [List.append_nil]; exact hr⟩
  | o :: l, t, A, hT, h, acc, k, r, hr => by
    obtain ⟨v, h', hs, hk⟩ := kl_step (P := P) (n := n) (ops := ops) (o := o) (h := h) (r := r) hK hT (ds := ds) (k := fun v h' => ktr P K n ds (l.map (kO P n ops)) ((kO P n ops o).set t v) h' (acc ++ ([⟨kout n ((kO P n ops o).set t v), ds, h'⟩] : List St)) k)
      (hr : (kO P n ops o).g.go t _ _ = some r)
    have hT1 := kset_TR (P := P) hT ops o v
    obtain ⟨t', A', h'', sts, h1, h2, hT', hk'⟩ := ktr_sound hK l hT1 hk
    rw [hT1.out] at hk'
    refine ⟨t', A', h'', ⟨put A o.dst v, ds, h'⟩ :: sts, ?_, ?_, hT', by simpa using hk'⟩
    · simp only [trace, stepOp, hs, h1]; rfl
    · rw [List.getLast?_cons_cons]; exact h2

/-- In an order of which the checks hold. -/
def kdrawn (P : Program) (K : KEnv) (n : Nat) (ops : Array Oper) (t : TT) (ds : List Nat) (h : AH) (k : TT → AH → KRes) : KRes :=
  Bool.rec (motive := fun _ => KRes)
    (ktr P K n ds (ops.toList.map (kO P n ops)) t h [⟨kout n t, ds, h⟩] fun t' h' sts => if (drawPairs ops).all (sameRead P ops sts) then k t' h' else none)
    (kl (ops.toList.map (kOS P n ops)) K t h k) (drawEasy ops)

def kregion (P : Program) (K : KEnv) (n : Nat) (ops : Array Oper) (draw : Bool) (t : TT) (ds : List Nat) (h : AH) (k : TT → AH → KRes) : KRes :=
  Bool.rec (motive := fun _ => KRes) (kl (ops.toList.map (kOS P n ops)) K t h k)
    (Option.rec (motive := fun _ => KRes) none (fun ops' => kdrawn P K n ops' t ds h k) (drawOps ops)) draw

theorem kregion_sound {K : KEnv} (hK : KSound K E) {n : Nat} {ops : Array Oper} {draw : Bool} {t : TT} {A : Array Value} (hT : TR n t A) {ds : List Nat} {h : AH} {k : TT → AH → KRes} {r : Value × AH}
    (hr : kregion P K n ops draw t ds h k = some r) : ∃ t' A' h', evalRegion P E ops draw ⟨A, ds, h⟩ = some ⟨A', ds, h'⟩ ∧ TR n t' A' ∧ k t' h' = some r := by
  unfold kregion at hr
  cases draw with
  | false =>
    obtain ⟨t', A', h', h1, h2, h3⟩ := kl_sound hK ops.toList hT (ds := ds) hr
    exact ⟨t', A', h', by rw [evalRegion_false]; exact h1, h2, h3⟩
  | true =>
    simp only at hr
    cases hd : drawOps ops with
    | none => rw [hd] at hr; cases hr
    | some ops' =>
    rw [hd] at hr
    replace hr : kdrawn P K n ops' t ds h k = some r := hr
    unfold kdrawn at hr
    cases he : drawEasy ops' with
    | true =>
      rw [he] at hr
      obtain ⟨t', A', h', h1, h2, h3⟩ := kl_sound hK ops'.toList hT (ds := ds) hr
      refine ⟨t', A', h', ?_, h2, h3⟩
      obtain ⟨sts, e1, e2⟩ := runOps_trace _ h1
      unfold drawEasy at he
      simp only [List.isEmpty_iff] at he
      simp only [evalRegion, if_true, hd, e1, he, List.all_nil, e2]
    | false =>
      rw [he] at hr
      obtain ⟨t', A', h', sts, e1, e2, h2, h3⟩ := ktr_sound hK ops'.toList hT (acc := [⟨kout n t, ds, h⟩]) (ds := ds) hr
      rw [hT.out] at h3
      split at h3
      · rename_i hc
        have hc2 : ((drawPairs ops').all (sameRead P ops' (⟨A, ds, h⟩ :: sts))) = true := hc
        refine ⟨t', A', h', ?_, h2, h3⟩
        simp only [evalRegion, if_true, hd, e1, hc2, e2]
      · cases h3

/-- True, false, or something else. -/
inductive BV where
  | is (b : Bool)
  | other
def toBV : Value → BV :=
  Value.rec (motive_1 := fun _ => BV) (motive_2 := fun _ => Unit) (motive_3 := fun _ => Unit)
    (fun b => .is b) (fun _ _ => .other) (fun _ _ => .other) (fun _ _ _ => .other) (fun _ => .other) (fun _ => .other) (fun _ _ _ => .other)
    (fun _ => .other) (fun _ => .other) (fun _ _ _ _ _ => .other) .other (fun _ _ _ => .other) .other (fun _ _ => .other) (fun _ _ => .other) (fun _ _ => ()) () (fun _ _ _ _ => ())
def kcond (v : Value) (x y : KRes) : KRes :=
  BV.rec (motive := fun _ => KRes → KRes → KRes) (fun b x y => Bool.rec (motive := fun _ => KRes) y x b) (fun _ _ => none) (toBV v) x y
theorem kcond_some {v : Value} {x y : KRes} {r : Value × AH} (h : kcond v x y = some r) : (v = .bool true ∧ x = some r) ∨ (v = .bool false ∧ y = some r) := by
  cases v with
  | bool b => cases b with
    | true => exact .inl ⟨rfl, h⟩
    | false => exact .inr ⟨rfl, h⟩
  | _ => exact nomatch (h : (none : KRes) = some r)

def krd (rd : Option Nat) (h : AH) : Option (Nat × List Nat × AH) :=
  match rd with
  | none => some (h.next, [h.next], h.push .defs)
  | some l => match h.get l with
    | some (.loop _ _ _ _ _ _ d) => some (d, [], h)
    | _ => none

theorem evalC_rangeK (rd : Option Nat) (g : Operand) (ps : Array Tmp) (assign body : Code) (s : St) : evalC P E rd (.rangeFunc g ps assign body) s =
    match krd rd s.h with
    | none => none
    | some (d, mark, h₁) =>
      match aeval s.tmps g with
      | .func (.func f) first captured =>
        if ((P.funcs[f]?).bind (·.body)).isSome then
          match E.call f (first ++ #[Value.func (.yield h₁.next) #[] #[]] ++ captured) (h₁.push (.loop .ready .normal s.tmps ps assign body d)) with
          | some (_, h₂) =>
            match h₂.get h₁.next with
            | some (.loop .busy _ _ _ _ _ _) => none
            | some (.loop _ pend tmps' params' assign' body' d') =>
              some (pend, { tmps := s.tmps, defers := mark ++ s.defers, h := h₂.set h₁.next (.loop .exhausted pend tmps' params' assign' body' d') })
            | _ => none
          | none => none
        else none
      | _ => none := by
  simp only [evalC, krd]
  rfl

def krange (P : Program) (K : KEnv) (rd : Option Nat) (n : Nat) (g : Operand) (ps : Array Tmp) (assign body : Code) (t : TT) (ds : List Nat) (h : AH) (k : Ex → TT → List Nat → AH → KRes) : KRes :=
  match krd rd h with
  | none => none
  | some (d, mark, h₁) =>
    match (kA g).ev t with
    | .func (.func f) first captured =>
      match ((P.funcs[f]?).bind (·.body)).isSome with
      | true =>
        K.call f (first ++ #[Value.func (.yield h₁.next) #[] #[]] ++ captured).toList (h₁.push (.loop .ready .normal (kout n t) ps assign body d)) fun _ h₂ =>
          match h₂.get h₁.next with
          | some (.loop .busy _ _ _ _ _ _) => none
          | some (.loop _ pend tmps' params' assign' body' d') => k pend t (mark ++ ds) (h₂.set h₁.next (.loop .exhausted pend tmps' params' assign' body' d'))
          | _ => none
      | false => none
    | _ => none

def kCr (c : Code) : Program → KEnv → Option Nat → Nat → TT → List Nat → AH → (Ex → TT → List Nat → AH → KRes) → KRes :=
  Code.rec (motive := fun _ => Program → KEnv → Option Nat → Nat → TT → List Nat → AH → (Ex → TT → List Nat → AH → KRes) → KRes)
    (fun _ _ _ _ t ds h k => k .normal t ds h)
    (fun _ ops draw P K _ n t ds h k => kregion P K n ops draw t ds h fun t' h' => k .normal t' ds h')
    (fun _ _ ia ib P K rd n t ds h k => ia P K rd n t ds h fun ex t ds h => Ex.rec (motive := fun _ => KRes) (ib P K rd n t ds h k) (fun id => k (.exit id) t ds h) (k .ret t ds h) ex)
    (fun c _ _ ix iy P K rd n t ds h k => kcond ((kA c).ev t) (ix P K rd n t ds h k) (iy P K rd n t ds h k))
    (fun id _ ic P K rd n t ds h k => ic P K rd n t ds h fun ex t ds h => Ex.rec (motive := fun _ => KRes) (k .normal t ds h)
      (fun id' => Bool.rec (motive := fun _ => KRes) (k (.exit id') t ds h) (k .normal t ds h) (Nat.beq id' id)) (k .ret t ds h) ex)
    (fun c ic P K rd n t ds h k => ic P K rd n t ds h fun ex t ds h => Ex.rec (motive := fun _ => KRes) (K.code rd n (.loop c) t ds h k) (fun id => k (.exit id) t ds h) (k .ret t ds h) ex)
    (fun g ps assign body _ _ P K rd n t ds h k => krange P K rd n g ps assign body t ds h k)
    (fun id _ _ _ _ t ds h k => k (.exit id) t ds h)
    (fun _ ic P K rd n t ds h k => ic P K rd n t ds h k)
    (fun _ _ _ _ _ t ds h k => k .normal t ds h)
    (fun _ _ _ _ _ _ _ _ _ => none)
    (fun _ _ _ _ t ds h k => k .ret t ds h)
    (fun _ _ _ _ _ _ _ _ _ => none) c

def kC (P : Program) (K : KEnv) (rd : Option Nat) (n : Nat) (c : Code) (t : TT) (ds : List Nat) (h : AH) (k : Ex → TT → List Nat → AH → KRes) : KRes := kCr c P K rd n t ds h k

theorem kC_sound {K : KEnv} (hK : KSound K E) {rd : Option Nat} {n : Nat} : ∀ (c : Code) {t : TT} {A : Array Value} (_ : TR n t A) {ds : List Nat} {h : AH} {k : Ex → TT → List Nat → AH → KRes} {r : Value × AH},
    kC P K rd n c t ds h k = some r → ∃ ex t' A' ds' h', evalC P E rd c ⟨A, ds, h⟩ = some (ex, ⟨A', ds', h'⟩) ∧ TR n t' A' ∧ k ex t' ds' h' = some r
  | .skip, t, A, hT, ds, h, k, r, hr => ⟨.normal, t, A, ds, h, rfl, hT, hr⟩
  | .label _, t, A, hT, ds, h, k, r, hr => ⟨.normal, t, A, ds, h, rfl, hT, hr⟩
  | .region id ops draw, t, A, hT, ds, h, k, r, hr => by
    obtain ⟨t', A', h', h1, h2, h3⟩ := kregion_sound hK hT (hr : kregion P K n ops draw t ds h _ = some r)
    exact ⟨.normal, t', A', ds, h', by simp only [evalC, h1]; rfl, h2, h3⟩
  | .seq a b, t, A, hT, ds, h, k, r, hr => by
    obtain ⟨ex, t', A', ds', h', h1, h2, h3⟩ := kC_sound hK a hT (hr : kC P K rd n a t ds h _ = some r)
    cases ex with
    | normal =>
      obtain ⟨ex2, t2, A2, ds2, h2', e1, e2, e3⟩ := kC_sound hK b h2 (h3 : kC P K rd n b t' ds' h' k = some r)
      exact ⟨ex2, t2, A2, ds2, h2', by simp only [evalC, h1]; exact e1, e2, e3⟩
    | exit id => exact ⟨.exit id, t', A', ds', h', by simp only [evalC, h1], h2, h3⟩
    | ret => exact ⟨.ret, t', A', ds', h', by simp only [evalC, h1], h2, h3⟩
  | .cond c x y, t, A, hT, ds, h, k, r, hr => by
    replace hr : kcond ((kA c).ev t) (kC P K rd n x t ds h k) (kC P K rd n y t ds h k) = some r := hr
    rw [kA_ev hT] at hr
    rcases kcond_some hr with ⟨hb, hr⟩ | ⟨hb, hr⟩
    · obtain ⟨ex, t', A', ds', h', h1, h2, h3⟩ := kC_sound hK x hT hr
      exact ⟨ex, t', A', ds', h', by simp only [evalC, hb]; exact h1, h2, h3⟩
    · obtain ⟨ex, t', A', ds', h', h1, h2, h3⟩ := kC_sound hK y hT hr
      exact ⟨ex, t', A', ds', h', by simp only [evalC, hb]; exact h1, h2, h3⟩
  | .block id c, t, A, hT, ds, h, k, r, hr => by
    obtain ⟨ex, t', A', ds', h', h1, h2, h3⟩ := kC_sound hK c hT (hr : kC P K rd n c t ds h _ = some r)
    cases ex with
    | normal => exact ⟨.normal, t', A', ds', h', by simp only [evalC, h1], h2, h3⟩
    | ret => exact ⟨.ret, t', A', ds', h', by simp only [evalC, h1], h2, h3⟩
    | exit id' =>
      simp only at h3
      rw [PT.brec] at h3
      by_cases e : id' = id
      · rw [if_pos (by rw [e]; exact Nat.beq_refl id)] at h3
        exact ⟨.normal, t', A', ds', h', by simp only [evalC, h1, e, if_true], h2, h3⟩
      · rw [if_neg (fun x => e (Nat.eq_of_beq_eq_true x))] at h3
        exact ⟨.exit id', t', A', ds', h', by simp only [evalC, h1, e, if_false], h2, h3⟩
  | .loop c, t, A, hT, ds, h, k, r, hr => by
    obtain ⟨ex, t', A', ds', h', h1, h2, h3⟩ := kC_sound hK c hT (hr : kC P K rd n c t ds h _ = some r)
    cases ex with
    | normal =>
      obtain ⟨ex2, t2, A2, ds2, h2', e1, e2, e3⟩ := hK.code _ _ _ _ _ _ _ _ _ h2 (h3 : K.code rd n (.loop c) t' ds' h' k = some r)
      exact ⟨ex2, t2, A2, ds2, h2', by simp only [evalC, h1]; exact e1, e2, e3⟩
    | exit id => exact ⟨.exit id, t', A', ds', h', by simp only [evalC, h1], h2, h3⟩
    | ret => exact ⟨.ret, t', A', ds', h', by simp only [evalC, h1], h2, h3⟩
  | .scope c, t, A, hT, ds, h, k, r, hr => by
    obtain ⟨ex, t', A', ds', h', h1, h2, h3⟩ := kC_sound hK c hT (hr : kC P K rd n c t ds h k = some r)
    exact ⟨ex, t', A', ds', h', h1, h2, h3⟩
  | .exit id, t, A, hT, ds, h, k, r, hr => ⟨.exit id, t, A, ds, h, rfl, hT, hr⟩
  | .ret, t, A, hT, ds, h, k, r, hr => ⟨.ret, t, A, ds, h, rfl, hT, hr⟩
  | .goto _, t, A, hT, ds, h, k, r, hr => nomatch (hr : (none : KRes) = some r)
  | .refuse _, t, A, hT, ds, h, k, r, hr => nomatch (hr : (none : KRes) = some r)
  | .rangeFunc g ps assign body, t, A, hT, ds, h, k, r, hr => by
    replace hr : krange P K rd n g ps assign body t ds h k = some r := hr
    unfold krange at hr
    rw [kA_ev hT, hT.out] at hr
    cases hm : krd rd h with
    | none => rw [hm] at hr; cases hr
    | some q =>
    obtain ⟨d, mark, h₁⟩ := q
    rw [hm] at hr
    simp only at hr
    split at hr
    case h_2 => cases hr
    rename_i f first captured hv
    split at hr
    case h_2 => cases hr
    rename_i hb
    obtain ⟨v, h₂, hc, hk⟩ := hK.call _ _ _ _ _ hr
    have hc' : E.call f (first ++ #[Value.func (.yield h₁.next) #[] #[]] ++ captured) (h₁.push (.loop .ready .normal A ps assign body d)) = some (v, h₂) := hc
    split at hk
    · cases hk
    · rename_i st pend tmps' params' assign' body' d' hne hg
      refine ⟨pend, t, A, mark ++ ds, _, ?_, hT, hk⟩
      rw [evalC_rangeK]
      simp only [hm, hv, hb, if_true, hc', hg]
    · cases hk

def kres1 (P : Program) (t : TT) (h : AH) (r : ResultVar) : Option Value :=
  match r with
  | .tmp i => some (kev t (.tmp i))
  | .cell a ty => match kev t (.tmp a) with
    | .pointer (some x) => loadA P ty x h
    | _ => none
def kress (P : Program) (t : TT) (h : AH) : List ResultVar → Option (List Value)
  | [] => some []
  | r :: rs => match kres1 P t h r with
    | some v => (kress P t h rs).map (v :: ·)
    | none => none

theorem kress_eq {n : Nat} {t : TT} {A : Array Value} (hT : TR n t A) (h : AH) : ∀ rs, kress P t h rs = resultsA P A h rs
  | [] => rfl
  | r :: rs => by
    have e1 : kres1 P t h r = resultA P A h r := by
      cases r with
      | tmp i => simp only [kres1, kev_eq hT]; rfl
      | cell a ty => simp only [kres1, kev_eq hT]; rfl
    simp only [kress, resultsA, e1, kress_eq hT h rs]
    rfl

def kfin (P : Program) (fn : Func) (k : Value → AH → KRes) (ex : Ex) (t : TT) (ds : List Nat) (h : AH) : KRes :=
  match ex with
  | .exit _ => none
  | _ => match shut ds h with
    | none => none
    | some h' => match kress P t h' fn.results.toList with
      | some [v] => k v h'
      | some vs => k (.tuple vs.toArray) h'
      | none => none

def kfn (P : Program) (K : KEnv) (f : FuncId) (args : List Value) (h : AH) (k : Value → AH → KRes) : KRes :=
  match P.funcs[f]? with
  | none => none
  | some fn => match fn.body with
    | none => none
    | some c => Bool.rec (motive := fun _ => KRes) none (kC P K none fn.ntmps c (kfill args 0 TT0) [] h (kfin P fn k)) (Nat.ble args.length fn.ntmps && Nat.ble fn.ntmps 256)

theorem kfn_sound {K : KEnv} (hK : KSound K E) {f : FuncId} {args : List Value} {h : AH} {k : Value → AH → KRes} {r : Value × AH} (hr : kfn P K f args h k = some r) :
    ∃ v h', callFn P E f ⟨args⟩ h = some (v, h') ∧ k v h' = some r := by
  unfold kfn at hr
  split at hr
  · cases hr
  rename_i fn hf
  split at hr
  · cases hr
  rename_i c hb
  rw [PT.brec] at hr
  split at hr
  case isFalse => cases hr
  rename_i hc
  simp only [Bool.and_eq_true] at hc
  have h1 : args.length ≤ fn.ntmps := Nat.le_of_ble_eq_true hc.1
  have h2 : fn.ntmps ≤ 256 := Nat.le_of_ble_eq_true hc.2
  obtain ⟨ex, t', A', ds', h', he, hT, hk⟩ := kC_sound hK c (TR.fill h1 h2) hr
  unfold kfin at hk
  split at hk
  · cases hk
  rename_i hne
  split at hk
  · cases hk
  rename_i h'' hs
  rw [kress_eq hT] at hk
  unfold callFn
  simp only [hf, hb, he, hs]
  have fin : ∀ {x : Option (Value × AH)} {v : Value}, x = some (v, h'') → ∃ v h', (match ex with | .exit _ => none | _ => x) = some (v, h') := fun hx => by
    cases ex with
    | exit id => exact (hne id rfl).elim
    | normal => exact ⟨_, _, hx⟩
    | ret => exact ⟨_, _, hx⟩
  split at hk
  · rename_i v hv
    refine ⟨v, h'', ?_, hk⟩
    rw [hv]
  · rename_i vs hvne hv
    refine ⟨.tuple vs.toArray, h'', ?_, hk⟩
    rw [hv]
    cases ex with
    | exit id => exact (hne id rfl).elim
    | normal => cases vs with
      | nil => rfl
      | cons a l => cases l with
        | nil => exact (hvne a rfl).elim
        | cons b l => rfl
    | ret => cases vs with
      | nil => rfl
      | cons a l => cases l with
        | nil => exact (hvne a rfl).elim
        | cons b l => rfl
  · cases hk

def kover (g : Array Value → AH → Option (Value × AH)) (args : List Value) (h : AH) (k : Value → AH → KRes) : KRes :=
  match g ⟨args⟩ h with
  | some (v, h') => k v h'
  | none => none

def kenv (P : Program) (ov : Over) (n : Nat) : KEnv :=
  Nat.rec (motive := fun _ => KEnv) ⟨fun _ _ _ _ => none, fun _ _ _ _ _ _ _ => none⟩
    (fun _ ih => ⟨fun f args h k => Option.rec (motive := fun _ => KRes) (kfn P ih f args h k) (fun g => kover g args h k) (ov f), fun rd n c t ds h k => kCr c P ih rd n t ds h k⟩) n

theorem kenv_sound (ov : Over) : ∀ n, KSound (kenv P ov n) (env P ov n)
  | 0 => by
    refine ⟨fun f args h k r hr => ?_, fun rd m c t A ds h k r hT hr => ?_⟩
    · exact nomatch (hr : (none : KRes) = some r)
    · exact nomatch (hr : (none : KRes) = some r)
  | n + 1 => by
    have hK := kenv_sound ov n
    refine ⟨fun f args h k r hr => ?_, fun rd m c t A ds h k r hT hr => ?_⟩
    · replace hr : Option.rec (motive := fun _ => KRes) (kfn P (kenv P ov n) f args h k) (fun g => kover g args h k) (ov f) = some r := hr
      show ∃ v h', (match ov f with | some g => g ⟨args⟩ h | none => callFn P (env P ov n) f ⟨args⟩ h) = some (v, h') ∧ _
      cases ho : ov f with
      | none =>
        rw [ho] at hr
        exact kfn_sound hK hr
      | some g =>
        rw [ho] at hr
        replace hr : kover g args h k = some r := hr
        unfold kover at hr
        split at hr
        · rename_i v h' hg; exact ⟨v, h', hg, hr⟩
        · cases hr
    · exact kC_sound hK c hT hr

/-- Does a function's run yield what is true? -/
def kTrue (P : Program) (ov : Over) (n : Nat) (f : FuncId) (args : List Value) (h : AH) : Bool :=
  match kfn P (kenv P ov n) f args h fun v _ => match v with
    | .bool true => some (v, h)
    | _ => none with
  | some _ => true
  | none => false

theorem kTrue_sound {ov : Over} {n : Nat} {f : FuncId} {args : List Value} {h : AH} (ht : kTrue P ov n f args h = true) : ∃ h', callFn P (env P ov n) f ⟨args⟩ h = some (.bool true, h') := by
  unfold kTrue at ht
  split at ht
  case h_2 => cases ht
  rename_i r hr
  obtain ⟨v, h', h1, h2⟩ := kfn_sound (kenv_sound ov n) hr
  split at h2
  · exact ⟨h', h1⟩
  · cases h2

end
end Go.AE
