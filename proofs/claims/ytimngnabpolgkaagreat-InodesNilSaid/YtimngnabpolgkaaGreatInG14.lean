/-
  K, part 3: compiled operations; the evaluator that goes on by what comes next; it is right.
-/
import Derived.Test.YtimngnabpolgkaaGreatInG12
import Derived.Test.YtimngnabpolgkaaGreatInG13
namespace Go.AE
noncomputable section
set_option linter.unusedSimpArgs false
set_option linter.unusedVariables false
variable {P : Program} {E : Env}

inductive KR where
  | mk (f : List Value → AH → Option (Value × AH)) (xs : List KA)
  | mv (x : KA)
  | v1 (f : Value → Option Value) (x : KA)
  | v2 (f : Value → Value → Option Value) (x y : KA)
  | ld (f : Value → AH → Option Value) (x : KA)
  | st (f : Value → Value → AH → Option AH) (x y : KA)
  | call (f : FuncId) (args : List KA)
  | gen (o : Oper)

/-- A value is made whole, then it goes on. -/
def forceV (v : Value) (k : Value → Option (Value × AH)) : Option (Value × AH) :=
  Value.rec (motive_1 := fun _ => (Value → Option (Value × AH)) → Option (Value × AH)) (motive_2 := fun _ => Unit) (motive_3 := fun _ => Unit)
    (fun b k => k (.bool b)) (fun kd n k => k (.int kd n)) (fun kd b k => k (.float kd b)) (fun kd a b k => k (.complex kd a b)) (fun s k => k (.string s)) (fun a k => k (.pointer a)) (fun a n c k => k (.slice a n c))
    (fun r k => k (.map r)) (fun r k => k (.chan r)) (fun f as cs _ _ k => k (.func f as cs)) (fun k => k .nilFunc) (fun t v _ k => k (.iface t v)) (fun k => k .nilIface) (fun cs _ k => k (.agg cs)) (fun cs _ k => k (.tuple cs))
    (fun _ _ => ()) () (fun _ _ _ _ => ()) v k
theorem forceV_eq (v : Value) (k : Value → Option (Value × AH)) : forceV v k = k v := by cases v <;> rfl

def kbinR (P : Program) (op : BinOp) (t : TypeId) (x y : Operand) : KR :=
  match op with
  | .add => .v2 (kint2 (binA P .add t x y) fAdd) (kA x) (kA y)
  | .sub => .v2 (kint2 (binA P .sub t x y) fSub) (kA x) (kA y)
  | .mul => .v2 (kint2 (binA P .mul t x y) fMul) (kA x) (kA y)
  | .quo => .v2 (kint2 (binA P .quo t x y) fQuo) (kA x) (kA y)
  | .rem => .v2 (kint2 (binA P .rem t x y) fRem) (kA x) (kA y)
  | .shl => .v2 (kint2s (binA P .shl t x y) fShl) (kA x) (kA y)
  | .shr => .v2 (kint2s (binA P .shr t x y) fShr) (kA x) (kA y)
  | .eql => .v2 (kint2 (binA P .eql t x y) fEql) (kA x) (kA y)
  | .neq => .v2 (kint2 (binA P .neq t x y) fNeq) (kA x) (kA y)
  | .lss => .v2 (kint2 (binA P .lss t x y) fLss) (kA x) (kA y)
  | .leq => .v2 (kint2 (binA P .leq t x y) fLeq) (kA x) (kA y)
  | .gtr => .v2 (kint2 (binA P .gtr t x y) fGtr) (kA x) (kA y)
  | .geq => .v2 (kint2 (binA P .geq t x y) fGeq) (kA x) (kA y)
  | .and => .v2 (kint2 (binA P .and t x y) (fBit Nat.land)) (kA x) (kA y)
  | .or => .v2 (kint2 (binA P .or t x y) (fBit Nat.lor)) (kA x) (kA y)
  | .xor => .v2 (kint2 (binA P .xor t x y) (fBit Nat.xor)) (kA x) (kA y)
  | .andNot => .v2 (binA P .andNot t x y) (kA x) (kA y)
theorem kbinR_eq (P : Program) (op : BinOp) (t : TypeId) (x y : Operand) : kbinR P op t x y = .v2 (kbin P op t x y) (kA x) (kA y) := by cases op <;> rfl

def kR (P : Program) (o : Oper) : KR :=
  match o.op with
  | .move x => .mv (kA x)
  | .assign x => .mv (kA x)
  | .load t a => .ld (kload P t) (kA a)
  | .store t a x => .st (kstore P t) (kA a) (kA x)
  | .binOp op t x y _ => kbinR P op t x y
  | .unOp op _ x => .v1 (kun P op) (kA x)
  | .convert s d x => .v1 (kconv P s d) (kA x)
  | .fieldAddr s x f => .v1 (kfa P s f) (kA x)
  | .field t x f => .v1 (fun v => fieldA P t v f) (kA x)
  | .indexAddr t x i => .v2 (kia P t) (kA x) (kA i)
  | .index t x i => .v2 (indexA P t) (kA x) (kA i)
  | .extract t i => .v1 (fun v => extractA v i) (kA t)
  | .build t ps => .mk (buildK P t (ps.toList.map (·.1))) ((ps.toList.map (·.2)).map kA)
  | .buildSlice t len ps => .mk (buildSliceK P t len (ps.toList.map (·.1))) ((ps.toList.map (·.2)).map kA)
  | .call c => match c.callee with
    | .value (.func g) => match ((P.funcs[g]?).bind (·.body)).isSome with
      | true => .call g (c.args.toList.map kA)
      | false => .gen o
    | .builtin .len => match c.args.toList with
      | [x] => .ld (fun v h => lenB P c.argTypes #[v] h) (kA x)
      | _ => .gen o
    | _ => .gen o
  | _ => .gen o

/-- What a compiled operation is to be. -/
def KR.Ok (P : Program) (o : Oper) : KR → Prop
  | .mk f xs => ∃ as : List Operand, xs = as.map kA ∧ ∀ (A : Array Value) h, opA P (aeval A) h o = (f (as.map (aeval A)) h).map fun r => .val r.1 r.2
  | .mv x => ∃ ox, x = kA ox ∧ ∀ (A : Array Value) h, opA P (aeval A) h o = some (.val (aeval A ox) h)
  | .v1 f x => ∃ ox, x = kA ox ∧ ∀ (A : Array Value) h, opA P (aeval A) h o = (f (aeval A ox)).map fun v => .val v h
  | .v2 f x y => ∃ ox oy, x = kA ox ∧ y = kA oy ∧ ∀ (A : Array Value) h, opA P (aeval A) h o = (f (aeval A ox) (aeval A oy)).map fun v => .val v h
  | .ld f x => ∃ ox, x = kA ox ∧ ∀ (A : Array Value) h, opA P (aeval A) h o = (f (aeval A ox) h).map fun v => .val v h
  | .st f x y => ∃ ox oy, x = kA ox ∧ y = kA oy ∧ ∀ (A : Array Value) h, opA P (aeval A) h o = (f (aeval A ox) (aeval A oy) h).map .skip
  | .call g args => ∃ as : List Operand, args = as.map kA ∧ ∀ (A : Array Value) h, opA P (aeval A) h o = some (.enter g ⟨as.map (aeval A)⟩)
  | .gen o' => o' = o

theorem kR_ok (o : Oper) : (kR P o).Ok P o := by
  obtain ⟨dst, op, type, pos, after, guard⟩ := o
  cases op with
  | move x => exact ⟨x, rfl, fun A h => rfl⟩
  | assign x => exact ⟨x, rfl, fun A h => rfl⟩
  | load t a =>
    refine ⟨a, rfl, fun A h => ?_⟩
    rw [kload_eq]
    simp only [opA, ofPtr]
    cases aeval A a with
    | pointer x => cases x <;> rfl
    | _ => rfl
  | store t a x =>
    refine ⟨a, x, rfl, rfl, fun A h => ?_⟩
    rw [kstore_eq]
    simp only [opA, ofPtr2]
    cases aeval A a with
    | pointer x => cases x <;> rfl
    | _ => rfl
  | binOp op t x y u =>
    show (kbinR P op t x y).Ok P _
    rw [kbinR_eq]
    exact ⟨x, y, rfl, rfl, fun A h => by simp only [opA, kbin_eq]⟩
  | unOp op t x =>
    refine ⟨x, rfl, fun A h => ?_⟩
    simp only [opA, kun_eq, unA]
    split <;> rfl
  | convert s d x =>
    refine ⟨x, rfl, fun A h => ?_⟩
    rw [kconv_eq]
    simp only [opA, convA]
    split <;> rfl
  | fieldAddr s x f => exact ⟨x, rfl, fun A h => by rw [kfa_eq]; rfl⟩
  | field t x f => exact ⟨x, rfl, fun A h => rfl⟩
  | indexAddr t x i => exact ⟨x, i, rfl, rfl, fun A h => by rw [kia_eq]; rfl⟩
  | index t x i => exact ⟨x, i, rfl, rfl, fun A h => rfl⟩
  | extract t i => exact ⟨t, rfl, fun A h => rfl⟩
  | build t ps => exact ⟨_, rfl, fun A h => by
      rw [buildK_eq]
      simp only [opA]
      cases buildA P t (partsA (aeval A) ps) <;> rfl⟩
  | buildSlice t len ps => exact ⟨_, rfl, fun A h => by
      rw [buildSliceK_eq]
      rfl⟩
  | call c =>
    simp only [kR]
    split
    · rename_i g hg
      split
      · rename_i hb
        refine ⟨c.args.toList, rfl, fun A h => ?_⟩
        obtain ⟨callee, args, ts⟩ := c
        obtain ⟨args⟩ := args
        simp only at hg
        subst hg
        have hb' : ((P.funcs[g]?).bind (·.body)).isSome = true := hb
        simp only [opA, callA, aeval, hb', if_true]
        congr 2
        apply Array.ext'; simp
      · rfl
    · rename_i hg
      split
      · rename_i x hx
        refine ⟨x, rfl, fun A h => ?_⟩
        have h1 : c.args.map (aeval A) = #[aeval A x] := by
          apply Array.ext'; simp [hx]
        simp only [opA, callA, hg, builtinA, h1]
      · rfl
    · rfl
  | _ => rfl

abbrev KRes := Option (Value × AH)

structure KEnv where
  call : FuncId → List Value → AH → (Value → AH → KRes) → KRes
  code : Option Nat → Nat → Code → TT → List Nat → AH → (Ex → TT → List Nat → AH → KRes) → KRes

/-- The quick environment is the other one's. -/
structure KSound (K : KEnv) (E : Env) : Prop where
  call : ∀ f args h k r, K.call f args h k = some r → ∃ v h', E.call f ⟨args⟩ h = some (v, h') ∧ k v h' = some r
  code : ∀ rd n c t A ds h k r, TR n t A → K.code rd n c t ds h k = some r →
    ∃ ex t' A' ds' h', E.code rd c ⟨A, ds, h⟩ = some (ex, ⟨A', ds', h'⟩) ∧ TR n t' A' ∧ k ex t' ds' h' = some r

def kopt {α : Type} (o : Option α) (f : α → KRes) : KRes := Option.rec (motive := fun _ => KRes) none f o
theorem kopt_some {α : Type} {o : Option α} {f : α → KRes} {r : Value × AH} (h : kopt o f = some r) : ∃ a, o = some a ∧ f a = some r := by
  cases o with
  | none => cases h
  | some a => exact ⟨a, rfl, h⟩

def kev (t : TT) (o : Operand) : Value := (kA o).ev t
theorem kev_eq {n : Nat} {t : TT} {A : Array Value} (h : TR n t A) : kev t = aeval A := by funext o; exact kA_ev h o

/-- Slots are set one by one. -/
def kputs (n : Nat) : List (Nat × Value) → TT → TT
  | [], t => t
  | (d, v) :: r, t => kputs n r (if d < n then TT.upd t (path d) v else t)

theorem TR.put {n : Nat} {t : TT} {A : Array Value} (h : TR n t A) (d : Nat) (v : Value) : TR n (if d < n then TT.upd t (path d) v else t) (A.setIfInBounds d v) := by
  split
  · rename_i hd; exact h.upd hd v
  · rename_i hd
    have : A.setIfInBounds d v = A := by
      apply Array.ext_getElem?
      intro i
      rw [Array.getElem?_setIfInBounds]
      by_cases e : d = i
      · subst e
        have hs : ¬ d < A.size := by rw [h.size]; exact hd
        simp [hs]
      · simp [e]
    rw [this]; exact h

theorem TR.puts {n : Nat} : ∀ (l : List (Nat × Value)) {t : TT} {A : Array Value}, TR n t A → TR n (kputs n l t) (l.foldl (fun A (p : Nat × Value) => A.setIfInBounds p.1 p.2) A)
  | [], _, _, h => h
  | (d, v) :: r, _, _, h => TR.puts r (h.put d v)

def kround (K : KEnv) (l : Nat) (args : Array Value) (h : AH) (k : Value → AH → KRes) : KRes :=
  match h.get l with
  | some (.loop _ _ tmps params assign body _) =>
    if args.size ≠ params.size then none else
    if tmps.size ≤ 256 then
      K.code (some l) tmps.size assign (kputs tmps.size (params.toList.zip args.toList) (kfill tmps.toList 0 TT0)) [] h fun ex t ds h1 =>
        match ex with
        | .normal =>
          match h1.get l with
          | some (.loop .ready pend₁ tmps₁ params₁ assign₁ body₁ defers₁) =>
            K.code (some l) tmps.size body t ds (h1.set l (.loop .busy pend₁ tmps₁ params₁ assign₁ body₁ defers₁)) fun ex _ _ h2 =>
              match h2.get l with
              | some (.loop _ _ tmps₂ params₂ assign₂ body₂ defers₂) =>
                match ex with
                | .normal => k (.bool true) (h2.set l (.loop .ready .normal tmps₂ params₂ assign₂ body₂ defers₂))
                | ex => k (.bool false) (h2.set l (.loop .done ex tmps₂ params₂ assign₂ body₂ defers₂))
              | _ => none
          | _ => none
        | _ => none
    else none
  | _ => none

theorem kround_sound {K : KEnv} (hK : KSound K E) {l : Nat} {args : Array Value} {h : AH} {k : Value → AH → KRes} {r : Value × AH} (hr : kround K l args h k = some r) :
    ∃ v h', roundA E l args h = some (v, h') ∧ k v h' = some r := by
  unfold kround at hr
  split at hr
  case h_2 => cases hr
  rename_i st pend tmps params assign body d hg
  split at hr
  · cases hr
  rename_i hsz
  split at hr
  case isFalse => cases hr
  rename_i hle
  have hT := (TR.arr hle).puts (params.toList.zip args.toList)
  have e1 : (params.toList.zip args.toList).foldl (fun A (p : Nat × Value) => A.setIfInBounds p.1 p.2) tmps = (params.zip args).foldl (fun tmps (t, a) => tmps.setIfInBounds t a) tmps := by
    rw [← Array.foldl_toList, Array.toList_zip]
  rw [e1] at hT
  obtain ⟨ex, t', A', ds', h1, hc, hT', hk⟩ := hK.code _ _ _ _ _ _ _ _ _ hT hr
  cases ex with
  | exit id => cases hk
  | ret => cases hk
  | normal =>
    simp only at hk
    split at hk
    case h_2 => cases hk
    rename_i pend₁ tmps₁ params₁ assign₁ body₁ defers₁ hg1
    obtain ⟨ex2, t2, A2, ds2, h2, hc2, hT2, hk2⟩ := hK.code _ _ _ _ _ _ _ _ _ hT' hk
    split at hk2
    case h_2 => cases hk2
    rename_i st2 p2 tmps₂ params₂ assign₂ body₂ defers₂ hg2
    cases ex2 with
    | normal =>
      refine ⟨_, _, ?_, hk2⟩
      simp only [roundA, hg, hsz, if_false, hc, hg1, hc2, hg2]
    | exit id =>
      refine ⟨_, _, ?_, hk2⟩
      simp only [roundA, hg, hsz, if_false, hc, hg1, hc2, hg2]
    | ret =>
      refine ⟨_, _, ?_, hk2⟩
      simp only [roundA, hg, hsz, if_false, hc, hg1, hc2, hg2]

def doA (P : Program) (E : Env) (o : Oper) (A : Array Value) (h : AH) : Option (Value × AH) :=
  match opA P (aeval A) h o with
  | some (.val v h') => some (v, h')
  | some (.skip h') => some (undef, h')
  | some (.enter f args) => E.call f args h
  | some (.round l args) => roundA E l args h
  | none => none

theorem stepVal_do (ops : Array Oper) (o : Oper) (A : Array Value) (h : AH) : stepVal P E ops o A h = match wantedA ops A o with
    | some true => doA P E o A h
    | some false => some (undef, h)
    | none => none := rfl

def kgen (P : Program) (K : KEnv) (o : Oper) (t : TT) (h : AH) (k : Value → AH → KRes) : KRes :=
  match opA P (kev t) h o with
  | some (.val v h') => k v h'
  | some (.skip h') => k undef h'
  | some (.enter f args) => K.call f args.toList h k
  | some (.round l args) => kround K l args h k
  | none => none

def KR.go (P : Program) (K : KEnv) (r : KR) (t : TT) (h : AH) (k : Value → AH → KRes) : KRes :=
  KR.rec (motive := fun _ => KRes)
    (fun f xs => kopt (f (xs.map fun x => x.ev t) h) fun r => k r.1 r.2)
    (fun x => forceV (x.ev t) fun v => k v h)
    (fun f x => kopt (f (x.ev t)) fun v => k v h)
    (fun f x y => kopt (f (x.ev t) (y.ev t)) fun v => k v h)
    (fun f x => kopt (f (x.ev t) h) fun v => k v h)
    (fun f x y => kopt (f (x.ev t) (y.ev t) h) fun h' => k undef h')
    (fun f args => K.call f (args.map fun x => x.ev t) h k)
    (fun o => kgen P K o t h k) r

theorem KR.go_sound {K : KEnv} (hK : KSound K E) {o : Oper} {c : KR} (hc : c.Ok P o) {n : Nat} {t : TT} {A : Array Value} (hT : TR n t A) {h : AH} {k : Value → AH → KRes} {r : Value × AH}
    (hr : c.go P K t h k = some r) : ∃ v h', doA P E o A h = some (v, h') ∧ k v h' = some r := by
  cases c with
  | mk f xs =>
    obtain ⟨as, rfl, ho⟩ := hc
    obtain ⟨r', hv, hk⟩ := kopt_some (hr : kopt (f ((as.map kA).map fun x => x.ev t) h) _ = some r)
    have e : (as.map kA).map (fun x => x.ev t) = as.map (aeval A) := by
      rw [List.map_map]; apply List.map_congr_left; intro x _; exact kA_ev hT x
    rw [e] at hv
    exact ⟨r'.1, r'.2, by simp only [doA, ho, hv]; rfl, hk⟩
  | mv x =>
    obtain ⟨ox, rfl, ho⟩ := hc
    replace hr : forceV ((kA ox).ev t) (fun v => k v h) = some r := hr
    rw [forceV_eq, kA_ev hT] at hr
    exact ⟨aeval A ox, h, by simp only [doA, ho], hr⟩
  | v1 f x =>
    obtain ⟨ox, rfl, ho⟩ := hc
    obtain ⟨v, hv, hk⟩ := kopt_some (hr : kopt (f ((kA ox).ev t)) _ = some r)
    rw [kA_ev hT] at hv
    exact ⟨v, h, by simp only [doA, ho, hv]; rfl, hk⟩
  | v2 f x y =>
    obtain ⟨ox, oy, rfl, rfl, ho⟩ := hc
    obtain ⟨v, hv, hk⟩ := kopt_some (hr : kopt (f ((kA ox).ev t) ((kA oy).ev t)) _ = some r)
    rw [kA_ev hT, kA_ev hT] at hv
    exact ⟨v, h, by simp only [doA, ho, hv]; rfl, hk⟩
  | ld f x =>
    obtain ⟨ox, rfl, ho⟩ := hc
    obtain ⟨v, hv, hk⟩ := kopt_some (hr : kopt (f ((kA ox).ev t) h) _ = some r)
    rw [kA_ev hT] at hv
    exact ⟨v, h, by simp only [doA, ho, hv]; rfl, hk⟩
  | st f x y =>
    obtain ⟨ox, oy, rfl, rfl, ho⟩ := hc
    obtain ⟨h', hv, hk⟩ := kopt_some (hr : kopt (f ((kA ox).ev t) ((kA oy).ev t) h) _ = some r)
    rw [kA_ev hT, kA_ev hT] at hv
    exact ⟨undef, h', by simp only [doA, ho, hv]; rfl, hk⟩
  | call f args =>
    obtain ⟨as, rfl, ho⟩ := hc
    obtain ⟨v, h', hv, hk⟩ := hK.call _ _ _ _ _ (hr : K.call f _ h k = some r)
    refine ⟨v, h', ?_, hk⟩
    have e : (as.map kA).map (fun x => x.ev t) = as.map (aeval A) := by
      rw [List.map_map]; apply List.map_congr_left; intro x _; exact kA_ev hT x
    rw [e] at hv
    simp only [doA, ho, hv]
  | gen o' =>
    obtain rfl : o' = o := hc
    replace hr : kgen P K o' t h k = some r := hr
    unfold kgen at hr
    rw [kev_eq hT] at hr
    split at hr
    · rename_i v h' ho; exact ⟨v, h', by simp only [doA, ho], hr⟩
    · rename_i h' ho; exact ⟨undef, h', by simp only [doA, ho], hr⟩
    · rename_i f args ho
      obtain ⟨v, h', hv, hk⟩ := hK.call _ _ _ _ _ hr
      exact ⟨v, h', by simp only [doA, ho]; exact hv, hk⟩
    · rename_i l args ho
      obtain ⟨v, h', hv, hk⟩ := kround_sound hK hr
      exact ⟨v, h', by simp only [doA, ho, hv], hk⟩
    · cases hr

/-! ### Guards -/
inductive KG where
  | always
  | never
  | on (p : P2) (want : Bool)

structure KO where
  g : KG
  dst : Option P2
  run : KR

def kG (n : Nat) (ops : Array Oper) (o : Oper) : KG :=
  match o.guard with
  | none => .always
  | some (j, want) => match (ops[j]?).bind (·.dst) with
    | none => .never
    | some d => if d < n then .on (path d) want else .never

def kD (n : Nat) (d : Option Tmp) : Option P2 :=
  match d with
  | some d => if d < n then some (path d) else none
  | none => none

def kO (P : Program) (n : Nat) (ops : Array Oper) (o : Oper) : KO := ⟨kG n ops o, kD n o.dst, kR P o⟩

def kgate (v : Value) (want : Bool) (yes no : KRes) : KRes :=
  match v with
  | .bool b => Bool.rec (motive := fun _ => KRes) (Bool.rec (motive := fun _ => KRes) yes no want) (Bool.rec (motive := fun _ => KRes) no yes want) b
  | .tuple cs => if cs.size = 1 then none else no
  | _ => no

def KG.go (g : KG) (t : TT) (yes no : KRes) : KRes := KG.rec (motive := fun _ => KRes) yes no (fun p want => kgate (TT.at t p) want yes no) g

theorem KG.go_sound {n : Nat} {t : TT} {A : Array Value} (hT : TR n t A) {ops : Array Oper} {o : Oper} {yes no : KRes} {r : Value × AH} (hr : (kG n ops o).go t yes no = some r) :
    (wantedA ops A o = some true ∧ yes = some r) ∨ (wantedA ops A o = some false ∧ no = some r) := by
  unfold kG at hr
  unfold wantedA
  split at hr
  · rename_i hg; left; exact ⟨by rw [hg], hr⟩
  · rename_i j want hg
    simp only [hg]
    unfold yieldedA
    split at hr
    · rename_i hd
      right
      rw [hd]
      exact ⟨by cases want <;> rfl, hr⟩
    · rename_i d hd
      rw [hd]
      dsimp only
      split at hr
      · rename_i hlt
        have hA : A[d]? = some (TT.at t (path d)) := by
          have hl := hT.le
          have h1 := hT.get d (Nat.lt_of_lt_of_le hlt hl)
          have h2 : d < A.size := by rw [hT.size]; exact hlt
          rw [h1]
          simp [Array.getD_eq_getD_getElem?, h2]
        rw [hA]
        replace hr : kgate (TT.at t (path d)) want yes no = some r := hr
        generalize TT.at t (path d) = v at hr
        unfold kgate at hr
        split at hr
        · rename_i b
          cases b <;> cases want <;> first | (left; exact ⟨rfl, hr⟩) | (right; exact ⟨rfl, hr⟩)
        · rename_i cs
          split at hr
          · cases hr
          · rename_i hcs
            right
            simp only [hcs, if_false]
            exact ⟨by cases want <;> rfl, hr⟩
        · rename_i h1 h2
          right
          refine ⟨?_, hr⟩
          cases v <;> first | (exact (h1 _ rfl).elim) | (exact (h2 _ rfl).elim) | (cases want <;> rfl)
      · rename_i hlt
        have hA : A[d]? = none := Array.getElem?_eq_none (by rw [hT.size]; exact Nat.le_of_not_lt hlt)
        rw [hA]
        right
        exact ⟨by cases want <;> rfl, hr⟩

def KO.set (o : KO) (t : TT) (v : Value) : TT := Option.rec (motive := fun _ => TT) t (fun p => TT.upd t p v) o.dst
theorem kset_TR {n : Nat} {t : TT} {A : Array Value} (hT : TR n t A) (ops : Array Oper) (o : Oper) (v : Value) : TR n ((kO P n ops o).set t v) (put A o.dst v) := by
  unfold kO KO.set kD AE.put
  cases o.dst with
  | none => exact hT
  | some d =>
    have := hT.put d v
    simp only
    by_cases hd : d < n
    · simp only [hd, if_true] at this ⊢; exact this
    · simp only [hd, if_false] at this ⊢; exact this

/-- A compiled operation, guard and slot in it; what it does is told by closed terms alone, so that the kernel copies little. -/
inductive KD where
  | none
  | at (p : P2)
def KD.set : KD → TT → Value → TT := KD.rec (motive := fun _ => TT → Value → TT) (fun t _ => t) (fun p t v => TT.put p.x t (NV.put p.y (TT.sel p.x t) v))
def kDd (d : Option P2) : KD :=
  match d with
  | some p => .at p
  | none => .none
theorem kDd_set (o : KO) (t : TT) (v : Value) : (kDd o.dst).set t v = o.set t v := by
  obtain ⟨g, d, r⟩ := o
  cases d <;> rfl

inductive KS where
  | mk (f : List Value → AH → Option (Value × AH)) (xs : List KA) (d : KD)
  | mv (x : KA) (d : KD)
  | v1 (f : Value → Option Value) (x : KA) (d : KD)
  | v2 (f : Value → Value → Option Value) (x y : KA) (d : KD)
  | ld (f : Value → AH → Option Value) (x : KA) (d : KD)
  | st (f : Value → Value → AH → Option AH) (x y : KA) (d : KD)
  | call (f : FuncId) (args : List KA) (d : KD)
  | gen (P : Program) (o : KO)

def KS.go : KS → KEnv → TT → AH → (TT → AH → KRes) → KRes :=
  KS.rec (motive := fun _ => KEnv → TT → AH → (TT → AH → KRes) → KRes)
    (fun f xs d _ t h k => kopt (f (xs.map fun x => x.ev t) h) fun r => k (d.set t r.1) r.2)
    (fun x d _ t h k => forceV (x.ev t) fun v => k (d.set t v) h)
    (fun f x d _ t h k => kopt (f (x.ev t)) fun v => k (d.set t v) h)
    (fun f x y d _ t h k => kopt (f (x.ev t) (y.ev t)) fun v => k (d.set t v) h)
    (fun f x d _ t h k => kopt (f (x.ev t) h) fun v => k (d.set t v) h)
    (fun f x y d _ t h k => kopt (f (x.ev t) (y.ev t) h) fun h' => k (d.set t undef) h')
    (fun f args d K t h k => K.call f (args.map fun x => x.ev t) h fun v h' => k (d.set t v) h')
    (fun P o K t h k => o.g.go t (o.run.go P K t h fun v h' => k (o.set t v) h') (k (o.set t undef) h))

def kS (P : Program) (o : KO) : KS :=
  match o.g with
  | .always => match o.run with
    | .mk f xs => .mk f xs (kDd o.dst)
    | .mv x => .mv x (kDd o.dst)
    | .v1 f x => .v1 f x (kDd o.dst)
    | .v2 f x y => .v2 f x y (kDd o.dst)
    | .ld f x => .ld f x (kDd o.dst)
    | .st f x y => .st f x y (kDd o.dst)
    | .call f args => .call f args (kDd o.dst)
    | .gen _ => .gen P o
  | _ => .gen P o

theorem kS_go (o : KO) (K : KEnv) (t : TT) (h : AH) (k : TT → AH → KRes) :
    (kS P o).go K t h k = o.g.go t (o.run.go P K t h fun v h' => k (o.set t v) h') (k (o.set t undef) h) := by
  have e := kDd_set o t
  obtain ⟨g, d, r⟩ := o
  cases g with
  | always =>
    have e' : ∀ v, (kDd d).set t v = KO.set ⟨.always, d, r⟩ t v := e
    cases r with
    | mk f xs => show kopt _ _ = kopt _ _; simp only [e']
    | mv x => show forceV _ _ = forceV _ _; simp only [e']
    | v1 f x => show kopt _ _ = kopt _ _; simp only [e']
    | v2 f x y => show kopt _ _ = kopt _ _; simp only [e']
    | ld f x => show kopt _ _ = kopt _ _; simp only [e']
    | st f x y => show kopt _ _ = kopt _ _; simp only [e']
    | call f args => show K.call _ _ _ _ = K.call _ _ _ _; simp only [e']
    | gen o => rfl
  | _ => rfl

/-- Operations one behind the other. -/
def kl (l : List KS) : KEnv → TT → AH → (TT → AH → KRes) → KRes :=
  List.rec (motive := fun _ => KEnv → TT → AH → (TT → AH → KRes) → KRes) (fun _ t h k => k t h)
    (fun o _ ih K t h k => KS.go o K t h fun t h => ih K t h k) l

def kOS (P : Program) (n : Nat) (ops : Array Oper) (o : Oper) : KS := kS P (kO P n ops o)

theorem kl_step {K : KEnv} (hK : KSound K E) {n : Nat} {ops : Array Oper} {o : Oper} {t : TT} {A : Array Value} (hT : TR n t A) {ds : List Nat} {h : AH} {k : Value → AH → KRes} {r : Value × AH}
    (hr : (kO P n ops o).g.go t ((kO P n ops o).run.go P K t h k) (k undef h) = some r) :
    ∃ v h', stepVal P E ops o A h = some (v, h') ∧ k v h' = some r := by
  rcases KG.go_sound hT hr with ⟨hw, hy⟩ | ⟨hw, hn⟩
  · obtain ⟨v, h', hd, hk⟩ := KR.go_sound hK (kR_ok o) hT hy
    exact ⟨v, h', by rw [stepVal_do, hw]; exact hd, hk⟩
  · exact ⟨undef, h, by rw [stepVal_do, hw], hn⟩

theorem kl_sound {K : KEnv} (hK : KSound K E) {n : Nat} {ops : Array Oper} : ∀ (l : List Oper) {t : TT} {A : Array Value} (_ : TR n t A) {ds : List Nat} {h : AH} {k : TT → AH → KRes} {r : Value × AH},
    kl (l.map (kOS P n ops)) K t h k = some r → ∃ t' A' h', runOps P E ops l ⟨A, ds, h⟩ = some ⟨A', ds, h'⟩ ∧ TR n t' A' ∧ k t' h' = some r
  | [], t, A, hT, ds, h, k, r, hr => ⟨t, A, h, rfl, hT, hr⟩
  | o :: l, t, A, hT, ds, h, k, r, hr => by
    obtain ⟨v, h', hs, hk⟩ := kl_step hK hT (ds := ds) (k := fun v h' => kl (l.map (kOS P n ops)) K ((kO P n ops o).set t v) h' k)
      (by
        have hr' : (kS P (kO P n ops o)).go K t h (fun t h => kl (l.map (kOS P n ops)) K t h k) = some r := hr
        rw [kS_go] at hr'
        exact hr')
    obtain ⟨t', A', h'', hl, hT', hk'⟩ := kl_sound hK l (kset_TR hT ops o v) (ds := ds) hk
    refine ⟨t', A', h'', ?_, hT', hk'⟩
    simp only [runOps, stepOp, hs]
    exact hl

end
end Go.AE
