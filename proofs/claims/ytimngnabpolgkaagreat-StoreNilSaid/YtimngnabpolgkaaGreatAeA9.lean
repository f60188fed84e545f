/-
  AE, part 9: one operation.
-/
import Derived.Test.YtimngnabpolgkaaGreatAeM5
namespace Go.AE
noncomputable section
set_option linter.unusedSimpArgs false
set_option linter.unusedVariables false
variable {P : Program} {ρ : Ren} {h : AH} {w : World}

def aeval (tmps : Array Value) : Operand → Value
  | .tmp t => tmps.getD t undef
  | .const v => if plain v then v else unk
  | .global _ => unk
  | .func f => .func (.func f) #[] #[]

theorem aeval_sim {xs ys : Array Value} {ds : List Deferred} (hv : VS ρ xs ys) (x : Operand) : V ρ (aeval xs x) ((Act.mk ys ds).eval x) := by
  cases x with
  | tmp t => exact hv.getD t
  | const v =>
    simp only [aeval, Act.eval]
    split
    · rename_i hp; exact V.reflP hp
    · exact V.unk _
  | global g => exact V.unk _
  | func f => exact .func _ _ _ _ _ _ (.func f) rfl rfl (fun j hj => by simp at hj) (fun j hj => by simp at hj)

inductive AR where
  | val (v : Value) (h : AH)
  | skip (h : AH)
  | enter (f : FuncId) (args : Array Value)
  | round (l : Nat) (args : Array Value)

def binA (P : Program) (op : BinOp) (t : TypeId) (ox oy : Operand) (x y : Value) : Option Value :=
  if plain x && plain y then (match fastEq P op t x y with
    | some v => some v
    | none => plainOf P (do eqGuard op t ox oy x y; binOp op t x y)) else
  match op with
  | .eql => (eqNil P t x y).map .bool
  | .neq => (eqNil P t x y).map fun b => .bool (!b)
  | _ => none

def lenB (P : Program) (argTypes : Array TypeId) (args : Array Value) (h : AH) : Option Value :=
  match (argTypes[0]? : Option TypeId), (args[0]? : Option Value) with
  | some t, some x =>
    match P.underlying t, x with
    | some .string, .string s => some (goInt s.size)
    | some (.array n _), _ => some (goInt n)
    | some (.slice _), .slice _ n _ => some (goInt n)
    | some (.map _ _), .map none => some (goInt 0)
    | some (.map _ _), .map (some r) =>
      match h.get r with
      | some (.map es _ _) => some (goInt es.size)
      | _ => none
    | _, _ => none
  | _, _ => none

def builtinA (P : Program) (b : Builtin) (argTypes : Array TypeId) (type : TypeId) (args : Array Value) (h : AH) : Option AR :=
  match b with
  | .append => (appendA2 P argTypes args h).map fun r => .val r.1 r.2
  | .copy => (copyA P argTypes args h).map fun r => .val r.1 r.2
  | .len => (lenB P argTypes args h).map fun v => .val v h
  | .min => if args.all plain then (plainOf P (Builtin.min_ argTypes type args)).map fun v => .val v h else none
  | .max => if args.all plain then (plainOf P (Builtin.max_ argTypes type args)).map fun v => .val v h else none
  | .delete => (deleteA P argTypes args h).map fun h' => .val (.tuple #[]) h'
  | _ => none

def callA (P : Program) (e : Operand → Value) (c : Call) (type : TypeId) (h : AH) : Option AR :=
  match c.callee with
  | .builtin b => builtinA P b c.argTypes type (c.args.map e) h
  | .value f =>
    match e f with
    | .func (.func g) first captured =>
      if ((P.funcs[g]?).bind (·.body)).isSome then some (.enter g (first ++ c.args.map e ++ captured))
      else if isClone P g then (cloneA (first ++ c.args.map e ++ captured) h).map fun r => .val r.1 r.2 else none
    | .func (.yield l) first _ => some (.round l (first ++ c.args.map e))
    | _ => none
  | .invoke _ _ => none

def partsA (e : Operand → Value) (ps : Array (Nat × Operand)) : Array (Nat × Value) := ps.map fun (i, x) => (i, e x)

def opA (P : Program) (e : Operand → Value) (h : AH) (o : Oper) : Option AR :=
  match o.op with
  | .move x | .assign x => some (.val (e x) h)
  | .pick c a b => match e c with
    | .bool t => some (.val (if t then e a else e b) h)
    | _ => none
  | .alloc t => (allocA P t h).map fun r => .val r.1 r.2
  | .box t x => (boxA t (e x) h).map fun r => .val r.1 r.2
  | .build t ps => (buildA P t (partsA e ps)).map fun v => .val v h
  | .buildSlice t len ps => (buildSliceA P t len (partsA e ps) h).map fun r => .val r.1 r.2
  | .load t a => match e a with
    | .pointer (some x) => (loadA P t x h).map fun v => .val v h
    | _ => none
  | .store t a x => match e a with
    | .pointer (some p) => (storeA P t p (e x) h).map .skip
    | _ => none
  | .nilCheck x => match e x with
    | .pointer (some a) => some (.val (.pointer (some a)) h)
    | .func (.func f) as cs => some (.val (.func (.func f) as cs) h)
    | _ => none
  | .binOp op t x y _ => (binA P op t x y (e x) (e y)).map fun v => .val v h
  | .unOp op _ x => if plain (e x) then (plainOf P (Op.unary op (e x))).map fun v => .val v h else none
  | .convert s d x => if plain (e x) then (plainOf P (convert s d (e x))).map fun v => .val v h else none
  | .makeInterface t x => match P.underlying t with
    | some (.interface _) => none
    | some _ => some (.val (.iface t (e x)) h)
    | none => none
  | .makeFunc fn first captured => match fn with
    | .yield _ => none
    | fn => some (.val (.func fn (first.map e) (captured.map e)) h)
  | .makeSlice t l c => (makeSliceA P t (e l) (e c) h).map fun r => .val r.1 r.2
  | .slice t x lo hi mx => (sliceA P t (e x) (lo.map e) (hi.map e) (mx.map e) h).map fun v => .val v h
  | .fieldAddr s x f => (fieldAddrA P s (e x) f).map fun v => .val v h
  | .field t x f => (fieldA P t (e x) f).map fun v => .val v h
  | .indexAddr t x i => (indexAddrA P t (e x) (e i)).map fun v => .val v h
  | .index t x i => (indexA P t (e x) (e i)).map fun v => .val v h
  | .extract t i => (extractA (e t) i).map fun v => .val v h
  | .call c => callA P e c o.type h
  | .makeMap _ r => (makeMapA (r.map e) h).map fun r => .val r.1 r.2
  | .lookup t x i ok => (lookupA P t (e x) (e i) ok h).map fun v => .val v h
  | .mapUpdate t m k x => (mapUpdateA P t (e m) (e k) (e x) h).map .skip
  | .insert t m k x => (mapUpdateA P t (e m) (e k) (e x) h).map .skip
  | .typeAssert x _ t ok => (typeAssertA P (e x) t ok).map fun v => .val v h
  | .range t x => (rangeA P t (e x) h).map fun r => .val r.1 r.2
  | .next x s => (nextA (e x) s h).map fun r => .val r.1 r.2
  | .entry x => (entryA (e x) h).map fun v => .val v h
  | _ => none

/-- What the model does where the abstract operation comes to r. -/
def OpSim (P : Program) (ρ : Ren) (w : World) (s : Sem Next) : AR → Prop
  | .val v h' => ∃ ρ' v' w', s.run P w = .ok (.value v') w' ∧ Step ρ w ρ' w' ∧ Rel ρ' h' w'.heap ∧ V ρ' v v'
  | .skip h' => ∃ ρ' w', s.run P w = .ok .skip w' ∧ Step ρ w ρ' w' ∧ Rel ρ' h' w'.heap
  | .enter f args => ∃ args', s.run P w = .ok (.enter f args') w ∧ VS ρ args args'
  | .round l args => ∃ i args', ρ l = some i ∧ VS ρ args args' ∧ s.run P w = (Instr.yield i.b args').run P w

theorem VS.map {e e' : Operand → Value} (he : ∀ x, V ρ (e x) (e' x)) (xs : Array Operand) : VS ρ (xs.map e) (xs.map e') := by
  refine ⟨by simp, fun j hj => ?_⟩
  simp only [Array.size_map] at hj
  simpa [Array.getD, hj] using he xs[j]

theorem VS.append2 {xs ys as bs : Array Value} (h1 : VS ρ xs as) (h2 : VS ρ ys bs) : VS ρ (xs ++ ys) (as ++ bs) := by
  have := VS.append (xs := xs.toList) (ys := ys.toList) (as := as) (bs := bs) h1.tl h2.tl
  rwa [show (xs.toList ++ ys.toList).toArray = xs ++ ys by apply Array.ext'; simp] at this

theorem parts_rel {e e' : Operand → Value} (he : ∀ x, V ρ (e x) (e' x)) (ps : Array (Nat × Operand)) : PartsRel ρ (partsA e ps).toList (partsA e' ps).toList := by
  refine ⟨by simp [partsA], fun j p q hp hq => ?_⟩
  simp only [partsA, Array.toList_map, List.getElem?_map, Option.map_eq_some_iff] at hp hq
  obtain ⟨a, ha, rfl⟩ := hp
  obtain ⟨b, hb, rfl⟩ := hq
  rw [ha] at hb; cases hb
  exact ⟨rfl, he _⟩

theorem opSim_quiet {s : Sem Value} {v : Value} (hR : Rel ρ h w.heap) (hs : ∃ v', s.run P w = .ok v' w ∧ V ρ v v') : OpSim P ρ w (do pure (.value (← s))) (.val v h) := by
  obtain ⟨v', h1, h2⟩ := hs
  exact ⟨ρ, v', w, by simp [h1], Step.refl ρ w, hR, h2⟩

theorem opSim_makes {s : Sem Value} {v : Value} {h' : AH} (hs : Makes P ρ w s v h') : OpSim P ρ w (do pure (.value (← s))) (.val v h') := by
  obtain ⟨ρ', v', w', h1, h2⟩ := hs
  exact ⟨ρ', v', w', by simp [h1], h2⟩

theorem binA_sim {op : BinOp} {t : TypeId} {ox oy : Operand} {x y x' y' v : Value} (hx : V ρ x x') (hy : V ρ y y') (hs : binA P op t ox oy x y = some v) (w : World) :
    ∃ v', (do eqGuard op t ox oy x' y'; binOp op t x' y' : Sem Value).run P w = .ok v' w ∧ V ρ v v' := by
  unfold binA at hs
  split at hs
  · rename_i hp
    simp only [Bool.and_eq_true] at hp
    obtain rfl := hx.plain hp.1
    obtain rfl := hy.plain hp.2
    split at hs
    · rename_i u hu
      cases hs
      obtain ⟨h1, h2⟩ := fastEq_run hu ox oy w
      exact ⟨_, h1, V.reflP h2⟩
    · exact ⟨v, plainOf_sim hs w⟩
  · split at hs
    · cases he : eqNil P t x y with
      | none => rw [he] at hs; cases hs
      | some b =>
        rw [he] at hs; cases hs
        obtain ⟨h1, h2, h3, _⟩ := eqNil_sim hx hy he w .eql ox oy
        exact ⟨.bool b, by simp only [Sem.run_bind, h2, Result.andThen_ok, h3, h1, Sem.run_pure], .bool b⟩
    · cases he : eqNil P t x y with
      | none => rw [he] at hs; cases hs
      | some b =>
        rw [he] at hs; cases hs
        obtain ⟨h1, h2, _, h3⟩ := eqNil_sim hx hy he w .neq ox oy
        exact ⟨.bool (!b), by simp only [Sem.run_bind, h2, Result.andThen_ok, h3, h1, Sem.run_pure], .bool _⟩
    · cases hs

theorem lenB_sim {argTypes : Array TypeId} {ty : TypeId} {args args' : Array Value} {v : Value} (hR : Rel ρ h w.heap) (ha : VS ρ args args') (hs : lenB P argTypes args h = some v) :
    ∃ v', (Builtin.len_ argTypes ty args').run P w = .ok v' w ∧ V ρ v v' := by
  unfold lenB at hs
  split at hs
  · rename_i t x ht hx
    obtain ⟨x', hx', hxv⟩ := getD_some ha hx
    split at hs
    · rename_i s hu
      cases hs; cases hxv
      exact ⟨_, by simp only [Builtin.len_, ht, hx', Sem.run_bind, run_underlying hu, Result.andThen_ok]; rfl, .int _ _⟩
    · rename_i n e hu
      cases hs
      exact ⟨_, by simp only [Builtin.len_, ht, hx', Sem.run_bind, run_underlying hu, Result.andThen_ok]; rfl, .int _ _⟩
    · rename_i e a n c hu
      cases hs
      cases hxv <;> exact ⟨_, by simp only [Builtin.len_, ht, hx', Sem.run_bind, run_underlying hu, Result.andThen_ok]; rfl, .int _ _⟩
    · rename_i e1 e2 hu
      cases hs; cases hxv
      exact ⟨_, by simp only [Builtin.len_, ht, hx', Sem.run_bind, run_underlying hu, Result.andThen_ok]; rfl, .int _ _⟩
    · rename_i e1 e2 r hu
      split at hs
      · rename_i es cl ro hg
        cases hs
        cases hxv with
        | map _ r' i hi hb =>
          obtain ⟨i', X, hi', hX, es', rfl, _, _, hsz, _⟩ := hR.obj _ _ hg
          obtain rfl : i = i' := by rw [hi] at hi'; exact Option.some.inj hi'
          subst hb
          refine ⟨goInt es.size, ?_, .int _ _⟩
          have hgo : (getObj i.b).run P w = .ok (.map es' cl) w := by simp [getObj, Sem.run, hX]
          simp only [Builtin.len_, ht, hx', Sem.run_bind, run_underlying hu, Result.andThen_ok, hgo, hsz]; rfl
      · cases hs
    · cases hs
  · cases hs

theorem all_plain {args args' : Array Value} (ha : VS ρ args args') (hp : args.all plain = true) : args' = args := by
  rw [Array.all_eq_true] at hp
  apply Array.ext
  · exact ha.1.symm
  · intro j h1 h2
    have := (ha.2 j h2).plain (by simpa [Array.getD, h2] using hp j h2)
    simpa [Array.getD, h1, h2] using this

theorem builtinA_sim {b : Builtin} {argTypes : Array TypeId} {ty : TypeId} {cs : Array Bool} {args args' : Array Value} {r : AR} (hR : Rel ρ h w.heap) (ha : VS ρ args args')
    (hs : builtinA P b argTypes ty args h = some r) : OpSim P ρ w (builtin b argTypes ty cs args') r := by
  unfold builtinA at hs
  split at hs
  · obtain ⟨x, hx, rfl⟩ := Option.map_eq_some_iff.1 hs
    exact opSim_makes (appendA2_sim hR ha hx)
  · obtain ⟨x, hx, rfl⟩ := Option.map_eq_some_iff.1 hs
    exact opSim_makes (copyA_sim hR ha hx)
  · obtain ⟨x, hx, rfl⟩ := Option.map_eq_some_iff.1 hs
    exact opSim_quiet hR (lenB_sim hR ha hx)
  · split at hs
    · rename_i hp
      obtain ⟨x, hx, rfl⟩ := Option.map_eq_some_iff.1 hs
      obtain rfl := all_plain ha hp
      exact opSim_quiet hR ⟨x, plainOf_sim hx w⟩
    · cases hs
  · split at hs
    · rename_i hp
      obtain ⟨x, hx, rfl⟩ := Option.map_eq_some_iff.1 hs
      obtain rfl := all_plain ha hp
      exact opSim_quiet hR ⟨x, plainOf_sim hx w⟩
    · cases hs
  · obtain ⟨x, hx, rfl⟩ := Option.map_eq_some_iff.1 hs
    obtain ⟨w', e1, e2, e3⟩ := deleteA_sim (P := P) (ty := ty) hR ha hx
    exact opSim_makes ⟨ρ, .tuple #[], w', e1, e2, e3, V.undef⟩
  · cases hs

/-- No function is the one that counts goroutines. -/
def Quiet (P : Program) : Prop := ∀ (f : Nat) (fn : Func), P.funcs[f]? = some fn → (fn.name == "runtime.NumGoroutine") = false

theorem callA_sim {e e' : Operand → Value} {c : Call} {ty : TypeId} {r : AR} (hq : Quiet P) (he : ∀ x, V ρ (e x) (e' x)) (hR : Rel ρ h w.heap) (hs : callA P e c ty h = some r) :
    OpSim P ρ w (do let d ← resolve e' c ty; invoke d.target d.args) r := by
  unfold callA at hs
  split at hs
  · rename_i b hb
    have h1 : (do let d ← resolve e' c ty; invoke d.target d.args : Sem Next) = builtin b c.argTypes ty (c.args.map fun | .const _ => true | _ => false) (c.args.map e') := by
      simp only [resolve, hb]; rfl
    rw [h1]
    exact builtinA_sim hR (VS.map he _) hs
  · rename_i f hf
    have hv := he f
    split at hs
    · rename_i g first captured hef
      rw [hef] at hv
      generalize hv' : e' f = v' at hv
      split at hs
      · rename_i hb
        cases hs
        cases hfn : P.funcs[g]? with
        | none => rw [hfn] at hb; simp at hb
        | some fn =>
          rw [hfn] at hb
          have hbody : fn.body.isNone = false := by
            cases hbd : fn.body with
            | none => simp [hbd] at hb
            | some body => rfl
          have hname := hq g fn hfn
          cases hv with
          | func _ f' as as' cs cs' hf' hsz hcz k1 k2 =>
            cases hf'
            refine ⟨as' ++ c.args.map e' ++ cs', ?_, (VS.append2 (VS.append2 ⟨hsz, k1⟩ (VS.map he c.args)) ⟨hcz, k2⟩)⟩
            simp only [resolve, hf, hv', Deferred.ofValue, invoke, callFunc, Sem.run_bind, Sem.run_pure, Result.andThen_ok, run_program, hfn, hname, hbody, Bool.false_eq_true, if_false]
      · split at hs
        case isFalse => cases hs
        rename_i hcl
        obtain ⟨x, hx, rfl⟩ := Option.map_eq_some_iff.1 hs
        unfold isClone at hcl
        split at hcl
        case h_2 => cases hcl
        rename_i fn hfn
        simp only [Bool.and_eq_true, beq_iff_eq] at hcl
        have hname := hq g fn hfn
        cases hv with
        | func _ f' as as' cs cs' hf' hsz hcz k1 k2 =>
          cases hf'
          have hvs : VS ρ (first ++ c.args.map e ++ captured) (as' ++ c.args.map e' ++ cs') := VS.append2 (VS.append2 ⟨hsz, k1⟩ (VS.map he c.args)) ⟨hcz, k2⟩
          obtain ⟨ρ', v', w', hr, h2⟩ := cloneA_sim (P := P) hR hvs hx
          refine ⟨ρ', v', w', ?_, h2⟩
          have hrun := run_callFunc_extern hfn hname (by rw [hcl.1.1]) (clone_next hcl.1.2 hcl.2) (clone_find hcl.1.2 hcl.2) (as' ++ c.args.map e' ++ cs') w
          rw [hr] at hrun
          simp only [resolve, hf, hv', Deferred.ofValue, invoke, Sem.run_bind, Sem.run_pure, Result.andThen_ok]
          exact hrun
    · rename_i l first captured hef
      rw [hef] at hv
      generalize hv' : e' f = v' at hv
      cases hs
      cases hv with
      | func _ f' as as' cs cs' hf' hsz hcz k1 k2 =>
        cases hf' with
        | yield _ l' i hi hb =>
          subst hb
          refine ⟨i, as' ++ c.args.map e', hi, VS.append2 ⟨hsz, k1⟩ (VS.map he c.args), ?_⟩
          simp only [resolve, hf, hv', Deferred.ofValue, invoke, Sem.run_bind, Sem.run_pure, Result.andThen_ok]
    · cases hs
  · cases hs

theorem V.pointer_inv {x : Addr} {v : Value} (hv : V ρ (.pointer (some x)) v) : ∃ a, v = .pointer (some a) ∧ ARel ρ x a := by
  cases hv with
  | pointer _ a hA => exact ⟨a, rfl, hA⟩

theorem VO.map {e e' : Operand → Value} (he : ∀ x, V ρ (e x) (e' x)) (x : Option Operand) : VO ρ (x.map e) (x.map e') := by
  cases x with
  | none => trivial
  | some x => exact he x

theorem opA_sim {e e' : Operand → Value} {o : Oper} {r : AR} (hq : Quiet P) (he : ∀ x, V ρ (e x) (e' x)) (hR : Rel ρ h w.heap) (hs : opA P e h o = some r) : OpSim P ρ w (execOp e' o) r := by
  unfold opA at hs
  unfold execOp
  split at hs <;> (rename_i hop; simp only [hop])
  · -- move
    cases hs; exact ⟨ρ, _, w, rfl, Step.refl ρ w, hR, he _⟩
  · cases hs; exact ⟨ρ, _, w, rfl, Step.refl ρ w, hR, he _⟩
  · -- pick
    rename_i c a b
    have hc := he c
    split at hs
    · rename_i t ht
      cases hs
      rw [ht] at hc
      generalize hc' : e' c = vc at hc
      cases hc
      refine ⟨ρ, if t then e' a else e' b, w, ?_, Step.refl ρ w, hR, ?_⟩
      · simp [asBool]
      · cases t
        · exact he b
        · exact he a
    · cases hs
  · obtain ⟨x, hx, rfl⟩ := Option.map_eq_some_iff.1 hs
    exact opSim_makes (allocA_sim hR hx)
  · obtain ⟨x, hx, rfl⟩ := Option.map_eq_some_iff.1 hs
    exact opSim_makes (boxA_sim hR (he _) hx)
  · obtain ⟨x, hx, rfl⟩ := Option.map_eq_some_iff.1 hs
    exact opSim_quiet hR (buildA_sim (parts_rel he _) hx w)
  · obtain ⟨x, hx, rfl⟩ := Option.map_eq_some_iff.1 hs
    exact opSim_makes (buildSliceA_sim hR (parts_rel he _) hx)
  · -- load
    rename_i t a
    have ha := he a
    split at hs
    · rename_i x hx
      obtain ⟨v, hv, rfl⟩ := Option.map_eq_some_iff.1 hs
      rw [hx] at ha
      obtain ⟨b, hb, hA⟩ := ha.pointer_inv
      obtain ⟨v', h1, h2⟩ := loadA_sim (P := P) hR hA hv
      exact opSim_quiet hR ⟨v', by simp [Instr.loadAt, hb, Instr.sureAddr, h1], h2⟩
    · cases hs
  · -- store
    rename_i t a x
    have ha := he a
    split at hs
    · rename_i p hp
      obtain ⟨h1, hh, rfl⟩ := Option.map_eq_some_iff.1 hs
      rw [hp] at ha
      obtain ⟨b, hb, hA⟩ := ha.pointer_inv
      obtain ⟨w', e1, e2, e3⟩ := storeA_sim (P := P) hR hA (he x) hh
      exact ⟨ρ, w', by simp [Instr.storeAt, hb, Instr.sureAddr, e1], e2, e3⟩
    · cases hs
  · -- nilCheck
    rename_i x
    have hx := he x
    split at hs
    · rename_i a ha
      cases hs
      rw [ha] at hx
      obtain ⟨b, hb, hA⟩ := hx.pointer_inv
      exact ⟨ρ, .pointer (some b), w, by simp [hb], Step.refl ρ w, hR, .pointer _ _ hA⟩
    · rename_i f as cs hf
      cases hs
      rw [hf] at hx
      generalize hx' : e' x = vx at hx
      cases hx with
      | func _ f' _ as' _ cs' hf' hsz hcz k1 k2 =>
        cases hf'
        exact ⟨ρ, _, w, rfl, Step.refl ρ w, hR, .func _ _ _ _ _ _ (.func f) hsz hcz k1 k2⟩
    · cases hs
  · obtain ⟨x, hx, rfl⟩ := Option.map_eq_some_iff.1 hs
    exact opSim_quiet hR (binA_sim (he _) (he _) hx w)
  · rename_i x
    split at hs
    · rename_i hp
      obtain ⟨v, hv, rfl⟩ := Option.map_eq_some_iff.1 hs
      rw [(he x).plain hp]
      exact opSim_quiet hR ⟨v, plainOf_sim hv w⟩
    · cases hs
  · rename_i x
    split at hs
    · rename_i hp
      obtain ⟨v, hv, rfl⟩ := Option.map_eq_some_iff.1 hs
      rw [(he x).plain hp]
      exact opSim_quiet hR ⟨v, plainOf_sim hv w⟩
    · cases hs
  · -- makeInterface
    rename_i t x
    split at hs
    · cases hs
    · rename_i d hne hu
      cases hs
      refine opSim_quiet hR ⟨.iface t (e' x), ?_, .iface _ _ _ (he x)⟩
      simp only [Instr.makeInterface, Sem.run_bind, run_underlying hu, Result.andThen_ok]
      cases d <;> first | rfl | exact (hne _ rfl).elim
    · cases hs
  · -- makeFunc
    rename_i fn first captured
    split at hs
    · cases hs
    · rename_i hne
      cases hs
      have h1 := VS.map he first
      have h2 := VS.map he captured
      have hf : FnRel ρ fn fn := by
        cases fn with
        | func f => exact .func f
        | method s => exact .method s
        | methodOf t s => exact .methodOf t s
        | via t p f b => exact .via t p f b
        | yield l => exact (hne l rfl).elim
      exact ⟨ρ, .func fn (first.map e') (captured.map e'), w, rfl, Step.refl ρ w, hR, .func _ _ _ _ _ _ hf h1.1 h2.1 h1.2 h2.2⟩
  · obtain ⟨x, hx, rfl⟩ := Option.map_eq_some_iff.1 hs
    exact opSim_makes (makeSliceA_sim hR (he _) (he _) hx)
  · obtain ⟨x, hx, rfl⟩ := Option.map_eq_some_iff.1 hs
    exact opSim_quiet hR (sliceA_sim hR (he _) (VO.map he _) (VO.map he _) (VO.map he _) hx)
  · obtain ⟨x, hx, rfl⟩ := Option.map_eq_some_iff.1 hs
    exact opSim_quiet hR (fieldAddrA_sim (he _) hx w)
  · obtain ⟨x, hx, rfl⟩ := Option.map_eq_some_iff.1 hs
    exact opSim_quiet hR (fieldA_sim (he _) hx w)
  · obtain ⟨x, hx, rfl⟩ := Option.map_eq_some_iff.1 hs
    exact opSim_quiet hR (indexAddrA_sim (he _) (he _) hx w)
  · obtain ⟨x, hx, rfl⟩ := Option.map_eq_some_iff.1 hs
    exact opSim_quiet hR (indexA_sim (he _) (he _) hx w)
  · obtain ⟨x, hx, rfl⟩ := Option.map_eq_some_iff.1 hs
    exact opSim_quiet hR (extractA_sim (he _) hx w)
  · exact callA_sim hq he hR hs
  · obtain ⟨x, hx, rfl⟩ := Option.map_eq_some_iff.1 hs
    exact opSim_makes (makeMapA_sim hR (VO.map he _) hx)
  · obtain ⟨x, hx, rfl⟩ := Option.map_eq_some_iff.1 hs
    exact opSim_quiet hR (lookupA_sim hR (he _) (he _) hx)
  · obtain ⟨hh, hx, rfl⟩ := Option.map_eq_some_iff.1 hs
    obtain ⟨w', e1, e2, e3⟩ := mapUpdateA_sim (P := P) hR (he _) (he _) (he _) hx
    exact ⟨ρ, w', by simp [e1], e2, e3⟩
  · obtain ⟨hh, hx, rfl⟩ := Option.map_eq_some_iff.1 hs
    obtain ⟨w', e1, e2, e3⟩ := mapUpdateA_sim (P := P) hR (he _) (he _) (he _) hx
    exact ⟨ρ, w', by simp [e1], e2, e3⟩
  · obtain ⟨x, hx, rfl⟩ := Option.map_eq_some_iff.1 hs
    exact opSim_quiet hR (typeAssertA_sim (he _) hx w)
  · obtain ⟨x, hx, rfl⟩ := Option.map_eq_some_iff.1 hs
    exact opSim_makes (rangeA_sim hR (he _) hx)
  · obtain ⟨x, hx, rfl⟩ := Option.map_eq_some_iff.1 hs
    exact opSim_makes (nextA_sim hR (he _) hx)
  · obtain ⟨x, hx, rfl⟩ := Option.map_eq_some_iff.1 hs
    exact opSim_quiet hR (entryA_sim hR (he _) hx)
  · cases hs

end
end Go.AE
