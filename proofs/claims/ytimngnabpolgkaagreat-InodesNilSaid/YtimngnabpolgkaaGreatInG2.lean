/-
  Texts joined: AeA9, AeF1, AeF2, AeB1, AeB2, AeB3, AeB4, AeB5, AeB6, AeB7, AeB8, AeC1, AeC2.
-/
import Derived.Test.YtimngnabpolgkaaGreatInG1
import Derived.OrdersIn
import Derived.RangeFuncLeaves
import Derived.RangeFuncCalls
namespace Go.AE
noncomputable section
set_option linter.unusedSimpArgs false
set_option linter.unusedVariables false
variable {P : Program} {ρ : Ren} {h : AH} {w : World}

def aeval (tmps : Array Value) : Operand → Value
  | .tmp t => tmps.getD t undef
  | .const v => if plain v then v else unk
  | .global _ => unk
  | .func f => .func (.func f) #[] #[]

theorem aeval_sim {xs ys : Array Value} {ds : List Deferred} (hv : VS ρ xs ys) (x : Operand) : V ρ (aeval xs x) ((Act.mk ys ds).eval x) := by
  cases x with
  | tmp t => exact hv.getD t
  | const v =>
    simp only [aeval, Act.eval]
    split
    · rename_i hp; exact V.reflP hp
    · exact V.unk _
  | global g => exact V.unk _
  | func f => exact .func _ _ _ _ _ _ (.func f) rfl rfl (fun j hj => by simp at hj) (fun j hj => by simp at hj)

inductive AR where
  | val (v : Value) (h : AH)
  | skip (h : AH)
  | enter (f : FuncId) (args : Array Value)
  | round (l : Nat) (args : Array Value)

def binA (P : Program) (op : BinOp) (t : TypeId) (ox oy : Operand) (x y : Value) : Option Value :=
  if plain x && plain y then (match fastEq P op t x y with
    | some v => some v
    | none => plainOf P (do eqGuard op t ox oy x y; binOp op t x y)) else
  match op with
  | .eql => (eqNil P t x y).map .bool
  | .neq => (eqNil P t x y).map fun b => .bool (!b)
  | _ => none

def lenB (P : Program) (argTypes : Array TypeId) (args : Array Value) (h : AH) : Option Value :=
  match (argTypes[0]? : Option TypeId), (args[0]? : Option Value) with
  | some t, some x =>
    match P.underlying t, x with
    | some .string, .string s => some (goInt s.size)
    | some (.array n _), _ => some (goInt n)
    | some (.slice _), .slice _ n _ => some (goInt n)
    | some (.map _ _), .map none => some (goInt 0)
    | some (.map _ _), .map (some r) =>
      match h.get r with
      | some (.map es _ _) => some (goInt es.size)
      | _ => none
    | _, _ => none
  | _, _ => none

def builtinA (P : Program) (b : Builtin) (argTypes : Array TypeId) (type : TypeId) (args : Array Value) (h : AH) : Option AR :=
  match b with
  | .append => (appendA2 P argTypes args h).map fun r => .val r.1 r.2
  | .copy => (copyA P argTypes args h).map fun r => .val r.1 r.2
  | .len => (lenB P argTypes args h).map fun v => .val v h
  | .min => if args.all plain then (plainOf P (Builtin.min_ argTypes type args)).map fun v => .val v h else none
  | .max => if args.all plain then (plainOf P (Builtin.max_ argTypes type args)).map fun v => .val v h else none
  | .delete => (deleteA P argTypes args h).map fun h' => .val (.tuple #[]) h'
  | _ => none

def callA (P : Program) (e : Operand → Value) (c : Call) (type : TypeId) (h : AH) : Option AR :=
  match c.callee with
  | .builtin b => builtinA P b c.argTypes type (c.args.map e) h
  | .value f =>
    match e f with
    | .func (.func g) first captured =>
      if ((P.funcs[g]?).bind (·.body)).isSome then some (.enter g (first ++ c.args.map e ++ captured))
      else (externA P g (first ++ c.args.map e ++ captured) h).map fun r => .val r.1 r.2
    | .func (.yield l) first _ => some (.round l (first ++ c.args.map e))
    | _ => none
  | .invoke _ _ => none

def partsA (e : Operand → Value) (ps : Array (Nat × Operand)) : Array (Nat × Value) := ps.map fun (i, x) => (i, e x)

def opA (P : Program) (e : Operand → Value) (h : AH) (o : Oper) : Option AR :=
  match o.op with
  | .move x | .assign x => some (.val (e x) h)
  | .pick c a b => match e c with
    | .bool t => some (.val (if t then e a else e b) h)
    | _ => none
  | .alloc t => (allocA P t h).map fun r => .val r.1 r.2
  | .box t x => (boxA t (e x) h).map fun r => .val r.1 r.2
  | .build t ps => (buildA P t (partsA e ps)).map fun v => .val v h
  | .buildSlice t len ps => (buildSliceA P t len (partsA e ps) h).map fun r => .val r.1 r.2
  | .load t a => match e a with
    | .pointer (some x) => (loadA P t x h).map fun v => .val v h
    | _ => none
  | .store t a x => match e a with
    | .pointer (some p) => (storeA P t p (e x) h).map .skip
    | _ => none
  | .nilCheck x => match e x with
    | .pointer (some a) => some (.val (.pointer (some a)) h)
    | .func (.func f) as cs => some (.val (.func (.func f) as cs) h)
    | _ => none
  | .binOp op t x y _ => (binA P op t x y (e x) (e y)).map fun v => .val v h
  | .unOp op _ x => if plain (e x) then (plainOf P (Op.unary op (e x))).map fun v => .val v h else none
  | .convert s d x => if plain (e x) then (plainOf P (convert s d (e x))).map fun v => .val v h else none
  | .makeInterface t x => match P.underlying t with
    | some (.interface _) => none
    | some _ => some (.val (.iface t (e x)) h)
    | none => none
  | .makeFunc fn first captured => match fn with
    | .yield _ => none
    | fn => some (.val (.func fn (first.map e) (captured.map e)) h)
  | .makeSlice t l c => (makeSliceA P t (e l) (e c) h).map fun r => .val r.1 r.2
  | .slice t x lo hi mx => (sliceA P t (e x) (lo.map e) (hi.map e) (mx.map e) h).map fun v => .val v h
  | .fieldAddr s x f => (fieldAddrA P s (e x) f).map fun v => .val v h
  | .field t x f => (fieldA P t (e x) f).map fun v => .val v h
  | .indexAddr t x i => (indexAddrA P t (e x) (e i)).map fun v => .val v h
  | .index t x i => (indexA P t (e x) (e i)).map fun v => .val v h
  | .extract t i => (extractA (e t) i).map fun v => .val v h
  | .call c => callA P e c o.type h
  | .makeMap _ r => (makeMapA (r.map e) h).map fun r => .val r.1 r.2
  | .lookup t x i ok => (lookupA P t (e x) (e i) ok h).map fun v => .val v h
  | .mapUpdate t m k x => (mapUpdateA P t (e m) (e k) (e x) h).map .skip
  | .insert t m k x => (mapUpdateA P t (e m) (e k) (e x) h).map .skip
  | .typeAssert x _ t ok => (typeAssertA P (e x) t ok).map fun v => .val v h
  | .range t x => (rangeM P t (e x) h).map fun r => .val r.1 r.2
  | .next x s => (nextM (e x) s h).map fun r => .val r.1 r.2
  | .sliceToArrayPointer t x => (arrayAtA P t (e x)).map fun v => .val v h
  | .entry x => (entryA (e x) h).map fun v => .val v h
  | _ => none

/-- What the model does where the abstract operation comes to r. -/
def OpSim (P : Program) (ρ : Ren) (w : World) (s : Sem Next) : AR → Prop
  | .val v h' => ∃ ρ' v' w', s.run P w = .ok (.value v') w' ∧ Step ρ w ρ' w' ∧ Rel ρ' h' w'.heap ∧ V ρ' v v'
  | .skip h' => ∃ ρ' w', s.run P w = .ok .skip w' ∧ Step ρ w ρ' w' ∧ Rel ρ' h' w'.heap
  | .enter f args => ∃ args', s.run P w = .ok (.enter f args') w ∧ VS ρ args args'
  | .round l args => ∃ i args', ρ l = some i ∧ VS ρ args args' ∧ s.run P w = (Instr.yield i.b args').run P w

theorem VS.map {e e' : Operand → Value} (he : ∀ x, V ρ (e x) (e' x)) (xs : Array Operand) : VS ρ (xs.map e) (xs.map e') := by
  refine ⟨by simp, fun j hj => ?_⟩
  simp only [Array.size_map] at hj
  simpa [Array.getD, hj] using he xs[j]

theorem VS.append2 {xs ys as bs : Array Value} (h1 : VS ρ xs as) (h2 : VS ρ ys bs) : VS ρ (xs ++ ys) (as ++ bs) := by
  have := VS.append (xs := xs.toList) (ys := ys.toList) (as := as) (bs := bs) h1.tl h2.tl
  rwa [show (xs.toList ++ ys.toList).toArray = xs ++ ys by apply Array.ext'; simp] at this

theorem parts_rel {e e' : Operand → Value} (he : ∀ x, V ρ (e x) (e' x)) (ps : Array (Nat × Operand)) : PartsRel ρ (partsA e ps).toList (partsA e' ps).toList := by
  refine ⟨by simp [partsA], fun j p q hp hq => ?_⟩
  simp only [partsA, Array.toList_map, List.getElem?_map, Option.map_eq_some_iff] at hp hq
  obtain ⟨a, ha, rfl⟩ := hp
  obtain ⟨b, hb, rfl⟩ := hq
  rw [ha] at hb; cases hb
  exact ⟨rfl, he _⟩

theorem opSim_quiet {s : Sem Value} {v : Value} (hR : Rel ρ h w.heap) (hs : ∃ v', s.run P w = .ok v' w ∧ V ρ v v') : OpSim P ρ w (do pure (.value (← s))) (.val v h) := by
  obtain ⟨v', h1, h2⟩ := hs
  exact ⟨ρ, v', w, by simp [h1], Step.refl ρ w, hR, h2⟩

theorem opSim_makes {s : Sem Value} {v : Value} {h' : AH} (hs : Makes P ρ w s v h') : OpSim P ρ w (do pure (.value (← s))) (.val v h') := by
  obtain ⟨ρ', v', w', h1, h2⟩ := hs
  exact ⟨ρ', v', w', by simp [h1], h2⟩

theorem binA_sim {op : BinOp} {t : TypeId} {ox oy : Operand} {x y x' y' v : Value} (hx : V ρ x x') (hy : V ρ y y') (hs : binA P op t ox oy x y = some v) (w : World) :
    ∃ v', (do eqGuard op t ox oy x' y'; binOp op t x' y' : Sem Value).run P w = .ok v' w ∧ V ρ v v' := by
  unfold binA at hs
  split at hs
  · rename_i hp
    simp only [Bool.and_eq_true] at hp
    obtain rfl := hx.plain hp.1
    obtain rfl := hy.plain hp.2
    split at hs
    · rename_i u hu
      cases hs
      obtain ⟨h1, h2⟩ := fastEq_run hu ox oy w
      exact ⟨_, h1, V.reflP h2⟩
    · exact ⟨v, plainOf_sim hs w⟩
  · split at hs
    · cases he : eqNil P t x y with
      | none => rw [he] at hs; cases hs
      | some b =>
        rw [he] at hs; cases hs
        obtain ⟨h1, h2, h3, _⟩ := eqNil_sim hx hy he w .eql ox oy
        exact ⟨.bool b, by simp only [Sem.run_bind, h2, Result.andThen_ok, h3, h1, Sem.run_pure], .bool b⟩
    · cases he : eqNil P t x y with
      | none => rw [he] at hs; cases hs
      | some b =>
        rw [he] at hs; cases hs
        obtain ⟨h1, h2, _, h3⟩ := eqNil_sim hx hy he w .neq ox oy
        exact ⟨.bool (!b), by simp only [Sem.run_bind, h2, Result.andThen_ok, h3, h1, Sem.run_pure], .bool _⟩
    · cases hs

theorem lenB_sim {argTypes : Array TypeId} {ty : TypeId} {args args' : Array Value} {v : Value} (hR : Rel ρ h w.heap) (ha : VS ρ args args') (hs : lenB P argTypes args h = some v) :
    ∃ v', (Builtin.len_ argTypes ty args').run P w = .ok v' w ∧ V ρ v v' := by
  unfold lenB at hs
  split at hs
  · rename_i t x ht hx
    obtain ⟨x', hx', hxv⟩ := getD_some ha hx
    split at hs
    · rename_i s hu
      cases hs; cases hxv
      exact ⟨_, by simp only [Builtin.len_, ht, hx', Sem.run_bind, run_underlying hu, Result.andThen_ok]; rfl, .int _ _⟩
    · rename_i n e hu
      cases hs
      exact ⟨_, by simp only [Builtin.len_, ht, hx', Sem.run_bind, run_underlying hu, Result.andThen_ok]; rfl, .int _ _⟩
    · rename_i e a n c hu
      cases hs
      cases hxv <;> exact ⟨_, by simp only [Builtin.len_, ht, hx', Sem.run_bind, run_underlying hu, Result.andThen_ok]; rfl, .int _ _⟩
    · rename_i e1 e2 hu
      cases hs; cases hxv
      exact ⟨_, by simp only [Builtin.len_, ht, hx', Sem.run_bind, run_underlying hu, Result.andThen_ok]; rfl, .int _ _⟩
    · rename_i e1 e2 r hu
      split at hs
      · rename_i es cl ro hg
        cases hs
        cases hxv with
        | map _ r' i hi hb =>
          obtain ⟨i', X, hi', hX, es', rfl, _, _, hsz, _⟩ := hR.obj _ _ hg
          obtain rfl : i = i' := by rw [hi] at hi'; exact Option.some.inj hi'
          subst hb
          refine ⟨goInt es.size, ?_, .int _ _⟩
          have hgo : (getObj i.b).run P w = .ok (.map es' cl) w := by simp [getObj, Sem.run, hX]
          simp only [Builtin.len_, ht, hx', Sem.run_bind, run_underlying hu, Result.andThen_ok, hgo, hsz]; rfl
      · cases hs
    · cases hs
  · cases hs

theorem all_plain {args args' : Array Value} (ha : VS ρ args args') (hp : args.all plain = true) : args' = args := by
  rw [Array.all_eq_true] at hp
  apply Array.ext
  · exact ha.1.symm
  · intro j h1 h2
    have := (ha.2 j h2).plain (by simpa [Array.getD, h2] using hp j h2)
    simpa [Array.getD, h1, h2] using this

theorem builtinA_sim {b : Builtin} {argTypes : Array TypeId} {ty : TypeId} {cs : Array Bool} {args args' : Array Value} {r : AR} (hR : Rel ρ h w.heap) (ha : VS ρ args args')
    (hs : builtinA P b argTypes ty args h = some r) : OpSim P ρ w (builtin b argTypes ty cs args') r := by
  unfold builtinA at hs
  split at hs
  · obtain ⟨x, hx, rfl⟩ := Option.map_eq_some_iff.1 hs
    exact opSim_makes (appendA2_sim hR ha hx)
  · obtain ⟨x, hx, rfl⟩ := Option.map_eq_some_iff.1 hs
    exact opSim_makes (copyA_sim hR ha hx)
  · obtain ⟨x, hx, rfl⟩ := Option.map_eq_some_iff.1 hs
    exact opSim_quiet hR (lenB_sim hR ha hx)
  · split at hs
    · rename_i hp
      obtain ⟨x, hx, rfl⟩ := Option.map_eq_some_iff.1 hs
      obtain rfl := all_plain ha hp
      exact opSim_quiet hR ⟨x, plainOf_sim hx w⟩
    · cases hs
  · split at hs
    · rename_i hp
      obtain ⟨x, hx, rfl⟩ := Option.map_eq_some_iff.1 hs
      obtain rfl := all_plain ha hp
      exact opSim_quiet hR ⟨x, plainOf_sim hx w⟩
    · cases hs
  · obtain ⟨x, hx, rfl⟩ := Option.map_eq_some_iff.1 hs
    obtain ⟨w', e1, e2, e3⟩ := deleteA_sim (P := P) (ty := ty) hR ha hx
    exact opSim_makes ⟨ρ, .tuple #[], w', e1, e2, e3, V.undef⟩
  · cases hs

/-- No function is the one that counts goroutines. -/
def Quiet (P : Program) : Prop := ∀ (f : Nat) (fn : Func), P.funcs[f]? = some fn → (fn.name == "runtime.NumGoroutine") = false

theorem callA_sim {e e' : Operand → Value} {c : Call} {ty : TypeId} {r : AR} (hq : Quiet P) (he : ∀ x, V ρ (e x) (e' x)) (hR : Rel ρ h w.heap) (hs : callA P e c ty h = some r) :
    OpSim P ρ w (do let d ← resolve e' c ty; invoke d.target d.args) r := by
  unfold callA at hs
  split at hs
  · rename_i b hb
    have h1 : (do let d ← resolve e' c ty; invoke d.target d.args : Sem Next) = builtin b c.argTypes ty (c.args.map fun | .const _ => true | _ => false) (c.args.map e') := by
      simp only [resolve, hb]; rfl
    rw [h1]
    exact builtinA_sim hR (VS.map he _) hs
  · rename_i f hf
    have hv := he f
    split at hs
    · rename_i g first captured hef
      rw [hef] at hv
      generalize hv' : e' f = v' at hv
      split at hs
      · rename_i hb
        cases hs
        cases hfn : P.funcs[g]? with
        | none => rw [hfn] at hb; simp at hb
        | some fn =>
          rw [hfn] at hb
          have hbody : fn.body.isNone = false := by
            cases hbd : fn.body with
            | none => simp [hbd] at hb
            | some body => rfl
          have hname := hq g fn hfn
          cases hv with
          | func _ f' as as' cs cs' hf' hsz hcz k1 k2 =>
            cases hf'
            refine ⟨as' ++ c.args.map e' ++ cs', ?_, (VS.append2 (VS.append2 ⟨hsz, k1⟩ (VS.map he c.args)) ⟨hcz, k2⟩)⟩
            simp only [resolve, hf, hv', Deferred.ofValue, invoke, callFunc, Sem.run_bind, Sem.run_pure, Result.andThen_ok, run_program, hfn, hname, hbody, Bool.false_eq_true, if_false]
      · obtain ⟨x, hx, rfl⟩ := Option.map_eq_some_iff.1 hs
        cases hv with
        | func _ f' as as' cs cs' hf' hsz hcz k1 k2 =>
          cases hf'
          have hvs : VS ρ (first ++ c.args.map e ++ captured) (as' ++ c.args.map e' ++ cs') := VS.append2 (VS.append2 ⟨hsz, k1⟩ (VS.map he c.args)) ⟨hcz, k2⟩
          obtain ⟨ρ', v', w', hr, h2⟩ := externA_sim (P := P) (hq g) hR hvs hx
          refine ⟨ρ', v', w', ?_, h2⟩
          simp only [resolve, hf, hv', Deferred.ofValue, invoke, Sem.run_bind, Sem.run_pure, Result.andThen_ok]
          exact hr
    · rename_i l first captured hef
      rw [hef] at hv
      generalize hv' : e' f = v' at hv
      cases hs
      cases hv with
      | func _ f' as as' cs cs' hf' hsz hcz k1 k2 =>
        cases hf' with
        | yield _ l' i hi hb =>
          subst hb
          refine ⟨i, as' ++ c.args.map e', hi, VS.append2 ⟨hsz, k1⟩ (VS.map he c.args), ?_⟩
          simp only [resolve, hf, hv', Deferred.ofValue, invoke, Sem.run_bind, Sem.run_pure, Result.andThen_ok]
    · cases hs
  · cases hs

theorem V.pointer_inv {x : Addr} {v : Value} (hv : V ρ (.pointer (some x)) v) : ∃ a, v = .pointer (some a) ∧ ARel ρ x a := by
  cases hv with
  | pointer _ a hA => exact ⟨a, rfl, hA⟩

theorem VO.map {e e' : Operand → Value} (he : ∀ x, V ρ (e x) (e' x)) (x : Option Operand) : VO ρ (x.map e) (x.map e') := by
  cases x with
  | none => trivial
  | some x => exact he x

theorem opA_sim {e e' : Operand → Value} {o : Oper} {r : AR} (hq : Quiet P) (he : ∀ x, V ρ (e x) (e' x)) (hR : Rel ρ h w.heap) (hs : opA P e h o = some r) : OpSim P ρ w (execOp e' o) r := by
  unfold opA at hs
  unfold execOp
  split at hs <;> (rename_i hop; simp only [hop])
  · -- move
    cases hs; exact ⟨ρ, _, w, rfl, Step.refl ρ w, hR, he _⟩
  · cases hs; exact ⟨ρ, _, w, rfl, Step.refl ρ w, hR, he _⟩
  · -- pick
    rename_i c a b
    have hc := he c
    split at hs
    · rename_i t ht
      cases hs
      rw [ht] at hc
      generalize hc' : e' c = vc at hc
      cases hc
      refine ⟨ρ, if t then e' a else e' b, w, ?_, Step.refl ρ w, hR, ?_⟩
      · simp [asBool]
      · cases t
        · exact he b
        · exact he a
    · cases hs
  · obtain ⟨x, hx, rfl⟩ := Option.map_eq_some_iff.1 hs
    exact opSim_makes (allocA_sim hR hx)
  · obtain ⟨x, hx, rfl⟩ := Option.map_eq_some_iff.1 hs
    exact opSim_makes (boxA_sim hR (he _) hx)
  · obtain ⟨x, hx, rfl⟩ := Option.map_eq_some_iff.1 hs
    exact opSim_quiet hR (buildA_sim (parts_rel he _) hx w)
  · obtain ⟨x, hx, rfl⟩ := Option.map_eq_some_iff.1 hs
    exact opSim_makes (buildSliceA_sim hR (parts_rel he _) hx)
  · -- load
    rename_i t a
    have ha := he a
    split at hs
    · rename_i x hx
      obtain ⟨v, hv, rfl⟩ := Option.map_eq_some_iff.1 hs
      rw [hx] at ha
      obtain ⟨b, hb, hA⟩ := ha.pointer_inv
      obtain ⟨v', h1, h2⟩ := loadA_sim (P := P) hR hA hv
      exact opSim_quiet hR ⟨v', by simp [Instr.loadAt, hb, Instr.sureAddr, h1], h2⟩
    · cases hs
  · -- store
    rename_i t a x
    have ha := he a
    split at hs
    · rename_i p hp
      obtain ⟨h1, hh, rfl⟩ := Option.map_eq_some_iff.1 hs
      rw [hp] at ha
      obtain ⟨b, hb, hA⟩ := ha.pointer_inv
      obtain ⟨w', e1, e2, e3⟩ := storeA_sim (P := P) hR hA (he x) hh
      exact ⟨ρ, w', by simp [Instr.storeAt, hb, Instr.sureAddr, e1], e2, e3⟩
    · cases hs
  · -- nilCheck
    rename_i x
    have hx := he x
    split at hs
    · rename_i a ha
      cases hs
      rw [ha] at hx
      obtain ⟨b, hb, hA⟩ := hx.pointer_inv
      exact ⟨ρ, .pointer (some b), w, by simp [hb], Step.refl ρ w, hR, .pointer _ _ hA⟩
    · rename_i f as cs hf
      cases hs
      rw [hf] at hx
      generalize hx' : e' x = vx at hx
      cases hx with
      | func _ f' _ as' _ cs' hf' hsz hcz k1 k2 =>
        cases hf'
        exact ⟨ρ, _, w, rfl, Step.refl ρ w, hR, .func _ _ _ _ _ _ (.func f) hsz hcz k1 k2⟩
    · cases hs
  · obtain ⟨x, hx, rfl⟩ := Option.map_eq_some_iff.1 hs
    exact opSim_quiet hR (binA_sim (he _) (he _) hx w)
  · rename_i x
    split at hs
    · rename_i hp
      obtain ⟨v, hv, rfl⟩ := Option.map_eq_some_iff.1 hs
      rw [(he x).plain hp]
      exact opSim_quiet hR ⟨v, plainOf_sim hv w⟩
    · cases hs
  · rename_i x
    split at hs
    · rename_i hp
      obtain ⟨v, hv, rfl⟩ := Option.map_eq_some_iff.1 hs
      rw [(he x).plain hp]
      exact opSim_quiet hR ⟨v, plainOf_sim hv w⟩
    · cases hs
  · -- makeInterface
    rename_i t x
    split at hs
    · cases hs
    · rename_i d hne hu
      cases hs
      refine opSim_quiet hR ⟨.iface t (e' x), ?_, .iface _ _ _ (he x)⟩
      simp only [Instr.makeInterface, Sem.run_bind, run_underlying hu, Result.andThen_ok]
      cases d <;> first | rfl | exact (hne _ rfl).elim
    · cases hs
  · -- makeFunc
    rename_i fn first captured
    split at hs
    · cases hs
    · rename_i hne
      cases hs
      have h1 := VS.map he first
      have h2 := VS.map he captured
      have hf : FnRel ρ fn fn := by
        cases fn with
        | func f => exact .func f
        | method s => exact .method s
        | methodOf t s => exact .methodOf t s
        | via t p f b => exact .via t p f b
        | yield l => exact (hne l rfl).elim
      exact ⟨ρ, .func fn (first.map e') (captured.map e'), w, rfl, Step.refl ρ w, hR, .func _ _ _ _ _ _ hf h1.1 h2.1 h1.2 h2.2⟩
  · obtain ⟨x, hx, rfl⟩ := Option.map_eq_some_iff.1 hs
    exact opSim_makes (makeSliceA_sim hR (he _) (he _) hx)
  · obtain ⟨x, hx, rfl⟩ := Option.map_eq_some_iff.1 hs
    exact opSim_quiet hR (sliceA_sim hR (he _) (VO.map he _) (VO.map he _) (VO.map he _) hx)
  · obtain ⟨x, hx, rfl⟩ := Option.map_eq_some_iff.1 hs
    exact opSim_quiet hR (fieldAddrA_sim (he _) hx w)
  · obtain ⟨x, hx, rfl⟩ := Option.map_eq_some_iff.1 hs
    exact opSim_quiet hR (fieldA_sim (he _) hx w)
  · obtain ⟨x, hx, rfl⟩ := Option.map_eq_some_iff.1 hs
    exact opSim_quiet hR (indexAddrA_sim (he _) (he _) hx w)
  · obtain ⟨x, hx, rfl⟩ := Option.map_eq_some_iff.1 hs
    exact opSim_quiet hR (indexA_sim (he _) (he _) hx w)
  · obtain ⟨x, hx, rfl⟩ := Option.map_eq_some_iff.1 hs
    exact opSim_quiet hR (extractA_sim (he _) hx w)
  · exact callA_sim hq he hR hs
  · obtain ⟨x, hx, rfl⟩ := Option.map_eq_some_iff.1 hs
    exact opSim_makes (makeMapA_sim hR (VO.map he _) hx)
  · obtain ⟨x, hx, rfl⟩ := Option.map_eq_some_iff.1 hs
    exact opSim_quiet hR (lookupA_sim hR (he _) (he _) hx)
  · obtain ⟨hh, hx, rfl⟩ := Option.map_eq_some_iff.1 hs
    obtain ⟨w', e1, e2, e3⟩ := mapUpdateA_sim (P := P) hR (he _) (he _) (he _) hx
    exact ⟨ρ, w', by simp [e1], e2, e3⟩
  · obtain ⟨hh, hx, rfl⟩ := Option.map_eq_some_iff.1 hs
    obtain ⟨w', e1, e2, e3⟩ := mapUpdateA_sim (P := P) hR (he _) (he _) (he _) hx
    exact ⟨ρ, w', by simp [e1], e2, e3⟩
  · obtain ⟨x, hx, rfl⟩ := Option.map_eq_some_iff.1 hs
    exact opSim_quiet hR (typeAssertA_sim (he _) hx w)
  · obtain ⟨x, hx, rfl⟩ := Option.map_eq_some_iff.1 hs
    exact opSim_makes (rangeM_sim hR (he _) hx)
  · obtain ⟨x, hx, rfl⟩ := Option.map_eq_some_iff.1 hs
    exact opSim_makes (nextM_sim hR (he _) hx)
  · obtain ⟨x, hx, rfl⟩ := Option.map_eq_some_iff.1 hs
    exact opSim_quiet hR (arrayAtA_sim (he _) hx w)
  · obtain ⟨x, hx, rfl⟩ := Option.map_eq_some_iff.1 hs
    exact opSim_quiet hR (entryA_sim hR (he _) hx)
  · cases hs

end
end Go.AE

/-
  AE, operations that only make something: what they make hangs on no memory, so that they may be carried out at any time.
-/
namespace Go.AE
noncomputable section
set_option linter.unusedSimpArgs false
set_option linter.unusedVariables false
variable {P : Program} {ρ : Ren} {h : AH} {w : World}

def freshOp : Op → Bool
  | .alloc _ => true
  | .makeMap _ none => true
  | .buildSlice _ _ _ => true
  | _ => false
def freshAt (o : Oper) : Bool := freshOp o.op && o.guard.isNone

/-- What is made, by the abstract block's name; what the real one is. -/
structure FreshOk (P : Program) (A : Array Value) (o : Oper) (f : Nat → Value) (ob : AObj) : Prop where
  abs : ∀ h, opA P (aeval A) h o = some (.val (f h.next) (h.push ob))
  real : ∀ (ρ : Ren) (B : Array Value), VS ρ A B → ∃ (g : Nat → Value) (b : Obj) (inf : Nat → Info), (∀ n, (inf n).b = n) ∧
    (∀ ds w, (execOp (Act.mk B ds).eval o).run P w = .ok (.value (g w.heap.size)) { w with heap := w.heap.push b }) ∧
    ∀ (ρ' : Ren) (β n : Nat), Ren.Le ρ ρ' → ρ' β = some (inf n) → ORel ρ' (inf n) ob b ∧ V ρ' (f β) (g n)

theorem freshOk {o : Oper} (hf : freshOp o.op = true) {A : Array Value} {h : AH} {r : AR} (hs : opA P (aeval A) h o = some r) :
    ∃ f ob, FreshOk P A o f ob ∧ r = .val (f h.next) (h.push ob) := by
  obtain ⟨dst, op, type, pos, after, guard⟩ := o
  cases op <;> simp only [freshOp] at hf <;> (try (cases hf; done))
  case alloc t =>
    simp only [opA] at hs
    obtain ⟨x, hx, rfl⟩ := Option.map_eq_some_iff.1 hs
    unfold allocA at hx
    split at hx
    case h_2 => cases hx
    rename_i i z hz
    cases hx
    refine ⟨fun β => .pointer (some ⟨β, 0, none⟩), rowObjB z.cells.toList t 0, ⟨fun h => by simp only [opA, allocA, hz]; rfl, fun ρ B hB => ?_⟩, rfl⟩
    refine ⟨fun n => .pointer (some ⟨n, 0, none⟩), .cells z.cells t, fun n => newInfo n z.cells.toList.length z.cells.toList.length 0 false, fun n => rfl, fun ds w => ?_, fun ρ' β n hle hβ => ?_⟩
    · obtain ⟨h1, h2, h3⟩ := zeroA_run hz w
      simp [execOp, Instr.alloc, h1, newVar, newRow]
    · have hp : z.cells.all plain1 = true := (zeroA_run hz (default : World)).2.2
      exact ⟨newRow_orelB (VS.refl1 (ρ := ρ') hp).tl t n 0, .pointer _ _ ⟨_, hβ, rfl, rfl, rfl⟩⟩
  case makeMap t r =>
    cases r with
    | some x => simp at hf
    | none =>
    simp only [opA] at hs
    obtain ⟨x, hx, rfl⟩ := Option.map_eq_some_iff.1 hs
    cases hx
    refine ⟨fun β => .map (some β), .map #[] 0 false, ⟨fun h => rfl, fun ρ B hB => ?_⟩, rfl⟩
    refine ⟨fun n => .map (some n), .map #[] 0, fun n => { b := n, s := 0, n := 0, N := 0, esz := 0, op := false, ro := false }, fun n => rfl, fun ds w => ?_, fun ρ' β n hle hβ => ?_⟩
    · simp [execOp, Instr.makeMap]
    · exact ⟨⟨#[], rfl, rfl, rfl, rfl, fun j x y hx => by simp at hx⟩, .map _ _ _ hβ rfl⟩
  case buildSlice t len ps =>
    simp only [opA] at hs
    obtain ⟨x, hx, rfl⟩ := Option.map_eq_some_iff.1 hs
    unfold buildSliceA at hx
    split at hx
    case h_2 => cases hx
    rename_i elem hu
    split at hx
    case h_2 => cases hx
    rename_i inf z hz
    split at hx
    case isFalse => cases hx
    rename_i hc
    split at hx
    case h_2 => cases hx
    rename_i cells hf
    cases hx
    have hc' := hc
    obtain ⟨hc1, hc2, hc3⟩ := hc
    refine ⟨fun β => .slice (some ⟨β, 0, none⟩) len len, rowObj cells.toList elem 0 false, ⟨fun h => ?_, fun ρ B hB => ?_⟩, rfl⟩
    · simp only [opA, buildSliceA, hu, hz, hc', and_self, if_true, hf]; rfl
    have hpl : z.cells.all plain1 = true := (zeroA_run hz (default : World)).2.2
    have hz0 : (zeros (if len * inf.size = 0 then #[] else z.cells) (len * inf.size)).all plain1 = true := by
      by_cases h0 : len * inf.size = 0
      · rw [if_pos h0, h0]; exact zeros_plain (zero := #[]) (by simp) 0 (.inl rfl)
      · simp only [h0, if_false]; exact zeros_plain hpl _ (by omega)
    have hparts : PartsRel ρ (partsA (aeval A) ps).toList (partsA (Act.mk B []).eval ps).toList := parts_rel (fun x => aeval_sim hB x) ps
    obtain ⟨r', hr1, hr2⟩ := fill_rel _ _ _ _ _ cells hparts (VS.refl1 hz0) hc3 hf
    refine ⟨fun n => .slice (some ⟨n, 0, none⟩) len len, .cells r' elem, fun n => newInfo n cells.toList.length cells.toList.length 0 false, fun n => rfl, fun ds w => ?_, fun ρ' β n hle hβ => ?_⟩
    · obtain ⟨h1, h2, h3⟩ := zeroA_run hz w
      have hq : (partsA (Act.mk B []).eval ps) = partsA (Act.mk B ds).eval ps := rfl
      rw [hq] at hr1
      have hgt : ¬ (len * inf.size > 2 ^ 24) := by omega
      have hzz : (zeros (if len * inf.size = 0 then #[] else z.cells) (len * inf.size)) = (Array.range (len * inf.size)).map ((if len * inf.size = 0 then #[] else z.cells)[· % (if len * inf.size = 0 then #[] else z.cells).size]!) := rfl
      rw [hzz] at hr1
      have hnr : (newRow elem r').run P w = .ok ⟨w.heap.size, 0, none⟩ { w with heap := w.heap.push (.cells r' elem) } := by simp [newRow]
      have key : (Instr.buildSlice t len (partsA (Act.mk B ds).eval ps)).run P w = .ok (.slice (some ⟨w.heap.size, 0, none⟩) len len) { w with heap := w.heap.push (.cells r' elem) } := by
        by_cases h0 : len * inf.size = 0
        · simp only [h0, if_true] at hr1
          simp only [Instr.buildSlice, Sem.run_bind, run_underlying hu, Result.andThen_ok, run_size h2, h0, Sem.run_ite, if_true, Sem.run_pure, hr1, hnr]
          rfl
        · simp only [h0, if_false] at hr1
          simp only [Instr.buildSlice, Sem.run_bind, run_underlying hu, Result.andThen_ok, run_size h2, h0, hgt, Sem.run_ite, if_false, h1, Sem.run_pure, hr1, hnr]
      show (do pure (Next.value (← Instr.buildSlice t len (partsA (Act.mk B ds).eval ps))) : Sem Next).run P w = _
      simp only [Sem.run_bind, key, Result.andThen_ok, Sem.run_pure]
    · refine ⟨newRow_orel (hr2.mono hle).tl elem n 0, .slice _ _ _ _ _ (Nat.le_refl _) ⟨_, hβ, rfl, rfl, .inl ⟨rfl, rfl⟩⟩⟩

end
end Go.AE

/-
  AE, a region's operations listed in another order: the same runs.
-/
namespace Go.AE
noncomputable section
set_option linter.unusedSimpArgs false
set_option linter.unusedVariables false
variable {P : Program}

def renOper (σ : Nat → Nat) (o : Oper) : Oper :=
  { o with after := o.after.map (fun e => { e with on := σ e.on }), guard := o.guard.map fun g => (σ g.1, g.2) }

/-- The operations in the order that L lists. -/
def permOps (ops : Array Oper) (L : List Nat) : Array Oper := ⟨L.map fun i => renOper (fun j => L.idxOf j) (ops.getD i default)⟩

/-- L lists each operation just once; nothing names an operation that is not there. -/
def permOk (ops : Array Oper) (L : List Nat) : Bool :=
  (L.length == ops.size) && (List.range ops.size).all (fun i => L[L.idxOf i]? == some i) && L.all (fun i => decide (i < ops.size)) &&
  (List.range ops.size).all (fun p => L.idxOf (L.getD p 0) == p) &&
  ops.toList.all (fun o => o.after.toList.all (fun e => decide (e.on < ops.size)) && (match o.guard with | some (j, _) => decide (j < ops.size) | none => true))

structure PermOk (ops ops' : Array Oper) (σ τ : Nat → Nat) : Prop where
  size : ops'.size = ops.size
  lt : ∀ i, i < ops.size → σ i < ops.size
  tlt : ∀ i, i < ops.size → τ i < ops.size
  ts : ∀ i, i < ops.size → τ (σ i) = i
  st : ∀ i, i < ops.size → σ (τ i) = i
  op : ∀ (i : Nat) (o : Oper), ops[i]? = some o → ops'[σ i]? = some (renOper σ o)
  edge : ∀ (i : Nat) (o : Oper), ops[i]? = some o → ∀ e ∈ o.after, e.on < ops.size
  guard : ∀ (i : Nat) (o : Oper), ops[i]? = some o → ∀ j b, o.guard = some (j, b) → j < ops.size

theorem permOk_spec {ops : Array Oper} {L : List Nat} (h : permOk ops L = true) : PermOk ops (permOps ops L) (fun j => L.idxOf j) (fun p => L.getD p 0) := by
  simp only [permOk, Bool.and_eq_true, List.all_eq_true, beq_iff_eq, decide_eq_true_eq, List.mem_range] at h
  obtain ⟨⟨⟨⟨h1, h2⟩, h3⟩, h4⟩, h5⟩ := h
  have hidx : ∀ i, i < ops.size → L.idxOf i < ops.size := fun i hi => by
    have := (List.getElem?_eq_some_iff.1 (h2 i hi)).1
    omega
  refine ⟨by simp [permOps, h1], hidx, fun p hp => ?_, fun i hi => ?_, fun p hp => h4 p hp, fun i o ho => ?_, fun i o ho e he => ?_, fun i o ho j b hg => ?_⟩
  · have hl : p < L.length := by omega
    simp only [List.getD_eq_getElem?_getD, List.getElem?_eq_getElem hl, Option.getD_some]
    exact h3 _ (List.getElem_mem hl)
  · simp only [List.getD_eq_getElem?_getD, h2 i hi, Option.getD_some]
  · have hi : i < ops.size := (Array.getElem?_eq_some_iff.1 ho).1
    simp only [permOps, List.getElem?_toArray, List.getElem?_map, h2 i hi, Option.map_some]
    congr 2
    simp [Array.getD_eq_getD_getElem?, ho]
  · have hm : o ∈ ops.toList := Array.mem_toList_iff.2 (Array.mem_of_getElem? ho)
    exact (h5 o hm).1 e (by simpa using he)
  · have hm : o ∈ ops.toList := Array.mem_toList_iff.2 (Array.mem_of_getElem? ho)
    have := (h5 o hm).2
    rw [hg] at this
    simpa using this

variable {ops ops' : Array Oper} {σ τ : Nat → Nat} {F : Fence} {n : Nat} {md : Region.Mode} {Q : Exit → Act → World → Prop}

theorem perm_yielded (hp : PermOk ops ops' σ τ) (B : Array Value) {j : Nat} (hj : j < ops.size) : yielded ops' B (σ j) = yielded ops B j := by
  have ho : ops[j]? = some ops[j] := by simp [hj]
  simp only [yielded, hp.op j _ ho, ho]
  rfl

theorem perm_wanted (hp : PermOk ops ops' σ τ) (B : Array Value) {i : Nat} {o : Oper} (ho : ops[i]? = some o) :
    Region.wanted (renOper σ o) (yielded ops' B) = Region.wanted o (yielded ops B) := by
  unfold Region.wanted
  cases hg : o.guard with
  | none => simp [renOper, hg]
  | some g =>
    obtain ⟨j, b⟩ := g
    simp only [renOper, hg, Option.map_some]
    rw [perm_yielded hp B (hp.guard i o ho j b hg)]

theorem perm_wpOp (hp : PermOk ops ops' σ τ) {i : Nat} (hi : i < ops.size) {K K' : Act → World → Prop} (hK : ∀ a w, K' a w → K a w) {a : Act} {w : World}
    (h : wpOpIn F n P ops' Q (σ i) K' a w) : wpOpIn F n P ops Q i K a w := by
  have ho : ops[i]? = some ops[i] := by simp [hi]
  unfold wpOpIn at h ⊢
  rw [hp.op i _ ho] at h
  rw [ho]
  simp only at h ⊢
  rw [perm_wanted hp a.tmps ho] at h
  split at h
  · rename_i hw
    rw [if_pos hw]
    exact Oper.wpIn_mono hK (h : Oper.wpIn F n P ops[i] a w K' Q)
  · rename_i hw
    rw [if_neg hw]
    exact ⟨h.1, hK _ _ h.2⟩

theorem perm_ready (hp : PermOk ops ops' σ τ) {listed listed' : Array Bool} (hl : ∀ i d, i < ops.size → listed'.getD (σ i) d = listed.getD i d) {i : Nat} :
    (i ∈ Region.ready md ops listed → σ i ∈ Region.ready md ops' listed') ∧ (i < ops.size → σ i ∈ Region.ready md ops' listed' → i ∈ Region.ready md ops listed) := by
  refine ⟨fun h => ?_, fun hi h => ?_⟩
  · obtain ⟨h1, o, ho, h2⟩ := mem_ready.1 h
    have hi : i < ops.size := (Array.getElem?_eq_some_iff.1 ho).1
    refine mem_ready.2 ⟨by rw [hl i true hi]; exact h1, _, hp.op i o ho, fun e he hb => ?_⟩
    simp only [renOper, Array.mem_map] at he
    obtain ⟨e', he', rfl⟩ := he
    rw [hl _ false (hp.edge i o ho e' he')]
    exact h2 e' he' hb
  · obtain ⟨h1, o', ho', h2⟩ := mem_ready.1 h
    have ho : ops[i]? = some ops[i] := by simp [hi]
    rw [hp.op i _ ho] at ho'
    cases ho'
    refine mem_ready.2 ⟨by rw [← hl i true hi]; exact h1, _, ho, fun e he hb => ?_⟩
    rw [← hl _ false (hp.edge i _ ho e he)]
    exact h2 { e with on := σ e.on } (by simp only [renOper, Array.mem_map]; exact ⟨e, he, rfl⟩) hb

theorem perm_any (hp : PermOk ops ops' σ τ) : ∀ (fuel : Nat) (listed listed' : Array Bool) (a : Act) (w : World), listed.size = ops.size → listed'.size = ops.size →
    (∀ i d, i < ops.size → listed'.getD (σ i) d = listed.getD i d) → wpAnyIn F n P md ops' Q fuel listed' a w → wpAnyIn F n P md ops Q fuel listed a w := by
  have nil : ∀ (listed listed' : Array Bool), (∀ i d, i < ops.size → listed'.getD (σ i) d = listed.getD i d) → Region.ready md ops listed = [] → Region.ready md ops' listed' = [] := by
    intro listed listed' hl hr
    apply List.eq_nil_iff_forall_not_mem.2
    intro j hj
    obtain ⟨_, o', ho', _⟩ := mem_ready.1 hj
    have hjs : j < ops.size := by have := (Array.getElem?_eq_some_iff.1 ho').1; rw [hp.size] at this; exact this
    rw [← hp.st j hjs] at hj
    have := (perm_ready hp hl (md := md)).2 (hp.tlt j hjs) hj
    rw [hr] at this; cases this
  intro fuel
  induction fuel with
  | zero =>
    intro listed listed' a w h1 h2 hl h
    refine ⟨?_, h.2⟩
    apply List.eq_nil_iff_forall_not_mem.2
    intro i hi
    have := (perm_ready hp hl (md := md)).1 hi
    rw [h.1] at this; cases this
  | succ fuel ih =>
    intro listed listed' a w h1 h2 hl h
    refine ⟨fun hr => h.1 (nil listed listed' hl hr), fun i hi => ?_⟩
    have hlt : i < ops.size := by
      obtain ⟨_, o, ho, _⟩ := mem_ready.1 hi
      exact (Array.getElem?_eq_some_iff.1 ho).1
    refine perm_wpOp hp hlt (fun a w hw => ?_) (h.2 (σ i) ((perm_ready hp hl (md := md)).1 hi))
    refine ih _ _ a w (by simp [h1]) (by simp [h2]) (fun k d hk => ?_) hw
    have := hl k d hk
    have hs1 : σ i < listed'.size := by rw [h2]; exact hp.lt i hlt
    have hs2 : i < listed.size := by omega
    simp only [Array.getD_eq_getD_getElem?, Array.getElem?_setIfInBounds] at this ⊢
    by_cases e : i = k
    · subst e; simp [hs1, hs2]
    · have e' : σ i ≠ σ k := fun he => e (by rw [← hp.ts i hlt, he, hp.ts k hk])
      simp only [e, e', if_false]
      exact this

end
end Go.AE

/-
  AE, part 10: the evaluator.
-/
namespace Go.AE
noncomputable section
set_option linter.unusedSimpArgs false
set_option linter.unusedVariables false

structure St where
  tmps : Array Value
  defers : List Nat
  h : AH

structure Env where
  call : FuncId → Array Value → AH → Option (Value × AH)
  code : Option Nat → Code → St → Option (Ex × St)

def put (tmps : Array Value) (dst : Option Tmp) (v : Value) : Array Value :=
  match dst with
  | some d => tmps.setIfInBounds d v
  | none => tmps

/-- What a guard's operation has yielded, if that is known. -/
def yieldedA (ops : Array Oper) (tmps : Array Value) (j : Nat) : Option (Option Bool) :=
  match (ops[j]?).bind (·.dst) with
  | none => some none
  | some d => match tmps[d]? with
    | none => some none
    | some (.bool b) => some (some b)
    | some (.tuple cs) => if cs.size = 1 then none else some none
    | some _ => some none

/-- Is an operation carried out? -/
def wantedA (ops : Array Oper) (tmps : Array Value) (o : Oper) : Option Bool :=
  match o.guard with
  | none => some true
  | some (j, want) => (yieldedA ops tmps j).map (· == some want)

/-- A round of a loop over a function. -/
def roundA (E : Env) (l : Nat) (args : Array Value) (h : AH) : Option (Value × AH) :=
  match h.get l with
  | some (.loop _ _ tmps params assign body _) =>
    if args.size ≠ params.size then none else
    match E.code (some l) assign { tmps := (params.zip args).foldl (fun tmps (t, a) => tmps.setIfInBounds t a) tmps, defers := [], h } with
    | some (.normal, s₁) =>
      match s₁.h.get l with
      | some (.loop .ready pend₁ tmps₁ params₁ assign₁ body₁ defers₁) =>
        match E.code (some l) body { s₁ with h := s₁.h.set l (.loop .busy pend₁ tmps₁ params₁ assign₁ body₁ defers₁) } with
        | some (ex, s₂) =>
          match s₂.h.get l with
          | some (.loop _ _ tmps₂ params₂ assign₂ body₂ defers₂) =>
            match ex with
            | .normal => some (.bool true, s₂.h.set l (.loop .ready .normal tmps₂ params₂ assign₂ body₂ defers₂))
            | ex => some (.bool false, s₂.h.set l (.loop .done ex tmps₂ params₂ assign₂ body₂ defers₂))
          | _ => none
        | none => none
      | _ => none
    | _ => none
  | _ => none

/-- What an operation yields, and the heap behind it. -/
def stepVal (P : Program) (E : Env) (ops : Array Oper) (o : Oper) (tmps : Array Value) (h : AH) : Option (Value × AH) :=
  match wantedA ops tmps o with
  | some true =>
    match opA P (aeval tmps) h o with
    | some (.val v h') => some (v, h')
    | some (.skip h') => some (undef, h')
    | some (.enter f args) => E.call f args h
    | some (.round l args) => roundA E l args h
    | none => none
  | some false => some (undef, h)
  | none => none

def stepOp (P : Program) (E : Env) (ops : Array Oper) (o : Oper) (s : St) : Option St :=
  match stepVal P E ops o s.tmps s.h with
  | some (v, h) => some { s with tmps := put s.tmps o.dst v, h }
  | none => none

/-- Operations in an order. -/
def runList (P : Program) (E : Env) (ops : Array Oper) : List Nat → St → Option St
  | [], s => some s
  | i :: r, s =>
    match ops[i]? with
    | none => runList P E ops r s
    | some o => match stepOp P E ops o s with
      | some s' => runList P E ops r s'
      | none => none

/-- The states on the way, the first one first. -/
def trace (P : Program) (E : Env) (ops : Array Oper) : List Oper → St → Option (List St)
  | [], s => some [s]
  | o :: r, s => match stepOp P E ops o s with
    | some s' => (trace P E ops r s').map (s :: ·)
    | none => none

/-! ### Regions whose order is open -/
/-- It neither reads nor writes memory. -/
def pureOp : Op → Bool
  | .move _ | .assign _ | .pick _ _ _ | .binOp _ _ _ _ _ | .unOp _ _ _ | .convert _ _ _ | .fieldAddr _ _ _ | .field _ _ _ | .index _ _ _ | .extract _ _ | .indexAddr _ _ _ | .build _ _ | .makeFunc _ _ _
  | .makeInterface _ _ | .nilCheck _ => true
  | .call c => match c.callee with
    | .builtin .min | .builtin .max => true
    | _ => false
  | _ => false
/-- It reads memory, no more. -/
def readOp : Op → Bool
  | .load _ _ | .slice _ _ _ _ _ => true
  | .call c => match c.callee with
    | .builtin .len => true
    | _ => false
  | _ => false
def heavyOp (o : Op) : Bool := !pureOp o && !readOp o

/-- Is one ahead of the other by the edges? -/
def aheadOf (b : Array Nat) (i j : Nat) : Bool := (b.getD j 0).testBit i

/-- What waits for j by an edge waits for i too. -/
def lateOk (ops : Array Oper) (b : Array Nat) (i j : Nat) : Bool :=
  ops.toList.zipIdx.all fun (o, x) => !(o.after.toList.any fun e => Region.binds .any e && decide (e.on = j)) || aheadOf b i x

/-- Edges go back; two that stand in no order name no slot in common, and one of them writes no memory, or the later one only makes something, for which nobody waits who does not wait for the earlier one too. -/
def drawStatic (ops : Array Oper) : Bool :=
  let b := Region.before ops
  (ops.toList.zipIdx.all fun (o, i) => o.after.toList.all fun e => !Region.binds .any e || decide (e.on < i)) &&
  (ops.toList.zipIdx.all fun (o, j) => ops.toList.zipIdx.all fun (p, i) =>
    !decide (i < j) || aheadOf b i j || (p.apart ops o && (!(heavyOp p.op && heavyOp o.op) || (freshAt o && lateOk ops b i j))))

/-- The pairs (one that reads, one that writes) that stand in no order. -/
def drawPairs (ops : Array Oper) : List (Nat × Nat) :=
  let b := Region.before ops
  (ops.toList.zipIdx.filter fun (o, _) => readOp o.op).flatMap fun (_, i) =>
    (ops.toList.zipIdx.filter fun (p, j) => heavyOp p.op && !(if i < j then aheadOf b i j else aheadOf b j i)).map fun (_, j) => (i, j)

/-- Equality of values, as far as it is told. -/
def addrEq (a b : Addr) : Bool := a.block == b.block && a.off == b.off && a.spot == b.spot
def veq1 : Value → Value → Bool
  | .bool a, .bool b => a == b
  | .int k a, .int l b => decide (k = l) && decide (a = b)
  | .string a, .string b => decide (a = b)
  | .pointer none, .pointer none => true
  | .pointer (some a), .pointer (some b) => addrEq a b
  | .slice none n c, .slice none m d => n == m && c == d
  | .slice (some a) n c, .slice (some b) m d => addrEq a b && n == m && c == d
  | .map none, .map none => true
  | .map (some a), .map (some b) => a == b
  | .nilFunc, .nilFunc => true
  | .nilIface, .nilIface => true
  | _, _ => false
def veqL : List Value → List Value → Bool
  | [], [] => true
  | x :: xs, y :: ys => veq1 x y && veqL xs ys
  | _, _ => false
def veq : Value → Value → Bool
  | .agg xs, .agg ys => veqL xs.toList ys.toList
  | x, y => veq1 x y

/-- Does one that reads yield the same ahead of one that writes and behind it? -/
def sameRead (P : Program) (ops : Array Oper) (sts : List St) (ij : Nat × Nat) : Bool :=
  match ops[ij.1]?, sts[ij.1]?, sts[ij.2]?, sts[ij.2 + 1]? with
  | some o, some si, some sj, some sk =>
    match wantedA ops si.tmps o with
    | some false => true
    | some true =>
      match opA P (aeval si.tmps) sj.h o, opA P (aeval si.tmps) sk.h o with
      | some (.val v _), some (.val v' _) => veq v v'
      | _, _ => false
    | none => false
  | _, _, _, _ => false

/-- An order in which what only makes something comes as late as may be. -/
def reord (ops : Array Oper) : List Nat :=
  let b := Region.before ops
  let acc := (List.range ops.size).foldl (fun acc x => if freshAt (ops.getD x default) then acc else
    acc ++ ((List.range ops.size).filter fun j => freshAt (ops.getD j default) && aheadOf b j x && !acc.contains j) ++ [x]) []
  acc ++ (List.range ops.size).filter fun j => !acc.contains j

/-- The operations in an order of which the checks hold. -/
def drawOps (ops : Array Oper) : Option (Array Oper) :=
  if drawStatic ops then some ops
  else if permOk ops (reord ops) && drawStatic (permOps ops (reord ops)) then some (permOps ops (reord ops)) else none

def evalRegion (P : Program) (E : Env) (ops : Array Oper) (draw : Bool) (s : St) : Option St :=
  if draw then
    match drawOps ops with
    | some ops' => match trace P E ops' ops'.toList s with
      | some sts => if (drawPairs ops').all (sameRead P ops' sts) then sts.getLast? else none
      | none => none
    | none => none
  else runList P E ops (List.range ops.size) s

/-! ### Code -/
/-- The jump that is taken up behind a loop over a function. -/
def evalC (P : Program) (E : Env) (rd : Option Nat) : Code → St → Option (Ex × St)
  | .skip, s => some (.normal, s)
  | .label _, s => some (.normal, s)
  | .region _ ops draw, s => (evalRegion P E ops draw s).map (.normal, ·)
  | .seq a b, s => match evalC P E rd a s with
    | some (.normal, s') => evalC P E rd b s'
    | r => r
  | .cond c x y, s => match aeval s.tmps c with
    | .bool true => evalC P E rd x s
    | .bool false => evalC P E rd y s
    | _ => none
  | .block id c, s => match evalC P E rd c s with
    | some (.exit id', s') => if id' = id then some (.normal, s') else some (.exit id', s')
    | r => r
  | .loop c, s => match evalC P E rd c s with
    | some (.normal, s') => E.code rd (.loop c) s'
    | r => r
  | .scope c, s => evalC P E rd c s
  | .exit id, s => some (.exit id, s)
  | .ret, s => some (.ret, s)
  | .goto _, _ => none
  | .refuse _, _ => none
  | .rangeFunc g ps assign body, s =>
    match (match rd with
      | none => some (s.h.next, [s.h.next], s.h.push .defs)
      | some l => match s.h.get l with
        | some (.loop _ _ _ _ _ _ d) => some (d, [], s.h)
        | _ => none) with
    | none => none
    | some (d, mark, h₁) =>
      match aeval s.tmps g with
      | .func (.func f) first captured =>
        if ((P.funcs[f]?).bind (·.body)).isSome then
          match E.call f (first ++ #[.func (.yield h₁.next) #[] #[]] ++ captured) (h₁.push (.loop .ready .normal s.tmps ps assign body d)) with
          | some (_, h₂) =>
            match h₂.get h₁.next with
            | some (.loop .busy _ _ _ _ _ _) => none
            | some (.loop _ pend tmps' params' assign' body' d') =>
              some (pend, { tmps := s.tmps, defers := mark ++ s.defers, h := h₂.set h₁.next (.loop .exhausted pend tmps' params' assign' body' d') })
            | _ => none
          | none => none
        else none
      | _ => none

/-- The blocks for deferred calls are shut. -/
def shut : List Nat → AH → Option AH
  | [], h => some h
  | d :: ds, h => match h.get d with
    | some .defs => shut ds (h.kill d)
    | _ => none

def resultA (P : Program) (tmps : Array Value) (h : AH) : ResultVar → Option Value
  | .tmp t => some (tmps.getD t undef)
  | .cell a t => match tmps.getD a undef with
    | .pointer (some x) => loadA P t x h
    | _ => none

def resultsA (P : Program) (tmps : Array Value) (h : AH) : List ResultVar → Option (List Value)
  | [] => some []
  | r :: rs => match resultA P tmps h r with
    | some v => (resultsA P tmps h rs).map (v :: ·)
    | none => none

def callFn (P : Program) (E : Env) (f : FuncId) (args : Array Value) (h : AH) : Option (Value × AH) :=
  match P.funcs[f]? with
  | none => none
  | some fn => match fn.body with
    | none => none
    | some c =>
      match evalC P E none c { tmps := args ++ Array.replicate (fn.ntmps - args.size) undef, defers := [], h } with
      | some (.exit _, _) => none
      | some (_, s) =>
        match shut s.defers s.h with
        | none => none
        | some h' => match resultsA P s.tmps h' fn.results.toList with
          | some [v] => some (v, h')
          | some vs => some (.tuple vs.toArray, h')
          | none => none
      | none => none

abbrev Over := FuncId → Option (Array Value → AH → Option (Value × AH))

/-- The evaluator at so much fuel; some functions are met by what is said of them. -/
def env (P : Program) (ov : Over) : Nat → Env
  | 0 => { call := fun _ _ _ => none, code := fun _ _ _ => none }
  | n + 1 =>
    { call := fun f args h => match ov f with
        | some g => g args h
        | none => callFn P (env P ov n) f args h
      code := fun rd c s => evalC P (env P ov n) rd c s }

end
end Go.AE

/-
  AE, part 11: a region whose order is open: what is yielded in any order is what is yielded in the text's.
-/
namespace Go.AE
noncomputable section
set_option linter.unusedSimpArgs false
set_option linter.unusedVariables false
variable {P : Program} {E : Env}

theorem addrEq_eq {a b : Addr} (h : addrEq a b = true) : a = b := by
  obtain ⟨a1, a2, a3⟩ := a
  obtain ⟨b1, b2, b3⟩ := b
  simp only [addrEq, Bool.and_eq_true, beq_iff_eq] at h
  obtain ⟨⟨h1, h2⟩, h3⟩ := h
  subst h1 h2 h3; rfl

theorem veq1_eq {x y : Value} (h : veq1 x y = true) : x = y := by
  unfold veq1 at h
  split at h <;> first | rfl | (cases h; done) | skip
  · simp at h; rw [h]
  · simp at h; rw [h.1, h.2]
  · simp at h; rw [h]
  · rw [addrEq_eq h]
  · simp at h; rw [h.1, h.2]
  · simp at h; rw [addrEq_eq h.1.1, h.1.2, h.2]
  · simp at h; rw [h]

theorem veqL_eq : ∀ {xs ys : List Value}, veqL xs ys = true → xs = ys
  | [], [], _ => rfl
  | [], _ :: _, h => by cases h
  | _ :: _, [], h => by cases h
  | x :: xs, y :: ys, h => by
    simp only [veqL, Bool.and_eq_true] at h
    rw [veq1_eq h.1, veqL_eq h.2]

theorem veq_eq {x y : Value} (h : veq x y = true) : x = y := by
  unfold veq at h
  split at h
  · rename_i xs ys; rw [Array.ext' (veqL_eq h)]
  · exact veq1_eq h

/-! ### What an operation looks at -/
theorem aeval_agree {A B : Array Value} {x : Operand} (h : ∀ t, x = .tmp t → A[t]? = B[t]?) : aeval A x = aeval B x := by
  cases x with
  | tmp t => simp only [aeval, Array.getD_eq_getD_getElem?, h t rfl]
  | _ => rfl

theorem map_agree {e e' : Operand → Value} {xs : Array Operand} (h : ∀ x ∈ xs.toList, e x = e' x) : xs.map e = xs.map e' := by
  apply Array.ext'
  simp only [Array.toList_map]
  exact List.map_congr_left h

theorem opt_agree {e e' : Operand → Value} {x : Option Operand} (h : ∀ y ∈ x.toArray.toList, e y = e' y) : x.map e = x.map e' := by
  cases x with
  | none => rfl
  | some x => simp at h; simp [h]

theorem parts_agree {e e' : Operand → Value} {ps : Array (Nat × Operand)} (h : ∀ x ∈ (ps.toList.map (·.2)).toArray.toList, e x = e' x) : partsA e ps = partsA e' ps := by
  apply Array.ext'
  simp only [partsA, Array.toList_map]
  apply List.map_congr_left
  intro p hp
  have := h p.2 (by simp; exact ⟨p.1, by simpa using hp⟩)
  rw [this]

theorem opA_agree {e e' : Operand → Value} {h : AH} {o : Oper} (ha : ∀ x ∈ o.op.operands.toList, e x = e' x) : opA P e h o = opA P e' h o := by
  obtain ⟨dst, op, type, pos, after, guard⟩ := o
  cases op with
  | move x => simp only [Op.operands] at ha; simp only [opA, ha x (by simp)]
  | assign x => simp only [Op.operands] at ha; simp only [opA, ha x (by simp)]
  | pick c a b => simp only [Op.operands] at ha; simp only [opA, ha a (by simp), ha b (by simp), ha c (by simp)]
  | alloc t => rfl
  | box t x => simp only [Op.operands] at ha; simp only [opA, ha x (by simp)]
  | build t ps => simp only [Op.operands] at ha; simp only [opA, parts_agree ha]
  | buildSlice t n ps => simp only [Op.operands] at ha; simp only [opA, parts_agree ha]
  | load t x => simp only [Op.operands] at ha; simp only [opA, ha x (by simp)]
  | store t a v => simp only [Op.operands] at ha; simp only [opA, ha a (by simp), ha v (by simp)]
  | nilCheck x => simp only [Op.operands] at ha; simp only [opA, ha x (by simp)]
  | binOp o t x y u => simp only [Op.operands] at ha; simp only [opA, ha x (by simp), ha y (by simp)]
  | unOp o t x => simp only [Op.operands] at ha; simp only [opA, ha x (by simp)]
  | convert s d x => simp only [Op.operands] at ha; simp only [opA, ha x (by simp)]
  | makeInterface t x => simp only [Op.operands] at ha; simp only [opA, ha x (by simp)]
  | makeFunc fn as cs =>
    simp only [Op.operands] at ha
    have h1 : as.map e = as.map e' := map_agree fun x hx => ha x (by simp; exact .inl (by simpa using hx))
    have h2 : cs.map e = cs.map e' := map_agree fun x hx => ha x (by simp; exact .inr (by simpa using hx))
    simp only [opA, h1, h2]
  | makeSlice t l c => simp only [Op.operands] at ha; simp only [opA, ha l (by simp), ha c (by simp)]
  | slice t x lo hi mx =>
    simp only [Op.operands] at ha
    have h1 : lo.map e = lo.map e' := opt_agree fun y hy => ha y (by simp at hy ⊢; exact .inr (.inl hy))
    have h2 : hi.map e = hi.map e' := opt_agree fun y hy => ha y (by simp at hy ⊢; exact .inr (.inr (.inl hy)))
    have h3 : mx.map e = mx.map e' := opt_agree fun y hy => ha y (by simp at hy ⊢; exact .inr (.inr (.inr hy)))
    simp only [opA, ha x (by simp), h1, h2, h3]
  | fieldAddr s x f => simp only [Op.operands] at ha; simp only [opA, ha x (by simp)]
  | field s x f => simp only [Op.operands] at ha; simp only [opA, ha x (by simp)]
  | indexAddr s x f => simp only [Op.operands] at ha; simp only [opA, ha x (by simp), ha f (by simp)]
  | index s x f => simp only [Op.operands] at ha; simp only [opA, ha x (by simp), ha f (by simp)]
  | extract x i => simp only [Op.operands] at ha; simp only [opA, ha x (by simp)]
  | call c =>
    simp only [Op.operands, Call.operands] at ha
    have h1 : c.args.map e = c.args.map e' := map_agree fun x hx => ha x (by simp; exact .inr (by simpa using hx))
    simp only [opA, callA]
    cases hc : c.callee with
    | builtin b => simp only [h1]
    | value f =>
      have : e f = e' f := ha f (by simp [hc])
      simp only [h1, this]
    | invoke r m => rfl
  | makeMap t r =>
    simp only [Op.operands] at ha
    have h1 : r.map e = r.map e' := opt_agree fun y hy => ha y (by simpa using hy)
    simp only [opA, h1]
  | lookup t x i ok => simp only [Op.operands] at ha; simp only [opA, ha x (by simp), ha i (by simp)]
  | mapUpdate t m k v => simp only [Op.operands] at ha; simp only [opA, ha m (by simp), ha k (by simp), ha v (by simp)]
  | insert t m k v => simp only [Op.operands] at ha; simp only [opA, ha m (by simp), ha k (by simp), ha v (by simp)]
  | typeAssert x s t ok => simp only [Op.operands] at ha; simp only [opA, ha x (by simp)]
  | range t x => simp only [Op.operands] at ha; simp only [opA, ha x (by simp)]
  | next x s => simp only [Op.operands] at ha; simp only [opA, ha x (by simp)]
  | entry x => simp only [Op.operands] at ha; simp only [opA, ha x (by simp)]
  | sliceToArrayPointer t x => simp only [Op.operands] at ha; simp only [opA, ha x (by simp)]
  | _ => rfl

theorem wantedA_agree {ops : Array Oper} {A B : Array Value} {o : Oper} (h : ∀ t ∈ o.looksAt ops, A[t]? = B[t]?) : wantedA ops A o = wantedA ops B o := by
  unfold wantedA
  cases hg : o.guard with
  | none => rfl
  | some g =>
    obtain ⟨j, want⟩ := g
    simp only
    have : yieldedA ops A j = yieldedA ops B j := by
      unfold yieldedA
      cases hd : (ops[j]?).bind (·.dst) with
      | none => rfl
      | some d => simp only; rw [h d (by simp [Oper.looksAt, hg, hd])]
    rw [this]

theorem aeval_looks {ops : Array Oper} {A B : Array Value} {o : Oper} (h : ∀ t ∈ o.looksAt ops, A[t]? = B[t]?) : ∀ x ∈ o.op.operands.toList, aeval A x = aeval B x := by
  intro x hx
  refine aeval_agree fun t e => h t ?_
  subst e
  simp only [Oper.looksAt, List.mem_append, List.mem_filterMap]
  exact .inl ⟨.tmp t, hx, rfl⟩

theorem stepVal_agree {ops : Array Oper} {A B : Array Value} {o : Oper} {h : AH} (ha : ∀ t ∈ o.looksAt ops, A[t]? = B[t]?) : stepVal P E ops o A h = stepVal P E ops o B h := by
  unfold stepVal
  rw [wantedA_agree ha, opA_agree (aeval_looks ha)]

theorem pureOp_spec {e : Operand → Value} {h : AH} {o : Oper} {r : AR} (hp : pureOp o.op = true) (hs : opA P e h o = some r) : ∃ v, r = .val v h ∧ ∀ h', opA P e h' o = some (.val v h') := by
  obtain ⟨dst, op, type, pos, after, guard⟩ := o
  have map1 : ∀ {x : Option Value}, (x.map fun v => AR.val v h) = some r → ∃ v, r = .val v h ∧ ∀ h', (x.map fun v => AR.val v h') = some (.val v h') := by
    intro x hx
    obtain ⟨v, rfl, rfl⟩ := Option.map_eq_some_iff.1 hx
    exact ⟨v, rfl, fun _ => rfl⟩
  cases op <;> simp only [pureOp] at hp <;> (try (cases hp; done)) <;> simp only [opA] at hs ⊢
  case move x => cases hs; exact ⟨_, rfl, fun _ => rfl⟩
  case assign x => cases hs; exact ⟨_, rfl, fun _ => rfl⟩
  case pick c a b => split at hs <;> first | (cases hs; done) | (cases hs; exact ⟨_, rfl, fun _ => rfl⟩)
  case build t ps => exact map1 hs
  case nilCheck x => split at hs <;> first | (cases hs; done) | (cases hs; exact ⟨_, rfl, fun _ => rfl⟩)
  case binOp => exact map1 hs
  case unOp =>
    split at hs
    · rename_i hpl; simp only [hpl, if_true]; exact map1 hs
    · cases hs
  case convert =>
    split at hs
    · rename_i hpl; simp only [hpl, if_true]; exact map1 hs
    · cases hs
  case makeInterface => split at hs <;> first | (cases hs; done) | (cases hs; exact ⟨_, rfl, fun _ => rfl⟩)
  case makeFunc => split at hs <;> first | (cases hs; done) | (cases hs; exact ⟨_, rfl, fun _ => rfl⟩)
  case fieldAddr => exact map1 hs
  case field => exact map1 hs
  case indexAddr => exact map1 hs
  case index => exact map1 hs
  case extract => exact map1 hs
  case call c =>
    split at hp <;> first | (cases hp; done) | skip
    all_goals
      rename_i hc
      simp only [callA, hc, builtinA] at hs ⊢
      split at hs
      · rename_i hpl; simp only [hpl, if_true]; exact map1 hs
      · cases hs

theorem readOp_spec {e : Operand → Value} {h : AH} {o : Oper} {r : AR} (hp : readOp o.op = true) (hs : opA P e h o = some r) : ∃ v, r = .val v h := by
  obtain ⟨dst, op, type, pos, after, guard⟩ := o
  have map1 : ∀ {x : Option Value}, (x.map fun v => AR.val v h) = some r → ∃ v, r = .val v h := by
    intro x hx
    obtain ⟨v, rfl, rfl⟩ := Option.map_eq_some_iff.1 hx
    exact ⟨v, rfl⟩
  cases op <;> simp only [readOp] at hp <;> (try (cases hp; done)) <;> simp only [opA] at hs
  case load t a =>
    split at hs
    · exact map1 hs
    · cases hs
  case slice => exact map1 hs
  case call c =>
    split at hp
    · rename_i hc
      simp only [callA, hc, builtinA] at hs
      exact map1 hs
    · cases hp

end
end Go.AE

/-
  AE, part 12: the slots and the heap behind any part of a region's operations.
-/
namespace Go.AE
noncomputable section
set_option linter.unusedSimpArgs false
set_option linter.unusedVariables false

/-- A region that was run in the text's order: the slots and heaps ahead of each operation, and what each yielded. -/
structure Ran (P : Program) (E : Env) (ops : Array Oper) where
  tm : Nat → Array Value
  hp : Nat → AH
  vals : Nat → Value
  step : ∀ (k : Nat) o, ops[k]? = some o → stepVal P E ops o (tm k) (hp k) = some (vals k, hp (k + 1)) ∧ tm (k + 1) = put (tm k) o.dst (vals k)

variable {P : Program} {E : Env} {ops : Array Oper}

def dstOf (ops : Array Oper) (k : Nat) : Option Tmp := (ops[k]?).bind (·.dst)

/-- What a slot holds when just those of D have been carried out. -/
def Slot (R : Ran P E ops) (D : Nat → Prop) (t : Nat) (x : Option Value) : Prop :=
  (∃ k, k < ops.size ∧ D k ∧ dstOf ops k = some t ∧ (∀ j, j < ops.size → D j → dstOf ops j = some t → j ≤ k) ∧ x = if t < (R.tm 0).size then some (R.vals k) else none) ∨
  ((∀ k, k < ops.size → D k → dstOf ops k ≠ some t) ∧ x = (R.tm 0)[t]?)

def Slots (R : Ran P E ops) (D : Nat → Prop) (A : Array Value) : Prop := A.size = (R.tm 0).size ∧ ∀ t, Slot R D t A[t]?

theorem Slot.same {R : Ran P E ops} {D D' : Nat → Prop} {t : Nat} {x y : Option Value} (h : Slot R D t x) (h' : Slot R D' t y) (hd : ∀ k, k < ops.size → dstOf ops k = some t → (D k ↔ D' k)) : x = y := by
  rcases h with ⟨k, hk, hDk, hdk, hmax, rfl⟩ | ⟨hno, rfl⟩
  · rcases h' with ⟨j, hj, hDj, hdj, hmax', rfl⟩ | ⟨hno', rfl⟩
    · have h1 := hmax j hj ((hd j hj hdj).2 hDj) hdj
      have h2 := hmax' k hk ((hd k hk hdk).1 hDk) hdk
      have : j = k := by omega
      subst this; rfl
    · exact absurd hdk (hno' k hk ((hd k hk hdk).1 hDk))
  · rcases h' with ⟨j, hj, hDj, hdj, hmax', rfl⟩ | ⟨hno', rfl⟩
    · exact absurd hdj (hno j hj ((hd j hj hdj).2 hDj))
    · rfl

theorem put_size (A : Array Value) (d : Option Tmp) (v : Value) : (put A d v).size = A.size := by cases d <;> simp [put]

theorem put_get (A : Array Value) (d : Option Tmp) (v : Value) (t : Nat) : (put A d v)[t]? = if d = some t then (if t < A.size then some v else none) else A[t]? := by
  cases d with
  | none => simp [put]
  | some d =>
    simp only [put, Array.getElem?_setIfInBounds]
    by_cases e : d = t
    · subst e; simp
    · simp [e]

theorem Slots.put {R : Ran P E ops} {D : Nat → Prop} {A : Array Value} (h : Slots R D A) {i : Nat} (hi : i < ops.size) (hlast : ∀ k, k < ops.size → D k → dstOf ops k = dstOf ops i → dstOf ops i ≠ none → k ≤ i) :
    Slots R (fun k => D k ∨ k = i) (put A (dstOf ops i) (R.vals i)) := by
  refine ⟨by rw [put_size]; exact h.1, fun t => ?_⟩
  rw [put_get]
  by_cases e : dstOf ops i = some t
  · rw [if_pos e, h.1]
    refine .inl ⟨i, hi, .inr rfl, e, fun j hj hD hd => ?_, rfl⟩
    rcases hD with hD | rfl
    · exact hlast j hj hD (hd.trans e.symm) (by rw [e]; simp)
    · exact Nat.le_refl _
  · rw [if_neg e]
    rcases h.2 t with ⟨k, hk, hDk, hdk, hmax, hx⟩ | ⟨hno, hx⟩
    · refine .inl ⟨k, hk, .inl hDk, hdk, fun j hj hD hd => ?_, hx⟩
      rcases hD with hD | rfl
      · exact hmax j hj hD hd
      · exact absurd hd e
    · refine .inr ⟨fun k hk hD hd => ?_, hx⟩
      rcases hD with hD | rfl
      · exact hno k hk hD hd
      · exact e hd

theorem Slots.congr {R : Ran P E ops} {D D' : Nat → Prop} {A : Array Value} (h : Slots R D A) (hd : ∀ k, k < ops.size → (D k ↔ D' k)) : Slots R D' A := by
  refine ⟨h.1, fun t => ?_⟩
  rcases h.2 t with ⟨k, hk, hDk, hdk, hmax, hx⟩ | ⟨hno, hx⟩
  · exact .inl ⟨k, hk, (hd k hk).1 hDk, hdk, fun j hj hD h' => hmax j hj ((hd j hj).2 hD) h', hx⟩
  · exact .inr ⟨fun k hk hD => hno k hk ((hd k hk).2 hD), hx⟩

/-- In the text's order. -/
theorem Ran.slots (R : Ran P E ops) : ∀ (i : Nat), i ≤ ops.size → Slots R (fun k => k < i) (R.tm i)
  | 0, _ => ⟨rfl, fun t => .inr ⟨fun k _ hD => absurd hD (Nat.not_lt_zero _), rfl⟩⟩
  | i + 1, hi => by
    have ih := Ran.slots R i (by omega)
    have hlt : i < ops.size := by omega
    have ho : ops[i]? = some ops[i] := by simp [hlt]
    rw [(R.step i _ ho).2]
    have hd : (ops[i]).dst = dstOf ops i := by simp [dstOf, ho]
    rw [hd]
    exact (ih.put hlt (fun k _ hk _ _ => Nat.le_of_lt hk)).congr fun k _ => by constructor <;> omega

/-- Any slots that hold what is held behind all. -/
theorem Slots.all {R : Ran P E ops} {A : Array Value} {D : Nat → Prop} (h : Slots R D A) (hD : ∀ k, k < ops.size → D k) : A = R.tm ops.size := by
  have h2 := R.slots ops.size (Nat.le_refl _)
  apply Array.ext_getElem?
  intro t
  exact (h.2 t).same (h2.2 t) fun k hk _ => ⟨fun _ => hk, fun _ => hD k hk⟩

/-! ### Order by edges -/
/-- All that is ahead by an edge has been carried out. -/
def ClosedOn (ops : Array Oper) (D : Nat → Prop) (i : Nat) : Prop := ∀ o, ops[i]? = some o → ∀ e ∈ o.after.toList, Region.binds .any e = true → D e.on
def Closed (ops : Array Oper) (D : Nat → Prop) : Prop := ∀ i, D i → ClosedOn ops D i

theorem before_size (l : List Oper) : ∀ (acc : Array Nat), (l.foldl (fun acc o => acc.push (o.after.foldl (fun s e => if Region.binds .any e then s ||| 2 ^ e.on ||| acc.getD e.on 0 else s) 0)) acc).size = acc.size + l.length := by
  induction l with
  | nil => intro acc; rfl
  | cons o r ih => intro acc; simp only [List.foldl_cons]; rw [ih]; simp; omega

theorem mask_spec (acc : Array Nat) (j : Nat) : ∀ (es : List Edge) (s : Nat), (es.foldl (fun s e => if Region.binds .any e then s ||| 2 ^ e.on ||| acc.getD e.on 0 else s) s).testBit j = true →
    s.testBit j = true ∨ ∃ e ∈ es, Region.binds .any e = true ∧ (e.on = j ∨ (acc.getD e.on 0).testBit j = true)
  | [], s, h => .inl h
  | e :: es, s, h => by
    simp only [List.foldl_cons] at h
    rcases mask_spec acc j es _ h with h | ⟨e', he', hb, hh⟩
    · split at h
      · rename_i hb
        simp only [Nat.testBit_or, Bool.or_eq_true, Nat.testBit_two_pow, decide_eq_true_eq] at h
        rcases h with (h | h) | h
        · exact .inl h
        · exact .inr ⟨e, by simp, hb, .inl h⟩
        · exact .inr ⟨e, by simp, hb, .inr h⟩
      · exact .inl h
    · exact .inr ⟨e', by simp [he'], hb, hh⟩

/-- What is ahead of one that has been carried out has been carried out. -/
theorem before_closed {D : Nat → Prop} : ∀ (l : List Oper) (acc : Array Nat), (∀ (i : Nat) o, i < l.length → l[i]? = some o → ops[acc.size + i]? = some o) → (∀ i j, i < acc.size → ClosedOn ops D i → Closed ops D → (acc.getD i 0).testBit j = true → D j) →
    ∀ i j, ClosedOn ops D i → Closed ops D →
      ((l.foldl (fun acc o => acc.push (o.after.foldl (fun s e => if Region.binds .any e then s ||| 2 ^ e.on ||| acc.getD e.on 0 else s) 0)) acc).getD i 0).testBit j = true → D j
  | [], acc, _, hacc, i, j, hi, hc, hb => by
    by_cases hlt : i < acc.size
    · exact hacc i j hlt hi hc hb
    · simp [Array.getD, hlt] at hb
  | o :: r, acc, hl, hacc, i, j, hi, hc, hb => by
    simp only [List.foldl_cons] at hb
    refine before_closed r _ ?_ ?_ i j hi hc hb
    · intro k p hk hp
      have := hl (k + 1) p (by simp; omega) (by simpa using hp)
      rw [Array.size_push, show acc.size + 1 + k = acc.size + (k + 1) by omega]; exact this
    · intro k j' hk hck hcc hbk
      by_cases hlt : k < acc.size
      · have e : (acc.push (o.after.foldl (fun s e => if Region.binds .any e then s ||| 2 ^ e.on ||| acc.getD e.on 0 else s) 0)).getD k 0 = acc.getD k 0 := by
          simp only [Array.getD_eq_getD_getElem?, Array.getElem?_push_lt hlt]; simp [hlt]
        rw [e] at hbk
        exact hacc k j' hlt hck hcc hbk
      · have hk' : k = acc.size := by simp at hk; omega
        subst hk'
        have ho := hl 0 o (by simp) rfl
        rw [Nat.add_zero] at ho
        have e : (acc.push (o.after.foldl (fun s e => if Region.binds .any e then s ||| 2 ^ e.on ||| acc.getD e.on 0 else s) 0)).getD acc.size 0 = o.after.foldl (fun s e => if Region.binds .any e then s ||| 2 ^ e.on ||| acc.getD e.on 0 else s) 0 := by
          simp [Array.getD_eq_getD_getElem?]
        rw [e, ← Array.foldl_toList] at hbk
        rcases mask_spec acc j' _ _ hbk with h0 | ⟨e', he', hbe, hh⟩
        · simp at h0
        · have hD := hck o ho e' he' hbe
          rcases hh with rfl | hh
          · exact hD
          · by_cases hlt' : e'.on < acc.size
            · exact hacc e'.on j' hlt' (hcc e'.on hD) hcc hh
            · simp [Array.getD, hlt'] at hh

theorem ahead_closed {D : Nat → Prop} {i j : Nat} (hi : ClosedOn ops D j) (hc : Closed ops D) (h : aheadOf (Region.before ops) i j = true) : D i := by
  unfold aheadOf Region.before at h
  rw [← Array.foldl_toList] at h
  exact before_closed ops.toList #[] (fun k o hk ho => by simpa using ho) (fun k j' hk => absurd hk (Nat.not_lt_zero _)) j i hi hc h

end
end Go.AE

/-
  AE, part 13: an operation that may come next yields what it yields in the text's order.
-/
namespace Go.AE
noncomputable section
set_option linter.unusedSimpArgs false
set_option linter.unusedVariables false
variable {P : Program} {E : Env} {ops : Array Oper}

theorem light_cases {o : Op} (h : heavyOp o = false) : pureOp o = true ∨ readOp o = true := by
  unfold heavyOp at h
  cases h1 : pureOp o <;> cases h2 : readOp o <;> simp_all

theorem stepVal_light {o : Oper} {A : Array Value} {h h' : AH} {v : Value} (hl : heavyOp o.op = false) (hs : stepVal P E ops o A h = some (v, h')) : h' = h := by
  unfold stepVal at hs
  split at hs
  · split at hs
    · rename_i u hu he
      cases hs
      rcases light_cases hl with hp | hp
      · obtain ⟨u', e, _⟩ := pureOp_spec hp he; cases e; rfl
      · obtain ⟨u', e⟩ := readOp_spec hp he; cases e; rfl
    · rename_i he
      rcases light_cases hl with hp | hp
      · obtain ⟨u', e, _⟩ := pureOp_spec hp he; cases e
      · obtain ⟨u', e⟩ := readOp_spec hp he; cases e
    · rename_i he
      rcases light_cases hl with hp | hp
      · obtain ⟨u', e, _⟩ := pureOp_spec hp he; cases e
      · obtain ⟨u', e⟩ := readOp_spec hp he; cases e
    · rename_i he
      rcases light_cases hl with hp | hp
      · obtain ⟨u', e, _⟩ := pureOp_spec hp he; cases e
      · obtain ⟨u', e⟩ := readOp_spec hp he; cases e
    · cases hs
  · cases hs; rfl
  · cases hs

theorem stepVal_pure {o : Oper} {A : Array Value} {h h' h₂ : AH} {v : Value} (hl : pureOp o.op = true) (hs : stepVal P E ops o A h = some (v, h')) : stepVal P E ops o A h₂ = some (v, h₂) := by
  unfold stepVal at hs ⊢
  cases hw : wantedA ops A o with
  | none => rw [hw] at hs; cases hs
  | some b =>
    rw [hw] at hs
    cases b with
    | false => simp only at hs ⊢; cases hs; rfl
    | true =>
      simp only at hs ⊢
      cases he : opA P (aeval A) h o with
      | none => rw [he] at hs; cases hs
      | some r =>
        obtain ⟨u, rfl, hall⟩ := pureOp_spec hl he
        rw [he] at hs
        simp only [Option.some.injEq, Prod.mk.injEq] at hs
        rw [hall h₂]
        simp only [hs.1]

/-- What the checks of a region have shown. -/
structure Drawn (R : Ran P E ops) : Prop where
  back : ∀ (i : Nat) o, ops[i]? = some o → ∀ e ∈ o.after.toList, Region.binds .any e = true → e.on < i
  apart : ∀ (i j : Nat) p o, i < j → ops[i]? = some p → ops[j]? = some o → aheadOf (Region.before ops) i j = true ∨
    (p.apart ops o = true ∧ (¬ (heavyOp p.op = true ∧ heavyOp o.op = true) ∨ (freshAt o = true ∧ ∀ (x : Nat) q, ops[x]? = some q → ∀ e ∈ q.after.toList, Region.binds .any e = true → e.on = j → aheadOf (Region.before ops) i x = true)))
  reads : ∀ (i j : Nat) p o, ops[i]? = some p → ops[j]? = some o → readOp p.op = true → heavyOp o.op = true → ¬ (if i < j then aheadOf (Region.before ops) i j else aheadOf (Region.before ops) j i) = true →
    wantedA ops (R.tm i) p = some false ∨ (wantedA ops (R.tm i) p = some true ∧ ∃ v h₁ h₂, opA P (aeval (R.tm i)) (R.hp j) p = some (.val v h₁) ∧ opA P (aeval (R.tm i)) (R.hp (j + 1)) p = some (.val v h₂))

theorem Ran.light (R : Ran P E ops) {k : Nat} {o : Oper} (ho : ops[k]? = some o) (hl : heavyOp o.op = false) : R.hp (k + 1) = R.hp k := stepVal_light hl (R.step k o ho).1

theorem Ran.const (R : Ran P E ops) (a : Nat) : ∀ (d : Nat), a + d ≤ ops.size → (∀ j o, a ≤ j → j < a + d → ops[j]? = some o → heavyOp o.op = false) → R.hp (a + d) = R.hp a
  | 0, _, _ => rfl
  | d + 1, hd, hl => by
    have ho : ops[a + d]? = some ops[a + d] := by simp [show a + d < ops.size by omega]
    rw [show a + (d + 1) = a + d + 1 by omega, R.light ho (hl _ _ (by omega) (by omega) ho)]
    exact Ran.const R a d (by omega) fun j o h1 h2 h3 => hl j o h1 (by omega) h3

theorem lookReady (R : Ran P E ops) (W : Drawn R) {D : Nat → Prop} {A : Array Value} {i : Nat} {o : Oper} (hc : Closed ops D) (hD : ¬ D i) (ho : ops[i]? = some o) (hci : ClosedOn ops D i)
    (hA : Slots R D A) : ∀ t ∈ o.looksAt ops, A[t]? = (R.tm i)[t]? := by
  have hi : i < ops.size := (Array.getElem?_eq_some_iff.1 ho).1
  have hdk : ∀ k t, dstOf ops k = some t → ∃ p, ops[k]? = some p ∧ p.dst = some t := by
    intro k t h
    unfold dstOf at h
    cases hp : ops[k]? with
    | none => rw [hp] at h; cases h
    | some p => rw [hp] at h; exact ⟨p, rfl, h⟩
  have later : ∀ k, i < k → D k → aheadOf (Region.before ops) i k = true → False := fun k _ hk ha => hD (ahead_closed (hc k hk) hc ha)
  intro t ht
  refine (hA.2 t).same ((R.slots i (Nat.le_of_lt hi)).2 t) fun k hk hkt => ?_
  obtain ⟨p, hp, hpd⟩ := hdk k t hkt
  rcases Nat.lt_trichotomy k i with hlt | rfl | hgt
  · rcases W.apart k i p o hlt hp ho with ha | ⟨ha, _⟩
    · exact ⟨fun _ => hlt, fun _ => ahead_closed hci hc ha⟩
    · exact absurd ht ((Oper.apart_spec ha).1 t hpd)
  · exact ⟨fun h => absurd h hD, fun h => absurd h (Nat.lt_irrefl _)⟩
  · rcases W.apart i k o p hgt ho hp with ha | ⟨ha, _⟩
    · exact ⟨fun h => (later k hgt h ha).elim, fun h => by omega⟩
    · exact absurd ht ((Oper.apart_spec ha).2.2 t hpd)

theorem stepReady (R : Ran P E ops) (W : Drawn R) {D : Nat → Prop} {A : Array Value} {m i : Nat} {o : Oper} (hc : Closed ops D) (hD : ¬ D i) (ho : ops[i]? = some o) (hci : ClosedOn ops D i)
    (hA : Slots R D A) (hm : m ≤ ops.size) (hmD : ∀ j p, ops[j]? = some p → heavyOp p.op = true → (D j ↔ j < m)) (hx : heavyOp o.op = true → i = m) :
    ∃ m', m' ≤ ops.size ∧ stepVal P E ops o A (R.hp m) = some (R.vals i, R.hp m') ∧ Slots R (fun k => D k ∨ k = i) (put A o.dst (R.vals i)) ∧
      (∀ j p, ops[j]? = some p → heavyOp p.op = true → ((D j ∨ j = i) ↔ j < m')) := by
  have hi : i < ops.size := (Array.getElem?_eq_some_iff.1 ho).1
  have hdst : o.dst = dstOf ops i := by simp [dstOf, ho]
  have hat : ∀ k, k < ops.size → ops[k]? = some (ops.getD k default) := by intro k hk; simp [Array.getD, hk]
  have hdk : ∀ k t, dstOf ops k = some t → ∃ p, ops[k]? = some p ∧ p.dst = some t := by
    intro k t h
    unfold dstOf at h
    cases hp : ops[k]? with
    | none => rw [hp] at h; cases h
    | some p => rw [hp] at h; exact ⟨p, rfl, h⟩
  -- one behind i that has been carried out is not behind it by the edges
  have later : ∀ k, i < k → D k → aheadOf (Region.before ops) i k = true → False := fun k _ hk ha => hD (ahead_closed (hc k hk) hc ha)
  -- the slots that it looks at
  have hlook : ∀ t ∈ o.looksAt ops, A[t]? = (R.tm i)[t]? := by
    intro t ht
    refine (hA.2 t).same ((R.slots i (Nat.le_of_lt hi)).2 t) fun k hk hkt => ?_
    obtain ⟨p, hp, hpd⟩ := hdk k t hkt
    rcases Nat.lt_trichotomy k i with hlt | rfl | hgt
    · rcases W.apart k i p o hlt hp ho with ha | ⟨ha, _⟩
      · exact ⟨fun _ => hlt, fun _ => ahead_closed hci hc ha⟩
      · exact absurd ht ((Oper.apart_spec ha).1 t hpd)
    · exact ⟨fun h => absurd h hD, fun h => absurd h (Nat.lt_irrefl _)⟩
    · rcases W.apart i k o p hgt ho hp with ha | ⟨ha, _⟩
      · exact ⟨fun h => (later k hgt h ha).elim, fun h => by omega⟩
      · exact absurd ht ((Oper.apart_spec ha).2.2 t hpd)
  have hput : Slots R (fun k => D k ∨ k = i) (put A o.dst (R.vals i)) := by
    rw [hdst]
    refine hA.put hi fun k hk hDk heq hne => ?_
    rcases Nat.lt_or_ge i k with hgt | hge
    · cases hdi : dstOf ops i with
      | none => exact absurd hdi hne
      | some t =>
        obtain ⟨p, hp, hpd⟩ := hdk k t (heq.trans hdi)
        rcases W.apart i k o p hgt ho hp with ha | ⟨ha, _⟩
        · exact (later k hgt hDk ha).elim
        · exact absurd hpd ((Oper.apart_spec ha).2.1 t (hdst.trans hdi))
    · exact hge
  have hstep := (R.step i o ho).1
  rw [stepVal_agree hlook]
  by_cases hh : heavyOp o.op = true
  · -- it writes: the heap is the one of the text's order
    obtain rfl := hx hh
    refine ⟨i + 1, hi, hstep, hput, fun j p hp hpv => ?_⟩
    rw [hmD j p hp hpv]
    omega
  · have hh' : heavyOp o.op = false := by simpa using hh
    refine ⟨m, hm, ?_, hput, fun j p hp hpv => ?_⟩
    · rcases light_cases hh' with hp | hp
      · exact stepVal_pure hp hstep
      · -- it reads
        have hstep' : stepVal P E ops o (R.tm i) (R.hp i) = some (R.vals i, R.hp i) := by rw [hstep, R.light ho hh']
        have turn : ∀ j q, ops[j]? = some q → (heavyOp q.op = true → ¬ (if i < j then aheadOf (Region.before ops) i j else aheadOf (Region.before ops) j i) = true) →
            (stepVal P E ops o (R.tm i) (R.hp j) = some (R.vals i, R.hp j) ↔ stepVal P E ops o (R.tm i) (R.hp (j + 1)) = some (R.vals i, R.hp (j + 1))) := by
          intro j q hq hun
          cases hqv : heavyOp q.op with
          | false => rw [R.light hq hqv]
          | true =>
            rcases W.reads i j o q ho hq hp hqv (hun hqv) with hw | ⟨hw, v, h₁, h₂, e1, e2⟩
            · simp only [stepVal, hw]; simp
            · obtain ⟨u1, f1⟩ := readOp_spec hp e1
              obtain ⟨u2, f2⟩ := readOp_spec hp e2
              cases f1; cases f2
              simp only [stepVal, hw, e1, e2]
              simp
        rcases Nat.le_total m i with hle | hle
        · have key : ∀ d, m + d ≤ i → stepVal P E ops o (R.tm i) (R.hp (i - d)) = some (R.vals i, R.hp (i - d)) := by
            intro d
            induction d with
            | zero => intro _; exact hstep'
            | succ d ih =>
              intro hd
              have h1 := ih (by omega)
              have hj := hat (i - (d + 1)) (by omega)
              rw [show i - d = i - (d + 1) + 1 by omega] at h1
              refine (turn _ _ hj fun hpv ha => ?_).2 h1
              rw [if_neg (by omega)] at ha
              have := (hmD _ _ hj hpv).1 (ahead_closed hci hc ha)
              omega
          have := key (i - m) (by omega)
          rwa [show i - (i - m) = m by omega] at this
        · have key : ∀ d, i + d ≤ m → stepVal P E ops o (R.tm i) (R.hp (i + d)) = some (R.vals i, R.hp (i + d)) := by
            intro d
            induction d with
            | zero => intro _; exact hstep'
            | succ d ih =>
              intro hd
              have h1 := ih (by omega)
              have hj := hat (i + d) (by omega)
              refine (turn _ _ hj fun hpv ha => ?_).1 h1
              have hDj := (hmD _ _ hj hpv).2 (by omega)
              by_cases hlt : i < i + d
              · rw [if_pos hlt] at ha; exact later _ hlt hDj ha
              · have : d = 0 := by omega
                subst this; exact hD hDj
          have := key (m - i) (by omega)
          rwa [show i + (m - i) = m by omega] at this
    · constructor
      · rintro (hDj | rfl)
        · exact (hmD j p hp hpv).1 hDj
        · rw [ho] at hp; cases hp; rw [hh'] at hpv; cases hpv
      · intro hj; exact .inl ((hmD j p hp hpv).2 hj)

/-! ### Out of the evaluator's checks -/
theorem trace_length {P : Program} {E : Env} {ops : Array Oper} : ∀ (l : List Oper) (s : St) (sts : List St), trace P E ops l s = some sts → sts.length = l.length + 1 ∧ sts[0]? = some s
  | [], s, sts, h => by simp only [trace, Option.some.injEq] at h; subst h; exact ⟨rfl, rfl⟩
  | o :: r, s, sts, h => by
    simp only [trace] at h
    split at h
    · rename_i s' hs'
      obtain ⟨sts', h1, rfl⟩ := Option.map_eq_some_iff.1 h
      obtain ⟨h2, _⟩ := trace_length r s' sts' h1
      exact ⟨by simp [h2], rfl⟩
    · cases h

theorem trace_step {P : Program} {E : Env} {ops : Array Oper} : ∀ (l : List Oper) (s : St) (sts : List St), trace P E ops l s = some sts → ∀ (k : Nat) o, l[k]? = some o →
    ∃ a b, sts[k]? = some a ∧ sts[k + 1]? = some b ∧ stepOp P E ops o a = some b
  | [], s, sts, h, k, o, hk => by simp at hk
  | p :: r, s, sts, h, k, o, hk => by
    simp only [trace] at h
    split at h
    · rename_i s' hs'
      obtain ⟨sts', h1, rfl⟩ := Option.map_eq_some_iff.1 h
      cases k with
      | zero =>
        simp at hk; subst hk
        exact ⟨s, s', rfl, by simpa using (trace_length r s' sts' h1).2, hs'⟩
      | succ k =>
        obtain ⟨a, b, e1, e2, e3⟩ := trace_step r s' sts' h1 k o (by simpa using hk)
        exact ⟨a, b, by simpa using e1, by simpa using e2, e3⟩
    · cases h

end
end Go.AE

/-
  AE, part 14: an operation, a round, operations in an order, regions: that they go as the evaluator says.
-/
namespace Go.AE
noncomputable section
set_option linter.unusedSimpArgs false
set_option linter.unusedVariables false
variable {P : Program} {E : Env} {ops : Array Oper} {ρ : Ren}

abbrev Fw (rr : Option Nat) : Fence := { Fence.wide with round := rr }

def exOf : Ex → Exit
  | .normal => .normal
  | .exit id => .exit id
  | .ret => .ret

/-- The marks of the loops over functions. -/
def DRel (ρ : Ren) (ds : List Nat) (xs : List Deferred) : Prop :=
  (∀ d ∈ ds, (ρ d).isSome = true) ∧ xs = ds.map fun d => { target := .collected (((ρ d).map (·.b)).getD 0), args := #[] }

theorem DRel.mono {ρ' : Ren} (h : Ren.Le ρ ρ') {ds : List Nat} {xs : List Deferred} (k : DRel ρ ds xs) : DRel ρ' ds xs := by
  have key : ∀ d ∈ ds, ρ' d = ρ d := by
    intro d hd
    obtain ⟨i, hi⟩ := Option.isSome_iff_exists.1 (k.1 d hd)
    rw [hi]; exact h d i hi
  refine ⟨fun d hd => by rw [key d hd]; exact k.1 d hd, ?_⟩
  rw [k.2]
  exact List.map_congr_left fun d hd => by rw [key d hd]

def RdRel (ρ : Ren) : Option Nat → Option Nat → Prop
  | none, none => True
  | some l, some l' => ∃ i, ρ l = some i ∧ i.b = l'
  | _, _ => False

theorem RdRel.mono {ρ' : Ren} (h : Ren.Le ρ ρ') {rd rr : Option Nat} (k : RdRel ρ rd rr) : RdRel ρ' rd rr := by
  cases rd <;> cases rr <;> first | exact k | (obtain ⟨i, e, r⟩ := k; exact ⟨i, h _ _ e, r⟩)

/-- What a call comes to. -/
def RetPost (ρ : Ren) (w : World) (v : Value) (h₁ : AH) (e : Ending) (w' : World) : Prop :=
  ∃ ρ' v', e = .returned v' ∧ Step ρ w ρ' w' ∧ Rel ρ' h₁ w'.heap ∧ V ρ' v v'

/-- What code comes to. -/
def Post (ρ : Ren) (w : World) (r : Ex × St) (e : Exit) (a' : Act) (w' : World) : Prop :=
  e = exOf r.1 ∧ ∃ ρ', Step ρ w ρ' w' ∧ Rel ρ' r.2.h w'.heap ∧ VS ρ' r.2.tmps a'.tmps ∧ DRel ρ' r.2.defers a'.defers

structure ESound (P : Program) (E : Env) : Prop where
  call : ∀ f args h v h₁, E.call f args h = some (v, h₁) → ∀ ρ w args' n, Rel ρ h w.heap → VS ρ args args' → CallsIn Fence.wide n P f args' w (RetPost ρ w v h₁)
  code : ∀ rd c s r, E.code rd c s = some r → ∀ ρ w a n rr, RdRel ρ rd rr → Rel ρ s.h w.heap → VS ρ s.tmps a.tmps → DRel ρ s.defers a.defers → Code.wpIn (Fw rr) n P c (Post ρ w r) a w

/-! ### A loop's record -/
theorem getLoop_run {b : Nat} {r : Loop} {w : World} (h : w.heap[b]? = some (.loop r)) : (Instr.getLoop b).run P w = .ok r w := by
  simp [Instr.getLoop, getObj, Sem.run, h]

theorem setObj_run {b : Nat} {o o' : Obj} {w : World} (h : w.heap[b]? = some o) (hn : ∀ c e f, o ≠ .cells c e f) : (setObj b o').run P w = .ok () { w with heap := w.heap.setIfInBounds b o' } := by
  cases o with
  | cells c e f => exact absurd rfl (hn c e f)
  | _ => simp only [setObj, Sem.run, h]

/-- The record is written anew. -/
theorem loop_set {h : AH} {w : World} {l : Nat} {i : Info} {st st' : LoopState} {pend pend' : Ex} {tmps : Array Value} {params : Array Tmp} {assign body : Code} {d : Nat} (hR : Rel ρ h w.heap)
    (hi : ρ l = some i) (hg : h.get l = some (.loop st pend tmps params assign body d)) :
    ∃ fn tmps' d', w.heap[i.b]? = some (.loop { state := st, pending := pend.code, fn, tmps := tmps', params, assign, body, defers := d' }) ∧ VS ρ tmps tmps' ∧
      Step ρ w ρ { w with heap := w.heap.setIfInBounds i.b (.loop { state := st', pending := pend'.code, fn, tmps := tmps', params, assign, body, defers := d' }) } ∧
      Rel ρ (h.set l (.loop st' pend' tmps params assign body d)) (w.heap.setIfInBounds i.b (.loop { state := st', pending := pend'.code, fn, tmps := tmps', params, assign, body, defers := d' })) := by
  obtain ⟨i', X, hi', hX, fn, tmps', d', j, rfl, hs, hro, hv, hj, hjb⟩ := hR.obj _ _ hg
  obtain rfl : i = i' := by rw [hi] at hi'; exact Option.some.inj hi'
  refine ⟨fn, tmps', d', hX, hv, Step.set hi hro _, Rel.setCells hR hg hi ⟨fn, tmps', d', j, rfl, hs, hro, hv, hj, hjb⟩⟩

theorem zip_fold_rel : ∀ (ts : List Tmp) (as as' : List Value) (A A' : Array Value), VS ρ as.toArray as'.toArray → VS ρ A A' →
    VS ρ ((ts.zip as).foldl (fun tmps (p : Tmp × Value) => tmps.setIfInBounds p.1 p.2) A) ((ts.zip as').foldl (fun tmps (p : Tmp × Value) => tmps.setIfInBounds p.1 p.2) A')
  | [], _, _, A, A', _, hA => by simpa using hA
  | t :: ts, [], as', A, A', ha, hA => by
    have : as' = [] := by have := ha.1; simp at this; exact List.length_eq_zero_iff.1 this.symm
    subst this; simpa using hA
  | t :: ts, v :: as, as', A, A', ha, hA => by
    cases as' with
    | nil => have := ha.1; simp at this
    | cons v' as' =>
      have h0 := ha.2 0 (by simp)
      simp only [List.zip_cons_cons, List.foldl_cons]
      refine zip_fold_rel ts as as' _ _ ⟨by have := ha.1; simpa using this, fun i hi => ?_⟩ (hA.set _ (by simpa using h0))
      have := ha.2 (i + 1) (by simp at hi ⊢; omega)
      simpa [Array.getD_eq_getD_getElem?] using this

theorem params_rel {params : Array Tmp} {args args' A A' : Array Value} (ha : VS ρ args args') (hA : VS ρ A A') :
    VS ρ ((params.zip args).foldl (fun tmps (t, a) => tmps.setIfInBounds t a) A) ((params.zip args').foldl (fun tmps (t, a) => tmps.setIfInBounds t a) A') := by
  have h1 := zip_fold_rel params.toList args.toList args'.toList A A' ha.tl2 hA
  rw [← Array.foldl_toList, ← Array.foldl_toList, Array.toList_zip, Array.toList_zip]
  exact h1

theorem round_sound (hE : ESound P E) {l : Nat} {args args' : Array Value} {h h₁ : AH} {v : Value} {w : World} {i : Info} (hs : roundA E l args h = some (v, h₁)) (hR : Rel ρ h w.heap) (hi : ρ l = some i)
    (ha : VS ρ args args') : ∃ f tmps assign body, (Instr.yield i.b args').run P w = .ok (.round i.b f tmps assign body) w ∧ ∀ n, RoundIn Fence.wide n P i.b f tmps assign body w (RetPost ρ w v h₁) := by
  unfold roundA at hs
  split at hs
  · rename_i st pend tmps params assign body d hg
    split at hs
    · cases hs
    rename_i hsz
    split at hs
    · rename_i s₁ hc1
      split at hs
      · rename_i pend₁ tmps₁ params₁ assign₁ body₁ d₁ hg1
        split at hs
        · rename_i ex s₂ hc2
          obtain ⟨fn, tmps', d', hX, hv, _, _⟩ := loop_set (st' := st) (pend' := pend) hR hi hg
          refine ⟨fn, (params.zip args').foldl (fun tmps (t, a) => tmps.setIfInBounds t a) tmps', assign, body, ?_, fun n => ?_⟩
          · have hsz' : ¬ args'.size ≠ params.size := by have := ha.1; omega
            simp only [Instr.yield, Sem.run_bind, getLoop_run hX, Result.andThen_ok, hsz', if_false, Sem.run_pure]
          · refine roundIn_of_wpIn (F := Fence.wide) trivial ?_
            have hw1 := hE.code (some l) assign _ _ hc1 ρ w { tmps := (params.zip args').foldl (fun tmps (t, a) => tmps.setIfInBounds t a) tmps', defers := [] } n (some i.b) ⟨i, hi, rfl⟩ hR
              (params_rel ha hv) ⟨fun d hd => (by cases hd), rfl⟩
            refine wpIn_mono hw1 ?_
            rintro e a₁ w₁ ⟨rfl, ρ₁, hst1, hR1, hv1, hd1⟩
            have hi1 := hst1.le _ _ hi
            obtain ⟨fn₁, tmps₁', d₁', hX1, hvv1, hstb, hRb⟩ := loop_set (st' := .busy) (pend' := pend₁) hR1 hi1 hg1
            refine ⟨{ w₁ with heap := w₁.heap.setIfInBounds i.b (.loop { state := .busy, pending := pend₁.code, fn := fn₁, tmps := tmps₁', params := params₁, assign := assign₁, body := body₁, defers := d₁' }) }, ?_, ?_⟩
            · simp only [Instr.beginRound, Sem.run_bind, getLoop_run hX1, Result.andThen_ok, setObj_run hX1 (by intro c e f he; cases he), Sem.run_pure]
            · have hw2 := hE.code (some l) body _ _ hc2 ρ₁ { w₁ with heap := w₁.heap.setIfInBounds i.b (.loop { state := .busy, pending := pend₁.code, fn := fn₁, tmps := tmps₁', params := params₁, assign := assign₁, body := body₁, defers := d₁' }) } a₁ n (some i.b) ⟨i, hi1, rfl⟩ hRb hv1 hd1
              refine wpIn_mono hw2 ?_
              rintro e a₂ w₂ ⟨rfl, ρ₂, hst2, hR2, hv2, hd2⟩
              have hi2 := hst2.le _ _ hi1
              split at hs
              · rename_i st₂ pend₂ tmps₂ params₂ assign₂ body₂ d₂ hg2
                cases ex with
                | normal =>
                  simp only [Option.some.injEq, Prod.mk.injEq] at hs
                  obtain ⟨rfl, rfl⟩ := hs
                  obtain ⟨fn₂, tmps₂', d₂', hX2, hvv2, hste, hRe⟩ := loop_set (st' := .ready) (pend' := .normal) hR2 hi2 hg2
                  refine ⟨.bool true, _, ?_, ρ₂, .bool true, rfl, ((hst1.trans hstb).trans hst2).trans hste, hRe, .bool true⟩
                  simp only [Instr.endRound, Sem.run_bind, getLoop_run hX2, Result.andThen_ok, setObj_run hX2 (by intro c e f he; cases he), Sem.run_pure]; rfl
                | exit id =>
                  simp only [Option.some.injEq, Prod.mk.injEq] at hs
                  obtain ⟨rfl, rfl⟩ := hs
                  obtain ⟨fn₂, tmps₂', d₂', hX2, hvv2, hste, hRe⟩ := loop_set (st' := .done) (pend' := .exit id) hR2 hi2 hg2
                  refine ⟨.bool false, _, ?_, ρ₂, .bool false, rfl, ((hst1.trans hstb).trans hst2).trans hste, hRe, .bool false⟩
                  simp only [Instr.endRound, Sem.run_bind, getLoop_run hX2, Result.andThen_ok, setObj_run hX2 (by intro c e f he; cases he), Sem.run_pure]; rfl
                | ret =>
                  simp only [Option.some.injEq, Prod.mk.injEq] at hs
                  obtain ⟨rfl, rfl⟩ := hs
                  obtain ⟨fn₂, tmps₂', d₂', hX2, hvv2, hste, hRe⟩ := loop_set (st' := .done) (pend' := .ret) hR2 hi2 hg2
                  refine ⟨.bool false, _, ?_, ρ₂, .bool false, rfl, ((hst1.trans hstb).trans hst2).trans hste, hRe, .bool false⟩
                  simp only [Instr.endRound, Sem.run_bind, getLoop_run hX2, Result.andThen_ok, setObj_run hX2 (by intro c e f he; cases he), Sem.run_pure]; rfl
              · cases hs
        · cases hs
      · cases hs
    · cases hs
  · cases hs

/-! ### One operation -/
theorem yieldedA_sim {A B : Array Value} {j : Nat} {r : Option Bool} (hv : VS ρ A B) (h : yieldedA ops A j = some r) : yielded ops B j = r := by
  unfold yieldedA at h
  unfold yielded
  cases hd : (ops[j]?).bind (·.dst) with
  | none => rw [hd] at h; simp only [Option.some.injEq] at h; subst h; rfl
  | some d =>
    rw [hd] at h
    simp only at h
    simp only [Option.bind_some]
    split at h
    · rename_i hA
      cases h
      have hlt : ¬ d < A.size := by simpa using hA
      have hlt' : ¬ d < B.size := by rw [← hv.1]; exact hlt
      simp [Array.getElem?_eq_none (Nat.le_of_not_lt hlt')]
    · rename_i b hA
      cases h
      obtain ⟨v', hB, hV⟩ := getD_some hv hA
      cases hV
      rw [hB]
    · rename_i cs hA
      split at h
      · cases h
      · rename_i hne
        cases h
        obtain ⟨v', hB, hV⟩ := getD_some hv hA
        rw [hB]
        cases hV with
        | any v => exact absurd rfl hne
        | tuple _ cs' _ hc k => rfl
        | over => rfl
    · rename_i v hnb hnt hA
      cases h
      obtain ⟨v', hB, hV⟩ := getD_some hv hA
      rw [hB]
      cases hV <;> first | rfl | (exact (hnb _ rfl).elim) | (exact (hnt _ rfl).elim)

theorem wantedA_sim {A B : Array Value} {o : Oper} {b : Bool} (hv : VS ρ A B) (h : wantedA ops A o = some b) : Region.wanted o (yielded ops B) = b := by
  unfold wantedA at h
  unfold Region.wanted
  split at h
  · cases h; rename_i hg; rw [hg]
  · rename_i j want hg
    rw [hg]
    obtain ⟨r, hr, rfl⟩ := Option.map_eq_some_iff.1 h
    simp only [yieldedA_sim hv hr]

theorem opA_defer {e : Operand → Value} {h : AH} {o : Oper} {r : AR} (hs : opA P e h o = some r) : ∀ c, o.op ≠ .defer c := by
  intro c hc
  simp only [opA, hc] at hs
  cases hs

theorem wpOp_sound (hE : ESound P E) (hq : Quiet P) {i n : Nat} {o : Oper} {A : Array Value} {h h₁ : AH} {v : Value} {a : Act} {w : World} {rr : Option Nat} {Q : Exit → Act → World → Prop} {K : Act → World → Prop}
    (ho : ops[i]? = some o) (hs : stepVal P E ops o A h = some (v, h₁)) (hA : VS ρ A a.tmps) (hR : Rel ρ h w.heap)
    (hK : ∀ ρ₁ v' w₁, Step ρ w ρ₁ w₁ → Rel ρ₁ h₁ w₁.heap → V ρ₁ v v' → K (a.put o.dst v') w₁) : wpOpIn (Fw rr) n P ops Q i K a w := by
  unfold wpOpIn
  simp only [ho]
  unfold stepVal at hs
  split at hs
  · rename_i hw
    rw [wantedA_sim hA hw]
    simp only [if_true]
    refine ⟨fun f _ => trivial, ?_⟩
    have hsim : ∀ r, opA P (aeval A) h o = some r → OpSim P ρ w (execOp a.eval o) r := fun r hr => opA_sim hq (fun x => aeval_sim (ds := a.defers) hA x) hR hr
    have hsem : ∀ r, opA P (aeval A) h o = some r → o.semAt rr a.eval = execOp a.eval o := fun r hr => Oper.semAt_eq _ _ _ (opA_defer hr)
    split at hs
    · rename_i u hh he
      cases hs
      obtain ⟨ρ', v', w', hrun, h2, h3, h4⟩ := hsim _ he
      rw [hsem _ he, hrun]
      exact hK ρ' v' w' h2 h3 h4
    · rename_i hh he
      cases hs
      obtain ⟨ρ', w', hrun, h2, h3⟩ := hsim _ he
      rw [hsem _ he, hrun]
      exact hK ρ' undef w' h2 h3 V.undef
    · rename_i f args he
      obtain ⟨args', hrun, h2⟩ := hsim _ he
      rw [hsem _ he, hrun]
      refine ⟨fun hd => (by cases hd), ?_⟩
      have hc := hE.call f args h v h₁ hs ρ w args' (n - 1) hR h2
      have hc' : CallsIn (Fw rr) (n - 1) P f args' w (RetPost ρ w v h₁) := hc
      refine hc'.mono ?_
      rintro e w' ⟨ρ', v', rfl, h3, h4, h5⟩
      exact hK ρ' v' w' h3 h4 h5
    · rename_i l args he
      obtain ⟨i', args', hi', h2, hrun⟩ := hsim _ he
      obtain ⟨f, tmps, assign, body, hy, hround⟩ := round_sound hE hs hR hi' h2
      rw [hsem _ he, hrun, hy]
      refine ⟨fun hd => (by cases hd), ?_⟩
      have hc' : RoundIn (Fw rr) (n - 1) P i'.b f tmps assign body w (RetPost ρ w v h₁) := hround (n - 1)
      refine hc'.mono ?_
      rintro e w' ⟨ρ', v', rfl, h3, h4, h5⟩
      exact hK ρ' v' w' h3 h4 h5
    · cases hs
  · rename_i hw
    cases hs
    rw [wantedA_sim hA hw]
    simp only [Bool.false_eq_true, if_false]
    exact ⟨fun f _ => trivial, hK ρ undef w (Step.refl ρ w) hR V.undef⟩
  · cases hs

theorem put_rel {A B : Array Value} {v v' : Value} (hA : VS ρ A B) (hv : V ρ v v') (d : Option Tmp) : VS ρ (put A d v) ((Act.mk B []).put d v').tmps := by
  cases d with
  | none => exact hA
  | some d => exact hA.set d hv

theorem put_rel' {A : Array Value} {a : Act} {v v' : Value} (hA : VS ρ A a.tmps) (hv : V ρ v v') (d : Option Tmp) : VS ρ (put A d v) (a.put d v').tmps := by
  cases d with
  | none => exact hA
  | some d => exact hA.set d hv

theorem put_defers (a : Act) (d : Option Tmp) (v : Value) : (a.put d v).defers = a.defers := by cases d <;> rfl

/-! ### In the text's order -/
theorem runList_sound (hE : ESound P E) (hq : Quiet P) {n : Nat} {rr : Option Nat} {Q : Exit → Act → World → Prop} : ∀ (l : List Nat) (s s' : St), runList P E ops l s = some s' → ∀ (ρ : Ren) (w : World) (a : Act), Rel ρ s.h w.heap →
    VS ρ s.tmps a.tmps → DRel ρ s.defers a.defers → (∀ ρ' a' w', Step ρ w ρ' w' → Rel ρ' s'.h w'.heap → VS ρ' s'.tmps a'.tmps → DRel ρ' s'.defers a'.defers → Q .normal a' w') → wpOpsIn (Fw rr) n P ops Q l a w
  | [], s, s', hs, ρ, w, a, hR, hA, hD, hQ => by
    simp only [runList, Option.some.injEq] at hs
    subst hs
    exact hQ ρ a w (Step.refl ρ w) hR hA hD
  | i :: r, s, s', hs, ρ, w, a, hR, hA, hD, hQ => by
    simp only [runList] at hs
    rw [wpOpsIn_cons]
    cases ho : ops[i]? with
    | none =>
      rw [ho] at hs
      simp only at hs
      unfold wpOpIn
      simp only [ho]
      exact runList_sound hE hq r s s' hs ρ w a hR hA hD hQ
    | some o =>
      rw [ho] at hs
      simp only at hs
      split at hs
      · rename_i s₁ hs1
        unfold stepOp at hs1
        split at hs1
        · rename_i v h₁ hv
          cases hs1
          refine wpOp_sound hE hq ho hv hA hR fun ρ₁ v' w₁ hst hR1 hV => ?_
          refine runList_sound hE hq r _ s' hs ρ₁ w₁ _ hR1 (put_rel' (hA.mono hst.le) hV o.dst) (by rw [put_defers]; exact hD.mono hst.le) fun ρ' a' w' h1 h2 h3 h4 => ?_
          exact hQ ρ' a' w' (hst.trans h1) h2 h3 h4
        · cases hs1
      · cases hs

end
end Go.AE

/-
  AE, part 15: a region whose order is open goes as the evaluator says.
-/
namespace Go.AE
noncomputable section
set_option linter.unusedSimpArgs false
set_option linter.unusedVariables false
variable {P : Program} {E : Env} {ops : Array Oper} {ρ : Ren}

/-- The run that a trace tells of. -/
def ranVal (P : Program) (E : Env) (ops : Array Oper) (sts : List St) (s : St) (k : Nat) : Value :=
  match ops[k]? with
  | some o => match stepVal P E ops o ((sts[k]?).getD s).tmps ((sts[k]?).getD s).h with
    | some (v, _) => v
    | none => undef
  | none => undef

theorem stepOp_inv {o : Oper} {a b : St} (h : stepOp P E ops o a = some b) : ∃ v h', stepVal P E ops o a.tmps a.h = some (v, h') ∧ b = { a with tmps := put a.tmps o.dst v, h := h' } := by
  unfold stepOp at h
  split at h
  · rename_i v h' hv; cases h; exact ⟨v, h', hv, rfl⟩
  · cases h

def ranOf (s : St) (sts : List St) (ht : trace P E ops ops.toList s = some sts) : Ran P E ops where
  tm := fun k => ((sts[k]?).getD s).tmps
  hp := fun k => ((sts[k]?).getD s).h
  vals := ranVal P E ops sts s
  step := fun k o ho => by
    obtain ⟨a, b, e1, e2, e3⟩ := trace_step ops.toList s sts ht k o (by simpa using ho)
    obtain ⟨v, h', hv, rfl⟩ := stepOp_inv e3
    simp only [e1, e2, Option.getD_some, ranVal, ho, hv]
    exact ⟨trivial, trivial⟩

theorem trace_defers {l : List Oper} : ∀ {s : St} {sts : List St}, trace P E ops l s = some sts → ∀ x ∈ sts, x.defers = s.defers := by
  induction l with
  | nil => intro s sts h x hx; simp only [trace, Option.some.injEq] at h; subst h; simp at hx; rw [hx]
  | cons o r ih =>
    intro s sts h x hx
    simp only [trace] at h
    split at h
    · rename_i s' hs'
      obtain ⟨sts', h1, rfl⟩ := Option.map_eq_some_iff.1 h
      obtain ⟨v, h', hv, rfl⟩ := stepOp_inv hs'
      rcases List.mem_cons.1 hx with rfl | hx
      · rfl
      · exact ih h1 x hx
    · cases h

theorem zipIdx_mem {o : Oper} {i : Nat} (h : ops[i]? = some o) : (o, i) ∈ ops.toList.zipIdx := by
  rw [List.mem_zipIdx_iff_getElem?]
  simpa using h

theorem drawnOf {s : St} {sts : List St} (ht : trace P E ops ops.toList s = some sts) (h1 : drawStatic ops = true) (h2 : (drawPairs ops).all (sameRead P ops sts) = true) : Drawn (ranOf s sts ht) := by
  simp only [drawStatic, Bool.and_eq_true] at h1
  obtain ⟨hb, ha⟩ := h1
  refine ⟨fun i o ho e he hbd => ?_, fun i j p o hij hp ho => ?_, fun i j p o hp ho hr hh hun => ?_⟩
  · have := List.all_eq_true.1 hb _ (zipIdx_mem ho)
    have := List.all_eq_true.1 this e he
    simpa [hbd] using this
  · have := List.all_eq_true.1 ha _ (zipIdx_mem ho)
    have := List.all_eq_true.1 this _ (zipIdx_mem hp)
    simp only [hij, decide_true, Bool.not_true, Bool.false_or, Bool.or_eq_true, Bool.and_eq_true, Bool.not_eq_true', Bool.and_eq_false_iff] at this
    rcases this with h | ⟨h, h'⟩
    · exact .inl h
    · refine .inr ⟨h, ?_⟩
      rcases h' with h' | ⟨h1, h2⟩
      · left
        rintro ⟨x, y⟩
        rcases h' with h' | h'
        · rw [x] at h'; cases h'
        · rw [y] at h'; cases h'
      · right
        refine ⟨h1, fun x q hq e he hb hon => ?_⟩
        have := List.all_eq_true.1 h2 _ (zipIdx_mem hq)
        simp only [Bool.or_eq_true, Bool.not_eq_true'] at this
        rcases this with h | h
        · exfalso
          have h3 := List.any_eq_false.1 h e he
          simp [hb, hon] at h3
        · exact h
  · have hmem : (i, j) ∈ drawPairs ops := by
      simp only [drawPairs, List.mem_flatMap, List.mem_filter, List.mem_map]
      refine ⟨(p, i), ⟨zipIdx_mem hp, hr⟩, (o, j), ⟨zipIdx_mem ho, ?_⟩, rfl⟩
      simp only [hh, Bool.true_and, Bool.not_eq_true']
      simpa using hun
    have hs := List.all_eq_true.1 h2 _ hmem
    obtain ⟨a, b, e1, e2, e3⟩ := trace_step ops.toList s sts ht j o (by simpa using ho)
    obtain ⟨a', b', f1, f2, f3⟩ := trace_step ops.toList s sts ht i p (by simpa using hp)
    simp only [sameRead, hp, f1, e1, e2] at hs
    simp only [ranOf, f1, e1, e2, Option.getD_some]
    cases hw : wantedA ops a'.tmps p with
    | none => rw [hw] at hs; cases hs
    | some t =>
      cases t with
      | false => exact .inl rfl
      | true =>
        rw [hw] at hs
        simp only at hs
        refine .inr ⟨rfl, ?_⟩
        split at hs
        · rename_i v hh1 v' hh2 g1 g2
          have := veq_eq hs
          subst this
          exact ⟨v, hh1, hh2, g1, g2⟩
        · cases hs

/-- How many have not been carried out. -/
def unlisted (n : Nat) (listed : Array Bool) : Nat := ((List.range n).filter fun k => !listed.getD k true).length

theorem unlisted_set {n i : Nat} {listed : Array Bool} (hn : listed.size = n) (hi : i < n) (hu : listed.getD i true = false) : unlisted n (listed.setIfInBounds i true) < unlisted n listed := by
  unfold unlisted
  have h1 : ∀ k, k < n → (listed.setIfInBounds i true).getD k true = if k = i then true else listed.getD k true := by
    intro k hk
    simp only [Array.getD_eq_getD_getElem?, Array.getElem?_setIfInBounds]
    by_cases e : i = k
    · subst e; simp [hn, hi]
    · simp [e, Ne.symm e]
  have h2 : ((List.range n).filter fun k => !(listed.setIfInBounds i true).getD k true) = ((List.range n).filter fun k => !listed.getD k true).filter (fun k => decide (k ≠ i)) := by
    rw [List.filter_filter]
    apply List.filter_congr
    intro k hk
    rw [h1 k (List.mem_range.1 hk)]
    by_cases e : k = i <;> simp [e]
  rw [h2]
  have hmem : i ∈ (List.range n).filter fun k => !listed.getD k true := by
    simp only [List.mem_filter, List.mem_range]; exact ⟨hi, by simp only [hu]; rfl⟩
  have := List.length_filter_lt_length_iff_exists (p := fun k => decide (k ≠ i)) (l := (List.range n).filter fun k => !listed.getD k true)
  exact this.2 ⟨i, hmem, by simp⟩

/-- A block that was made ahead of its time: nobody names it yet; it lies as it was made. -/
def Pend (R : Ran P E ops) (ρ : Ren) (w₀ w : World) (B : Array Value) (k b : Nat) : Prop :=
  ∃ (o : Oper) (f : Nat → Value) (ob : AObj) (g : Nat → Value) (ob' : Obj) (inf : Nat → Info), ops[k]? = some o ∧ freshAt o = true ∧ R.hp (k + 1) = (R.hp k).push ob ∧ R.vals k = f (R.hp k).next ∧
    (inf b).b = b ∧ w₀.heap.size ≤ b ∧ w.heap[b]? = some ob' ∧ (∀ β i, ρ β = some i → i.b ≠ b) ∧ (∀ d, o.dst = some d → d < B.size → B.getD d undef = g b) ∧
    ∀ (ρ' : Ren) (β : Nat), Ren.Le ρ ρ' → ρ' β = some (inf b) → ORel ρ' (inf b) ob ob' ∧ V ρ' (f β) (g b)

theorem Pend.mono {R : Ran P E ops} {ρ ρ₁ : Ren} {w₀ w w₁ : World} {B B₁ : Array Value} {k b : Nat} (h : Pend R ρ w₀ w B k b) (hst : Step ρ w ρ₁ w₁) (hsz : B₁.size = B.size)
    (hB : ∀ o d, ops[k]? = some o → o.dst = some d → B₁.getD d undef = B.getD d undef) : Pend R ρ₁ w₀ w₁ B₁ k b := by
  obtain ⟨o, f, ob, g, ob', inf, h1, h2, h3, h4, h5, h6, h7, h8, h9, h10⟩ := h
  have hlt := (Array.getElem?_eq_some_iff.1 h7).1
  refine ⟨o, f, ob, g, ob', inf, h1, h2, h3, h4, h5, h6, ?_, fun β i hi e => ?_, fun d hd hs => ?_, fun ρ' β hle hβ => h10 ρ' β (hst.le.trans hle) hβ⟩
  · rw [hst.frame b hlt fun β i hi e => absurd e (h8 β i hi)]; exact h7
  · obtain ⟨γ, j, hj, hjb, _⟩ := hst.old β i hi (by rw [e]; exact hlt)
    exact h8 γ j hj (hjb.trans e)
  · rw [hB o d h1 hd]; exact h9 d hd (by rw [← hsz]; exact hs)

theorem Step.push {ρ : Ren} {w : World} (ob : Obj) : Step ρ w ρ { w with heap := w.heap.push ob } where
  le := .refl ρ
  old := fun β i h _ => ⟨β, i, h, rfl, id⟩
  os := rfl
  tape := rfl
  output := rfl
  size := by simp
  frame := fun b hb _ => by simp [Array.getElem?_push_lt hb]

theorem Rel.pushed {ρ : Ren} {h : AH} {A : Array Obj} (hR : Rel ρ h A) (o : Obj) : Rel ρ h (A.push o) where
  lt := fun β i hi => by have := hR.lt β i hi; simp; omega
  obj := fun β o' ho' => by
    obtain ⟨i, b, hi, hb, hO⟩ := hR.obj β o' ho'
    refine ⟨i, b, hi, ?_, hO⟩
    rw [Array.getElem?_push_lt (hR.lt β i hi).1]
    simpa using (Array.getElem?_eq_some_iff.1 hb).2
  inj := hR.inj

/-- A block that lies there gets a name. -/
theorem Rel.named {ρ : Ren} {h : AH} {A : Array Obj} (hR : Rel ρ h A) {i : Info} {ob : AObj} {ob' : Obj} (hb : A[i.b]? = some ob') (hn : ∀ β j, ρ β = some j → j.b ≠ i.b)
    (hO : ORel (ρ.put h.next i) i ob ob') : Rel (ρ.put h.next i) (h.push ob) A where
  lt := fun β j hj => by
    simp only [Ren.put] at hj
    split at hj
    · cases hj; rename_i e; subst e; exact ⟨(Array.getElem?_eq_some_iff.1 hb).1, by simp⟩
    · have := hR.lt β j hj; simp; omega
  obj := fun β p hp => by
    rw [AH.get_push] at hp
    split at hp
    · rename_i e; subst e; cases hp
      exact ⟨i, ob', by simp [Ren.put], hb, hO⟩
    · rename_i e
      obtain ⟨j, b', hj, hb', hO'⟩ := hR.obj β p hp
      exact ⟨j, b', by simp [Ren.put, e, hj], hb', hO'.mono (Ren.le_put hR i)⟩
  inj := fun β γ o' p' k l ho hp hk hl e => by
    rw [AH.get_push] at ho hp
    simp only [Ren.put] at hk hl
    by_cases e1 : β = h.next
    · by_cases e2 : γ = h.next
      · rw [e1, e2]
      · simp only [e1, if_true] at hk; simp only [e2, if_false] at hl
        cases hk
        exact absurd e.symm (hn γ l hl)
    · by_cases e2 : γ = h.next
      · simp only [e2, if_true] at hl; simp only [e1, if_false] at hk
        cases hl
        exact absurd e (hn β k hk)
      · simp only [e1, e2, if_false] at ho hp hk hl
        exact hR.inj β γ o' p' k l ho hp hk hl e

/-- Carried out, as the evaluator sees it: of those that write, what lies ahead of m. -/
def Seen (ops : Array Oper) (D : Nat → Prop) (m k : Nat) : Prop := D k ∧ ∀ p, ops[k]? = some p → heavyOp p.op = true → k < m

structure Inv (R : Ran P E ops) (ds : List Nat) (ρ₀ : Ren) (w₀ : World) (D : Nat → Prop) (m : Nat) (A : Array Value) (ρ : Ren) (w : World) (a : Act) (pb : Nat → Nat) : Prop where
  i1 : m ≤ ops.size
  i2 : ∀ (k : Nat) p, ops[k]? = some p → heavyOp p.op = true → k < m → D k
  i3 : ∀ (k : Nat) p, ops[k]? = some p → heavyOp p.op = true → m ≤ k → D k → Pend R ρ w₀ w a.tmps k (pb k)
  i4 : ∀ (k j : Nat) p q, ops[k]? = some p → heavyOp p.op = true → m ≤ k → D k → ops[j]? = some q → heavyOp q.op = true → m ≤ j → D j → k ≠ j → pb k ≠ pb j
  i5 : Slots R (Seen ops D m) A
  i6 : A.size = a.tmps.size ∧ ∀ t, t < A.size → (∃ (k : Nat) (p : Oper), ops[k]? = some p ∧ heavyOp p.op = true ∧ m ≤ k ∧ D k ∧ p.dst = some t) ∨ V ρ (A.getD t undef) (a.tmps.getD t undef)
  i7 : Step ρ₀ w₀ ρ w
  i8 : Rel ρ (R.hp m) w.heap
  i9 : DRel ρ ds a.defers
  i10 : Closed ops (Seen ops D m)

def NF (ops : Array Oper) (D : Nat → Prop) (m : Nat) : Prop := ∀ p, ops[m]? = some p → heavyOp p.op = true ∧ ¬ D m

theorem getD_put (B : Array Value) (d : Option Tmp) (v : Value) (t : Nat) (ht : t < B.size) : (put B d v).getD t undef = if d = some t then v else B.getD t undef := by
  simp only [Array.getD_eq_getD_getElem?, put_get, ht, if_true]
  split <;> rfl

theorem act_put (a : Act) (d : Option Tmp) (v : Value) : (a.put d v).tmps = put a.tmps d v := by cases d <;> rfl

theorem light_fresh {o : Oper} (h : freshAt o = true) : heavyOp o.op = true := by
  obtain ⟨dst, op, type, pos, after, guard⟩ := o
  unfold freshAt at h
  cases op <;> simp only [freshOp, Bool.false_and] at h <;> first | (cases h; done) | rfl

/-- What can be seen is seen. -/
theorem Inv.saturate {R : Ran P E ops} (W : Drawn R) {ds : List Nat} {ρ₀ : Ren} {w₀ : World} {D : Nat → Prop} (hcD : Closed ops D) {w : World} {a : Act} {pb : Nat → Nat} : ∀ (d m : Nat) (A : Array Value) (ρ : Ren), ops.size - m ≤ d →
    Inv R ds ρ₀ w₀ D m A ρ w a pb → ∃ m' A' ρ', Inv R ds ρ₀ w₀ D m' A' ρ' w a pb ∧ NF ops D m' := by
  intro d
  induction d with
  | zero =>
    intro m A ρ hd I
    refine ⟨m, A, ρ, I, fun p hp => ?_⟩
    have := (Array.getElem?_eq_some_iff.1 hp).1
    omega
  | succ d ih =>
    intro m A ρ hd I
    cases hm : ops[m]? with
    | none => exact ⟨m, A, ρ, I, fun p hp => by rw [hm] at hp; cases hp⟩
    | some o =>
    have hlt := (Array.getElem?_eq_some_iff.1 hm).1
    cases hh : heavyOp o.op with
    | false =>
      have same : ∀ k, Seen ops D m k ↔ Seen ops D (m + 1) k := fun k => by
        constructor
        · rintro ⟨h1, h2⟩; exact ⟨h1, fun p hp hpv => by have := h2 p hp hpv; omega⟩
        · rintro ⟨h1, h2⟩
          refine ⟨h1, fun p hp hpv => ?_⟩
          have := h2 p hp hpv
          rcases Nat.lt_or_ge k m with h | h
          · exact h
          · have : k = m := by omega
            subst this; rw [hm] at hp; cases hp; rw [hh] at hpv; cases hpv
      have ne : ∀ k p, ops[k]? = some p → heavyOp p.op = true → k ≠ m := fun k p hp hpv e => by subst e; rw [hm] at hp; cases hp; rw [hh] at hpv; cases hpv
      refine ih (m + 1) A ρ (by omega) ⟨hlt, fun k p hp hpv hk => I.i2 k p hp hpv (by have := ne k p hp hpv; omega), fun k p hp hpv hk => I.i3 k p hp hpv (by omega), fun k j p q hp hpv hk hD hq hqv hj => I.i4 k j p q hp hpv (by omega) hD hq hqv (by omega),
        I.i5.congr fun k _ => same k, ⟨I.i6.1, fun t ht => ?_⟩, I.i7, by rw [R.light hm hh]; exact I.i8, I.i9, fun i hi o' ho' e he hb => (same _).1 (I.i10 i ((same i).2 hi) o' ho' e he hb)⟩
      rcases I.i6.2 t ht with ⟨k, p, hp, hpv, hk, h⟩ | h
      · exact .inl ⟨k, p, hp, hpv, by have := ne k p hp hpv; omega, h⟩
      · exact .inr h
    | true =>
      by_cases hD : D m
      · obtain ⟨o', f, ob, g, ob', inf, h1, h2, h3, h4, h5, h6, h7, h8, h9, h10⟩ := I.i3 m o hm hh (Nat.le_refl m) hD
        rw [hm] at h1; cases h1
        have hle := Ren.le_put I.i8 (inf (pb m))
        have hput : (ρ.put (R.hp m).next (inf (pb m))) (R.hp m).next = some (inf (pb m)) := by simp [Ren.put]
        obtain ⟨hO, hV⟩ := h10 _ _ hle hput
        have hRn : Rel (ρ.put (R.hp m).next (inf (pb m))) (R.hp (m + 1)) w.heap := by
          rw [h3]
          exact I.i8.named (by rw [h5]; exact h7) (fun β j hj => by rw [h5]; exact h8 β j hj) hO
        have hdst : o.dst = dstOf ops m := by simp [dstOf, hm]
        have seen : ∀ k, (Seen ops D m k ∨ k = m) ↔ Seen ops D (m + 1) k := fun k => by
          constructor
          · rintro (⟨h1, h2⟩ | rfl)
            · exact ⟨h1, fun p hp hpv => by have := h2 p hp hpv; omega⟩
            · exact ⟨hD, fun p hp hpv => by omega⟩
          · rintro ⟨h1, h2⟩
            by_cases e : k = m
            · exact .inr e
            · exact .inl ⟨h1, fun p hp hpv => by have := h2 p hp hpv; omega⟩
        have hsl : Slots R (Seen ops D (m + 1)) (put A o.dst (R.vals m)) := by
          rw [hdst]
          refine (I.i5.put hlt fun k hk hS heq hne => ?_).congr fun k _ => seen k
          rcases Nat.lt_or_ge m k with hgt | hge
          · exfalso
            cases hdi : dstOf ops m with
            | none => exact absurd hdi hne
            | some t =>
              have hp : ops[k]? = some ops[k] := by simp [hk]
              have hpd : ops[k].dst = some t := by have := heq.trans hdi; simpa [dstOf, hp] using this
              rcases W.apart m k o _ hgt hm hp with ha | ⟨ha, _⟩
              · have := (ahead_closed (I.i10 k hS) I.i10 ha).2 o hm hh; omega
              · exact absurd hpd ((Oper.apart_spec ha).2.1 t (hdst.trans hdi))
          · exact hge
        refine ih (m + 1) (put A o.dst (R.vals m)) (ρ.put (R.hp m).next (inf (pb m))) (by omega) ⟨hlt, fun k p hp hpv hk => ?_, fun k p hp hpv hk hDk => ?_, fun k j p q hp hpv hk hDk hq hqv hj => I.i4 k j p q hp hpv (by omega) hDk hq hqv (by omega),
          hsl, ⟨by rw [put_size]; exact I.i6.1, fun t ht => ?_⟩, ?_, hRn, I.i9.mono hle, ?_⟩
        · by_cases e : k = m
          · subst e; exact hD
          · exact I.i2 k p hp hpv (by omega)
        · obtain ⟨o2, f2, ob2, g2, ob2', inf2, a1, a2, a3, a4, a5, a6, a7, a8, a9, a10⟩ := I.i3 k p hp hpv (by omega) hDk
          refine ⟨o2, f2, ob2, g2, ob2', inf2, a1, a2, a3, a4, a5, a6, a7, fun β i hi => ?_, a9, fun ρ' β hle' hβ => a10 ρ' β (hle.trans hle') hβ⟩
          simp only [Ren.put] at hi
          split at hi
          · cases hi; rw [h5]; exact I.i4 m k o p hm hh (Nat.le_refl m) hD hp hpv (by omega) hDk (by omega)
          · exact a8 β i hi
        · rw [put_size] at ht
          rw [getD_put _ _ _ _ ht]
          by_cases e : o.dst = some t
          · right
            rw [if_pos e, h4, h9 t e (by rw [← I.i6.1]; exact ht)]
            exact hV
          · rw [if_neg e]
            rcases I.i6.2 t ht with ⟨k, p, hp, hpv, hk, hDk, hd⟩ | h
            · left
              refine ⟨k, p, hp, hpv, ?_, hDk, hd⟩
              have : k ≠ m := fun e' => by subst e'; rw [hm] at hp; cases hp; exact e hd
              omega
            · exact .inr (h.mono hle)
        · refine ⟨I.i7.le.trans hle, fun β i hi hb => ?_, I.i7.os, I.i7.tape, I.i7.output, I.i7.size, I.i7.frame⟩
          simp only [Ren.put] at hi
          split at hi
          · cases hi; rw [h5] at hb; omega
          · exact I.i7.old β i hi hb
        · intro i hi o' ho' e he hb
          by_cases e' : i = m
          · subst e'
            rw [hm] at ho'; cases ho'
            have hon := W.back i o hm e he hb
            exact ⟨hcD i hD o hm e he hb, fun _ _ _ => by omega⟩
          · exact (seen _).1 (.inl (I.i10 i (((seen i).2 hi).resolve_right e') o' ho' e he hb))
      · exact ⟨m, A, ρ, I, fun p hp => by rw [hm] at hp; cases hp; exact ⟨hh, hD⟩⟩

theorem masked {ρ : Ren} {A B : Array Value} (pend : Nat → Prop) (hs : A.size = B.size) (h : ∀ t, t < A.size → pend t ∨ V ρ (A.getD t undef) (B.getD t undef)) :
    ∃ Am : Array Value, VS ρ Am B ∧ ∀ t, ¬ pend t → Am[t]? = A[t]? := by
  classical
  refine ⟨⟨(List.range A.size).map fun t => if pend t then unk else A.getD t undef⟩, ⟨by simpa using hs, fun t ht => ?_⟩, fun t ht => ?_⟩
  · simp only [List.size_toArray, List.length_map, List.length_range] at ht
    have e : (⟨(List.range A.size).map fun t => if pend t then unk else A.getD t undef⟩ : Array Value).getD t undef = if pend t then unk else A.getD t undef := by
      simp [Array.getD_eq_getD_getElem?, ht]
    rw [e]
    by_cases hp : pend t
    · rw [if_pos hp]; exact V.unk _
    · rw [if_neg hp]; exact (h t ht).resolve_left hp
  · by_cases hlt : t < A.size
    · simp [hlt, ht]
    · simp [hlt]

theorem any_sound (hE : ESound P E) (hq : Quiet P) {n : Nat} {rr : Option Nat} {Q : Exit → Act → World → Prop} (R : Ran P E ops) (W : Drawn R) (ds : List Nat) (ρ₀ : Ren) (w₀ : World)
    (hQ : ∀ ρ' a' w', Step ρ₀ w₀ ρ' w' → Rel ρ' (R.hp ops.size) w'.heap → VS ρ' (R.tm ops.size) a'.tmps → DRel ρ' ds a'.defers → Q .normal a' w') :
    ∀ (fuel : Nat) (listed : Array Bool) (a : Act) (w : World) (ρ : Ren) (A : Array Value) (m : Nat) (pb : Nat → Nat), listed.size = ops.size → unlisted ops.size listed ≤ fuel → Closed ops (fun k => listed.getD k false = true) →
      Inv R ds ρ₀ w₀ (fun k => listed.getD k false = true) m A ρ w a pb → NF ops (fun k => listed.getD k false = true) m → wpAnyIn (Fw rr) n P .any ops Q fuel listed a w := by
  -- behind all
  have done : ∀ (listed : Array Bool) (a : Act) (w : World) (ρ : Ren) (A : Array Value) (m : Nat) (pb : Nat → Nat), listed.size = ops.size → (∀ k, k < ops.size → listed.getD k false = true) →
      Inv R ds ρ₀ w₀ (fun k => listed.getD k false = true) m A ρ w a pb → NF ops (fun k => listed.getD k false = true) m → Q .normal a w := by
    intro listed a w ρ A m pb _ hall I hN
    have hm : m = ops.size := by
      rcases Nat.lt_or_ge m ops.size with h | h
      · exact absurd (hall m h) (hN ops[m] (by simp [h])).2
      · have := I.i1; omega
    subst hm
    have h1 := I.i5.all (fun k hk => ⟨hall k hk, fun _ _ _ => hk⟩)
    refine hQ ρ a w I.i7 I.i8 ?_ I.i9
    rw [← h1]
    refine ⟨I.i6.1, fun t ht => ?_⟩
    rcases I.i6.2 t ht with ⟨k, p, hp, _, hk, _⟩ | h
    · have := (Array.getElem?_eq_some_iff.1 hp).1; omega
    · exact h
  have ready_all : ∀ (listed : Array Bool), listed.size = ops.size → Region.ready .any ops listed = [] → ∀ k, k < ops.size → listed.getD k false = true := by
    intro listed hn hr k
    induction k using Nat.strongRecOn with
    | _ k ih =>
      intro hk
      cases hl : listed.getD k false with
      | true => rfl
      | false =>
        exfalso
        have hk' : k < listed.size := by omega
        have hl' : listed.getD k true = false := by simpa [Array.getD, hk'] using hl
        have ho : ops[k]? = some ops[k] := by simp [hk]
        have : k ∈ Region.ready .any ops listed := mem_ready.2 ⟨hl', ops[k], ho, fun e he hb => ih e.on (W.back k _ ho e (by simpa using he) hb) (by have := W.back k _ ho e (by simpa using he) hb; omega)⟩
        rw [hr] at this; cases this
  intro fuel
  induction fuel with
  | zero =>
    intro listed a w ρ A m pb hn hu hc I hN
    have hz : (List.range ops.size).filter (fun k => !listed.getD k true) = [] := List.length_eq_zero_iff.1 (Nat.le_zero.1 hu)
    have hall : ∀ k, k < ops.size → listed.getD k false = true := by
      intro k hk
      have := List.filter_eq_nil_iff.1 hz k (List.mem_range.2 hk)
      have hk' : k < listed.size := by omega
      simpa [Array.getD, hk'] using this
    refine ⟨?_, done listed a w ρ A m pb hn hall I hN⟩
    apply List.eq_nil_iff_forall_not_mem.2
    intro j hj
    obtain ⟨h1, o, ho, _⟩ := mem_ready.1 hj
    have hjs : j < ops.size := (Array.getElem?_eq_some_iff.1 ho).1
    have h2 := hall j hjs
    have hj' : j < listed.size := by omega
    simp [Array.getD, hj'] at h1 h2
    rw [h1] at h2; cases h2
  | succ fuel ih =>
    intro listed a w ρ A m pb hn hu hc I hN
    refine ⟨fun hr => done listed a w ρ A m pb hn (ready_all listed hn hr) I hN, fun i hi => ?_⟩
    obtain ⟨hun, o, ho, hpre⟩ := mem_ready.1 hi
    have his : i < ops.size := (Array.getElem?_eq_some_iff.1 ho).1
    have hil : i < listed.size := by omega
    have hDi : ¬ (listed.getD i false = true) := by simp [Array.getD, hil] at hun ⊢; exact hun
    have hci : ClosedOn ops (fun k => listed.getD k false = true) i := by
      intro o' ho' e he hb
      rw [ho] at ho'; cases ho'
      exact hpre e (by simpa using he) hb
    -- what it waits for is seen
    have hcs : ClosedOn ops (Seen ops (fun k => listed.getD k false = true) m) i := by
      intro o' ho' e he hb
      rw [ho] at ho'; cases ho'
      have hDe := hpre e (by simpa using he) hb
      refine ⟨hDe, fun p hp hpv => ?_⟩
      rcases Nat.lt_or_ge e.on m with h | h
      · exact h
      exfalso
      have hel : e.on < ops.size := (Array.getElem?_eq_some_iff.1 hp).1
      have hm : ops[m]? = some ops[m] := by simp [show m < ops.size by omega]
      obtain ⟨hmh, hmD⟩ := hN _ hm
      have hne : m ≠ e.on := fun h' => hmD (h' ▸ hDe)
      rcases W.apart m e.on _ p (by omega) hm hp with ha | ⟨_, ha | ⟨_, ha⟩⟩
      · exact hmD (ahead_closed (hc _ hDe) hc ha)
      · exact ha ⟨hmh, hpv⟩
      · exact hmD (ahead_closed hci hc (ha i o ho e he hb rfl))
    have hDs : ¬ Seen ops (fun k => listed.getD k false = true) m i := fun h => hDi h.1
    -- a slot of one that is ahead of its time is not looked at, nor written
    have pendDst : ∀ (k : Nat) p, ops[k]? = some p → heavyOp p.op = true → m ≤ k → listed.getD k false = true → (∀ t, p.dst = some t → t ∉ o.looksAt ops ∧ o.dst ≠ some t) := by
      intro k p hp hpv hk hDk t ht
      have hki : k ≠ i := fun h => hDi (h ▸ hDk)
      rcases Nat.lt_or_gt_of_ne hki with hlt | hgt
      · rcases W.apart k i p o hlt hp ho with ha | ⟨ha, _⟩
        · have := (ahead_closed hcs I.i10 ha).2 p hp hpv; omega
        · exact ⟨(Oper.apart_spec ha).1 t ht, (Oper.apart_spec ha).2.1 t ht⟩
      · rcases W.apart i k o p hgt ho hp with ha | ⟨ha, _⟩
        · exact absurd (ahead_closed (hc k hDk) hc ha) hDi
        · refine ⟨(Oper.apart_spec ha).2.2 t ht, fun hd => ?_⟩
          exact (Oper.apart_spec ha).2.1 t hd ht
    -- the slots, without those
    obtain ⟨Am, hAV, hAe⟩ := masked (fun t => ∃ (k : Nat) (p : Oper), ops[k]? = some p ∧ heavyOp p.op = true ∧ m ≤ k ∧ listed.getD k false = true ∧ p.dst = some t) I.i6.1 I.i6.2
    have lookM : ∀ t ∈ o.looksAt ops, Am[t]? = A[t]? := fun t ht => hAe t fun ⟨k, p, hp, hpv, hk, hDk, hd⟩ => (pendDst k p hp hpv hk hDk t hd).1 ht
    have hset : ∀ k, (listed.setIfInBounds i true).getD k false = true ↔ (listed.getD k false = true ∨ k = i) := by
      intro k
      simp only [Array.getD_eq_getD_getElem?, Array.getElem?_setIfInBounds]
      by_cases e : i = k
      · subst e; simp [hil]
      · simp [e, Ne.symm e]
    have hc' : Closed ops (fun k => (listed.setIfInBounds i true).getD k false = true) := by
      intro k hk o' ho' e he hb
      refine (hset _).2 (.inl ?_)
      rcases (hset k).1 hk with hk | rfl
      · exact hc k hk o' ho' e he hb
      · exact hci o' ho' e he hb
    have hu' : unlisted ops.size (listed.setIfInBounds i true) ≤ fuel := by have := unlisted_set hn his hun; omega
    have dstNe : ∀ (k : Nat) p t, ops[k]? = some p → heavyOp p.op = true → m ≤ k → listed.getD k false = true → p.dst = some t → ∀ v, (put a.tmps o.dst v).getD t undef = a.tmps.getD t undef := by
      intro k p t hp hpv hk hDk ht v
      simp only [Array.getD_eq_getD_getElem?, put_get, (pendDst k p hp hpv hk hDk t ht).2, if_false]
    by_cases hlate : heavyOp o.op = true ∧ i ≠ m
    · -- it only makes something, ahead of its time
      obtain ⟨hh, him⟩ := hlate
      have hmi : m < i := by
        rcases Nat.lt_trichotomy i m with h | h | h
        · exact absurd (I.i2 i o ho hh h) hDi
        · exact absurd h him
        · exact h
      have hm : ops[m]? = some ops[m] := by simp [show m < ops.size by omega]
      obtain ⟨hmh, hmD⟩ := hN _ hm
      have hfr : freshAt o = true := by
        rcases W.apart m i _ o hmi hm ho with ha | ⟨_, ha | ⟨ha, _⟩⟩
        · exact absurd (ahead_closed hci hc ha) hmD
        · exact absurd ⟨hmh, hh⟩ ha
        · exact ha
      have hfo : freshOp o.op = true ∧ o.guard.isNone = true := by simpa [freshAt] using hfr
      have hg : o.guard = none := by simpa using hfo.2
      have hstep := (R.step i o ho).1
      rw [← stepVal_agree (A := Am) (fun t ht => (lookM t ht).trans (lookReady R W I.i10 hDs ho hcs I.i5 t ht))] at hstep
      have hw : wantedA ops Am o = some true := by simp [wantedA, hg]
      simp only [stepVal, hw] at hstep
      obtain ⟨r, hr⟩ : ∃ r, opA P (aeval Am) (R.hp i) o = some r := by
        cases h : opA P (aeval Am) (R.hp i) o with
        | none => rw [h] at hstep; cases hstep
        | some r => exact ⟨r, rfl⟩
      obtain ⟨f, ob, hF, rfl⟩ := freshOk hfo.1 hr
      rw [hr] at hstep
      simp only [Option.some.injEq, Prod.mk.injEq] at hstep
      obtain ⟨g, b, inf, hib, hrun, hV⟩ := hF.real ρ a.tmps hAV
      unfold wpOpIn
      simp only [ho]
      have hwr : Region.wanted o (yielded ops a.tmps) = true := by simp [Region.wanted, hg]
      rw [hwr]
      simp only [if_true]
      refine ⟨fun f _ => trivial, ?_⟩
      have hsem : o.semAt rr a.eval = execOp a.eval o := Oper.semAt_eq _ _ _ (opA_defer hr)
      have hrun' : (execOp a.eval o).run P w = .ok (.value (g w.heap.size)) { w with heap := w.heap.push b } := hrun a.defers w
      have seen : ∀ k, Seen ops (fun k => listed.getD k false = true) m k ↔ Seen ops (fun k => (listed.setIfInBounds i true).getD k false = true) m k := fun k => by
        constructor
        · rintro ⟨h1, h2⟩; exact ⟨(hset k).2 (.inl h1), h2⟩
        · rintro ⟨h1, h2⟩
          rcases (hset k).1 h1 with h1 | rfl
          · exact ⟨h1, h2⟩
          · have := h2 o ho hh; omega
      have key : wpAnyIn (Fw rr) n P .any ops Q fuel (listed.setIfInBounds i true) (a.put o.dst (g w.heap.size)) { w with heap := w.heap.push b } := by
        refine ih _ _ _ ρ A m (fun k => if k = i then w.heap.size else pb k) (by simp [hn]) hu' hc' ⟨I.i1, fun k p hp hpv hk => (hset k).2 (.inl (I.i2 k p hp hpv hk)), fun k p hp hpv hk hDk => ?_, fun k j p q hp hpv hk hDk hq hqv hj hDj hne => ?_,
          I.i5.congr fun k _ => seen k, ⟨?_, fun t ht => ?_⟩, I.i7.trans (Step.push b), I.i8.pushed b, by rw [put_defers]; exact I.i9, fun k hk o' ho' e he hb => (seen _).1 (I.i10 k ((seen k).2 hk) o' ho' e he hb)⟩ (fun p hp => ⟨(hN p hp).1, fun h => ?_⟩)
        · by_cases e : k = i
          · subst e
            simp only [if_true]
            rw [ho] at hp; cases hp
            refine ⟨o, f, ob, g, b, inf, ho, hfr, hstep.2.symm, hstep.1.symm, hib _, I.i7.size, by simp, fun β i hi => ?_, fun d hd hs => ?_, fun ρ' β hle hβ => hV ρ' β _ hle hβ⟩
            · have := (I.i8.lt β i hi).1; omega
            · rw [act_put] at hs ⊢
              rw [put_size] at hs
              rw [getD_put _ _ _ _ hs, if_pos hd]
          · simp only [e, if_false]
            have hDk' := ((hset k).1 hDk).resolve_right e
            refine (I.i3 k p hp hpv hk hDk').mono (Step.push b) (by rw [act_put, put_size]) fun o2 d ho2 hd => ?_
            rw [hp] at ho2; cases ho2
            rw [act_put]
            exact dstNe k p d hp hpv hk hDk' hd _
        · have hlt : ∀ (k : Nat) p, ops[k]? = some p → heavyOp p.op = true → m ≤ k → (listed.setIfInBounds i true).getD k false = true → k ≠ i → pb k < w.heap.size := by
            intro k p hp hpv hk hDk e
            obtain ⟨_, _, _, _, _, _, _, _, _, _, _, _, h7, _⟩ := I.i3 k p hp hpv hk (((hset k).1 hDk).resolve_right e)
            exact (Array.getElem?_eq_some_iff.1 h7).1
          by_cases e1 : k = i
          · by_cases e2 : j = i
            · omega
            · have := hlt j q hq hqv hj hDj e2
              simp only [e1, e2, if_true, if_false]; omega
          · by_cases e2 : j = i
            · have := hlt k p hp hpv hk hDk e1
              simp only [e1, e2, if_true, if_false]; omega
            · simp only [e1, e2, if_false]
              exact I.i4 k j p q hp hpv hk (((hset k).1 hDk).resolve_right e1) hq hqv hj (((hset j).1 hDj).resolve_right e2) hne
        · rw [act_put, put_size]; exact I.i6.1
        · by_cases e : o.dst = some t
          · exact .inl ⟨i, o, ho, hh, by omega, (hset i).2 (.inr rfl), e⟩
          · rcases I.i6.2 t ht with ⟨k, p, hp, hpv, hk, hDk, hd⟩ | h
            · exact .inl ⟨k, p, hp, hpv, hk, (hset k).2 (.inl hDk), hd⟩
            · right
              rw [act_put, getD_put _ _ _ _ (by rw [← I.i6.1]; exact ht), if_neg e]
              exact h
        · rcases (hset m).1 h with h | h
          · exact hmD h
          · exact him h.symm
      rw [hsem, hrun']
      exact key
    · -- in its turn
      have hx : heavyOp o.op = true → i = m := fun h => Classical.byContradiction fun h' => hlate ⟨h, h'⟩
      have hmD : ∀ (j : Nat) p, ops[j]? = some p → heavyOp p.op = true → (Seen ops (fun k => listed.getD k false = true) m j ↔ j < m) := fun j p hp hpv =>
        ⟨fun h => h.2 p hp hpv, fun h => ⟨I.i2 j p hp hpv h, fun _ _ _ => h⟩⟩
      obtain ⟨m', hm', hstep, hslots, hheavy⟩ := stepReady R W I.i10 hDs ho hcs I.i5 I.i1 hmD hx
      rw [← stepVal_agree (A := Am) lookM] at hstep
      refine wpOp_sound hE hq ho hstep hAV I.i8 fun ρ₁ v' w₁ hst1 hR1 hv1 => ?_
      have seen : ∀ k, (Seen ops (fun k => listed.getD k false = true) m k ∨ k = i) ↔ Seen ops (fun k => (listed.setIfInBounds i true).getD k false = true) m' k := fun k => by
        constructor
        · rintro (h | rfl)
          · exact ⟨(hset k).2 (.inl h.1), fun p hp hpv => (hheavy k p hp hpv).1 (.inl h)⟩
          · exact ⟨(hset k).2 (.inr rfl), fun p hp hpv => (hheavy k p hp hpv).1 (.inr rfl)⟩
        · rintro ⟨h1, h2⟩
          rcases (hset k).1 h1 with h1 | rfl
          · by_cases e : k = i
            · exact .inr e
            · refine .inl ⟨h1, fun p hp hpv => ?_⟩
              rcases (hheavy k p hp hpv).2 (h2 p hp hpv) with h | h
              · exact h.2 p hp hpv
              · exact absurd h e
          · exact .inr rfl
      have old : ∀ (k : Nat) p, ops[k]? = some p → heavyOp p.op = true → m' ≤ k → (listed.setIfInBounds i true).getD k false = true → m ≤ k ∧ listed.getD k false = true := by
        intro k p hp hpv hk hDk
        have e : k ≠ i := fun e => by have := (hheavy k p hp hpv).1 (.inr e); omega
        have hDk' := ((hset k).1 hDk).resolve_right e
        refine ⟨?_, hDk'⟩
        apply Nat.le_of_not_lt
        intro h
        have := (hheavy k p hp hpv).1 (.inl ⟨hDk', fun _ _ _ => h⟩); omega
      have I' : Inv R ds ρ₀ w₀ (fun k => (listed.setIfInBounds i true).getD k false = true) m' (put A o.dst (R.vals i)) ρ₁ w₁ (a.put o.dst v') pb := by
        refine ⟨hm', fun k p hp hpv hk => ?_, fun k p hp hpv hk hDk => ?_, fun k j p q hp hpv hk hDk hq hqv hj hDj hne => ?_, hslots.congr fun k _ => seen k, ⟨?_, fun t ht => ?_⟩, I.i7.trans hst1, hR1, by rw [put_defers]; exact I.i9.mono hst1.le, ?_⟩
        · rcases (hheavy k p hp hpv).2 hk with h | h
          · exact (hset k).2 (.inl h.1)
          · exact (hset k).2 (.inr h)
        · obtain ⟨h1, h2⟩ := old k p hp hpv hk hDk
          refine (I.i3 k p hp hpv h1 h2).mono hst1 (by rw [act_put, put_size]) fun o2 d ho2 hd => ?_
          rw [hp] at ho2; cases ho2
          rw [act_put]
          exact dstNe k p d hp hpv h1 h2 hd _
        · obtain ⟨h1, h2⟩ := old k p hp hpv hk hDk
          obtain ⟨h3, h4⟩ := old j q hq hqv hj hDj
          exact I.i4 k j p q hp hpv h1 h2 hq hqv h3 h4 hne
        · rw [put_size, act_put, put_size]; exact I.i6.1
        · rw [put_size] at ht
          have ht' : t < a.tmps.size := by rw [← I.i6.1]; exact ht
          rw [getD_put _ _ _ _ ht, act_put, getD_put _ _ _ _ ht']
          by_cases e : o.dst = some t
          · right; rw [if_pos e, if_pos e]; exact hv1
          · rw [if_neg e, if_neg e]
            rcases I.i6.2 t ht with ⟨k, p, hp, hpv, hk, hDk, hd⟩ | h
            · left
              refine ⟨k, p, hp, hpv, ?_, (hset k).2 (.inl hDk), hd⟩
              apply Nat.le_of_not_lt
              intro h
              rcases (hheavy k p hp hpv).2 h with h | h
              · have := h.2 p hp hpv; omega
              · exact hDi (h ▸ hDk)
            · exact .inr (h.mono hst1.le)
        · intro k hk o' ho' e he hb
          refine (seen _).1 (.inl ?_)
          rcases (seen k).2 hk with h | rfl
          · exact I.i10 k h o' ho' e he hb
          · exact hcs o' ho' e he hb
      obtain ⟨m₂, A₂, ρ₂, I₂, hN₂⟩ := I'.saturate W hc' ops.size m' _ ρ₁ (by omega)
      exact ih _ _ w₁ ρ₂ A₂ m₂ pb (by simp [hn]) hu' hc' I₂ hN₂

theorem region_sound (hE : ESound P E) (hq : Quiet P) (hmix : P.follows .mixedOrders = true) {n id : Nat} {draw : Bool} {rr : Option Nat} {s s' : St} (hs : evalRegion P E ops draw s = some s') {w : World} {a : Act} (hR : Rel ρ s.h w.heap)
    (hA : VS ρ s.tmps a.tmps) (hD : DRel ρ s.defers a.defers) : Code.wpIn (Fw rr) n P (.region id ops draw) (Post ρ w (.normal, s')) a w := by
  cases draw with
  | false =>
    refine wpIn_region ?_
    exact runList_sound hE hq _ s s' hs ρ w a hR hA hD fun ρ' a' w' h1 h2 h3 h4 => ⟨rfl, ρ', h1, h2, h3, h4⟩
  | true =>
    unfold evalRegion at hs
    simp only [if_true] at hs
    have core : ∀ (ops' : Array Oper), drawStatic ops' = true → (match trace P E ops' ops'.toList s with
        | some sts => if (drawPairs ops').all (sameRead P ops' sts) then sts.getLast? else none
        | none => none) = some s' → ∀ (w' : World), Step ρ w ρ w' → w'.heap = w.heap →
        wpAnyIn (Fw rr) n P .any ops' (Post ρ w (.normal, s')) ops'.size (Array.replicate ops'.size false) a w' := by
      intro ops' hst hs w' hs1 hw'
      split at hs
      · rename_i sts ht
        split at hs
        · rename_i hp
          have hlen := trace_length ops'.toList s sts ht
          have W := drawnOf ht hst hp
          have hlast : sts[ops'.size]? = some s' := by
            rw [List.getLast?_eq_getElem?] at hs
            rw [hlen.1] at hs
            simpa using hs
          have hdef : s'.defers = s.defers := trace_defers ht s' (List.mem_of_getElem? hlast)
          have none0 : ∀ k, ¬ ((Array.replicate ops'.size false).getD k false = true) := by
            intro k hk
            simp only [Array.getD_eq_getD_getElem?, Array.getElem?_replicate] at hk
            split at hk <;> simp at hk
          have hc0 : Closed ops' (fun k => (Array.replicate ops'.size false).getD k false = true) := fun i hi => absurd hi (none0 i)
          have I0 : Inv (ranOf s sts ht) s.defers ρ w (fun k => (Array.replicate ops'.size false).getD k false = true) 0 s.tmps ρ w' a (fun _ => 0) :=
            ⟨Nat.zero_le _, fun k p _ _ hk => absurd hk (Nat.not_lt_zero _), fun k p _ _ _ hk => absurd hk (none0 k), fun k j p q _ _ _ hk => absurd hk (none0 k),
              ⟨by simp [ranOf, hlen.2], fun t => .inr ⟨fun k _ hk => absurd hk.1 (none0 k), by simp [ranOf, hlen.2]⟩⟩, ⟨hA.1, fun t ht => .inr (hA.2 t ht)⟩, hs1, by rw [hw']; simpa [ranOf, hlen.2] using hR, hD,
              fun i hi => absurd hi.1 (none0 i)⟩
          obtain ⟨m', A', ρ', I1, hN⟩ := I0.saturate W hc0 ops'.size 0 _ ρ (by omega)
          refine any_sound hE hq (ranOf s sts ht) W s.defers ρ w ?_ ops'.size _ a w' ρ' A' m' _ (by simp) ?_ hc0 I1 hN
          · intro ρ' a' w' h1 h2 h3 h4
            simp only [ranOf, hlast, Option.getD_some] at h2 h3
            exact ⟨rfl, ρ', h1, h2, h3, by rw [hdef]; exact h4⟩
          · unfold unlisted
            exact Nat.le_trans (List.length_filter_le _ _) (by simp)
        · cases hs
      · cases hs
    refine wpIn_region_any hmix ?_
    have hs1 : Step ρ w ρ { w with drawn := w.drawn + 1 } := Step.same ρ rfl rfl rfl rfl
    split at hs
    · rename_i ops' hd
      unfold drawOps at hd
      split at hd
      · rename_i hst
        cases hd
        exact core ops hst hs _ hs1 rfl
      · split at hd
        · rename_i hp
          cases hd
          simp only [Bool.and_eq_true] at hp
          have hspec := permOk_spec hp.1
          have hcore := core _ hp.2 hs _ hs1 rfl
          rw [hspec.size] at hcore
          refine perm_any hspec _ _ _ a _ (by simp) (by simp) (fun i d hi => ?_) hcore
          simp [Array.getD_eq_getD_getElem?, Array.getElem?_replicate, hi, hspec.lt i hi]
        · cases hd
    · cases hs

end
end Go.AE

/-
  AE, part 16: code goes as the evaluator says.
-/
namespace Go.AE
noncomputable section
set_option linter.unusedSimpArgs false
set_option linter.unusedVariables false
variable {P : Program} {E : Env} {ops : Array Oper} {ρ : Ren}

/-! ### Loops and scopes -/
def LoopIn (F : Fence) (n : Nat) (P : Program) (c : Code) (Q : Exit → Act → World → Prop) (a : Act) (w : World) : Prop :=
  ∀ (b : Frame) (k : List Item) (cs : List Frame), b.roundOf = F.round → F.fn b.fn → F.room (cs.length + 1 + n) →
    ∃ e a' w', Q e a' w' ∧ ArrivesIn (Machine.fenced P F) P (lone (b.atR a (.code c :: .inLoop c :: k)) cs w) b k cs e a' w'

section
variable {F : Fence} {n : Nat} {Q : Exit → Act → World → Prop} {a : Act} {w : World}

theorem loopIn_step {c : Code} (h : c.wpIn F n P (Exit.then (fun a' w' => LoopIn F n P c Q a' w') Q) a w) : LoopIn F n P c Q a w := by
  intro b k cs hro hb hr
  obtain ⟨e, a₁, w₁, hq, harr⟩ := h b (.inLoop c :: k) cs hro hb hr
  cases e with
  | normal =>
    obtain ⟨e₂, a₂, w₂, hq₂, harr₂⟩ := hq b k cs hro hb hr
    exact ⟨e₂, a₂, w₂, hq₂, .of_steps (StepsIn.trans harr (.one (fenced_calm hb hr rfl) stepR_inLoop)) harr₂⟩
  | exit id => exact ⟨_, a₁, w₁, hq, .pass (x := .inLoop c) rfl (fun _ _ => .inl (by simp)) harr⟩
  | goto l => exact ⟨_, a₁, w₁, hq, .pass (x := .inLoop c) rfl (fun _ _ => .inl (by simp)) harr⟩
  | ret => exact ⟨_, a₁, w₁, hq, .pass (x := .inLoop c) rfl (fun _ _ => .inl (by simp)) harr⟩
  | panic ch => exact ⟨_, a₁, w₁, hq, .pass (x := .inLoop c) rfl (fun _ _ => .inl (by simp)) harr⟩
  | outgrown => exact ⟨_, a₁, w₁, hq, .pass (x := .inLoop c) rfl (fun _ _ => .inl (by simp)) harr⟩

theorem wpIn_of_loopIn {c : Code} (h : LoopIn F n P c Q a w) : (Code.loop c).wpIn F n P Q a w := by
  intro b k cs hro hb hr
  obtain ⟨e, a', w', hq, harr⟩ := h b k cs hro hb hr
  exact ⟨e, a', w', hq, .of_steps (.one (fenced_calm hb hr rfl) stepR_loop) harr⟩

theorem LoopIn.mono {c : Code} {Q' : Exit → Act → World → Prop} (h : LoopIn F n P c Q a w) (hq : ∀ e a w, Q e a w → Q' e a w) : LoopIn F n P c Q' a w :=
  fun b k cs hro hb hr => let ⟨e, a', w', q, r⟩ := h b k cs hro hb hr; ⟨e, a', w', hq _ _ _ q, r⟩

theorem stepR_scope' {b : Frame} {c : Code} {k : List Item} {cs : List Frame} : step P (lone (b.atR a (.code (.scope c) :: k)) cs w) = .next (lone (b.atR a (.code c :: .inScope c :: k)) cs w) :=
  step_lone_go (by simp [stepG, stepG.exec, Frame.atR])
theorem stepR_inScope' {b : Frame} {c : Code} {k : List Item} {cs : List Frame} : step P (lone (b.atR a (.inScope c :: k)) cs w) = .next (lone (b.atR a k) cs w) :=
  step_lone_go (by simp [stepG, stepG.exec, Frame.atR])

theorem wpIn_scope' {c : Code} (hg : ∀ l a w, ¬ Q (.goto l) a w) (h : c.wpIn F n P Q a w) : (Code.scope c).wpIn F n P Q a w := by
  intro b k cs hro hb hr
  have h0 : (lone (b.atR a (.code (.scope c) :: k)) cs w).fenced P F := fenced_calm hb hr rfl
  obtain ⟨e, a₁, w₁, hq, harr⟩ := h b (.inScope c :: k) cs hro hb hr
  cases e with
  | normal => exact ⟨.normal, a₁, w₁, hq, .head h0 stepR_scope' (StepsIn.trans harr (.one (fenced_calm hb hr rfl) stepR_inScope'))⟩
  | exit id =>
    have hx : exitTo id (.inScope c :: k) = exitTo id k := by simp [exitTo]
    exact ⟨.exit id, a₁, w₁, hq, fun k' hk => .head h0 stepR_scope' (harr.1 k' (by rw [hx]; exact hk)),
      fun hr' hk => let ⟨k₁, h1, h2⟩ := harr.2 hr' (by rw [hx]; exact hk); ⟨k₁, h1, .head h0 stepR_scope' h2⟩⟩
  | goto l => exact absurd hq (hg l a₁ w₁)
  | ret => exact ⟨_, a₁, w₁, hq, .of_steps (.one h0 stepR_scope') harr⟩
  | panic ch => exact ⟨_, a₁, w₁, hq, .of_steps (.one h0 stepR_scope') harr⟩
  | outgrown => exact ⟨_, a₁, w₁, hq, .of_steps (b := b) (k := k) (cs := cs) (e := .outgrown) (.one h0 stepR_scope') harr⟩
end

/-- All that is asked of what is below. -/
structure ESoundL (P : Program) (E : Env) : Prop extends ESound P E where
  loop : ∀ rd c s r, E.code rd (.loop c) s = some r → ∀ ρ w a n rr, RdRel ρ rd rr → Rel ρ s.h w.heap → VS ρ s.tmps a.tmps → DRel ρ s.defers a.defers → LoopIn (Fw rr) n P c (Post ρ w r) a w

theorem Post.goto {w : World} {r : Ex × St} (l : Nat) (a' : Act) (w' : World) : ¬ Post ρ w r (.goto l) a' w' := by
  rintro ⟨h, _⟩
  cases hr : r.1 <;> rw [hr] at h <;> cases h

theorem Post.trans {w w₁ : World} {ρ₁ : Ren} {r : Ex × St} (hst : Step ρ w ρ₁ w₁) {e : Exit} {a' : Act} {w' : World} (h : Post ρ₁ w₁ r e a' w') : Post ρ w r e a' w' := by
  obtain ⟨h1, ρ', h2, h3⟩ := h
  exact ⟨h1, ρ', hst.trans h2, h3⟩

/-- Code of a loop, and the loop itself. -/
theorem loop_sound (hE : ESoundL P E) {c : Code} {rd : Option Nat} {s : St} {r : Ex × St}
    (ih : ∀ s r, evalC P E rd c s = some r → ∀ ρ w a n rr, RdRel ρ rd rr → Rel ρ s.h w.heap → VS ρ s.tmps a.tmps → DRel ρ s.defers a.defers → Code.wpIn (Fw rr) n P c (Post ρ w r) a w)
    (hs : evalC P E rd (.loop c) s = some r) : ∀ ρ w a n rr, RdRel ρ rd rr → Rel ρ s.h w.heap → VS ρ s.tmps a.tmps → DRel ρ s.defers a.defers → LoopIn (Fw rr) n P c (Post ρ w r) a w := by
  intro ρ w a n rr hrd hR hA hD
  simp only [evalC] at hs
  split at hs
  · rename_i s' hc
    refine loopIn_step (wpIn_mono (ih s _ hc ρ w a n rr hrd hR hA hD) ?_)
    rintro e a₁ w₁ ⟨rfl, ρ₁, hst, hR1, hA1, hD1⟩
    exact (hE.loop rd c s' r hs ρ₁ w₁ a₁ n rr (hrd.mono hst.le) hR1 hA1 hD1).mono fun e a w h => h.trans hst
  · rename_i hne
    refine loopIn_step (wpIn_mono (ih s _ hs ρ w a n rr hrd hR hA hD) ?_)
    intro e a₁ w₁ hp
    have he := hp.1
    subst he
    obtain ⟨ex, s'⟩ := r
    cases ex with
    | normal => exact absurd hs (hne s')
    | exit id => exact hp
    | ret => exact hp

/-! ### A loop over a function -/
theorem Rel.push_real {h : AH} {A : Array Obj} (hR : Rel ρ h A) (o : Obj) : Rel ρ h (A.push o) where
  lt := fun β i hi => by have := hR.lt β i hi; simp; omega
  obj := fun β p hp => by
    obtain ⟨i, b, hi, hb, hO⟩ := hR.obj β p hp
    have hlt := (Array.getElem?_eq_some_iff.1 hb).1
    exact ⟨i, b, hi, by rw [Array.getElem?_push_lt hlt]; simpa using (Array.getElem?_eq_some_iff.1 hb).2, hO⟩
  inj := hR.inj

theorem rangeFunc_sound (hE : ESoundL P E) (hq : Quiet P) {g : Operand} {ps : Array Tmp} {assign body : Code} {rd : Option Nat} {s : St} {r : Ex × St} (hs : evalC P E rd (.rangeFunc g ps assign body) s = some r)
    {w : World} {a : Act} {n : Nat} {rr : Option Nat} (hrd : RdRel ρ rd rr) (hR : Rel ρ s.h w.heap) (hA : VS ρ s.tmps a.tmps) (hD : DRel ρ s.defers a.defers) :
    Code.wpIn (Fw rr) n P (.rangeFunc g ps assign body) (Post ρ w r) a w := by
  simp only [evalC] at hs
  split at hs
  · cases hs
  · rename_i d mark h₁ hent
    split at hs
    · rename_i f first captured hg
      split at hs
      · rename_i hb
        split at hs
        · rename_i vv h₂ hcall
          -- the record is laid
          have entered : ∀ fn, ∃ (l : Nat) (mk : List Deferred) (w₁ : World) (ρ₁ : Ren) (i : Info), (Instr.enterLoop fn a.tmps ps assign body rr).run P w = .ok (l, mk) w₁ ∧ Step ρ w ρ₁ w₁ ∧ ρ₁ h₁.next = some i ∧ i.b = l ∧
              Rel ρ₁ (h₁.push (.loop .ready .normal s.tmps ps assign body d)) w₁.heap ∧ DRel ρ₁ (mark ++ s.defers) (mk ++ a.defers) := by
            intro fn
            cases rd with
            | none =>
              cases rr with
              | some l => exact hrd.elim
              | none =>
                simp only [Option.some.injEq, Prod.mk.injEq] at hent
                obtain ⟨rfl, rfl, rfl⟩ := hent
                have e1 := hR.alloc .defs (.deferred (some [])) (newInfo w.heap.size 0 0 0 false) rfl ⟨rfl, rfl, rfl⟩
                have s1 := Step.alloc hR (.deferred (some [])) (newInfo w.heap.size 0 0 0 false) rfl
                have le1 := s1.le
                have i1 : (ρ.put s.h.next (newInfo w.heap.size 0 0 0 false)) s.h.next = some (newInfo w.heap.size 0 0 0 false) := by simp [Ren.put]
                have e2 := e1.alloc (.loop .ready .normal s.tmps ps assign body s.h.next)
                  (.loop { state := .ready, pending := none, fn, tmps := a.tmps, params := ps, assign, body, defers := w.heap.size }) (newInfo (w.heap.push (.deferred (some []))).size 0 0 0 false) rfl
                  ⟨fn, a.tmps, w.heap.size, newInfo w.heap.size 0 0 0 false, rfl, rfl, rfl, (hA.mono le1).mono (Ren.le_put e1 _), (Ren.le_put e1 _) _ _ i1, rfl⟩
                have s2 := Step.alloc (w := { w with heap := w.heap.push (.deferred (some [])) }) e1 (.loop { state := .ready, pending := none, fn, tmps := a.tmps, params := ps, assign, body, defers := w.heap.size })
                  (newInfo (w.heap.push (.deferred (some []))).size 0 0 0 false) rfl
                refine ⟨(w.heap.push (.deferred (some []))).size, [{ target := .collected w.heap.size, args := #[] }], _, _, newInfo (w.heap.push (.deferred (some []))).size 0 0 0 false, by simp only [Instr.enterLoop, Sem.run_bind, run_newObj, Result.andThen_ok, Sem.run_pure], s1.trans s2, by simp [Ren.put], rfl, e2, ?_⟩
                have hD2 := hD.mono (s1.trans s2).le
                have i2 := (Ren.le_put e1 (newInfo (w.heap.push (.deferred (some []))).size 0 0 0 false)) _ _ i1
                refine ⟨fun x hx => ?_, ?_⟩
                · rcases List.mem_cons.1 hx with rfl | hx
                  · rw [i2]; rfl
                  · exact hD2.1 x hx
                · simp only [List.cons_append, List.nil_append, List.map_cons, i2]
                  rw [hD2.2]; rfl
            | some l =>
              cases rr with
              | none => exact hrd.elim
              | some l' =>
                obtain ⟨j, hj, rfl⟩ := hrd
                simp only at hent
                split at hent
                · rename_i st pend tm pr asg bd dd hgl
                  simp only [Option.some.injEq, Prod.mk.injEq] at hent
                  obtain ⟨rfl, rfl, rfl⟩ := hent
                  obtain ⟨fnl, tmps', d', hX, hv, _, _⟩ := loop_set (st' := st) (pend' := pend) hR hj hgl
                  obtain ⟨j', X, hj', hX', fn2, tm2, d2, jd, rfl, q1, q2, q3, q4, q5⟩ := hR.obj _ _ hgl
                  obtain rfl : j = j' := by rw [hj] at hj'; exact Option.some.inj hj'
                  have e2 := hR.alloc (.loop .ready .normal s.tmps ps assign body dd) (.loop { state := .ready, pending := none, fn, tmps := a.tmps, params := ps, assign, body, defers := d2 }) (newInfo w.heap.size 0 0 0 false) rfl
                    ⟨fn, a.tmps, d2, jd, rfl, rfl, rfl, hA.mono (Ren.le_put hR _), (Ren.le_put hR _) _ _ q4, q5⟩
                  have s2 := Step.alloc hR (.loop { state := .ready, pending := none, fn, tmps := a.tmps, params := ps, assign, body, defers := d2 }) (newInfo w.heap.size 0 0 0 false) rfl
                  refine ⟨w.heap.size, [], _, _, newInfo w.heap.size 0 0 0 false, by simp only [Instr.enterLoop, Sem.run_bind, getLoop_run hX', run_newObj, Result.andThen_ok, Sem.run_pure], s2, by simp [Ren.put], rfl, e2, by simpa using hD.mono s2.le⟩
                · cases hent
          refine wpIn_rangeFunc fun fn _ => ?_
          obtain ⟨l, mk, w₁, ρ₁, i, hel, hst, hi, rfl, hR1, hD1⟩ := entered fn
          have hgv := aeval_sim (ds := a.defers) hA g
          rw [hg] at hgv
          generalize hgr : a.eval g = gv at hgv
          cases hgv with
          | func _ f' as as' cs cs' hf' hsz hcz k1 k2 =>
            cases hf'
            cases hfn : P.funcs[f]? with
            | none => rw [hfn] at hb; simp at hb
            | some fnn =>
              rw [hfn] at hb
              have hbody : fnn.body.isNone = false := by
                cases hbd : fnn.body with
                | none => simp [hbd] at hb
                | some body => rfl
              have hname := hq f fnn hfn
              have hyv : V ρ₁ (.func (.yield h₁.next) #[] #[]) (.func (.yield i.b) #[] #[]) :=
                .func _ _ _ _ _ _ (.yield _ _ i hi rfl) rfl rfl (fun j hj => by simp at hj) (fun j hj => by simp at hj)
              have hargs : VS ρ₁ (first ++ #[.func (.yield h₁.next) #[] #[]] ++ captured) (as' ++ #[.func (.yield i.b) #[] #[]] ++ cs') := by
                refine VS.append2 (VS.append2 (VS.mono hst.le ⟨hsz, k1⟩) ⟨rfl, fun j hj => ?_⟩) (VS.mono hst.le ⟨hcz, k2⟩)
                have : j = 0 := by simpa using hj
                subst this; exact hyv
              refine ⟨i.b, mk, w₁, { target := .fn (.func f) cs', args := as' ++ #[.func (.yield i.b) #[] #[]] }, w₁, f, as' ++ #[.func (.yield i.b) #[] #[]] ++ cs', w₁, hel, ?_, fun _ _ => trivial, ?_, fun hd => (by cases hd), ?_⟩
              · have hm : (#[Operand.const (.func (.yield i.b) #[] #[])]).map a.eval = #[.func (.yield i.b) #[] #[]] := by simp [Act.eval]
                simp only [resolve, hm, hgr, Deferred.ofValue, Sem.run_pure]
              · simp only [invoke, callFunc, Sem.run_bind, Sem.run_pure, Result.andThen_ok, run_program, hfn, hname, hbody, Bool.false_eq_true, if_false]
              · have hc := hE.call f _ _ _ _ hcall ρ₁ w₁ _ (n - 1) hR1 hargs
                have hc' : CallsIn (Fw rr) (n - 1) P f (as' ++ #[.func (.yield i.b) #[] #[]] ++ cs') w₁ (RetPost ρ₁ w₁ vv h₂) := hc
                refine hc'.mono ?_
                rintro e w₃ ⟨ρ₃, v', rfl, hst3, hR3, hv3⟩
                have hi3 := hst3.le _ _ hi
                have hst' := hst.trans hst3
                split at hs
                · cases hs
                · rename_i st pend tm pr asg bd dd hgl hnb
                  cases hs
                  obtain ⟨fn3, tmps3, d3, hX3, hv3', hst4, hR4⟩ := loop_set (st' := .exhausted) (pend' := pend) hR3 hi3 hnb
                  have hsb : (st == .busy) = false := by
                    cases st <;> first | rfl | exact (hgl rfl).elim
                  refine ⟨pend.code, { w₃ with heap := w₃.heap.setIfInBounds i.b (.loop { state := .exhausted, pending := pend.code, fn := fn3, tmps := tmps3, params := pr, assign := asg, body := bd, defers := d3 }) }, ?_, ?_⟩
                  · simp only [Instr.endLoop, Sem.run_bind, getLoop_run hX3, Result.andThen_ok, hsb, Bool.false_eq_true, if_false, setObj_run hX3 (by intro c e f he; cases he), Sem.run_pure]
                  · have hfin : Post ρ w (pend, { tmps := s.tmps, defers := mark ++ s.defers, h := h₂.set h₁.next (.loop .exhausted pend tm pr asg bd dd) }) (exOf pend) { a with defers := mk ++ a.defers }
                        { w₃ with heap := w₃.heap.setIfInBounds i.b (.loop { state := .exhausted, pending := pend.code, fn := fn3, tmps := tmps3, params := pr, assign := asg, body := bd, defers := d3 }) } :=
                      ⟨rfl, ρ₃, hst'.trans hst4, hR4, hA.mono hst'.le, hD1.mono hst3.le⟩
                    cases pend with
                    | normal => exact hfin
                    | exit id => exact wpIn_exit hfin
                    | ret => exact wpIn_ret hfin
                · cases hs
        · cases hs
      · cases hs
    · cases hs

end
end Go.AE

/-
  AE, part 17: code, functions, the evaluator whole: that all goes as it says.
-/
namespace Go.AE
noncomputable section
set_option linter.unusedSimpArgs false
set_option linter.unusedVariables false
variable {P : Program} {E : Env} {ρ : Ren}

theorem evalC_sound (hE : ESoundL P E) (hq : Quiet P) (hmix : P.follows .mixedOrders = true) : ∀ (c : Code) (rd : Option Nat) (s : St) (r : Ex × St), evalC P E rd c s = some r → ∀ ρ w a n rr, RdRel ρ rd rr → Rel ρ s.h w.heap →
    VS ρ s.tmps a.tmps → DRel ρ s.defers a.defers → Code.wpIn (Fw rr) n P c (Post ρ w r) a w := by
  intro c
  induction c with
  | skip =>
    intro rd s r hs ρ w a n rr hrd hR hA hD
    simp only [evalC, Option.some.injEq] at hs
    subst hs
    exact wpIn_skip ⟨rfl, ρ, Step.refl ρ w, hR, hA, hD⟩
  | label l =>
    intro rd s r hs ρ w a n rr hrd hR hA hD
    simp only [evalC, Option.some.injEq] at hs
    subst hs
    exact wpIn_label ⟨rfl, ρ, Step.refl ρ w, hR, hA, hD⟩
  | region id ops draw =>
    intro rd s r hs ρ w a n rr hrd hR hA hD
    simp only [evalC] at hs
    obtain ⟨s', hs', rfl⟩ := Option.map_eq_some_iff.1 hs
    exact region_sound hE.toESound hq hmix hs' hR hA hD
  | seq x y ihx ihy =>
    intro rd s r hs ρ w a n rr hrd hR hA hD
    simp only [evalC] at hs
    split at hs
    · rename_i s' hx
      refine wpIn_seq (wpIn_mono (ihx rd s _ hx ρ w a n rr hrd hR hA hD) ?_)
      rintro e a₁ w₁ ⟨rfl, ρ₁, hst, hR1, hA1, hD1⟩
      exact wpIn_mono (ihy rd s' r hs ρ₁ w₁ a₁ n rr (hrd.mono hst.le) hR1 hA1 hD1) fun e a w h => h.trans hst
    · rename_i hne
      refine wpIn_seq (wpIn_mono (ihx rd s _ hs ρ w a n rr hrd hR hA hD) ?_)
      intro e a₁ w₁ hp
      have he := hp.1
      subst he
      obtain ⟨ex, s'⟩ := r
      cases ex with
      | normal => exact absurd hs (hne s')
      | exit id => exact hp
      | ret => exact hp
  | cond c x y ihx ihy =>
    intro rd s r hs ρ w a n rr hrd hR hA hD
    have hc := aeval_sim (ds := a.defers) hA c
    simp only [evalC] at hs
    split at hs
    · rename_i hcv
      rw [hcv] at hc
      generalize hce : a.eval c = cv at hc
      cases hc
      exact wpIn_cond_true hce (ihx rd s r hs ρ w a n rr hrd hR hA hD)
    · rename_i hcv
      rw [hcv] at hc
      generalize hce : a.eval c = cv at hc
      cases hc
      exact wpIn_cond_false hce (ihy rd s r hs ρ w a n rr hrd hR hA hD)
    · cases hs
  | block id c ih =>
    intro rd s r hs ρ w a n rr hrd hR hA hD
    simp only [evalC] at hs
    split at hs
    · rename_i id' s' hc
      refine wpIn_block (wpIn_mono (ih rd s _ hc ρ w a n rr hrd hR hA hD) ?_)
      rintro e a₁ w₁ ⟨rfl, hp⟩
      simp only [exOf, Exit.inBlock]
      split at hs
      · rename_i hid; cases hs; rw [if_pos hid]; exact ⟨rfl, hp⟩
      · rename_i hid; cases hs; rw [if_neg hid]; exact ⟨rfl, hp⟩
    · rename_i hne
      refine wpIn_block (wpIn_mono (ih rd s _ hs ρ w a n rr hrd hR hA hD) ?_)
      intro e a₁ w₁ hp
      have he := hp.1
      subst he
      obtain ⟨ex, s'⟩ := r
      cases ex with
      | normal => exact hp
      | exit id' => exact absurd hs (hne id' s')
      | ret => exact hp
  | loop c ih =>
    intro rd s r hs ρ w a n rr hrd hR hA hD
    exact wpIn_of_loopIn (loop_sound hE (ih rd) hs ρ w a n rr hrd hR hA hD)
  | scope c ih =>
    intro rd s r hs ρ w a n rr hrd hR hA hD
    simp only [evalC] at hs
    exact wpIn_scope' (fun l a w => Post.goto l a w) (ih rd s r hs ρ w a n rr hrd hR hA hD)
  | exit id =>
    intro rd s r hs ρ w a n rr hrd hR hA hD
    simp only [evalC, Option.some.injEq] at hs
    subst hs
    exact wpIn_exit ⟨rfl, ρ, Step.refl ρ w, hR, hA, hD⟩
  | ret =>
    intro rd s r hs ρ w a n rr hrd hR hA hD
    simp only [evalC, Option.some.injEq] at hs
    subst hs
    exact wpIn_ret ⟨rfl, ρ, Step.refl ρ w, hR, hA, hD⟩
  | goto l => intro rd s r hs; simp only [evalC] at hs; cases hs
  | refuse why => intro rd s r hs; simp only [evalC] at hs; cases hs
  | rangeFunc g ps assign body _ _ =>
    intro rd s r hs ρ w a n rr hrd hR hA hD
    exact rangeFunc_sound hE hq hs hrd hR hA hD

/-! ### Functions -/
theorem take_run {b : Nat} {w : World} (h : w.heap[b]? = some (.deferred (some []))) : (Instr.takeDeferred b).run P w = .ok [] { w with heap := w.heap.setIfInBounds b (.deferred none) } := by
  have h1 : (getObj b).run P w = .ok (.deferred (some [])) w := by simp [getObj, Sem.run, h]
  simp only [Instr.takeDeferred, Sem.run_bind, h1, Result.andThen_ok, setObj_run h (by intro c e f he; cases he), Sem.run_pure]

def resOne (B : Array Value) : ResultVar → Sem Value
  | .tmp t => pure (B.getD t undef)
  | .cell a t => do loadVar t (← asAddr (B.getD a undef))

theorem results_eq (fn : Func) (B : Array Value) : results fn B = (do let vs ← fn.results.mapM (resOne B); pure (if h : vs.size = 1 then vs[0] else .tuple vs)) := by
  have : (fun x => match x with | .tmp t => pure (B.getD t undef) | .cell a t => (do loadVar t (← asAddr (B.getD a undef)) : Sem Value)) = resOne B := by
    funext x; cases x <;> rfl
  rw [← this]; rfl

theorem resultA_run {A B : Array Value} {h : AH} {w : World} {x : ResultVar} {v : Value} (hR : Rel ρ h w.heap) (hA : VS ρ A B) (hs : resultA P A h x = some v) :
    ∃ v', (resOne B x).run P w = .ok v' w ∧ V ρ v v' := by
  cases x with
  | tmp t =>
    simp only [resultA, Option.some.injEq] at hs
    subst hs
    exact ⟨_, rfl, hA.getD t⟩
  | cell a t =>
    simp only [resultA] at hs
    have ha := hA.getD a
    split at hs
    · rename_i x hx
      rw [hx] at ha
      obtain ⟨b, hb, hAr⟩ := ha.pointer_inv
      obtain ⟨v', h1, h2⟩ := loadA_sim (P := P) hR hAr hs
      exact ⟨v', by simp only [resOne, hb, asAddr, Sem.run_bind, Sem.run_pure, Result.andThen_ok, h1], h2⟩
    · cases hs

theorem resultsA_run {A B : Array Value} {h : AH} {w : World} (hR : Rel ρ h w.heap) (hA : VS ρ A B) : ∀ (rs : List ResultVar) (vs : List Value), resultsA P A h rs = some vs →
    ∃ vs', (rs.mapM (resOne B)).run P w = .ok vs' w ∧ VS ρ vs.toArray vs'.toArray
  | [], vs, hs => by
    simp only [resultsA, Option.some.injEq] at hs
    subst hs
    exact ⟨[], by simp, rfl, fun j hj => by simp at hj⟩
  | x :: rs, vs, hs => by
    simp only [resultsA] at hs
    split at hs
    · rename_i v hv
      obtain ⟨vs1, h1, rfl⟩ := Option.map_eq_some_iff.1 hs
      obtain ⟨v', e1, e2⟩ := resultA_run (P := P) hR hA hv
      obtain ⟨vs', e3, e4⟩ := resultsA_run hR hA rs vs1 h1
      refine ⟨v' :: vs', ?_, ?_⟩
      · rw [List.mapM_cons]
        simp only [Sem.run_bind, e1, Result.andThen_ok, e3, Sem.run_pure]
      · refine ⟨by have := e4.1; simpa using this, fun j hj => ?_⟩
        cases j with
        | zero => simpa using e2
        | succ j =>
          have := e4.2 j (by simp at hj ⊢; omega)
          simpa [Array.getD_eq_getD_getElem?] using this
    · cases hs

/-- The value that a function hands back. -/
def resVal : List Value → Value
  | [v] => v
  | vs => .tuple vs.toArray

theorem results_sound {fn : Func} {A B : Array Value} {h : AH} {w : World} {vs : List Value} (hR : Rel ρ h w.heap) (hA : VS ρ A B) (hs : resultsA P A h fn.results.toList = some vs) :
    ∃ v', (results fn B).run P w = .ok v' w ∧ V ρ (resVal vs) v' := by
  obtain ⟨vs', e1, e2⟩ := resultsA_run (P := P) hR hA _ _ hs
  have hlen : vs.length = vs'.length := by have := e2.1; simpa using this
  have e1' : (fn.results.mapM (resOne B)).run P w = .ok vs'.toArray w := by
    rw [Array.mapM_eq_mapM_toList, Sem.run_map, e1]; rfl
  have e3 : (results fn B).run P w = .ok (if h : vs'.toArray.size = 1 then vs'.toArray[0] else .tuple vs'.toArray) w := by
    rw [results_eq, Sem.run_bind, e1']; rfl
  refine ⟨_, e3, ?_⟩
  cases vs with
  | nil =>
    cases vs' with
    | nil => exact V.undef
    | cons v' r => simp at hlen
  | cons v r =>
    cases vs' with
    | nil => simp at hlen
    | cons v' r' =>
      cases r with
      | nil =>
        cases r' with
        | nil => have := e2.2 0 (by simp); simpa [resVal] using this
        | cons _ _ => simp at hlen
      | cons u r =>
        cases r' with
        | nil => simp at hlen
        | cons u' r' =>
          have hne : ¬ (v' :: u' :: r').toArray.size = 1 := by simp
          rw [dif_neg hne]
          exact .tuple _ _ (by simp) e2.1 e2.2

theorem leaves_sound {fn : Func} {n : Nat} {v : Value} {h₁ : AH} {A B : Array Value} {vs : List Value} {ρ₀ : Ren} {w₀ : World} (hres : resultsA P A h₁ fn.results.toList = some vs) (hv : resVal vs = v) :
    ∀ (ds : List Nat) (h : AH) (xs : List Deferred) (ρ : Ren) (w : World), shut ds h = some h₁ → DRel ρ ds xs → Step ρ₀ w₀ ρ w → Rel ρ h w.heap → VS ρ A B →
      LeavesInM Fence.wide n P fn B (RetPost ρ₀ w₀ v h₁) xs .returning w
  | [], h, xs, ρ, w, hs, hD, hst, hR, hA => by
    simp only [shut, Option.some.injEq] at hs
    subst hs
    obtain ⟨_, rfl⟩ := hD
    obtain ⟨v', e1, e2⟩ := results_sound hR hA hres
    exact ⟨v', e1, ρ, v', rfl, hst, hR, hv ▸ e2⟩
  | d :: ds, h, xs, ρ, w, hs, hD, hst, hR, hA => by
    obtain ⟨hD1, rfl⟩ := hD
    simp only [shut] at hs
    split at hs
    · rename_i hg
      obtain ⟨i, X, hi, hX, rfl, hs0, hro⟩ := hR.obj _ _ hg
      refine ⟨fun hc => (by cases hc), .inl ⟨i.b, _, by simp [hi], take_run hX, ?_⟩⟩
      refine leaves_sound hres hv ds (h.kill d) _ ρ _ hs ⟨fun x hx => hD1 x (by simp [hx]), rfl⟩ (hst.trans (Step.set hi hro _)) ?_ hA
      refine (hR.kill d).foreign _ _ fun β o j hβ hj hbj => ?_
      rw [AH.get_kill] at hβ
      split at hβ
      · cases hβ
      · rename_i hne; exact hne (hR.inj β d o _ j i hβ hg hj hi hbj)
    · cases hs

theorem callFn_sound (hE : ESoundL P E) (hq : Quiet P) (hmix : P.follows .mixedOrders = true) {f : FuncId} {args args' : Array Value} {h h₁ : AH} {v : Value} (hs : callFn P E f args h = some (v, h₁)) {w : World} (n : Nat) (hR : Rel ρ h w.heap)
    (ha : VS ρ args args') : CallsIn Fence.wide n P f args' w (RetPost ρ w v h₁) := by
  unfold callFn at hs
  split at hs
  · cases hs
  · rename_i fn hfn
    split at hs
    · cases hs
    · rename_i c hbody
      split at hs
      · cases hs
      · rename_i ex s hne hc
        split at hs
        · cases hs
        · rename_i h' hsh
          have hA0 : VS ρ (args ++ Array.replicate (fn.ntmps - args.size) undef) (args' ++ Array.replicate (fn.ntmps - args'.size) undef) := by
            rw [← ha.1]
            refine VS.append2 ha ⟨rfl, fun j hj => ?_⟩
            simp only [Array.size_replicate] at hj
            have : (Array.replicate (fn.ntmps - args.size) undef).getD j undef = undef := by simp [Array.getD]
            rw [this]; exact V.undef
          have hw := evalC_sound hE hq hmix c none _ _ hc ρ w { tmps := args' ++ Array.replicate (fn.ntmps - args'.size) undef, defers := [] } n none trivial hR hA0 ⟨fun d hd => (by cases hd), rfl⟩
          have fin : ∀ vs, resultsA P s.tmps h' fn.results.toList = some vs → resVal vs = v → h' = h₁ → CallsIn Fence.wide n P f args' w (RetPost ρ w v h₁) := by
            intro vs hres hv he
            subst he
            refine callsIn_of_wp_marks hfn hbody trivial (wpIn_mono hw ?_) rfl
            rintro e a' w' ⟨rfl, ρ', hst, hR', hA', hD'⟩
            have hl := leaves_sound (n := n) hres hv s.defers s.h a'.defers ρ' w' hsh hD' hst hR' hA'
            cases ex with
            | normal => exact hl
            | exit id => exact (hne id rfl).elim
            | ret => exact hl
          split at hs
          · rename_i u hres
            simp only [Option.some.injEq, Prod.mk.injEq] at hs
            exact fin _ hres hs.1 hs.2
          · rename_i vs hn1 hres
            simp only [Option.some.injEq, Prod.mk.injEq] at hs
            refine fin _ hres ?_ hs.2
            rw [← hs.1]
            cases vs with
            | nil => rfl
            | cons u r => cases r with
              | nil => exact (hn1 u rfl).elim
              | cons _ _ => rfl
          · cases hs
      · cases hs

/-- What is said of functions in place of their text is so. -/
def OverOk (P : Program) (ov : Over) : Prop :=
  ∀ f g, ov f = some g → ∀ args h v h₁, g args h = some (v, h₁) → ∀ ρ w args' n, Rel ρ h w.heap → VS ρ args args' → CallsIn Fence.wide n P f args' w (RetPost ρ w v h₁)

theorem env_sound (hq : Quiet P) (hmix : P.follows .mixedOrders = true) {ov : Over} (hov : OverOk P ov) : ∀ n, ESoundL P (env P ov n)
  | 0 => { call := fun f args h v h₁ hs => (by cases hs), code := fun rd c s r hs => (by cases hs), loop := fun rd c s r hs => (by cases hs) }
  | n + 1 =>
    { call := fun f args h v h₁ hs ρ w args' k hR ha => by
        simp only [env] at hs
        split at hs
        · rename_i g hg
          exact hov f g hg args h v h₁ hs ρ w args' k hR ha
        · exact callFn_sound (env_sound hq hmix hov n) hq hmix hs k hR ha
      code := fun rd c s r hs => evalC_sound (env_sound hq hmix hov n) hq hmix c rd s r hs
      loop := fun rd c s r hs => loop_sound (env_sound hq hmix hov n) (evalC_sound (env_sound hq hmix hov n) hq hmix c rd) hs }

end
end Go.AE

/-
  AE, part 18: more fuel changes nothing.
-/
namespace Go.AE
noncomputable section
set_option linter.unusedSimpArgs false
set_option linter.unusedVariables false
variable {P : Program} {E E' : Env} {ops : Array Oper}

structure ELe (E E' : Env) : Prop where
  call : ∀ f args h r, E.call f args h = some r → E'.call f args h = some r
  code : ∀ rd c s r, E.code rd c s = some r → E'.code rd c s = some r

theorem roundA_mono (hE : ELe E E') {l : Nat} {args : Array Value} {h : AH} {r : Value × AH} (hs : roundA E l args h = some r) : roundA E' l args h = some r := by
  unfold roundA at hs ⊢
  split at hs
  · split at hs
    · cases hs
    · rename_i hsz
      simp only [hsz, if_false]
      split at hs
      · rename_i s₁ h1
        simp only [hE.code _ _ _ _ h1]
        split at hs
        · split at hs
          · rename_i ex s₂ h2
            simp only [hE.code _ _ _ _ h2]
            exact hs
          · cases hs
        · cases hs
      · cases hs
  · cases hs

theorem stepVal_mono (hE : ELe E E') {o : Oper} {A : Array Value} {h : AH} {r : Value × AH} (hs : stepVal P E ops o A h = some r) : stepVal P E' ops o A h = some r := by
  unfold stepVal at hs ⊢
  split at hs
  · split at hs
    · exact hs
    · exact hs
    · exact hE.call _ _ _ _ hs
    · exact roundA_mono hE hs
    · cases hs
  · exact hs
  · cases hs

theorem stepOp_mono (hE : ELe E E') {o : Oper} {s s' : St} (hs : stepOp P E ops o s = some s') : stepOp P E' ops o s = some s' := by
  unfold stepOp at hs ⊢
  split at hs
  · rename_i v h hv
    simp only [stepVal_mono hE hv]; exact hs
  · cases hs

theorem runList_mono (hE : ELe E E') : ∀ (l : List Nat) (s s' : St), runList P E ops l s = some s' → runList P E' ops l s = some s'
  | [], s, s', hs => hs
  | i :: r, s, s', hs => by
    simp only [runList] at hs ⊢
    split at hs
    · exact runList_mono hE r s s' hs
    · split at hs
      · rename_i s₁ h1
        simp only [stepOp_mono hE h1]
        exact runList_mono hE r s₁ s' hs
      · cases hs

theorem trace_mono (hE : ELe E E') : ∀ (l : List Oper) (s : St) (r : List St), trace P E ops l s = some r → trace P E' ops l s = some r
  | [], s, r, hs => hs
  | o :: l, s, r, hs => by
    simp only [trace] at hs ⊢
    split at hs
    · rename_i s' h1
      simp only [stepOp_mono hE h1]
      obtain ⟨r', h2, rfl⟩ := Option.map_eq_some_iff.1 hs
      rw [trace_mono hE l s' r' h2]; rfl
    · cases hs

theorem region_mono (hE : ELe E E') {draw : Bool} {s s' : St} (hs : evalRegion P E ops draw s = some s') : evalRegion P E' ops draw s = some s' := by
  unfold evalRegion at hs ⊢
  split at hs
  · rename_i hd
    rw [if_pos hd]
    split at hs
    · rename_i hst
      split at hs
      · rename_i sts ht
        simp only [trace_mono hE _ _ _ ht]; exact hs
      · cases hs
    · cases hs
  · rename_i hd
    rw [if_neg hd]
    exact runList_mono hE _ _ _ hs

theorem evalC_mono (hE : ELe E E') : ∀ (c : Code) (rd : Option Nat) (s : St) (r : Ex × St), evalC P E rd c s = some r → evalC P E' rd c s = some r := by
  intro c
  induction c with
  | skip => intro rd s r hs; exact hs
  | label l => intro rd s r hs; exact hs
  | region id ops draw =>
    intro rd s r hs
    simp only [evalC] at hs ⊢
    obtain ⟨s', h1, rfl⟩ := Option.map_eq_some_iff.1 hs
    rw [region_mono hE h1]; rfl
  | seq x y ihx ihy =>
    intro rd s r hs
    simp only [evalC] at hs ⊢
    split at hs
    · rename_i s' h1
      simp only [ihx rd s _ h1]; exact ihy rd s' r hs
    · rename_i hne
      rw [ihx rd s _ hs]
      obtain ⟨ex, s'⟩ := r
      cases ex with
      | normal => exact absurd hs (hne s')
      | exit id => rfl
      | ret => rfl
  | cond c x y ihx ihy =>
    intro rd s r hs
    simp only [evalC] at hs ⊢
    split at hs
    · exact ihx rd s r hs
    · exact ihy rd s r hs
    · cases hs
  | block id c ih =>
    intro rd s r hs
    simp only [evalC] at hs ⊢
    split at hs
    · rename_i id' s' h1
      simp only [ih rd s _ h1]; exact hs
    · rename_i hne
      rw [ih rd s _ hs]
      obtain ⟨ex, s'⟩ := r
      cases ex with
      | normal => rfl
      | exit id' => exact absurd hs (hne id' s')
      | ret => rfl
  | loop c ih =>
    intro rd s r hs
    simp only [evalC] at hs ⊢
    split at hs
    · rename_i s' h1
      simp only [ih rd s _ h1]; exact hE.code _ _ _ _ hs
    · rename_i hne
      rw [ih rd s _ hs]
      obtain ⟨ex, s'⟩ := r
      cases ex with
      | normal => exact absurd hs (hne s')
      | exit id => rfl
      | ret => rfl
  | scope c ih => intro rd s r hs; simp only [evalC] at hs ⊢; exact ih rd s r hs
  | exit id => intro rd s r hs; exact hs
  | ret => intro rd s r hs; exact hs
  | goto l => intro rd s r hs; simp only [evalC] at hs; cases hs
  | refuse why => intro rd s r hs; simp only [evalC] at hs; cases hs
  | rangeFunc g ps assign body _ _ =>
    intro rd s r hs
    simp only [evalC] at hs ⊢
    split at hs
    · cases hs
    · rename_i d mark h₁ hent
      split at hs
      · rename_i f first captured hg
        split at hs
        · rename_i hb
          rw [if_pos hb]
          split at hs
          · rename_i v h₂ hc
            simp only [hE.call _ _ _ _ hc]; exact hs
          · cases hs
        · cases hs
      · cases hs

theorem callFn_mono (hE : ELe E E') {f : FuncId} {args : Array Value} {h : AH} {r : Value × AH} (hs : callFn P E f args h = some r) : callFn P E' f args h = some r := by
  unfold callFn at hs ⊢
  split at hs
  · cases hs
  · split at hs
    · cases hs
    · split at hs
      · cases hs
      · rename_i ex s hne hc
        simp only [evalC_mono hE _ _ _ _ hc]
        cases ex with
        | normal => exact hs
        | exit id => exact (hne id rfl).elim
        | ret => exact hs
      · cases hs

theorem env_le (ov : Over) : ∀ n, ELe (env P ov n) (env P ov (n + 1))
  | 0 => { call := fun f args h r hs => (by cases hs), code := fun rd c s r hs => (by cases hs) }
  | n + 1 =>
    { call := fun f args h r hs => by
        simp only [env] at hs ⊢
        split at hs
        · rename_i g hg; exact hs
        · rename_i hg; exact callFn_mono (env_le ov n) hs
      code := fun rd c s r hs => evalC_mono (env_le ov n) c rd s r hs }

theorem ELe.refl (E : Env) : ELe E E := ⟨fun _ _ _ _ h => h, fun _ _ _ _ h => h⟩
theorem ELe.trans {E₁ E₂ E₃ : Env} (h : ELe E₁ E₂) (k : ELe E₂ E₃) : ELe E₁ E₃ := ⟨fun f a h' r e => k.call _ _ _ _ (h.call f a h' r e), fun rd c s r e => k.code _ _ _ _ (h.code rd c s r e)⟩

theorem env_le' (ov : Over) {n m : Nat} (h : n ≤ m) : ELe (env P ov n) (env P ov m) := by
  obtain ⟨d, rfl⟩ := Nat.le.dest h
  induction d with
  | zero => exact ELe.refl _
  | succ d ih => exact (ih (by omega)).trans (env_le ov (n + d))

end
end Go.AE

/-
  AE, part 19: what is said of a function in place of its text: a result and a heap that stand, by other names, for those that the evaluator comes to; what it has left lying is left out.
-/
namespace Go.AE
noncomputable section
set_option linter.unusedSimpArgs false
set_option linter.unusedVariables false
variable {P : Program} {ρ : Ren}

inductive FnVV (N : Nat) (π : Nat → Nat) : Fn → Fn → Prop where
  | func (f : FuncId) : FnVV N π (.func f) (.func f)
  | method (s : String) : FnVV N π (.method s) (.method s)
  | methodOf (t : TypeId) (s : String) : FnVV N π (.methodOf t s) (.methodOf t s)
  | via (t : TypeId) (p : Array FieldStep) (f : FuncId) (b : Bool) : FnVV N π (.via t p f b) (.via t p f b)
  | yield (l : Nat) (h : l < N) : FnVV N π (.yield l) (.yield (π l))

/-- A value by other names. -/
inductive VV (N : Nat) (π : Nat → Nat) : Value → Value → Prop where
  | any (v : Value) : VV N π (.tuple #[.tuple #[]]) v
  | bool (b : Bool) : VV N π (.bool b) (.bool b)
  | int (k : IntKind) (n : Int) : VV N π (.int k n) (.int k n)
  | float (k : FloatKind) (n : Nat) : VV N π (.float k n) (.float k n)
  | string (s : ByteArray) : VV N π (.string s) (.string s)
  | nilPointer : VV N π (.pointer none) (.pointer none)
  | pointer (x : Addr) (h : x.block < N) : VV N π (.pointer (some x)) (.pointer (some { x with block := π x.block }))
  | nilSlice (n c : Nat) : VV N π (.slice none n c) (.slice none n c)
  | slice (x : Addr) (n k : Nat) (h : x.block < N) : VV N π (.slice (some x) n k) (.slice (some { x with block := π x.block }) n k)
  | nilMap : VV N π (.map none) (.map none)
  | map (r : Nat) (h : r < N) : VV N π (.map (some r)) (.map (some (π r)))
  | func (f f' : Fn) (as as' cs cs' : Array Value) (hf : FnVV N π f f') (ha : as.size = as'.size) (hc : cs.size = cs'.size)
      (h : ∀ j, j < as.size → VV N π (as.getD j (.tuple #[])) (as'.getD j (.tuple #[])))
      (k : ∀ j, j < cs.size → VV N π (cs.getD j (.tuple #[])) (cs'.getD j (.tuple #[]))) : VV N π (.func f as cs) (.func f' as' cs')
  | nilFunc : VV N π .nilFunc .nilFunc
  | iface (t : TypeId) (v v' : Value) (h : VV N π v v') : VV N π (.iface t v) (.iface t v')
  | nilIface : VV N π .nilIface .nilIface
  | agg (cs cs' : Array Value) (hc : cs.size = cs'.size) (h : ∀ j, j < cs.size → VV N π (cs.getD j (.tuple #[])) (cs'.getD j (.tuple #[]))) : VV N π (.agg cs) (.agg cs')
  | tuple (cs cs' : Array Value) (h1 : cs.size ≠ 1) (hc : cs.size = cs'.size) (h : ∀ j, j < cs.size → VV N π (cs.getD j (.tuple #[])) (cs'.getD j (.tuple #[]))) : VV N π (.tuple cs) (.tuple cs')
  | over : VV N π (.tuple #[.bool false]) (.tuple #[.bool false])

/-- The renaming of the names. -/
def via (N : Nat) (π : Nat → Nat) (ρ : Ren) : Ren := fun β => if β < N then ρ (π β) else none

theorem via_some {N : Nat} {π : Nat → Nat} {β : Nat} (h : β < N) : via N π ρ β = ρ (π β) := by simp [via, h]

theorem VV.trans {N : Nat} {π : Nat → Nat} {x y z : Value} (h : VV N π x y) (k : V ρ y z) : V (via N π ρ) x z := by
  induction h generalizing z with
  | any v => exact .any _
  | bool b => cases k; exact .bool b
  | int kk n => cases k; exact .int kk n
  | float kk n => cases k; exact .float kk n
  | string s => cases k; exact .string s
  | nilPointer => cases k; exact .nilPointer
  | pointer x hx =>
    cases k with
    | pointer _ a hA =>
      obtain ⟨i, e, r⟩ := hA
      exact .pointer x a ⟨i, by rw [via_some hx]; exact e, r⟩
  | nilSlice n c => cases k; exact .nilSlice n c
  | slice x n kk hx =>
    cases k with
    | slice _ a _ _ c hn hS =>
      obtain ⟨i, e, r⟩ := hS
      exact .slice x a n kk c hn ⟨i, by rw [via_some hx]; exact e, r⟩
  | nilMap => cases k; exact .nilMap
  | map r hr =>
    cases k with
    | map _ r' i e hb => exact .map r r' i (by rw [via_some hr]; exact e) hb
  | func f f' as as' cs cs' hf ha hc _ _ ih ih' =>
    cases k with
    | func _ f'' _ as'' _ cs'' hf' ha' hc' k1 k2 =>
      refine .func f f'' as as'' cs cs'' ?_ (ha.trans ha') (hc.trans hc') (fun j hj => ih j hj (k1 j (ha ▸ hj))) (fun j hj => ih' j hj (k2 j (hc ▸ hj)))
      cases hf with
      | func f => cases hf'; exact .func f
      | method s => cases hf'; exact .method s
      | methodOf t s => cases hf'; exact .methodOf t s
      | via t p f b => cases hf'; exact .via t p f b
      | yield l hl =>
        cases hf' with
        | yield _ l' i e hb => exact .yield l l' i (by rw [via_some hl]; exact e) hb
  | nilFunc => cases k; exact .nilFunc
  | iface t v v' _ ih =>
    cases k with
    | iface _ _ v'' k1 => exact .iface t v v'' (ih k1)
  | nilIface => cases k; exact .nilIface
  | agg cs cs' hc _ ih =>
    cases k with
    | agg _ cs'' hc' k1 => exact .agg cs cs'' (hc.trans hc') fun j hj => ih j hj (k1 j (hc ▸ hj))
  | tuple cs cs' h1 hc _ ih =>
    cases k with
    | any v => exact absurd (hc.trans rfl) h1
    | over => exact absurd (hc.trans rfl) h1
    | tuple _ cs'' h1' hc' k1 => exact .tuple cs cs'' h1 (hc.trans hc') fun j hj => ih j hj (k1 j (hc ▸ hj))
  | over =>
    cases k with
    | tuple _ cs' h1 hc _ => exact absurd rfl h1
    | over => exact .over

/-- What lay ahead of all has its own name. -/
theorem VV.self {N : Nat} {π : Nat → Nat} {x y : Value} (h : V ρ x y) (hid : ∀ β i, ρ β = some i → β < N ∧ π β = β) : VV N π x x := by
  have aid : ∀ (x : Addr) i, ρ x.block = some i → x = { x with block := π x.block } := by
    intro x i e; rw [(hid _ _ e).2]
  induction h with
  | any v => exact .any _
  | bool b => exact .bool b
  | int k n => exact .int k n
  | float k n => exact .float k n
  | string s => exact .string s
  | nilPointer => exact .nilPointer
  | pointer x a e =>
    obtain ⟨i, e, _⟩ := e
    have h1 := VV.pointer (N := N) (π := π) x (hid _ _ e).1
    rwa [← aid x i e] at h1
  | nilSlice n c => exact .nilSlice n c
  | slice x a n k c hn e =>
    obtain ⟨i, e, _⟩ := e
    have h1 := VV.slice (N := N) (π := π) x n k (hid _ _ e).1
    rwa [← aid x i e] at h1
  | nilMap => exact .nilMap
  | map r r' i e hb =>
    have h1 := VV.map (N := N) (π := π) r (hid _ _ e).1
    rwa [(hid _ _ e).2] at h1
  | func f f' as as' cs cs' hf ha hc _ _ ih ih' =>
    refine .func f f as as cs cs ?_ rfl rfl ih ih'
    cases hf with
    | func f => exact .func f
    | method s => exact .method s
    | methodOf t s => exact .methodOf t s
    | via t p f b => exact .via t p f b
    | yield l l' i e hb =>
      have h1 := FnVV.yield (N := N) (π := π) l (hid _ _ e).1
      rwa [(hid _ _ e).2] at h1
  | nilFunc => exact .nilFunc
  | iface t v v' _ ih => exact .iface t v v ih
  | nilIface => exact .nilIface
  | agg cs cs' hc _ ih => exact .agg cs cs rfl ih
  | tuple cs cs' h1 hc _ ih => exact .tuple cs cs h1 rfl ih
  | over => exact .over

def VVS (N : Nat) (π : Nat → Nat) (xs ys : Array Value) : Prop := xs.size = ys.size ∧ ∀ j, j < xs.size → VV N π (xs.getD j undef) (ys.getD j undef)

theorem VVS.trans {N : Nat} {π : Nat → Nat} {xs ys zs : Array Value} (h : VVS N π xs ys) (k : VS ρ ys zs) : VS (via N π ρ) xs zs :=
  ⟨h.1.trans k.1, fun j hj => (h.2 j hj).trans (k.2 j (h.1 ▸ hj))⟩

/-- An object by other names. -/
def OO (N : Nat) (π : Nat → Nat) : AObj → AObj → Prop
  | .cells c n e f z op ro d, o => ∃ c' d', o = .cells c' n e f z op ro d' ∧ ∀ j, j < n → VV N π ((c.get j).getD d) ((c'.get j).getD d')
  | .map es cl ro, o => ∃ es', o = .map es' cl ro ∧ es.size = es'.size ∧ ∀ (j : Nat) x y, es[j]? = some x → es'[j]? = some y → VV N π x.key y.key ∧ VV N π x.val y.val ∧ x.born = y.born
  | .iter s p, o => o = .iter s p
  | .loop st pend tmps params assign body d, o => ∃ tmps', o = .loop st pend tmps' params assign body (π d) ∧ d < N ∧ VVS N π tmps tmps'
  | .defs, o => o = .defs
  | .mapIter m since seen last, o => o = .mapIter (π m) since seen last ∧ m < N

theorem OO.trans {N : Nat} {π : Nat → Nat} {i : Info} {x y : AObj} {z : Obj} (h : OO N π x y) (k : ORel ρ i y z) : ORel (via N π ρ) i x z := by
  cases x with
  | cells c n e f zz op ro d =>
    obtain ⟨c', d', rfl, hv⟩ := h
    obtain ⟨C, e1, e2, e3, e4, e5, e6, e7, e8, e9, hk⟩ := k
    exact ⟨C, e1, e2, e3, e4, e5, e6, e7, e8, e9, fun j hj => (hv j hj).trans (hk j hj)⟩
  | map es cl ro =>
    obtain ⟨es', rfl, hs, hv⟩ := h
    obtain ⟨es'', e1, e2, e3, e4, hk⟩ := k
    refine ⟨es'', e1, e2, e3, hs.trans e4, fun j x z hx hz => ?_⟩
    have hlt := (Array.getElem?_eq_some_iff.1 hx).1
    have hy : es'[j]? = some es'[j] := by simp [hs ▸ hlt]
    obtain ⟨a1, a2, a3⟩ := hv j x _ hx hy
    obtain ⟨b1, b2, b3⟩ := hk j _ z hy hz
    exact ⟨a1.trans b1, a2.trans b2, a3.trans b3⟩
  | iter s p => subst h; exact (k : _ ∧ _)
  | loop st pend tmps params assign body d =>
    obtain ⟨tmps', rfl, hd, hv⟩ := h
    obtain ⟨fn, tm, d', j, e1, e2, e3, e4, e5, e6⟩ := k
    exact ⟨fn, tm, d', j, e1, e2, e3, hv.trans e4, by rw [via_some hd]; exact e5, e6⟩
  | defs => subst h; exact (k : _ ∧ _)
  | mapIter m since seen last =>
    obtain ⟨rfl, hm⟩ := h
    obtain ⟨j, e1, e2, e3, e4⟩ := k
    exact ⟨j, e1, e2, e3, by rw [via_some hm]; exact e4⟩

theorem OO.self {N : Nat} {π : Nat → Nat} {i : Info} {x : AObj} {z : Obj} (k : ORel ρ i x z) (hid : ∀ β i, ρ β = some i → β < N ∧ π β = β) : OO N π x x := by
  cases x with
  | cells c n e f zz op ro d =>
    obtain ⟨C, e1, e2, e3, e4, e5, e6, e7, e8, e9, hk⟩ := k
    exact ⟨c, d, rfl, fun j hj => VV.self (hk j hj) hid⟩
  | map es cl ro =>
    obtain ⟨es'', e1, e2, e3, e4, hk⟩ := k
    refine ⟨es, rfl, rfl, fun j x y hx hy => ?_⟩
    rw [hx] at hy; cases hy
    have hlt := (Array.getElem?_eq_some_iff.1 hx).1
    have hz : es''[j]? = some es''[j] := by simp [e4 ▸ hlt]
    obtain ⟨b1, b2, b3⟩ := hk j _ _ hx hz
    exact ⟨VV.self b1 hid, VV.self b2 hid, rfl⟩
  | iter s p => rfl
  | loop st pend tmps params assign body d =>
    obtain ⟨fn, tm, d', j, e1, e2, e3, e4, e5, e6⟩ := k
    refine ⟨tmps, ?_, (hid _ _ e5).1, rfl, fun j hj => VV.self (e4.2 j hj) hid⟩
    rw [(hid _ _ e5).2]
  | defs => rfl
  | mapIter m since seen last =>
    obtain ⟨j, e1, e2, e3, e4⟩ := k
    exact ⟨by rw [(hid _ _ e4).2], (hid _ _ e4).1⟩

/-- The heap h₁ stands for what h₂ has under other names; what was there ahead (below N₀) has its own. -/
structure HH (N₀ : Nat) (π : Nat → Nat) (h₁ h₂ : AH) : Prop where
  next : N₀ ≤ h₁.next
  id : ∀ β, β < N₀ → π β = β
  obj : ∀ β o, h₁.get β = some o → β < h₁.next ∧ ∃ o', h₂.get (π β) = some o' ∧ OO h₁.next π o o'
  inj : ∀ β γ o p, h₁.get β = some o → h₁.get γ = some p → π β = π γ → β = γ

theorem sum_sound {h h₁ h₂ : AH} {v₁ v₂ v' : Value} {w w₂ : World} {ρ₂ : Ren} {π : Nat → Nat} (hR : Rel ρ h w.heap) (hst : Step ρ w ρ₂ w₂) (hR2 : Rel ρ₂ h₂ w₂.heap) (hv2 : V ρ₂ v₂ v')
    (hH : HH h.next π h₁ h₂) (hv : VV h₁.next π v₁ v₂) : ∃ ρ₁, Step ρ w ρ₁ w₂ ∧ Rel ρ₁ h₁ w₂.heap ∧ V ρ₁ v₁ v' := by
  refine ⟨via h₁.next π ρ₂, ⟨fun β i hi => ?_, fun β i hi hb => ?_, hst.os, hst.tape, hst.output, hst.size, hst.frame⟩, ⟨fun β i hi => ?_, fun β o ho => ?_, fun β γ o p i j ho hp hi hj e => ?_⟩, hv.trans hv2⟩
  · have hlt := (hR.lt β i hi).2
    rw [via_some (Nat.lt_of_lt_of_le hlt hH.next), hH.id β hlt]
    exact hst.le β i hi
  · unfold via at hi
    split at hi
    · exact hst.old _ i hi hb
    · cases hi
  · unfold via at hi
    split at hi
    · rename_i hlt; exact ⟨(hR2.lt _ i hi).1, hlt⟩
    · cases hi
  · obtain ⟨hlt, o', ho', hoo⟩ := hH.obj β o ho
    obtain ⟨i, b, hi, hb, hO⟩ := hR2.obj _ _ ho'
    exact ⟨i, b, by rw [via_some hlt]; exact hi, hb, hoo.trans hO⟩
  · obtain ⟨hlt, o', ho', _⟩ := hH.obj β o ho
    obtain ⟨hlt2, p', hp', _⟩ := hH.obj γ p hp
    rw [via_some hlt] at hi
    rw [via_some hlt2] at hj
    exact hH.inj β γ o p ho hp (hR2.inj _ _ o' p' i j ho' hp' hi hj e)

/-- The heap is as it was; what has been left lying is left out. -/
theorem HH.same {h h₂ : AH} {w : World} (hR : Rel ρ h w.heap) (hk : ∀ β o, h.get β = some o → h₂.get β = some o) : HH h.next (fun β => β) h h₂ where
  next := Nat.le_refl _
  id := fun _ _ => rfl
  obj := fun β o ho => by
    obtain ⟨i, b, hi, _, hO⟩ := hR.obj β o ho
    exact ⟨(hR.lt β i hi).2, o, hk β o ho, OO.self hO fun γ j hj => ⟨(hR.lt γ j hj).2, rfl⟩⟩
  inj := fun _ _ _ _ _ _ e => e

theorem VV.plain1 {N : Nat} {π : Nat → Nat} {v : Value} (h : AE.plain1 v = true) : VV N π v v := by
  cases v with
  | bool b => exact .bool b
  | int k n => exact .int k n
  | float k n => exact .float k n
  | string s => exact .string s
  | pointer a => cases a with
    | none => exact .nilPointer
    | some a => simp [AE.plain1] at h
  | slice a n c => cases a with
    | none => exact .nilSlice n c
    | some a => simp [AE.plain1] at h
  | map r => cases r with
    | none => exact .nilMap
    | some r => simp [AE.plain1] at h
  | nilFunc => exact .nilFunc
  | nilIface => exact .nilIface
  | _ => simp [AE.plain1] at h

/-- What is said of one function in place of its text. -/
def SumOk (P : Program) (f : FuncId) (g : Array Value → AH → Option (Value × AH)) : Prop :=
  ∀ args h v h₁, g args h = some (v, h₁) → ∀ ρ w args' n, Rel ρ h w.heap → VS ρ args args' → CallsIn Fence.wide n P f args' w (RetPost ρ w v h₁)

/-- Out of the evaluator, by other names. -/
theorem SumOk.of_eval (hq : Quiet P) (hmix : P.follows .mixedOrders = true) {ov : Over} (hov : OverOk P ov) {f : FuncId} {g : Array Value → AH → Option (Value × AH)}
    (hg : ∀ args h v h₁, g args h = some (v, h₁) → ∃ n v₂ h₂, callFn P (env P ov n) f args h = some (v₂, h₂) ∧
      ∀ ρ w, Rel ρ h w → ∃ π, HH h.next π h₁ h₂ ∧ VV h₁.next π v v₂) : SumOk P f g := by
  intro args h v h₁ hgs ρ w args' k hR ha
  obtain ⟨n, v₂, h₂, hc, hre⟩ := hg args h v h₁ hgs
  obtain ⟨π, hH, hV⟩ := hre ρ w.heap hR
  refine (callFn_sound (env_sound hq hmix hov n) hq hmix hc k hR ha).mono ?_
  rintro e w' ⟨ρ₂, v', rfl, hst, hR2, hv2⟩
  obtain ⟨ρ₁, a, b, c⟩ := sum_sound hR hst hR2 hv2 hH hV
  exact ⟨ρ₁, v', rfl, a, b, c⟩

end
end Go.AE
