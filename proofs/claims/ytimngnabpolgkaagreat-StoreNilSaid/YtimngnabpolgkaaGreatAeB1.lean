/-
  AE, part 10: the evaluator.
-/
import Derived.Test.YtimngnabpolgkaaGreatAeF2
namespace Go.AE
noncomputable section
set_option linter.unusedSimpArgs false
set_option linter.unusedVariables false

structure St where
  tmps : Array Value
  defers : List Nat
  h : AH

structure Env where
  call : FuncId → Array Value → AH → Option (Value × AH)
  code : Option Nat → Code → St → Option (Ex × St)

def put (tmps : Array Value) (dst : Option Tmp) (v : Value) : Array Value :=
  match dst with
  | some d => tmps.setIfInBounds d v
  | none => tmps

/-- What a guard's operation has yielded, if that is known. -/
def yieldedA (ops : Array Oper) (tmps : Array Value) (j : Nat) : Option (Option Bool) :=
  match (ops[j]?).bind (·.dst) with
  | none => some none
  | some d => match tmps[d]? with
    | none => some none
    | some (.bool b) => some (some b)
    | some (.tuple cs) => if cs.size = 1 then none else some none
    | some _ => some none

/-- Is an operation carried out? -/
def wantedA (ops : Array Oper) (tmps : Array Value) (o : Oper) : Option Bool :=
  match o.guard with
  | none => some true
  | some (j, want) => (yieldedA ops tmps j).map (· == some want)

/-- A round of a loop over a function. -/
def roundA (E : Env) (l : Nat) (args : Array Value) (h : AH) : Option (Value × AH) :=
  match h.get l with
  | some (.loop _ _ tmps params assign body _) =>
    if args.size ≠ params.size then none else
    match E.code (some l) assign { tmps := (params.zip args).foldl (fun tmps (t, a) => tmps.setIfInBounds t a) tmps, defers := [], h } with
    | some (.normal, s₁) =>
      match s₁.h.get l with
      | some (.loop .ready pend₁ tmps₁ params₁ assign₁ body₁ defers₁) =>
        match E.code (some l) body { s₁ with h := s₁.h.set l (.loop .busy pend₁ tmps₁ params₁ assign₁ body₁ defers₁) } with
        | some (ex, s₂) =>
          match s₂.h.get l with
          | some (.loop _ _ tmps₂ params₂ assign₂ body₂ defers₂) =>
            match ex with
            | .normal => some (.bool true, s₂.h.set l (.loop .ready .normal tmps₂ params₂ assign₂ body₂ defers₂))
            | ex => some (.bool false, s₂.h.set l (.loop .done ex tmps₂ params₂ assign₂ body₂ defers₂))
          | _ => none
        | none => none
      | _ => none
    | _ => none
  | _ => none

/-- What an operation yields, and the heap behind it. -/
def stepVal (P : Program) (E : Env) (ops : Array Oper) (o : Oper) (tmps : Array Value) (h : AH) : Option (Value × AH) :=
  match wantedA ops tmps o with
  | some true =>
    match opA P (aeval tmps) h o with
    | some (.val v h') => some (v, h')
    | some (.skip h') => some (undef, h')
    | some (.enter f args) => E.call f args h
    | some (.round l args) => roundA E l args h
    | none => none
  | some false => some (undef, h)
  | none => none

def stepOp (P : Program) (E : Env) (ops : Array Oper) (o : Oper) (s : St) : Option St :=
  match stepVal P E ops o s.tmps s.h with
  | some (v, h) => some { s with tmps := put s.tmps o.dst v, h }
  | none => none

/-- Operations in an order. -/
def runList (P : Program) (E : Env) (ops : Array Oper) : List Nat → St → Option St
  | [], s => some s
  | i :: r, s =>
    match ops[i]? with
    | none => runList P E ops r s
    | some o => match stepOp P E ops o s with
      | some s' => runList P E ops r s'
      | none => none

/-- The states on the way, the first one first. -/
def trace (P : Program) (E : Env) (ops : Array Oper) : List Oper → St → Option (List St)
  | [], s => some [s]
  | o :: r, s => match stepOp P E ops o s with
    | some s' => (trace P E ops r s').map (s :: ·)
    | none => none

/-! ### Regions whose order is open -/
/-- It neither reads nor writes memory. -/
def pureOp : Op → Bool
  | .move _ | .assign _ | .pick _ _ _ | .binOp _ _ _ _ _ | .unOp _ _ _ | .convert _ _ _ | .fieldAddr _ _ _ | .field _ _ _ | .index _ _ _ | .extract _ _ | .indexAddr _ _ _ | .build _ _ | .makeFunc _ _ _
  | .makeInterface _ _ | .nilCheck _ => true
  | .call c => match c.callee with
    | .builtin .min | .builtin .max => true
    | _ => false
  | _ => false
/-- It reads memory, no more. -/
def readOp : Op → Bool
  | .load _ _ | .slice _ _ _ _ _ => true
  | .call c => match c.callee with
    | .builtin .len => true
    | _ => false
  | _ => false
def heavyOp (o : Op) : Bool := !pureOp o && !readOp o

/-- Is one ahead of the other by the edges? -/
def aheadOf (b : Array Nat) (i j : Nat) : Bool := (b.getD j 0).testBit i

/-- What waits for j by an edge waits for i too. -/
def lateOk (ops : Array Oper) (b : Array Nat) (i j : Nat) : Bool :=
  ops.toList.zipIdx.all fun (o, x) => !(o.after.toList.any fun e => Region.binds .any e && decide (e.on = j)) || aheadOf b i x

/-- Edges go back; two that stand in no order name no slot in common, and one of them writes no memory, or the later one only makes something, for which nobody waits who does not wait for the earlier one too. -/
def drawStatic (ops : Array Oper) : Bool :=
  let b := Region.before ops
  (ops.toList.zipIdx.all fun (o, i) => o.after.toList.all fun e => !Region.binds .any e || decide (e.on < i)) &&
  (ops.toList.zipIdx.all fun (o, j) => ops.toList.zipIdx.all fun (p, i) =>
    !decide (i < j) || aheadOf b i j || (p.apart ops o && (!(heavyOp p.op && heavyOp o.op) || (freshAt o && lateOk ops b i j))))

/-- The pairs (one that reads, one that writes) that stand in no order. -/
def drawPairs (ops : Array Oper) : List (Nat × Nat) :=
  let b := Region.before ops
  (ops.toList.zipIdx.filter fun (o, _) => readOp o.op).flatMap fun (_, i) =>
    (ops.toList.zipIdx.filter fun (p, j) => heavyOp p.op && !(if i < j then aheadOf b i j else aheadOf b j i)).map fun (_, j) => (i, j)

/-- Equality of values, as far as it is told. -/
def addrEq (a b : Addr) : Bool := a.block == b.block && a.off == b.off && a.spot == b.spot
def veq1 : Value → Value → Bool
  | .bool a, .bool b => a == b
  | .int k a, .int l b => decide (k = l) && decide (a = b)
  | .string a, .string b => decide (a = b)
  | .pointer none, .pointer none => true
  | .pointer (some a), .pointer (some b) => addrEq a b
  | .slice none n c, .slice none m d => n == m && c == d
  | .slice (some a) n c, .slice (some b) m d => addrEq a b && n == m && c == d
  | .map none, .map none => true
  | .map (some a), .map (some b) => a == b
  | .nilFunc, .nilFunc => true
  | .nilIface, .nilIface => true
  | _, _ => false
def veqL : List Value → List Value → Bool
  | [], [] => true
  | x :: xs, y :: ys => veq1 x y && veqL xs ys
  | _, _ => false
def veq : Value → Value → Bool
  | .agg xs, .agg ys => veqL xs.toList ys.toList
  | x, y => veq1 x y

/-- Does one that reads yield the same ahead of one that writes and behind it? -/
def sameRead (P : Program) (ops : Array Oper) (sts : List St) (ij : Nat × Nat) : Bool :=
  match ops[ij.1]?, sts[ij.1]?, sts[ij.2]?, sts[ij.2 + 1]? with
  | some o, some si, some sj, some sk =>
    match wantedA ops si.tmps o with
    | some false => true
    | some true =>
      match opA P (aeval si.tmps) sj.h o, opA P (aeval si.tmps) sk.h o with
      | some (.val v _), some (.val v' _) => veq v v'
      | _, _ => false
    | none => false
  | _, _, _, _ => false

/-- An order in which what only makes something comes as late as may be. -/
def reord (ops : Array Oper) : List Nat :=
  let b := Region.before ops
  let acc := (List.range ops.size).foldl (fun acc x => if freshAt (ops.getD x default) then acc else
    acc ++ ((List.range ops.size).filter fun j => freshAt (ops.getD j default) && aheadOf b j x && !acc.contains j) ++ [x]) []
  acc ++ (List.range ops.size).filter fun j => !acc.contains j

/-- The operations in an order of which the checks hold. -/
def drawOps (ops : Array Oper) : Option (Array Oper) :=
  if drawStatic ops then some ops
  else if permOk ops (reord ops) && drawStatic (permOps ops (reord ops)) then some (permOps ops (reord ops)) else none

def evalRegion (P : Program) (E : Env) (ops : Array Oper) (draw : Bool) (s : St) : Option St :=
  if draw then
    match drawOps ops with
    | some ops' => match trace P E ops' ops'.toList s with
      | some sts => if (drawPairs ops').all (sameRead P ops' sts) then sts.getLast? else none
      | none => none
    | none => none
  else runList P E ops (List.range ops.size) s

/-! ### Code -/
/-- The jump that is taken up behind a loop over a function. -/
def evalC (P : Program) (E : Env) (rd : Option Nat) : Code → St → Option (Ex × St)
  | .skip, s => some (.normal, s)
  | .label _, s => some (.normal, s)
  | .region _ ops draw, s => (evalRegion P E ops draw s).map (.normal, ·)
  | .seq a b, s => match evalC P E rd a s with
    | some (.normal, s') => evalC P E rd b s'
    | r => r
  | .cond c x y, s => match aeval s.tmps c with
    | .bool true => evalC P E rd x s
    | .bool false => evalC P E rd y s
    | _ => none
  | .block id c, s => match evalC P E rd c s with
    | some (.exit id', s') => if id' = id then some (.normal, s') else some (.exit id', s')
    | r => r
  | .loop c, s => match evalC P E rd c s with
    | some (.normal, s') => E.code rd (.loop c) s'
    | r => r
  | .scope c, s => evalC P E rd c s
  | .exit id, s => some (.exit id, s)
  | .ret, s => some (.ret, s)
  | .goto _, _ => none
  | .refuse _, _ => none
  | .rangeFunc g ps assign body, s =>
    match (match rd with
      | none => some (s.h.next, [s.h.next], s.h.push .defs)
      | some l => match s.h.get l with
        | some (.loop _ _ _ _ _ _ d) => some (d, [], s.h)
        | _ => none) with
    | none => none
    | some (d, mark, h₁) =>
      match aeval s.tmps g with
      | .func (.func f) first captured =>
        if ((P.funcs[f]?).bind (·.body)).isSome then
          match E.call f (first ++ #[.func (.yield h₁.next) #[] #[]] ++ captured) (h₁.push (.loop .ready .normal s.tmps ps assign body d)) with
          | some (_, h₂) =>
            match h₂.get h₁.next with
            | some (.loop .busy _ _ _ _ _ _) => none
            | some (.loop _ pend tmps' params' assign' body' d') =>
              some (pend, { tmps := s.tmps, defers := mark ++ s.defers, h := h₂.set h₁.next (.loop .exhausted pend tmps' params' assign' body' d') })
            | _ => none
          | none => none
        else none
      | _ => none

/-- The blocks for deferred calls are shut. -/
def shut : List Nat → AH → Option AH
  | [], h => some h
  | d :: ds, h => match h.get d with
    | some .defs => shut ds (h.kill d)
    | _ => none

def resultA (P : Program) (tmps : Array Value) (h : AH) : ResultVar → Option Value
  | .tmp t => some (tmps.getD t undef)
  | .cell a t => match tmps.getD a undef with
    | .pointer (some x) => loadA P t x h
    | _ => none

def resultsA (P : Program) (tmps : Array Value) (h : AH) : List ResultVar → Option (List Value)
  | [] => some []
  | r :: rs => match resultA P tmps h r with
    | some v => (resultsA P tmps h rs).map (v :: ·)
    | none => none

def callFn (P : Program) (E : Env) (f : FuncId) (args : Array Value) (h : AH) : Option (Value × AH) :=
  match P.funcs[f]? with
  | none => none
  | some fn => match fn.body with
    | none => none
    | some c =>
      match evalC P E none c { tmps := args ++ Array.replicate (fn.ntmps - args.size) undef, defers := [], h } with
      | some (.exit _, _) => none
      | some (_, s) =>
        match shut s.defers s.h with
        | none => none
        | some h' => match resultsA P s.tmps h' fn.results.toList with
          | some [v] => some (v, h')
          | some vs => some (.tuple vs.toArray, h')
          | none => none
      | none => none

abbrev Over := FuncId → Option (Array Value → AH → Option (Value × AH))

/-- The evaluator at so much fuel; some functions are met by what is said of them. -/
def env (P : Program) (ov : Over) : Nat → Env
  | 0 => { call := fun _ _ _ => none, code := fun _ _ _ => none }
  | n + 1 =>
    { call := fun f args h => match ov f with
        | some g => g args h
        | none => callFn P (env P ov n) f args h
      code := fun rd c s => evalC P (env P ov n) rd c s }

end
end Go.AE
