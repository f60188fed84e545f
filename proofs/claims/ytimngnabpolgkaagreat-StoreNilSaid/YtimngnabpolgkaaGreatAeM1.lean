/-
  AE, maps: made, looked up, updated, thinned; an interface's value taken out.
-/
import Derived.Test.YtimngnabpolgkaaGreatAeA8
import Derived.MapKept
namespace Go.AE
noncomputable section
set_option linter.unusedSimpArgs false
set_option linter.unusedVariables false
variable {P : Program} {ρ : Ren} {h : AH} {w : World}

/-! ### Entries -/
def EL (ρ : Ren) (l l' : List MapEntry) : Prop := l.length = l'.length ∧ ∀ (j : Nat) x y, l[j]? = some x → l'[j]? = some y → ERel ρ x y

theorem EL.cons {x y : MapEntry} {l l' : List MapEntry} (h : EL ρ (x :: l) (y :: l')) : ERel ρ x y ∧ EL ρ l l' :=
  ⟨h.2 0 x y rfl rfl, by simpa using h.1, fun j a b ha hb => h.2 (j + 1) a b (by simpa using ha) (by simpa using hb)⟩

theorem sameNow_rel {d : TypeDesc} {k x y : Value} {b : Bool} (hv : V ρ x y) (hs : Instr.sameNow d k x = some b) : Instr.sameNow d k y = some b := by
  unfold Instr.sameNow at hs
  split at hs
  · cases hv; exact hs
  · cases hv; exact hs
  · cases hv; exact hs
  · cases hs

def FRel (ρ : Ren) : Option (Nat × Value) → Option (Nat × Value) → Prop
  | none, none => True
  | some (i, v), some (j, u) => i = j ∧ V ρ v u
  | _, _ => False

theorem findNow_rel {d : TypeDesc} {k : Value} : ∀ (l l' : List MapEntry) (i : Nat) (r : Option (Nat × Value)), EL ρ l l' → Instr.findNow d k l i = some r →
    ∃ r', Instr.findNow d k l' i = some r' ∧ FRel ρ r r'
  | [], [], i, r, _, hs => by simp only [Instr.findNow, Option.some.injEq] at hs; subst hs; exact ⟨none, rfl, trivial⟩
  | [], y :: l', i, r, he, hs => by have := he.1; simp at this
  | x :: l, [], i, r, he, hs => by have := he.1; simp at this
  | x :: l, y :: l', i, r, he, hs => by
    obtain ⟨h1, h2⟩ := he.cons
    simp only [Instr.findNow] at hs ⊢
    split at hs
    · rename_i hb
      cases hs
      rw [sameNow_rel h1.1 hb]
      exact ⟨_, rfl, rfl, h1.2.1⟩
    · rename_i hb
      rw [sameNow_rel h1.1 hb]
      exact findNow_rel l l' (i + 1) r h2 hs
    · cases hs

theorem findKey_run {kt : TypeId} {d : TypeDesc} {k : Value} {l : List MapEntry} {r : Option (Nat × Value)} (hd : P.underlying kt = some d) (hf : Instr.findNow d k l 0 = some r) (w : World) :
    (Instr.findKey kt k l).run P w = .ok r w := by
  simp [Instr.findKey, run_underlying hd, hf]

theorem EL.of {es es' : Array MapEntry} (hs : es.size = es'.size) (hr : ∀ (j : Nat) x y, es[j]? = some x → es'[j]? = some y → ERel ρ x y) : EL ρ es.toList es'.toList :=
  ⟨by simpa using hs, fun j x y hx hy => hr j x y (by simpa using hx) (by simpa using hy)⟩

/-! ### Made -/
def makeMapA (reserve : Option Value) (h : AH) : Option (Value × AH) :=
  match reserve with
  | none => some (.map (some h.next), h.push (.map #[] 0 false))
  | some _ => none

theorem makeMapA_sim {t : TypeId} {r r' : Option Value} {v : Value} {h' : AH} (hR : Rel ρ h w.heap) (hr : VO ρ r r') (hs : makeMapA r h = some (v, h')) : Makes P ρ w (Instr.makeMap t r') v h' := by
  unfold makeMapA at hs
  split at hs
  · cases hs
    have hr' : r' = none := by cases r' with
      | none => rfl
      | some x => exact hr.elim
    subst hr'
    let i : Info := { b := w.heap.size, s := 0, n := 0, N := 0, esz := 0, op := false, ro := false }
    refine ⟨ρ.put h.next i, .map (some w.heap.size), { w with heap := w.heap.push (.map #[] 0) }, by simp [Instr.makeMap], Step.alloc hR _ i rfl, hR.alloc _ _ i rfl ⟨#[], rfl, rfl, rfl, rfl, fun j x y hx => by simp at hx⟩, ?_⟩
    exact .map _ _ i (by simp [Ren.put]) rfl
  · cases hs

/-! ### Looked up -/
def entriesA (x : Value) (h : AH) : Option (Array MapEntry) :=
  match x with
  | .map none => some #[]
  | .map (some r) => match h.get r with
    | some (.map es _ _) => some es
    | _ => none
  | _ => none

/-- Keys that are structs are asked about one by one. -/
def findAskA (P : Program) (kt : TypeId) (k : Value) : List MapEntry → Nat → Option (Option (Nat × Value))
  | [], _ => some none
  | e :: es, i =>
    if plain e.key then
      match semP P (Op.equal kt k e.key) with
      | some true => some (some (i, e.val))
      | some false => findAskA P kt k es (i + 1)
      | none => none
    else none

theorem findAskA_run {kt : TypeId} {k : Value} (w : World) : ∀ (l l' : List MapEntry) (i : Nat) (r : Option (Nat × Value)), EL ρ l l' → findAskA P kt k l i = some r →
    ∃ r', (Instr.findAsking kt k l' i).run P w = .ok r' w ∧ FRel ρ r r'
  | [], [], i, r, _, hs => by simp only [findAskA, Option.some.injEq] at hs; subst hs; exact ⟨none, rfl, trivial⟩
  | [], y :: l', i, r, he, hs => by have := he.1; simp at this
  | x :: l, [], i, r, he, hs => by have := he.1; simp at this
  | x :: l, y :: l', i, r, he, hs => by
    obtain ⟨h1, h2⟩ := he.cons
    simp only [findAskA] at hs
    split at hs
    case isFalse => cases hs
    rename_i hp
    have hk : y.key = x.key := h1.1.plain hp
    split at hs
    · rename_i hb
      cases hs
      refine ⟨some (i, y.val), ?_, rfl, h1.2.1⟩
      simp only [Instr.findAsking, Sem.run_bind, hk, semP_run hb w, Result.andThen_ok, if_true]
      rfl
    · rename_i hb
      obtain ⟨r', e1, e2⟩ := findAskA_run w l l' (i + 1) r h2 hs
      refine ⟨r', ?_, e2⟩
      simp only [Instr.findAsking, Sem.run_bind, hk, semP_run hb w, Result.andThen_ok, Bool.false_eq_true, if_false]
      exact e1
    · cases hs

def isStruct : TypeDesc → Bool
  | .struct _ => true
  | _ => false

theorem findKey_asks {kt : TypeId} {d : TypeDesc} {k : Value} {l : List MapEntry} {r : Option (Nat × Value)} {w : World} (hd : P.underlying kt = some d) (hst : isStruct d = true)
    (hf : (Instr.findAsking kt k l).run P w = .ok r w) : (Instr.findKey kt k l).run P w = .ok r w := by
  cases d <;> first | (simp [isStruct] at hst; done) | skip
  cases l with
  | nil =>
    simp only [Instr.findKey, Sem.run_bind, run_underlying hd, Result.andThen_ok, Instr.findNow]
    exact hf
  | cons e es =>
    simp only [Instr.findKey, Sem.run_bind, run_underlying hd, Result.andThen_ok, Instr.findNow, Instr.sameNow]
    exact hf

def findA (P : Program) (kt : TypeId) (emp : Bool) (k : Value) (es : Array MapEntry) : Option (Option (Nat × Value)) :=
  if plain k then
    match semP P (Instr.checkKey emp 10000 kt k), P.underlying kt with
    | some (), some d => if isStruct d then findAskA P kt k es.toList 0 else Instr.findNow d k es.toList 0
    | _, _ => none
  else none

theorem findA_run {kt : TypeId} {emp : Bool} {k k' : Value} {es es' : Array MapEntry} {r : Option (Nat × Value)} (hk : V ρ k k') (hs : es.size = es'.size)
    (hr : ∀ (j : Nat) x y, es[j]? = some x → es'[j]? = some y → ERel ρ x y) (hf : findA P kt emp k es = some r) (w : World) :
    k' = k ∧ (Instr.checkKey emp 10000 kt k).run P w = .ok () w ∧ ∃ r', (Instr.findKey kt k es'.toList).run P w = .ok r' w ∧ FRel ρ r r' := by
  unfold findA at hf
  split at hf
  · rename_i hp
    have e := hk.plain hp
    split at hf
    · rename_i d hc hd
      split at hf
      · rename_i hst
        obtain ⟨r', h1, h2⟩ := findAskA_run w _ _ 0 r (EL.of hs hr) hf
        exact ⟨e, semP_run hc w, r', findKey_asks hd hst h1, h2⟩
      · obtain ⟨r', h1, h2⟩ := findNow_rel _ _ 0 r (EL.of hs hr) hf
        exact ⟨e, semP_run hc w, r', findKey_run hd h1 w, h2⟩
    · cases hf
  · cases hf

def lookupA (P : Program) (t : TypeId) (x k : Value) (ok : Bool) (h : AH) : Option Value :=
  match P.underlying t with
  | some (.map kt e) =>
    match entriesA x h with
    | some es => match findA P kt es.isEmpty k es with
      | some (some (_, v)) => some (if ok then .tuple #[v, .bool true] else v)
      | some none => match zeroA P e with
        | some (_, z) => if plain z then some (if ok then .tuple #[z, .bool false] else z) else none
        | none => none
      | none => none
    | none => none
  | _ => none

theorem V.pair {x y x' y' : Value} (h1 : V ρ x x') (h2 : V ρ y y') : V ρ (.tuple #[x, y]) (.tuple #[x', y']) := by
  refine .tuple _ _ (by simp) rfl fun j hj => ?_
  simp only [List.size_toArray, List.length_cons, List.length_nil] at hj
  match j, hj with
  | 0, _ => exact h1
  | 1, _ => exact h2

theorem entriesA_rel {x x' : Value} {es : Array MapEntry} (hR : Rel ρ h w.heap) (hx : V ρ x x') (hs : entriesA x h = some es) :
    (x' = .map none ∧ es = #[]) ∨ ∃ r' es' clock, x' = .map (some r') ∧ w.heap[r']? = some (.map es' clock) ∧ es.size = es'.size ∧ ∀ (j : Nat) a b, es[j]? = some a → es'[j]? = some b → ERel ρ a b := by
  unfold entriesA at hs
  split at hs
  · cases hs; cases hx; exact .inl ⟨rfl, rfl⟩
  · rename_i r
    split at hs
    · rename_i es₁ clock ro hg
      cases hs
      cases hx with
      | map _ r' i hi hb =>
        obtain ⟨i', b, hi', hb', es', rfl, e2, e3, e4, e5⟩ := hR.obj _ _ hg
        obtain rfl : i' = i := by rw [hi'] at hi; exact Option.some.inj hi
        exact .inr ⟨r', es', clock, rfl, hb ▸ hb', e4, e5⟩
    · cases hs
  · cases hs

theorem lookupA_sim {t : TypeId} {x x' k k' : Value} {ok : Bool} {v : Value} (hR : Rel ρ h w.heap) (hx : V ρ x x') (hk : V ρ k k') (hs : lookupA P t x k ok h = some v) :
    ∃ v', (Instr.lookup t x' k' ok).run P w = .ok v' w ∧ V ρ v v' := by
  unfold lookupA at hs
  split at hs
  case h_2 => cases hs
  rename_i kt e ht
  split at hs
  case h_2 => cases hs
  rename_i es he
  have core : ∀ (es' : Array MapEntry), es.size = es'.size → (∀ (j : Nat) a b, es[j]? = some a → es'[j]? = some b → ERel ρ a b) →
      (Instr.checkKey es'.isEmpty 10000 kt k').run P w = .ok () w ∧
      ((∃ i u, (Instr.findKey kt k' es'.toList).run P w = .ok (some (i, u)) w ∧ V ρ v (if ok then .tuple #[u, .bool true] else u)) ∨
       (∃ z, (Instr.findKey kt k' es'.toList).run P w = .ok none w ∧ (zeroValue e).run P w = .ok z w ∧ V ρ v (if ok then .tuple #[z, .bool false] else z))) := by
    intro es' hsz hr
    have hem : es'.isEmpty = es.isEmpty := by simp [Array.isEmpty, hsz]
    split at hs
    · rename_i i u hf
      cases hs
      obtain ⟨rfl, hc, r', hr', hF⟩ := findA_run hk hsz hr hf w
      cases r' with
      | none => exact hF.elim
      | some p =>
        obtain ⟨j, u'⟩ := p
        refine ⟨by rw [hem]; exact hc, .inl ⟨j, u', hr', ?_⟩⟩
        cases ok
        · exact hF.2
        · exact V.pair hF.2 (.bool true)
    · rename_i hf
      obtain ⟨rfl, hc, r', hr', hF⟩ := findA_run hk hsz hr hf w
      cases r' with
      | some p => exact hF.elim
      | none =>
        split at hs
        · rename_i i z hz
          split at hs
          · rename_i hp
            cases hs
            refine ⟨by rw [hem]; exact hc, .inr ⟨z, hr', (zeroA_run hz w).1, ?_⟩⟩
            cases ok
            · exact V.reflP hp
            · exact V.pair (V.reflP hp) (.bool false)
          · cases hs
        · cases hs
    · cases hs
  rcases entriesA_rel hR hx he with ⟨rfl, rfl⟩ | ⟨r', es', clock, rfl, hb, hsz, hr⟩
  · obtain ⟨hc, h2⟩ := core #[] rfl (fun j a b ha => by simp at ha)
    have hc' : (Instr.checkKey true 10000 kt k').run P w = .ok () w := by simpa using hc
    rcases h2 with ⟨i, u, h1, hv⟩ | ⟨z, h1, hz, hv⟩
    · have h1' : (Instr.findKey kt k' []).run P w = .ok (some (i, u)) w := by simpa using h1
      exact ⟨_, by simp [Instr.lookup, run_underlying ht, hc', h1'], hv⟩
    · have h1' : (Instr.findKey kt k' []).run P w = .ok none w := by simpa using h1
      exact ⟨_, by simp [Instr.lookup, run_underlying ht, hc', h1', hz], hv⟩
  · obtain ⟨hc, h2⟩ := core es' hsz hr
    rcases h2 with ⟨i, u, h1, hv⟩ | ⟨z, h1, hz, hv⟩
    · exact ⟨_, by simp [Instr.lookup, run_underlying ht, MapKept.run_getObj_map hb, hc, h1], hv⟩
    · exact ⟨_, by simp [Instr.lookup, run_underlying ht, MapKept.run_getObj_map hb, hc, h1, hz], hv⟩

/-! ### Updated, thinned -/
def keyAt (es : Array MapEntry) (i : Nat) (k : Value) : Bool :=
  match es[i]? with
  | some e => plain e.key && Instr.sameBits 10000 e.key k
  | none => false

def mapUpdateA (P : Program) (t : TypeId) (m k v : Value) (h : AH) : Option AH :=
  match P.underlying t, m with
  | some (.map kt _), .map (some r) =>
    match h.get r with
    | some (.map es clock false) =>
      match findA P kt false k es with
      | some (some (i, _)) => if keyAt es i k then some (h.set r (.map (es.modify i fun e => { e with key := k, val := v }) clock false)) else none
      | some none => some (h.set r (.map (es.push { key := k, val := v, born := clock }) (clock + 1) false))
      | none => none
    | _ => none
  | _, _ => none

theorem map_inv {m' : Value} {r : Nat} {es : Array MapEntry} {clock : Nat} {ro : Bool} (hR : Rel ρ h w.heap) (hm : V ρ (.map (some r)) m') (hg : h.get r = some (.map es clock ro)) :
    ∃ i es', ρ r = some i ∧ m' = .map (some i.b) ∧ w.heap[i.b]? = some (.map es' clock) ∧ i.s = 0 ∧ i.ro = ro ∧ es.size = es'.size ∧ ∀ (j : Nat) a b, es[j]? = some a → es'[j]? = some b → ERel ρ a b := by
  cases hm with
  | map _ r' i hi hb =>
    obtain ⟨i', b, hi', hb', es', rfl, e2, e3, e4, e5⟩ := hR.obj _ _ hg
    obtain rfl : i' = i := by rw [hi'] at hi; exact Option.some.inj hi
    exact ⟨i', es', hi, by rw [hb], hb', e2, e3, e4, e5⟩

theorem mapUpdateA_sim {t : TypeId} {m m' k k' v v' : Value} {h' : AH} (hR : Rel ρ h w.heap) (hm : V ρ m m') (hk : V ρ k k') (hv : V ρ v v') (hs : mapUpdateA P t m k v h = some h') :
    ∃ w', (Instr.mapUpdate t m' k' v').run P w = .ok () w' ∧ Step ρ w ρ w' ∧ Rel ρ h' w'.heap := by
  unfold mapUpdateA at hs
  split at hs
  case h_2 => cases hs
  rename_i kt e r ht
  split at hs
  case h_2 => cases hs
  rename_i es clock hg
  obtain ⟨i, es', hi, rfl, hb, his, hro, hsz, hr⟩ := map_inv hR hm hg
  split at hs
  · rename_i j u hf
    split at hs
    · rename_i hka
      cases hs
      obtain ⟨rfl, hc, r', hr', hF⟩ := findA_run hk hsz hr hf w
      cases r' with
      | none => exact hF.elim
      | some p =>
        obtain ⟨j', u'⟩ := p
        obtain ⟨rfl, hu⟩ := hF
        unfold keyAt at hka
        split at hka
        · rename_i a ha
          simp only [Bool.and_eq_true] at hka
          obtain ⟨b, hbb⟩ : ∃ b, es'[j]? = some b := ⟨es'[j]'(by have := (Array.getElem?_eq_some_iff.1 ha).1; omega), Array.getElem?_eq_some_iff.2 ⟨_, rfl⟩⟩
          have hkey : b.key = a.key := (hr j a b ha hbb).1.plain hka.1
          have hkk : (Instr.keyThatStays b.key k').run P w = .ok k' w := by
            unfold Instr.keyThatStays
            rw [hkey, hka.2]; rfl
          refine ⟨{ w with heap := w.heap.setIfInBounds i.b (.map (es'.modify j fun e => { e with key := k', val := v' }) clock) }, ?_, Step.set hi hro _, hR.setCells hg hi ⟨_, rfl, his, hro, by simp [hsz], fun n x y hx hy => ?_⟩⟩
          · simp [Instr.mapUpdate, run_underlying ht, MapKept.run_getObj_map hb, hc, hr', hbb, hkk, MapKept.run_setObj_map _ hb]
          · rw [Array.getElem?_modify] at hx hy
            by_cases hn : j = n
            · subst hn
              rw [if_pos rfl, ha] at hx; rw [if_pos rfl, hbb] at hy
              cases hx; cases hy
              exact ⟨hk, hv, (hr j a b ha hbb).2.2⟩
            · rw [if_neg hn] at hx hy
              exact hr n x y hx hy
        · cases hka
    · cases hs
  · rename_i hf
    cases hs
    obtain ⟨rfl, hc, r', hr', hF⟩ := findA_run hk hsz hr hf w
    cases r' with
    | some p => exact hF.elim
    | none =>
      refine ⟨{ w with heap := w.heap.setIfInBounds i.b (.map (es'.push { key := k', val := v', born := clock }) (clock + 1)) }, ?_, Step.set hi hro _, hR.setCells hg hi ⟨_, rfl, his, hro, by simp [hsz], fun n x y hx hy => ?_⟩⟩
      · simp [Instr.mapUpdate, run_underlying ht, MapKept.run_getObj_map hb, hc, hr', MapKept.run_setObj_map _ hb]
      · rw [Array.getElem?_push] at hx hy
        by_cases hn : n = es.size
        · rw [if_pos hn] at hx; rw [if_pos (hn.trans hsz)] at hy
          cases hx; cases hy
          exact ⟨hk, hv, rfl⟩
        · rw [if_neg hn] at hx; rw [if_neg (hsz ▸ hn)] at hy
          exact hr n x y hx hy
  · cases hs

def deleteA (P : Program) (argTypes : Array TypeId) (args : Array Value) (h : AH) : Option AH :=
  match (argTypes[0]? : Option TypeId), (args[0]? : Option Value), (args[1]? : Option Value) with
  | some t, some m, some k =>
    match P.underlying t, m with
    | some (.map kt _), .map (some r) =>
      match h.get r with
      | some (.map es clock false) =>
        match findA P kt es.isEmpty k es with
        | some (some (i, _)) => some (h.set r (.map (es.eraseIdxIfInBounds i) clock false))
        | some none => some h
        | none => none
      | _ => none
    | _, _ => none
  | _, _, _ => none

theorem getElem?_erase {α : Type} (es : Array α) (i n : Nat) : (es.eraseIdxIfInBounds i)[n]? = if i < es.size then (if n < i then es[n]? else es[n + 1]?) else es[n]? := by
  unfold Array.eraseIdxIfInBounds
  split
  · rename_i hi
    rw [Array.getElem?_eraseIdx]
  · rfl

theorem size_erase {α : Type} (es : Array α) (i : Nat) : (es.eraseIdxIfInBounds i).size = if i < es.size then es.size - 1 else es.size := by
  unfold Array.eraseIdxIfInBounds
  split <;> simp

theorem deleteA_sim {argTypes : Array TypeId} {ty : TypeId} {args args' : Array Value} {h' : AH} (hR : Rel ρ h w.heap) (ha : VS ρ args args') (hs : deleteA P argTypes args h = some h') :
    ∃ w', (Builtin.delete_ argTypes ty args').run P w = .ok (.tuple #[]) w' ∧ Step ρ w ρ w' ∧ Rel ρ h' w'.heap := by
  unfold deleteA at hs
  split at hs
  case h_2 => cases hs
  rename_i t m k h0 h1 h2
  obtain ⟨m', hm', hm⟩ := getD_some ha h1
  obtain ⟨k', hk', hk⟩ := getD_some ha h2
  split at hs
  case h_2 => cases hs
  rename_i kt e r ht
  split at hs
  case h_2 => cases hs
  rename_i es clock hg
  obtain ⟨i, es', hi, rfl, hb, his, hro, hsz, hr⟩ := map_inv hR hm hg
  have hem : es'.isEmpty = es.isEmpty := by simp [Array.isEmpty, hsz]
  split at hs
  · rename_i j u hf
    cases hs
    obtain ⟨rfl, hc, r', hr', hF⟩ := findA_run hk hsz hr hf w
    cases r' with
    | none => exact hF.elim
    | some p =>
      obtain ⟨j', u'⟩ := p
      obtain ⟨rfl, hu⟩ := hF
      refine ⟨{ w with heap := w.heap.setIfInBounds i.b (.map (es'.eraseIdxIfInBounds j) clock) }, ?_, Step.set hi hro _, hR.setCells hg hi ⟨_, rfl, his, hro, by rw [size_erase, size_erase, hsz], fun n x y hx hy => ?_⟩⟩
      · simp [Builtin.delete_, h0, hm', hk', run_underlying ht, MapKept.run_getObj_map hb, hem, hc, hr', MapKept.run_setObj_map _ hb]
      · rw [getElem?_erase] at hx hy
        rw [← hsz] at hy
        split at hx
        · rename_i h1
          rw [if_pos h1] at hy
          split at hx
          · rename_i h2; rw [if_pos h2] at hy; exact hr n x y hx hy
          · rename_i h2; rw [if_neg h2] at hy; exact hr _ x y hx hy
        · rename_i h1
          rw [if_neg h1] at hy; exact hr n x y hx hy
  · rename_i hf
    cases hs
    obtain ⟨rfl, hc, r', hr', hF⟩ := findA_run hk hsz hr hf w
    cases r' with
    | some p => exact hF.elim
    | none =>
      refine ⟨w, ?_, Step.refl ρ w, hR⟩
      have hset := set_same w.heap i.b (.map es' clock) hb
      simp [Builtin.delete_, h0, hm', hk', run_underlying ht, MapKept.run_getObj_map hb, hem, hc, hr', MapKept.run_setObj_map _ hb, hset]
  · cases hs

/-! ### A value out of an interface -/
def typeAssertA (P : Program) (x : Value) (t : TypeId) (ok : Bool) : Option Value :=
  match P.underlying t with
  | none => none
  | some (.interface _) => none
  | some _ => match x with
    | .iface u v => if u = t then some (if ok then .tuple #[v, .bool true] else v) else none
    | _ => none

theorem typeAssertA_sim {x x' : Value} {s t : TypeId} {ok : Bool} {v : Value} (hx : V ρ x x') (hs : typeAssertA P x t ok = some v) (w : World) :
    ∃ v', (Instr.typeAssert x' s t ok).run P w = .ok v' w ∧ V ρ v v' := by
  unfold typeAssertA at hs
  split at hs
  · cases hs
  · cases hs
  · rename_i d hne ht
    split at hs
    · rename_i u y
      split at hs
      · rename_i e
        cases hs
        subst e
        cases hx with
        | iface _ _ y' hy =>
          refine ⟨if ok then .tuple #[y', .bool true] else y', ?_, ?_⟩
          · unfold Instr.typeAssert
            simp only [Sem.run_bind, run_underlying ht, Result.andThen_ok]
            cases d <;> first | (exact absurd rfl (hne _)) | (simp; try rfl)
          · cases ok
            · exact hy
            · exact V.pair hy (.bool true)
      · cases hs
    · cases hs

end
end Go.AE
