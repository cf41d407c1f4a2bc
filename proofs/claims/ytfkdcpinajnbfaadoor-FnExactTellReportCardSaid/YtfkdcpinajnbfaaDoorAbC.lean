/- an abstract interpreter for the model's code is sound: callees in place, conditions, loops, slices, arguments.
   Conditions: none. -/
import Derived.Test.YtfkdcpinajnbfaaDoorAbB
import Derived.KernelRfl
import Derived.Lib.BytesEntry
import Derived.Laws.Externs
import Derived.Sort.Walk0
import Derived.ChangeSlices
import Derived.ChangeOld
import Derived.LaidLaws
import Derived.MakeChecks
import Derived.LaidMore
import Derived.Stop.Joined
set_option linter.unusedVariables false
set_option linter.unusedSimpArgs false
namespace Go.Ab

section
variable {R : Type}

def pinT (sym : List Nat) (d : Option Tmp) (s : ASt) (k : ASt → Option R) : Option R :=
  match d with
  | none => k s
  | some d => if memN d sym then match s.tmps[d]? with
      | some (.bool b) => match b with
        | true => k ⟨s.tmps.set d (.bool true), s.heap⟩
        | false => k ⟨s.tmps.set d (.bool false), s.heap⟩
      | _ => k s
    else k s

theorem pinT_eq {sym : List Nat} {d : Option Tmp} {s : ASt} {k : ASt → Option R} : pinT sym d s k = k s := by
  unfold pinT
  split
  · rfl
  · split
    · split
      · rename_i b hb
        cases b <;> simp only [list_set_self hb]
      · rfl
    · rfl

variable (P : Program) (M : Mem) (K : Fns) (sym : List Nat)

def rrunsT (cl : List Nat → List Nat) (ops : Array Oper) : List Nat → ASt → (ASt → Option R) → Option R
  | [], s, k => k s
  | i :: l, s, k => match ops[i]? with
    | none => rrunsT cl ops l s k
    | some o => match ostep P M K cl ops s.heap.length o s with
      | some s' => pinT sym o.dst s' fun s1 => rrunsT cl ops l s1 k
      | none => none

def rtraceT (cl : List Nat → List Nat) (ops : Array Oper) : List Nat → ASt → (ASt → List FP → Option R) → Option R
  | [], s, k => k s []
  | i :: l, s, k => match ops[i]? with
    | none => none
    | some o => match ostep P M K cl ops s.heap.length o s with
      | some s' => pinT sym o.dst s' fun s1 => rtraceT cl ops l s1 fun s2 fps => k s2 (ofp P M K cl ops s.heap.length o s :: fps)
      | none => none

def rgnT (ops : Array Oper) (draw : Bool) (s : ASt) (k : ASt → Option R) : Option R :=
  if draw then rtraceT P M K sym (clos s.heap s.heap.length) ops (List.range ops.size) s fun s' fps => if okEdges ops && okPairs ops (befs ops.toList []) fps then k s' else none
  else rrunsT P M K sym (clos s.heap s.heap.length) ops (List.range ops.size) s k

/-- Code, evaluated, and then k; the answers of the operations with these numbers are taken apart. -/
def evT : Nat → Code → ASt → (AExit → ASt → Option R) → Option R
  | 0, _, _, _ => none
  | n + 1, c, s, k => match c with
    | .skip => k .normal s
    | .label _ => k .normal s
    | .exit id => k (.exit id) s
    | .ret => k .ret s
    | .region _ ops draw => rgnT P M K sym ops draw s (k .normal)
    | .seq x y => evT n x s fun e s1 => match e with
      | .normal => evT n y s1 k
      | .exit i => k (.exit i) s1
      | .ret => k .ret s1
    | .cond c x y => match aev s.tmps c with
      | some (.bool b) => match b with
        | true => evT n x s k
        | false => evT n y s k
      | _ => none
    | .block id c => evT n c s fun e s1 => match e with
      | .exit i => if i = id then k .normal s1 else k (.exit i) s1
      | .normal => k .normal s1
      | .ret => k .ret s1
    | .loop c => evT n c s fun e s1 => match e with
      | .normal => evT n (.loop c) s1 k
      | .exit i => k (.exit i) s1
      | .ret => k .ret s1
    | _ => none
end

section
variable {R : Type} {P : Program} {M : Mem} {K : Fns} {sym : List Nat}

def thenK {α : Type} (x : Option α) (k : α → Option R) : Option R :=
  match x with
  | some a => k a
  | none => none

theorem rrunsT_eq {cl : List Nat → List Nat} {ops : Array Oper} : ∀ (l : List Nat) (s : ASt) (k : ASt → Option R), rrunsT P M K sym cl ops l s k = thenK (rruns P M K cl ops l s) k := by
  intro l
  induction l with
  | nil => intro s k; rfl
  | cons i l ih =>
    intro s k
    unfold rrunsT rruns
    cases ops[i]? with
    | none => exact ih s k
    | some o =>
      simp only
      cases ostep P M K cl ops s.heap.length o s with
      | none => rfl
      | some s' => simp only [pinT_eq, ih]

theorem rtraceT_eq {cl : List Nat → List Nat} {ops : Array Oper} : ∀ (l : List Nat) (s : ASt) (k : ASt → List FP → Option R), rtraceT P M K sym cl ops l s k = thenK (rtrace P M K cl ops l s) fun x => k x.1 x.2 := by
  intro l
  induction l with
  | nil => intro s k; rfl
  | cons i l ih =>
    intro s k
    unfold rtraceT rtrace
    cases ops[i]? with
    | none => rfl
    | some o =>
      simp only
      cases ostep P M K cl ops s.heap.length o s with
      | none => rfl
      | some s' =>
        simp only [pinT_eq, ih]
        cases rtrace P M K cl ops l s' with
        | none => rfl
        | some x => rfl

theorem rgnT_eq {ops : Array Oper} {draw : Bool} {s : ASt} {k : ASt → Option R} : rgnT P M K sym ops draw s k = thenK (rgn P M K ops draw s) k := by
  unfold rgnT rgn
  cases draw with
  | false => simp only [Bool.false_eq_true, if_false]; exact rrunsT_eq _ _ _
  | true =>
    simp only [if_true]
    rw [rtraceT_eq]
    unfold rdraw
    cases rtrace P M K (clos s.heap s.heap.length) ops (List.range ops.size) s with
    | none => rfl
    | some x =>
      obtain ⟨s', fps⟩ := x
      simp only [thenK]
      cases okEdges ops && okPairs ops (befs ops.toList []) fps <;> rfl

theorem evT_eq : ∀ (n : Nat) (c : Code) (s : ASt) (k : AExit → ASt → Option R), evT P M K sym n c s k = thenK (ev P M K n c s) fun x => k x.1 x.2 := by
  intro n
  induction n with
  | zero => intro c s k; rfl
  | succ n ih =>
    intro c s k
    cases c <;> unfold evT ev
    case skip => rfl
    case label => rfl
    case exit => rfl
    case ret => rfl
    case region id ops draw =>
      simp only [rgnT_eq]
      cases rgn P M K ops draw s <;> rfl
    case seq x y =>
      simp only [ih]
      cases ev P M K n x s with
      | none => rfl
      | some r => obtain ⟨e, s1⟩ := r; cases e <;> rfl
    case cond c x y =>
      simp only
      cases aev s.tmps c with
      | none => rfl
      | some v => cases v with
        | bool b => cases b <;> simp only [ih]
        | _ => rfl
    case block id c =>
      simp only [ih]
      cases ev P M K n c s with
      | none => rfl
      | some r => obtain ⟨e, s1⟩ := r; cases e with
        | exit i => simp only [thenK]; split <;> rfl
        | normal => rfl
        | ret => rfl
    case loop c =>
      simp only [ih]
      cases ev P M K n c s with
      | none => rfl
      | some r => obtain ⟨e, s1⟩ := r; cases e <;> rfl
    all_goals rfl
end

/-- The new objects that the results, or what was handed in, can reach. -/
def keepOf (h : AHeap) (k : Nat) (us : List Value) : List Nat := (clos h h.length (idsL (List.range k) us)).filter fun i => Nat.ble k i

def finA (P : Program) (M : Mem) (rv : List ResultVar) (k : Nat) (s : ASt) : Option (Value × List AObj × List AObj) :=
  match ares P M s rv with
  | some us => fin P M rv k (keepOf s.heap k us) s
  | none => none

/-- A function's body, evaluated, the answers of the operations with these numbers taken apart. -/
def evFT (P : Program) (M : Mem) (K : Fns) (sym : List Nat) (fuel : Nat) (fn : Func) (args : List Value) (os : List AObj) : Option (Value × List AObj × List AObj) :=
  match fn.body with
  | some c => evT P M K sym fuel c ⟨args ++ List.replicate (fn.ntmps - args.length) undef, os.map some⟩ fun e s' => match e with
    | .exit _ => none
    | .normal => finA P M fn.results.toList os.length s'
    | .ret => finA P M fn.results.toList os.length s'
  | none => none

theorem acalls_of_finA {P : Program} {M : Mem} {f : FuncId} {fn : Func} {c : Code} (hf : P.funcs[f]? = some fn) (hb : fn.body = some c) {args : List Value} {os : List AObj} {e : AExit} {s' : ASt}
    (big : Big P M c ⟨args ++ List.replicate (fn.ntmps - args.length) undef, os.map some⟩ e s') (he : ∀ i, e ≠ .exit i) {v : Value} {os' ns : List AObj}
    (hfin : finA P M fn.results.toList os.length s' = some (v, os', ns)) : ACalls P M f args os v os' ns := by
  unfold finA at hfin
  split at hfin
  · exact acalls_of_big hf hb big he hfin
  · cases hfin

theorem acalls_of_evFT {P : Program} {M : Mem} {K : Fns} (hK : K.Sound P M) (hmix : P.follows .mixedOrders = true) {f : FuncId} {fn : Func} (hf : P.funcs[f]? = some fn) {sym : List Nat} {fuel : Nat} {args : List Value} {os : List AObj} {v : Value} {os' ns : List AObj}
    (h : evFT P M K sym fuel fn args os = some (v, os', ns)) : ACalls P M f args os v os' ns := by
  unfold evFT at h
  split at h
  · rename_i c hc
    rw [evT_eq] at h
    cases hev : ev P M K fuel c ⟨args ++ List.replicate (fn.ntmps - args.length) undef, os.map some⟩ with
    | none => rw [hev] at h; cases h
    | some r =>
      obtain ⟨e, s'⟩ := r
      rw [hev] at h
      have hb := (ev_sound hK hmix fuel c hev).1
      cases e with
      | exit i => cases h
      | normal => exact acalls_of_finA hf hc hb (fun i hi => by cases hi) h
      | ret => exact acalls_of_finA hf hc hb (fun i hi => by cases hi) h
  · cases h

/-- A callee evaluated in place. -/
def inl (P : Program) (M : Mem) (K : Fns) (fuel : Nat) (f : FuncId) (fn : Func) : Sum :=
  { f := f, ro := false, S := fun args os => evFT P M K [] fuel fn args os }

theorem inl_sound {P : Program} {M : Mem} {K : Fns} (hK : K.Sound P M) (hmix : P.follows .mixedOrders = true) {fuel : Nat} {f : FuncId} {fn : Func} (hf : P.funcs[f]? = some fn) (hn : (fn.name == "runtime.NumGoroutine") = false) (hb : fn.body.isSome = true) :
    (inl P M K fuel f fn).Sound P M := fun args os v os' ns h =>
  ⟨.inl ⟨enters_of hf hn hb, acalls_of_evFT hK hmix hf h⟩, fun hr => by cases hr⟩

/-- A known function out of its contract. -/
theorem sum_sound {P : Program} {M : Mem} {s : Sum} {fn : Func} (hf : P.funcs[s.f]? = some fn) (hn : (fn.name == "runtime.NumGoroutine") = false) (hb : fn.body.isSome = true)
    (h : ∀ args os v os' ns, s.S args os = some (v, os', ns) → ACalls P M s.f args os v os' ns ∧ (s.ro = true → os' = os)) : s.Sound P M := fun args os v os' ns hs =>
  ⟨.inl ⟨enters_of hf hn hb, (h args os v os' ns hs).1⟩, (h args os v os' ns hs).2⟩

theorem fns_nil {P : Program} {M : Mem} : (fns []).Sound P M := fns_sound (by simp)
theorem fns_cons {P : Program} {M : Mem} {s : Sum} {l : List Sum} (h : s.Sound P M) (hl : ∀ s ∈ l, s.Sound P M) : ∀ x ∈ s :: l, x.Sound P M := fun x hx => by
  rcases List.mem_cons.1 hx with rfl | hx
  · exact h
  · exact hl x hx

end Go.Ab

namespace Go.Ab

/-- Kinds of cells. -/
inductive CK where
  | int (k : IntKind)
  | bool

def ckOf (P : Program) (u : TypeId) : Option CK :=
  match P.underlying u with
  | some (.int k) => some (.int k)
  | some .bool => some .bool
  | _ => none

def cksOf (P : Program) : List TypeId → Option (List CK)
  | [] => some []
  | u :: r => match ckOf P u, cksOf P r with
    | some k, some l => some (k :: l)
    | _, _ => none

def flatK (P : Program) (t : TypeId) : Option (List CK) :=
  match P.underlying t with
  | some (.struct _) => match P.cellTypes P.depth t with
    | some ts => if Nat.beq ts.length (P.cellsOf t) then cksOf P ts else none
    | none => none
  | some (.array _ _) => match P.cellTypes P.depth t with
    | some ts => if Nat.beq ts.length (P.cellsOf t) then cksOf P ts else none
    | none => none
  | _ => none

def CV : CK → Value → Prop
  | .int k, v => ∃ n, v = .int k n ∧ k.has n
  | .bool, v => ∃ b, v = .bool b

def CVs : List CK → List Value → Prop
  | [], [] => True
  | k :: ks, v :: vs => CV k v ∧ CVs ks vs
  | _, _ => False

theorem CV.ground {k : CK} {v : Value} (h : CV k v) : ground v = true := by
  cases k with
  | int k => obtain ⟨n, rfl, _⟩ := h; rfl
  | bool => obtain ⟨b, rfl⟩ := h; rfl

theorem CVs.ground : ∀ {ks : List CK} {vs : List Value}, CVs ks vs → groundL vs = true := by
  intro ks
  induction ks with
  | nil => intro vs h; cases vs with
    | nil => rfl
    | cons v vs => exact absurd h (by simp [CVs])
  | cons k ks ih => intro vs h; cases vs with
    | nil => exact absurd h (by simp [CVs])
    | cons v vs => simp only [groundL, Bool.and_eq_true]; exact ⟨h.1.ground, ih h.2⟩

theorem cell_ok {P : Program} {W : World} {base : Nat} {u : TypeId} {v : Value} {k : CK} (hk : ckOf P u = some k) (h : Cell.okWide P W .any base u v) : CV k v := by
  unfold ckOf at hk
  split at hk
  · rename_i kk hu
    cases hk
    simp only [Cell.okWide, hu, Cell.ok] at h
    cases v <;> simp only [hu] at h
    case int k' n => exact ⟨n, by rw [h.1], h.2⟩
    all_goals exact absurd h id
  · rename_i hu
    cases hk
    simp only [Cell.okWide, hu, Cell.ok] at h
    cases v <;> simp only [hu] at h
    case bool b => exact ⟨b, rfl⟩
    all_goals exact absurd h id
  · cases hk

theorem value_ok {P : Program} {W : World} {base : Nat} {t : TypeId} {v : Value} {k : CK} (hk : ckOf P t = some k) (h : Value.okWide P W .any base t v) : CV k v := by
  refine cell_ok (W := W) (base := base) hk ?_
  unfold ckOf at hk
  unfold Value.okWide at h
  split at hk <;> first | (rename_i hu; rw [hu] at h; exact h) | (rename_i kk hu; rw [hu] at h; exact h) | cases hk

theorem cksOf_get {P : Program} : ∀ {ts : List TypeId} {ks : List CK}, cksOf P ts = some ks → ∀ (vs : List Value), vs.length = ts.length → (∀ (i : Nat) v u k, vs[i]? = some v → ts[i]? = some u → ckOf P u = some k → CV k v) → CVs ks vs := by
  intro ts
  induction ts with
  | nil =>
    intro ks h vs hl hc
    cases h
    cases vs with
    | nil => trivial
    | cons v vs => simp at hl
  | cons u ts ih =>
    intro ks h vs hl hc
    simp only [cksOf] at h
    split at h
    · rename_i k l h1 h2
      cases h
      cases vs with
      | nil => simp at hl
      | cons v vs =>
        refine ⟨hc 0 v u k rfl rfl h1, ih h2 vs (by simpa using hl) fun i v' u' k' a b c => hc (i + 1) v' u' k' (by simpa using a) (by simpa using b) c⟩
    · cases h

theorem flat_ok {P : Program} {W : World} {base : Nat} {t : TypeId} {v : Value} {ks : List CK} (hk : flatK P t = some ks) (h : Value.okWide P W .any base t v) : ∃ cs : List Value, v = .agg ⟨cs⟩ ∧ CVs ks cs := by
  have key : ∀ ts, P.cellTypes P.depth t = some ts → ts.length = P.cellsOf t → cksOf P ts = some ks → (∃ cs, v = .agg cs ∧ cs.size = P.cellsOf t ∧ Row.okWide P W .any base t cs) → ∃ cs : List Value, v = .agg ⟨cs⟩ ∧ CVs ks cs := by
    rintro ts h1 h2 h3 ⟨cs, rfl, hs, ts', h4, _, h5⟩
    rw [h1] at h4
    cases h4
    refine ⟨cs.toList, rfl, cksOf_get h3 _ (by simp [hs, h2]) fun i v u k hv hu hc => ?_⟩
    have hi : i < ts.length := (List.getElem?_eq_some_iff.1 hu).1
    obtain ⟨u', hu', hcell⟩ := h5 i v (by simpa using hv)
    rw [Nat.mod_eq_of_lt hi, hu] at hu'
    cases hu'
    exact cell_ok hc hcell
  unfold flatK at hk
  unfold Value.okWide at h
  split at hk
  · rename_i hu
    rw [hu] at h
    split at hk
    · rename_i ts hts
      split at hk
      · rename_i hb
        exact key ts hts (Nat.eq_of_beq_eq_true hb) hk h
      · cases hk
    · cases hk
  · rename_i hu
    rw [hu] at h
    split at hk
    · rename_i ts hts
      split at hk
      · rename_i hb
        exact key ts hts (Nat.eq_of_beq_eq_true hb) hk h
      · cases hk
    · cases hk
  · cases hk

/-- Bytes out of cells. -/
theorem cvs_ints {k : IntKind} : ∀ {n : Nat} {vs : List Value}, CVs (List.replicate n (.int k)) vs → ∃ l : List Int, l.length = n ∧ vs = l.map (.int k) ∧ ∀ x ∈ l, k.has x := by
  intro n
  induction n with
  | zero => intro vs h; cases vs with
    | nil => exact ⟨[], rfl, rfl, by simp⟩
    | cons v vs => exact absurd h (by simp [CVs])
  | succ n ih => intro vs h; cases vs with
    | nil => exact absurd h (by simp [CVs, List.replicate_succ])
    | cons v vs =>
      rw [List.replicate_succ] at h
      obtain ⟨⟨x, rfl, hx⟩, h2⟩ := h
      obtain ⟨l, rfl, rfl, hl⟩ := ih h2
      exact ⟨x :: l, by simp, by simp, fun y hy => by
        rcases List.mem_cons.1 hy with rfl | hy
        · exact hx
        · exact hl y hy⟩

/-- The answer of a loop that compares cell by cell. -/
def eqR : List Value → List Value → Option (Value × List AObj × List AObj)
  | .int _ x :: xs, .int _ y :: ys => match !decide (x = y) with
    | true => some (.bool false, [], [])
    | false => eqR xs ys
  | [], [] => some (.bool true, [], [])
  | _, _ => none

def eqB : List Value → List Value → Bool
  | .int _ x :: xs, .int _ y :: ys => decide (x = y) && eqB xs ys
  | [], [] => true
  | _, _ => false

theorem eqR_eq {k : IntKind} : ∀ {xs ys : List Int}, xs.length = ys.length → eqR (xs.map (.int k)) (ys.map (.int k)) = some (.bool (eqB (xs.map (.int k)) (ys.map (.int k))), [], []) := by
  intro xs
  induction xs with
  | nil => intro ys h; cases ys with
    | nil => rfl
    | cons y ys => simp at h
  | cons x xs ih => intro ys h; cases ys with
    | nil => simp at h
    | cons y ys =>
      simp only [List.map_cons, eqR, eqB]
      by_cases e : x = y
      · simp only [e, decide_true, Bool.not_true, Bool.true_and]; exact ih (by simpa using h)
      · simp only [e, decide_false, Bool.not_false, Bool.false_and]

theorem eqB_self {k : IntKind} : ∀ (xs : List Int), eqB (xs.map (.int k)) (xs.map (.int k)) = true := by
  intro xs
  induction xs with
  | nil => rfl
  | cons x xs ih => simp only [List.map_cons, eqB, decide_true, Bool.true_and]; exact ih

/-- Cells of one kind by their numbers. -/
def cellsI (k : IntKind) (n : Nat) (x : Nat → Int) : List Value := (List.range n).map fun i => .int k (x i)

theorem cellsI_length (k : IntKind) (n : Nat) (x : Nat → Int) : (cellsI k n x).length = n := by simp [cellsI]

theorem map_cellsI (k : IntKind) (l : List Int) : l.map (.int k) = cellsI k l.length fun i => l.getD i 0 := by
  apply List.ext_getElem (by simp [cellsI])
  intro i h1 h2
  simp at h1
  simp [cellsI, List.getD_eq_getElem?_getD, h1]

theorem cvs_cells {k : IntKind} (h0 : k.has 0) {n : Nat} {vs : List Value} (h : CVs (List.replicate n (.int k)) vs) : ∃ x : Nat → Int, vs = cellsI k n x ∧ ∀ i, k.has (x i) := by
  obtain ⟨l, hl, rfl, hr⟩ := cvs_ints h
  refine ⟨fun i => l.getD i 0, by rw [map_cellsI, hl], fun i => ?_⟩
  show k.has (l.getD i 0)
  rw [List.getD_eq_getElem?_getD]
  by_cases hi : i < l.length
  · rw [List.getElem?_eq_getElem hi]; exact hr _ (List.getElem_mem hi)
  · rw [List.getElem?_eq_none (by omega)]; exact h0

theorem cvs_append {ks ks' : List CK} : ∀ {vs : List Value}, CVs (ks ++ ks') vs → ∃ us us', vs = us ++ us' ∧ CVs ks us ∧ CVs ks' us' := by
  induction ks with
  | nil => intro vs h; exact ⟨[], vs, rfl, trivial, h⟩
  | cons k ks ih => intro vs h; cases vs with
    | nil => exact absurd h (by simp [CVs])
    | cons v vs =>
      obtain ⟨us, us', rfl, h2, h3⟩ := ih h.2
      exact ⟨v :: us, us', rfl, ⟨h.1, h2⟩, h3⟩

theorem cvs_cons {k : CK} {ks : List CK} {vs : List Value} (h : CVs (k :: ks) vs) : ∃ v us, vs = v :: us ∧ CV k v ∧ CVs ks us := by
  cases vs with
  | nil => exact absurd h (by simp [CVs])
  | cons v vs => exact ⟨v, vs, rfl, h.1, h.2⟩

theorem cvs_nil {vs : List Value} (h : CVs [] vs) : vs = [] := by
  cases vs with
  | nil => rfl
  | cons v vs => exact absurd h (by simp [CVs])

theorem groundL_cellsI (k : IntKind) (n : Nat) (x : Nat → Int) : groundL (cellsI k n x) = true := (groundL_iff _).2 fun v hv => by
  obtain ⟨i, _, rfl⟩ := List.mem_map.1 hv; rfl

/-- Functions that compare two arrays of n bytes. -/
def eqS (n : Nat) (args : List Value) (os : List AObj) : Option (Value × List AObj × List AObj) :=
  match args, os with
  | [.agg ⟨xs⟩, .agg ⟨ys⟩], [] => match byteInts xs, byteInts ys with
    | some l, some l' => if Nat.beq l.length n && Nat.beq l'.length n then some (.bool (eqB xs ys), [], []) else none
    | _, _ => none
  | _, _ => none

def eqSum (f : FuncId) (n : Nat) : Sum := { f := f, ro := true, S := eqS n }

theorem eqSum_sound {P : Program} {M : Mem} (hmix : P.follows .mixedOrders = true) {f : FuncId} {fn : Func} (hf : P.funcs[f]? = some fn) (hn : (fn.name == "runtime.NumGoroutine") = false) (hb : fn.body.isSome = true) {n : Nat} {sym : List Nat} {fuel : Nat}
    (h : ∀ x y : Nat → Int, evFT P M (fns []) sym fuel fn [.agg ⟨cellsI .u8 n x⟩, .agg ⟨cellsI .u8 n y⟩] [] = eqR (cellsI .u8 n x) (cellsI .u8 n y)) : (eqSum f n).Sound P M := by
  refine sum_sound hf hn hb fun args os v os' ns hs => ?_
  simp only [eqSum, eqS] at hs ⊢
  split at hs
  · rename_i xs ys
    split at hs
    · rename_i l l' hl hl'
      split at hs
      · rename_i hc
        cases hs
        simp only [Bool.and_eq_true] at hc
        have h1 := Nat.eq_of_beq_eq_true hc.1
        have h2 := Nat.eq_of_beq_eq_true hc.2
        have e1 := byteInts_eq hl
        have e2 := byteInts_eq hl'
        subst e1 e2
        refine ⟨acalls_of_evFT fns_nil hmix hf (sym := sym) (fuel := fuel) ?_, fun _ => rfl⟩
        rw [← eqR_eq (by omega)]
        rw [map_cellsI, map_cellsI, h1, h2]
        exact h _ _
      · cases hs
    · cases hs
  · cases hs

theorem len0 {α : Type} {l : List α} (h : l.length = 0) : l = [] := List.length_eq_zero_iff.1 h
theorem len1 {α : Type} {l : List α} (h : l.length = 1) : ∃ a, l = [a] := by
  cases l with
  | nil => simp at h
  | cons a l => exact ⟨a, by rw [len0 (l := l) (by simpa using h)]⟩
theorem len2 {α : Type} {l : List α} (h : l.length = 2) : ∃ a b, l = [a, b] := by
  cases l with
  | nil => simp at h
  | cons a l => obtain ⟨b, rfl⟩ := len1 (l := l) (by simpa using h); exact ⟨a, b, rfl⟩
theorem len3 {α : Type} {l : List α} (h : l.length = 3) : ∃ a b c, l = [a, b, c] := by
  cases l with
  | nil => simp at h
  | cons a l => obtain ⟨b, c, rfl⟩ := len2 (l := l) (by simpa using h); exact ⟨a, b, c, rfl⟩
theorem len4 {α : Type} {l : List α} (h : l.length = 4) : ∃ a b c d, l = [a, b, c, d] := by
  cases l with
  | nil => simp at h
  | cons a l => obtain ⟨b, c, d, rfl⟩ := len3 (l := l) (by simpa using h); exact ⟨a, b, c, d, rfl⟩

theorem held_one {b c : Bool} (h : b = c) : Held [(b, c)] := fun x hx => by
  rcases List.mem_cons.1 hx with rfl | hx
  · exact h
  · cases hx
theorem held_cons {b c : Bool} {p : Pins} (h : b = c) (hp : Held p) : Held ((b, c) :: p) := fun x hx => by
  rcases List.mem_cons.1 hx with rfl | hx
  · exact h
  · exact hp x hx

theorem range_getD (l : List Int) : (List.range l.length).map (fun i => l.getD i 0) = l := by
  apply List.ext_getElem (by simp)
  intro i h1 h2
  simp [List.getD_eq_getElem?_getD, h2]

end Go.Ab

namespace Go.Ab

theorem srcCells_cell {M : Mem} {m : Pl} {h : AHeap} {w : World} (r : HRel M m h w) {a a' : Addr} {n c c' : Nat} (hr : VRel m h (.slice (some a) n c) (.slice (some a') n c')) {look : Nat → Option AObj} (hlook : ∀ j o, look j = some o → hget h j = some o)
    {us : List Value} {f : Bool} (hs : srcCells M 1 look n (.slice (some a) n c) = some (us, f)) : us.length = n ∧ ∀ (j : Nat) u, us[j]? = some u → ∃ v, w.cell? (a'.add j) = some v ∧ VRel m h u v := by
  obtain ⟨b, off, spot⟩ := a
  cases spot with
  | some sz =>
    simp only [srcCells] at hs
    split at hs
    · rename_i o ho
      split at hs
      · rename_i hc
        cases hs
        have ho' := hlook _ _ ho
        rw [Nat.mul_one] at hc ⊢
        refine ⟨by simp; omega, fun j u hu => ?_⟩
        rw [List.getElem?_take] at hu
        split at hu
        · rename_i hj
          rw [List.getElem?_drop] at hu
          obtain ⟨v, h1, h2, _⟩ := acell_sound r (hr.slc_at (by omega)) (j := j) (u := u) (by simp only [acell, ho', hc.1, if_true]; exact hu)
          exact ⟨v, h1, h2⟩
        · cases hu
      · cases hs
    · cases hs
  | none =>
    simp only [srcCells] at hs
    split at hs
    · rename_i l hl
      split at hs
      · cases hs
        obtain ⟨g1, g2⟩ := roload_get _ _ _ hl
        have hp : VRel m h (.pointer (some ⟨b, off, none⟩)) (.pointer (some a')) := by
          cases hr with
          | same hg => exact .same rfl
        refine ⟨by omega, fun j u hu => ?_⟩
        obtain ⟨v, h1, h2, _⟩ := acell_sound r hp (j := j) (u := u) (by simp only [acell]; exact g2 j u hu)
        exact ⟨v, h1, h2⟩
      · cases hs
    · cases hs

/-- The bytes that a string or a slice holds. -/
def bytesIn (M : Mem) (os : List AObj) (v : Value) : Option (List Int) :=
  match srcN v with
  | some n => match srcCells M 1 (fun j => os[j]?) n v with
    | some (us, _) => byteInts us
    | none => none
  | none => none

theorem byteInts_strCells (l : List UInt8) : byteInts (l.map fun b => Value.int .u8 b.toNat) = some (l.map fun b => (b.toNat : Int)) := by
  induction l with
  | nil => rfl
  | cons b l ih => simp only [List.map_cons, byteInts, ih]

theorem bytesOf_back (l : List UInt8) : Lib.bytesOf (l.map fun b => (b.toNat : Int)) = l := by
  induction l with
  | nil => rfl
  | cons b l ih =>
    simp only [Lib.bytesOf, List.map_cons, List.cons.injEq] at ih ⊢
    exact ⟨by simp, ih⟩

theorem bytesIn_sound {P : Program} {M : Mem} {m : Pl} {os : List AObj} {w : World} (r : HRel M m (os.map some) w) {u v : Value} (hv : VRel m (os.map some) u v) {l : List Int} (h : bytesIn M os u = some l) :
    (Extern.Bytes.bytesOf v).run P w = .ok ⟨(Lib.bytesOf l).toArray⟩ w := by
  unfold bytesIn at h
  split at h
  · rename_i n hn
    split at h
    · rename_i us f hs
      obtain ⟨vs, hrun, hrel, hul, hone, hgr⟩ := srcCells_sound (P := P) r hv (fun j p hp => by rw [hget_map]; exact hp) hs
      have hus := byteInts_eq h
      subst hus
      have hvs := hrel.eq (groundL_bytes l)
      subst hvs
      unfold srcN at hn
      split at hn
      · cases hn
        have := hv.eq rfl
        subst this
        have : l = [] := by simpa using hul
        subst this
        rfl
      · rename_i a ln c
        cases hn
        obtain ⟨a', c', hv'⟩ := hv.slc_inv
        subst hv'
        obtain ⟨h1, h3⟩ := srcCells_cell r hv (fun j p hp => by rw [hget_map]; exact hp) hs
        have hln : n = l.length := by simpa using h1.symm
        subst hln
        have := Lib.run_loadBytesX (P := P) w l a' .empty fun j x hj => by
          obtain ⟨v, h4, h5⟩ := h3 j (.int .u8 x) (by simp [hj])
          rw [h4, h5.int]
        show (Extern.Bytes.loadBytes a' l.length .empty).run P w = _
        rw [this]
        congr 1
        apply ByteArray.ext
        show (#[] : Array UInt8) ++ (Lib.bytesOf l).toArray = (Lib.bytesOf l).toArray
        simp
      · rename_i s
        cases hn
        have := hv.eq rfl
        subst this
        simp only [srcCells] at hs
        split at hs
        · have h' := h
          obtain ⟨h6, _⟩ := Prod.mk.inj (Option.some.inj hs)
          rw [← h6] at h'
          simp only [strCells] at h'
          rw [byteInts_strCells] at h'
          cases h'
          rw [bytesOf_back]
          have : s.data.toList.take s.size = s.data.toList := List.take_of_length_le (Nat.le_of_eq (by rw [Array.length_toList]; rfl))
          rw [this]
          rfl
        · cases hs
      · cases hn
    · cases h
  · cases h

def cmpSum (M : Mem) (f : FuncId) : Sum := { f := f, ro := true, S := fun args os => match args with
  | [u, v] => match bytesIn M os u, bytesIn M os v with
    | some a, some b => some (.int .i64 (Lib.compareBytes (Lib.bytesOf a) (Lib.bytesOf b)), os, [])
    | _, _ => none
  | _ => none }

theorem cmpSum_sound {P : Program} {M : Mem} {f : FuncId} {fn : Func} (hf : P.funcs[f]? = some fn) (hname : (fn.name == "runtime.NumGoroutine") = false) (hb : fn.body.isNone = true) (hn : Extern.findNext fn = none) (he : Extern.find fn = some Extern.BytealgCompare.compare) :
    (cmpSum M f).Sound P M := by
  intro args os v os' ns hs
  simp only [cmpSum] at hs
  split at hs
  · rename_i u v2
    split at hs
    · rename_i a b ha hb2
      cases hs
      refine ⟨.inr ⟨rfl, rfl, fun m w args' r hargs => ?_⟩, fun _ => rfl⟩
      obtain ⟨x, hx, hxr⟩ := hargs.get (i := 0) rfl
      obtain ⟨y, hy, hyr⟩ := hargs.get (i := 1) rfl
      have hl : args'.toList.length = 2 := hargs.1.symm
      obtain ⟨x', y', hxy⟩ := len2 hl
      rw [hxy] at hx hy
      cases hx; cases hy
      have hargs' : args' = #[x, y] := by cases args'; simp_all
      subst hargs'
      refine ⟨_, ?_, .same rfl⟩
      show (callFunc f #[x, y]).run P w = _
      rw [run_callFunc_extern hf hname hb hn he]
      have h1 := bytesIn_sound (P := P) r hxr ha
      have h2 := bytesIn_sound (P := P) r hyr hb2
      have : (Extern.BytealgCompare.compare #[x, y]).run P w = .ok (.int .i64 (Lib.compareBytes (Lib.bytesOf a) (Lib.bytesOf b))) w := by
        change Sem.run P (do pure (goInt (Extern.BytealgCompare.cmp (← Extern.Bytes.bytesOf x) (← Extern.Bytes.bytesOf y)))) w = _
        simp only [Sem.run_bind, h1, h2, Result.andThen_ok, Sem.run_pure]
        rw [Lib.cmp_eq]
        rfl
      rw [this]
      rfl
    · cases hs
  · cases hs

theorem compare_neg : ∀ a b : List UInt8, (decide (Lib.compareBytes a b < 0)) = Op.bytesLess a b := by
  intro a
  induction a with
  | nil => intro b; cases b <;> rfl
  | cons x a ih =>
    intro b
    cases b with
    | nil => rfl
    | cons y b =>
      simp only [Lib.compareBytes, Op.bytesLess]
      by_cases h1 : x < y
      · simp [h1]
      · by_cases h2 : y < x
        · have : ¬ x = y := by rintro rfl; exact absurd h2 h1
          simp [h1, h2, this]
        · have : x = y := UInt8.le_antisymm (UInt8.not_lt.1 h2) (UInt8.not_lt.1 h1)
          simp only [h1, h2, if_false]
          rw [ih]
          simp [this]

end Go.Ab

namespace Go.Ab

def heldB (p : Pins) : Bool := p.all fun x => x.1 == x.2

theorem heldB_iff {p : Pins} : heldB p = true ↔ Held p := by
  simp only [heldB, List.all_eq_true, Held]
  constructor
  · intro h x hx; have := h x hx; simpa using this
  · intro h x hx; simp [h x hx]

/-- A contract holds where its conditions do. -/
def Sum.SoundC (P : Program) (M : Mem) (s : Sum) : Prop := ∀ args os v os' ns, s.S args os = some (v, os', ns) → Held (s.C args os) → Answers P M s.f args os v os' ns ∧ (s.ro = true → os' = os)

theorem Sum.Sound.c {P : Program} {M : Mem} {s : Sum} (h : s.Sound P M) : s.SoundC P M := fun args os v os' ns hs _ => h args os v os' ns hs

/-- The contracts, where their conditions hold. -/
def fnsC (l : List Sum) : Fns where
  F := fun f args os => match sumFind l f with
    | some s => if heldB (s.C args os) then s.S args os else none
    | none => none
  ro := fun f => match sumFind l f with
    | some s => s.ro
    | none => false

theorem fnsC_sound {P : Program} {M : Mem} {l : List Sum} (h : ∀ s ∈ l, s.SoundC P M) : (fnsC l).Sound P M := by
  intro f args os v os' ns hF
  simp only [fnsC] at hF ⊢
  split at hF
  · rename_i s hs
    obtain ⟨h1, rfl⟩ := sumFind_mem hs
    split at hF
    · rename_i hc
      obtain ⟨h4, h5⟩ := h s h1 _ _ _ _ _ hF (heldB_iff.1 hc)
      exact ⟨h4, fun hr => h5 hr⟩
    · cases hF
  · cases hF

theorem consC {P : Program} {M : Mem} {s : Sum} {l : List Sum} (h : s.SoundC P M) (hl : ∀ s ∈ l, s.SoundC P M) : ∀ x ∈ s :: l, x.SoundC P M := fun x hx => by
  rcases List.mem_cons.1 hx with rfl | hx
  · exact h
  · exact hl x hx
theorem nilC {P : Program} {M : Mem} : ∀ x ∈ ([] : List Sum), x.SoundC P M := fun x hx => by cases hx

def pinsF (l : List Sum) (f : FuncId) (args : List Value) (os : List AObj) : Pins :=
  match sumFind l f with
  | some s => s.C args os
  | none => []

theorem F_eq {l : List Sum} {f : FuncId} {args : List Value} {os : List AObj} (hp : Held (pinsF l f args os)) : (fnsC l).F f args os = (fns l).F f args os := by
  unfold pinsF at hp
  simp only [fns, fnsC]
  cases hs : sumFind l f with
  | none => rfl
  | some s => rw [hs] at hp; simp only [heldB_iff.2 hp, if_true]

theorem ro_eq (l : List Sum) (f : FuncId) : (fnsC l).ro f = (fns l).ro f := rfl

/-- The conditions of a call. -/
def callPins (l : List Sum) (cl : List Nat → List Nat) (h : AHeap) (f : FuncId) (args : List Value) : Pins :=
  match renL (idx (cl (idsL [] args))) args, gather h (cl (idsL [] args)) with
  | some largs, some rs => match renOs (idx (cl (idsL [] args))) rs with
    | some lo => pinsF l f largs lo
    | none => []
  | _, _ => []

def opPins (l : List Sum) (cl : List Nat → List Nat) (ρ : Operand → Option Value) (h : AHeap) (op : Op) : Pins :=
  match op with
  | .call ⟨.value fx, xs, ts⟩ => match ρ fx, avals ρ xs.toList with
    | some (.func (.func f) fi ca), some us => callPins l cl h f (fi.toList ++ us ++ ca.toList)
    | _, _ => []
  | _ => []

theorem callAct_pins {l : List Sum} {cl : List Nat → List Nat} {h : AHeap} {f : FuncId} {args : List Value} (hp : Held (callPins l cl h f args)) :
    (callAct (fns l) (cl (idsL [] args)) f args = none ↔ callAct (fnsC l) (cl (idsL [] args)) f args = none) ∧
    ∀ act act', callAct (fns l) (cl (idsL [] args)) f args = some act → callAct (fnsC l) (cl (idsL [] args)) f args = some act' → act'.rd = act.rd ∧ act'.wt = act.wt ∧ ∀ b, act'.run b h = act.run b h ∧ act'.cnt b h = act.cnt b h := by
  unfold callPins at hp
  simp only [callAct, ro_eq]
  generalize cl (idsL [] args) = L at hp ⊢
  by_cases hnd : nodupB L = true
  · simp only [hnd, if_true]
    cases hla : renL (idx L) args with
    | none => simp
    | some largs =>
      simp only [hla] at hp ⊢
      by_cases hro : (fns l).ro f = true
      · simp only [hro, if_true]
        refine ⟨by simp, fun act act' h1 h2 => ?_⟩
        cases h1; cases h2
        refine ⟨rfl, rfl, fun b => ?_⟩
        simp only [AAct.run, AAct.cnt]
        cases hg : gather h L with
        | none => exact ⟨rfl, rfl⟩
        | some rs =>
          simp only [hg] at hp
          cases hlo : renOs (idx L) rs with
          | none => simp [gather, hlo]
          | some lo =>
            simp only [hlo] at hp
            simp [gather, hlo, F_eq hp]
      · simp only [hro]
        refine ⟨by simp, fun act act' h1 h2 => ?_⟩
        cases h1; cases h2
        refine ⟨rfl, rfl, fun b => ?_⟩
        simp only [AAct.run, AAct.cnt]
        cases hg : gather h L with
        | none => exact ⟨by simp [gather], by simp [gather]⟩
        | some rs =>
          simp only [hg] at hp
          cases hlo : renOs (idx L) rs with
          | none => simp [gather, hlo]
          | some lo =>
            simp only [hlo] at hp
            simp [gather, hlo, F_eq hp]
  · simp [hnd]

/-- Where the conditions of an operation hold, both contracts give the same. -/
theorem opAct_pins {P : Program} {M : Mem} {l : List Sum} {cl : List Nat → List Nat} {ρ : Operand → Option Value} {h : AHeap} {op : Op} (hp : Held (opPins l cl ρ h op)) :
    (opAct P M (fns l) cl ρ op = none ↔ opAct P M (fnsC l) cl ρ op = none) ∧
    ∀ act act', opAct P M (fns l) cl ρ op = some act → opAct P M (fnsC l) cl ρ op = some act' → act'.rd = act.rd ∧ act'.wt = act.wt ∧ ∀ b, act'.run b h = act.run b h ∧ act'.cnt b h = act.cnt b h := by
  have same : opAct P M (fns l) cl ρ op = opAct P M (fnsC l) cl ρ op → (opAct P M (fns l) cl ρ op = none ↔ opAct P M (fnsC l) cl ρ op = none) ∧
      ∀ act act', opAct P M (fns l) cl ρ op = some act → opAct P M (fnsC l) cl ρ op = some act' → act'.rd = act.rd ∧ act'.wt = act.wt ∧ ∀ b, act'.run b h = act.run b h ∧ act'.cnt b h = act.cnt b h := fun e => by
    rw [e]
    exact ⟨Iff.rfl, fun act act' h1 h2 => by rw [h1] at h2; cases h2; exact ⟨rfl, rfl, fun b => ⟨rfl, rfl⟩⟩⟩
  unfold opPins at hp
  split at hp
  · rename_i fx xs ts
    simp only [opAct]
    cases hf : ρ fx with
    | none => simp
    | some v =>
      cases ha : avals ρ xs.toList with
      | none => cases v <;> simp
      | some us =>
        cases v with
        | func fn fi ca =>
          cases fn with
          | func f =>
            rw [hf, ha] at hp
            exact callAct_pins hp
          | _ => simp
        | _ => simp
  · rename_i hne
    refine same ?_
    unfold opAct
    split <;> first | rfl | (exact absurd rfl (hne _ _ _))

section
variable {P : Program} {M : Mem} {l : List Sum} {cl : List Nat → List Nat} {ops : Array Oper}

/-- The conditions of an operation, if it is wanted. -/
def operPins (l : List Sum) (cl : List Nat → List Nat) (ops : Array Oper) (o : Oper) (s : ASt) : Pins :=
  if awanted ops s.tmps o then opPins l cl (aev s.tmps) s.heap o.op else []

theorem ostep_pins {o : Oper} {s : ASt} {b : Nat} (hp : Held (operPins l cl ops o s)) : ostep P M (fnsC l) cl ops b o s = ostep P M (fns l) cl ops b o s ∧ ofp P M (fnsC l) cl ops b o s = ofp P M (fns l) cl ops b o s := by
  unfold operPins at hp
  unfold ostep ofp
  by_cases hw : awanted ops s.tmps o = true
  · rw [if_pos hw] at hp
    simp only [hw, if_true]
    obtain ⟨h1, h2⟩ := opAct_pins (P := P) (M := M) hp
    cases ha : opAct P M (fns l) cl (aev s.tmps) o.op with
    | none => simp [h1.1 ha]
    | some act =>
      cases hb : opAct P M (fnsC l) cl (aev s.tmps) o.op with
      | none => rw [h1.2 hb] at ha; cases ha
      | some act' =>
        obtain ⟨e1, e2, e3⟩ := h2 act act' ha hb
        simp only [e1, e2, (e3 b).1, (e3 b).2]
        exact ⟨trivial, trivial⟩
  · simp only [hw]
    exact ⟨rfl, rfl⟩
end

section
variable (P : Program) (M : Mem) (l : List Sum) (sym : List Nat)

def rrunsC (cl : List Nat → List Nat) (ops : Array Oper) : List Nat → ASt → List Bool → Option (ASt × List Bool × Pins)
  | [], s, orc => some (s, orc, [])
  | i :: is, s, orc => match ops[i]? with
    | none => rrunsC cl ops is s orc
    | some o => match ostep P M (fns l) cl ops s.heap.length o s with
      | some s' => match pin sym o.dst s' orc with
        | (s1, o1, p1) => match rrunsC cl ops is s1 o1 with
          | some (s2, o2, p2) => some (s2, o2, operPins l cl ops o s ++ (p1 ++ p2))
          | none => none
      | none => none

def rtraceC (cl : List Nat → List Nat) (ops : Array Oper) : List Nat → ASt → List Bool → Option (ASt × List FP × List Bool × Pins)
  | [], s, orc => some (s, [], orc, [])
  | i :: is, s, orc => match ops[i]? with
    | none => none
    | some o => match ostep P M (fns l) cl ops s.heap.length o s with
      | some s' => match pin sym o.dst s' orc with
        | (s1, o1, p1) => match rtraceC cl ops is s1 o1 with
          | some (s2, fps, o2, p2) => some (s2, ofp P M (fns l) cl ops s.heap.length o s :: fps, o2, operPins l cl ops o s ++ (p1 ++ p2))
          | none => none
      | none => none

def rdrawC (cl : List Nat → List Nat) (ops : Array Oper) (s : ASt) (orc : List Bool) : Option (ASt × List Bool × Pins) :=
  match rtraceC P M l sym cl ops (List.range ops.size) s orc with
  | some (s', fps, o1, p1) => if okEdges ops && okPairs ops (befs ops.toList []) fps then some (s', o1, p1) else none
  | none => none

def rgnC (ops : Array Oper) (draw : Bool) (s : ASt) (orc : List Bool) : Option (ASt × List Bool × Pins) :=
  if draw then rdrawC P M l sym (clos s.heap s.heap.length) ops s orc else rrunsC P M l sym (clos s.heap s.heap.length) ops (List.range ops.size) s orc

def evC : Nat → Code → ASt → List Bool → Option (AExit × ASt × List Bool × Pins)
  | 0, _, _, _ => none
  | n + 1, c, s, orc => match c with
    | .skip => some (.normal, s, orc, [])
    | .label _ => some (.normal, s, orc, [])
    | .exit id => some (.exit id, s, orc, [])
    | .ret => some (.ret, s, orc, [])
    | .region _ ops draw => match rgnC P M l sym ops draw s orc with
      | some (s', o1, p1) => some (.normal, s', o1, p1)
      | none => none
    | .seq x y => match evC n x s orc with
      | some (.normal, s1, o1, p1) => match evC n y s1 o1 with
        | some (e, s2, o2, p2) => some (e, s2, o2, p1 ++ p2)
        | none => none
      | r => r
    | .cond c x y => match aev s.tmps c with
      | some (.bool b) => match b with
        | true => evC n x s orc
        | false => evC n y s orc
      | _ => none
    | .block id c => match evC n c s orc with
      | some (.exit i, s1, o1, p1) => if i = id then some (.normal, s1, o1, p1) else some (.exit i, s1, o1, p1)
      | r => r
    | .loop c => match evC n c s orc with
      | some (.normal, s1, o1, p1) => match evC n (.loop c) s1 o1 with
        | some (e, s2, o2, p2) => some (e, s2, o2, p1 ++ p2)
        | none => none
      | r => r
    | _ => none
end

section
variable {P : Program} {M : Mem} {l : List Sum} {sym : List Nat}

theorem rrunsC_eq {cl : List Nat → List Nat} {ops : Array Oper} : ∀ (is : List Nat) {s s' : ASt} {orc r : List Bool} {p : Pins}, rrunsC P M l sym cl ops is s orc = some (s', r, p) → Held p → rruns P M (fnsC l) cl ops is s = some s' := by
  intro is
  induction is with
  | nil => intro s s' orc r p h _; cases h; rfl
  | cons i is ih =>
    intro s s' orc r p h hp
    simp only [rrunsC] at h
    simp only [rruns]
    cases ho : ops[i]? with
    | none => simp only [ho] at h ⊢; exact ih h hp
    | some o =>
      simp only [ho] at h ⊢
      cases h0 : ostep P M (fns l) cl ops s.heap.length o s with
      | none => simp only [h0] at h; cases h
      | some s0 =>
        simp only [h0] at h
        cases h2 : rrunsC P M l sym cl ops is (pin sym o.dst s0 orc).1 (pin sym o.dst s0 orc).2.1 with
        | none => simp only [h2] at h; cases h
        | some x =>
          obtain ⟨s2, o2, p2⟩ := x
          simp only [h2] at h
          cases h
          rw [(ostep_pins hp.left).1, h0]
          rw [pin_eq (s' := (pin sym o.dst s0 orc).1) rfl hp.right.left] at h2
          exact ih h2 hp.right.right

theorem rtraceC_eq {cl : List Nat → List Nat} {ops : Array Oper} : ∀ (is : List Nat) {s s' : ASt} {orc r : List Bool} {p : Pins} {fps : List FP}, rtraceC P M l sym cl ops is s orc = some (s', fps, r, p) → Held p → rtrace P M (fnsC l) cl ops is s = some (s', fps) := by
  intro is
  induction is with
  | nil => intro s s' orc r p fps h _; cases h; rfl
  | cons i is ih =>
    intro s s' orc r p fps h hp
    simp only [rtraceC] at h
    simp only [rtrace]
    cases ho : ops[i]? with
    | none => simp only [ho] at h; cases h
    | some o =>
      simp only [ho] at h ⊢
      cases h0 : ostep P M (fns l) cl ops s.heap.length o s with
      | none => simp only [h0] at h; cases h
      | some s0 =>
        simp only [h0] at h
        cases h2 : rtraceC P M l sym cl ops is (pin sym o.dst s0 orc).1 (pin sym o.dst s0 orc).2.1 with
        | none => simp only [h2] at h; cases h
        | some x =>
          obtain ⟨s2, fps2, o2, p2⟩ := x
          simp only [h2] at h
          cases h
          rw [(ostep_pins hp.left).1, h0, (ostep_pins hp.left).2]
          rw [pin_eq (s' := (pin sym o.dst s0 orc).1) rfl hp.right.left] at h2
          simp only [ih h2 hp.right.right]

theorem rgnC_eq {ops : Array Oper} {draw : Bool} {s s' : ASt} {orc r : List Bool} {p : Pins} (h : rgnC P M l sym ops draw s orc = some (s', r, p)) (hp : Held p) : rgn P M (fnsC l) ops draw s = some s' := by
  unfold rgnC at h
  unfold rgn
  cases draw with
  | true =>
    simp only [if_true] at h ⊢
    unfold rdrawC at h
    unfold rdraw
    cases h1 : rtraceC P M l sym (clos s.heap s.heap.length) ops (List.range ops.size) s orc with
    | none => simp only [h1] at h; cases h
    | some x =>
      obtain ⟨s1, fps, o1, p1⟩ := x
      simp only [h1] at h
      cases hok : okEdges ops && okPairs ops (befs ops.toList []) fps with
      | false => rw [hok] at h; cases h
      | true =>
        rw [hok] at h
        cases h
        rw [rtraceC_eq _ h1 hp]
        simp only [hok, if_true]
  | false =>
    simp only [Bool.false_eq_true, if_false] at h ⊢
    exact rrunsC_eq _ h hp

theorem evC_eq : ∀ (n : Nat) (c : Code) {s s' : ASt} {orc r : List Bool} {p : Pins} {e : AExit}, evC P M l sym n c s orc = some (e, s', r, p) → Held p → ev P M (fnsC l) n c s = some (e, s') := by
  intro n
  induction n with
  | zero => intro c s s' orc r p e h; cases h
  | succ n ih =>
    intro c s s' orc r p e h hp
    cases c <;> simp only [evC] at h <;> simp only [ev]
    case skip => cases h; rfl
    case label => cases h; rfl
    case exit => cases h; rfl
    case ret => cases h; rfl
    case region id ops draw =>
      cases h1 : rgnC P M l sym ops draw s orc with
      | none => rw [h1] at h; cases h
      | some x =>
        obtain ⟨s1, o1, p1⟩ := x
        simp only [h1] at h
        cases h
        rw [rgnC_eq h1 hp]
    case seq x y =>
      cases h1 : evC P M l sym n x s orc with
      | none => rw [h1] at h; cases h
      | some a =>
        obtain ⟨e1, s1, o1, p1⟩ := a
        rw [h1] at h
        cases e1 with
        | normal =>
          simp only at h
          cases h2 : evC P M l sym n y s1 o1 with
          | none => rw [h2] at h; cases h
          | some b =>
            obtain ⟨e2, s2, o2, p2⟩ := b
            rw [h2] at h
            cases h
            rw [ih x h1 hp.left]
            exact ih y h2 hp.right
        | exit i => cases h; rw [ih x h1 hp]
        | ret => cases h; rw [ih x h1 hp]
    case cond c x y =>
      cases hb : aev s.tmps c with
      | none => rw [hb] at h; cases h
      | some v =>
        rw [hb] at h
        cases v with
        | bool b => cases b <;> simp only at h ⊢ <;> exact ih _ h hp
        | _ => cases h
    case block id c =>
      cases h1 : evC P M l sym n c s orc with
      | none => rw [h1] at h; cases h
      | some a =>
        obtain ⟨e1, s1, o1, p1⟩ := a
        rw [h1] at h
        cases e1 with
        | normal => cases h; rw [ih c h1 hp]
        | ret => cases h; rw [ih c h1 hp]
        | exit i =>
          simp only at h
          by_cases hi : i = id
          · rw [if_pos hi] at h; cases h; rw [ih c h1 hp]; simp [hi]
          · rw [if_neg hi] at h; cases h; rw [ih c h1 hp]; simp [hi]
    case loop c =>
      cases h1 : evC P M l sym n c s orc with
      | none => rw [h1] at h; cases h
      | some a =>
        obtain ⟨e1, s1, o1, p1⟩ := a
        rw [h1] at h
        cases e1 with
        | normal =>
          simp only at h
          cases h2 : evC P M l sym n (.loop c) s1 o1 with
          | none => rw [h2] at h; cases h
          | some b =>
            obtain ⟨e2, s2, o2, p2⟩ := b
            rw [h2] at h
            cases h
            rw [ih c h1 hp.left]
            exact ih _ h2 hp.right
        | exit i => cases h; rw [ih c h1 hp]
        | ret => cases h; rw [ih c h1 hp]
    all_goals cases h
end

/-- A function's body, evaluated, some answers being foretold, under its callees' conditions. -/
def evFC (P : Program) (M : Mem) (l : List Sum) (sym : List Nat) (fuel : Nat) (fn : Func) (args : List Value) (os : List AObj) (orc : List Bool) : Option ((Value × List AObj × List AObj) × Pins) :=
  match fn.body with
  | some c => match evC P M l sym fuel c ⟨args ++ List.replicate (fn.ntmps - args.length) undef, os.map some⟩ orc with
    | some (.exit _, _) => none
    | some (_, s', _, p) => match finA P M fn.results.toList os.length s' with
      | some r => some (r, p)
      | none => none
    | none => none
  | none => none

theorem acalls_of_evFC {P : Program} {M : Mem} {l : List Sum} (hl : ∀ s ∈ l, s.SoundC P M) (hmix : P.follows .mixedOrders = true) {f : FuncId} {fn : Func} (hf : P.funcs[f]? = some fn) {sym : List Nat} {fuel : Nat} {args : List Value} {os : List AObj} {orc : List Bool} {v : Value} {os' ns : List AObj} {p : Pins}
    (h : evFC P M l sym fuel fn args os orc = some ((v, os', ns), p)) (hp : Held p) : ACalls P M f args os v os' ns := by
  unfold evFC at h
  cases hb : fn.body with
  | none => rw [hb] at h; cases h
  | some c =>
    rw [hb] at h
    simp only at h
    cases hev : evC P M l sym fuel c ⟨args ++ List.replicate (fn.ntmps - args.length) undef, os.map some⟩ orc with
    | none => rw [hev] at h; cases h
    | some x =>
      obtain ⟨e, s', o1, p1⟩ := x
      rw [hev] at h
      cases e with
      | exit i => cases h
      | normal =>
        simp only at h
        cases hfin : finA P M fn.results.toList os.length s' with
        | none => rw [hfin] at h; cases h
        | some r =>
          rw [hfin] at h
          cases h
          exact acalls_of_finA hf hb (ev_sound (fnsC_sound hl) hmix fuel c (evC_eq _ _ hev hp)).1 (fun i hi => by cases hi) hfin
      | ret =>
        simp only at h
        cases hfin : finA P M fn.results.toList os.length s' with
        | none => rw [hfin] at h; cases h
        | some r =>
          rw [hfin] at h
          cases h
          exact acalls_of_finA hf hb (ev_sound (fnsC_sound hl) hmix fuel c (evC_eq _ _ hev hp)).1 (fun i hi => by cases hi) hfin

/-- A callee evaluated in place, its callees under conditions of their own that are shown here. -/
def inlC (P : Program) (M : Mem) (l : List Sum) (sym : List Nat) (fuel : Nat) (f : FuncId) (fn : Func) (orc : List Bool) : Sum :=
  { f := f, ro := false
    S := fun args os => match evFC P M l sym fuel fn args os orc with
      | some (r, _) => some r
      | none => none
    C := fun args os => match evFC P M l sym fuel fn args os orc with
      | some (_, p) => p
      | none => [] }

theorem inlC_sound {P : Program} {M : Mem} {l : List Sum} (hl : ∀ s ∈ l, s.SoundC P M) (hmix : P.follows .mixedOrders = true) {sym : List Nat} {fuel : Nat} {f : FuncId} {fn : Func} {orc : List Bool} (hf : P.funcs[f]? = some fn) (hn : (fn.name == "runtime.NumGoroutine") = false) (hb : fn.body.isSome = true) :
    (inlC P M l sym fuel f fn orc).SoundC P M := fun args os v os' ns h hp => by
  simp only [inlC] at h hp
  cases hx : evFC P M l sym fuel fn args os orc with
  | none => rw [hx] at h; cases h
  | some x =>
    obtain ⟨r, p⟩ := x
    rw [hx] at h hp
    cases h
    exact ⟨.inl ⟨enters_of hf hn hb, acalls_of_evFC hl hmix hf hx hp⟩, fun hr => by cases hr⟩

theorem sumC_sound {P : Program} {M : Mem} {s : Sum} {fn : Func} (hf : P.funcs[s.f]? = some fn) (hn : (fn.name == "runtime.NumGoroutine") = false) (hb : fn.body.isSome = true)
    (h : ∀ args os v os' ns, s.S args os = some (v, os', ns) → Held (s.C args os) → ACalls P M s.f args os v os' ns ∧ (s.ro = true → os' = os)) : s.SoundC P M := fun args os v os' ns hs hp =>
  ⟨.inl ⟨enters_of hf hn hb, (h args os v os' ns hs hp).1⟩, (h args os v os' ns hs hp).2⟩

/-- An integer fits its kind. -/
def hasB (k : IntKind) (n : Int) : Bool := decide (k.min ≤ n) && decide (n ≤ k.max)
theorem hasB_iff {k : IntKind} {n : Int} : hasB k n = true ↔ k.has n := by simp [hasB, IntKind.has]

theorem cellsI_congr {k : IntKind} {n : Nat} {x y : Nat → Int} (h : ∀ i, i < n → x i = y i) : cellsI k n x = cellsI k n y := by
  unfold cellsI
  apply List.map_congr_left
  intro i hi
  rw [h i (List.mem_range.1 hi)]

theorem eqB_cells (k : IntKind) (n : Nat) (x : Nat → Int) : eqB (cellsI k n x) (cellsI k n x) = true := by
  have := eqB_self (k := k) ((List.range n).map x)
  rw [List.map_map] at this
  exact this

theorem wrap_u8 (n : Int) : IntKind.wrap .u8 n = n % 256 := by simp [IntKind.wrap, IntKind.bits, IntKind.signed]
theorem wrap_u16 (n : Int) : IntKind.wrap .u16 n = n % 65536 := by simp [IntKind.wrap, IntKind.bits, IntKind.signed]
theorem wrap_u32 (n : Int) : IntKind.wrap .u32 n = n % 4294967296 := by simp [IntKind.wrap, IntKind.bits, IntKind.signed]
theorem wrap_u64 (n : Int) : IntKind.wrap .u64 n = n % 18446744073709551616 := by simp [IntKind.wrap, IntKind.bits, IntKind.signed]
theorem wrap_i64 {n : Int} (h1 : -9223372036854775808 ≤ n) (h2 : n ≤ 9223372036854775807) : IntKind.wrap .i64 n = n := by
  simp [IntKind.wrap, IntKind.bits, IntKind.signed]
  split <;> omega
theorem has_i64 {n : Int} (h : IntKind.i64.has n) : -9223372036854775808 ≤ n ∧ n ≤ 9223372036854775807 := h
theorem has_u8 {n : Int} (h : IntKind.u8.has n) : 0 ≤ n ∧ n ≤ 255 := h
theorem has_u16 {n : Int} (h : IntKind.u16.has n) : 0 ≤ n ∧ n ≤ 65535 := h
theorem has_u32 {n : Int} (h : IntKind.u32.has n) : 0 ≤ n ∧ n ≤ 4294967295 := h
theorem has_u64 {n : Int} (h : IntKind.u64.has n) : 0 ≤ n ∧ n ≤ 18446744073709551615 := h

end Go.Ab

namespace Go.Ab

/-- What an operation does if its checks, recorded, are so. -/
abbrev Ov := AHeap → (Operand → Option Value) → Op → Option (AAct × Pins)

def OvOk (P : Program) (M : Mem) (ov : Ov) : Prop := ∀ (K : Fns) (cl : List Nat → List Nat) (h : AHeap) (ρ : Operand → Option Value) (op : Op) (act : AAct) (p : Pins), ov h ρ op = some (act, p) → Held p →
  ∃ act0, opAct P M K cl ρ op = some act0 ∧ act0.rd = act.rd ∧ act0.wt = act.wt ∧ ∀ b, act0.run b h = act.run b h ∧ act0.cnt b h = act.cnt b h

/-- Is the operation one of those named (by where its answer goes; a store by where its address lies)? -/
def selOp (uns : List Nat) (o : Oper) : Bool :=
  match o.dst with
  | some d => memN d uns
  | none => match o.op with
    | .store _ (.tmp t) _ => memN t uns
    | _ => false

/-- What is known of a block of code: by its number. -/
abbrev Hooks := List (Nat × (ASt → Option (AExit × ASt × Pins)))

def findH (id : Nat) : Hooks → Option (ASt → Option (AExit × ASt × Pins))
  | [] => none
  | (i, f) :: r => if Nat.beq i id then some f else findH id r

section
variable (P : Program) (M : Mem) (ov : Ov) (uns : List Nat) (lp : Hooks) (l : List Sum) (sym : List Nat)

def ostepU (cl : List Nat → List Nat) (ops : Array Oper) (b : Nat) (o : Oper) (s : ASt) : Option (ASt × FP × Pins) :=
  if awanted ops s.tmps o then
    if selOp uns o then match ov s.heap (aev s.tmps) o.op with
      | some (act, p) => match act.run b s.heap with
        | some (v, h') => some (⟨aput s.tmps o.dst v, h'⟩, ⟨act.rd, act.wt, b, act.cnt b s.heap⟩, p)
        | none => none
      | none => none
    else match opAct P M (fns l) cl (aev s.tmps) o.op with
      | some act => match act.run b s.heap with
        | some (v, h') => some (⟨aput s.tmps o.dst v, h'⟩, ⟨act.rd, act.wt, b, act.cnt b s.heap⟩, opPins l cl (aev s.tmps) s.heap o.op)
        | none => none
      | none => none
  else some (⟨aput s.tmps o.dst undef, s.heap⟩, ⟨[], [], b, 0⟩, [])

def rtraceU (cl : List Nat → List Nat) (ops : Array Oper) : List Nat → ASt → List Bool → Option (ASt × List FP × List Bool × Pins)
  | [], s, orc => some (s, [], orc, [])
  | i :: is, s, orc => match ops[i]? with
    | none => none
    | some o => match ostepU P M ov uns l cl ops s.heap.length o s with
      | some (s', fp, p0) => match pin sym o.dst s' orc with
        | (s1, o1, p1) => match rtraceU cl ops is s1 o1 with
          | some (s2, fps, o2, p2) => some (s2, fp :: fps, o2, p0 ++ (p1 ++ p2))
          | none => none
      | none => none

def rgnU (ops : Array Oper) (draw : Bool) (s : ASt) (orc : List Bool) : Option (ASt × List Bool × Pins) :=
  match rtraceU P M ov uns l sym (clos s.heap s.heap.length) ops (List.range ops.size) s orc with
  | some (s', fps, o1, p1) => if draw then (if okEdges ops && okPairs ops (befs ops.toList []) fps then some (s', o1, p1) else none) else some (s', o1, p1)
  | none => none

def evU : Nat → Code → ASt → List Bool → Option (AExit × ASt × List Bool × Pins)
  | 0, _, _, _ => none
  | n + 1, c, s, orc => match c with
    | .skip => some (.normal, s, orc, [])
    | .label _ => some (.normal, s, orc, [])
    | .exit id => some (.exit id, s, orc, [])
    | .ret => some (.ret, s, orc, [])
    | .region _ ops draw => match rgnU P M ov uns l sym ops draw s orc with
      | some (s', o1, p1) => some (.normal, s', o1, p1)
      | none => none
    | .seq x y => match evU n x s orc with
      | some (.normal, s1, o1, p1) => match evU n y s1 o1 with
        | some (e, s2, o2, p2) => some (e, s2, o2, p1 ++ p2)
        | none => none
      | r => r
    | .cond c x y => match aev s.tmps c with
      | some (.bool b) => match b with
        | true => evU n x s orc
        | false => evU n y s orc
      | _ => none
    | .block id c => match findH id lp with
      | some f => match f s with
        | some (e, s1, p1) => some (e, s1, orc, p1)
        | none => none
      | none => match evU n c s orc with
        | some (.exit i, s1, o1, p1) => if i = id then some (.normal, s1, o1, p1) else some (.exit i, s1, o1, p1)
        | r => r
    | .loop c => match evU n c s orc with
      | some (.normal, s1, o1, p1) => match evU n (.loop c) s1 o1 with
        | some (e, s2, o2, p2) => some (e, s2, o2, p1 ++ p2)
        | none => none
      | r => r
    | _ => none
end

/-- What is known of the blocks within this code is so. -/
def HooksOk (P : Program) (M : Mem) (lp : Hooks) : Code → Prop
  | .seq x y => HooksOk P M lp x ∧ HooksOk P M lp y
  | .cond _ x y => HooksOk P M lp x ∧ HooksOk P M lp y
  | .block id c => match findH id lp with
    | some f => ∀ s e s' p, f s = some (e, s', p) → Held p → Big P M (.block id c) s e s'
    | none => HooksOk P M lp c
  | .loop c => HooksOk P M lp c
  | _ => True

theorem hooksOk_nil {P : Program} {M : Mem} : ∀ c : Code, HooksOk P M [] c := by
  intro c
  induction c with
  | seq x y ih1 ih2 => exact ⟨ih1, ih2⟩
  | cond c x y ih1 ih2 => exact ⟨ih1, ih2⟩
  | block id c ih => exact ih
  | loop c ih => exact ih
  | _ => trivial

/-- The bodies of the blocks with this number. -/
def occ (id : Nat) : Code → List Code
  | .seq x y => occ id x ++ occ id y
  | .cond _ x y => occ id x ++ occ id y
  | .block i c => if Nat.beq i id then c :: occ id c else occ id c
  | .loop c => occ id c
  | _ => []

theorem hooksOk_occ {P : Program} {M : Mem} {lp : Hooks} : ∀ c : Code, (∀ id f, findH id lp = some f → ∀ c' ∈ occ id c, ∀ s e s' p, f s = some (e, s', p) → Held p → Big P M (.block id c') s e s') → HooksOk P M lp c := by
  intro c
  induction c with
  | seq x y ih1 ih2 => intro h; exact ⟨ih1 fun id f hf c' hc => h id f hf c' (by simp [occ, hc]), ih2 fun id f hf c' hc => h id f hf c' (by simp [occ, hc])⟩
  | cond c x y ih1 ih2 => intro h; exact ⟨ih1 fun id f hf c' hc => h id f hf c' (by simp [occ, hc]), ih2 fun id f hf c' hc => h id f hf c' (by simp [occ, hc])⟩
  | loop c ih => intro h; exact ih fun id f hf c' hc => h id f hf c' (by simpa [occ] using hc)
  | block i c ih =>
    intro h
    simp only [HooksOk]
    split
    · rename_i f hf
      exact h i f hf c (by simp [occ])
    · exact ih fun id f hf c' hc => h id f hf c' (by simp only [occ]; split <;> simp [hc])
  | _ => intro _; trivial

section
variable {P : Program} {M : Mem} {ov : Ov} {uns : List Nat} {lp : Hooks} {l : List Sum} {sym : List Nat}

theorem ostepU_eq (hov : OvOk P M ov) {cl : List Nat → List Nat} {ops : Array Oper} {b : Nat} {o : Oper} {s s' : ASt} {fp : FP} {p : Pins} (h : ostepU P M ov uns l cl ops b o s = some (s', fp, p)) (hp : Held p) :
    ostep P M (fnsC l) cl ops b o s = some s' ∧ ofp P M (fnsC l) cl ops b o s = fp := by
  unfold ostepU at h
  unfold ostep ofp
  by_cases hw : awanted ops s.tmps o = true
  · simp only [hw, if_true] at h ⊢
    by_cases hs : selOp uns o = true
    · simp only [hs, if_true] at h
      cases ha : ov s.heap (aev s.tmps) o.op with
      | none => rw [ha] at h; cases h
      | some x =>
        obtain ⟨act, p1⟩ := x
        rw [ha] at h
        simp only at h
        cases hr : act.run b s.heap with
        | none => rw [hr] at h; cases h
        | some y =>
          obtain ⟨v, h'⟩ := y
          rw [hr] at h
          cases h
          obtain ⟨act0, e0, e1, e2, e3⟩ := hov (fnsC l) cl _ _ _ _ _ ha hp
          rw [e0]
          simp only [(e3 b).1, hr, e1, e2, (e3 b).2, and_self]
    · simp only [hs] at h
      cases ha : opAct P M (fns l) cl (aev s.tmps) o.op with
      | none => rw [ha] at h; cases h
      | some act =>
        rw [ha] at h
        simp only at h
        cases hr : act.run b s.heap with
        | none => rw [hr] at h; cases h
        | some y =>
          obtain ⟨v, h'⟩ := y
          rw [hr] at h
          cases h
          obtain ⟨h1, h2⟩ := opAct_pins (P := P) (M := M) hp
          cases hb : opAct P M (fnsC l) cl (aev s.tmps) o.op with
          | none => rw [h1.2 hb] at ha; cases ha
          | some act' =>
            obtain ⟨e1, e2, e3⟩ := h2 act act' ha hb
            simp only [(e3 b).1, hr, e1, e2, (e3 b).2, and_self]
  · simp only [hw] at h ⊢
    cases h
    exact ⟨rfl, rfl⟩

theorem rtraceU_eq (hov : OvOk P M ov) {cl : List Nat → List Nat} {ops : Array Oper} : ∀ (is : List Nat) {s s' : ASt} {orc r : List Bool} {p : Pins} {fps : List FP}, rtraceU P M ov uns l sym cl ops is s orc = some (s', fps, r, p) → Held p →
    rtrace P M (fnsC l) cl ops is s = some (s', fps) ∧ rruns P M (fnsC l) cl ops is s = some s' := by
  intro is
  induction is with
  | nil => intro s s' orc r p fps h _; cases h; exact ⟨rfl, rfl⟩
  | cons i is ih =>
    intro s s' orc r p fps h hp
    simp only [rtraceU] at h
    simp only [rtrace, rruns]
    cases ho : ops[i]? with
    | none => simp only [ho] at h; cases h
    | some o =>
      simp only [ho] at h ⊢
      cases h0 : ostepU P M ov uns l cl ops s.heap.length o s with
      | none => simp only [h0] at h; cases h
      | some x =>
        obtain ⟨s0, fp, p0⟩ := x
        simp only [h0] at h
        cases h2 : rtraceU P M ov uns l sym cl ops is (pin sym o.dst s0 orc).1 (pin sym o.dst s0 orc).2.1 with
        | none => simp only [h2] at h; cases h
        | some x =>
          obtain ⟨s2, fps2, o2, p2⟩ := x
          simp only [h2] at h
          cases h
          obtain ⟨e1, e2⟩ := ostepU_eq hov h0 hp.left
          rw [e1, e2]
          rw [pin_eq (s' := (pin sym o.dst s0 orc).1) rfl hp.right.left] at h2
          obtain ⟨i1, i2⟩ := ih h2 hp.right.right
          simp only [i1, i2, and_self]

theorem rgnU_eq (hov : OvOk P M ov) {ops : Array Oper} {draw : Bool} {s s' : ASt} {orc r : List Bool} {p : Pins} (h : rgnU P M ov uns l sym ops draw s orc = some (s', r, p)) (hp : Held p) : rgn P M (fnsC l) ops draw s = some s' := by
  unfold rgnU at h
  unfold rgn
  cases h1 : rtraceU P M ov uns l sym (clos s.heap s.heap.length) ops (List.range ops.size) s orc with
  | none => simp only [h1] at h; cases h
  | some x =>
    obtain ⟨s1, fps, o1, p1⟩ := x
    simp only [h1] at h
    cases draw with
    | true =>
      simp only [if_true] at h ⊢
      unfold rdraw
      cases hok : okEdges ops && okPairs ops (befs ops.toList []) fps with
      | false => rw [hok] at h; cases h
      | true =>
        rw [hok] at h
        cases h
        rw [(rtraceU_eq hov _ h1 hp).1]
        simp only [hok, if_true]
    | false =>
      simp only [Bool.false_eq_true, if_false] at h ⊢
      cases h
      exact (rtraceU_eq hov _ h1 hp).2

theorem evU_big (hov : OvOk P M ov) (hl : ∀ s ∈ l, s.SoundC P M) (hmix : P.follows .mixedOrders = true) : ∀ (n : Nat) (c : Code) {s s' : ASt} {orc r : List Bool} {p : Pins} {e : AExit}, HooksOk P M lp c → evU P M ov uns lp l sym n c s orc = some (e, s', r, p) → Held p →
    (Big P M c s e s') ∧ ∀ c', c = .loop c' → e ≠ .normal ∧ ∃ (st : Nat → ASt) (k : Nat), st 0 = s ∧ (∀ j, j < k → Big P M c' (st j) .normal (st (j + 1))) ∧ Big P M c' (st k) e s' := by
  have hK := fnsC_sound hl
  intro n
  induction n with
  | zero => intro c s s' orc r p e _ h; cases h
  | succ n ih =>
    intro c s s' orc r p e hh h hp
    cases c <;> simp only [evU] at h
    case skip => cases h; exact ⟨.skip, fun c' hc => by cases hc⟩
    case label => cases h; exact ⟨.label, fun c' hc => by cases hc⟩
    case exit => cases h; exact ⟨.exit, fun c' hc => by cases hc⟩
    case ret => cases h; exact ⟨.ret, fun c' hc => by cases hc⟩
    case region id ops draw =>
      refine ⟨?_, fun c' hc => by cases hc⟩
      cases h1 : rgnU P M ov uns l sym ops draw s orc with
      | none => rw [h1] at h; cases h
      | some x =>
        obtain ⟨s1, o1, p1⟩ := x
        rw [h1] at h
        cases h
        have h2 := rgnU_eq hov h1 hp
        cases draw with
        | true => exact Big.region_draw hK hmix _ h2
        | false => exact Big.region hK _ h2
    case seq x y =>
      refine ⟨?_, fun c' hc => by cases hc⟩
      cases h1 : evU P M ov uns lp l sym n x s orc with
      | none => rw [h1] at h; cases h
      | some a =>
        obtain ⟨e1, s1, o1, p1⟩ := a
        rw [h1] at h
        cases e1 with
        | normal =>
          simp only at h
          cases h2 : evU P M ov uns lp l sym n y s1 o1 with
          | none => rw [h2] at h; cases h
          | some b =>
            obtain ⟨e2, s2, o2, p2⟩ := b
            rw [h2] at h
            cases h
            exact Big.seq (ih x hh.1 h1 hp.left).1 (ih y hh.2 h2 hp.right).1
        | exit i => cases h; exact Big.seq_out (by simp) (ih x hh.1 h1 hp).1
        | ret => cases h; exact Big.seq_out (by simp) (ih x hh.1 h1 hp).1
    case cond c x y =>
      refine ⟨?_, fun c' hc => by cases hc⟩
      cases hb : aev s.tmps c with
      | none => rw [hb] at h; cases h
      | some v =>
        rw [hb] at h
        cases v with
        | bool b => cases b with
          | true => exact Big.cond hb (ih x hh.1 h hp).1
          | false => exact Big.cond hb (ih y hh.2 h hp).1
        | _ => cases h
    case block id c =>
      refine ⟨?_, fun c' hc => by cases hc⟩
      simp only [HooksOk] at hh
      cases hf : findH id lp with
      | some f =>
        rw [hf] at h hh
        simp only at h hh
        cases h1 : f s with
        | none => rw [h1] at h; cases h
        | some x =>
          obtain ⟨e1, s1, p1⟩ := x
          rw [h1] at h
          cases h
          exact hh _ _ _ _ h1 hp
      | none =>
        rw [hf] at h hh
        simp only at h hh
        cases h1 : evU P M ov uns lp l sym n c s orc with
        | none => rw [h1] at h; cases h
        | some a =>
          obtain ⟨e1, s1, o1, p1⟩ := a
          rw [h1] at h
          cases e1 with
          | normal => cases h; exact Big.block (id := id) (ih c hh h1 hp).1
          | ret => cases h; exact Big.block (id := id) (ih c hh h1 hp).1
          | exit i =>
            simp only at h
            by_cases hi : i = id
            · rw [if_pos hi] at h; cases h
              have := Big.block (id := id) (ih c hh h1 hp).1
              simpa [hi] using this
            · rw [if_neg hi] at h; cases h
              have := Big.block (id := id) (ih c hh h1 hp).1
              simpa [hi] using this
    case loop c =>
      have key : e ≠ .normal ∧ ∃ (st : Nat → ASt) (k : Nat), st 0 = s ∧ (∀ j, j < k → Big P M c (st j) .normal (st (j + 1))) ∧ Big P M c (st k) e s' := by
        cases h1 : evU P M ov uns lp l sym n c s orc with
        | none => rw [h1] at h; cases h
        | some a =>
          obtain ⟨e1, s1, o1, p1⟩ := a
          rw [h1] at h
          cases e1 with
          | normal =>
            simp only at h
            cases h2 : evU P M ov uns lp l sym n (.loop c) s1 o1 with
            | none => rw [h2] at h; cases h
            | some b =>
              obtain ⟨e2, s2, o2, p2⟩ := b
              rw [h2] at h
              cases h
              obtain ⟨hne, st, k, h3, h4, h5⟩ := (ih (.loop c) hh h2 hp.right).2 c rfl
              refine ⟨hne, fun j => match j with | 0 => s | j + 1 => st j, k + 1, rfl, fun j hj => ?_, h5⟩
              cases j with
              | zero => simp only [h3]; exact (ih c hh h1 hp.left).1
              | succ j => exact h4 j (by omega)
          | exit i => cases h; exact ⟨by simp, fun _ => s, 0, rfl, fun j hj => by omega, (ih c hh h1 hp).1⟩
          | ret => cases h; exact ⟨by simp, fun _ => s, 0, rfl, fun j hj => by omega, (ih c hh h1 hp).1⟩
      obtain ⟨hne, st, k, h2, h3, h4⟩ := key
      refine ⟨?_, fun c' hc => by cases hc; exact ⟨hne, st, k, h2, h3, h4⟩⟩
      rw [← h2]
      exact Big.loop hne st k h3 h4
    all_goals cases h
end

/-- A function's body so evaluated. -/
def evFU (P : Program) (M : Mem) (ov : Ov) (uns : List Nat) (lp : Hooks) (l : List Sum) (sym : List Nat) (fuel : Nat) (fn : Func) (args : List Value) (os : List AObj) (orc : List Bool) : Option ((Value × List AObj × List AObj) × Pins) :=
  match fn.body with
  | some c => match evU P M ov uns lp l sym fuel c ⟨args ++ List.replicate (fn.ntmps - args.length) undef, os.map some⟩ orc with
    | some (.exit _, _) => none
    | some (_, s', _, p) => match finA P M fn.results.toList os.length s' with
      | some r => some (r, p)
      | none => none
    | none => none
  | none => none

theorem acalls_of_evFU {P : Program} {M : Mem} {ov : Ov} (hov : OvOk P M ov) {uns : List Nat} {lp : Hooks} {l : List Sum} (hl : ∀ s ∈ l, s.SoundC P M) (hmix : P.follows .mixedOrders = true) {f : FuncId} {fn : Func} (hf : P.funcs[f]? = some fn) {sym : List Nat} {fuel : Nat} {args : List Value} {os : List AObj} {orc : List Bool} {v : Value} {os' ns : List AObj} {p : Pins}
    (hlp : HooksOk P M lp (fn.body.getD .skip)) (h : evFU P M ov uns lp l sym fuel fn args os orc = some ((v, os', ns), p)) (hp : Held p) : ACalls P M f args os v os' ns := by
  unfold evFU at h
  cases hb : fn.body with
  | none => rw [hb] at h; cases h
  | some c =>
    rw [hb] at h hlp
    simp only [Option.getD_some] at h hlp
    cases hev : evU P M ov uns lp l sym fuel c ⟨args ++ List.replicate (fn.ntmps - args.length) undef, os.map some⟩ orc with
    | none => rw [hev] at h; cases h
    | some x =>
      obtain ⟨e, s', o1, p1⟩ := x
      rw [hev] at h
      cases e with
      | exit i => cases h
      | normal =>
        simp only at h
        cases hfin : finA P M fn.results.toList os.length s' with
        | none => rw [hfin] at h; cases h
        | some r =>
          rw [hfin] at h
          cases h
          exact acalls_of_finA hf hb (evU_big hov hl hmix fuel c hlp hev hp).1 (fun i hi => by cases hi) hfin
      | ret =>
        simp only at h
        cases hfin : finA P M fn.results.toList os.length s' with
        | none => rw [hfin] at h; cases h
        | some r =>
          rw [hfin] at h
          cases h
          exact acalls_of_finA hf hb (evU_big hov hl hmix fuel c hlp hev hp).1 (fun i hi => by cases hi) hfin

end Go.Ab

namespace Go.Ab

def vint : Value → Int
  | .int _ n => n
  | _ => 0

def isI (k : IntKind) : Value → Bool
  | .int k' _ => decide (k' = k)
  | _ => false

theorem isI_eq {k : IntKind} {v : Value} (h : isI k v = true) : v = .int k (vint v) := by
  cases v <;> simp [isI] at h
  subst h
  rfl

def atC (l : List Value) (i : Nat) : Value := (l[i]?).getD undef

theorem isI_undef (k : IntKind) : isI k undef = false := rfl

theorem atC_some {k : IntKind} {l : List Value} {i : Nat} (h : isI k (atC l i) = true) : l[i]? = some (.int k (vint (atC l i))) := by
  have e := isI_eq h
  unfold atC at h e ⊢
  cases hl : l[i]? with
  | none => rw [hl] at h; rw [Option.getD_none, isI_undef] at h; cases h
  | some v => rw [hl] at e; simp only [Option.getD_some] at e ⊢; exact congrArg some e

def inB (k : Int) (len : Nat) : Bool := decide (0 ≤ k) && decide (k < (len : Int))

def ldB (k : IntKind) (o : AObj) (sz off : Nat) : Bool := decide (o.cells.length = sz) && isI k (atC o.cells off)

def roB (k : IntKind) (M : Mem) (b off : Nat) : Bool := isI k ((M b off).getD undef)

def stB (o : AObj) (sz off n : Nat) : Bool := decide (o.cells.length = sz) && decide (off + n ≤ sz)

def mkB (by_ : Nat) (n k : Int) : Bool := decide (0 ≤ n) && decide (n ≤ k) && decide (k ≤ 4611686018427387904) && decide ((by_ : Int) * k ≤ 281474976710656)

/-- An action that does this. -/
def uAct (rd wt : List Nat) (f : Nat → Value × List AObj × List AObj) : AAct := { rd := rd, wt := wt, f := fun b _ _ => some (f b) }

theorem uAct_same {act : AAct} {rd wt : List Nat} {f : Nat → Value × List AObj × List AObj} {h : AHeap} {rs os : List AObj} (h1 : act.rd = rd) (h2 : act.wt = wt) (h3 : gather h rd = some rs) (h4 : gather h wt = some os) (h5 : ∀ b, act.f b rs os = some (f b)) :
    act.rd = (uAct rd wt f).rd ∧ act.wt = (uAct rd wt f).wt ∧ ∀ b, act.run b h = (uAct rd wt f).run b h ∧ act.cnt b h = (uAct rd wt f).cnt b h := by
  refine ⟨h1, h2, fun b => ?_⟩
  simp only [AAct.run, AAct.cnt, uAct, h1, h2, h3, h4, h5, and_self]

def uLow : Option Value → Nat
  | some (.int _ n) => n.toNat
  | _ => 0
def uHigh (d : Nat) : Option Value → Nat
  | some (.int _ n) => n.toNat
  | _ => d

/-- What an operation takes from a slice or a string. -/
def uSrc (M : Mem) (h : AHeap) (k n : Nat) : Value → Option (List Value × Bool × Bool)
  | .slice none _ _ => some ([], true, decide (n = 0))
  | .slice (some ⟨j, off, some sz⟩) len _ => match hget h j with
    | some o => some ((o.cells.drop off).take (n * k), o.flat, decide (o.cells.length = sz) && (decide (off + n * k ≤ sz) && decide (n ≤ len)))
    | none => none
  | .slice (some ⟨b, off, none⟩) len _ => some ((List.range (n * k)).map fun j => (M b (off + j)).getD undef, true, (List.range (n * k)).all (fun j => (M b (off + j)).isSome) && decide (n ≤ len))
  | .string s => some (strCells s n, true, decide (k = 1) && decide (n ≤ s.size))
  | _ => none

theorem roload_range {M : Mem} {b : Nat} : ∀ (n off : Nat), ((List.range n).all fun j => (M b (off + j)).isSome) = true → aload.roload M b off n = some ((List.range n).map fun j => (M b (off + j)).getD undef) := by
  intro n
  induction n with
  | zero => intro off _; rfl
  | succ n ih =>
    intro off h
    rw [List.range_succ_eq_map] at h ⊢
    simp only [List.all_cons, Bool.and_eq_true, List.all_map, Nat.add_zero] at h
    have h2 := ih (off + 1) (by
      rw [List.all_eq_true] at h ⊢
      intro x hx
      have := h.2 x hx
      simpa [Nat.add_assoc, Nat.add_comm 1 x] using this)
    simp only [aload.roload]
    obtain ⟨v, hv⟩ := Option.isSome_iff_exists.1 h.1
    simp only [hv, h2, List.map_cons, Nat.add_zero, Option.getD_some, List.map_map]
    congr 2
    apply List.map_congr_left
    intro x _
    simp [Nat.add_assoc, Nat.add_comm 1 x]

theorem uSrc_eq {M : Mem} {h : AHeap} {k n : Nat} {v : Value} {us : List Value} {f c : Bool} (hu : uSrc M h k n v = some (us, f, c)) (hc : c = true) {look : Nat → Option AObj} (hlook : ∀ j ∈ srcFp v, look j = hget h j) : srcCells M k look n v = some (us, f) := by
  subst hc
  unfold uSrc at hu
  split at hu
  · simp only [Option.some.injEq, Prod.mk.injEq, decide_eq_true_eq] at hu
    obtain ⟨rfl, rfl, rfl⟩ := hu
    rfl
  · rename_i j off sz len cp
    split at hu
    · rename_i o ho
      simp only [Option.some.injEq, Prod.mk.injEq, Bool.and_eq_true, decide_eq_true_eq] at hu
      obtain ⟨rfl, rfl, h1, h2, h3⟩ := hu
      simp only [srcCells, hlook j (by simp [srcFp]), ho, h1, h2, h3, and_self, if_true]
    · cases hu
  · rename_i b off len cp
    simp only [Option.some.injEq, Prod.mk.injEq, Bool.and_eq_true, decide_eq_true_eq] at hu
    obtain ⟨rfl, rfl, h1, h2⟩ := hu
    simp only [srcCells, roload_range _ _ h1, h2, if_true]
  · rename_i s
    simp only [Option.some.injEq, Prod.mk.injEq, Bool.and_eq_true, decide_eq_true_eq] at hu
    obtain ⟨rfl, rfl, h1, h2⟩ := hu
    simp only [srcCells, h1, h2, and_self, if_true]
  · cases hu

/-- The operations without their checks. -/
def ovStd (P : Program) (M : Mem) : Ov := fun h ρ op => match op with
  | .indexAddr t x i => match P.underlying t, ρ x, ρ i with
    | some (.slice e), some (.slice (some a) len _), some (.int _ k) => match szOf P e with
      | some n => some (uAct [] [] fun _ => (.pointer (some (aadd a (k.toNat * n))), [], []), [(inB k len, true)])
      | none => none
    | some (.array len e), some (.pointer (some a)), some (.int _ k) => match szOf P e with
      | some n => some (uAct [] [] fun _ => (.pointer (some (aadd a (k.toNat * n))), [], []), [(inB k len, true)])
      | none => none
    | _, _, _ => none
  | .load t x => match P.underlying t, ρ x with
    | some (.int k), some (.pointer (some ⟨b, off, some sz⟩)) => match hget h b with
      | some o => some (uAct [b] [] fun _ => (.int k (vint (atC o.cells off)), [], []), [(ldB k o sz off, true)])
      | none => none
    | some (.int k), some (.pointer (some ⟨b, off, none⟩)) => some (uAct [] [] fun _ => (.int k (vint ((M b off).getD undef)), [], []), [(roB k M b off, true)])
    | _, _ => none
  | .store t x y => match ρ x, ρ y with
    | some (.pointer (some ⟨b, off, some sz⟩)), some v => match szOf P t, hget h b with
      | some n, some o => if Nat.beq v.cells.toList.length n && okL o.flat v.cells.toList then some (uAct [] [b] fun _ => (undef, [{ o with cells := wr o.cells off v.cells.toList }], []), [(stB o sz off n, true)]) else none
      | _, _ => none
    | _, _ => none
  | .makeSlice t x y => match P.underlying t, ρ x, ρ y with
    | some (.slice e), some (.int _ n), some (.int _ k) => match szOf P e, zeroOf P e, flatT P e, bytesT P e with
      | some sz, some z, some f, some by_ => if Nat.beq z.length sz && okL f z then
          some (uAct [] [] fun b => (slcTo n.toNat k.toNat (k.toNat * sz) b, [], [⟨zcells z k.toNat, true, sz, f⟩]), [(mkB by_ n k, true)]) else none
      | _, _, _, _ => none
    | _, _, _ => none
  | .slice t x lo hi none => match P.underlying t, ρ x, pv.optv ρ lo, pv.optv ρ hi with
    | some (.slice e), some (.slice (some ⟨b, off, some sz⟩) len cap), some l, some u => match szOf P e, hget h b with
      | some k, some o => if (!o.grow) || Nat.beq o.esz k then some (uAct [b] [] fun _ => (.slice (some (aadd ⟨b, off, some sz⟩ (uLow l * k))) (uHigh len u - uLow l) (cap - uLow l), [], []),
          [(decide (abounds len cap l u none = some (uLow l, uHigh len u, cap)), true)]) else none
      | _, _ => none
    | some (.slice e), some (.slice (some ⟨b, off, none⟩) len cap), some l, some u => match szOf P e with
      | some k => some (uAct [] [] fun _ => (.slice (some (if cap = uLow l then ⟨b, off, none⟩ else aadd ⟨b, off, none⟩ (uLow l * k))) (uHigh len u - uLow l) (cap - uLow l), [], []),
          [(decide (abounds len cap l u none = some (uLow l, uHigh len u, cap)), true)])
      | _ => none
    | _, _, _, _ => none
  | .call ⟨.builtin .append, ⟨[x, y]⟩, ⟨[t1, t2]⟩⟩ => match P.underlying t1, P.underlying t2, ρ x, ρ y with
    | some (.slice e), some d2, some (.slice (some ⟨i, off, some sz⟩) len cap), some v => match szOf P e, bytesT P e, flatT P e, zeroOf P e, srcN v, hget h i with
      | some k, some by_, some fl, some z, some n, some o => match uSrc M h k n v with
        | some (us, fs, c) =>
          if srcT d2 && Nat.blt 0 k && Nat.blt 0 by_ && Nat.beq z.length k && okL fl z && o.grow then
            match gather h ((srcFp v).filter (· ≠ i)) with
            | some _ => some (uAct ((srcFp v).filter (· ≠ i)) [i] fun _ => (.slice (some ⟨i, 0, some ((len + n) * k)⟩) (len + n) (len + n), [{ o with cells := o.cells.take (len * k) ++ us }], []),
                [(Nat.beq off 0 && (Nat.beq o.esz k && (decide (cap = len) && (decide (sz = len * k) && (decide (o.cells.length = sz) && (room (len + n) by_ && (okC o.flat us fs && c)))))), true)])
            | none => none
          else none
        | none => none
      | _, _, _, _, _, _ => none
    | _, _, _, _ => none
  | .call ⟨.builtin .copy, ⟨[x, y]⟩, ⟨[t1, t2]⟩⟩ => match P.underlying t1, ρ x, ρ y with
    | some (.slice e), some (.slice (some ⟨i, off, some sz⟩) dl _), some v => match szOf P e, srcN v, hget h i with
      | some k, some ns, some o => match uSrc M h k (Nat.min ns dl) v with
        | some (us, fs, c) => match gather h ((srcFp v).filter (· ≠ i)) with
          | some _ => some (uAct ((srcFp v).filter (· ≠ i)) [i] fun _ => (.int .i64 (Nat.min ns dl : Nat), [{ o with cells := wr o.cells off us }], []),
              [(decide (o.cells.length = sz) && (decide (off + Nat.min ns dl * k ≤ sz) && (okC o.flat us fs && c)), true)])
          | none => none
        | none => none
      | _, _, _ => none
    | _, _, _ => none
  | .convert s d x => match P.underlying s, P.underlying d, ρ x with
    | some (.slice e), some .string, some (.slice (some a) n cp) => match P.underlying e, uSrc M h 1 n (.slice (some a) n cp), gather h (srcFp (.slice (some a) n cp)) with
      | some (.int .u8), some (us, _, c), some _ => some (uAct (srcFp (.slice (some a) n cp)) [] fun _ => (.string ⟨((us.map vint).map fun n => UInt8.ofNat n.toNat).toArray⟩, [], []), [(us.all (isI .u8) && c, true)])
      | _, _, _ => none
    | _, _, _ => none
  | _ => none

theorem held_one_iff {b c : Bool} : Held [(b, c)] ↔ b = c := ⟨fun h => h _ (List.Mem.head _), held_one⟩

theorem inB_iff {k : Int} {len : Nat} : inB k len = true ↔ 0 ≤ k ∧ k < (len : Int) := by simp [inB]

theorem gather_nil (h : AHeap) : gather h [] = some [] := rfl
theorem gather_one' {h : AHeap} {i : Nat} {o : AObj} (ho : hget h i = some o) : gather h [i] = some [o] := by simp [gather, ho]

theorem byteInts_all : ∀ {us : List Value}, us.all (isI .u8) = true → byteInts us = some (us.map vint) := by
  intro us
  induction us with
  | nil => intro _; rfl
  | cons u us ih =>
    intro h
    simp only [List.all_cons, Bool.and_eq_true] at h
    rw [isI_eq h.1]
    simp only [byteInts, ih h.2, List.map_cons, vint]

theorem olook_of_gather {h : AHeap} : ∀ {fp : List Nat} {rs : List AObj}, gather h fp = some rs → ∀ j ∈ fp, olook fp rs j = hget h j := by
  intro fp
  induction fp with
  | nil => intro rs _ j hj; cases hj
  | cons i r ih =>
    intro rs hg j hj
    simp only [gather] at hg
    split at hg
    · rename_i o os h1 h2
      cases hg
      simp only [olook]
      by_cases hij : i = j
      · subst hij; simp [h1]
      · rw [if_neg hij]
        rcases List.mem_cons.1 hj with h3 | h3
        · exact absurd h3.symm hij
        · exact ih h2 j h3
    · cases hg

theorem look_filter {h : AHeap} {fp : List Nat} {rs : List AObj} {i : Nat} {o : AObj} (ho : hget h i = some o) (hg : gather h (fp.filter (· ≠ i)) = some rs) : ∀ j ∈ fp, (if j = i then some o else olook (fp.filter (· ≠ i)) rs j) = hget h j := by
  intro j hj
  by_cases hij : j = i
  · subst hij; simp [ho]
  · rw [if_neg hij]
    exact olook_of_gather hg j (by simp [hj, hij])

theorem ovStd_ok (P : Program) (M : Mem) : OvOk P M (ovStd P M) := by
  intro K cl h ρ op act p hov hp
  unfold ovStd at hov
  split at hov
  · -- indexAddr
    rename_i t x i
    split at hov
    · rename_i e a len cp kk k hu hx hi
      split at hov
      · rename_i n hn
        cases hov
        rw [held_one_iff, inB_iff] at hp
        refine ⟨pureAct (.pointer (some (aadd a (k.toNat * n)))), ?_, uAct_same rfl rfl (gather_nil h) (gather_nil h) fun b => rfl⟩
        simp only [opAct, pv, hu, hx, hi, hn, hp, and_self, if_true]
      · cases hov
    · rename_i len e a kk k hu hx hi
      split at hov
      · rename_i n hn
        cases hov
        rw [held_one_iff, inB_iff] at hp
        refine ⟨pureAct (.pointer (some (aadd a (k.toNat * n)))), ?_, uAct_same rfl rfl (gather_nil h) (gather_nil h) fun b => rfl⟩
        simp only [opAct, pv, hu, hx, hi, hn, hp, and_self, if_true]
      · cases hov
    · cases hov
  · -- load
    rename_i t x
    split at hov
    · rename_i k b off sz hu hx
      split at hov
      · rename_i o ho
        cases hov
        rw [held_one_iff] at hp
        simp only [ldB, Bool.and_eq_true, decide_eq_true_eq] at hp
        refine ⟨loadAct P M t ⟨b, off, some sz⟩, by simp only [opAct, hx], uAct_same rfl rfl (gather_one' ho) (gather_nil h) fun _ => ?_⟩
        simp only [loadAct, oval, hp.1, if_true, aggT, hu, Option.map_some, atC_some hp.2]
      · cases hov
    · rename_i k b off hu hx
      cases hov
      rw [held_one_iff] at hp
      refine ⟨loadAct P M t ⟨b, off, none⟩, by simp only [opAct, hx], uAct_same rfl rfl (gather_nil h) (gather_nil h) fun _ => ?_⟩
      have : M b off = some (.int k (vint ((M b off).getD undef))) := by
        have e := isI_eq hp
        cases hm : M b off with
        | none => rw [roB, hm, Option.getD_none, isI_undef] at hp; cases hp
        | some v => rw [hm] at e; simp only [Option.getD_some] at e ⊢; exact congrArg some e
      simp only [loadAct, rval, aggT, hu, Option.map_some]
      rw [this]
      rfl
    · cases hov
  · -- store
    rename_i t x y
    split at hov
    · rename_i b off sz v hx hy
      split at hov
      · rename_i n o hn ho
        split at hov
        · rename_i hc
          cases hov
          rw [held_one_iff] at hp
          simp only [stB, Bool.and_eq_true, decide_eq_true_eq] at hp hc
          have hcl := Nat.eq_of_beq_eq_true hc.1
          refine ⟨_, by simp only [opAct, hx, hy, storeAct, hn, hcl, if_true]; rfl, ?_⟩
          refine uAct_same rfl rfl (gather_nil h) (gather_one' ho) fun _ => ?_
          simp only [ostores, hp.1, hcl, hp.2, hc.2, and_self, if_true]
        · cases hov
      · cases hov
    · cases hov
  · -- makeSlice
    rename_i t x y
    split at hov
    · rename_i e k1 n k2 k hu hx hy
      split at hov
      · rename_i sz z f by_ h1 h2 h3 h4
        split at hov
        · rename_i hc
          cases hov
          rw [held_one_iff] at hp
          simp only [mkB, Bool.and_eq_true, decide_eq_true_eq] at hp hc
          have hcl := Nat.eq_of_beq_eq_true hc.1
          refine ⟨newAct ⟨zcells z k.toNat, true, sz, f⟩ (slcTo n.toNat k.toNat (k.toNat * sz)), ?_, uAct_same rfl rfl (gather_nil h) (gather_nil h) fun _ => rfl⟩
          simp only [opAct, hx, hy, makeAct, hu, h1, h2, h3, h4, hp.1.1.1, hp.1.1.2, hp.1.2, hp.2, hcl, hc.2, and_self, if_true]
        · cases hov
      · cases hov
    · cases hov
  · -- slice
    rename_i t x lo hi
    split at hov
    · rename_i e b off sz len cap l u hu hx hl hh
      split at hov
      · rename_i k o hk ho
        split at hov
        · rename_i hc
          cases hov
          rw [held_one_iff, decide_eq_true_eq] at hp
          refine ⟨slcSlc k ⟨b, off, some sz⟩ (uLow l, uHigh len u, cap), ?_, uAct_same rfl rfl (gather_one' ho) (gather_nil h) fun _ => ?_⟩
          · simp only [opAct, hx, hl, hh, sliceAct, hu, hk]
            simp only [show pv.optv ρ none = some none from rfl, hp]
          · have : o.grow = true → o.esz = k := fun hg => by
              simp only [hg, Bool.not_true, Bool.false_or] at hc
              exact Nat.eq_of_beq_eq_true hc
            simp only [slcSlc]
            rw [if_pos this]
        · cases hov
      · cases hov
    · rename_i e b off len cap l u hu hx hl hh
      split at hov
      · rename_i k hk
        cases hov
        rw [held_one_iff, decide_eq_true_eq] at hp
        refine ⟨slcSlc k ⟨b, off, none⟩ (uLow l, uHigh len u, cap), ?_, uAct_same rfl rfl (gather_nil h) (gather_nil h) fun _ => rfl⟩
        simp only [opAct, hx, hl, hh, sliceAct, hu, hk]
        simp only [show pv.optv ρ none = some none from rfl, hp]
      · cases hov
    · cases hov
  · -- append
    rename_i x y t1 t2
    split at hov
    · rename_i e d2 i off sz len cap v hu1 hu2 hx hy
      split at hov
      · rename_i k by_ fl z n o hk hby hfl hz hn ho
        split at hov
        · rename_i us fs c hsrc
          split at hov
          · rename_i hc
            split at hov
            · rename_i rs hrs
              cases hov
              rw [held_one_iff] at hp
              simp only [Bool.and_eq_true, decide_eq_true_eq] at hp hc
              obtain ⟨p1, p2, p3, p4, p5, p6, p7, p8⟩ := hp
              obtain ⟨⟨⟨⟨⟨c1, c2⟩, c3⟩, c4⟩, c5⟩, c6⟩ := hc
              have p1 := Nat.eq_of_beq_eq_true p1
              have p2 := Nat.eq_of_beq_eq_true p2
              have c2 : 0 < k := by simpa [Nat.blt_eq] using c2
              have c3 : 0 < by_ := by simpa [Nat.blt_eq] using c3
              have c4 := Nat.eq_of_beq_eq_true c4
              have hs := uSrc_eq hsrc p8 (look := fun j => if j = i then some o else olook ((srcFp v).filter (· ≠ i)) rs j) (look_filter ho hrs)
              by_cases hle : len + n ≤ cap
              · have hn0 : n = 0 := by omega
                refine ⟨_, by simp only [opAct, hx, hy, appendAct, hu1, hu2, hk, hby, hfl, hz, hn, c1, c2, c3, c4, c5, and_self, if_true, hle]; rfl, ?_⟩
                refine uAct_same rfl rfl hrs (gather_one' ho) fun _ => ?_
                have hus : us.length = n * k := by
                  have hss := hsrc
                  unfold uSrc at hss
                  subst hn0
                  simp only [Nat.zero_mul, List.take_zero, List.range_zero, List.map_nil] at hss ⊢
                  split at hss
                  · cases hss; rfl
                  · split at hss
                    · cases hss; rfl
                    · cases hss
                  · cases hss; rfl
                  · cases hss; simp [strCells]
                  · cases hss
                have hus0 : us = [] := by subst hn0; simpa using hus
                have hbnd : off + (len + n) * k ≤ sz := by subst hn0; rw [p1, p4]; simp
                simp only [hs]
                rw [if_pos ⟨p7, p5, hbnd⟩]
                have htk : o.cells.take (len * k) = o.cells := List.take_of_length_le (by omega)
                subst hus0 hn0 p1
                simp only [wr, List.append_nil, htk, Nat.add_zero, p3, p4]
              · refine ⟨_, by simp only [opAct, hx, hy, appendAct, hu1, hu2, hk, hby, hfl, hz, hn, c1, c2, c3, c4, c5, and_self, if_true, hle, if_false, p6]; rfl, ?_⟩
                refine uAct_same rfl rfl hrs (gather_one' ho) fun _ => ?_
                have hbnd : off + len * k ≤ sz := by rw [p1, p4]; simp
                have hn1 : 0 < n := by omega
                have hlt : sz < (len + n) * k := by rw [p4, Nat.add_mul]; have := Nat.mul_pos hn1 c2; omega
                simp only [hs]
                rw [if_pos ⟨p7, p5, hbnd⟩, if_pos c6, if_pos ⟨p1, p2, hlt⟩]
            · cases hov
          · cases hov
        · cases hov
      · cases hov
    · cases hov
  · -- copy
    rename_i x y t1 t2
    split at hov
    · rename_i e i off sz dl cp v hu hx hy
      split at hov
      · rename_i k ns o hk hns ho
        split at hov
        · rename_i us fs c hsrc
          split at hov
          · rename_i rs hrs
            cases hov
            rw [held_one_iff] at hp
            simp only [Bool.and_eq_true, decide_eq_true_eq] at hp
            obtain ⟨p1, p2, p3, p4⟩ := hp
            have hs := uSrc_eq hsrc p4 (look := fun j => if j = i then some o else olook ((srcFp v).filter (· ≠ i)) rs j) (look_filter ho hrs)
            refine ⟨_, by simp only [opAct, hx, hy, copyAct, hu, hk, hns]; rfl, ?_⟩
            refine uAct_same rfl rfl hrs (gather_one' ho) fun _ => ?_
            simp only [hs]
            rw [if_pos ⟨p3, p1, p2⟩]
          · cases hov
        · cases hov
      · cases hov
    · cases hov
  · -- convert
    rename_i s d x
    split at hov
    · rename_i e a n cp hs hd hx
      split at hov
      · rename_i us fs c rs he hsrc hrs
        cases hov
        rw [held_one_iff, Bool.and_eq_true] at hp
        have h1 := uSrc_eq hsrc hp.2 (look := olook (srcFp (.slice (some a) n cp)) rs) (olook_of_gather hrs)
        refine ⟨_, by simp only [opAct, hx, strAct, hs, hd, he, srcN]; rfl, ?_⟩
        refine uAct_same rfl rfl hrs (gather_nil h) fun _ => ?_
        simp only [h1, byteInts_all hp.1]
      · cases hov
    · cases hov
  · cases hov

end Go.Ab

namespace Go.Ab

def posN (t : Nat) : List Nat → Nat → Option Nat
  | [], _ => none
  | x :: r, k => if Nat.beq x t then some k else posN t r (k + 1)

/-- N numbered values: those named, and all others whatever they are. -/
def mkT (N : Nat) (live : List Nat) (vals : List Value) (z : Nat → Value) : List Value :=
  (List.range N).map fun t => match posN t live 0 with
    | some k => vals.getD k undef
    | none => z t

def lookT (ts : List Value) (live : List Nat) : List Value := live.map fun t => ts.getD t undef

theorem posN_get : ∀ {live : List Nat} {t k j : Nat}, posN t live k = some j → k ≤ j ∧ live[j - k]? = some t := by
  intro live
  induction live with
  | nil => intro t k j h; cases h
  | cons x r ih =>
    intro t k j h
    simp only [posN] at h
    split at h
    · rename_i hx
      cases h
      exact ⟨Nat.le_refl _, by simp [Nat.eq_of_beq_eq_true hx]⟩
    · obtain ⟨h1, h2⟩ := ih h
      refine ⟨by omega, ?_⟩
      rw [show j - k = (j - (k + 1)) + 1 by omega]
      simpa using h2

theorem mkT_look {ts : List Value} {N : Nat} (hN : ts.length = N) (live : List Nat) : ts = mkT N live (lookT ts live) (fun t => ts.getD t undef) := by
  apply List.ext_getElem (by simp [mkT, hN])
  intro i h1 h2
  simp only [mkT, List.getElem_map, List.getElem_range]
  cases hp : posN i live 0 with
  | none => simp [List.getD_eq_getElem?_getD, h1]
  | some k =>
    obtain ⟨_, h3⟩ := posN_get hp
    simp only [Nat.sub_zero] at h3
    simp only [lookT, List.getD_eq_getElem?_getD, List.getElem?_map, h3, Option.map_some, Option.getD_some]
    rw [List.getElem?_eq_getElem h1]
    rfl

/-- What is left in the values named, in the memory, and how many values there are. -/
def viewU (live : List Nat) (r : Option (AExit × ASt × List Bool × Pins)) : Option (AExit × List Value × AHeap × Nat × Pins) :=
  match r with
  | some (e, s, _, p) => some (e, lookT s.tmps live, s.heap, s.tmps.length, p)
  | none => none

section
variable {P : Program} {M : Mem} {ov : Ov} {uns : List Nat} {lp : Hooks} {l : List Sum} {sym : List Nat}

theorem big_view (hov : OvOk P M ov) (hl : ∀ s ∈ l, s.SoundC P M) (hmix : P.follows .mixedOrders = true) {fuel : Nat} {c : Code} {s : ASt} {orc : List Bool} (hlp : HooksOk P M lp c) {live : List Nat} {e : AExit} {V : List Value} {H : AHeap} {N : Nat} {p : Pins}
    (h : viewU live (evU P M ov uns lp l sym fuel c s orc) = some (e, V, H, N, p)) (hp : Held p) : ∃ z, Big P M c s e ⟨mkT N live V z, H⟩ := by
  cases hev : evU P M ov uns lp l sym fuel c s orc with
  | none => rw [hev] at h; cases h
  | some x =>
    obtain ⟨e1, s1, o1, p1⟩ := x
    rw [hev] at h
    simp only [viewU, Option.some.injEq, Prod.mk.injEq] at h
    obtain ⟨rfl, rfl, rfl, rfl, rfl⟩ := h
    refine ⟨fun t => s1.tmps.getD t undef, ?_⟩
    rw [← mkT_look rfl live]
    exact (evU_big hov hl hmix fuel c hlp hev hp).1
end

theorem loop_big {P : Program} {M : Mem} {c : Code} {N : Nat} {live live' : List Nat} {V : Nat → List Value} {H : Nat → AHeap} {n : Nat} {e : AExit} {V' : List Value} {H' : AHeap} (he : e ≠ .normal)
    (step : ∀ i, i < n → ∀ z, ∃ z', Big P M c ⟨mkT N live (V i) z, H i⟩ .normal ⟨mkT N live (V (i + 1)) z', H (i + 1)⟩)
    (last : ∀ z, ∃ z', Big P M c ⟨mkT N live (V n) z, H n⟩ e ⟨mkT N live' V' z', H'⟩) (z : Nat → Value) : ∃ z', Big P M (.loop c) ⟨mkT N live (V 0) z, H 0⟩ e ⟨mkT N live' V' z', H'⟩ := by
  classical
  let zs : Nat → Nat → Value := fun i => Nat.rec z (fun i zi => if h : i < n then Classical.choose (step i h zi) else zi) i
  obtain ⟨z', hz⟩ := last (zs n)
  refine ⟨z', Big.loop he (fun i => ⟨mkT N live (V i) (zs i), H i⟩) n (fun i hi => ?_) hz⟩
  have : zs (i + 1) = Classical.choose (step i hi (zs i)) := dif_pos hi
  rw [this]
  exact Classical.choose_spec (step i hi (zs i))

/-- Behind a block that is left by its own exit. -/
def outOf (id : Nat) (e : AExit) : AExit := match e with
  | .exit i => if i = id then .normal else .exit i
  | e => e

noncomputable def mkHook (P : Program) (M : Mem) (id : Nat) (c : Code) (N : Nat) (live : List Nat) (f : List Value → AHeap → Option (AExit × List Value × AHeap × Pins)) (live0 : List Nat) : ASt → Option (AExit × ASt × Pins) := fun s =>
  if Nat.beq s.tmps.length N then match f (lookT s.tmps live0) s.heap with
    | some (e, V, H, p) => some (e, ⟨mkT N live V (@Classical.epsilon (Nat → Value) ⟨fun _ => undef⟩ fun z => Big P M (.block id c) s e ⟨mkT N live V z, H⟩), H⟩, p)
    | none => none
  else none

theorem mkHook_ok {P : Program} {M : Mem} {id : Nat} {c : Code} {N : Nat} {live live0 : List Nat} {f : List Value → AHeap → Option (AExit × List Value × AHeap × Pins)}
    (h : ∀ vs H0 e V H p z, f vs H0 = some (e, V, H, p) → Held p → ∃ z', Big P M (.block id c) ⟨mkT N live0 vs z, H0⟩ e ⟨mkT N live V z', H⟩) :
    ∀ s e s' p, mkHook P M id c N live f live0 s = some (e, s', p) → Held p → Big P M (.block id c) s e s' := by
  intro s e s' p hs hp
  unfold mkHook at hs
  split at hs
  · rename_i hN
    cases hf : f (lookT s.tmps live0) s.heap with
    | none => rw [hf] at hs; cases hs
    | some x =>
      obtain ⟨e1, V, H, p1⟩ := x
      rw [hf] at hs
      cases hs
      obtain ⟨z', hz⟩ := h _ _ _ _ _ _ (fun t => s.tmps.getD t undef) hf hp
      rw [← mkT_look (Nat.eq_of_beq_eq_true hN) live0] at hz
      exact Classical.epsilon_spec (p := fun z => Big P M (.block id c) s e ⟨mkT N live V z, H⟩) ⟨z', hz⟩
  · cases hs

theorem block_big {P : Program} {M : Mem} {id : Nat} {c : Code} {s s' : ASt} {e : AExit} (h : Big P M c s e s') : Big P M (.block id c) s (outOf id e) s' := by
  cases e <;> exact Big.block h

/-- The rounds' number. -/
def ctr : Nat → Int
  | 0 => 0
  | i + 1 => IntKind.wrap .i64 (ctr i + 1)

theorem ctr_eq : ∀ {i : Nat}, i ≤ 9223372036854775807 → ctr i = i := by
  intro i
  induction i with
  | zero => intro _; rfl
  | succ i ih =>
    intro h
    rw [ctr, ih (by omega), wrap_i64 (by omega) (by omega)]
    omega

/-- The body of the loop that is the first block with this number. -/
def loopOf (id : Nat) (c : Code) : Code :=
  match occ id c with
  | [.loop b] => b
  | _ => .skip

theorem hooks_one {P : Program} {M : Mem} {id : Nat} {body b : Code} {f : ASt → Option (AExit × ASt × Pins)} (ho : occ id body = [.loop b]) (h : ∀ s e s' p, f s = some (e, s', p) → Held p → Big P M (.block id (.loop b)) s e s') : HooksOk P M [(id, f)] body := by
  refine hooksOk_occ body fun id' g hg c' hc => ?_
  simp only [findH] at hg
  split at hg
  · rename_i hi
    cases hg
    have := Nat.eq_of_beq_eq_true hi
    subst this
    rw [ho] at hc
    simp at hc
    subst hc
    exact h
  · cases hg

end Go.Ab

namespace Go.Ab

def cut (o : AObj) (f n : Nat) : List Value := (o.cells.drop f).take n

/-- A slice of bytes lies right in this object. -/
def sliceB (o : AObj) (s f n : Nat) : Bool := decide (o.cells.length = s) && (decide (f + n ≤ s) && (decide (n ≤ 4611686018427387904) && (cut o f n).all (isI .u8)))

theorem sliceB_iff {o : AObj} {s f n : Nat} : sliceB o s f n = true ↔ o.cells.length = s ∧ f + n ≤ s ∧ n ≤ 4611686018427387904 ∧ (cut o f n).all (isI .u8) = true := by simp [sliceB]

theorem cut_length {o : AObj} {f n : Nat} (h : f + n ≤ o.cells.length) : (cut o f n).length = n := by simp [cut]; omega

theorem atC_cut {o : AObj} {f n i : Nat} (hi : i < n) : atC (cut o f n) i = atC o.cells (f + i) := by
  simp [atC, cut, List.getElem?_take, hi]

theorem all_at {k : IntKind} {l : List Value} (h : l.all (isI k) = true) {i : Nat} (hi : i < l.length) : isI k (atC l i) = true := by
  have : atC l i = l[i] := by simp [atC, hi]
  rw [this]
  exact List.all_eq_true.1 h _ (List.getElem_mem hi)

theorem at_all {k : IntKind} {l : List Value} (h : ∀ i, i < l.length → isI k (atC l i) = true) : l.all (isI k) = true := by
  rw [List.all_eq_true]
  intro v hv
  obtain ⟨i, hi, rfl⟩ := List.getElem_of_mem hv
  have := h i hi
  simpa [atC, hi] using this

theorem sliceB_at {o : AObj} {s f n : Nat} (h : sliceB o s f n = true) {i : Nat} (hi : i < n) : ldB .u8 o s (f + i) = true := by
  obtain ⟨h1, h2, _, h4⟩ := sliceB_iff.1 h
  have := all_at h4 (i := i) (by rw [cut_length (by omega)]; exact hi)
  rw [atC_cut hi] at this
  simp [ldB, h1, this]

theorem eqB_iff {k : IntKind} : ∀ {a b : List Value}, a.all (isI k) = true → b.all (isI k) = true → a.length = b.length → (eqB a b = true ↔ ∀ i, i < a.length → vint (atC a i) = vint (atC b i)) := by
  intro a
  induction a with
  | nil => intro b _ _ h; cases b with
    | nil => simp [eqB]
    | cons => simp at h
  | cons x a ih => intro b h1 h2 h; cases b with
    | nil => simp at h
    | cons y b =>
      simp only [List.all_cons, Bool.and_eq_true] at h1 h2
      rw [isI_eq h1.1, isI_eq h2.1]
      simp only [eqB, Bool.and_eq_true, decide_eq_true_eq, List.length_cons]
      rw [ih h1.2 h2.2 (by simpa using h)]
      constructor
      · rintro ⟨h3, h4⟩ i hi
        cases i with
        | zero => simpa [atC, vint] using h3
        | succ i => have := h4 i (by omega); simpa [atC] using this
      · intro h3
        refine ⟨by have := h3 0 (by omega); simpa [atC, vint] using this, fun i hi => ?_⟩
        have := h3 (i + 1) (by omega)
        simpa [atC] using this

theorem first_diff {x y : Nat → Int} : ∀ {n : Nat}, (¬ ∀ i, i < n → x i = y i) → ∃ m, m < n ∧ (∀ i, i < m → x i = y i) ∧ x m ≠ y m := by
  intro n
  induction n with
  | zero => intro h; exact absurd (fun i hi => by omega) h
  | succ n ih =>
    intro h
    by_cases h1 : ∀ i, i < n → x i = y i
    · refine ⟨n, by omega, h1, fun h2 => h fun i hi => ?_⟩
      rcases Nat.lt_succ_iff_lt_or_eq.1 hi with h3 | h3
      · exact h1 i h3
      · rw [h3]; exact h2
    · obtain ⟨m, h2, h3, h4⟩ := ih h1
      exact ⟨m, by omega, h3, h4⟩

theorem ctr_lt {i n : Nat} (h : i < n) (hn : n ≤ 4611686018427387904) : ctr i < (n : Int) := by rw [ctr_eq (by omega)]; omega
theorem ctr_nat {i : Nat} (h : i ≤ 4611686018427387904) : (ctr i).toNat = i := by rw [ctr_eq (by omega)]; simp
theorem inB_ctr {i n : Nat} (h : i < n) (hn : n ≤ 4611686018427387904) : inB (ctr i) n = true := by rw [inB_iff, ctr_eq (by omega)]; omega

/-- A number counted on. -/
def cnt64 (k : Int) : Nat → Int
  | 0 => k
  | i + 1 => IntKind.wrap .i64 (cnt64 k i + 1)

/-- Bytes counted up, laid one behind the other. -/
def markC (cs : List Value) (f : Nat) (k : Int) : Nat → List Value
  | 0 => cs
  | i + 1 => wr (markC cs f k i) (f + (ctr i).toNat * 1) [.int .u8 (IntKind.wrap .u8 (cnt64 k i))]

theorem atC_wr {l : List Value} {i j : Nat} {v : Value} (hi : i < l.length) : atC (wr l i [v]) j = if j = i then v else atC l j := by
  simp only [wr, atC, List.getElem?_set]
  by_cases h : i = j
  · subst h; simp [hi]
  · rw [if_neg h, if_neg (fun e => h e.symm)]

theorem markC_length {cs : List Value} {f : Nat} {k : Int} : ∀ i, (markC cs f k i).length = cs.length := by
  intro i
  induction i with
  | zero => rfl
  | succ i ih => rw [markC, wr_length, ih]

theorem markC_at {cs : List Value} {f : Nat} {k : Int} : ∀ {i : Nat}, f + i ≤ cs.length → i ≤ 4611686018427387904 → ∀ j, atC (markC cs f k i) j = if f ≤ j ∧ j < f + i then .int .u8 (IntKind.wrap .u8 (cnt64 k (j - f))) else atC cs j := by
  intro i
  induction i with
  | zero => intro _ _ j; rw [markC, if_neg (by omega)]
  | succ i ih =>
    intro h h2 j
    rw [markC, ctr_nat (by omega), Nat.mul_one, atC_wr (by rw [markC_length]; omega), ih (by omega) (by omega)]
    by_cases hj : j = f + i
    · subst hj
      rw [if_pos rfl, if_pos (by omega)]
      simp
    · rw [if_neg hj]
      by_cases h3 : f ≤ j ∧ j < f + i
      · rw [if_pos h3, if_pos (by omega)]
      · rw [if_neg h3, if_neg (by omega)]

/-- These bytes count up from k. -/
def heldC (o : AObj) (f n : Nat) (k : Int) : Bool := (List.range n).all fun i => decide (vint (atC o.cells (f + i)) = IntKind.wrap .u8 (cnt64 k i))

theorem heldC_at {o : AObj} {f n : Nat} {k : Int} (h : heldC o f n k = true) {i : Nat} (hi : i < n) : vint (atC o.cells (f + i)) = IntKind.wrap .u8 (cnt64 k i) := by
  have := List.all_eq_true.1 h i (List.mem_range.2 hi)
  simpa using this

theorem held_mark {o : AObj} {f n : Nat} {k : Int} (h : f + n ≤ o.cells.length) (hn : n ≤ 4611686018427387904) : heldC { o with cells := markC o.cells f k n } f n k = true := by
  unfold heldC
  rw [List.all_eq_true]
  intro i hi
  have hi := List.mem_range.1 hi
  simp only [decide_eq_true_eq]
  rw [markC_at h hn, if_pos (by omega)]
  simp [vint]

theorem sliceB_mark {o : AObj} {s f n : Nat} {k : Int} (h : sliceB o s f n = true) : sliceB { o with cells := markC o.cells f k n } s f n = true := by
  obtain ⟨h1, h2, h3, h4⟩ := sliceB_iff.1 h
  refine sliceB_iff.2 ⟨by simp only; rw [markC_length]; exact h1, h2, h3, at_all fun i hi => ?_⟩
  have hl : (cut { o with cells := markC o.cells f k n } f n).length = n := cut_length (by simp only; rw [markC_length]; omega)
  rw [hl] at hi
  rw [atC_cut hi]
  simp only
  rw [markC_at (by omega) h3, if_pos (by omega)]
  simp [isI]

end Go.Ab

namespace Go.Ab

/-- In this read-only memory n bytes lie from here on. -/
def RoBytes (M : Mem) (b off n : Nat) (x : Nat → Int) : Prop := (∀ i, IntKind.u8.has (x i)) ∧ ∀ i, i < n → M b (off + i) = some (.int .u8 (x i))

theorem slice_arg {H : Type} {enc : TypeId × Value → H} {P : Program} {W : World} {base : Nat} {t e : TypeId} {v : Value} {d : DataW H} {ps : List MemPlace} (ht : P.underlying t = some (.slice e)) (he : P.underlying e = some (.int .u8)) (hc : P.cellsOf e = 1)
    (hval : Value.okWide P W .any base t v) (hd : DataW.Trod enc P W 0 (fun _ => true) true t v d ps) :
    v = .slice none 0 0 ∨ ∃ b off len cap x, v = .slice (some ⟨b, off, none⟩) len cap ∧ len ≤ cap ∧ cap ≤ 9223372036854775807 ∧ RoBytes (memOf W) b off len x := by
  obtain ⟨fuel, hd⟩ := hd
  have hcell : Cell.okWide P W .any base t v := by
    unfold Value.okWide at hval
    rw [ht] at hval
    exact hval
  have hv : (v = .slice none 0 0) ∨ ∃ a len cap, v = .slice (some a) len cap ∧ a.spot = none ∧ len ≤ cap ∧ (cap : Int) ≤ 9223372036854775807 := by
    simp only [Cell.okWide, ht, Cell.ok] at hcell
    cases v <;> try simp only [ht] at hcell
    case slice o n c =>
      cases o with
      | none =>
        left
        cases n with
        | zero => cases c with
          | zero => rfl
          | succ c => exact absurd hcell id
        | succ n => exact absurd hcell id
      | some a => right; exact ⟨a, n, c, rfl, hcell.2.2.2.1, hcell.1, hcell.2.1⟩
    all_goals exact absurd hcell id
  rcases hv with rfl | ⟨a, len, cap, rfl, hspot, hlc, hcap⟩
  · exact .inl rfl
  right
  rcases ChangeShapes.open_ints ht he hc hd with ⟨h, _⟩ | ⟨a', len', cap', zs, h, _, hl, hm, hlen, _, hcells, hwf⟩
  · simp [Value.cells] at h
  · simp only [Value.cells, List.cons.injEq, Value.slice.injEq, Option.some.injEq, and_true] at h
    obtain ⟨rfl, rfl, rfl⟩ := h
    obtain ⟨b, off, spot⟩ := a
    simp only at hspot
    subst hspot
    simp only [if_true] at hlen
    refine ⟨b, off, len, cap, fun i => zs.getD i 0, rfl, hlc, by omega, fun i => ?_, fun i hi => ?_⟩
    · show IntKind.u8.has (zs.getD i 0)
      rw [List.getD_eq_getElem?_getD]
      by_cases hi : i < zs.length
      · rw [List.getElem?_eq_getElem hi]
        have := hwf _ (List.getElem_mem hi)
        simp only [Lit.wf, Bool.and_eq_true, decide_eq_true_eq] at this
        exact this
      · rw [List.getElem?_eq_none (by omega)]; exact ⟨by decide, by decide⟩
    · have h1 := hcells i (by omega)
      rw [add_lit] at h1
      simp only [memOf, memCells, h1]
      rfl

theorem RoBytes.roB {M : Mem} {b off n : Nat} {x : Nat → Int} (h : RoBytes M b off n x) {i : Nat} (hi : i < n) : roB .u8 M b (off + i) = true ∧ vint ((M b (off + i)).getD undef) = x i := by
  rw [Ab.roB, h.2 i hi]
  exact ⟨by simp [isI], rfl⟩

end Go.Ab

namespace Go.Ab

/-- The byte that a draw reads, and one, or 0. -/
def nC (M : Mem) (u : Option Addr) (n : Nat) (i : Int) : Int :=
  match u with
  | some a => if i < n then IntKind.wrap .u64 (IntKind.wrap .u64 (vint ((M a.block (a.off + i.toNat * 1)).getD undef)) + 1) else 0
  | none => 0
/-- How far the source has been read. -/
def nI (n : Nat) (i : Int) : Int := if i < n then IntKind.wrap .i64 (i + 1) else i
/-- The source's number behind a draw. -/
def nX (x c : Int) : Int := IntKind.wrap .u64 (IntKind.wrap .u64 (IntKind.wrap .u64 (x + c) * 6364136223846793005) + 1442695040888963407)
/-- What is drawn. -/
def nR (x k : Int) : Int := IntKind.wrap .i64 ((x.fdiv (2 ^ 33)).tmod (IntKind.wrap .u64 k))

theorem nX_has (x c : Int) : 0 ≤ nX x c ∧ nX x c < 18446744073709551616 := by
  unfold nX
  rw [wrap_u64 (_ + 1442695040888963407)]
  omega

theorem nR_range {x k : Int} (hx : 0 ≤ x) (h1 : 1 < k) (h2 : k ≤ 4611686018427387904) : 0 ≤ nR x k ∧ nR x k < k := by
  unfold nR
  have hw : IntKind.wrap .u64 k = k := by rw [wrap_u64]; omega
  rw [hw, Int.fdiv_eq_ediv_of_nonneg _ (show (0 : Int) ≤ 2 ^ 33 by decide)]
  have hq : 0 ≤ x / 2 ^ 33 := Int.ediv_nonneg hx (by decide)
  rw [Int.tmod_eq_emod_of_nonneg hq]
  have h3 := Int.emod_nonneg (x / 2 ^ 33) (show k ≠ 0 by omega)
  have h4 := Int.emod_lt_of_pos (x / 2 ^ 33) (show 0 < k by omega)
  rw [wrap_i64 (by omega) (by omega)]
  exact ⟨h3, h4⟩

/-- The source's slice can be read. -/
def nOk (M : Mem) (u : Option Addr) (n : Nat) : Bool :=
  match u with
  | some a => a.spot.isNone && (List.range n).all fun j => roB .u8 M a.block (a.off + j)
  | none => Nat.beq n 0

theorem nOk_ro {M : Mem} {b off n : Nat} {x : Nat → Int} (h : RoBytes M b off n x) : nOk M (some ⟨b, off, none⟩) n = true := by
  simp only [nOk, Option.isNone_none, Bool.true_and, List.all_eq_true]
  intro j hj
  exact (h.roB (List.mem_range.1 hj)).1

theorem nOk_at {M : Mem} {b off n : Nat} (h : nOk M (some ⟨b, off, none⟩) n = true) {i : Int} (h0 : 0 ≤ i) (hi : i < n) : roB .u8 M b (off + i.toNat) = true := by
  simp only [nOk, Option.isNone_none, Bool.true_and, List.all_eq_true] at h
  exact h i.toNat (List.mem_range.2 (by omega))

end Go.Ab

namespace Go.Ab
open Go.ChangeShapes Go.RowKit

/-- The variables' types can be read. -/
def okVars (P : Program) (ns : List String) : Bool := ns.all fun n => match P.globalNamed n with
  | some g => match P.globals[g]? with
    | some gl => P.readableRec gl.type && Nat.blt gl.type P.types.size
    | none => true
  | none => true

/-- The variables read as they did where the old memory is as it was. -/
theorem trodVars_carry {H : Type} {enc : TypeId × Value → H} {P : Program} {W W' : World} (hl : laidOutB P = true) (hb : Below W.heap.size W W') : ∀ (ns : List String) (gs : List (DataW H)) (ps : List MemPlace),
    okVars P ns = true → DataW.TrodVars enc P W (fun _ => true) ns gs ps → DataW.TrodVars enc P W' (fun b => decide (b < W.heap.size)) ns gs ps := by
  intro ns
  induction ns with
  | nil => intro gs ps _ h; cases gs with
    | nil => exact h
    | cons g gs => exact absurd h (by simp [DataW.TrodVars])
  | cons n ns ih => intro gs ps hv h; cases gs with
    | nil => exact absurd h (by simp [DataW.TrodVars])
    | cons d gs =>
      have hlt := h.lt
      obtain ⟨g, t, cs, fuel, p, q, h1, h2, h3, h4, h5, rfl⟩ := h
      simp only [okVars, List.all_cons, Bool.and_eq_true] at hv
      have ht : P.readableRec t = true ∧ t < P.types.size := by
        have := hv.1
        rw [h1] at this
        cases hg : P.globals[g]? with
        | none => rw [hg] at h2; cases h2
        | some gl =>
          rw [hg] at h2
          simp only [Option.map_some, Option.some.injEq] at h2
          subst h2
          simp only [hg, Bool.and_eq_true] at this
          exact ⟨this.1, of_eq_true ((Nat.blt_eq (x := gl.type) (y := P.types.size)) ▸ eq_true this.2)⟩
      have hgs : g < W.heap.size := by
        unfold World.var? at h3
        rw [h1] at h3
        simp only [Option.bind_some] at h3
        cases hh : W.heap[g]? with
        | none => rw [hh] at h3; cases h3
        | some o => exact (Array.getElem?_eq_some_iff.1 hh).1
      have h3' : W'.var? P n = some cs := by
        unfold World.var? at h3 ⊢
        rw [h1] at h3 ⊢
        simp only [Option.bind_some] at h3 ⊢
        rw [hb.block g hgs]
        exact h3
      have hp : ∀ x ∈ p, x.block < W.heap.size := fun x hx => hlt x (by simp [hx])
      obtain ⟨fuel', h4'⟩ := Below.trod (v := .agg cs) hl ht.1 ht.2 ⟨fuel, h4⟩ hb hp
      exact ⟨g, t, cs, fuel', p, q, h1, h2, h3', h4', ih gs q hv.2 h5, rfl⟩

def RoOk (M : Mem) (w : World) : Prop := (∀ b off v, M b off = some v → w.cell? ⟨b, off, none⟩ = some v ∧ ground v = true ∧ v.oneCell' = true) ∧ ∀ b x, M.big b = some x → w.heap[b]? = some x

theorem hrel_ro {M : Mem} {w : World} (h : RoOk M w) (m : Pl) : HRel M m [] w :=
  ⟨fun i j oi oj hi => by simp [hget_nil] at hi, fun i o hi => by simp [hget_nil] at hi, fun b off v hv =>
    let ⟨h1, h2, h3⟩ := h.1 b off v hv; ⟨h1, h2, h3, fun i o hi => by simp [hget_nil] at hi⟩, fun b x hx => ⟨h.2 b x hx, fun i o hi => by simp [hget_nil] at hi⟩⟩

theorem ro_memOf (w : World) : RoOk (memOf w) w := by
  refine ⟨fun b off v hv => ?_, fun b x hx => by cases hx⟩
  replace hv : memCells w b off = some v := hv
  unfold memCells at hv
  split at hv
  · rename_i u hu
    split at hv
    · rename_i hc
      cases hv
      simp only [Bool.and_eq_true] at hc
      exact ⟨hu, hc.1, hc.2⟩
    · cases hv
  · cases hv

/-- A table of cells, and else what the world holds. -/
def memL (tbl : Mem) (w : World) : Mem := ⟨fun b off => match tbl b off with
  | some v => some v
  | none => memOf w b off, tbl.big⟩

theorem ro_memL {tbl : Mem} {w : World} (h : RoOk tbl w) : RoOk (memL tbl w) w := by
  refine ⟨fun b off v hv => ?_, h.2⟩
  simp only [memL] at hv
  cases ht : tbl b off with
  | some u => rw [ht] at hv; cases hv; exact h.1 b off v ht
  | none => rw [ht] at hv; exact (ro_memOf w).1 b off v hv

theorem memL_memOf {tbl : Mem} {w : World} (h : RoOk tbl w) {b off : Nat} {v : Value} (hv : memOf w b off = some v) : memL tbl w b off = some v := by
  simp only [memL]
  cases ht : tbl b off with
  | none => exact hv
  | some u =>
    have h1 := (h.1 b off u ht).1
    have h2 := ((ro_memOf w).1 b off v hv).1
    rw [h1] at h2
    exact h2

theorem calls_lawM {P : Program} {M : Mem} {f : FuncId} {w : World} {args : Array Value} {ns : List AObj} {b : Bool} (hM : RoOk M w) (h : ACalls P M f args.toList [] (.bool b) [] ns) (hg : groundL args.toList = true) :
    Calls P f args w fun e w' => e = .returned (.bool b) ∧ Below w.heap.size w w' := by
  refine (h.2 (fun _ => (0, 0)) w args (hrel_ro hM _) (LRel.same hg)).mono fun e w' ⟨v', m', he, htr, hv⟩ => ?_
  rw [hv.bool] at he
  exact ⟨he, below_of_tr htr⟩

theorem liftedL {C : Checked} {f : FuncId} {fn : Func} {tb : TypeId} (own : ownKnob C.prog.godebug = none) (noInit : C.prog.inits.idxOf? f = none) (hfn : C.prog.funcs[f]? = some fn)
    (hres : fn.resultTypes = #[tb]) (htb : C.prog.underlying tb = some .bool) (hts : okTs C.prog fn.params.toList = true) {s : ChangeSpec} (hvs : okVars C.prog s.vars = true) {laid : List (String × DataW Unit)}
    (hs : ∀ (H : Type) (ds gs : List (DataW H)), ds.length = fn.params.size → gs.length = s.vars.length → s.fn H (ds ++ gs) = { results := [.lit (.bool true)], args := ds, vars := gs })
    (run : ∀ (W : World) (base : Nat) (H : Type) (enc : TypeId × Value → H) (args : Array Value) (ds : List (DataW H)) (ps : List MemPlace), laidMetH C.prog laid W → DataW.TrodAll enc C.prog W 0 (fun _ => true) true fn.params.toList args.toList ds ps →
      (∀ (j : Nat) t v, fn.params[j]? = some t → args[j]? = some v → Value.okWide C.prog W .any base t v) → groundL args.toList = true ∧ ∃ M ns, RoOk M W ∧ ACalls C.prog M f args.toList [] (.bool true) [] ns)
    (os : Os) (started : os.Started) {H : Type} (enc : TypeId × Value → H)
    (witness : ∃ (w : World) (tape : Tape) (i : Input), w.os = os ∧ (w.forCall tape i).Shaped C.prog ∧ i.vars = [] ∧ Input.okWide C.prog (w.forCall tape i) .any w.heap.size f i ∧
      ((s.pre enc C.prog fn [] false (w.forCall tape i).memory i.args ∧ laidMetH C.prog laid (w.forCall tape i).memory) ∧ sizedMet enc C.prog fn (OpenSpec.ofChange s) false (w.forCall tape i).memory i.args) ∧ ({} : Assume).holds C.prog (lone (Frame.enter C.prog f i.args .normal) [] (w.forCall tape i))) :
    ReturnsInHanded {} C os f .any (fun w args => (s.pre enc C.prog fn [] false w args ∧ laidMetH C.prog laid w) ∧ sizedMet enc C.prog fn (OpenSpec.ofChange s) false w args) (s.post enc C.prog fn false true false false) := by
  refine returnsInHanded_of_change_and (X := fun w _ => laidMetH C.prog laid w) (fun _ _ _ hh h => laidMetH.of_heap hh h) own started noInit hfn witness ?_
  intro W base args ds gs before hval hW hcnd _ hL _
  have hW' := hW
  obtain ⟨p, q, hA, hV, rfl, hfz, hnd⟩ := hW
  obtain ⟨hg, M, ns, hM, hrun⟩ := run W base H enc args ds p hL hA hval
  simp only [okTs, Bool.and_eq_true] at hts
  have hlen : ∀ (ts : List TypeId) (vs : List Value) (es : List (DataW H)) (ps : List MemPlace), DataW.TrodAll enc C.prog W 0 (fun _ => true) true ts vs es ps → es.length = ts.length := by
    intro ts
    induction ts with
    | nil => intro vs es ps h; cases vs <;> cases es <;> simp_all [DataW.TrodAll]
    | cons t ts ih =>
      intro vs es ps h
      obtain ⟨v, vs', d, ds', p, q, rfl, rfl, rfl, h1, h2⟩ := trodAll_cons h
      simp [ih _ _ _ h2]
  have hvlen : ∀ (nl : List String) (es : List (DataW H)) (ps : List MemPlace), DataW.TrodVars enc C.prog W (fun _ => true) nl es ps → es.length = nl.length := by
    intro nl
    induction nl with
    | nil => intro es ps h; cases es with
      | nil => rfl
      | cons e es => exact absurd h (by simp [DataW.TrodVars])
    | cons n nl ih => intro es ps h; cases es with
      | nil => exact absurd h (by simp [DataW.TrodVars])
      | cons e es =>
        obtain ⟨g, t, cs, fuel, p, q, h1, h2, h3, h4, h5, h6⟩ := h
        simp [ih _ _ h5]
  have hsf := hs H ds gs (by simpa using hlen _ _ _ _ hA) (hvlen _ _ _ hV)
  have hlt : ∀ x ∈ p ++ q, x.block < W.heap.size := fun x hx => hW'.lt x hx
  refine (calls_lawM hM hrun hg).mono fun e W' ⟨he, hb⟩ => ⟨_, he, ds, gs, p ++ q, [], p, q, hW', ?_, ?_, ?_, hb.frame _, fun h => by cases h⟩
  · rw [hres, hsf]
    exact trodAll_cons_mk (shut_bool htb _) trodAll_mk0
  · rw [hsf]
    exact trodAll_carry hts.1 hb _ _ _ _ hts.2 (fun x hx => hlt x (List.mem_append.2 (.inl hx))) hA
  · rw [hsf]
    exact trodVars_carry hts.1 hb _ _ _ hvs hV

end Go.Ab

namespace Go.Ab

mutual
/-- A value whose addresses say nothing any more. -/
def staleV (i0 : Nat) : Value → Value
  | .pointer (some a) => match a.spot with
    | none => .pointer (some a)
    | some _ => .pointer (some ⟨i0, 0, some 0⟩)
  | .slice (some a) n c => match a.spot with
    | none => .slice (some a) n c
    | some _ => .slice (some ⟨i0, 0, some 0⟩) n c
  | .func fn x y => .func fn (staleA i0 x) (staleA i0 y)
  | .iface t v => .iface t (staleV i0 v)
  | .agg cs => .agg (staleA i0 cs)
  | .tuple cs => .tuple (staleA i0 cs)
  | v => v
def staleA (i0 : Nat) : Array Value → Array Value
  | ⟨l⟩ => ⟨staleL i0 l⟩
def staleL (i0 : Nat) : List Value → List Value
  | [] => []
  | v :: r => staleV i0 v :: staleL i0 r
end

mutual
theorem staleV_ground (i0 : Nat) : ∀ (v : Value), ground v = true → staleV i0 v = v
  | .pointer (some a), h => by simp only [ground, Option.isNone_iff_eq_none] at h; simp [staleV, h]
  | .pointer none, _ => rfl
  | .slice (some a) n c, h => by simp only [ground, Option.isNone_iff_eq_none] at h; simp [staleV, h]
  | .slice none _ _, _ => rfl
  | .func fn x y, h => by
    simp only [ground, Bool.and_eq_true] at h
    simp [staleV, staleA_ground i0 x h.1, staleA_ground i0 y h.2]
  | .iface t v, h => by simp [staleV, staleV_ground i0 v (by simpa [ground] using h)]
  | .agg cs, h => by simp [staleV, staleA_ground i0 cs (by simpa [ground] using h)]
  | .tuple cs, h => by simp [staleV, staleA_ground i0 cs (by simpa [ground] using h)]
  | .bool _, _ => rfl
  | .int _ _, _ => rfl
  | .float _ _, _ => rfl
  | .complex _ _ _, _ => rfl
  | .string _, _ => rfl
  | .map _, _ => rfl
  | .chan _, _ => rfl
  | .nilFunc, _ => rfl
  | .nilIface, _ => rfl
theorem staleA_ground (i0 : Nat) : ∀ (x : Array Value), groundA x = true → staleA i0 x = x
  | ⟨l⟩, h => by simp [staleA, staleL_ground i0 l (by simpa [groundA] using h)]
theorem staleL_ground (i0 : Nat) : ∀ (l : List Value), groundL l = true → staleL i0 l = l
  | [], _ => rfl
  | v :: r, h => by
    simp only [groundL, Bool.and_eq_true] at h
    simp [staleL, staleV_ground i0 v h.1, staleL_ground i0 r h.2]
end

theorem staleL_get (i0 : Nat) : ∀ (l : List Value), (staleL i0 l).length = l.length ∧ ∀ (i : Nat) u, (staleL i0 l)[i]? = some u → ∃ v, l[i]? = some v ∧ u = staleV i0 v := by
  intro l
  induction l with
  | nil => exact ⟨rfl, fun i u h => by simp [staleL] at h⟩
  | cons v r ih =>
    refine ⟨by simp [staleL, ih.1], fun i u h => ?_⟩
    cases i with
    | zero => simp [staleL] at h; exact ⟨v, rfl, h.symm⟩
    | succ i => obtain ⟨w, h1, h2⟩ := ih.2 i u (by simpa [staleL] using h); exact ⟨w, by simpa using h1, h2⟩

theorem staleA_get (i0 : Nat) (x : Array Value) : (staleA i0 x).size = x.size ∧ ∀ (i : Nat) u, (staleA i0 x)[i]? = some u → ∃ v, x[i]? = some v ∧ u = staleV i0 v := by
  obtain ⟨l⟩ := x
  obtain ⟨h1, h2⟩ := staleL_get i0 l
  exact ⟨by simpa [staleA] using h1, fun i u h => by
    obtain ⟨v, h3, h4⟩ := h2 i u (by simpa [staleA] using h)
    exact ⟨v, by simpa using h3, h4⟩⟩

theorem VRel.stale {m m' : Pl} {h h' : AHeap} {i0 : Nat} {o0 : AObj} (h0 : hget h' i0 = some o0) (hne : 0 < o0.cells.length) {u v : Value} (hr : VRel m h u v) : VRel m' h' (staleV i0 u) v := by
  have arr : ∀ {x y : Array Value}, x.size = y.size → (∀ (i : Nat) u v, x[i]? = some u → y[i]? = some v → VRel m' h' (staleV i0 u) v) →
      (staleA i0 x).size = y.size ∧ ∀ (i : Nat) u v, (staleA i0 x)[i]? = some u → y[i]? = some v → VRel m' h' u v := fun {x y} hs ih => by
    obtain ⟨h1, h2⟩ := staleA_get i0 x
    refine ⟨h1.trans hs, fun i u v hu hv => ?_⟩
    obtain ⟨w, h3, rfl⟩ := h2 i u hu
    exact ih i w v h3 hv
  induction hr with
  | same hg => rw [staleV_ground i0 _ hg]; exact .same hg
  | ptr ho hle hv => exact .ptr h0 (Nat.zero_le _) fun e => by omega
  | slc ho hle hc hv => exact .slc h0 (Nat.zero_le _) hc fun e => by omega
  | func hx _ hy _ ihx ihy =>
    obtain ⟨a1, a2⟩ := arr hx ihx
    obtain ⟨b1, b2⟩ := arr hy ihy
    exact .func a1 a2 b1 b2
  | iface _ ih => exact .iface ih
  | agg hx _ ih => obtain ⟨a1, a2⟩ := arr hx ih; exact .agg a1 a2
  | tuple hx _ ih => obtain ⟨a1, a2⟩ := arr hx ih; exact .tuple a1 a2

/-- What a piece of a run does, the first k objects alone being kept in sight. -/
structure TrK (k : Nat) (M : Mem) (m : Pl) (h : AHeap) (w : World) (m' : Pl) (h' : AHeap) (w' : World) : Prop where
  rel : HRel M m' h' w'
  ext : ∀ (i : Nat) (o : AObj), i < k → hget h i = some o → ∃ o', hget h' i = some o' ∧ o'.grow = o.grow ∧ o'.esz = o.esz ∧ o'.flat = o.flat ∧ o.cells.length ≤ o'.cells.length ∧
    (o'.cells.length = o.cells.length → m' i = m i)
  os : w'.os = w.os
  tape : w'.tape = w.tape
  output : w'.output = w.output
  size : w.heap.size ≤ w'.heap.size
  frame : ∀ b, b < w.heap.size → (∀ i o, hget h i = some o → (m i).1 ≠ b) → w'.heap[b]? = w.heap[b]?
  own : ∀ i o', hget h' i = some o' → w.heap.size ≤ (m' i).1 ∨ ∃ j o, hget h j = some o ∧ (m' i).1 = (m j).1

theorem Tr.toK {k : Nat} {M : Mem} {m m' : Pl} {h h' : AHeap} {w w' : World} (t : Tr M m h w m' h' w') : TrK k M m h w m' h' w' :=
  ⟨t.rel, fun i o _ ho => t.ext i o ho, t.os, t.tape, t.output, t.size, t.frame, t.own⟩

theorem TrK.trans {k : Nat} {M : Mem} {m m' m'' : Pl} {h h' h'' : AHeap} {w w' w'' : World} (a : TrK k M m h w m' h' w') (b : TrK k M m' h' w' m'' h'' w'') : TrK k M m h w m'' h'' w'' where
  rel := b.rel
  ext := fun i o hi ho => by
    obtain ⟨o', ho', h1, h2, h3, h4, h5⟩ := a.ext i o hi ho
    obtain ⟨o'', ho'', k1, k2, k3, k4, k5⟩ := b.ext i o' hi ho'
    exact ⟨o'', ho'', k1.trans h1, k2.trans h2, k3.trans h3, Nat.le_trans h4 k4, fun e => (k5 (by omega)).trans (h5 (by omega))⟩
  os := b.os.trans a.os
  tape := b.tape.trans a.tape
  output := b.output.trans a.output
  size := Nat.le_trans a.size b.size
  frame := fun k hk hn => by
    rw [b.frame k (Nat.lt_of_lt_of_le hk a.size) fun i o hi e => ?_, a.frame k hk hn]
    rcases a.own i o hi with h1 | ⟨j, oj, hj, h1⟩
    · omega
    · exact hn j oj hj (h1 ▸ e)
  own := fun i o hi => by
    rcases b.own i o hi with h1 | ⟨j, oj, hj, h1⟩
    · exact .inl (Nat.le_trans a.size h1)
    · rcases a.own j oj hj with h2 | ⟨k, ok, hk, h2⟩
      · exact .inl (h1 ▸ h2)
      · exact .inr ⟨k, ok, hk, h1.trans h2⟩

theorem TrK.toTr {k : Nat} {M : Mem} {m m' : Pl} {h h' : AHeap} {w w' : World} (t : TrK k M m h w m' h' w') (hk : h.length ≤ k) : Tr M m h w m' h' w' :=
  ⟨t.rel, fun i o ho => t.ext i o (by have := hget_lt ho; omega) ho, t.os, t.tape, t.output, t.size, t.frame, t.own⟩

/-- From s the code comes to s', the first k objects alone being kept in sight. -/
def BigK (k : Nat) (P : Program) (M : Mem) (c : Code) (s : ASt) (e : AExit) (s' : ASt) : Prop :=
  ∀ (m : Pl) (a : Go.Act) (w : World), HRel M m s.heap w → TRel m s.heap s.tmps a.tmps → a.defers = [] →
    c.wp P (fun e1 a1 w1 => e1 = e.to ∧ ∃ m1, TrK k M m s.heap w m1 s'.heap w1 ∧ TRel m1 s'.heap s'.tmps a1.tmps ∧ a1.defers = []) a w

theorem Big.toK {k : Nat} {P : Program} {M : Mem} {c : Code} {s s' : ASt} {e : AExit} (h : Big P M c s e s') : BigK k P M c s e s' := fun m a w r ht hd =>
  wp_mono (h m a w r ht hd) fun e1 a1 w1 ⟨h1, m1, htr, h2⟩ => ⟨h1, m1, htr.toK, h2⟩

theorem BigK.toBig {k : Nat} {P : Program} {M : Mem} {c : Code} {s s' : ASt} {e : AExit} (h : BigK k P M c s e s') (hk : s.heap.length ≤ k) : Big P M c s e s' := fun m a w r ht hd =>
  wp_mono (h m a w r ht hd) fun e1 a1 w1 ⟨h1, m1, htr, h2⟩ => ⟨h1, m1, htr.toTr hk, h2⟩

/-- A loop whose rounds keep the first k objects alone in sight. -/
theorem Big.loopK {k : Nat} {P : Program} {M : Mem} {c : Code} {e : AExit} (he : e ≠ .normal) (st : Nat → ASt) (n : Nat) {s' : ASt} (hk : (st 0).heap.length ≤ k) (round : ∀ j, j < n → BigK k P M c (st j) .normal (st (j + 1))) (last : BigK k P M c (st n) e s') :
    Big P M (.loop c) (st 0) e s' := fun m a w r ht hd => by
  refine wp_loop_idx (fun j a1 w1 => ∃ m1, TrK k M m (st 0).heap w m1 (st j).heap w1 ∧ TRel m1 (st j).heap (st j).tmps a1.tmps ∧ a1.defers = []) n ⟨m, (Tr.refl r).toK, ht, hd⟩ ?_ ?_
  · rintro j a1 w1 hj ⟨m1, htr, ht1, hd1⟩
    refine wp_mono (round j hj m1 a1 w1 htr.rel ht1 hd1) ?_
    rintro e2 a2 w2 ⟨rfl, m2, htr2, ht2, hd2⟩
    exact ⟨rfl, m2, htr.trans htr2, ht2, hd2⟩
  · rintro a1 w1 ⟨m1, htr, ht1, hd1⟩
    refine wp_mono (last m1 a1 w1 htr.rel ht1 hd1) ?_
    rintro e2 a2 w2 ⟨rfl, m2, htr2, ht2, hd2⟩
    refine ⟨?_, rfl, m2, (htr.trans htr2).toTr hk, ht2, hd2⟩
    cases e with
    | normal => exact absurd rfl he
    | exit id => simp [AExit.to]
    | ret => simp [AExit.to]

/-- The first k objects and those that are kept, under new numbers; the values named. -/
def compact (live keep : List Nat) (k i0 : Nat) (s : ASt) : Option (List Value × List AObj) :=
  if nodupB (List.range k ++ keep) then match gather s.heap (List.range k ++ keep) with
    | some objs => match renOs (idx (List.range k ++ keep)) objs, renL (idx (List.range k ++ keep)) (lookT s.tmps live) with
      | some lo, some V => match lo[i0]? with
        | some o => if Nat.blt 0 o.cells.length then some (V, lo) else none
        | none => none
      | _, _ => none
    | none => none
  else none

theorem Big.compact {P : Program} {M : Mem} {c : Code} {s s' : ASt} {e : AExit} (big : Big P M c s e s') {live keep : List Nat} {k i0 : Nat} {V : List Value} {lo : List AObj} (h : compact live keep k i0 s' = some (V, lo)) :
    ∃ z, BigK k P M c s e ⟨mkT s'.tmps.length live V z, lo.map some⟩ := by
  unfold Ab.compact at h
  split at h
  · rename_i hnd
    have hd := nodupB_sound hnd
    split at h
    · rename_i objs hg
      split at h
      · rename_i lo1 V1 hlo hV
        split at h
        · rename_i o0 ho0
          split at h
          · rename_i hne
            cases h
            have hne := Nat.blt_eq.mp hne
            refine ⟨fun t => staleV i0 (s'.tmps.getD t undef), fun m a w r ht hd0 => wp_mono (big m a w r ht hd0) ?_⟩
            rintro e1 a1 w1 ⟨h1, m1, htr, ht1, hd1⟩
            refine ⟨h1, fun j => m1 ((List.range k ++ keep).getD j 0), ?_, ?_, hd1⟩
            · obtain ⟨hr1, hemb⟩ := restrict htr.rel hd hg hlo
              obtain ⟨g1, g2⟩ := gather_get hg
              obtain ⟨l1, l2⟩ := renOs_get hlo
              refine ⟨hr1, fun i o hi ho => ?_, htr.os, htr.tape, htr.output, htr.size, htr.frame, fun i p hp => ?_⟩
              · obtain ⟨o', ho', e1, e2, e3, e4, e5⟩ := htr.ext i o ho
                have hLi : (List.range k ++ keep)[i]? = some i := by
                  rw [List.getElem?_append_left (by simpa using hi), List.getElem?_range hi]
                have hil : i < lo.length := by
                  have := (List.getElem?_eq_some_iff.1 hLi).1
                  omega
                obtain ⟨q, hq1, hq2⟩ := l2 i lo[i] (List.getElem?_eq_getElem hil)
                obtain ⟨q', hq3, hq4⟩ := g2 i i hLi
                rw [hq1] at hq3; cases hq3
                rw [ho'] at hq4; cases hq4
                have hp := renO_props hq2
                refine ⟨lo[i], by rw [hget_map]; exact List.getElem?_eq_getElem hil, by rw [hp.1, e1], by rw [hp.2.1, e2], by rw [hp.2.2.1, e3], by rw [hp.2.2.2]; exact e4, fun hl => ?_⟩
                have := e5 (by rw [← hp.2.2.2]; exact hl)
                rw [List.getD_eq_getElem?_getD, hLi]
                exact this
              · rw [hget_map] at hp
                obtain ⟨q, hq1, hq2⟩ := l2 i p hp
                have hil : i < (List.range k ++ keep).length := by have := (List.getElem?_eq_some_iff.1 hq1).1; omega
                obtain ⟨q', hq3, hq4⟩ := g2 i _ (List.getElem?_eq_getElem hil)
                rw [List.getD_eq_getElem?_getD, List.getElem?_eq_getElem hil]
                exact htr.own _ q' hq4
            · obtain ⟨hr1, hemb⟩ := restrict htr.rel hd hg hlo
              obtain ⟨v1, v2⟩ := renL_get hV
              have h0 : hget (lo.map some) i0 = some o0 := by rw [hget_map]; exact ho0
              refine ⟨by have := ht1.1; simp [mkT] at this ⊢; exact this, fun t u v hu hv => ?_⟩
              have htl : t < s'.tmps.length := by have := (List.getElem?_eq_some_iff.1 hu).1; simpa [mkT] using this
              simp only [mkT, List.getElem?_map, List.getElem?_range htl, Option.map_some, Option.some.injEq] at hu
              have hrel := ht1.2 t s'.tmps[t] v (List.getElem?_eq_getElem htl) hv
              have hget : s'.tmps.getD t undef = s'.tmps[t] := by simp [htl]
              split at hu
              · rename_i j hj
                obtain ⟨_, hj2⟩ := posN_get hj
                rw [Nat.sub_zero] at hj2
                have hjl : j < V.length := by
                  have := (List.getElem?_eq_some_iff.1 hj2).1
                  rw [v1]; simpa [lookT] using this
                have hVj : V.getD j undef = V[j] := by simp [hjl]
                obtain ⟨w0, hw1, hw2⟩ := v2 j V[j] (List.getElem?_eq_getElem hjl)
                simp only [lookT, List.getElem?_map, hj2, Option.map_some, Option.some.injEq] at hw1
                rw [← hw1, hget] at hw2
                have := hrel.ren hemb hw2
                first
                  | (rw [hVj] at hu; rw [← hu]; exact this)
                  | (rw [← hu]; simpa [hjl] using this)
              · rw [← hu, hget]
                exact hrel.stale h0 hne
          · cases h
        · cases h
      · cases h
    · cases h
  · cases h

/-- As viewU, behind dropping. -/
def viewK (live keep : List Nat) (k i0 : Nat) (r : Option (AExit × ASt × List Bool × Pins)) : Option (AExit × List Value × AHeap × Nat × Pins) :=
  match r with
  | some (e, s, _, p) => match compact live keep k i0 s with
    | some (V, lo) => some (e, V, lo.map some, s.tmps.length, p)
    | none => none
  | none => none

section
variable {P : Program} {M : Mem} {ov : Ov} {uns : List Nat} {lp : Hooks} {l : List Sum} {sym : List Nat}

theorem bigK_view (hov : OvOk P M ov) (hl : ∀ s ∈ l, s.SoundC P M) (hmix : P.follows .mixedOrders = true) {fuel : Nat} {c : Code} {s : ASt} {orc : List Bool} (hlp : HooksOk P M lp c) {live keep : List Nat} {k i0 : Nat} {e : AExit} {V : List Value} {H : AHeap} {N : Nat} {p : Pins}
    (h : viewK live keep k i0 (evU P M ov uns lp l sym fuel c s orc) = some (e, V, H, N, p)) (hp : Held p) : ∃ z, BigK k P M c s e ⟨mkT N live V z, H⟩ := by
  cases hev : evU P M ov uns lp l sym fuel c s orc with
  | none => rw [hev] at h; cases h
  | some x =>
    obtain ⟨e1, s1, o1, p1⟩ := x
    rw [hev] at h
    simp only [viewK] at h
    split at h
    · rename_i V1 lo hc
      cases h
      exact (evU_big hov hl hmix fuel c hlp hev hp).1.compact hc
    · cases h
end

theorem loop_bigK {k : Nat} {P : Program} {M : Mem} {c : Code} {N : Nat} {live live' : List Nat} {V : Nat → List Value} {H : Nat → AHeap} {n : Nat} {e : AExit} {V' : List Value} {H' : AHeap} (he : e ≠ .normal) (hk : (H 0).length ≤ k)
    (step : ∀ i, i < n → ∀ z, ∃ z', BigK k P M c ⟨mkT N live (V i) z, H i⟩ .normal ⟨mkT N live (V (i + 1)) z', H (i + 1)⟩)
    (last : ∀ z, ∃ z', BigK k P M c ⟨mkT N live (V n) z, H n⟩ e ⟨mkT N live' V' z', H'⟩) (z : Nat → Value) : ∃ z', Big P M (.loop c) ⟨mkT N live (V 0) z, H 0⟩ e ⟨mkT N live' V' z', H'⟩ := by
  classical
  let zs : Nat → Nat → Value := fun i => Nat.rec z (fun i zi => if h : i < n then Classical.choose (step i h zi) else zi) i
  obtain ⟨z', hz⟩ := last (zs n)
  refine ⟨z', Big.loopK he (fun i => ⟨mkT N live (V i) (zs i), H i⟩) n hk (fun i hi => ?_) hz⟩
  have : zs (i + 1) = Classical.choose (step i hi (zs i)) := dif_pos hi
  rw [this]
  exact Classical.choose_spec (step i hi (zs i))

end Go.Ab

namespace Go.Ab

/-- The first n cells, written out. -/
def exU (us : List Value) (n : Nat) : List Value := (List.range n).map fun j => atC us j

theorem exU_eq {us : List Value} {n : Nat} (h : us.length = n) : exU us n = us := by
  subst h
  apply List.ext_getElem (by simp [exU])
  intro i h1 h2
  simp [exU, atC, h2]

def shB (k : IntKind) (b : Int) : Bool := decide (0 ≤ b) && decide (b ≤ k.bits)

def ovX (P : Program) (M : Mem) : Ov := fun h ρ op => match op with
  | .binOp .shr t x y _ => match ρ x, ρ y with
    | some (.int k a), some (.int _ b) => some (uAct [] [] fun _ => (.int k (a / 2 ^ b.toNat), [], []), [(shB k b, true)])
    | _, _ => none
  | .call ⟨.builtin .copy, ⟨[x, y]⟩, ⟨[t1, t2]⟩⟩ => match P.underlying t1, ρ x, ρ y with
    | some (.slice e), some (.slice (some ⟨i, off, some sz⟩) dl _), some v => match szOf P e, srcN v, hget h i with
      | some k, some ns, some o => match uSrc M h k (Nat.min ns dl) v with
        | some (us, fs, c) => match gather h ((srcFp v).filter (· ≠ i)) with
          | some _ => some (uAct ((srcFp v).filter (· ≠ i)) [i] fun _ => (.int .i64 (Nat.min ns dl : Nat), [{ o with cells := wr o.cells off (exU us (Nat.min ns dl * k)) }], []),
              [(decide (o.cells.length = sz) && (decide (off + Nat.min ns dl * k ≤ sz) && (okC o.flat us fs && (decide (us.length = Nat.min ns dl * k) && c))), true)])
          | none => none
        | none => none
      | _, _, _ => none
    | _, _, _ => none
  | op => ovStd P M h ρ op

theorem ovX_ok (P : Program) (M : Mem) : OvOk P M (ovX P M) := by
  intro K cl h ρ op act p hov hp
  unfold ovX at hov
  split at hov
  · rename_i t x y tt
    split at hov
    · rename_i k a k2 b hx hy
      cases hov
      rw [held_one_iff] at hp
      simp only [shB, Bool.and_eq_true, decide_eq_true_eq] at hp
      refine ⟨pureAct (.int k (a / 2 ^ b.toNat)), ?_, uAct_same rfl rfl (gather_nil h) (gather_nil h) fun b => rfl⟩
      have hb : bo P .shr t x y (.int k a) (.int k2 b) = some (.int k (a / 2 ^ b.toNat)) := by
        have e : (do eqGuard .shr t x y (.int k a) (.int k2 b); binOp .shr t (.int k a) (.int k2 b) : Sem Value) = pure (.int k (a / 2 ^ b.toNat)) := by
          rw [eqGuard_shr, binOp_shr, shift_shr k k2 a b hp.1 hp.2]
          rfl
        unfold bo
        simp only [e]
        rfl
      simp only [opAct, pv, hx, hy, ground, Bool.and_self, if_true, hb]
    · cases hov
  · rename_i x y t1 t2
    split at hov
    · rename_i e i off sz dl cp v hu hx hy
      split at hov
      · rename_i k ns o hk hns ho
        split at hov
        · rename_i us fs c hsrc
          split at hov
          · rename_i rs hrs
            cases hov
            rw [held_one_iff] at hp
            simp only [Bool.and_eq_true, decide_eq_true_eq] at hp
            obtain ⟨p1, p2, p3, p5, p4⟩ := hp
            have hs := uSrc_eq hsrc p4 (look := fun j => if j = i then some o else olook ((srcFp v).filter (· ≠ i)) rs j) (look_filter ho hrs)
            rw [exU_eq p5]
            refine ⟨_, by simp only [opAct, hx, hy, copyAct, hu, hk, hns]; rfl, ?_⟩
            refine uAct_same rfl rfl hrs (gather_one' ho) fun _ => ?_
            simp only [hs]
            rw [if_pos ⟨p3, p1, p2⟩]
          · cases hov
        · cases hov
      · cases hov
    · cases hov
  · exact ovStd_ok P M K cl h ρ _ act p hov hp

end Go.Ab

namespace Go.Ab

def ovR (P : Program) (M : Mem) : Ov := fun h ρ op => match op with
  | .call ⟨.builtin .append, ⟨[x, y]⟩, ⟨[t1, t2]⟩⟩ => match P.underlying t1, P.underlying t2, ρ x, ρ y with
    | some (.slice e), some d2, some (.slice (some ⟨i, off, some sz⟩) len cap), some v => match szOf P e, bytesT P e, flatT P e, zeroOf P e, srcN v, hget h i with
      | some k, some by_, some fl, some z, some n, some o => match uSrc M h k n v with
        | some (us, fs, c) =>
          if srcT d2 && Nat.blt 0 k && Nat.blt 0 by_ && Nat.beq z.length k && okL fl z then
            match gather h ((srcFp v).filter (· ≠ i)) with
            | some _ => some (uAct ((srcFp v).filter (· ≠ i)) [i] fun _ => (.slice (some ⟨i, off, some sz⟩) (len + n) cap, [{ o with cells := wr o.cells (off + len * k) us }], []),
                [(decide (len + n ≤ cap) && (decide (o.cells.length = sz) && (decide (off + (len + n) * k ≤ sz) && (okC o.flat us fs && c))), true)])
            | none => none
          else none
        | none => none
      | _, _, _, _, _, _ => none
    | _, _, _, _ => none
  | op => ovX P M h ρ op

theorem ovR_ok (P : Program) (M : Mem) : OvOk P M (ovR P M) := by
  intro K cl h ρ op act p hov hp
  unfold ovR at hov
  split at hov
  · rename_i x y t1 t2
    split at hov
    · rename_i e d2 i off sz len cap v hu1 hu2 hx hy
      split at hov
      · rename_i k by_ fl z n o hk hby hfl hz hn ho
        split at hov
        · rename_i us fs c hsrc
          split at hov
          · rename_i hc
            split at hov
            · rename_i rs hrs
              cases hov
              rw [held_one_iff] at hp
              simp only [Bool.and_eq_true, decide_eq_true_eq] at hp hc
              obtain ⟨p1, p2, p3, p7, p8⟩ := hp
              obtain ⟨⟨⟨⟨c1, c2⟩, c3⟩, c4⟩, c5⟩ := hc
              have c2 : 0 < k := by simpa [Nat.blt_eq] using c2
              have c3 : 0 < by_ := by simpa [Nat.blt_eq] using c3
              have c4 := Nat.eq_of_beq_eq_true c4
              have hs := uSrc_eq hsrc p8 (look := fun j => if j = i then some o else olook ((srcFp v).filter (· ≠ i)) rs j) (look_filter ho hrs)
              refine ⟨_, by simp only [opAct, hx, hy, appendAct, hu1, hu2, hk, hby, hfl, hz, hn, c1, c2, c3, c4, c5, and_self, if_true, p1]; rfl, ?_⟩
              refine uAct_same rfl rfl hrs (gather_one' ho) fun _ => ?_
              simp only [hs]
              rw [if_pos ⟨p7, p2, p3⟩]
            · cases hov
          · cases hov
        · cases hov
      · cases hov
    · cases hov
  · exact ovX_ok P M K cl h ρ _ act p hov hp

end Go.Ab

