/- The specification's field: products, sums, differences, reading and comparing.
   Conditions: the digits are in bounds. -/
import Derived.Test.YtjdckgnpocnifaaGA
import Derived.Test.YtjdckgnpocnifaaSpec
open Go.Ab Go.Num
set_option linter.unusedVariables false
set_option linter.unusedSimpArgs false
namespace Go.Proofs.Ytjdckgnpocnifaa

/-- A function of two numbers in digits. -/
def opDSum (f : FuncId) (op : (Nat → Int) → (Nat → Int) → Nat → Int) : Sum :=
  { f := f, ro := true
    S := fun args os => match args, os with
      | [.agg ⟨A⟩, .agg ⟨B⟩], [] => if isD A && isD B then some (.agg ⟨cellsI .i64 16 (op (wd A) (wd B))⟩, [], []) else none
      | _, _ => none
    C := fun args _ => match args with
      | [.agg ⟨A⟩, .agg ⟨B⟩] => [(leB 65535 A && leB 65535 B, true)]
      | _ => [] }

theorem opDSum_sound {M : Mem} {f : FuncId} {fn : Func} {op : (Nat → Int) → (Nat → Int) → Nat → Int} (hf : Try.prog.funcs[f]? = some fn) (hn : (fn.name == "runtime.NumGoroutine") = false) (hb : fn.body.isSome = true)
    (h : ∀ x y : Nat → Int, (∀ i, i < 16 → 0 ≤ x i ∧ x i ≤ 65535) → (∀ i, i < 16 → 0 ≤ y i ∧ y i ≤ 65535) → ACalls Try.prog M f [.agg ⟨cellsI .i64 16 x⟩, .agg ⟨cellsI .i64 16 y⟩] [] (.agg ⟨cellsI .i64 16 (op x y)⟩) [] []) :
    (opDSum f op).SoundC Try.prog M := sumC_sound hf hn hb fun args os v os' ns hs hp => by
  simp only [opDSum] at hs hp ⊢
  split at hs
  · rename_i A B
    split at hs
    · rename_i hA
      cases hs
      simp only [Bool.and_eq_true] at hA
      have hb : (leB 65535 A && leB 65535 B) = true := hp (leB 65535 A && leB 65535 B, true) (List.Mem.head _)
      simp only [Bool.and_eq_true] at hb
      have := h (wd A) (wd B) (leB_d hA.1 hb.1) (leB_d hA.2 hb.2)
      rw [← isD_eq hA.1, ← isD_eq hA.2] at this
      exact ⟨this, fun _ => rfl⟩
    · cases hs
  · cases hs

theorem mul21 (M : Mem) : (opDSum 21 mulD).SoundC Try.prog M := opDSum_sound Try.func21 (by kernel_rfl) (by kernel_rfl) fun x y hx hy => by
  have e : lowL x y = cellsI .i64 16 (lowC x y) := cellsI_congr fun k _ => (lowW_eq hx hy k).1
  have hl : leB 100000000000000 (cellsI .i64 16 (lowC x y)) = true := leB_iff.2 fun i _ => by have := lowW_eq hx hy i; omega
  have := acalls_of_evFC (consC (carry35 M) nilC) mix Try.func21 (r21 M x y) (held_one (by rw [e]; exact hl))
  rw [e, cellsI_congr (pass3_congr fun i hi => wd_cellsI hi)] at this
  exact this

def addL (x y : Nat → Int) : List Value := (List.range 16).map fun k => .int .i64 (IntKind.i64.wrap (x k + y k))
def subL (x y : Nat → Int) : List Value := (List.range 16).map fun k => .int .i64 (bif Nat.beq k 0 then IntKind.i64.wrap (IntKind.i64.wrap (IntKind.i64.wrap (x 0 + 131070) - y 0) - 74) else IntKind.i64.wrap (IntKind.i64.wrap (x k + 131070) - y k))

set_option maxRecDepth 100000 in
theorem r46 (M : Mem) (x y : Nat → Int) : evFC Try.prog M [carry3Sum 35] [] 1000 Try.f46 [.agg ⟨cellsI .i64 16 x⟩, .agg ⟨cellsI .i64 16 y⟩] [] []
   = some ((.agg ⟨cellsI .i64 16 (pass3 (wd (addL x y)))⟩, [], []), [(leB 100000000000000 (addL x y), true)]) := by kernel_rfl
set_option maxRecDepth 100000 in
theorem r47 (M : Mem) (x y : Nat → Int) : evFC Try.prog M [carry3Sum 35] [] 1000 Try.f47 [.agg ⟨cellsI .i64 16 x⟩, .agg ⟨cellsI .i64 16 y⟩] [] []
   = some ((.agg ⟨cellsI .i64 16 (pass3 (wd (subL x y)))⟩, [], []), [(leB 100000000000000 (subL x y), true)]) := by kernel_rfl

theorem add46 (M : Mem) : (opDSum 46 addD).SoundC Try.prog M := opDSum_sound Try.func46 (by kernel_rfl) (by kernel_rfl) fun x y hx hy => by
  have e : addL x y = cellsI .i64 16 fun i => x i + y i := by
    unfold addL cellsI
    apply List.map_congr_left
    intro i hi
    have hi := List.mem_range.1 hi
    have := hx i hi; have := hy i hi
    rw [w64 (by omega) (by omega)]
  have hl : leB 100000000000000 (cellsI .i64 16 fun i => x i + y i) = true := leB_iff.2 fun i hi => by have := hx i hi; have := hy i hi; omega
  have := acalls_of_evFC (consC (carry35 M) nilC) mix Try.func46 (r46 M x y) (held_one (by rw [e]; exact hl))
  rw [e, cellsI_congr (pass3_congr fun i hi => wd_cellsI hi)] at this
  exact this

theorem sub47 (M : Mem) : (opDSum 47 subD).SoundC Try.prog M := opDSum_sound Try.func47 (by kernel_rfl) (by kernel_rfl) fun x y hx hy => by
  have e : subL x y = cellsI .i64 16 fun i => x i + c4 i - y i := by
    unfold subL cellsI
    apply List.map_congr_left
    intro i hi
    have hi := List.mem_range.1 hi
    have := hx i hi; have := hy i hi
    by_cases h0 : i = 0
    · subst h0
      have : c4 0 = 130996 := rfl
      simp only [Nat.beq, cond_true]
      rw [w64 (n := x 0 + 131070) (by omega) (by omega), w64 (n := x 0 + 131070 - y 0) (by omega) (by omega), w64 (by omega) (by omega), this]
      congr 1
      omega
    · have hb : Nat.beq i 0 = false := by rw [Bool.eq_false_iff]; exact fun e => h0 (Nat.eq_of_beq_eq_true e)
      have : c4 i = 131070 := by simp [c4, hb]
      simp only [hb, this, cond_false]
      rw [w64 (n := x i + 131070) (by omega) (by omega), w64 (by omega) (by omega)]
  have hl : leB 100000000000000 (cellsI .i64 16 fun i => x i + c4 i - y i) = true := leB_iff.2 fun i hi => by
    have := hx i hi; have := hy i hi
    have : 130996 ≤ c4 i ∧ c4 i ≤ 131070 := by unfold c4; cases Nat.beq i 0 <;> simp
    omega
  have := acalls_of_evFC (consC (carry35 M) nilC) mix Try.func47 (r47 M x y) (held_one (by rw [e]; exact hl))
  rw [e, cellsI_congr (pass3_congr fun i hi => wd_cellsI hi)] at this
  exact this

/-! ### Reading -/
def readL (x : Nat → Int) : List Value := (List.range 16).map fun i => .int .i64 (IntKind.i64.wrap (IntKind.i64.wrap (x (2 * i)) + IntKind.i64.wrap (256 * IntKind.i64.wrap (x (2 * i + 1)))))
set_option maxRecDepth 100000 in
theorem r22 (M : Mem) (x : Nat → Int) : evFT Try.prog M (fns []) [] 1000 Try.f22 [.agg ⟨cellsI .u8 32 x⟩] [] = some (.agg ⟨readL x⟩, [], []) := by kernel_rfl

def readSum (f : FuncId) : Sum :=
  { f := f, ro := true
    S := fun args os => match args, os with
      | [.agg ⟨A⟩], [] => if isB 32 A then some (.agg ⟨cellsI .i64 16 (rdD (wd A))⟩, [], []) else none
      | _, _ => none
    C := fun args _ => match args with
      | [.agg ⟨A⟩] => [(rngB A, true)]
      | _ => [] }

theorem read22 (M : Mem) : (readSum 22).SoundC Try.prog M := sumC_sound Try.func22 (by kernel_rfl) (by kernel_rfl) fun args os v os' ns hs hp => by
  simp only [readSum] at hs hp ⊢
  split at hs
  · rename_i A
    split at hs
    · rename_i hA
      cases hs
      have hb : rngB A = true := hp (rngB A, true) (List.Mem.head _)
      have hr := rngB_wd hb
      have := acalls_of_evFT fns_nil mix Try.func22 (r22 M (wd A))
      have e : readL (wd A) = cellsI .i64 16 (rdD (wd A)) := cellsI_congr fun i hi => by
        have := has_u8 (hr (2 * i)); have := has_u8 (hr (2 * i + 1))
        rw [w64 (n := wd A (2 * i)) (by omega) (by omega), w64 (n := wd A (2 * i + 1)) (by omega) (by omega), w64 (n := 256 * wd A (2 * i + 1)) (by omega) (by omega), w64 (by omega) (by omega)]
        rfl
      rw [e, ← isB_eq hA] at this
      exact ⟨this, fun _ => rfl⟩
    · cases hs
  · cases hs

/-! ### Comparing -/
def lessKR (x : Nat → Int) : Nat → Option (Value × List AObj × List AObj)
  | 0 => some (.bool (decide (x 0 < 65517)), [], [])
  | k + 1 => match (x (k + 1) != 65535) with
    | true => some (.bool true, [], [])
    | false => lessKR x k
def lessR (x : Nat → Int) : Option (Value × List AObj × List AObj) := match (x 15 != 32767) with
  | true => some (.bool (decide (x 15 < 32767)), [], [])
  | false => lessKR x 14

theorem lessKR_eq (x : Nat → Int) : ∀ k, lessKR x k = some (.bool (lessK x k), [], []) := by
  intro k
  induction k with
  | zero => rfl
  | succ k ih =>
    simp only [lessKR, lessK]
    cases (x (k + 1) != 65535) with
    | true => rfl
    | false => simpa using ih
theorem lessR_eq (x : Nat → Int) : lessR x = some (.bool (lessD x), [], []) := by
  unfold lessR lessD
  cases (x 15 != 32767) with
  | true => rfl
  | false => exact lessKR_eq x 14

set_option maxRecDepth 100000 in
theorem r34 (M : Mem) (x : Nat → Int) : evFT Try.prog M (fns []) [6, 17] 1000 Try.f34 [.agg ⟨cellsI .i64 16 x⟩] [] = lessR x := by kernel_rfl

def lessSum (f : FuncId) : Sum :=
  { f := f, ro := true
    S := fun args os => match args, os with
      | [.agg ⟨A⟩], [] => if isD A then some (.bool (decide (val D16 (wd A) 16 < pF)), [], []) else none
      | _, _ => none
    C := fun args _ => match args with
      | [.agg ⟨A⟩] => [(leB 65535 A, true)]
      | _ => [] }

theorem less34 (M : Mem) : (lessSum 34).SoundC Try.prog M := sumC_sound Try.func34 (by kernel_rfl) (by kernel_rfl) fun args os v os' ns hs hp => by
  simp only [lessSum] at hs hp ⊢
  split at hs
  · rename_i A
    split at hs
    · rename_i hA
      cases hs
      have hb : leB 65535 A = true := hp (leB 65535 A, true) (List.Mem.head _)
      have hd := leB_d hA hb
      have hr := r34 M (wd A)
      rw [lessR_eq, lessD_eq fun i hi => by have := hd i hi; omega] at hr
      have := acalls_of_evFT fns_nil mix Try.func34 hr
      rw [← isD_eq hA] at this
      exact ⟨this, fun _ => rfl⟩
    · cases hs
  · cases hs

end Go.Proofs.Ytjdckgnpocnifaa
