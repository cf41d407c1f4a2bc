/- The specification's l3Write gives the bytes of the least number; the program's 'bytes' and 'load' likewise.
   Conditions: the digits, the limbs are in bounds. -/
import Derived.Test.YtjdckgnpocnifaaWrite
open Go.Ab Go.Num
set_option linter.unusedVariables false
set_option linter.unusedSimpArgs false
namespace Go.Proofs.Ytjdckgnpocnifaa

def nx (x : Nat → Int) : Nat → Int := dig D16 (tkP (wd (cellsI .i64 16 x)))
def lsB (x : Nat → Int) : Bool := decide (val D16 (wd (cellsI .i64 16 x)) 16 < pF)
def tkPins (x : Nat → Int) : Pins := [(decide ((0 : Int) = 0), true), (decide ((0 : Int) = 0), true), (leB 65535 (cellsI .i64 16 x), true)]

set_option maxRecDepth 100000 in
theorem r20a (M : Mem) (x : Nat → Int) : evFU Try.prog M (ovStd Try.prog M) [] [(2, mkHook Try.prog M 2 (.loop loop20) 56 [1, 2] hook20 [1, 2, 3, 13])] [lessSum 34] [12] 1000 Try.f20 [.agg ⟨cellsI .i64 16 x⟩] [] [false]
   = some ((.agg ⟨outD x⟩, [], []), [(leB 65535 (cellsI .i64 16 x), true), (!lsB x, false)]) := by kernel_rfl
set_option maxRecDepth 100000 in
theorem r20b (M : Mem) (x : Nat → Int) : evFU Try.prog M (ovStd Try.prog M) [] [(2, mkHook Try.prog M 2 (.loop loop20) 56 [1, 2] hook20 [1, 2, 3, 13])] [lessSum 34] [12] 1000 Try.f20 [.agg ⟨cellsI .i64 16 x⟩] [] [true, false]
   = some ((.agg ⟨outD (nx x)⟩, [], []), [(leB 65535 (cellsI .i64 16 x), true), (!lsB x, true)] ++ (tkPins x ++ [(leB 65535 (cellsI .i64 16 (nx x)), true), (!lsB (nx x), false)])) := by kernel_rfl
set_option maxRecDepth 100000 in
theorem r20c (M : Mem) (x : Nat → Int) : evFU Try.prog M (ovStd Try.prog M) [] [(2, mkHook Try.prog M 2 (.loop loop20) 56 [1, 2] hook20 [1, 2, 3, 13])] [lessSum 34] [12] 1000 Try.f20 [.agg ⟨cellsI .i64 16 x⟩] [] [true, true, false]
   = some ((.agg ⟨outD (nx (nx x))⟩, [], []), [(leB 65535 (cellsI .i64 16 x), true), (!lsB x, true)] ++ (tkPins x ++ ([(leB 65535 (cellsI .i64 16 (nx x)), true), (!lsB (nx x), true)] ++ (tkPins (nx x) ++ [(leB 65535 (cellsI .i64 16 (nx (nx x))), true), (!lsB (nx (nx x)), false)])))) := by kernel_rfl

theorem wd_val {k : IntKind} {B : Int} {n : Nat} (x : Nat → Int) : val B (wd (cellsI k n x)) n = val B x n := val_congr fun i hi => wd_cellsI hi
theorem lsB_eq (x : Nat → Int) : lsB x = decide (val D16 x 16 < pF) := by unfold lsB; rw [wd_val]
theorem dg_wd {x : Nat → Int} (h : Dg 65536 16 x) : Dg 65536 16 (wd (cellsI .i64 16 x)) := fun i hi => by rw [wd_cellsI hi]; exact h i hi
theorem nx_dg {x : Nat → Int} : Dg 65536 16 (nx x) := fun i _ => dig16 _ i
theorem nx_val {x : Nat → Int} (h : Dg 65536 16 x) (hp : pF ≤ val D16 x 16) : val D16 (nx x) 16 = val D16 x 16 - pF := by
  unfold nx
  rw [tkP_dig (dg_wd h) (by rw [wd_val]; exact hp), wd_val]
theorem le_dg {x : Nat → Int} (h : Dg 65536 16 x) : leB 65535 (cellsI .i64 16 x) = true := leB_iff.2 fun i hi => by have := h i hi; omega
theorem tkPins_held {x : Nat → Int} (h : Dg 65536 16 x) : Held (tkPins x) := held_cons rfl (held_cons rfl (held_one (le_dg h)))
theorem held_app {p q : Pins} (hp : Held p) (hq : Held q) : Held (p ++ q) := fun x hx => by
  rcases List.mem_append.1 hx with h | h
  · exact hp x h
  · exact hq x h

theorem write20 (M : Mem) (x : Nat → Int) (h : Dg 65536 16 x) : ACalls Try.prog M 20 [.agg ⟨cellsI .i64 16 x⟩] [] (.agg ⟨bytesN (val D16 x 16 % pF)⟩) [] [] := by
  have hv := val_range (B := D16) (by decide) h
  rw [D16p] at hv
  have hl : ∀ s ∈ [lessSum 34], s.SoundC Try.prog M := consC (less34 M) nilC
  have hp : pF = 57896044618658097711785492504343953926634992332820282019728792003956564819949 := rfl
  by_cases h1 : val D16 x 16 < pF
  · have := acalls_of_evFU (ovStd_ok _ _) hl mix Try.func20 (hook20_ok M) (r20a M x) (held_cons (le_dg h) (held_one (by rw [lsB_eq, decide_eq_true h1]; rfl)))
    rw [outD_eq h] at this
    rw [Int.emod_eq_of_lt hv.1 h1]
    exact this
  · have hn := nx_val h (by omega)
    have hs : Held [(leB 65535 (cellsI .i64 16 x), true), (!lsB x, true)] := held_cons (le_dg h) (held_one (by rw [lsB_eq, decide_eq_false h1]; rfl))
    by_cases h2 : val D16 x 16 - pF < pF
    · have := acalls_of_evFU (ovStd_ok _ _) hl mix Try.func20 (hook20_ok M) (r20b M x) (held_app hs (held_app (tkPins_held h) (held_cons (le_dg nx_dg) (held_one (by rw [lsB_eq, hn, decide_eq_true h2]; rfl)))))
      rw [outD_eq nx_dg, hn] at this
      have e : val D16 x 16 % pF = val D16 x 16 - pF := by rw [hp] at *; omega
      rw [e]
      exact this
    · have hn2 := nx_val (x := nx x) nx_dg (by omega)
      rw [hn] at hn2
      have hs2 : Held [(leB 65535 (cellsI .i64 16 (nx x)), true), (!lsB (nx x), true)] := held_cons (le_dg nx_dg) (held_one (by rw [lsB_eq, hn, decide_eq_false h2]; rfl))
      have h3 : val D16 x 16 - pF - pF < pF := by rw [hp] at *; omega
      have := acalls_of_evFU (ovStd_ok _ _) hl mix Try.func20 (hook20_ok M) (r20c M x) (held_app hs (held_app (tkPins_held h) (held_app hs2 (held_app (tkPins_held nx_dg) (held_cons (le_dg nx_dg) (held_one (by rw [lsB_eq, hn2, decide_eq_true h3]; rfl)))))))
      rw [outD_eq nx_dg, hn2] at this
      have e : val D16 x 16 % pF = val D16 x 16 - pF - pF := by rw [hp] at *; omega
      rw [e]
      exact this

def writeSum (f : FuncId) : Sum :=
  { f := f, ro := true
    S := fun args os => match args, os with
      | [.agg ⟨A⟩], [] => if isD A then some (.agg ⟨bytesN (val D16 (wd A) 16 % pF)⟩, [], []) else none
      | _, _ => none
    C := fun args _ => match args with
      | [.agg ⟨A⟩] => [(leB 65535 A, true)]
      | _ => [] }

theorem writeS20 (M : Mem) : (writeSum 20).SoundC Try.prog M := sumC_sound Try.func20 (by kernel_rfl) (by kernel_rfl) fun args os v os' ns hs hp => by
  simp only [writeSum] at hs hp ⊢
  split at hs
  · rename_i A
    split at hs
    · rename_i hA
      cases hs
      have hb : leB 65535 A = true := hp (leB 65535 A, true) (List.Mem.head _)
      have hd := leB_d hA hb
      have := write20 M (wd A) fun i hi => by have := hd i hi; omega
      rw [← isD_eq hA] at this
      exact ⟨this, fun _ => rfl⟩
    · cases hs
  · cases hs

/-! ### The program's reading and writing -/
theorem r45 (M : Mem) (f s c e : Nat) (cells : List Value) (g : Bool) : evFU Try.prog M (ovStd Try.prog M) [17, 24, 31, 38] [] [] [] 200 Try.f45 [.slice (some ⟨0, f, some s⟩) 4 c] [⟨cells, g, e, true⟩] []
   = some ((.int .u32 (wordI (wd cells f) (wd cells (f + 1)) (wd cells (f + 2)) (wd cells (f + 3))), [⟨cells, g, e, true⟩], []),
      [(ldB .u8 ⟨cells, g, e, true⟩ s (f + 3), true), (ldB .u8 ⟨cells, g, e, true⟩ s (f + 2), true), (ldB .u8 ⟨cells, g, e, true⟩ s (f + 1), true), (ldB .u8 ⟨cells, g, e, true⟩ s f, true)]) := by kernel_rfl
theorem word45 (M : Mem) : (wordSum 45).SoundC Try.prog M := wordSum_sound Try.func45 (by kernel_rfl) (by kernel_rfl) fun f1 s c e cells g hp =>
  acalls_of_evFU (ovStd_ok _ _) nilC mix Try.func45 (hooksOk_nil _) (r45 M f1 s c e cells g) hp

def p36 (f s c : Nat) (cells : List Value) : Pins := [(decide (abounds 8 c none (some (.int .i64 4)) none = some (0, 4, c)), true), (four cells f s, true), (decide (abounds 8 c (some (.int .i64 4)) (some (.int .i64 8)) none = some (4, 8, c)), true), (four cells (f + 4) s, true)]

theorem r36a (M : Mem) (f s c e : Nat) (cells : List Value) : evFU Try.prog M (ovStd Try.prog M) [4, 8] [] [wordSumP 45] [] 200 Try.f36 [.slice (some ⟨0, f, some s⟩) 8 c] [⟨cells, false, e, true⟩] []
   = some ((.int .u64 (wordI64 (wd cells) f), [⟨cells, false, e, true⟩], []), p36 f s c cells) := by kernel_rfl
theorem r36b (M : Mem) (f s c : Nat) (cells : List Value) : evFU Try.prog M (ovStd Try.prog M) [4, 8] [] [wordSumP 45] [] 200 Try.f36 [.slice (some ⟨0, f, some s⟩) 8 c] [⟨cells, true, 1, true⟩] []
   = some ((.int .u64 (wordI64 (wd cells) f), [⟨cells, true, 1, true⟩], []), p36 f s c cells) := by kernel_rfl

theorem p36_held {f s c : Nat} {cells : List Value} (hc : 8 ≤ c) (h1 : four cells f s = true) (h2 : four cells (f + 4) s = true) : Held (p36 f s c cells) :=
  held_cons (by rw [decide_eq_true_eq]; delta abounds; simp only [bnd]; rw [if_pos (by omega)]; rfl) (held_cons h1 (held_cons (by rw [decide_eq_true_eq]; delta abounds; simp only [bnd]; rw [if_pos (by omega)]; rfl) (held_one h2)))

theorem word36 (M : Mem) : (word8Sum 36).SoundC Try.prog M := word8Sum_sound Try.func36 (by kernel_rfl) (by kernel_rfl)
  (fun f1 s c e cells hc h1 h2 => acalls_of_evFU (ovStd_ok _ _) (consC (wordSumP_sound (word45 M)) nilC) mix Try.func36 (hooksOk_nil _) (r36a M f1 s c e cells) (p36_held hc h1 h2))
  (fun f1 s c cells hc h1 h2 => acalls_of_evFU (ovStd_ok _ _) (consC (wordSumP_sound (word45 M)) nilC) mix Try.func36 (hooksOk_nil _) (r36b M f1 s c cells) (p36_held hc h1 h2))

set_option maxRecDepth 100000 in
theorem r23 (M : Mem) (k : Nat → Int) : evFC Try.prog M [word8Sum 36] [] 200 Try.f23 [.agg ⟨cellsI .u8 32 k⟩] [] [] = some ((.agg ⟨loadI (wd (cellsI .u8 32 k))⟩, [], []),
   [(eightR (cellsI .u8 32 k) 0 32, true), (Nat.ble 8 32, true), (eightR (cellsI .u8 32 k) 8 32, true), (Nat.ble 8 24, true), (eightR (cellsI .u8 32 k) 16 32, true), (Nat.ble 8 16, true), (eightR (cellsI .u8 32 k) 24 32, true), (Nat.ble 8 8, true)]) := by kernel_rfl
noncomputable def I40 (M : Mem) : Sum := inl Try.prog M (fns []) 1000 40 Try.f40
theorem I40_s (M : Mem) : (I40 M).Sound Try.prog M := inl_sound fns_nil mix Try.func40 (by kernel_rfl) (by kernel_rfl)
def yc (x : Nat → Int) : Nat → Int := carE (wd (cellsI .u64 5 (carE (wd (cellsI .u64 5 x)))))
set_option maxRecDepth 100000 in
theorem r26t (M : Mem) (x : Nat → Int) : evFC Try.prog M [carrySum 24, I40 M] [47] 1000 Try.f26 [.agg ⟨cellsI .u64 5 x⟩] [] [true, false] = some ((.agg ⟨outW (maskL (yc x))⟩, [], []),
   [(leB 9223372036854775807 (cellsI .u64 5 x), true), (leB 9223372036854775807 (cellsI .u64 5 (carE (wd (cellsI .u64 5 x)))), true), (cB (yc x), true), (cB (maskL (yc x)), false)]) := by kernel_rfl
set_option maxRecDepth 100000 in
theorem r26f (M : Mem) (x : Nat → Int) : evFC Try.prog M [carrySum 24, I40 M] [47] 1000 Try.f26 [.agg ⟨cellsI .u64 5 x⟩] [] [false, false] = some ((.agg ⟨outW (yc x)⟩, [], []),
   [(leB 9223372036854775807 (cellsI .u64 5 x), true), (leB 9223372036854775807 (cellsI .u64 5 (carE (wd (cellsI .u64 5 x)))), true), (cB (yc x), false), (cB (yc x), false)]) := by kernel_rfl

theorem four_cells {k : Nat → Int} {n f : Nat} (h : f + 4 ≤ n) : four (cellsI .u8 n k) f n = true := by
  simp only [four, cellsI_length, Nat.beq_refl, atC_cells (show f < n by omega), atC_cells (show f + 1 < n by omega), atC_cells (show f + 2 < n by omega), atC_cells (show f + 3 < n by omega), isI, decide_true, Bool.and_self]
theorem eight_cells {k : Nat → Int} {n f : Nat} (h : f + 8 ≤ n) (hk : ∀ i, IntKind.u8.has (k i)) : eightR (cellsI .u8 n k) f n = true := by
  simp only [eightR, four_cells (k := k) (show f + 4 ≤ n by omega), four_cells (k := k) (show f + 4 + 4 ≤ n by omega), Bool.true_and, List.all_eq_true, List.mem_range]
  intro i hi
  rw [wd_cellsI (by omega)]
  exact hasB_iff.2 (hk _)

/-- The program's 'load' gives the limbs of the number. -/
theorem load23 (M : Mem) (k : Nat → Int) (hk : ∀ i, IntKind.u8.has (k i)) : ACalls Try.prog M 23 [.agg ⟨cellsI .u8 32 k⟩] [] (.agg ⟨cellsI .u64 5 (limbs (val 256 k 32))⟩) [] [] := by
  have := acalls_of_evFC (consC (word36 M) nilC) mix Try.func23 (r23 M k) (held_cons (eight_cells (by omega) hk) (held_cons rfl (held_cons (eight_cells (by omega) hk) (held_cons rfl (held_cons (eight_cells (by omega) hk) (held_cons rfl (held_cons (eight_cells (by omega) hk) (held_one rfl))))))))
  have hw : ∀ i, IntKind.u8.has (wd (cellsI .u8 32 k) i) := rngB_wd (rngB_cellsI hk)
  rw [loadI_eq hw, wd_val] at this
  exact this

def loadSum (f : FuncId) : Sum :=
  { f := f, ro := true
    S := fun args os => match args, os with
      | [.agg ⟨A⟩], [] => if isB 32 A then some (.agg ⟨cellsI .u64 5 (limbs (val 256 (wd A) 32))⟩, [], []) else none
      | _, _ => none
    C := fun args _ => match args with
      | [.agg ⟨A⟩] => [(rngB A, true)]
      | _ => [] }

theorem loadS23 (M : Mem) : (loadSum 23).SoundC Try.prog M := sumC_sound Try.func23 (by kernel_rfl) (by kernel_rfl) fun args os v os' ns hs hp => by
  simp only [loadSum] at hs hp ⊢
  split at hs
  · rename_i A
    split at hs
    · rename_i hA
      cases hs
      have hb : rngB A = true := hp (rngB A, true) (List.Mem.head _)
      have := load23 M (wd A) (rngB_wd hb)
      rw [← isB_eq hA] at this
      exact ⟨this, fun _ => rfl⟩
    · cases hs
  · cases hs

/-- And 'bytes' the bytes of the least number. -/
theorem bytes26 (M : Mem) (x : Nat → Int) (h : Bd 9223372036854775807 x) : ACalls Try.prog M 26 [.agg ⟨cellsI .u64 5 x⟩] [] (.agg ⟨bytesN (val B51 x 5 % pF)⟩) [] [] := by
  have h1 : Bd 9223372036854775807 (wd (cellsI .u64 5 x)) := fun i hi => by rw [wd_cellsI hi]; exact h i hi
  have h2 : Bd 9223372036854775807 (wd (cellsI .u64 5 (carE (wd (cellsI .u64 5 x))))) := fun i hi => by
    rw [wd_cellsI hi]
    have := carE_rb h1 i hi
    unfold RB at this
    omega
  have ey : ∀ i, i < 5 → yc x i = carE (carE x) i := carE_congr fun i hi => by
    rw [wd_cellsI hi]
    exact carE_congr (fun k hk => wd_cellsI hk) i hi
  have hb : ∀ i, i < 5 → bI (yc x) i = bI (carE (carE x)) i := by
    intro i
    induction i with
    | zero => intro hi; simp only [bI]; rw [ey 0 hi]
    | succ i ih => intro hi; simp only [bI]; rw [ey (i + 1) hi, ih (by omega)]
  have em : ∀ i, i < 5 → maskL (yc x) i = maskL (carE (carE x)) i := fun i hi => by unfold maskL; rw [hb i hi]
  have hcb : cB (yc x) = cB (carE (carE x)) := by unfold cB; rw [hb 4 (by omega)]
  have out_congr : ∀ {s t : Nat → Int}, (∀ i, i < 5 → s i = t i) → outW s = outW t := fun {s t} h => by
    unfold outW
    apply List.map_congr_left
    intro j hj
    have hj := List.mem_range.1 hj
    unfold oI
    rw [h 0 (by omega), h 1 (by omega), h 2 (by omega), h 3 (by omega), h 4 (by omega)]
  have cb_congr : ∀ {s t : Nat → Int}, (∀ i, i < 5 → s i = t i) → cB s = cB t := fun {s t} h => by
    have : ∀ i, i < 5 → bI s i = bI t i := by
      intro i
      induction i with
      | zero => intro hi; simp only [bI]; rw [h 0 hi]
      | succ i ih => intro hi; simp only [bI]; rw [h (i + 1) hi, ih (by omega)]
    unfold cB; rw [this 4 (by omega)]
  have p1 : leB 9223372036854775807 (cellsI .u64 5 x) = true := leB_iff.2 h
  have p2 : leB 9223372036854775807 (cellsI .u64 5 (carE (wd (cellsI .u64 5 x)))) = true := leB_iff.2 fun i hi => by have := h2 i hi; rwa [wd_cellsI hi] at this
  obtain ⟨ot, of⟩ := out_least h
  cases hc : cB (carE (carE x)) with
  | true =>
    obtain ⟨o1, o2⟩ := ot hc
    have := acalls_of_evFC (consC (carry24 M) (consC (I40_s M).c nilC)) mix Try.func26 (r26t M x) (held_cons p1 (held_cons p2 (held_cons (hcb.trans hc) (held_one ((cb_congr em).trans o1)))))
    rw [out_congr em, o2] at this
    exact this
  | false =>
    have := acalls_of_evFC (consC (carry24 M) (consC (I40_s M).c nilC)) mix Try.func26 (r26f M x) (held_cons p1 (held_cons p2 (held_cons (hcb.trans hc) (held_one (hcb.trans hc)))))
    rw [out_congr ey, of hc] at this
    exact this

def bytesSum (f : FuncId) : Sum :=
  { f := f, ro := true
    S := fun args os => match args, os with
      | [.agg ⟨A⟩], [] => if isE A then some (.agg ⟨bytesN (val B51 (wd A) 5 % pF)⟩, [], []) else none
      | _, _ => none
    C := fun args _ => match args with
      | [.agg ⟨A⟩] => [(leB 9223372036854775807 A, true)]
      | _ => [] }

theorem bytesS26 (M : Mem) : (bytesSum 26).SoundC Try.prog M := sumC_sound Try.func26 (by kernel_rfl) (by kernel_rfl) fun args os v os' ns hs hp => by
  simp only [bytesSum] at hs hp ⊢
  split at hs
  · rename_i A
    split at hs
    · rename_i hA
      cases hs
      have hb : leB 9223372036854775807 A = true := hp (leB 9223372036854775807 A, true) (List.Mem.head _)
      have := bytes26 M (wd A) (leB_bd hA hb)
      rw [← isE_eq hA] at this
      exact ⟨this, fun _ => rfl⟩
    · cases hs
  · cases hs

/-- A function of two elements. -/
def opESum (f : FuncId) (op : (Nat → Int) → (Nat → Int) → Nat → Int) : Sum :=
  { f := f, ro := true
    S := fun args os => match args, os with
      | [.agg ⟨A⟩, .agg ⟨B⟩], [] => if isE A && isE B then some (.agg ⟨cellsI .u64 5 (op (wd A) (wd B))⟩, [], []) else none
      | _, _ => none
    C := fun args _ => match args with
      | [.agg ⟨A⟩, .agg ⟨B⟩] => [(leB RB A && leB RB B, true)]
      | _ => [] }

theorem opESum_sound {M : Mem} {f : FuncId} {fn : Func} {op : (Nat → Int) → (Nat → Int) → Nat → Int} (hf : Try.prog.funcs[f]? = some fn) (hn : (fn.name == "runtime.NumGoroutine") = false) (hb : fn.body.isSome = true)
    (h : ∀ x y : Nat → Int, Bd RB x → Bd RB y → ACalls Try.prog M f [.agg ⟨cellsI .u64 5 x⟩, .agg ⟨cellsI .u64 5 y⟩] [] (.agg ⟨cellsI .u64 5 (op x y)⟩) [] []) :
    (opESum f op).SoundC Try.prog M := sumC_sound hf hn hb fun args os v os' ns hs hp => by
  simp only [opESum] at hs hp ⊢
  split at hs
  · rename_i A B
    split at hs
    · rename_i hA
      cases hs
      simp only [Bool.and_eq_true] at hA
      have hb : (leB RB A && leB RB B) = true := hp (leB RB A && leB RB B, true) (List.Mem.head _)
      simp only [Bool.and_eq_true] at hb
      have := h (wd A) (wd B) (leB_bd hA.1 hb.1) (leB_bd hA.2 hb.2)
      rw [← isE_eq hA.1, ← isE_eq hA.2] at this
      exact ⟨this, fun _ => rfl⟩
    · cases hs
  · cases hs

theorem mul25 (M : Mem) : (opESum 25 mulE).SoundC Try.prog M := opESum_sound Try.func25 (by kernel_rfl) (by kernel_rfl) fun x y hx hy => by
  have := acalls_of_evFC (consC (carry24 M) (consC (plus37 M) (consC (mul39 M) (consC (add38 M) nilC)))) mix Try.func25 (r25 M x y) (mulPins_held hx hy)
  rw [mulL_mulR hx hy] at this
  exact this

end Go.Proofs.Ytjdckgnpocnifaa
