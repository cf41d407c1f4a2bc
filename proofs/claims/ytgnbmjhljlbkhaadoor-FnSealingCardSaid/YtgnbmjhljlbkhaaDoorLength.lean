/- Drawn lengths, and the size that the draws allow; a copy of a slice.
   Conditions: none. -/
import Derived.Test.YtgnbmjhljlbkhaaDoorBytes
import Derived.Test.YtgnbmjhljlbkhaaDoorSeal
open Go.Ab Go.Num
set_option linter.unusedVariables false
set_option linter.unusedSimpArgs false
namespace Go.Proofs.YtgnbmjhljlbkhaaDoor

/-! ### spec.l1Length, spec.L1Length -/
def tab12 : List Value := [.int .i64 0, .int .i64 1, .int .i64 31, .int .i64 32, .int .i64 33, .int .i64 63, .int .i64 64, .int .i64 65, .int .i64 127, .int .i64 128, .int .i64 129, .int .i64 192]
def at12 (v : Int) : Int := vint (atC tab12 (0 + v.toNat * 1))
def pinA (M : Mem) (u : Option (Nat × Nat)) (n : Nat) (p : Int × Int) : Pins :=
  dPin M (srcA u) (lenS u n) p 3 ++ ((nK 3 (drawC M (srcA u) (lenS u n) p 1).1 == 0, true) :: (dPin M (srcA u) (lenS u n) (drawC M (srcA u) (lenS u n) p 1) 12 ++
    [(inB (nK 12 (drawC M (srcA u) (lenS u n) p 2).1) 12, true), (ldB .i64 ⟨tab12, true, 1, true⟩ 12 (0 + (nK 12 (drawC M (srcA u) (lenS u n) p 2).1).toNat * 1), true)]))
def pinB (M : Mem) (u : Option (Nat × Nat)) (n : Nat) (p : Int × Int) (k : Int) : Pins :=
  dPin M (srcA u) (lenS u n) p 3 ++ ((nK 3 (drawC M (srcA u) (lenS u n) p 1).1 == 0, false) :: dPin M (srcA u) (lenS u n) (drawC M (srcA u) (lenS u n) p 1) (IntKind.i64.wrap (k + 1)))
set_option maxRecDepth 100000 in
theorem r56sa (M : Mem) (b off n c : Nat) (i x k : Int) (g : Bool) (e : Nat) : evFU Tryd.prog M (ovX Tryd.prog M) [14, 15] [] [nSumG M 39, oneSumG M 55] [7] 300 Tryd.f56 [.pointer (some ⟨0, 0, some 3⟩), .int .i64 k] [⟨[.slice (some ⟨b, off, none⟩) n c, .int .i64 i, .int .u64 x], g, e, false⟩] [true]
   = some ((.int .i64 (at12 (nK 12 (drawC M (some ⟨b, off, none⟩) n (x, i) 2).1)), [⟨srcC (some (b, off)) n c (drawC M (some ⟨b, off, none⟩) n (x, i) 2).2 (drawC M (some ⟨b, off, none⟩) n (x, i) 2).1, g, e, false⟩], []), pinA M (some (b, off)) n (x, i)) := by kernel_rfl
set_option maxRecDepth 100000 in
theorem r56sb (M : Mem) (b off n c : Nat) (i x k : Int) (g : Bool) (e : Nat) : evFU Tryd.prog M (ovX Tryd.prog M) [14, 15] [] [nSumG M 39, oneSumG M 55] [7] 300 Tryd.f56 [.pointer (some ⟨0, 0, some 3⟩), .int .i64 k] [⟨[.slice (some ⟨b, off, none⟩) n c, .int .i64 i, .int .u64 x], g, e, false⟩] [false]
   = some ((.int .i64 (nK (IntKind.i64.wrap (k + 1)) (drawC M (some ⟨b, off, none⟩) n (x, i) 2).1), [⟨srcC (some (b, off)) n c (drawC M (some ⟨b, off, none⟩) n (x, i) 2).2 (drawC M (some ⟨b, off, none⟩) n (x, i) 2).1, g, e, false⟩], []), pinB M (some (b, off)) n (x, i) k) := by kernel_rfl
set_option maxRecDepth 100000 in
theorem r56za (M : Mem) (i x k : Int) (g : Bool) (e : Nat) : evFU Tryd.prog M (ovX Tryd.prog M) [14, 15] [] [nSumG M 39, oneSumG M 55] [7] 300 Tryd.f56 [.pointer (some ⟨0, 0, some 3⟩), .int .i64 k] [⟨[.slice none 0 0, .int .i64 i, .int .u64 x], g, e, false⟩] [true]
   = some ((.int .i64 (at12 (nK 12 (drawC M none 0 (x, i) 2).1)), [⟨srcC none 0 0 (drawC M none 0 (x, i) 2).2 (drawC M none 0 (x, i) 2).1, g, e, false⟩], []), pinA M none 0 (x, i)) := by kernel_rfl
set_option maxRecDepth 100000 in
theorem r56zb (M : Mem) (i x k : Int) (g : Bool) (e : Nat) : evFU Tryd.prog M (ovX Tryd.prog M) [14, 15] [] [nSumG M 39, oneSumG M 55] [7] 300 Tryd.f56 [.pointer (some ⟨0, 0, some 3⟩), .int .i64 k] [⟨[.slice none 0 0, .int .i64 i, .int .u64 x], g, e, false⟩] [false]
   = some ((.int .i64 (nK (IntKind.i64.wrap (k + 1)) (drawC M none 0 (x, i) 2).1), [⟨srcC none 0 0 (drawC M none 0 (x, i) 2).2 (drawC M none 0 (x, i) 2).1, g, e, false⟩], []), pinB M none 0 (x, i) k) := by kernel_rfl

theorem at12_range {v : Int} (h0 : 0 ≤ v) (h1 : v < 12) : (0 ≤ at12 v ∧ at12 v ≤ 300) ∧ inB v 12 = true ∧ ldB .i64 ⟨tab12, true, 1, true⟩ 12 (0 + v.toNat * 1) = true := by
  obtain ⟨j, rfl⟩ := Int.eq_ofNat_of_zero_le h0
  have hj : j < 12 := by omega
  match j, hj with
  | 0, _ => decide
  | 1, _ => decide
  | 2, _ => decide
  | 3, _ => decide
  | 4, _ => decide
  | 5, _ => decide
  | 6, _ => decide
  | 7, _ => decide
  | 8, _ => decide
  | 9, _ => decide
  | 10, _ => decide
  | 11, _ => decide

def LenP (P : Program) (M : Mem) (f : FuncId) (u : Option (Nat × Nat)) (n c : Nat) (g : Bool) (e : Nat) (p : Int × Int) (k : Int) (r : Int × (Int × Int)) : Prop :=
  (0 ≤ r.1 ∧ r.1 ≤ 300) ∧ 0 ≤ r.2.2 ∧ ACalls P M f [.pointer (some ⟨0, 0, some 3⟩), .int .i64 k] [⟨srcC u n c p.2 p.1, g, e, false⟩] (.int .i64 r.1) [⟨srcC u n c r.2.2 r.2.1, g, e, false⟩] []
noncomputable def lenR (P : Program) (M : Mem) (f : FuncId) (u : Option (Nat × Nat)) (n c : Nat) (g : Bool) (e : Nat) (p : Int × Int) (k : Int) : Int × (Int × Int) :=
  @Classical.epsilon (Int × (Int × Int)) ⟨(0, (0, 0))⟩ (LenP P M f u n c g e p k)
noncomputable def lenSumG (P : Program) (M : Mem) (f : FuncId) : Sum :=
  { f := f, ro := false
    S := fun args os => match args, os with
      | [.pointer (some ⟨0, 0, some 3⟩), .int .i64 k], [⟨[.slice (some ⟨b, off, none⟩) n c, .int .i64 i, .int .u64 x], g, e, false⟩] =>
          some (.int .i64 (lenR P M f (some (b, off)) n c g e (x, i) k).1, [⟨[.slice (some ⟨b, off, none⟩) n c, .int .i64 (lenR P M f (some (b, off)) n c g e (x, i) k).2.2, .int .u64 (lenR P M f (some (b, off)) n c g e (x, i) k).2.1], g, e, false⟩], [])
      | [.pointer (some ⟨0, 0, some 3⟩), .int .i64 k], [⟨[.slice none 0 0, .int .i64 i, .int .u64 x], g, e, false⟩] =>
          some (.int .i64 (lenR P M f none 0 0 g e (x, i) k).1, [⟨[.slice none 0 0, .int .i64 (lenR P M f none 0 0 g e (x, i) k).2.2, .int .u64 (lenR P M f none 0 0 g e (x, i) k).2.1], g, e, false⟩], [])
      | _, _ => none
    C := fun args os => match args, os with
      | [_, .int .i64 k], [⟨[.slice u n c, .int .i64 i, .int .u64 x], g, e, false⟩] => [(srcOk M u n i, true), (decide (0 ≤ k ∧ k ≤ 300), true)]
      | _, _ => [] }
def LenX (P : Program) (M : Mem) (f : FuncId) : Prop := ∀ (u : Option (Nat × Nat)) (n c : Nat) (g : Bool) (e : Nat) (p : Int × Int) (k : Int), srcOk M (srcA u) (lenS u n) p.2 = true → 0 ≤ k ∧ k ≤ 300 → ∃ r, LenP P M f u n c g e p k r
theorem lenR_ok {P : Program} {M : Mem} {f : FuncId} (hx : LenX P M f) {u : Option (Nat × Nat)} {n c : Nat} {g : Bool} {e : Nat} {p : Int × Int} {k : Int} (h : srcOk M (srcA u) (lenS u n) p.2 = true) (hk : 0 ≤ k ∧ k ≤ 300) :
    LenP P M f u n c g e p k (lenR P M f u n c g e p k) := Classical.epsilon_spec (hx u n c g e p k h hk)
theorem lenSumG_sound {P : Program} {M : Mem} {f : FuncId} {fn : Func} (hf : P.funcs[f]? = some fn) (hn : (fn.name == "runtime.NumGoroutine") = false) (hb : fn.body.isSome = true) (hx : LenX P M f) : (lenSumG P M f).SoundC P M := by
  refine sumC_sound hf hn hb fun args os v os' ns hs hp => ?_
  simp only [lenSumG] at hs hp ⊢
  split at hs
  · rename_i k b off n c i x g e
    cases hs
    have h1 : srcOk M (some ⟨b, off, none⟩) n i = true := hp (_, true) (List.Mem.head _)
    have h2 := hp (_, true) (List.Mem.tail _ (List.Mem.head _))
    exact ⟨(lenR_ok hx (u := some (b, off)) (c := c) (g := g) (e := e) (p := (x, i)) h1 (of_decide_eq_true h2)).2.2, fun h => by cases h⟩
  · rename_i k i x g e
    cases hs
    have h1 : srcOk M none 0 i = true := hp (_, true) (List.Mem.head _)
    have h2 := hp (_, true) (List.Mem.tail _ (List.Mem.head _))
    exact ⟨(lenR_ok hx (u := none) (n := 0) (c := 0) (g := g) (e := e) (p := (x, i)) h1 (of_decide_eq_true h2)).2.2, fun h => by cases h⟩
  · cases hs

theorem l56_x (M : Mem) : LenX Tryd.prog M 56 := fun u n c g e p k h hk => by
  obtain ⟨x, i⟩ := p
  obtain ⟨h1, h2, h3⟩ := srcOk_iff.1 h
  have hl : ∀ s ∈ [nSumG M 39, oneSumG M 55], s.SoundC Tryd.prog M := consC (dN M) (consC (dO M) nilC)
  have hD : ∀ j, 0 ≤ (drawC M (srcA u) (lenS u n) (x, i) j).2 := fun j => drawC_ok h2 h3 j
  have hw : IntKind.i64.wrap (k + 1) = k + 1 := Ab.wrap_i64 (by omega) (by omega)
  by_cases q : (nK 3 (drawC M (srcA u) (lenS u n) (x, i) 1).1 == 0) = true
  · obtain ⟨r0, r1⟩ := nK_range (k := 12) (drawC_x (M := M) (u := srcA u) (n := lenS u n) (p := (x, i)) 1) (by decide) (by decide)
    obtain ⟨a1, a2, a3⟩ := at12_range r0 r1
    have hp : Held (pinA M u n (x, i)) := held_two (dPin_held h1 (hD 0) (by decide)) (held_cons q (held_two (dPin_held h1 (hD 1) (by decide)) (held_cons a2 (held_one a3))))
    cases u with
    | some a => obtain ⟨b, off⟩ := a; exact ⟨(_, (_, _)), a1, hD 2, acalls_of_evFU (ovX_ok _ _) hl mix Tryd.func56 (hooksOk_nil _) (r56sa M b off n c i x k g e) hp⟩
    | none => exact ⟨(_, (_, _)), a1, hD 2, acalls_of_evFU (ovX_ok _ _) hl mix Tryd.func56 (hooksOk_nil _) (r56za M i x k g e) hp⟩
  · obtain ⟨r0, r1⟩ := nK_range (k := IntKind.i64.wrap (k + 1)) (drawC_x (M := M) (u := srcA u) (n := lenS u n) (p := (x, i)) 1) (by omega) (by omega)
    have hr : 0 ≤ nK (IntKind.i64.wrap (k + 1)) (drawC M (srcA u) (lenS u n) (x, i) 2).1 ∧ nK (IntKind.i64.wrap (k + 1)) (drawC M (srcA u) (lenS u n) (x, i) 2).1 ≤ 300 := ⟨r0, by
      have r2 : nK (IntKind.i64.wrap (k + 1)) (drawC M (srcA u) (lenS u n) (x, i) 2).1 < IntKind.i64.wrap (k + 1) := r1
      omega⟩
    have hp : Held (pinB M u n (x, i) k) := held_two (dPin_held h1 (hD 0) (by decide)) (held_cons (by simpa using q) (dPin_held h1 (hD 1) (by omega)))
    cases u with
    | some a => obtain ⟨b, off⟩ := a; exact ⟨(_, (_, _)), hr, hD 2, acalls_of_evFU (ovX_ok _ _) hl mix Tryd.func56 (hooksOk_nil _) (r56sb M b off n c i x k g e) hp⟩
    | none => exact ⟨(_, (_, _)), hr, hD 2, acalls_of_evFU (ovX_ok _ _) hl mix Tryd.func56 (hooksOk_nil _) (r56zb M i x k g e) hp⟩
theorem l56 (M : Mem) : (lenSumG Tryd.prog M 56).SoundC Tryd.prog M := lenSumG_sound Tryd.func56 (by kernel_rfl) (by kernel_rfl) (l56_x M)

set_option maxRecDepth 100000 in
theorem r36s (M : Mem) (b off n c : Nat) (i x k : Int) (g : Bool) (e : Nat) : evFC Tryd.prog M [lenSumG Tryd.prog M 56] [] 300 Tryd.f36 [.pointer (some ⟨0, 0, some 3⟩), .int .i64 k] [⟨[.slice (some ⟨b, off, none⟩) n c, .int .i64 i, .int .u64 x], g, e, false⟩] []
   = some ((.int .i64 (lenR Tryd.prog M 56 (some (b, off)) n c g e (x, i) k).1, [⟨srcC (some (b, off)) n c (lenR Tryd.prog M 56 (some (b, off)) n c g e (x, i) k).2.2 (lenR Tryd.prog M 56 (some (b, off)) n c g e (x, i) k).2.1, g, e, false⟩], []), [(srcOk M (some ⟨b, off, none⟩) n i, true), (decide (0 ≤ k ∧ k ≤ 300), true)]) := by kernel_rfl
set_option maxRecDepth 100000 in
theorem r36z (M : Mem) (i x k : Int) (g : Bool) (e : Nat) : evFC Tryd.prog M [lenSumG Tryd.prog M 56] [] 300 Tryd.f36 [.pointer (some ⟨0, 0, some 3⟩), .int .i64 k] [⟨[.slice none 0 0, .int .i64 i, .int .u64 x], g, e, false⟩] []
   = some ((.int .i64 (lenR Tryd.prog M 56 none 0 0 g e (x, i) k).1, [⟨srcC none 0 0 (lenR Tryd.prog M 56 none 0 0 g e (x, i) k).2.2 (lenR Tryd.prog M 56 none 0 0 g e (x, i) k).2.1, g, e, false⟩], []), [(srcOk M none 0 i, true), (decide (0 ≤ k ∧ k ≤ 300), true)]) := by kernel_rfl
theorem l36_x (M : Mem) : LenX Tryd.prog M 36 := fun u n c g e p k h hk => by
  obtain ⟨x, i⟩ := p
  have q : decide (0 ≤ k ∧ k ≤ 300) = true := decide_eq_true hk
  cases u with
  | some a =>
    obtain ⟨b, off⟩ := a
    obtain ⟨a1, a2, _⟩ := lenR_ok (l56_x M) (u := some (b, off)) (n := n) (c := c) (g := g) (e := e) (p := (x, i)) h hk
    exact ⟨(_, (_, _)), a1, a2, acalls_of_evFC (consC (l56 M) nilC) mix Tryd.func36 (r36s M b off n c i x k g e) (held_cons h (held_one q))⟩
  | none =>
    obtain ⟨a1, a2, _⟩ := lenR_ok (l56_x M) (u := none) (n := 0) (c := 0) (g := g) (e := e) (p := (x, i)) h hk
    exact ⟨(_, (_, _)), a1, a2, acalls_of_evFC (consC (l56 M) nilC) mix Tryd.func36 (r36z M i x k g e) (held_cons h (held_one q))⟩
theorem l36 (M : Mem) : (lenSumG Tryd.prog M 36).SoundC Tryd.prog M := lenSumG_sound Tryd.func36 (by kernel_rfl) (by kernel_rfl) (l36_x M)

/-! ### spec.L1Size -/
def szW (n : Nat) : Int := IntKind.i64.wrap (2 + IntKind.i64.wrap ((n : Int).tdiv 2))
/-- The greatest length that is drawn. -/
def szV (n : Nat) : Int := bif decide (szW n > 300) then 300 else szW n
theorem szV_range {n : Nat} (h : n ≤ 1048576) : 0 ≤ szV n ∧ szV n ≤ 300 := by
  have e : szW n = 2 + (n : Int) / 2 := by
    unfold szW
    rw [Int.tdiv_eq_ediv_of_nonneg (by omega), Ab.wrap_i64 (n := (n : Int) / 2) (by omega) (by omega), Ab.wrap_i64 (by omega) (by omega)]
  unfold szV
  by_cases hs : szW n > 300
  · rw [decide_eq_true hs, cond_true]; exact ⟨by decide, by decide⟩
  · rw [decide_eq_false hs, cond_false]; omega

/-- How long the slice is decides. -/
def szSum (f : FuncId) : Sum :=
  { f := f, ro := true
    S := fun args os => match args, os with
      | [.slice (some ⟨_, _, none⟩) n _, .int .i64 300], [] => some (.int .i64 (szV n), [], [])
      | [.slice none 0 0, .int .i64 300], [] => some (.int .i64 2, [], [])
      | _, _ => none }
set_option maxRecDepth 100000 in
theorem r37a (M : Mem) (b off n c : Nat) : evFC Tryd.prog M [] [12] 300 Tryd.f37 [.slice (some ⟨b, off, none⟩) n c, .int .i64 300] [] [true] = some ((.int .i64 300, [], []), [(decide (szW n > 300), true)]) := by kernel_rfl
set_option maxRecDepth 100000 in
theorem r37b (M : Mem) (b off n c : Nat) : evFC Tryd.prog M [] [12] 300 Tryd.f37 [.slice (some ⟨b, off, none⟩) n c, .int .i64 300] [] [false] = some ((.int .i64 (szW n), [], []), [(decide (szW n > 300), false)]) := by kernel_rfl
set_option maxRecDepth 100000 in
theorem r37z (M : Mem) : evFC Tryd.prog M [] [] 300 Tryd.f37 [.slice none 0 0, .int .i64 300] [] [] = some ((.int .i64 2, [], []), []) := by kernel_rfl
theorem size37 (M : Mem) : (szSum 37).SoundC Tryd.prog M := sumC_sound Tryd.func37 (by kernel_rfl) (by kernel_rfl) fun args os v os' ns hs hp => by
  simp only [szSum] at hs hp ⊢
  split at hs
  · rename_i b off n c
    cases hs
    refine ⟨?_, fun _ => rfl⟩
    unfold szV
    by_cases h : szW n > 300
    · rw [decide_eq_true h, cond_true]
      exact acalls_of_evFC nilC mix Tryd.func37 (r37a M b off n c) (held_one (decide_eq_true h))
    · rw [decide_eq_false h, cond_false]
      exact acalls_of_evFC nilC mix Tryd.func37 (r37b M b off n c) (held_one (decide_eq_false h))
  · cases hs
    exact ⟨acalls_of_evFC nilC mix Tryd.func37 (r37z M) held_nil, fun _ => rfl⟩
  · cases hs

/-! ### laws.cp -/
def copyB (X : List Value) (s f n c : Nat) : Bool := dataB X s f n c && Nat.ble n 1048576
def cpSum (f : FuncId) : Sum :=
  { f := f, ro := true
    S := fun args os => match args, os with
      | [.slice (some ⟨0, f, some s⟩) n c], [⟨X, true, 1, true⟩] => some (.slice (some ⟨1, 0, some n⟩) n n, [⟨X, true, 1, true⟩], [⟨cellsI .u8 n (fun i => wd X (f + i)), true, 1, true⟩])
      | _, _ => none
    C := fun args os => match args, os with
      | [.slice (some ⟨0, f, some s⟩) n c], [⟨X, _, _, _⟩] => [(copyB X s f n c, true)]
      | _, _ => [] }
set_option maxRecDepth 100000 in
theorem r38 (M : Mem) (f s n c : Nat) (X : List Value) : evFU Tryd.prog M (ovX Tryd.prog M) [5] [] [] [] 300 Tryd.f38 [.slice (some ⟨0, f, some s⟩) n c] [⟨X, true, 1, true⟩] []
   = some ((.slice (some ⟨1, 0, some ((0 + n) * 1)⟩) (0 + n) (0 + n), [⟨X, true, 1, true⟩], [⟨[] ++ (X.drop f).take (n * 1), true, 1, true⟩]), [(room (0 + n) 1 && (decide (X.length = s) && (decide (f + n * 1 ≤ s) && decide (n ≤ n))), true)]) := by kernel_rfl
theorem cp38 (M : Mem) : (cpSum 38).SoundC Tryd.prog M := sumC_sound Tryd.func38 (by kernel_rfl) (by kernel_rfl) fun args os v os' ns hs hp => by
  simp only [cpSum] at hs hp ⊢
  split at hs
  · rename_i f s n c X
    cases hs
    have h : copyB X s f n c = true := hp (copyB X s f n c, true) (List.Mem.head _)
    have h2 := Bool.and_eq_true_iff.1 h
    have hn := Nat.le_of_ble_eq_true h2.2
    obtain ⟨hl, hs2, _, _, _⟩ := dataB_iff.1 h2.1
    have := acalls_of_evFU (ovX_ok _ _) nilC mix Tryd.func38 (hooksOk_nil _) (r38 M f s n c X) (held_one (by
      simp only [room, Bool.and_eq_true, decide_eq_true_eq]; exact ⟨by omega, hl, by omega, by omega⟩))
    rw [List.nil_append, drop_take h2.1, Nat.zero_add, Nat.mul_one] at this
    exact ⟨this, fun _ => rfl⟩
  · cases hs

end Go.Proofs.YtgnbmjhljlbkhaaDoor
